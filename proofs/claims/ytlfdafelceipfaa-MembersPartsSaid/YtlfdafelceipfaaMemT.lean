/-
  The walks through Move of the program and of the reference.
-/
import Derived.Test.YtlfdafelceipfaaMemU
namespace Go.Proofs.Ytlfdafelceipfaa
open Go.RowKit

/-- the set of the memberships from which a change to 'to' is possible -/
def fromsOf (to : Int) (self : Bool) : Int := if self then (if to = 0 then 14 else if to = 2 then 5 else if to = 3 then 15 else 0) else (if to = 0 then 30 else if to = 1 then 7 else if to = 4 then 31 else 0)
def moveB (f t : Int) (self : Bool) : Bool :=
  if f < 0 ∨ 4 < f then false
  else if t = 3 then self && f != 4
  else if t = 0 then f == 1 || f == 2 || f == 3 || (f == 4 && !self)
  else if t = 2 then self && (f == 0 || f == 2)
  else if t = 1 then !self && (f == 0 || f == 2 || f == 1)
  else if t = 4 then !self
  else false

set_option maxRecDepth 100000 in
set_option maxHeartbeats 2000000 in
theorem rmove_any (f t : Int) (b : Bool) (w : World) : Calls Try.prog 43 #[.int .i64 f, .int .i64 t, .bool b] w (Same w (.bool (moveB f t b))) := by
  by_cases h0 : f < 0
  · go_enter Try.func43, Try.ntmps43
    go_wp2_with fail
    go_ret
    exact ⟨ret_bool (by unfold moveB; rw [if_pos (.inl h0)]), rfl⟩
  by_cases h4 : 4 < f
  · go_enter Try.func43, Try.ntmps43
    go_wp2_with fail
    go_ret
    exact ⟨ret_bool (by unfold moveB; rw [if_pos (.inr h4)]), rfl⟩
  have hf : f = 0 ∨ f = 1 ∨ f = 2 ∨ f = 3 ∨ f = 4 := by omega
  by_cases ht : t = 0 ∨ t = 1 ∨ t = 2 ∨ t = 3 ∨ t = 4
  · clear h0 h4
    rcases hf with rfl | rfl | rfl | rfl | rfl <;> rcases ht with rfl | rfl | rfl | rfl | rfl <;> cases b
    all_goals
      go_enter Try.func43, Try.ntmps43
      go_wp2_with fail
      go_ret
      exact ⟨ret_bool (by decide), rfl⟩
  · have t0 : (t == 0) = false := eqF (by omega)
    have t1 : (t == 1) = false := eqF (by omega)
    have t2 : (t == 2) = false := eqF (by omega)
    have t3 : (t == 3) = false := eqF (by omega)
    have t4 : (t == 4) = false := eqF (by omega)
    have HM : Hid (moveB f t b = false) := by
      show _ = _
      unfold moveB
      rw [if_neg (by omega), if_neg (by omega), if_neg (by omega), if_neg (by omega), if_neg (by omega), if_neg (by omega)]
    clear hf ht
    go_enter Try.func43, Try.ntmps43
    go_wp2_with fail
    go_ret
    exact ⟨ret_bool HM.out.symm, rfl⟩

set_option maxRecDepth 100000 in
set_option maxHeartbeats 4000000 in
theorem move_any (f t : Int) (b : Bool) (w : World) : Calls Try.prog 42 #[.int .i64 f, .int .i64 t, .bool b] w (Ret w (.bool (moveB f t b))) := by
  by_cases h0 : f < 0
  · go_enter Try.func42, Try.ntmps42
    go_wp2_with fail
    go_ret
    exact ⟨ret_bool (by unfold moveB; rw [if_pos (.inl h0)]), Below.refl _ _⟩
  by_cases h4 : 4 < f
  · go_enter Try.func42, Try.ntmps42
    go_wp2_with fail
    go_ret
    exact ⟨ret_bool (by unfold moveB; rw [if_pos (.inr h4)]), Below.refl _ _⟩
  have hf : f = 0 ∨ f = 1 ∨ f = 2 ∨ f = 3 ∨ f = 4 := by omega
  by_cases ht : t = 0 ∨ t = 1 ∨ t = 2 ∨ t = 3 ∨ t = 4
  · clear h0 h4
    rcases hf with rfl | rfl | rfl | rfl | rfl <;> rcases ht with rfl | rfl | rfl | rfl | rfl <;> cases b
    all_goals
      go_enter Try.func42, Try.ntmps42
      go_wp2_with fail
      go_quiet (fail)
      go_wp2_with fail
      go_ret
      exact ⟨ret_bool (by decide), below_drewN (below_alloc (below_alloc (below_alloc (Below.refl _ _) _) _) _) _⟩
  · have HM : Hid (moveB f t b = false) := by
      show _ = _
      unfold moveB
      rw [if_neg (by omega), if_neg (by omega), if_neg (by omega), if_neg (by omega), if_neg (by omega), if_neg (by omega)]
    have ht2 : t < 0 ∨ 4 < t := by omega
    clear hf ht
    rcases ht2 with ht2 | ht2
    all_goals
      go_enter Try.func42, Try.ntmps42
      go_wp2_with fail
      go_ret
      exact ⟨ret_bool HM.out.symm, Below.refl _ _⟩
end Go.Proofs.Ytlfdafelceipfaa
