/-
  The walks through identifies, User, Room, Server, ServerOf, LocalOf and the reference's colon, Local, Server, marked.
-/
import Derived.Test.YtbhkgdfmjkblcaaIdsU
namespace Go.Proofs.Ytbhkgdfmjkblcaa
open Go.RowKit

set_option maxHeartbeats 400000 in
theorem identifies_any (s ms : ByteArray) (w : World) (hs : s.size ≤ maxLen) : Calls Try.prog 74 #[.string s, .string ms] w (Quiet w (.int .i64 (I.errOf (spl (bs ms) (bs s)).isSome))) := by
  cases hv : spl (bs ms) (bs s)
  all_goals
    have HV := Lib.hid hv; clear hv
    go_enter Try.func74, Try.ntmps74
    go_wp2_with fail
    refine (split_any s ms w hs).mono ?_
    rintro e w1 ⟨rfl, n, rfl⟩
    rw [HV.out]
    simp only [SplV]
    go_wp2_with fail
    go_ret
    exact ⟨rfl, n, rfl⟩

set_option maxHeartbeats 400000 in
theorem user_any (s : ByteArray) (w : World) (hs : s.size ≤ maxLen) : Calls Try.prog 55 #[.string s] w (Quiet w (.int .i64 (I.errOf (I.userB (bs s))))) := by
  have HE : Hid (I.errOf (spl (bs ⟨#[64]⟩) (bs s)).isSome = I.errOf (I.userB (bs s))) := by show _ = _; rw [show bs ⟨#[64]⟩ = [64] from rfl, spl_one]; rfl
  go_enter Try.func55, Try.ntmps55
  go_wp2_with fail
  refine (identifies_any s _ w hs).mono ?_
  rintro e w1 ⟨rfl, n, rfl⟩
  rw [HE.out]
  go_wp2_with fail
  go_ret
  exact ⟨rfl, n, rfl⟩

/-! ### the reference -/
/-- how a byte is of a kind, in the tests' own spelling -/
theorem loc_ways {c : UInt8} (h : I.locC c = true) : I.letterB c = true ∨ (I.letterB c = false ∧ (c.toNat : Int) = 95) ∨ (I.letterB c = false ∧ ¬ (c.toNat : Int) = 95 ∧ (c.toNat : Int) = 46) ∨
    (I.letterB c = false ∧ ¬ (c.toNat : Int) = 95 ∧ ¬ (c.toNat : Int) = 46 ∧ (c.toNat : Int) = 45) ∨ (I.letterB c = false ∧ ¬ (c.toNat : Int) = 95 ∧ ¬ (c.toNat : Int) = 46 ∧ ¬ (c.toNat : Int) = 45 ∧ (c.toNat : Int) = 61) := by
  simp only [I.locC, I.locX, Bool.or_eq_true, beq_iff_eq] at h
  rcases h with h | ((h | h) | h) | h
  · exact .inl h
  all_goals (subst h; decide)
theorem loc_no {c : UInt8} (h : I.locC c = false) : I.letterB c = false ∧ ¬ (c.toNat : Int) = 95 ∧ ¬ (c.toNat : Int) = 46 ∧ ¬ (c.toNat : Int) = 45 ∧ ¬ (c.toNat : Int) = 61 := by
  simp only [I.locC, I.locX, Bool.or_eq_false_iff, beq_eq_false_iff_ne, ne_eq] at h
  obtain ⟨h0, ⟨⟨h1, h2⟩, h3⟩, h4⟩ := h
  exact ⟨h0, fun e => h1 (u8_is 95 e), fun e => h2 (u8_is 46 e), fun e => h3 (u8_is 45 e), fun e => h4 (u8_is 61 e)⟩
theorem srv_ways {c : UInt8} (h : I.srvC c = true) : I.letterB c = true ∨ (I.letterB c = false ∧ (c.toNat : Int) = 46) ∨ (I.letterB c = false ∧ ¬ (c.toNat : Int) = 46 ∧ (c.toNat : Int) = 45) := by
  simp only [I.srvC, I.srvX, Bool.or_eq_true, beq_iff_eq] at h
  rcases h with h | h | h
  · exact .inl h
  all_goals (subst h; decide)
theorem srv_no {c : UInt8} (h : I.srvC c = false) : I.letterB c = false ∧ ¬ (c.toNat : Int) = 46 ∧ ¬ (c.toNat : Int) = 45 := by
  simp only [I.srvC, I.srvX, Bool.or_eq_false_iff, beq_eq_false_iff_ne, ne_eq] at h
  obtain ⟨h0, h1, h2⟩ := h
  exact ⟨h0, fun e => h1 (u8_is 46 e), fun e => h2 (u8_is 45 e)⟩
end Go.Proofs.Ytbhkgdfmjkblcaa
