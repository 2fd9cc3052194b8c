/-
  The walks through glob.First and glob.Any, and through the reference's Check, Plain and Least.
-/
import Derived.Test.YthcbplameonjlaaGlobN
namespace Go.Proofs.Ythcbplameonjlaa
open Go.RowKit

def firstI (l : List ByteArray) (s : ByteArray) : Int := match l.findIdx? fun p => G.mt (bs p) (bs s) with | some i => i | none => -1
def NoneYet (l : List ByteArray) (s : ByteArray) (k : Nat) : Prop := ∀ j x, l[j]? = some x → j < k → G.mt (bs x) (bs s) = false
theorem NoneYet.zero (l : List ByteArray) (s : ByteArray) : NoneYet l s 0 := fun j _ _ h => by omega
theorem NoneYet.succ {l : List ByteArray} {s : ByteArray} {k : Nat} {x : ByteArray} (h : NoneYet l s k) (hx : l[k]? = some x) (hm : G.mt (bs x) (bs s) = false) : NoneYet l s (k + 1) := fun j y hy hj => by
  rcases Nat.lt_or_ge j k with h1 | h1
  · exact h j y hy h1
  · obtain rfl : j = k := by omega
    rw [hx] at hy; cases hy; exact hm
theorem firstI_some {l : List ByteArray} {s : ByteArray} {k : Nat} {x : ByteArray} (h : NoneYet l s k) (hx : l[k]? = some x) (hm : G.mt (bs x) (bs s) = true) : firstI l s = k := by
  have : l.findIdx? (fun p => G.mt (bs p) (bs s)) = some k := by
    rw [List.findIdx?_eq_some_iff_getElem]
    obtain ⟨hk, hx'⟩ := List.getElem?_eq_some_iff.1 hx
    refine ⟨hk, by rw [hx']; exact hm, fun j hj => ?_⟩
    rw [h j _ (List.getElem?_eq_getElem (by omega)) hj]; simp
  unfold firstI; rw [this]
theorem firstI_none {l : List ByteArray} {s : ByteArray} (h : NoneYet l s l.length) : firstI l s = -1 := by
  have : l.findIdx? (fun p => G.mt (bs p) (bs s)) = none := by
    rw [List.findIdx?_eq_none_iff]
    intro x hx
    obtain ⟨j, hj, rfl⟩ := List.mem_iff_getElem.1 hx
    exact h j _ (List.getElem?_eq_getElem hj) hj
  unfold firstI; rw [this]
theorem firstI_bd (l : List ByteArray) (s : ByteArray) : -1 ≤ firstI l s := by unfold firstI; split <;> omega
def FirstInv (w : World) (l : List ByteArray) (s : ByteArray) (i : Value) (wr : World) : Prop := ∃ k : Nat, k ≤ l.length ∧ i = .int .i64 k ∧ NoneYet l s k ∧ Below w.heap.size w wr
/-- all strings of a list are short -/
def Short (l : List ByteArray) : Prop := ∀ x ∈ l, x.size ≤ 1000000

set_option maxHeartbeats 400000 in
theorem first_any (A : Option Addr) (n c : Nat) (l : List ByteArray) (s : ByteArray) (w : World) (hr : Strs w A n l) (hn : n ≤ 1000000) (hs : s.size ≤ 1000000) (hx : Short l) :
    Calls Try.prog 37 #[.slice A n c, .string s] w (Ret w (.int .i64 (firstI l s))) := by
  have HL := Lib.hid hr.length
  go_enter Try.func37, Try.ntmps37
  go_wp2
  go_loopw [9] (fun i wr => FirstInv w l s i wr) (fun i _ => n - (intOf i).toNat)
  case atStart => exact ⟨0, by omega, rfl, NoneYet.zero l s, Below.refl _ _⟩
  case round =>
    obtain ⟨k, hk, rfl, hb, hbw⟩ := hrel
    by_cases hlt : k < n
    · obtain ⟨ad, x, rfl, hadb, hu, hc⟩ := (hr.on hbw).at_ hlt
      have HXk := Lib.hid hu; clear hu
      have hk1 : k + 1 ≤ l.length := by have := HL.out; omega
      go_wp2_with fail
      refine (match_any x s wr (hx x (List.mem_of_getElem? HXk.out)) hs).mono ?_
      rintro e w1 ⟨rfl, hb1⟩
      have hbw1 := below_then hbw hb1
      cases hm : G.mt (bs x) (bs s)
      · have HM := Lib.hid hm; clear hm
        go_wp2_with fail
        exact ⟨⟨k + 1, hk1, by go_num, hb.succ HXk.out HM.out, hbw1⟩, by simp [intOf]; omega⟩
      · have HM := Lib.hid hm; clear hm
        go_wp2_with fail
        go_ret
        exact ⟨ret_int (firstI_some hb HXk.out HM.out).symm, hbw1⟩
    · go_wp2_with fail
      go_ret
      exact ⟨ret_int (firstI_none (by have := HL.out; rwa [show l.length = k from by omega])).symm, hbw⟩

def anyI (l : List ByteArray) (s : ByteArray) : Bool := decide (0 ≤ firstI l s)
set_option maxHeartbeats 400000 in
theorem any_any (A : Option Addr) (n c : Nat) (l : List ByteArray) (s : ByteArray) (w : World) (hr : Strs w A n l) (hn : n ≤ 1000000) (hs : s.size ≤ 1000000) (hx : Short l) :
    Calls Try.prog 20 #[.slice A n c, .string s] w (Ret w (.bool (anyI l s))) := by
  go_enter Try.func20, Try.ntmps20
  go_wp2_with fail
  refine (first_any A n c l s w hr hn hs hx).mono ?_
  rintro e w1 ⟨rfl, hb1⟩
  go_wp2_with fail
  go_ret
  exact ⟨ret_bool (by unfold anyI; rfl), hb1⟩

/-! ### the reference -/
set_option maxHeartbeats 400000 in
theorem rcheck_any (s : ByteArray) (w : World) (hs : s.size ≤ maxLen) :
    Calls Try.prog 59 #[.string s] w (Ret w (.int .i64 (G.chk (bs s)))) := by
  unfold maxLen at hs
  by_cases h0 : s.size = 0
  · have hc := chk_empty h0
    have h0' : ((s.size : Int) == 0) = true := eqT (by omega)
    go_enter Try.func59, Try.ntmps59
    go_wp2
    go_ret
    exact ⟨ret_int hc.symm, Below.refl _ _⟩
  have h0' : ((s.size : Int) == 0) = false := eqF (by omega)
  by_cases h1 : 64 < s.size
  · have hc := chk_long h1
    go_enter Try.func59, Try.ntmps59
    go_wp2
    go_ret
    exact ⟨ret_int hc.symm, Below.refl _ _⟩
  have h1 : s.size ≤ 64 := by omega
  go_enter Try.func59, Try.ntmps59
  go_wp2
  go_loop [3] (fun i => ∃ k : Nat, k ≤ s.size ∧ i = .int .i64 k ∧ good s k) (fun i => s.size - (intOf i).toNat)
  case atStart => exact ⟨0, by omega, rfl, good_zero s⟩
  case round =>
    obtain ⟨k, hk, rfl, hb⟩ := hrel
    by_cases hlt : k < s.size
    · go_wp2
      · go_ret
        exact ⟨ret_int (chk_bad hlt (by omega) (by omega)).symm, Below.refl _ _⟩
      · exact ⟨⟨k + 1, by omega, by go_num, good_succ hb hlt (by omega) (by omega)⟩, by simp [intOf]; omega⟩
      · go_ret
        exact ⟨ret_int (chk_bad hlt (by omega) (by omega)).symm, Below.refl _ _⟩
    · obtain rfl : k = s.size := by omega
      go_wp2
      go_ret
      exact ⟨ret_int (chk_good hb h0 h1).symm, Below.refl _ _⟩