/-
  The walks through the reference's First and Any, and the laws GlobMatches, GlobFinds, GlobPlains.
-/
import Derived.Test.YtbdbhnmeainmfaaGlobR
import Derived.Test.YtbdbhnmeainmfaaGlobL
namespace Go.Proofs.Ytbdbhnmeainmfaa
open Go.RowKit

set_option maxHeartbeats 400000 in
theorem rfirst_any (A : Option Addr) (n c : Nat) (l : List ByteArray) (s : ByteArray) (w : World) (hr : Strs w A n l) (hn : n ≤ 1000000) (hs : s.size ≤ 1000000) (hx : Short l) :
    Calls Try.prog 25 #[.slice A n c, .string s] w (Ret w (.int .i64 (firstI l s))) := by
  have HL := Lib.hid hr.length
  go_enter Try.func25, Try.ntmps25
  go_wp2
  go_loopw [5] (fun i wr => FirstInv w l s i wr) (fun i _ => n - (intOf i).toNat)
  case atStart => exact ⟨0, by omega, rfl, NoneYet.zero l s, Below.refl _ _⟩
  case round =>
    obtain ⟨k, hk, rfl, hb, hbw⟩ := hrel
    by_cases hlt : k < n
    · obtain ⟨ad, x, rfl, hadb, hu, hc⟩ := (hr.on hbw).at_ hlt
      have HXk := Lib.hid hu; clear hu
      have hk1 : k + 1 ≤ l.length := by have := HL.out; omega
      go_wp2_with fail
      refine (rmatch_any x s wr (hx x (List.mem_of_getElem? HXk.out)) hs).mono ?_
      rintro e w1 ⟨rfl, hb1⟩
      have hbw1 := below_then hbw hb1
      cases hm : G.mt (bs x) (bs s)
      · have HM := Lib.hid hm; clear hm
        go_wp2_with fail
        exact ⟨⟨k + 1, hk1, by go_num, hb.succ HXk.out HM.out, hbw1⟩, by simp [intOf]; omega⟩
      · have HM := Lib.hid hm; clear hm
        go_wp2_with fail
        go_ret
        exact ⟨ret_int (firstI_some hb HXk.out HM.out).symm, hbw1⟩
    · go_wp2_with fail
      go_ret
      exact ⟨ret_int (firstI_none (by have := HL.out; rwa [show l.length = k from by omega])).symm, hbw⟩

set_option maxHeartbeats 400000 in
theorem rany_any (A : Option Addr) (n c : Nat) (l : List ByteArray) (s : ByteArray) (w : World) (hr : Strs w A n l) (hn : n ≤ 1000000) (hs : s.size ≤ 1000000) (hx : Short l) :
    Calls Try.prog 21 #[.slice A n c, .string s] w (Ret w (.bool (anyI l s))) := by
  go_enter Try.func21, Try.ntmps21
  go_wp2_with fail
  refine (rfirst_any A n c l s w hr hn hs hx).mono ?_
  rintro e w1 ⟨rfl, hb1⟩
  go_wp2_with fail
  go_ret
  exact ⟨ret_bool (by unfold anyI; rfl), hb1⟩

def LensInv (l : List ByteArray) (i : Value) : Prop := ∃ k : Nat, k ≤ l.length ∧ i = .int .i64 k ∧ ∀ j x, l[j]? = some x → j < k → x.size ≤ 100
theorem Lens.short {l : List ByteArray} (h : ∀ j x, l[j]? = some x → j < l.length → x.size ≤ 100) : Short l := fun x hx => by
  obtain ⟨j, hj, rfl⟩ := List.mem_iff_getElem.1 hx
  have := h j _ (List.getElem?_eq_getElem hj) hj
  omega
theorem Lens.step {l : List ByteArray} {k : Nat} {x : ByteArray} (h : ∀ j x, l[j]? = some x → j < k → x.size ≤ 100) (hx : l[k]? = some x) (hs : x.size ≤ 100) : LensInv l (.int .i64 ((k : Int) + 1)) :=
  ⟨k + 1, (List.getElem?_eq_some_iff.1 hx).1, by go_num, fun j y hy hj => by
    rcases Nat.lt_or_ge j k with h1 | h1
    · exact h j y hy h1
    · obtain rfl : j = k := by omega
      rw [hx] at hy; cases hy; exact hs⟩