/-
  The walk through the reference's SameTexts of chapter 6: whether two lists of strings are equal.
-/
import Derived.Test.YtbhkgdfmjkblcaaBase
import Derived.Test.YtbhkgdfmjkblcaaChecked
import Derived.ProofKit
import Derived.BigQuiet
namespace Go.Proofs.Ytbhkgdfmjkblcaa
open Go.RowKit

def TxQ (w : World) (v : Value) (e : Ending) (w' : World) : Prop := e = .returned v ∧ ∃ n, w' = w.drewN n
theorem TxQ.ret {w : World} {v : Value} {e : Ending} {w' : World} (h : TxQ w v e w') : Ret w v e w' := by
  obtain ⟨h1, n, rfl⟩ := h
  exact ⟨h1, below_drewN (Below.refl _ _) n⟩
theorem tx_len {a b : List ByteArray} (h : a.length ≠ b.length) : decide (a = b) = false := by
  rw [decide_eq_false_iff_not]; intro e
  exact h (congrArg List.length e)
theorem tx_not {a b : List ByteArray} {k : Nat} {x y : ByteArray} (hx : a[k]? = some x) (hy : b[k]? = some y) (h : x ≠ y) : decide (a = b) = false := by
  rw [decide_eq_false_iff_not]; intro e
  rw [e, hy] at hx
  exact h (Option.some.inj hx).symm
def TxTo (a b : List ByteArray) (k : Nat) : Prop := a.take k = b.take k
theorem TxTo.succ {a b : List ByteArray} {k : Nat} {x : ByteArray} (h : TxTo a b k) (hx : a[k]? = some x) (hy : b[k]? = some x) : TxTo a b (k + 1) := by
  unfold TxTo at *
  obtain ⟨h1, e1⟩ := List.getElem?_eq_some_iff.1 hx
  obtain ⟨h2, e2⟩ := List.getElem?_eq_some_iff.1 hy
  rw [List.take_succ_eq_append_getElem h1, List.take_succ_eq_append_getElem h2, h, e1, e2]
theorem TxTo.all {a b : List ByteArray} (hl : a.length = b.length) (h : TxTo a b a.length) : decide (a = b) = true := by
  unfold TxTo at h
  rw [List.take_length, hl, List.take_length] at h
  rw [h]; simp

set_option maxRecDepth 100000 in
set_option maxHeartbeats 1000000 in
theorem sameTexts_any (A B : Option Addr) (n m c d : Nat) (a b : List ByteArray) (w : World) (ha : Strs w A n a) (hb : Strs w B m b) (hn : n ≤ maxLen) :
    Calls Try.prog 26 #[.slice A n c, .slice B m d] w (TxQ w (.bool (decide (a = b)))) := by
  unfold maxLen at hn
  have HA := Lib.hid ha.length
  have HB := Lib.hid hb.length
  by_cases hl : n = m
  · have el : ((n : Int) != (m : Int)) = false := neF (by omega)
    have HLE := Lib.hid hl; clear hl
    go_enter Try.func26, Try.ntmps26
    go_wp2_with fail
    go_loopw [5] (fun i wr => ∃ k t : Nat, k ≤ a.length ∧ i = .int .i64 k ∧ TxTo a b k ∧ Hid (wr = w.drewN t)) (fun i _ => n - (intOf i).toNat)
    case atStart => exact ⟨0, 0, by omega, rfl, rfl, rfl⟩
    case round =>
      obtain ⟨k, t, hk, rfl, hs, ht⟩ := hrel
      obtain rfl := ht.out
      by_cases hlt : k < n
      · have hk0 : (k : Int) < n := by omega
        obtain ⟨ad, x, rfl, hadb, hu, hc⟩ := ha.at_ hlt
        have hlm : k < m := by have := HLE.out; omega
        have hkm : (k : Int) < m := by omega
        obtain ⟨bd, y, rfl, hbdb, hu2, hc2⟩ := hb.at_ hlm
        have hct : (w.drewN t).cell? (ad.add k) = some (.string x) := hc
        have hct2 : (w.drewN t).cell? (bd.add k) = some (.string y) := hc2
        have hk1 : k + 1 ≤ a.length := by have := HA.out; omega
        by_cases hxy : x = y
        · subst hxy
          have HS := Lib.hid (hs.succ hu hu2)
          clear hu hu2 hs
          go_wp2_with fail
          go_quiet (fail)
          go_wp2_with fail
          exact ⟨⟨k + 1, t + nq, hk1, by go_num, HS.out, by show _ = _; simp⟩, by simp [intOf]; omega⟩
        · have es : (x.toList == y.toList) = false := by rw [streq']; simpa using hxy
          have HN := Lib.hid (tx_not hu hu2 hxy)
          clear hu hu2 hs
          go_wp2_with fail
          go_quiet (fail)
          go_wp2_with fail
          go_ret
          exact ⟨by rw [HN.out]; rfl, t + nq, by simp⟩
      · have HS := Lib.hid (TxTo.all (by have := HA.out; have := HB.out; have := HLE.out; omega) (show TxTo a b a.length by have := HA.out; rwa [show a.length = k from by omega]))
        clear hs
        go_wp2_with fail
        go_ret
        exact ⟨by rw [HS.out]; rfl, t, rfl⟩
  · have el : ((n : Int) != (m : Int)) = true := neT (by omega)
    have HN := Lib.hid (tx_len (a := a) (b := b) (by have := HA.out; have := HB.out; omega))
    go_enter Try.func26, Try.ntmps26
    go_wp2_with fail
    go_ret
    exact ⟨by rw [HN.out]; rfl, 0, rfl⟩
end Go.Proofs.Ytbhkgdfmjkblcaa
