/-
  The walks through ids.Find, and the reference's Find and Same.
-/
import Derived.Test.YthcbplameonjlaaNamesV
namespace Go.Proofs.Ythcbplameonjlaa
open Go.RowKit

def findI (l : List (List UInt8)) (s : List UInt8) : Int := match l.findIdx? fun x => decide (x = s) with | some i => i | none => -1
def NotYet (l : List ByteArray) (s : ByteArray) (k : Nat) : Prop := ∀ j x, l[j]? = some x → j < k → x ≠ s
theorem NotYet.zero (l : List ByteArray) (s : ByteArray) : NotYet l s 0 := fun j _ _ h => by omega
theorem NotYet.succ {l : List ByteArray} {s : ByteArray} {k : Nat} {x : ByteArray} (h : NotYet l s k) (hx : l[k]? = some x) (hm : x ≠ s) : NotYet l s (k + 1) := fun j y hy hj => by
  rcases Nat.lt_or_ge j k with h1 | h1
  · exact h j y hy h1
  · obtain rfl : j = k := by omega
    rw [hx] at hy; cases hy; exact hm
theorem findI_some {l : List ByteArray} {s : ByteArray} {k : Nat} (h : NotYet l s k) (hx : l[k]? = some s) : findI (bss l) (bs s) = k := by
  have : (bss l).findIdx? (fun x => decide (x = bs s)) = some k := by
    rw [List.findIdx?_eq_some_iff_getElem]
    obtain ⟨hk, hx'⟩ := List.getElem?_eq_some_iff.1 hx
    refine ⟨by simpa using hk, by simp [hx'], fun j hj => ?_⟩
    have hjl : j < l.length := by omega
    have := h j _ (List.getElem?_eq_getElem hjl) hj
    simp only [List.getElem_map, decide_eq_true_eq]
    exact fun e => this (bs_inj e)
  unfold findI; rw [this]
theorem findI_none {l : List ByteArray} {s : ByteArray} (h : NotYet l s l.length) : findI (bss l) (bs s) = -1 := by
  have : (bss l).findIdx? (fun x => decide (x = bs s)) = none := by
    rw [List.findIdx?_eq_none_iff]
    intro x hx
    obtain ⟨y, hy, rfl⟩ := List.mem_map.1 hx
    obtain ⟨j, hj, rfl⟩ := List.mem_iff_getElem.1 hy
    have := h j _ (List.getElem?_eq_getElem hj) hj
    simp only [decide_eq_false_iff_not]
    exact fun e => this (bs_inj e)
  unfold findI; rw [this]

set_option maxHeartbeats 400000 in
theorem find_any (A : Option Addr) (n c : Nat) (l : List ByteArray) (s : ByteArray) (w : World) (hr : Strs w A n l) (hn : n ≤ 1000000) :
    Calls Try.prog 21 #[.slice A n c, .string s] w (Same w (.int .i64 (findI (bss l) (bs s)))) := by
  have HL := Lib.hid hr.length
  go_enter Try.func21, Try.ntmps21
  go_wp2
  go_loop [9] (fun i => ∃ k : Nat, k ≤ l.length ∧ i = .int .i64 k ∧ NotYet l s k) (fun i => n - (intOf i).toNat)
  case atStart => exact ⟨0, by omega, rfl, NotYet.zero l s⟩
  case round =>
    obtain ⟨k, hk, rfl, hb⟩ := hrel
    by_cases hlt : k < n
    · obtain ⟨ad, x, rfl, hadb, hu, hc⟩ := hr.at_ hlt
      have hk1 : k + 1 ≤ l.length := by have := HL.out; omega
      by_cases hxs : x = s
      · subst hxs
        have HF := Lib.hid (findI_some hb hu)
        clear hu hb
        go_wp2_with fail
        go_ret
        exact ⟨by rw [HF.out]; rfl, rfl⟩
      · have es : (x.toList == s.toList) = false := by rw [streq']; simpa using hxs
        have HB := Lib.hid (hb.succ hu hxs)
        clear hu hb
        go_wp2_with fail
        exact ⟨⟨k + 1, hk1, by go_num, HB.out⟩, by simp [intOf]; omega⟩
    · have HF := Lib.hid (findI_none (l := l) (s := s) (by have := HL.out; rwa [show l.length = k from by omega]))
      clear hb
      go_wp2_with fail
      go_ret
      exact ⟨by rw [HF.out]; rfl, rfl⟩

theorem same_len {a b : List ByteArray} (h : a.length ≠ b.length) : decide (bss a = bss b) = false := by
  rw [decide_eq_false_iff_not]; intro e
  have := congrArg List.length e
  simp at this; exact h this
theorem same_not {a b : List ByteArray} {k : Nat} {x y : ByteArray} (hx : a[k]? = some x) (hy : b[k]? = some y) (h : x ≠ y) : decide (bss a = bss b) = false := by
  rw [decide_eq_false_iff_not]; intro e
  have h1 : (bss a)[k]? = some (bs x) := by simp [hx]
  rw [e] at h1
  have h2 : (bss b)[k]? = some (bs y) := by simp [hy]
  rw [h2] at h1
  exact h (bs_inj (Option.some.inj h1).symm)
def SameTo (a b : List ByteArray) (k : Nat) : Prop := a.take k = b.take k
theorem SameTo.succ {a b : List ByteArray} {k : Nat} {x : ByteArray} (h : SameTo a b k) (hx : a[k]? = some x) (hy : b[k]? = some x) : SameTo a b (k + 1) := by
  unfold SameTo at *
  obtain ⟨h1, e1⟩ := List.getElem?_eq_some_iff.1 hx
  obtain ⟨h2, e2⟩ := List.getElem?_eq_some_iff.1 hy
  rw [List.take_succ_eq_append_getElem h1, List.take_succ_eq_append_getElem h2, h, e1, e2]
theorem SameTo.all {a b : List ByteArray} (hl : a.length = b.length) (h : SameTo a b a.length) : decide (bss a = bss b) = true := by
  unfold SameTo at h
  rw [List.take_length, hl, List.take_length] at h
  rw [h]; simp
set_option maxHeartbeats 400000 in
theorem rsame_any (A B : Option Addr) (n m c d : Nat) (a b : List ByteArray) (w : World) (ha : Strs w A n a) (hb : Strs w B m b) (hn : n ≤ 1000000) :
    Calls Try.prog 14 #[.slice A n c, .slice B m d] w (Quiet w (.bool (decide (bss a = bss b)))) := by
  have HA := Lib.hid ha.length
  have HB := Lib.hid hb.length
  by_cases hl : n = m
  · have el : ((n : Int) != (m : Int)) = false := neF (by omega)
    have HLE := Lib.hid hl; clear hl
    go_enter Try.func14, Try.ntmps14
    go_wp2_with fail
    go_loopw [5] (fun i wr => ∃ k t : Nat, k ≤ a.length ∧ i = .int .i64 k ∧ SameTo a b k ∧ Hid (wr = w.drewN t)) (fun i _ => n - (intOf i).toNat)
    case atStart => exact ⟨0, 0, by omega, rfl, rfl, rfl⟩
    case round =>
      obtain ⟨k, t, hk, rfl, hs, ht⟩ := hrel
      obtain rfl := ht.out
      by_cases hlt : k < n
      · have hk0 : (k : Int) < n := by omega
        obtain ⟨ad, x, rfl, hadb, hu, hc⟩ := ha.at_ hlt
        have hlm : k < m := by have := HLE.out; omega
        have hkm : (k : Int) < m := by omega
        obtain ⟨bd, y, rfl, hbdb, hu2, hc2⟩ := hb.at_ hlm
        have hct : (w.drewN t).cell? (ad.add k) = some (.string x) := hc
        have hct2 : (w.drewN t).cell? (bd.add k) = some (.string y) := hc2
        have hk1 : k + 1 ≤ a.length := by have := HA.out; omega
        by_cases hxy : x = y
        · subst hxy
          have HS := Lib.hid (hs.succ hu hu2)
          clear hu hu2 hs
          go_wp2_with fail
          go_quiet (fail)
          go_wp2_with fail
          exact ⟨⟨k + 1, t + nq, hk1, by go_num, HS.out, by show _ = _; simp⟩, by simp [intOf]; omega⟩
        · have es : (x.toList == y.toList) = false := by rw [streq']; simpa using hxy
          have HN := Lib.hid (same_not hu hu2 hxy)
          clear hu hu2 hs
          go_wp2_with fail
          go_quiet (fail)
          go_wp2_with fail
          go_ret
          exact ⟨by rw [HN.out]; rfl, t + nq, by simp⟩
      · have HS := Lib.hid (SameTo.all (by have := HA.out; have := HB.out; have := HLE.out; omega) (show SameTo a b a.length by have := HA.out; rwa [show a.length = k from by omega]))
        clear hs
        go_wp2_with fail
        go_ret
        exact ⟨by rw [HS.out]; rfl, t, rfl⟩
  · have el : ((n : Int) != (m : Int)) = true := neT (by omega)
    have HN := Lib.hid (same_len (a := a) (b := b) (by have := HA.out; have := HB.out; omega))
    go_enter Try.func14, Try.ntmps14
    go_wp2_with fail
    go_ret
    exact ⟨by rw [HN.out]; rfl, 0, rfl⟩
end Go.Proofs.Ythcbplameonjlaa
