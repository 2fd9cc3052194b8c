/-
  The walks through package glob: what Check, Plain, Least, fits, find, pieces, Match, First and Any compute.
-/
import Derived.Test.YthcbplameonjlaaProg
import Derived.Test.YthcbplameonjlaaBase
import Derived.Test.YthcbplameonjlaaGlobP
namespace Go.Proofs.Ythcbplameonjlaa
open Go.RowKit

def good (s : ByteArray) (k : Nat) : Prop := ((bs s).take k).any G.bad = false
theorem good_succ {s : ByteArray} {k : Nat} (h : good s k) (hk : k < s.size) (h1 : ¬ s[k].toNat < 33) (h2 : ¬ 126 < s[k].toNat) : good s (k + 1) := by
  unfold good at *; rw [take_succ s k hk]; simp [h, G.bad]; omega
theorem chk_empty {s : ByteArray} (h : s.size = 0) : G.chk (bs s) = 9 := by unfold G.chk; rw [if_pos (size_zero.1 h)]
theorem chk_long {s : ByteArray} (h : 64 < s.size) : G.chk (bs s) = 7 := by
  unfold G.chk; rw [if_neg (fun e => by rw [← size_zero] at e; omega), if_pos (by rw [size_list]; exact h)]
theorem chk_bad {s : ByteArray} {k : Nat} (hk : k < s.size) (he : s.size ≤ 64) (h1 : s[k].toNat < 33 ∨ 126 < s[k].toNat) : G.chk (bs s) = 3 := by
  unfold G.chk
  rw [if_neg (fun e => by rw [← size_zero] at e; omega), if_neg (by rw [size_list]; omega), if_pos]
  rw [List.any_eq_true]; exact ⟨_, mem_at s k hk, by simp [G.bad]; omega⟩
theorem chk_good {s : ByteArray} (h : good s s.size) (h0 : ¬ s.size = 0) (he : s.size ≤ 64) : G.chk (bs s) = 0 := by
  unfold good at h; rw [take_all] at h
  unfold G.chk
  rw [if_neg (fun e => by rw [← size_zero] at e; omega), if_neg (by rw [size_list]; omega), if_neg (by simp only [h]; simp)]
theorem good_zero (s : ByteArray) : good s 0 := by simp [good]

set_option maxHeartbeats 400000 in
theorem check_any (s : ByteArray) (w : World) (hs : s.size ≤ maxLen) :
    Calls Try.prog 53 #[.string s] w (Ret w (.int .i64 (G.chk (bs s)))) := by
  unfold maxLen at hs
  by_cases h0 : s.size = 0
  · have hc := chk_empty h0
    have h0 : s.toList.isEmpty = true := by rw [isEmpty_size]; simpa using h0
    go_enter Try.func53, Try.ntmps53
    go_wp2
    go_ret
    exact ⟨ret_int hc.symm, Below.refl _ _⟩
  have he : s.toList.isEmpty = false := by rw [isEmpty_size]; simpa using h0
  by_cases h1 : 64 < s.size
  · have hc := chk_long h1
    go_enter Try.func53, Try.ntmps53
    go_wp2
    go_ret
    exact ⟨ret_int hc.symm, Below.refl _ _⟩
  have h1 : s.size ≤ 64 := by omega
  go_enter Try.func53, Try.ntmps53
  go_wp2
  go_loop [13] (fun i => ∃ k : Nat, k ≤ s.size ∧ i = .int .i64 k ∧ good s k) (fun i => s.size - (intOf i).toNat)
  case atStart => exact ⟨0, by omega, rfl, good_zero s⟩
  case round =>
    obtain ⟨k, hk, rfl, hb⟩ := hrel
    by_cases hlt : k < s.size
    · go_wp2
      · go_ret
        exact ⟨ret_int (chk_bad hlt (by omega) (by omega)).symm, Below.refl _ _⟩
      · go_round
        case rel => exact ⟨k + 1, by omega, by go_num, good_succ hb hlt (by omega) (by omega)⟩
        case measure => simp [intOf]; omega
      · go_ret
        exact ⟨ret_int (chk_bad hlt (by omega) (by omega)).symm, Below.refl _ _⟩
    · obtain rfl : k = s.size := by omega
      go_wp2
      go_ret
      exact ⟨ret_int (chk_good hb h0 h1).symm, Below.refl _ _⟩

/-! ### Plain and Least -/
theorem plain_succ {s : ByteArray} {k : Nat} (hk : k < s.size) : G.plain ((bs s).take (k + 1)) = (G.plain ((bs s).take k) && !(s[k] == 42 || s[k] == 63)) := by
  rw [take_succ s k hk]; simp [G.plain]
theorem plain_not {s : ByteArray} {k : Nat} (hk : k < s.size) (h : s[k] = 42 ∨ s[k] = 63) : G.plain (bs s) = false := by
  rw [Bool.eq_false_iff]; intro hp
  unfold G.plain at hp; rw [List.all_eq_true] at hp
  have := hp _ (mem_at s k hk)
  rcases h with h | h <;> simp [h] at this
theorem least_succ {s : ByteArray} {k : Nat} (hk : k < s.size) : G.least ((bs s).take (k + 1)) = G.least ((bs s).take k) + if s[k] = 42 then 0 else 1 := by
  rw [take_succ s k hk]; simp only [G.least, List.filter_append, List.length_append]
  by_cases h : s[k] = 42 <;> simp [h]
theorem least_le (l : List UInt8) : G.least l ≤ l.length := List.length_filter_le _ _
theorem least_take {s : ByteArray} (k : Nat) : G.least ((bs s).take k) ≤ k := Nat.le_trans (least_le _) (by simp; omega)

/-! ### fits and find -/
theorem fit_snoc {a b : List UInt8} {x c : UInt8} (h : G.fit a b = true) : G.fit (a ++ [x]) (b ++ [c]) = (x == 63 || x == c) := by
  induction a generalizing b with
  | nil => cases b with
    | nil => simp [G.fit]
    | cons d b => simp [G.fit] at h
  | cons y a ih => cases b with
    | nil => simp [G.fit] at h
    | cons d b =>
      simp only [G.fit, Bool.and_eq_true] at h
      simp only [List.cons_append, G.fit, ih h.2, h.1, Bool.true_and]
theorem fit_take : ∀ {a b : List UInt8} (k : Nat), G.fit a b = true → G.fit (a.take k) (b.take k) = true
  | [], [], k, _ => by simp [G.fit]
  | x :: a, c :: b, 0, _ => by simp [G.fit]
  | x :: a, c :: b, k + 1, h => by
    simp only [G.fit, Bool.and_eq_true] at h
    simp only [List.take_succ_cons, G.fit, Bool.and_eq_true]
    exact ⟨h.1, fit_take k h.2⟩
def FitInv (w : World) (p s : ByteArray) (wr : World) : Prop := ∃ k : Nat, k ≤ p.size ∧ wr.heap[w.heap.size]? = some (.stringIter p k) ∧ Below w.heap.size w wr ∧ G.fit ((bs p).take k) ((bs s).take k) = true
theorem FitInv.next {w : World} {p s : ByteArray} {wr : World} {k : Nat} (hk : k < p.size) (hs : k < s.size) (hit : wr.heap[w.heap.size]? = some (.stringIter p (k + 1))) (hb : Below w.heap.size w wr)
    (h : G.fit ((bs p).take k) ((bs s).take k) = true) (hc : (p[k].toNat : Int) = 63 ∨ (p[k].toNat : Int) % 256 = (s[k].toNat : Int)) : FitInv w p s wr := by
  refine ⟨k + 1, hk, hit, hb, ?_⟩
  rw [take_succ p k hk, take_succ s k hs, fit_snoc h]
  rcases hc with hc | hc
  · have := u8_is 63 hc
    simp [this]
  · have h1 := p[k].toNat_lt
    have : p[k] = s[k] := UInt8.toNat_inj.1 (by omega)
    simp [this]
theorem fit_not {p s : ByteArray} {k : Nat} (hk : k < p.size) (hs : k < s.size) (h : G.fit ((bs p).take k) ((bs s).take k) = true) (h1 : ¬ (p[k].toNat : Int) = 63) (h2 : ¬ (p[k].toNat : Int) % 256 = (s[k].toNat : Int)) : G.fit (bs p) (bs s) = false := by
  rw [Bool.eq_false_iff]; intro hf
  have := fit_take (k + 1) hf
  rw [take_succ p k hk, take_succ s k hs, fit_snoc h] at this
  simp only [Bool.or_eq_true, beq_iff_eq] at this
  rcases this with e | e
  · rw [e] at h1; exact h1 rfl
  · have := s[k].toNat_lt
    rw [e] at h2; omega

def ascii (p : ByteArray) : Prop := ∀ c ∈ bs p, c.toNat < 128
theorem ascii.at_ {p : ByteArray} (h : ascii p) {k : Nat} (hk : k < p.size) : p[k].toNat < 128 := h _ (mem_at p k hk)

set_option maxHeartbeats 400000 in
theorem fits_any (p s : ByteArray) (w : World) (hp : p.size ≤ 1000000) (ha : ascii p) :
    Calls Try.prog 55 #[.string p, .string s] w (Ret w (.bool (G.fit (bs p) (bs s)))) := by
  by_cases h0 : p.size = s.size
  · have hb0 : ((p.size : Int) != (s.size : Int)) = false := by simp [h0]
    have H0 := Lib.hid h0; clear h0
    go_enter Try.func55, Try.ntmps55
    go_wp2
    go_loopw [] (fun wr => FitInv w p s wr) (fun wr => p.size - wr.iterPos w.heap.size)
    case atStart => exact ⟨0, by omega, World.iter_heap w p 0, (Below.refl _ _).alloc (Nat.le_refl _) _, rfl⟩
    case round =>
      obtain ⟨k, hk, hit, hbw, hf⟩ := hrel
      by_cases hlt : k < p.size
      · have hnx := fun ty => Lib.run_next_ascii_at (P := Try.prog) wr w.heap.size p k ty hit hlt (ha.at_ hlt)
        have hit2 := Lib.iterAt_heap wr w.heap.size p k (k+1) hit
        have hbw2 := Lib.below_iterAt hbw (k := w.heap.size) (Nat.le_refl _) p (k+1)
        have hpos := iterPos_is hit
        have hpos2 := iterPos_is hit2
        generalize wr.iterAt w.heap.size p (k+1) = W1 at hnx hit2 hbw2 hpos2
        have Hit2 := Lib.hid hit2; clear hit2
        have Hpos := Lib.hid hpos; clear hpos
        have Hpos2 := Lib.hid hpos2; clear hpos2
        have Hit := Lib.hid hit; clear hit
        have Hf := Lib.hid hf; clear hf
        have hks : k < s.size := by have := H0.out; omega
        go_wp2
        · exact ⟨FitInv.next hlt hks Hit2.out hbw2 Hf.out (.inl (by assumption)), by rw [Hpos.out, Hpos2.out]; omega⟩
        · go_ret
          have h1 : ¬ (p[k].toNat : Int) = 63 := by assumption
          have h2 : (((p[k].toNat : Int) != 63) = true ∧ ((p[k].toNat : Int) % 256 != (s[k].toNat : Int)) = true) := by assumption
          exact ⟨ret_bool (fit_not hlt hks Hf.out h1 (by simpa using h2.2)).symm, hbw2⟩
        · have h1 : ¬ (p[k].toNat : Int) = 63 := by assumption
          have h2 : (((p[k].toNat : Int) != 63) = false ∨ ((p[k].toNat : Int) % 256 != (s[k].toNat : Int)) = false) := by assumption
          exact ⟨FitInv.next hlt hks Hit2.out hbw2 Hf.out (.inr (by rcases h2 with h2 | h2; (· simp at h2; omega); (· simpa using h2))), by rw [Hpos.out, Hpos2.out]; omega⟩
      · have hnx := fun ty => Lib.run_next_end_at (P := Try.prog) wr w.heap.size p k ty hit hlt
        have hkp : k = p.size := by omega
        have HK := Lib.hid hkp; clear hkp
        have Hf := Lib.hid hf; clear hf
        go_wp2
        go_ret
        exact ⟨ret_bool (by have := Hf.out; have e := HK.out; subst e; rw [take_all, H0.out, take_all] at this; exact this.symm), hbw⟩
  · have hb0 : ((p.size : Int) != (s.size : Int)) = true := by simp; omega
    go_enter Try.func55, Try.ntmps55
    go_wp2
    go_ret
    exact ⟨ret_bool (Bool.eq_false_iff.2 fun h => by have := G.fit_length h; simp at this; omega).symm, Below.refl _ _⟩

def gfindI (p s : List UInt8) : Int := match G.find p s with | some i => i | none => -1
theorem at_extract (p s : ByteArray) (k : Nat) (h : k + p.size ≤ s.size) : G.fit (bs p) (bs (s.extract k (k + p.size))) = G.at_ (bs p) (bs s) k := by
  rw [bs_extract, show k + p.size - k = p.size from by omega]
  simp only [G.at_, size_list, h, decide_true, Bool.true_and]

set_option maxHeartbeats 400000 in
theorem gfind_any (p s : ByteArray) (w : World) (hp : p.size ≤ 1000000) (hs : s.size ≤ 1000000) (ha : ascii p) :
    Calls Try.prog 56 #[.string p, .string s] w (Ret w (.int .i64 (gfindI (bs p) (bs s)))) := by
  go_enter Try.func56, Try.ntmps56
  go_wp2
  go_loopw [5] (fun i wr => ∃ k : Nat, k ≤ s.size + 1 ∧ i = .int .i64 k ∧ Below w.heap.size w wr ∧ Hid (∀ j, j < k → G.at_ (bs p) (bs s) j = false)) (fun i _ => s.size + 1 - (intOf i).toNat)
  case atStart => exact ⟨0, by omega, rfl, Below.refl _ _, fun j hj => by omega⟩
  case round =>
    obtain ⟨k, hk, rfl, hbw, hb⟩ := hrel
    by_cases hlt : k + p.size ≤ s.size
    · have hat := at_extract p s k hlt
      have HAT := Lib.hid hat; clear hat
      go_wp2_with fail
      refine (fits_any p _ wr hp ha).mono ?_
      rintro e w1 ⟨rfl, hb1⟩
      have hbw1 := below_then hbw hb1
      rw [HAT.out]
      cases hm : G.at_ (bs p) (bs s) k
      · have HM := Lib.hid hm; clear hm
        go_wp2_with fail
        exact ⟨⟨k + 1, by omega, by go_num, hbw1, fun j hj => by
          rcases Nat.lt_or_ge j k with h | h
          · exact hb.out j h
          · obtain rfl : j = k := by omega
            exact HM.out⟩, by simp [intOf]; omega⟩
      · have HM := Lib.hid hm; clear hm
        go_wp2_with fail
        go_ret
        exact ⟨ret_int (by simp only [gfindI]; rw [G.find_is HM.out hb.out]), hbw1⟩
    · go_wp2_with fail
      go_ret
      exact ⟨ret_int (by simp only [gfindI]; rw [G.find_isnt (fun j hj => hb.out j (by simp only [size_list] at hj; omega))]), hbw⟩
end Go.Proofs.Ythcbplameonjlaa
