/-
  The walks through the reference's First and Any, and the laws GlobMatches, GlobFinds, GlobPlains.
-/
import Derived.Test.YtjlgaicdognknaaGlobR
import Derived.Test.YtjlgaicdognknaaGlobL
namespace Go.Proofs.Ytjlgaicdognknaa
open Go.RowKit

set_option maxHeartbeats 400000 in
theorem rfirst_any (A : Option Addr) (n c : Nat) (l : List ByteArray) (s : ByteArray) (w : World) (hr : Strs w A n l) (hn : n ≤ 1000000) (hs : s.size ≤ 1000000) (hx : Short l) :
    Calls Try.prog 24 #[.slice A n c, .string s] w (Ret w (.int .i64 (firstI l s))) := by
  have HL := Lib.hid hr.length
  go_enter Try.func24, Try.ntmps24
  go_wp2
  go_loopw [5] (fun i wr => FirstInv w l s i wr) (fun i _ => n - (intOf i).toNat)
  case atStart => exact ⟨0, by omega, rfl, NoneYet.zero l s, Below.refl _ _⟩
  case round =>
    obtain ⟨k, hk, rfl, hb, hbw⟩ := hrel
    by_cases hlt : k < n
    · obtain ⟨ad, x, rfl, hadb, hu, hc⟩ := (hr.on hbw).at_ hlt
      have HXk := Lib.hid hu; clear hu
      have hk1 : k + 1 ≤ l.length := by have := HL.out; omega
      go_wp2_with fail
      refine (rmatch_any x s wr (hx x (List.mem_of_getElem? HXk.out)) hs).mono ?_
      rintro e w1 ⟨rfl, hb1⟩
      have hbw1 := below_then hbw hb1
      cases hm : G.mt (bs x) (bs s)
      · have HM := Lib.hid hm; clear hm
        go_wp2_with fail
        exact ⟨⟨k + 1, hk1, by go_num, hb.succ HXk.out HM.out, hbw1⟩, by simp [intOf]; omega⟩
      · have HM := Lib.hid hm; clear hm
        go_wp2_with fail
        go_ret
        exact ⟨ret_int (firstI_some hb HXk.out HM.out).symm, hbw1⟩
    · go_wp2_with fail
      go_ret
      exact ⟨ret_int (firstI_none (by have := HL.out; rwa [show l.length = k from by omega])).symm, hbw⟩

set_option maxHeartbeats 400000 in
theorem rany_any (A : Option Addr) (n c : Nat) (l : List ByteArray) (s : ByteArray) (w : World) (hr : Strs w A n l) (hn : n ≤ 1000000) (hs : s.size ≤ 1000000) (hx : Short l) :
    Calls Try.prog 26 #[.slice A n c, .string s] w (Ret w (.bool (anyI l s))) := by
  go_enter Try.func26, Try.ntmps26
  go_wp2_with fail
  refine (rfirst_any A n c l s w hr hn hs hx).mono ?_
  rintro e w1 ⟨rfl, hb1⟩
  go_wp2_with fail
  go_ret
  exact ⟨ret_bool (by unfold anyI; rfl), hb1⟩

set_option maxHeartbeats 1000000 in
theorem globMatches_any (p s : ByteArray) (w : World) (_hp : p.size ≤ maxLen) (_hs : s.size ≤ maxLen) : Calls Try.prog 4 #[.string p, .string s] w (Ret w (.bool true)) := by
  by_cases hl : 1000 < p.size
  · have hl' : (1000 : Int) < p.size := by omega
    go_enter Try.func4, Try.ntmps4
    go_wp2_with fail
    go_ret
    exact ⟨rfl, Below.refl _ _⟩
  have hl0 : ¬ (1000 : Int) < p.size := by omega
  by_cases hl2 : 1000 < s.size
  · have hl2' : (1000 : Int) < s.size := by omega
    go_enter Try.func4, Try.ntmps4
    go_wp2_with fail
    go_ret
    exact ⟨rfl, Below.refl _ _⟩
  have hl3 : ¬ (1000 : Int) < s.size := by omega
  go_enter Try.func4, Try.ntmps4
  go_wp2_with fail
  refine (match_any p s w (by omega) (by omega)).mono ?_
  rintro e w1 ⟨rfl, b1⟩
  go_wp2_with fail
  refine (rmatch_any p s _ (by omega) (by omega)).mono ?_
  rintro e w2 ⟨rfl, b2⟩
  have c2 := below_then b1 b2; clear b1 b2
  go_wp2_with fail
  refine (glive_any _).mono ?_
  rintro e w3 ⟨rfl, b3⟩
  have c3 := below_then c2 b3; clear c2 b3
  go_wp2_with fail
  go_ret
  exact ⟨rfl, c3⟩

def LensInv (l : List ByteArray) (i : Value) : Prop := ∃ k : Nat, k ≤ l.length ∧ i = .int .i64 k ∧ ∀ j x, l[j]? = some x → j < k → x.size ≤ 100
theorem Lens.short {l : List ByteArray} (h : ∀ j x, l[j]? = some x → j < l.length → x.size ≤ 100) : Short l := fun x hx => by
  obtain ⟨j, hj, rfl⟩ := List.mem_iff_getElem.1 hx
  have := h j _ (List.getElem?_eq_getElem hj) hj
  omega
theorem Lens.step {l : List ByteArray} {k : Nat} {x : ByteArray} (h : ∀ j x, l[j]? = some x → j < k → x.size ≤ 100) (hx : l[k]? = some x) (hs : x.size ≤ 100) : LensInv l (.int .i64 ((k : Int) + 1)) :=
  ⟨k + 1, (List.getElem?_eq_some_iff.1 hx).1, by go_num, fun j y hy hj => by
    rcases Nat.lt_or_ge j k with h1 | h1
    · exact h j y hy h1
    · obtain rfl : j = k := by omega
      rw [hx] at hy; cases hy; exact hs⟩

set_option maxHeartbeats 1000000 in
theorem globFinds_any (A : Option Addr) (n c : Nat) (l : List ByteArray) (s : ByteArray) (w : World) (hr : Strs w A n l) (_hc : n ≤ maxLen) (hx : ∀ x ∈ l, x.size ≤ maxLen) (_hs : s.size ≤ maxLen) :
    Calls Try.prog 5 #[.slice A n c, .string s] w (Ret w (.bool true)) := by
  have HL := Lib.hid hr.length
  by_cases hn : 40 < n
  · have hn' : (40 : Int) < n := by omega
    go_enter Try.func5, Try.ntmps5
    go_wp2_with fail
    go_ret
    exact ⟨rfl, Below.refl _ _⟩
  have hn' : ¬ (40 : Int) < n := by omega
  by_cases hs : 200 < s.size
  · have hs' : (200 : Int) < s.size := by omega
    go_enter Try.func5, Try.ntmps5
    go_wp2_with fail
    go_ret
    exact ⟨rfl, Below.refl _ _⟩
  have hs' : ¬ (200 : Int) < s.size := by omega
  have hd1 : decide ((40 : Int) < (n : Int)) = false := by simp; omega
  have hd2 : decide ((200 : Int) < (s.size : Int)) = false := by simp; omega
  go_enter Try.func5, Try.ntmps5
  go_wp2_with fail
  go_loop [5] (fun i => LensInv l i) (fun i => n - (intOf i).toNat)
  case atStart => exact ⟨0, by omega, rfl, fun j _ _ h => by omega⟩
  case round =>
    obtain ⟨k, hk, rfl, hb⟩ := hrel
    by_cases hlt : k < n
    · obtain ⟨ad, x, rfl, hadb, hu, hc⟩ := hr.at_ hlt
      have HXk := Lib.hid hu; clear hu
      have HB := Lib.hid hb; clear hb
      have hxm := hx x (List.mem_of_getElem? HXk.out)
      unfold maxLen at hxm
      by_cases hx1 : 100 < x.size
      · have hx1' : (100 : Int) < x.size := by omega
        go_wp2_with fail
        go_ret
        exact ⟨rfl, Below.refl _ _⟩
      · have hx1' : ¬ (100 : Int) < x.size := by omega
        go_wp2_with fail
        exact ⟨Lens.step HB.out HXk.out (by omega), by simp [intOf]; omega⟩
    · have hS : Short l := Lens.short (by have := HL.out; have e : k = l.length := by omega
                                          subst e; exact hb)
      clear hb
      go_wp2_with fail
      refine (first_any A n c l s w hr (by omega) (by omega) hS).mono ?_
      rintro e w1 ⟨rfl, b1⟩
      go_wp2_with fail
      refine (rfirst_any A n c l s w1 (hr.on b1) (by omega) (by omega) hS).mono ?_
      rintro e w2 ⟨rfl, b2⟩
      have c2 := below_then b1 b2; clear b1 b2
      go_wp2_with fail
      refine (any_any A n c l s w2 (hr.on c2) (by omega) (by omega) hS).mono ?_
      rintro e w3 ⟨rfl, b3⟩
      have c3 := below_then c2 b3; clear c2 b3
      go_wp2_with fail
      refine (rany_any A n c l s w3 (hr.on c3) (by omega) (by omega) hS).mono ?_
      rintro e w4 ⟨rfl, b4⟩
      have c4 := below_then c3 b4; clear c3 b4
      go_wp2_with fail
      refine (glive_any _).mono ?_
      rintro e w5 ⟨rfl, b5⟩
      have c5 := below_then c4 b5; clear c4 b5
      go_wp2_with fail
      go_ret
      exact ⟨rfl, c5⟩

set_option maxHeartbeats 1000000 in
theorem globPlains_any (p s : ByteArray) (w : World) (hp : p.size ≤ maxLen) (hs : s.size ≤ maxLen) : Calls Try.prog 6 #[.string p, .string s] w (Ret w (.bool true)) := by
  unfold maxLen at hp hs
  have live : ∀ w1 : World, Below w.heap.size w w1 → Calls Try.prog 20 #[] w1 fun e w' => e = .returned (.bool true) ∧ Below w.heap.size w w' := fun w1 h => (glive_any w1).mono fun e w' ⟨h1, h2⟩ => ⟨h1, below_then h h2⟩
  have LIVE := Lib.hid live; clear live
  by_cases hl : 200 < p.size
  · have hl' : (200 : Int) < p.size := by omega
    go_enter Try.func6, Try.ntmps6
    go_wp2_with fail
    refine (LIVE.out _ (Below.refl _ _)).mono ?_
    rintro e w1 ⟨rfl, b1⟩
    go_wp2_with fail
    go_ret
    exact ⟨rfl, b1⟩
  have hl0 : ¬ (200 : Int) < p.size := by omega
  by_cases hl2 : 200 < s.size
  · have hl2' : (200 : Int) < s.size := by omega
    go_enter Try.func6, Try.ntmps6
    go_wp2_with fail
    refine (LIVE.out _ (Below.refl _ _)).mono ?_
    rintro e w1 ⟨rfl, b1⟩
    go_wp2_with fail
    go_ret
    exact ⟨rfl, b1⟩
  have hl3 : ¬ (200 : Int) < s.size := by omega
  go_enter Try.func6, Try.ntmps6
  go_wp2_with fail
  refine (check_any p w (by unfold maxLen; omega)).mono ?_
  rintro e w1 ⟨rfl, b1⟩
  by_cases hc : G.chk (bs p) = 0
  · have HC := Lib.hid hc
    rw [hc]; clear hc
    go_wp2_with fail
    refine (plain_any p w1 (by unfold maxLen; omega)).mono ?_
    rintro e w2 ⟨rfl, b2⟩
    have c2 := below_then b1 b2; clear b1 b2
    cases hq : G.plain (bs p)
    · clear hq
      go_wp2_with fail
      refine (LIVE.out _ c2).mono ?_
      rintro e w3 ⟨rfl, b3⟩
      go_wp2_with fail
      go_ret
      exact ⟨rfl, b3⟩
    · have HQ := Lib.hid hq; clear hq
      go_wp2_with fail
      refine (match_lit p p w2 true (by simp [G.mt, HC.out, G.gm_plain HQ.out]) (by omega) (by omega)).mono ?_
      rintro e w3 ⟨rfl, b3⟩
      have c3 := below_then c2 b3; clear c2 b3
      go_wp2_with fail
      refine (match_lit p s w3 (p.toList == s.toList) (by rw [streq]; simp only [G.mt, HC.out, G.gm_plain HQ.out]; simp) (by omega) (by omega)).mono ?_
      rintro e w4 ⟨rfl, b4⟩
      have c4 := below_then c3 b4; clear c3 b4
      go_wp2_with fail
      refine (LIVE.out _ c4).mono ?_
      rintro e w5 ⟨rfl, b5⟩
      go_wp2_with fail
      go_ret
      exact ⟨rfl, b5⟩
  · have hc' := neT hc
    clear hc
    go_wp2_with fail
    refine (LIVE.out _ b1).mono ?_
    rintro e w2 ⟨rfl, b2⟩
    go_wp2_with fail
    go_ret
    exact ⟨rfl, b2⟩
end Go.Proofs.Ytjlgaicdognknaa
