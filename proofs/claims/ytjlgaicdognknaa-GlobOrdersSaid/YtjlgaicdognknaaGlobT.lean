/-
  The laws GlobCuts and GlobLeasts.
-/
import Derived.Test.YtjlgaicdognknaaGlobS
namespace Go.Proofs.Ytjlgaicdognknaa
open Go.RowKit

theorem bs_append (a b : ByteArray) : bs (a ++ b) = bs a ++ bs b := by simp [bs]
/-- some cut below k -/
def cutTo (p q s : ByteArray) (k : Nat) : Bool := (List.range k).any fun i => G.mt (bs p) ((bs s).take i) && G.mt (bs q) ((bs s).drop i)
theorem cutTo_succ (p q s : ByteArray) (k : Nat) : cutTo p q s (k + 1) = (cutTo p q s k || (G.mt (bs p) ((bs s).take k) && G.mt (bs q) ((bs s).drop k))) := by
  simp [cutTo, List.range_succ, List.any_append]
theorem cut_all {p q s : ByteArray} (hp : G.chk (bs p) = 0) (hq : G.chk (bs q) = 0) (hpq : G.chk (bs (p ++ q)) = 0) : G.mt (bs (p ++ q)) (bs s) = cutTo p q s (s.size + 1) := by
  rw [Bool.eq_iff_iff]
  have hpq' := hpq
  rw [bs_append] at hpq'
  simp only [G.mt, hpq', decide_true, Bool.true_and, bs_append, G.gm_append, cutTo, List.any_eq_true, List.mem_range, Bool.and_eq_true, hp, hq, size_list]
  constructor
  · rintro ⟨i, hi, h⟩; exact ⟨i, by omega, h⟩
  · rintro ⟨i, hi, h⟩; exact ⟨i, by omega, h⟩
def CutInv (w : World) (p q s : ByteArray) (c i : Value) (wr : World) : Prop := ∃ k : Nat, k ≤ s.size + 1 ∧ c = .bool (cutTo p q s k) ∧ i = .int .i64 k ∧ Below w.heap.size w wr

set_option maxHeartbeats 2000000 in
theorem globCuts_any (p q s : ByteArray) (w : World) (hp : p.size ≤ maxLen) (hq : q.size ≤ maxLen) (hs : s.size ≤ maxLen) : Calls Try.prog 7 #[.string p, .string q, .string s] w (Ret w (.bool true)) := by
  unfold maxLen at hp hq hs
  have live : ∀ w1 : World, Below w.heap.size w w1 → Calls Try.prog 20 #[] w1 fun e w' => e = .returned (.bool true) ∧ Below w.heap.size w w' := fun w1 h => (glive_any w1).mono fun e w' ⟨h1, h2⟩ => ⟨h1, below_then h h2⟩
  have LIVE := Lib.hid live; clear live
  by_cases h1 : (100 : Int) < p.size
  · go_enter Try.func7, Try.ntmps7
    go_wp2_with fail
    refine (LIVE.out _ (Below.refl _ _)).mono ?_
    rintro e w1 ⟨rfl, b1⟩
    go_wp2_with fail
    go_ret
    exact ⟨rfl, b1⟩
  by_cases h2 : (100 : Int) < q.size
  · go_enter Try.func7, Try.ntmps7
    go_wp2_with fail
    refine (LIVE.out _ (Below.refl _ _)).mono ?_
    rintro e w1 ⟨rfl, b1⟩
    go_wp2_with fail
    go_ret
    exact ⟨rfl, b1⟩
  by_cases h3 : (100 : Int) < s.size
  · go_enter Try.func7, Try.ntmps7
    go_wp2_with fail
    refine (LIVE.out _ (Below.refl _ _)).mono ?_
    rintro e w1 ⟨rfl, b1⟩
    go_wp2_with fail
    go_ret
    exact ⟨rfl, b1⟩
  have d1 : decide ((100 : Int) < p.size) = false := decide_eq_false h1
  have d2 : decide ((100 : Int) < q.size) = false := decide_eq_false h2
  have d3 : decide ((100 : Int) < s.size) = false := decide_eq_false h3
  have hz : (p ++ q).size ≤ 1000000 := by rw [ByteArray.size_append]; omega
  have hzs : (p.size : Int) + q.size ≤ 200 := by omega
  go_enter Try.func7, Try.ntmps7
  go_wp2_with fail
  refine (check_any p w (by unfold maxLen; omega)).mono ?_
  rintro e w1 ⟨rfl, b1⟩
  by_cases hcp : G.chk (bs p) = 0
  · have HCP := Lib.hid hcp
    rw [hcp]; clear hcp
    go_wp2_with fail
    refine (check_any q w1 (by unfold maxLen; omega)).mono ?_
    rintro e w2 ⟨rfl, b2⟩
    have c2 := below_then b1 b2; clear b1 b2
    by_cases hcq : G.chk (bs q) = 0
    · have HCQ := Lib.hid hcq
      rw [hcq]; clear hcq
      go_wp2_with fail
      refine (check_any (p ++ q) w2 (by unfold maxLen; omega)).mono ?_
      rintro e w3 ⟨rfl, b3⟩
      have c3 := below_then c2 b3; clear c2 b3
      have HZ := Lib.hid (rfl : G.chk (bs (p ++ q)) = G.chk (bs (p ++ q)))
      generalize hzz : G.chk (bs (p ++ q)) = zz at HZ ⊢
      clear HZ
      have HZZ := Lib.hid hzz
      clear hzz
      by_cases hcr : zz = 0
      · have HCR : Hid (G.chk (bs (p ++ q)) = 0) := by have := HZZ.out; show _ = _; rw [this, hcr]
        clear HZZ
        subst hcr
        go_wp2_with fail
        go_loopw [7, 8] (fun c i wr => CutInv w p q s c i wr) (fun _ i _ => s.size + 1 - (intOf i).toNat)
        case atStart => exact ⟨0, by omega, rfl, rfl, c3⟩
        case round =>
          clear c3
          obtain ⟨k, hk, rfl, rfl, hbw⟩ := hrel
          by_cases hlt : k ≤ s.size
          · have hS := cutTo_succ p q s k
            have HT : Hid (bs (s.extract 0 k) = (bs s).take k) := by show _ = _; rw [bs_extract]; simp
            have HD : Hid (bs (s.extract k s.size) = (bs s).drop k) := by show _ = _; rw [bs_extract, List.take_of_length_le (by rw [List.length_drop, size_list]; exact Nat.le_refl _)]
            rw [← HT.out, ← HD.out] at hS
            have HS := Lib.hid hS; clear hS HT HD
            cases hc : cutTo p q s k
            · have HC := Lib.hid hc; clear hc
              go_wp2_with fail
              refine (match_any p _ wr (by omega) (by simp; omega)).mono ?_
              rintro e w4 ⟨rfl, b4⟩
              have c4 := below_then hbw b4; clear b4
              cases hm : G.mt (bs p) (bs (s.extract 0 k))
              · have HM := Lib.hid hm; clear hm
                go_wp2_with fail
                exact ⟨⟨k + 1, by omega, by rw [HS.out, HC.out, HM.out]; rfl, by go_num, c4⟩, by simp [intOf]; omega⟩
              · have HM := Lib.hid hm; clear hm
                go_wp2_with fail
                refine (match_any q _ w4 (by omega) (by simp; omega)).mono ?_
                rintro e w5 ⟨rfl, b5⟩
                have c5 := below_then c4 b5; clear b5
                go_wp2_with fail
                exact ⟨⟨k + 1, by omega, by rw [HS.out, HC.out, HM.out]; rfl, by go_num, c5⟩, by simp [intOf]; omega⟩
            · have HC := Lib.hid hc; clear hc
              go_wp2_with fail
              exact ⟨⟨k + 1, by omega, by rw [HS.out, HC.out]; rfl, by go_num, hbw⟩, by simp [intOf]; omega⟩
          · have hks : k = s.size + 1 := by omega
            have HA := Lib.hid (cut_all (s := s) HCP.out HCQ.out HCR.out)
            have hcut : cutTo p q s k = G.mt (bs (p ++ q)) (bs s) := by rw [HA.out, hks]
            rw [hcut]; clear hcut hks HA HCP HCQ HCR
            generalize hmm : G.mt (bs (p ++ q)) (bs s) = mm
            have HMM := Lib.hid hmm
            clear hmm
            go_wp2_with fail
            refine (match_any (p ++ q) s wr (by omega) (by omega)).mono ?_
            rintro e w4 ⟨rfl, b4⟩
            rw [HMM.out]
            have c4 := below_then hbw b4; clear b4
            go_wp2_with fail
            refine (LIVE.out _ c4).mono ?_
            rintro e w5 ⟨rfl, b5⟩
            go_wp2_with fail
            go_ret
            exact ⟨rfl, b5⟩
      · have hc' := neT hcr
        clear hcr
        go_wp2_with fail
        refine (LIVE.out _ c3).mono ?_
        rintro e w4 ⟨rfl, b4⟩
        go_wp2_with fail
        go_ret
        exact ⟨rfl, b4⟩
    · have hc' := neT hcq
      clear hcq
      go_wp2_with fail
      refine (LIVE.out _ c2).mono ?_
      rintro e w4 ⟨rfl, b4⟩
      go_wp2_with fail
      go_ret
      exact ⟨rfl, b4⟩
  · have hc' := neT hcp
    clear hcp
    go_wp2_with fail
    refine (LIVE.out _ b1).mono ?_
    rintro e w2 ⟨rfl, b2⟩
    go_wp2_with fail
    go_ret
    exact ⟨rfl, b2⟩
end Go.Proofs.Ytjlgaicdognknaa
