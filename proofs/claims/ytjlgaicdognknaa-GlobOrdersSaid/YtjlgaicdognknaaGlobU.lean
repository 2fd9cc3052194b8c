/-
  The law GlobLeasts: the shortest text that a pattern matches.
-/
import Derived.Test.YtjlgaicdognknaaGlobT
namespace Go.Proofs.Ytjlgaicdognknaa
open Go.RowKit

theorem shortest_succ {s : ByteArray} {k : Nat} (hk : k < s.size) :
    G.shortest ((bs s).take (k + 1)) = G.shortest ((bs s).take k) ++ (if s[k] = 63 then [120] else if s[k] ≠ 42 then [s[k]] else []) := by
  rw [take_succ s k hk]; simp [G.shortest, List.flatMap_append]
def mk (l : List UInt8) : ByteArray := ⟨l.toArray⟩
theorem bs_mk (l : List UInt8) : bs (mk l) = l := by simp [bs, mk]
theorem mk_bs (s : ByteArray) : mk (bs s) = s := by simp [bs, mk]
/-- the text built after k characters of the pattern -/
def shortS (p : ByteArray) (k : Nat) : ByteArray := mk (G.shortest ((bs p).take k))
theorem shortS_size (p : ByteArray) (k : Nat) : (shortS p k).size ≤ k := by
  have h : (bs (shortS p k)).length ≤ k := by
    rw [shortS, bs_mk, G.shortest_length]; exact least_take k
  rwa [size_list] at h
theorem ext_bs {a b : ByteArray} (h : bs a = bs b) : a = b := by rw [← mk_bs a, ← mk_bs b, h]
theorem shortS_63 {p : ByteArray} {k : Nat} (hk : k < p.size) (h : p[k] = 63) : shortS p k ++ ⟨#[120]⟩ = shortS p (k + 1) := by
  apply ext_bs; rw [bs_append, shortS, shortS, bs_mk, bs_mk, shortest_succ hk, if_pos h]
theorem shortS_42 {p : ByteArray} {k : Nat} (hk : k < p.size) (h : p[k] = 42) : shortS p k = shortS p (k + 1) := by
  apply ext_bs; rw [shortS, shortS, bs_mk, bs_mk, shortest_succ hk, if_neg (by rw [h]; decide), if_neg (by simp [h])]; simp
theorem bs_one {p : ByteArray} {k : Nat} (hk : k < p.size) : bs (p.extract k (k + 1)) = [p[k]] := by
  have h := take_succ p k hk
  rw [bs_extract]
  have : (bs p).drop k = p[k] :: (bs p).drop (k + 1) := by
    rw [List.drop_eq_getElem_cons (by rw [size_list]; exact hk)]; rfl
  rw [this]; simp
theorem shortS_else {p : ByteArray} {k : Nat} (hk : k < p.size) (h : p[k] ≠ 63) (h' : p[k] ≠ 42) : shortS p k ++ p.extract k (k + 1) = shortS p (k + 1) := by
  apply ext_bs; rw [bs_append, shortS, shortS, bs_mk, bs_mk, shortest_succ hk, if_neg h, if_pos h', bs_one hk]
def LeastInv (w : World) (p : ByteArray) (c i : Value) (wr : World) : Prop := ∃ k : Nat, k ≤ p.size ∧ c = .string (shortS p k) ∧ i = .int .i64 k ∧ Below w.heap.size w wr

set_option maxHeartbeats 2000000 in
theorem globLeasts_any (p s : ByteArray) (w : World) (hp : p.size ≤ maxLen) (hs : s.size ≤ maxLen) : Calls Try.prog 8 #[.string p, .string s] w (Ret w (.bool true)) := by
  unfold maxLen at hp hs
  have live : ∀ w1 : World, Below w.heap.size w w1 → Calls Try.prog 20 #[] w1 fun e w' => e = .returned (.bool true) ∧ Below w.heap.size w w' := fun w1 h => (glive_any w1).mono fun e w' ⟨h1, h2⟩ => ⟨h1, below_then h h2⟩
  have LIVE := Lib.hid live; clear live
  by_cases h1 : (200 : Int) < p.size
  · go_enter Try.func8, Try.ntmps8
    go_wp2_with fail
    refine (LIVE.out _ (Below.refl _ _)).mono ?_
    rintro e w1 ⟨rfl, b1⟩
    go_wp2_with fail
    go_ret
    exact ⟨rfl, b1⟩
  by_cases h2 : (200 : Int) < s.size
  · go_enter Try.func8, Try.ntmps8
    go_wp2_with fail
    refine (LIVE.out _ (Below.refl _ _)).mono ?_
    rintro e w1 ⟨rfl, b1⟩
    go_wp2_with fail
    go_ret
    exact ⟨rfl, b1⟩
  have d1 : decide ((200 : Int) < p.size) = false := decide_eq_false h1
  have d2 : decide ((200 : Int) < s.size) = false := decide_eq_false h2
  go_enter Try.func8, Try.ntmps8
  go_wp2_with fail
  refine (check_any p w (by unfold maxLen; omega)).mono ?_
  rintro e w1 ⟨rfl, b1⟩
  by_cases hcp : G.chk (bs p) = 0
  · have HCP := Lib.hid hcp
    rw [hcp]; clear hcp
    go_wp2_with fail
    go_loopw [5, 6] (fun c i wr => LeastInv w p c i wr) (fun _ i _ => p.size - (intOf i).toNat)
    case atStart => exact ⟨0, by omega, rfl, rfl, b1⟩
    case round =>
      clear b1
      obtain ⟨k, hk, rfl, rfl, hbw⟩ := hrel
      have hsz := shortS_size p k
      by_cases hlt : k < p.size
      · have hc := p[k].toNat_lt
        by_cases h63 : (p[k].toNat : Int) = 63
        · have HS := Lib.hid (shortS_63 hlt (u8_is 63 h63))
          have e63 := eqT h63
          have ne42 : ¬ (p[k].toNat : Int) = 42 := by omega
          clear h63
          go_wp2_with fail
          exact ⟨⟨k + 1, by omega, by rw [← HS.out], by go_num, hbw⟩, by simp [intOf]; omega⟩
        · by_cases h42 : (p[k].toNat : Int) = 42
          · have HS := Lib.hid (shortS_42 hlt (u8_is 42 h42))
            go_wp2_with fail
            exact ⟨⟨k + 1, by omega, by rw [← HS.out], by go_num, hbw⟩, by simp [intOf]; omega⟩
          · have HS := Lib.hid (shortS_else hlt (u8_isnt 63 h63) (u8_isnt 42 h42))
            have hz1 : (p.extract k (k + 1)).size ≤ 1 := by simp; omega
            have hz2 : ((p.extract k (k + 1)).size : Int) ≤ 1 := by omega
            go_wp2_with fail
            exact ⟨⟨k + 1, by omega, by rw [← HS.out], by go_num, hbw⟩, by simp [intOf]; omega⟩
      · obtain rfl : k = p.size := by omega
        have hT : bs (shortS p p.size) = G.shortest (bs p) := by rw [shortS, bs_mk, take_all]
        have hL : (shortS p p.size).size = G.least (bs p) := by rw [← size_list, show (shortS p p.size).data.toList = bs (shortS p p.size) from rfl, hT, G.shortest_length]
        have hM : G.mt (bs p) (bs (shortS p p.size)) = true := by rw [hT]; simp [G.mt, HCP.out, G.shortest_matched]
        have hG : G.mt (bs p) (bs s) = true → G.least (bs p) ≤ s.size := fun h => by
          have := G.gm_least (bs p) (bs s) (by simp only [G.mt, Bool.and_eq_true] at h; exact h.2)
          rwa [size_list] at this
        generalize hts : shortS p p.size = t at hsz hL hM ⊢
        clear hT hts
        have HL := Lib.hid hL
        have HM := Lib.hid hM
        have HG := Lib.hid hG
        clear hM hG hL
        go_wp2_with fail
        refine (match_any p s wr (by omega) (by omega)).mono ?_
        rintro e w4 ⟨rfl, b4⟩
        have c4 := below_then hbw b4; clear b4
        have fin : ∀ w1 : World, Below w.heap.size w w1 → Calls Try.prog 18 #[.string p] w1 fun e w' => e = .returned (.int .i64 t.size) ∧ Below w.heap.size w w' := fun w1 h => by
          have := HL.out
          rw [this]
          exact (least_any p w1 (by unfold maxLen; omega)).mono fun e w' ⟨h1, h2⟩ => ⟨h1, below_then h h2⟩
        have FIN := Lib.hid fin; clear fin
        cases hm : G.mt (bs p) (bs s)
        · clear hm
          go_wp2_with fail
          refine (FIN.out _ c4).mono ?_
          rintro e w5 ⟨rfl, b5⟩
          go_wp2_with fail
          refine (match_any p t w5 (by omega) (by omega)).mono ?_
          rw [HM.out]
          rintro e w6 ⟨rfl, b6⟩
          have c6 := below_then b5 b6; clear b6
          go_wp2_with fail
          refine (LIVE.out _ c6).mono ?_
          rintro e w7 ⟨rfl, b7⟩
          go_wp2_with fail
          go_ret
          exact ⟨rfl, b7⟩
        · have hg := HG.out hm
          rw [← HL.out] at hg
          have dg : decide ((t.size : Int) ≤ s.size) = true := decide_eq_true (by omega)
          clear hm
          go_wp2_with fail
          refine (FIN.out _ c4).mono ?_
          rintro e w5 ⟨rfl, b5⟩
          go_wp2_with fail
          refine (FIN.out _ b5).mono ?_
          rintro e w6 ⟨rfl, b6⟩
          go_wp2_with fail
          refine (match_any p t w6 (by omega) (by omega)).mono ?_
          rw [HM.out]
          rintro e w7 ⟨rfl, b7⟩
          have c7 := below_then b6 b7; clear b7
          go_wp2_with fail
          refine (LIVE.out _ c7).mono ?_
          rintro e w8 ⟨rfl, b8⟩
          go_wp2_with fail
          go_ret
          exact ⟨rfl, b8⟩
  · have hc' := neT hcp
    clear hcp
    go_wp2_with fail
    refine (LIVE.out _ b1).mono ?_
    rintro e w2 ⟨rfl, b2⟩
    go_wp2_with fail
    go_ret
    exact ⟨rfl, b2⟩
end Go.Proofs.Ytjlgaicdognknaa
