/-
  The walks through the reference's Match (a table, row by row), First and Any: they compute G.mt and the first index.
-/
import Derived.Test.YthcbplameonjlaaGlobF
import Derived.BigRegion
namespace Go.Proofs.Ythcbplameonjlaa
open Go.RowKit

theorem infoBool : (Try.prog.info? 4).map (fun i => (i.zero, i.size, i.bytes)) = some (some (.bool false), 1, 1) := by kernel_rfl

/-- block g holds the bools l, and nothing else -/
def Bools (w : World) (g : Nat) (l : List Bool) : Prop := w.heap[g]? = some (.cells (l.map Value.bool).toArray 4 (0, 0))
theorem Bools.lt {w : World} {g : Nat} {l : List Bool} (h : Bools w g l) : g < w.heap.size := lt_of_obj h
theorem Bools.cell {w : World} {g : Nat} {l : List Bool} (h : Bools w g l) {i : Nat} {b : Bool} (hi : l[i]? = some b) : w.cell? ⟨g, i, none⟩ = some (.bool b) := by
  rw [cell_of_row w g i _ _ (0, 0) h]; simp [hi]
theorem Bools.free {w : World} {g : Nat} {l : List Bool} (h : Bools w g l) (i : Nat) : w.frozen? ⟨g, i, none⟩ = false := by
  unfold Bools at h; simp [World.frozen?, h]
theorem Bools.set {w : World} {g : Nat} {l : List Bool} (h : Bools w g l) (i : Nat) (b : Bool) : Bools (w.setCell ⟨g, i, none⟩ (.bool b)) g (l.set i b) := by
  unfold Bools at h ⊢
  simp [World.setCell, Array.getElem?_modify, h, List.map_set]
theorem Bools.far {w : World} {g : Nat} {l : List Bool} (h : Bools w g l) {a : Addr} (ha : g ≠ a.block) (u : Value) : Bools (w.setCell a u) g l := (Below.heap_setCell w a u g ha).trans h
theorem Bools.alloc {w : World} {g : Nat} {l : List Bool} (h : Bools w g l) (o : Obj) : Bools (w.alloc o) g l := (Below.heap_alloc w o g h.lt).trans h
theorem Bools.new (w : World) (n : Nat) : Bools (w.alloc (.cells (madeCells #[.bool false] n) 4)) w.heap.size (List.replicate n false) := by
  unfold Bools
  rw [heap_alloc_new w _]
  have : madeCells #[.bool false] n = ((List.replicate n false).map Value.bool).toArray := by
    apply Array.ext'
    rw [toList_madeCells_one]; simp
  rw [this]
theorem made_at (n : Nat) : (madeCells #[.bool false] (n + 1))[0]? = some (.bool false) := by
  rw [← Array.getElem?_toList, toList_madeCells_one]; simp [List.replicate_succ]
theorem Bools.new1 (w : World) (n : Nat) : Bools (w.alloc (.cells ((madeCells #[.bool false] (n + 1)).setIfInBounds 0 (.bool true)) 4)) w.heap.size (true :: List.replicate n false) := by
  unfold Bools
  rw [heap_alloc_new w _]
  have : (madeCells #[.bool false] (n + 1)).setIfInBounds 0 (.bool true) = ((true :: List.replicate n false).map Value.bool).toArray := by
    apply Array.ext'
    rw [Array.toList_setIfInBounds, toList_madeCells_one]; simp [List.replicate_succ]
  rw [this]

/-- the table's row is filled up to place k -/
def Filled (l : List Bool) (P t : List UInt8) (k : Nat) : Prop := l.length = P.length + 1 ∧ ∀ i, i ≤ k → l[i]? = some (G.gm (P.take i) t)
theorem Filled.step {l : List Bool} {P t : List UInt8} {k : Nat} (h : Filled l P t k) (hk : k < P.length) {v : Bool} (hv : v = G.gm (P.take (k + 1)) t) : Filled (l.set (k + 1) v) P t (k + 1) := by
  refine ⟨by rw [List.length_set]; exact h.1, fun i hi => ?_⟩
  rcases Nat.lt_or_ge i (k + 1) with h1 | h1
  · rw [List.getElem?_set_ne (by omega)]; exact h.2 i (by omega)
  · obtain rfl : i = k + 1 := by omega
    rw [List.getElem?_set_self (by rw [h.1]; omega), hv]
theorem Filled.any {l : List Bool} {P t : List UInt8} {k : Nat} (h : Filled l P t k) {i : Nat} (hi : i ≤ P.length) : ∃ b, l[i]? = some b := ⟨_, List.getElem?_eq_getElem (by rw [h.1]; omega)⟩
theorem row_first {s : ByteArray} {j : Nat} (hj : j < s.size) : G.gm [] ((bs s).take (j + 1)) = false := by
  rw [take_succ s j hj]; simp [G.gm]

theorem Filled.zero (p : ByteArray) : Filled (true :: List.replicate p.size false) (bs p) [] 0 := by
  refine ⟨by simp, fun i hi => ?_⟩
  have : i = 0 := by omega
  subst this
  rfl
theorem Filled.start (p s : ByteArray) {j : Nat} (hj : j < s.size) : Filled (List.replicate (p.size + 1) false) (bs p) ((bs s).take (j + 1)) 0 := by
  refine ⟨by simp, fun i hi => ?_⟩
  have : i = 0 := by omega
  subst this
  rw [List.take_zero, row_first hj]; simp [List.replicate_succ]
theorem row0_step (p : ByteArray) (k : Nat) (hk : k < p.size) : G.gm ((bs p).take (k + 1)) [] = (G.gm ((bs p).take k) [] && p[k] == 42) := by rw [take_succ p k hk, G.gm_snoc_nil]
theorem row_star {p s : ByteArray} {k j : Nat} (hk : k < p.size) (hj : j < s.size) (h : p[k] = 42) :
    G.gm ((bs p).take (k + 1)) ((bs s).take (j + 1)) = (G.gm ((bs p).take k) ((bs s).take (j + 1)) || G.gm ((bs p).take (k + 1)) ((bs s).take j)) := by
  rw [take_succ p k hk, take_succ s j hj, h, G.gm_snoc_star]
theorem row_other {p s : ByteArray} {k j : Nat} (hk : k < p.size) (hj : j < s.size) (h : p[k] ≠ 42) :
    G.gm ((bs p).take (k + 1)) ((bs s).take (j + 1)) = (G.gm ((bs p).take k) ((bs s).take j) && (p[k] == 63 || p[k] == s[j])) := by
  rw [take_succ p k hk, take_succ s j hj, G.gm_snoc _ _ _ h]
def Row0Inv (w w1 : World) (p : ByteArray) (i : Value) (wr : World) : Prop :=
  ∃ (k : Nat) (l : List Bool), k ≤ p.size ∧ i = .int .i64 k ∧ Bools wr w1.heap.size l ∧ Filled l (bs p) [] k ∧ Below w.heap.size w wr
def RowsInv (w : World) (p s : ByteArray) (r j : Value) (wr : World) : Prop :=
  ∃ (jn g : Nat) (l : List Bool), r = .slice (some ⟨g, 0, none⟩) (p.size + 1) (p.size + 1) ∧ j = .int .i64 jn ∧ jn ≤ s.size ∧ w.heap.size ≤ g ∧ Bools wr g l ∧ Filled l (bs p) ((bs s).take jn) p.size ∧ Below w.heap.size w wr
def RowInv (w : World) (p s : ByteArray) (jn g g2 : Nat) (i : Value) (wr : World) : Prop :=
  ∃ (k : Nat) (l l2 : List Bool), k ≤ p.size ∧ i = .int .i64 k ∧ Bools wr g l ∧ Bools wr g2 l2 ∧ Filled l (bs p) ((bs s).take jn) p.size ∧ Filled l2 (bs p) ((bs s).take (jn + 1)) k ∧ Below w.heap.size w wr

theorem RowInv.drew {w : World} {p s : ByteArray} {jn g g2 : Nat} {i : Value} {wr : World} (h : RowInv w p s jn g g2 i wr) : RowInv w p s jn g g2 i wr.drew := by
  obtain ⟨k, l, l2, h1, h2, h3, h4, h5, h6, h7⟩ := h
  exact ⟨k, l, l2, h1, h2, h3, h4, h5, h6, h7.drew⟩

set_option maxHeartbeats 1000000 in
theorem rmatch_any (p s : ByteArray) (w : World) (hp : p.size ≤ 1000000) (hs : s.size ≤ 1000000) :
    Calls Try.prog 42 #[.string p, .string s] w (Ret w (.bool (G.mt (bs p) (bs s)))) := by
  by_cases hc : G.chk (bs p) = 0
  · have HG : Hid (G.mt (bs p) (bs s) = G.gm (bs p) (bs s)) := by show _ = _; simp [G.mt, hc]
    have HC := Lib.hid hc; clear hc
    obtain ⟨i0, hi, hz0, hz1, hz2⟩ := info_parts infoBool
    have hmk : ∀ u : World, (Instr.makeSlice 85 (.int .i64 ((p.size : Int) + 1)) (.int .i64 ((p.size : Int) + 1))).run Try.prog u =
        .ok (.slice (some ⟨u.heap.size, 0, none⟩) (p.size + 1) (p.size + 1)) (u.alloc (.cells (madeCells #[.bool false] (p.size + 1)) 4)) := fun u => by
      have h := run_make (P := Try.prog) u 85 4 i0 (.bool false) Try.underlying85 hi hz0 .i64 .i64 ((p.size : Int) + 1) ((p.size : Int) + 1) (by omega) (Int.le_refl _) (by rw [hz2]; omega) (by omega)
      have e : ((p.size : Int) + 1).toNat = p.size + 1 := by omega
      rw [e] at h
      simpa [hz1, Value.cells] using h
    go_enter Try.func42, Try.ntmps42
    go_wp2_with fail
    refine (rcheck_any p w (by unfold maxLen; omega)).mono ?_
    rintro e w1 ⟨rfl, hb1⟩
    rw [HC.out]
    have hma := made_at p.size
    have hlist : (bs p).length = p.size := size_list p
    have HLI := Lib.hid hlist; clear hlist
    have hn0 : 0 < p.size + 1 := by omega
    go_wp2_with fail
    go_loopw [6] (fun i wr => Row0Inv w w1 p i wr) (fun i _ => p.size - (intOf i).toNat)
    case atStart => exact ⟨0, _, by omega, rfl, Bools.new1 w1 p.size, Filled.zero p, below_alloc hb1 _⟩
    case round =>
      obtain ⟨k, l, hk, rfl, hbl, hfi, hbw⟩ := hrel
      by_cases hlt : k < p.size
      · have HF := Lib.hid hfi; clear hfi
        have hlt' : (k : Int) < (p.size : Int) + 1 := by omega
        have hlt2 : (k : Int) + 1 < (p.size : Int) + 1 := by omega
        obtain ⟨b1, hb1'⟩ := HF.out.any (i := k + 1) (by have := HLI.out; omega)
        have hc1 := hbl.cell (HF.out.2 k (Nat.le_refl _))
        have hc2 := hbl.cell hb1'
        have hf2 := hbl.free (k + 1)
        have HB1 := Lib.hid hb1'; clear hb1'
        have hst := row0_step p k hlt
        have HST := Lib.hid hst; clear hst
        have HBL := Lib.hid hbl; clear hbl
        have hgw : w.heap.size ≤ w1.heap.size := hb1.size
        have hfin : ∀ v, v = (G.gm ((bs p).take k) [] && p[k] == 42) → Row0Inv w w1 p (.int .i64 ((k : Int) + 1)) (wr.setCell ⟨w1.heap.size, k + 1, none⟩ (.bool v)) := fun v hv =>
          ⟨k + 1, l.set (k + 1) v, hlt, by go_num, HBL.out.set _ _, HF.out.step (by have := HLI.out; omega) (by rw [hv, HST.out]), hbw.setCell hgw _⟩
        have HFIN := Lib.hid hfin; clear hfin
        by_cases h42 : (p[k].toNat : Int) = 42
        · have e42 := eqT h42
          have H42 := Lib.hid (u8_is (c := p[k]) 42 h42)
          cases hg : G.gm ((bs p).take k) []
          all_goals
            rw [hg] at hc1
            have HGG := Lib.hid hg; clear hg
            go_wp2_with fail
            exact ⟨HFIN.out _ (by rw [HGG.out, H42.out]; rfl), by simp [intOf]; omega⟩
        · have e42 := eqF h42
          have H42 := Lib.hid (u8_isnt (c := p[k]) 42 h42)
          cases hg : G.gm ((bs p).take k) []
          all_goals
            rw [hg] at hc1
            have HGG := Lib.hid hg; clear hg
            go_wp2_with fail
            exact ⟨HFIN.out _ (by rw [HGG.out]; simp [H42.out]), by simp [intOf]; omega⟩
      · have hkp : k = p.size := by omega
        subst hkp
        have HF := Lib.hid hfi; clear hfi
        go_wp2_with fail
        go_loopw [5, 7] (fun r j wr => RowsInv w p s r j wr) (fun _ j _ => s.size - (intOf j).toNat)
        case atStart => exact ⟨0, w1.heap.size, l, rfl, rfl, by omega, hb1.size, hbl, HF.out, hbw⟩
        case round =>
          clear hbl HF hbw hb1
          obtain ⟨jn, g, l, rfl, rfl, hj, hwg, hbl, hfi, hbw⟩ := hrel
          have HF := Lib.hid hfi; clear hfi
          by_cases hjt : jn < s.size
          · obtain ⟨wo, rfl⟩ : ∃ wo : World, wo = wr := ⟨_, rfl⟩
            have hgo := hbl.lt
            have hwo : w.heap.size ≤ wo.heap.size := hbw.size
            go_wp2_with fail
            go_loopw [9] (fun i wr => RowInv w p s jn g wo.heap.size i wr) (fun i _ => p.size - (intOf i).toNat)
            case atStart => exact ⟨0, l, _, by omega, rfl, hbl.alloc _, Bools.new wo (p.size + 1), HF.out, Filled.start p s hjt, below_alloc hbw _⟩
            case round =>
              clear hbl HF hbw
              obtain ⟨k, l, l2, hk, rfl, hbl, hbl2, hfi, hfi2, hbw⟩ := hrel
              have HF := Lib.hid hfi; clear hfi
              have HF2 := Lib.hid hfi2; clear hfi2
              by_cases hkt : k < p.size
              · have hlt' : (k : Int) < (p.size : Int) + 1 := by omega
                have hlt2 : (k : Int) + 1 < (p.size : Int) + 1 := by omega
                obtain ⟨b1, hb1'⟩ := HF2.out.any (i := k + 1) (by have := HLI.out; omega)
                have hc1 := hbl.cell (HF.out.2 k hk)
                have hc2 := hbl.cell (HF.out.2 (k + 1) hkt)
                have hn1 := hbl2.cell (HF2.out.2 k (Nat.le_refl _))
                have hn2 := hbl2.cell hb1'
                have hf2 := hbl2.free (k + 1)
                have HB1 := Lib.hid hb1'; clear hb1'
                have HBL := Lib.hid hbl; clear hbl
                have HBL2 := Lib.hid hbl2; clear hbl2
                have hfin : ∀ v wq, Bools wq g l → Bools wq wo.heap.size l2 → Below w.heap.size w wq → v = G.gm ((bs p).take (k + 1)) ((bs s).take (jn + 1)) → RowInv w p s jn g wo.heap.size (.int .i64 ((k : Int) + 1)) (wq.setCell ⟨wo.heap.size, k + 1, none⟩ (.bool v)) := fun v wq h1 h2 h3 hv =>
                  ⟨k + 1, l, l2.set (k + 1) v, hkt, by go_num, h1.far (a := ⟨wo.heap.size, k + 1, none⟩) (fun e => by simp at e; omega) _, h2.set _ _, HF.out, HF2.out.step (by have := HLI.out; omega) hv, h3.setCell hwo _⟩
                have HFIN := Lib.hid hfin; clear hfin
                by_cases h42 : (p[k].toNat : Int) = 42
                · have e42 := eqT h42
                  have hst := row_star hkt hjt (u8_is (c := p[k]) 42 h42)
                  have HST := Lib.hid hst; clear hst
                  cases hg : G.gm ((bs p).take k) ((bs s).take (jn + 1))
                  all_goals
                    rw [hg] at hn1
                    have HGG := Lib.hid hg; clear hg
                    go_wp2_with fail
                    exact ⟨HFIN.out _ _ HBL.out HBL2.out hbw (by rw [HST.out, HGG.out]; rfl), by simp [intOf]; omega⟩
                · have e42 := eqF h42
                  have hst := row_other hkt hjt (u8_isnt (c := p[k]) 42 h42)
                  have HST := Lib.hid hst; clear hst
                  cases hg : G.gm ((bs p).take k) ((bs s).take jn)
                  · rw [hg] at hc1
                    have HGG := Lib.hid hg; clear hg
                    go_wp2_with fail
                    go_region
                    go_wp2_with fail
                    exact ⟨RowInv.drew (HFIN.out _ _ HBL.out HBL2.out hbw (by rw [HST.out, HGG.out]; rfl)), by simp [intOf]; omega⟩
                  · rw [hg] at hc1
                    have HGG := Lib.hid hg; clear hg
                    by_cases h63 : (p[k].toNat : Int) = 63
                    · have e63 := eqT h63
                      have H63 := Lib.hid (u8_is (c := p[k]) 63 h63)
                      go_wp2_with fail
                      go_region
                      go_wp2_with fail
                      exact ⟨RowInv.drew (HFIN.out _ _ HBL.out HBL2.out hbw (by rw [HST.out, HGG.out, H63.out]; rfl)), by simp [intOf]; omega⟩
                    · have e63 := eqF h63
                      have H63 := Lib.hid (u8_isnt (c := p[k]) 63 h63)
                      by_cases hps : (p[k].toNat : Int) = (s[jn].toNat : Int)
                      · have eps := eqT hps
                        have HPS := Lib.hid (u8_is (c := p[k]) s[jn] hps)
                        clear hps
                        go_wp2_with fail
                        go_region
                        go_wp2_with fail
                        exact ⟨RowInv.drew (HFIN.out _ _ HBL.out HBL2.out hbw (by rw [HST.out, HGG.out]; simp [HPS.out])), by simp [intOf]; omega⟩
                      · have eps := eqF hps
                        have HPS := Lib.hid (u8_isnt (c := p[k]) s[jn] hps)
                        clear hps
                        go_wp2_with fail
                        go_region
                        go_wp2_with fail
                        exact ⟨RowInv.drew (HFIN.out _ _ HBL.out HBL2.out hbw (by rw [HST.out, HGG.out]; simp [H63.out, HPS.out])), by simp [intOf]; omega⟩
              · have hkp : k = p.size := by omega
                subst hkp
                go_wp2_with fail
                exact ⟨⟨jn + 1, wo.heap.size, l2, rfl, by go_num, hjt, hwo, hbl2, HF2.out, hbw⟩, by simp [intOf]; omega⟩
          · have hjs : jn = s.size := by omega
            have HJ := Lib.hid hjs; clear hjs
            have hcl := hbl.cell (HF.out.2 p.size (Nat.le_refl _))
            have hlt2 : (p.size : Int) < (p.size : Int) + 1 := by omega
            go_wp2_with fail
            go_ret
            exact ⟨ret_bool (by rw [HG.out, HJ.out, take_all, take_all]), hbw⟩
  · have HM : Hid (G.mt (bs p) (bs s) = false) := by show _ = _; simp [G.mt, hc]
    have hc' := neT hc
    go_enter Try.func42, Try.ntmps42
    go_wp2_with fail
    refine (rcheck_any p w (by unfold maxLen; omega)).mono ?_
    rintro e w1 ⟨rfl, hb1⟩
    go_wp2_with fail
    go_ret
    exact ⟨ret_bool HM.out.symm, hb1⟩
end Go.Proofs.Ythcbplameonjlaa
