/-
  The walk through the reference's Merge.
-/
import Derived.Test.YthcbplameonjlaaPolS
namespace Go.Proofs.Ythcbplameonjlaa
open Go.RowKit
attribute [local go_sem ↓] ex_st_pol
attribute [local go_sem] st_pol_new st_pol

theorem mem_take_succ {m : List Pol} {j : Nat} {x y : Pol} (h : m[j]? = some y) : decide (x ∈ m.take (j + 1)) = (decide (x ∈ m.take j) || decide (y = x)) := by
  obtain ⟨hj, rfl⟩ := List.getElem?_eq_some_iff.1 h
  rw [List.take_succ_eq_append_getElem hj, Bool.eq_iff_iff, Bool.or_eq_true, decide_eq_true_eq, decide_eq_true_eq, decide_eq_true_eq, List.mem_append, List.mem_singleton]
  exact or_congr Iff.rfl eq_comm

set_option maxRecDepth 100000 in
set_option maxHeartbeats 8000000 in
theorem rpmerge_any (A B : Option Addr) (n m c d : Nat) (a b : List Pol) (w : World) (ha : Rd.pol.Holds w A n a) (hb : Rd.pol.Holds w B m b) (hn : n ≤ 400000) (hm : m ≤ 400000) :
    Calls Try.prog 29 #[.slice A n c, .slice B m d] w fun e w' => ∃ v, e = .returned v ∧ Below w.heap.size w w' ∧ OwnPols w' w.heap.size v (Pl.once (a ++ b)) := by
  obtain ⟨i0, hi, hz0, hz1, hz2⟩ := info_parts infoPol
  have HI := Lib.hid hi; have HZ0 := Lib.hid hz0; have HZ1 := Lib.hid hz1; have HZ2 := Lib.hid hz2
  clear hi hz0 hz1 hz2
  have HLA := Lib.hid ha.length
  have HLB := Lib.hid hb.length
  have HOK := Lib.hid ((pol_ok ha).app (pol_ok hb))
  have bo := below_alloc (Below.refl w.heap.size w) (.cells #[] 37)
  have RA := Lib.hid (ha.on bo).1
  have HB := Lib.hid hb
  have OA : Hid (OwnPols (w.alloc (.cells #[] 37)) w.heap.size (.slice (some ⟨w.heap.size, 0, none⟩) 0 0) []) := Lib.hid (own_made w #[] 0 (by omega) rfl (Nat.le_refl _))
  clear ha hb
  go_enter Try.func29, Try.ntmps29
  go_wp2_with (at_builtin; refine app_rows rfl (.tmp 10) (.tmp 11) 22 rfl w.heap.size 37 i0 _ 3 40 Try.underlying22 HI.out HZ0.out HZ1.out HZ2.out rfl (by decide) (by decide) _ 0 [] rfl OA.out _ A n c (Rd.pol.rows a) rfl RA.out ?a2 ?a3 ?a4 ?_)
  case a2 => exact Rd.pol.rows_one' a
  case a3 => omega
  case a4 => exact bo.size
  intro v1 w1 own1 g1
  have b1 : Below w.heap.size w w1 := bo.grown g1 bo.size (fun j hj => (World.ownsRow.lt OA.out _ hj).1)
  have RB := (HB.out.on b1).1
  have hB1 := b1.size
  go_wp2_with (at_builtin; refine app_rows rfl (.tmp 12) (.tmp 13) 22 rfl w.heap.size 37 i0 _ 3 40 Try.underlying22 HI.out HZ0.out HZ1.out HZ2.out rfl (by decide) (by decide) _ _ _ rfl own1 _ B m d (Rd.pol.rows b) rfl RB ?d2 ?d3 ?d4 ?_)
  case d2 => exact Rd.pol.rows_one' b
  case d3 => omega
  case d4 => omega
  intro v2 w2 own2 g2
  have b2 : Below w.heap.size w w2 := b1.grown g2 hB1 (fun j hj => (World.ownsRow.lt own1 _ hj).1)
  obtain ⟨l, hl⟩ : ∃ l, a ++ b = l := ⟨_, rfl⟩
  have own3 : OwnPols w2 w.heap.size v2 l := by
    rw [← hl]
    unfold OwnPols
    rw [List.length_append, Rd.rows_append, HLA.out, HLB.out]
    simpa using own2
  have HE := Lib.hid hl
  rw [hl] at HOK
  obtain ⟨A2, c2, rfl, hr2, _⟩ := own3.form HOK.out
  have hll : l.length ≤ 800000 := by rw [← hl, List.length_append]; have := HLA.out; have := HLB.out; omega
  clear own1 own2 own3 g1 g2 b1 RA RB OA HB hl bo hB1
  go_wp2_with fail
  go_loopw [6, 7] (fun out i wr => ∃ k : Nat, k ≤ l.length ∧ i = .int .i64 k ∧ Below w2.heap.size w2 wr ∧ OwnPols wr w2.heap.size out (Pl.once (l.take k))) (fun _ i _ => l.length - (intOf i).toNat)
  case atStart => exact ⟨0, by omega, rfl, Below.refl _ _, OwnPols.nil _ _⟩
  case round =>
    obtain ⟨k, hk, rfl, hbw, hown⟩ := hrel
    by_cases hkn : k < l.length
    · obtain ⟨b, o, x, rfl, hbl, hu, hmem, _, hxa⟩ := (hr2.on hbw).mid (by decide) hkn
      have HT := Lib.hid (once_take hu)
      have HX : Hid (PolOk [x]) := Lib.hid (HOK.out.sub fun y hy => by simp at hy; subst hy; exact hmem)
      have hlen := Pl.once_length (l.take k)
      have hlen2 : (l.take k).length ≤ k := List.length_take_le _ _
      obtain ⟨mm, hm⟩ : ∃ m, Pl.once (l.take k) = m := ⟨_, rfl⟩
      have hokm : PolOk mm := HOK.out.sub fun y hy => by rw [← hm] at hy; exact List.mem_of_mem_take ((Pl.mem_once _ _).1 hy)
      rw [hm] at hown HT hlen
      have HM := Lib.hid hm
      clear hm hu hmem
      obtain ⟨A3, c3, rfl, hr3, _⟩ := hown.form hokm
      have hk0 : (k : Int) < l.length := by omega
      obtain ⟨wq0, rfl⟩ : ∃ wq0 : World, wq0 = wr := ⟨_, rfl⟩
      go_wp2_with fail
      go_loopw [8, 9] (fun f j wq => ∃ jn : Nat, jn ≤ mm.length ∧ j = .int .i64 jn ∧ f = .bool (decide (x ∈ mm.take jn)) ∧ Below wq0.heap.size wq0 wq) (fun _ j _ => mm.length - (intOf j).toNat)
      case atStart => exact ⟨0, by omega, rfl, by simp, Below.refl _ _⟩
      case round =>
        obtain ⟨jn, hjn, rfl, rfl, hbq⟩ := hrel
        by_cases hj : jn < mm.length
        · obtain ⟨b2', o2, y, rfl, hbl2, hv, _, _, hya⟩ := (hr3.on hbq).mid (by decide) hj
          have hxq := range_on hxa hbq hbl
          have hbl1 : b < wr.heap.size := Nat.lt_of_lt_of_le hbl hbq.size
          have BX := Lib.hid (fun V (h : Below wr.heap.size wr V) => (⟨h, (range_on hxq h hbl1) 0 _ rfl, (range_on hxq h hbl1) 1 _ rfl, (range_on hxq h hbl1) 2 _ rfl, (range_on hya h hbl2) 0 _ rfl, (range_on hya h hbl2) 1 _ rfl, (range_on hya h hbl2) 2 _ rfl⟩ :
            Below wr.heap.size wr V ∧ V.cell? ⟨b, o + k * 3, none⟩ = some (.int .i64 x.about) ∧ V.cell? ⟨b, o + k * 3 + 1, none⟩ = some (.string x.pattern) ∧ V.cell? ⟨b, o + k * 3 + 2, none⟩ = some (.string x.reason) ∧ V.cell? ⟨b2', o2 + jn * 3, none⟩ = some (.int .i64 y.about) ∧ V.cell? ⟨b2', o2 + jn * 3 + 1, none⟩ = some (.string y.pattern) ∧ V.cell? ⟨b2', o2 + jn * 3 + 2, none⟩ = some (.string y.reason)))
          obtain ⟨e1, h1⟩ : ∃ e, decide (y = x) = e := ⟨_, rfl⟩
          obtain ⟨e0, h0⟩ : ∃ e, decide (x ∈ mm.take jn) = e := ⟨_, rfl⟩
          have CD : Hid (∀ V, Calls Try.prog 26 #[polA y, polA x] V (Ret V (.bool e1))) := Lib.hid fun V => by have := samePol_any y x V; rwa [h1] at this
          have HS : Hid (decide (x ∈ mm.take (jn + 1)) = (e0 || e1)) := Lib.hid (by rw [mem_take_succ hv, h0, h1])
          rw [h0]
          have hj0 : (jn : Int) < mm.length := by omega
          clear hv hya h1 h0 hxq
          go_wp2_with fail
          cases e0
          · go_region_held3 (fun V => Below wr.heap.size wr V ∧ V.cell? ⟨b, o + k * 3, none⟩ = some (.int .i64 x.about) ∧ V.cell? ⟨b, o + k * 3 + 1, none⟩ = some (.string x.pattern) ∧ V.cell? ⟨b, o + k * 3 + 2, none⟩ = some (.string x.reason) ∧ V.cell? ⟨b2', o2 + jn * 3, none⟩ = some (.int .i64 y.about) ∧ V.cell? ⟨b2', o2 + jn * 3 + 1, none⟩ = some (.string y.pattern) ∧ V.cell? ⟨b2', o2 + jn * 3 + 2, none⟩ = some (.string y.reason))
              (first | exact BX.out _ (by assumption) | exact BX.out _ (Below.refl _ _) | exact BX.out _ (Below.drew (Below.refl _ _)) | exact BX.out _ (Below.drew (by assumption)))
              (first | (go_at_call 26; have hB := And.left ‹Below wr.heap.size wr _ ∧ _›; refine (CD.out _).mono ?_; rintro e wz ⟨rfl, bz⟩; have bz2 : Below wr.heap.size wr wz := below_then hB bz; clear bz hB))
            all_goals
              have hB9 := below_then hbq (And.left ‹Below wr.heap.size wr _ ∧ _›)
              clear BX CD
              go_wp2_with fail
            all_goals exact ⟨⟨jn + 1, by omega, by go_num, by rw [HS.out]; rfl, hB9⟩, by simp [intOf]; omega⟩
          · clear BX CD
            go_quiet (fail)
            go_wp2_with fail
            exact ⟨⟨jn + 1, by omega, by go_num, by rw [HS.out]; rfl, below_drewN hbq _⟩, by simp [intOf]; omega⟩
        · obtain rfl : jn = mm.length := by omega
          have HE : Hid (decide (x ∈ mm.take mm.length) = decide (x ∈ mm)) := Lib.hid (by rw [List.take_length])
          rw [HE.out]
          have hxq := range_on hxa hbq hbl
          have hbq2 := below_then hbw hbq
          have hown3 := hown.on hbq
          have x0 : wr.cell? ⟨b, o + k * 3, none⟩ = some (.int .i64 x.about) := hxq 0 _ rfl
          have x1 : wr.cell? ⟨b, o + k * 3 + 1, none⟩ = some (.string x.pattern) := hxq 1 _ rfl
          have x2 : wr.cell? ⟨b, o + k * 3 + 2, none⟩ = some (.string x.reason) := hxq 2 _ rfl
          obtain ⟨e0, h0⟩ : ∃ e, decide (x ∈ mm) = e := ⟨_, rfl⟩
          rw [h0]
          have H0 := Lib.hid h0
          clear h0 hxq hxa hr3 hown hbq hbw HE
          cases e0
          · have HE : Hid (Pl.once (l.take (k + 1)) = mm ++ [x]) := Lib.hid (by rw [HT.out, if_neg (of_decide_eq_false H0.out)])
            have hB3 := hbq2.size
            go_wp2_with (at_builtin; refine app_rows rfl (.tmp 41) (.tmp 46) 22 rfl w2.heap.size 37 i0 _ 3 40 Try.underlying22 HI.out HZ0.out HZ1.out HZ2.out rfl (by decide) (by decide) _ mm.length (Rd.pol.rows mm) rfl (owns_on hown3 (below_alloc (Below.refl _ _) _)) _ (some ⟨wr.heap.size, 0, none⟩) 1 1 [.int .i64 x.about, .string x.pattern, .string x.reason] rfl (pol_new HX.out) ?e2 ?e3 ?e4 ?_)
            case e2 => exact Rd.pol.one x
            case e3 => omega
            case e4 => simp; omega
            intro v4 w4 hown4 hg4
            have hb4 : Below w2.heap.size w2 w4 := (below_alloc hbq2 _).grown hg4 (by simp; omega) (fun j hj => (World.ownsRow.lt hown3 _ hj).1)
            have hfin := own_snoc rfl hown4
            rw [← HE.out] at hfin
            clear hown4 hg4 hown3 hbq2 hB3
            go_wp2_with fail
            exact ⟨⟨k + 1, by omega, by go_num, hb4, hfin⟩, by simp [intOf]; omega⟩
          · have HE : Hid (Pl.once (l.take (k + 1)) = mm) := Lib.hid (by rw [HT.out, if_pos (of_decide_eq_true H0.out)])
            rw [← HE.out] at hown3
            have HO := Lib.hid hown3
            have hml : mm.length = (Pl.once (l.take (k + 1))).length := by rw [HE.out]
            rw [← hml] at HO
            clear hown3 hml
            go_wp2_with fail
            exact ⟨⟨k + 1, by omega, by go_num, hbq2, HO.out⟩, by simp [intOf]; omega⟩
    · have hlk : l.take k = l := List.take_of_length_le (by omega)
      rw [hlk] at hown
      clear hlk
      go_wp2_with fail
      go_ret
      exact ⟨_, rfl, below_then b2 hbw, by rw [HE.out]; exact World.ownsRow.mono hown b2.size⟩
end Go.Proofs.Ythcbplameonjlaa
