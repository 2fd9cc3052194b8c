/-
  The walk through the examples of chapter 14. (Printed by wip/gen/gen_acca.py.)
-/
import Derived.Test.YtbdbhnmeainmfaaAccG
namespace Go.Proofs.Ytbdbhnmeainmfaa
open Go.RowKit

attribute [local go_sem ↓] execOp_ld_cnt
attribute [local go_sem] run_ld_cnt

/-- the content of the examples, its lists in the blocks g and g + 1 -/
def awC (g : Nat) : Cnt := ⟨⟨#[]⟩, 0, 0, false, ⟨#[]⟩, ⟨some ⟨g, 0, none⟩, 1, 1, [⟨#[42]⟩]⟩, ⟨some ⟨g + 1, 0, none⟩, 1, 1, [⟨#[101, 118, 105, 108, 46, 42]⟩]⟩, ⟨⟨none, 0, 0, []⟩, ⟨none, 0, 0, []⟩, 0, 0, 0, 0, 0, 0, 0⟩⟩
theorem awC_is (G : Nat) : cv (awC G) = .agg #[.string ⟨#[]⟩, .int .i64 0, .int .i64 0, .bool false, .string ⟨#[]⟩, .slice (some ⟨G, 0, none⟩) 1 1, .slice (some ⟨G + 1, 0, none⟩) 1 1, .slice none 0 0, .slice none 0 0, .int .i64 0, .int .i64 0, .int .i64 0, .int .i64 0, .int .i64 0, .int .i64 0, .int .i64 0] := rfl
theorem zC_is : cv zCnt = .agg #[.string ⟨#[]⟩, .int .i64 0, .int .i64 0, .bool false, .string ⟨#[]⟩, .slice none 0 0, .slice none 0 0, .slice none 0 0, .slice none 0 0, .int .i64 0, .int .i64 0, .int .i64 0, .int .i64 0, .int .i64 0, .int .i64 0, .int .i64 0] := rfl
def awE (k : Int) (c : Cnt) : Ev := ⟨0, ⟨#[]⟩, ⟨#[]⟩, k, false, ⟨#[]⟩, 0, 0, ⟨none, 0, 0, []⟩, ⟨none, 0, 0, []⟩, c, 0, ⟨⟨#[]⟩, 0⟩⟩
theorem i_zero : -9223372036854775808 ≤ (0 : Int) ∧ (0 : Int) ≤ 9223372036854775807 := ⟨by omega, by omega⟩
theorem s_zero : (⟨#[]⟩ : ByteArray).size ≤ maxLen := Nat.zero_le _
theorem sl_zero {α : Type} {r : Rd α} {w : World} : (Rd.slice r).Ok w ⟨none, 0, 0, []⟩ := ⟨Rd.Holds.none_, Nat.le_refl _, Nat.zero_le _⟩
theorem lvs_zero {w : World} : Rd.lvs.Ok w ⟨⟨none, 0, 0, []⟩, ⟨none, 0, 0, []⟩, 0, 0, 0, 0, 0, 0, 0⟩ := ⟨sl_zero, sl_zero, i_zero, i_zero, i_zero, i_zero, i_zero, i_zero, i_zero, trivial⟩
theorem zC_ok {w : World} : Rd.cnt.Ok w zCnt := ⟨s_zero, i_zero, i_zero, trivial, s_zero, sl_zero, sl_zero, lvs_zero, trivial⟩
theorem awE_ok {w : World} {k : Int} {c : Cnt} (hk : -9223372036854775808 ≤ k ∧ k ≤ 9223372036854775807) (h : Rd.cnt.Ok w c) : Rd.ev.Ok w (awE k c) :=
  ⟨i_zero, s_zero, s_zero, hk, trivial, s_zero, i_zero, i_zero, sl_zero, sl_zero, h, i_zero, ⟨s_zero, i_zero, trivial⟩, trivial⟩
theorem str_holds {w : World} {A : Option Addr} {n : Nat} {l : List ByteArray} (h : Strs w A n l) (hs : ∀ x ∈ l, x.size ≤ maxLen) : Rd.str.Holds w A n l := ⟨by rw [rows_str]; exact h, h.length, hs⟩
theorem awC_ok {w : World} {g : Nat} (ha : Strs w (some ⟨g, 0, none⟩) 1 [⟨#[42]⟩]) (hd : Strs w (some ⟨g + 1, 0, none⟩) 1 [⟨#[101, 118, 105, 108, 46, 42]⟩]) : Rd.cnt.Ok w (awC g) :=
  ⟨s_zero, i_zero, i_zero, trivial, s_zero, ⟨str_holds ha (by intro x hx; have hx' : x ∈ [(⟨#[42]⟩ : ByteArray)] := hx; simp at hx'; subst hx'; unfold maxLen; decide), Nat.le_refl _, (by show 1 ≤ maxLen; unfold maxLen; decide)⟩,
    ⟨str_holds hd (by intro x hx; have hx' : x ∈ [(⟨#[101, 118, 105, 108, 46, 42]⟩ : ByteArray)] := hx; simp at hx'; subst hx'; unfold maxLen; decide), Nat.le_refl _, (by show 1 ≤ maxLen; unfold maxLen; decide)⟩, lvs_zero, trivial⟩
theorem awC_lists {w : World} {g : Nat} (ha : Strs w (some ⟨g, 0, none⟩) 1 [⟨#[42]⟩]) (hd : Strs w (some ⟨g + 1, 0, none⟩) 1 [⟨#[101, 118, 105, 108, 46, 42]⟩]) : Lists w (awC g) :=
  ⟨ha, hd, (by show 1 ≤ 1000000; omega), (by show 1 ≤ 1000000; omega), (by intro x hx; simp [awC] at hx; subst hx; decide), (by intro x hx; simp [awC] at hx; subst hx; decide)⟩
theorem zC_lists {w : World} : Lists w zCnt := ⟨Reads.none_, Reads.none_, (by show 0 ≤ 1000000; omega), (by show 0 ≤ 1000000; omega), (by intro x hx; simp [zCnt] at hx), (by intro x hx; simp [zCnt] at hx)⟩
theorem ok_a (g : Nat) : okB (awC g) ⟨#[97]⟩ = true := by
  show (!anyI [⟨#[101, 118, 105, 108, 46, 42]⟩] ⟨#[97]⟩ && anyI [⟨#[42]⟩] ⟨#[97]⟩) = true
  decide
theorem ok_evil (g : Nat) : okB (awC g) ⟨#[101, 118, 105, 108, 46, 120]⟩ = false := by
  show (!anyI [⟨#[101, 118, 105, 108, 46, 42]⟩] ⟨#[101, 118, 105, 108, 46, 120]⟩ && anyI [⟨#[42]⟩] ⟨#[101, 118, 105, 108, 46, 120]⟩) = false
  decide
theorem ok_none (s : ByteArray) : okB zCnt s = false := by
  show (!anyI [] s && anyI [] s) = false
  have : anyI [] s = false := by show decide (0 ≤ (-1 : Int)) = false; decide
  rw [this]; rfl
theorem of_two (c : Cnt) : ofC [awE 7 zCnt, awE 6 c] = some c := rfl
theorem of_one (c : Cnt) : ofC [awE 6 c] = some c := rfl
theorem of_nil : ofC [] = none := rfl
theorem box_lit {w : World} {g : Nat} {c : Cnt} (h : Box w g (Rd.cnt.cells c)) : hasRow w g 0 16 = true ∧ rowAt w g 0 16 = cv c := row_of h.at_ rfl

set_option maxRecDepth 100000 in
set_option maxHeartbeats 4000000 in
theorem awake14_any (w : World) : Calls Try.prog 8 #[] w (Ret w (.bool true)) := by
  go_enter Try.func8, Try.ntmps8
  go_upto_region 2 with fail
  obtain ⟨wa, hwa⟩ : ∃ wa : World, wa = ((w.alloc (.cells #[.string ⟨#[42]⟩] 9)).alloc (.cells #[.string ⟨#[101, 118, 105, 108, 46, 42]⟩] 9)).alloc (.cells #[.string ⟨#[]⟩, .int .i64 0, .int .i64 0, .bool false, .string ⟨#[]⟩, .slice (some ⟨w.heap.size, 0, none⟩) 1 1, .slice (some ⟨w.heap.size + 1, 0, none⟩) 1 1, .slice none 0 0, .slice none 0 0, .int .i64 0, .int .i64 0, .int .i64 0, .int .i64 0, .int .i64 0, .int .i64 0, .int .i64 0] 28) := ⟨_, rfl⟩
  rw [← hwa]
  have hba : Below w.heap.size w wa := by rw [hwa]; exact below_alloc (below_alloc (below_alloc (Below.refl _ _) _) _) _
  have sa : Strs wa (some ⟨w.heap.size, 0, none⟩) 1 [⟨#[42]⟩] := by
    rw [hwa]; exact (Strs.new w _ _ [⟨#[42]⟩] 1 rfl rfl).on (below_alloc (below_alloc (Below.refl _ _) _) _)
  have sd : Strs wa (some ⟨w.heap.size + 1, 0, none⟩) 1 [⟨#[101, 118, 105, 108, 46, 42]⟩] := by
    rw [hwa]
    have := (Strs.new (w.alloc (.cells #[.string ⟨#[42]⟩] 9)) #[.string ⟨#[101, 118, 105, 108, 46, 42]⟩] 9 [⟨#[101, 118, 105, 108, 46, 42]⟩] 1 rfl rfl).on (below_alloc (Below.refl _ _) (.cells #[.string ⟨#[]⟩, .int .i64 0, .int .i64 0, .bool false, .string ⟨#[]⟩, .slice (some ⟨w.heap.size, 0, none⟩) 1 1, .slice (some ⟨w.heap.size + 1, 0, none⟩) 1 1, .slice none 0 0, .slice none 0 0, .int .i64 0, .int .i64 0, .int .i64 0, .int .i64 0, .int .i64 0, .int .i64 0, .int .i64 0] 28))
    simpa using this
  have bx : Box wa (w.heap.size + 1 + 1) (Rd.cnt.cells (awC w.heap.size)) := by
    rw [hwa]
    have := Box.new ((w.alloc (.cells #[.string ⟨#[42]⟩] 9)).alloc (.cells #[.string ⟨#[101, 118, 105, 108, 46, 42]⟩] 9)) (Rd.cnt.cells (awC w.heap.size)) 28
    rw [show ((w.alloc (.cells #[.string ⟨#[42]⟩] 9)).alloc (.cells #[.string ⟨#[101, 118, 105, 108, 46, 42]⟩] 9)).heap.size = w.heap.size + 1 + 1 from by simp] at this
    exact this
  clear hwa
  have CO := Lib.hid (fun (W : World) (h : Below wa.heap.size wa W) => awC_ok (sa.on h) (sd.on h))
  have CL := Lib.hid (fun (W : World) (h : Below wa.heap.size wa W) => awC_lists (sa.on h) (sd.on h))
  obtain ⟨h1, v1⟩ := box_lit bx
  rw [awC_is] at v1
  go_wp2_with fail
  refine (of_any _ _ _ [awE 7 zCnt, awE 6 (awC w.heap.size)] _ (Rd.Holds.new Rd.ev _ _ _ _ _ rfl rfl ?ok) (by show 2 ≤ 1000000; omega)).mono ?_
  case ok =>
    intro x hx
    simp only [List.mem_cons, List.not_mem_nil, or_false] at hx
    rcases hx with rfl | rfl
    · exact awE_ok ⟨by omega, by omega⟩ zC_ok
    · exact awE_ok ⟨by omega, by omega⟩ (CO.out _ (Below.refl _ _))
  rintro e w1 ⟨rfl, b1⟩
  rw [of_two]
  unfold ofV
  simp only [Option.getD_some, Option.isSome_some]
  rw [awC_is]
  clear h1 v1
  have c1 : Below wa.heap.size wa w1 := below_then (below_alloc (Below.refl _ _) _) b1
  clear b1
  obtain ⟨wb, hwb⟩ : ∃ wb : World, wb = w1.alloc (.cells #[.string ⟨#[]⟩, .int .i64 0, .int .i64 0, .bool false, .string ⟨#[]⟩, .slice (some ⟨w.heap.size, 0, none⟩) 1 1, .slice (some ⟨w.heap.size + 1, 0, none⟩) 1 1, .slice none 0 0, .slice none 0 0, .int .i64 0, .int .i64 0, .int .i64 0, .int .i64 0, .int .i64 0, .int .i64 0, .int .i64 0] 28) := ⟨_, rfl⟩
  have cb : Below wa.heap.size wa wb := by rw [hwb]; exact below_alloc c1 _
  have bd : Box wb w1.heap.size (Rd.cnt.cells (awC w.heap.size)) := by rw [hwb]; exact Box.new w1 (Rd.cnt.cells (awC w.heap.size)) 28
  go_upto_region 3 with fail
  rw [← hwb]
  clear hwb c1
  go_wp2_with fail
  refine (of_any _ _ _ [] _ Rd.Holds.none_ (by omega)).mono ?_
  rintro e w2 ⟨rfl, b2⟩
  rw [of_nil]
  unfold ofV
  simp only [Option.getD_none, Option.isSome_none]
  rw [zC_is]
  have d2 : Below wb.heap.size wb (w2.alloc (.cells #[.string ⟨#[]⟩, .int .i64 0, .int .i64 0, .bool false, .string ⟨#[]⟩, .slice none 0 0, .slice none 0 0, .slice none 0 0, .slice none 0 0, .int .i64 0, .int .i64 0, .int .i64 0, .int .i64 0, .int .i64 0, .int .i64 0, .int .i64 0] 28)) := below_alloc b2 _
  clear b2
  obtain ⟨wc, hwc⟩ : ∃ wc : World, wc = w2.alloc (.cells #[.string ⟨#[]⟩, .int .i64 0, .int .i64 0, .bool false, .string ⟨#[]⟩, .slice none 0 0, .slice none 0 0, .slice none 0 0, .slice none 0 0, .int .i64 0, .int .i64 0, .int .i64 0, .int .i64 0, .int .i64 0, .int .i64 0, .int .i64 0] 28) := ⟨_, rfl⟩
  go_upto_region 4 with fail
  rw [← hwc] at d2 ⊢
  clear hwc
  obtain ⟨h1, v1⟩ := box_lit (bx.on (below_then cb d2))
  rw [awC_is] at v1
  go_wp2_with fail
  refine (allowed_any (awC w.heap.size) ⟨#[97]⟩ _ (CL.out _ (below_then cb d2)) (by decide)).mono ?_
  rintro e w13 ⟨rfl, b3⟩
  have d3 : Below wb.heap.size wb w13 := below_then (d2) b3
  clear d2 b3 h1 v1
  obtain ⟨h1, v1⟩ := box_lit (bx.on (below_then cb d3))
  rw [awC_is] at v1
  rw [ok_a]
  go_wp2_with fail
  refine (allowed_any (awC w.heap.size) ⟨#[101, 118, 105, 108, 46, 120]⟩ _ (CL.out _ (below_then cb d3)) (by decide)).mono ?_
  rintro e w14 ⟨rfl, b4⟩
  have d4 : Below wb.heap.size wb w14 := below_then (d3) b4
  clear d3 b4 h1 v1
  obtain ⟨h1, v1⟩ := box_lit (bx.on (below_then cb d4))
  rw [awC_is] at v1
  rw [ok_evil]
  go_wp2_with fail
  refine (allowed_any zCnt ⟨#[97]⟩ _ zC_lists (by decide)).mono ?_
  rintro e w15 ⟨rfl, b5⟩
  have d5 : Below wb.heap.size wb w15 := below_then (d4) b5
  clear d4 b5 h1 v1
  obtain ⟨h1, v1⟩ := box_lit (bx.on (below_then cb d5))
  rw [awC_is] at v1
  rw [ok_none]
  obtain ⟨h2, v2⟩ := box_lit (bd.on d5)
  rw [awC_is] at v2
  go_wp2_with fail
  refine (same_refl (awC w.heap.size) _ (CO.out _ (below_then cb d5))).mono ?_
  rintro e w16 ⟨rfl, b6⟩
  have d6 : Below wb.heap.size wb w16 := below_then (d5) b6
  clear d5 b6 h1 v1
  obtain ⟨h1, v1⟩ := box_lit (bx.on (below_then cb d6))
  rw [awC_is] at v1
  clear h2 v2
  go_wp2_with fail
  refine (may_any none 0 0 [] ⟨#[97]⟩ _ Rd.Holds.none_ (by omega) (by intro c hc; cases hc)).mono ?_
  rintro e w17 ⟨rfl, b7⟩
  have d7 : Below wb.heap.size wb w17 := below_then (d6) b7
  clear d6 b7 h1 v1
  obtain ⟨h1, v1⟩ := box_lit (bx.on (below_then cb d7))
  rw [awC_is] at v1
  rw [show mayI [] ⟨#[97]⟩ = 0 from rfl]
  go_wp2_with fail
  refine (may_any _ _ _ [awE 6 (awC w.heap.size)] ⟨#[101, 118, 105, 108, 46, 120]⟩ _ (Rd.Holds.new Rd.ev _ _ _ _ _ rfl rfl (by intro x hx; simp only [List.mem_cons, List.not_mem_nil, or_false] at hx; subst hx; exact awE_ok ⟨by omega, by omega⟩ (CO.out _ (below_then cb d7)))) (by show 1 ≤ 1000000; omega) (by intro c hc; rw [of_one] at hc; cases hc; exact ⟨CL.out _ (below_then cb (below_alloc d7 _)), by decide⟩)).mono ?_
  rintro e w18 ⟨rfl, b8⟩
  have d8 : Below wb.heap.size wb w18 := below_then (below_alloc d7 _) b8
  clear d7 b8 h1 v1
  obtain ⟨h1, v1⟩ := box_lit (bx.on (below_then cb d8))
  rw [awC_is] at v1
  rw [show mayI [awE 6 (awC w.heap.size)] ⟨#[101, 118, 105, 108, 46, 120]⟩ = 22 from by unfold mayI; rw [of_one]; simp [ok_evil]]
  go_wp2_with fail
  refine (keeps_any (awC w.heap.size) (awC w.heap.size) ⟨#[97]⟩ _ (CL.out _ (below_then cb d8)) (CL.out _ (below_then cb d8)) (by decide)).mono ?_
  rintro e w19 ⟨rfl, b9⟩
  have d9 : Below wb.heap.size wb w19 := below_then (d8) b9
  clear d8 b9 h1 v1
  obtain ⟨h1, v1⟩ := box_lit (bx.on (below_then cb d9))
  rw [awC_is] at v1
  rw [ok_a]
  go_wp2_with fail
  refine (keeps_any (awC w.heap.size) zCnt ⟨#[97]⟩ _ (CL.out _ (below_then cb d9)) zC_lists (by decide)).mono ?_
  rintro e w20 ⟨rfl, b10⟩
  have d10 : Below wb.heap.size wb w20 := below_then (d9) b10
  clear d9 b10 h1 v1
  obtain ⟨h1, v1⟩ := box_lit (bx.on (below_then cb d10))
  rw [awC_is] at v1
  rw [ok_a, ok_none]
  go_wp2_with fail
  go_ret
  exact ⟨rfl, below_then hba (below_then cb d10)⟩
end Go.Proofs.Ytbdbhnmeainmfaa
