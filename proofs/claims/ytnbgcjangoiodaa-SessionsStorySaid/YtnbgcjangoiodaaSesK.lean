/-
  The walk through live of chapter 45.
-/
import Derived.Test.YtnbgcjangoiodaaSesL
namespace Go.Proofs.Ytnbgcjangoiodaa
open Go.RowKit
attribute [local go_sem ↓] ex_st_shr ex_st_own ex_st_ses
attribute [local go_sem] st_shr_new st_shr st_own_new st_ses_new st_ses

set_option maxRecDepth 100000 in
set_option maxHeartbeats 8000000 in
theorem slive_any (w : World) : Calls Try.prog 16 #[] w (Ret w (.bool true)) := by
  go_enter Try.func16, Try.ntmps16
  go_wp2_with fail
  refine (new_any 5 lR w (by decide)).mono ?_
  rw [l_new]
  rintro e w1 ⟨rfl, b1⟩
  go_upto_region 2 with fail
  have bx := OBox.new w1 [.int .i64 5, .string lR, .int .i64 0, .slice none 0 0] 24
  have c1 := below_alloc b1 (.cells #[.int .i64 5, .string lR, .int .i64 0, .slice none 0 0] 24)
  change OBox (w1.alloc (.cells #[.int .i64 5, .string lR, .int .i64 0, .slice none 0 0] 24)) _ _ at bx
  generalize w1.alloc (.cells #[.int .i64 5, .string lR, .int .i64 0, .slice none 0 0] 24) = W1 at bx c1 ⊢
  have hg := b1.size
  obtain ⟨g, hgg⟩ : ∃ g, w1.heap.size = g := ⟨_, rfl⟩
  rw [hgg] at bx hg ⊢
  clear hgg b1
  have k0 : W1.cell? ⟨g, 0, none⟩ = some (.int .i64 5) := bx.cell rfl
  have k1 : W1.cell? ⟨g, 1, none⟩ = some (.string lR) := bx.cell rfl
  have k2 : W1.cell? ⟨g, 2, none⟩ = some (.int .i64 0) := bx.cell rfl
  have k3 : W1.cell? ⟨g, 3, none⟩ = some (.slice none 0 0) := bx.cell rfl
  go_wp2_with fail
  refine (use_any 5 lR 0 none 0 0 [] 100 W1 Rd.Holds.none_ (by omega)).mono ?_
  intro e w2 hU
  obtain ⟨b2, A2, c2, rfl, hH2, hc2⟩ := use_ok hU (by decide)
  clear hU k0 k1 k2 k3
  have d2 := below_then c1 b2
  have bx2 := bx.on b2
  have hth := bx2.there (n := 4) rfl
  clear c1 bx b2
  go_upto_region 3 with fail
  have bx3 := bx2.put (cs := [.int .i64 5, .string lR, .int .i64 1, .slice A2 0 c2]) rfl
  have hH3 := shr_apart hH2 bx2 [.int .i64 5, .string lR, .int .i64 1, .slice A2 0 c2]
  have d3 := below_own_box (cs := [.int .i64 5, .string lR, .int .i64 1, .slice A2 0 c2]) d2 hg
  clear bx2 hH2 d2 hth
  generalize putRow w2 g [.int .i64 5, .string lR, .int .i64 1, .slice A2 0 c2] = W3 at bx3 hH3 d3 ⊢
  have k0 : W3.cell? ⟨g, 0, none⟩ = some (.int .i64 5) := bx3.cell rfl
  have k1 : W3.cell? ⟨g, 1, none⟩ = some (.string lR) := bx3.cell rfl
  have k2 : W3.cell? ⟨g, 2, none⟩ = some (.int .i64 1) := bx3.cell rfl
  have k3 : W3.cell? ⟨g, 3, none⟩ = some (.slice A2 0 c2) := bx3.cell rfl
  go_wp2_with fail
  refine (give_any 5 lR 1 A2 0 c2 [] lA lD W3 hH3 (by omega) (by omega) (by decide) (by decide) (by omega)).mono ?_
  intro e w4 hG
  obtain ⟨b4, A4, c4, rfl, hH4, hc4⟩ := give_ok hG l_give1 l_put1
  clear hG k0 k1 k2 k3
  have d4 := below_then d3 b4
  have bx4 := bx3.on b4
  have hth := bx4.there (n := 4) rfl
  clear d3 bx3 b4 hH3
  go_upto_region 4 with fail
  have bx5 := bx4.put (cs := [.int .i64 5, .string lR, .int .i64 1, .slice A4 1 c4]) rfl
  have hH5 := shr_apart hH4 bx4 [.int .i64 5, .string lR, .int .i64 1, .slice A4 1 c4]
  have d5 := below_own_box (cs := [.int .i64 5, .string lR, .int .i64 1, .slice A4 1 c4]) d4 hg
  clear bx4 hH4 d4 hth
  generalize putRow w4 g [.int .i64 5, .string lR, .int .i64 1, .slice A4 1 c4] = W5 at bx5 hH5 d5 ⊢
  have k0 : W5.cell? ⟨g, 0, none⟩ = some (.int .i64 5) := bx5.cell rfl
  have k1 : W5.cell? ⟨g, 1, none⟩ = some (.string lR) := bx5.cell rfl
  have k2 : W5.cell? ⟨g, 2, none⟩ = some (.int .i64 1) := bx5.cell rfl
  have k3 : W5.cell? ⟨g, 3, none⟩ = some (.slice A4 1 c4) := bx5.cell rfl
  go_wp2_with fail
  refine (give_any 5 lR 1 A4 1 c4 [lX] lA lD W5 hH5 (by omega) hc4 (by decide) (by decide) (by omega)).mono ?_
  intro e w6 hG
  obtain ⟨b6, rfl⟩ := give_err hG l_give2 (by decide)
  clear hG k0 k1 k2 k3
  have d6 := below_then d5 b6
  have bx6 := bx5.on b6
  have hH6 := hH5.on b6
  clear d5 bx5 b6 hH5
  go_upto_region 5 with fail
  have bx7 := bx6.on (below_alloc (Below.refl _ _) (.cells #[.int .i64 0, .string ⟨#[]⟩, .int .i64 0, .slice none 0 0] 24))
  have hH7 := hH6.on (below_alloc (Below.refl _ _) (.cells #[.int .i64 0, .string ⟨#[]⟩, .int .i64 0, .slice none 0 0] 24))
  have d7 := below_alloc d6 (.cells #[.int .i64 0, .string ⟨#[]⟩, .int .i64 0, .slice none 0 0] 24)
  clear bx6 hH6 d6
  generalize w6.alloc (.cells #[.int .i64 0, .string ⟨#[]⟩, .int .i64 0, .slice none 0 0] 24) = W7 at bx7 hH7 d7 ⊢
  have k0 : W7.cell? ⟨g, 0, none⟩ = some (.int .i64 5) := bx7.cell rfl
  have k1 : W7.cell? ⟨g, 1, none⟩ = some (.string lR) := bx7.cell rfl
  have k2 : W7.cell? ⟨g, 2, none⟩ = some (.int .i64 1) := bx7.cell rfl
  have k3 : W7.cell? ⟨g, 3, none⟩ = some (.slice A4 1 c4) := bx7.cell rfl
  go_wp2_with fail
  refine (use_any 5 lR 1 A4 1 c4 [lX] 100 W7 hH7 (by omega)).mono ?_
  intro e w8 hU
  obtain ⟨b8, A8, c8, rfl, hH8, hc8⟩ := use_ok hU (by decide)
  clear hU k0 k1 k2 k3
  have d8 := below_then d7 b8
  have bx8 := bx7.on b8
  have hth := bx8.there (n := 4) rfl
  clear d7 bx7 b8 hH7
  go_upto_region 6 with fail
  have bx9 := bx8.put (cs := [.int .i64 5, .string lR, .int .i64 2, .slice A8 1 c8]) rfl
  have hH9 := shr_apart hH8 bx8 [.int .i64 5, .string lR, .int .i64 2, .slice A8 1 c8]
  have d9 := below_own_box (cs := [.int .i64 5, .string lR, .int .i64 2, .slice A8 1 c8]) d8 hg
  clear bx8 hH8 d8 hth
  generalize putRow w8 g [.int .i64 5, .string lR, .int .i64 2, .slice A8 1 c8] = W9 at bx9 hH9 d9 ⊢
  have k0 : W9.cell? ⟨g, 0, none⟩ = some (.int .i64 5) := bx9.cell rfl
  have k1 : W9.cell? ⟨g, 1, none⟩ = some (.string lR) := bx9.cell rfl
  have k2 : W9.cell? ⟨g, 2, none⟩ = some (.int .i64 2) := bx9.cell rfl
  have k3 : W9.cell? ⟨g, 3, none⟩ = some (.slice A8 1 c8) := bx9.cell rfl
  go_wp2_with fail
  refine (use_any 5 lR 2 A8 1 c8 [lX] 2 W9 hH9 (by omega)).mono ?_
  intro e wa hU
  obtain ⟨ba, rfl⟩ := use_err (r := 26) hU (by decide) (by decide)
  clear hU k0 k1 k2 k3
  have da := below_then d9 ba
  have bxa := bx9.on ba
  have hHa := hH9.on ba
  clear d9 bx9 ba hH9
  go_upto_region 7 with fail
  have bxb := bxa.on (below_alloc (Below.refl _ _) (.cells #[.int .i64 0, .string ⟨#[]⟩, .int .i64 0, .slice none 0 0] 24))
  have hHb := hHa.on (below_alloc (Below.refl _ _) (.cells #[.int .i64 0, .string ⟨#[]⟩, .int .i64 0, .slice none 0 0] 24))
  have db := below_alloc da (.cells #[.int .i64 0, .string ⟨#[]⟩, .int .i64 0, .slice none 0 0] 24)
  clear bxa hHa da
  generalize wa.alloc (.cells #[.int .i64 0, .string ⟨#[]⟩, .int .i64 0, .slice none 0 0] 24) = Wb at bxb hHb db ⊢
  go_upto_region 9 with fail
  have hV := lV_below Wb
  have hKy := lV_keys Wb
  have hBo := lV_both Wb
  have hOn := lV_one Wb
  have eV : ((((Wb.alloc (.cells #[.string ⟨#[69]⟩, .int .i64 0, .bool false] 68)).alloc (.cells #[.string ⟨#[68]⟩, .int .i64 0, .bool false] 68)).alloc (.cells #[.string ⟨#[64, 98, 58, 121]⟩, .int .i64 0, .int .i64 0, .slice (some ⟨Wb.heap.size, 0, none⟩) 1 1, .string ⟨#[64, 97, 58, 120]⟩, .int .i64 0, .int .i64 0, .slice (some ⟨Wb.heap.size + 1, 0, none⟩) 1 1] 71)).alloc (.cells #[.string ⟨#[64, 98, 58, 121]⟩, .string ⟨#[64, 97, 58, 120]⟩] 9)).alloc (.cells #[.string ⟨#[64, 98, 58, 121]⟩] 9) = lV Wb := rfl
  rw [eV]
  clear eV
  generalize lV Wb = V at hV hKy hBo hOn ⊢
  have hgb := bxb.lt
  obtain ⟨s, hs⟩ : ∃ s, Wb.heap.size = s := ⟨_, rfl⟩
  rw [hs] at hKy hBo hOn ⊢
  clear hs
  have hFew := few_lK s (s + 1)
  have hWT := l_wants s (s + 1)
  have hS2 := l_stale2 s (s + 1)
  have hS1 := l_stale1 s (s + 1)
  have hRN := l_renew s (s + 1)
  generalize lK s (s + 1) = K at hKy hFew hWT hS2 hS1 hRN
  have HFew := Lib.hid hFew; have HWT := Lib.hid hWT; have HS2 := Lib.hid hS2; have HS1 := Lib.hid hS1; have HRN := Lib.hid hRN
  clear hFew hWT hS2 hS1 hRN
  have bxv := bxb.on hV
  have hHv := hHb.on hV
  have dv := below_then db hV
  clear bxb hHb db hV
  have k0 : V.cell? ⟨g, 0, none⟩ = some (.int .i64 5) := bxv.cell rfl
  have k1 : V.cell? ⟨g, 1, none⟩ = some (.string lR) := bxv.cell rfl
  have k2 : V.cell? ⟨g, 2, none⟩ = some (.int .i64 2) := bxv.cell rfl
  have k3 : V.cell? ⟨g, 3, none⟩ = some (.slice A8 1 c8) := bxv.cell rfl
  go_wp2_with fail
  refine (renew_any 5 lR 2 A8 1 c8 _ 1 1 [lB] _ 2 2 K 6 V hOn (by omega) l_size1 hKy HFew.out).mono ?_
  intro e wd hR
  obtain ⟨bd, hR⟩ := hR
  rw [HRN.out] at hR
  obtain ⟨Ax, cx, Ay, cy, rfl, _, _, _, _⟩ := hR
  have dd := below_then dv bd
  have bxd := bxv.on bd
  have hHd := hHv.on bd
  have hKd := hKy.on bd
  have hBd := hBo.on bd
  have hOd := hOn.on bd
  clear k0 k1 k2 k3 dv bxv hHv hKy hBo hOn bd
  go_upto_region 10 with fail
  have bz := OBox.new wd [.int .i64 6, .string lR, .int .i64 0, .slice Ax 1 cx] 24
  have hbz := below_alloc (Below.refl wd.heap.size wd) (.cells #[.int .i64 6, .string lR, .int .i64 0, .slice Ax 1 cx] 24)
  change OBox (wd.alloc (.cells #[.int .i64 6, .string lR, .int .i64 0, .slice Ax 1 cx] 24)) _ _ at bz
  generalize wd.alloc (.cells #[.int .i64 6, .string lR, .int .i64 0, .slice Ax 1 cx] 24) = We at bz hbz ⊢
  have de := below_then dd hbz
  have bxe := bxd.on hbz
  have hHe := hHd.on hbz
  have hKe := hKd.on hbz
  have hBe := hBd.on hbz
  have hOe := hOd.on hbz
  obtain ⟨h, hh⟩ : ∃ h, wd.heap.size = h := ⟨_, rfl⟩
  rw [hh] at bz ⊢
  clear hh dd bxd hHd hKd hBd hOd hbz
  have hmk := l_make We
  have hM := l_many We
  have hbm := below_alloc (Below.refl We.heap.size We) (.cells lZ 56)
  go_wp2_with fail
  refine (give_any 5 lR 0 _ 2000 2000 (List.replicate 2000 zShr) lA lD _ hM (by omega) (by omega) (by decide) (by decide) (by omega)).mono ?_
  intro e wf hG
  obtain ⟨bf, rfl⟩ := give_err hG l_give3 (by decide)
  clear hG
  have bf2 := below_then hbm bf
  have df := below_then de bf2
  have bxf := bxe.on bf2
  have hHf := hHe.on bf2
  have hKf := hKe.on bf2
  have hBf := hBe.on bf2
  have hOf := hOe.on bf2
  have bzf := bz.on bf2
  clear hmk hM hbm bf bf2 de bxe hHe hKe hBe hOe bz
  go_upto_region 11 with fail
  have hb0 := below_alloc (below_alloc (Below.refl wf.heap.size wf) (.cells #[.int .i64 0, .string ⟨#[]⟩, .int .i64 0, .slice none 0 0] 24)) (.cells #[.string lB, .string lE, .int .i64 2] 56)
  have hWn := Rd.Holds.new Rd.shr (wf.alloc (.cells #[.int .i64 0, .string ⟨#[]⟩, .int .i64 0, .slice none 0 0] 24)) #[.string lB, .string lE, .int .i64 2] 56 [⟨lB, lE, 2⟩] 1 rfl rfl (by
    intro y hy
    rw [List.mem_singleton] at hy; subst hy
    exact ⟨by show 4 ≤ maxLen; unfold maxLen; omega, by show 1 ≤ maxLen; unfold maxLen; omega, ⟨by show -9223372036854775808 ≤ (2 : Int); omega, by show (2 : Int) ≤ 9223372036854775807; omega⟩, trivial⟩)
  have bx0 := bxf.on hb0
  have hH0 := hHf.on hb0
  have hK0 := hKf.on hb0
  have hB0 := hBf.on hb0
  have hO0 := hOf.on hb0
  have bz0 := bzf.on hb0
  have d0 := below_then df hb0
  have hsz0 : (wf.alloc (.cells #[.int .i64 0, .string ⟨#[]⟩, .int .i64 0, .slice none 0 0] 24)).heap.size = wf.heap.size + 1 := by simp
  rw [hsz0] at hWn
  have hW0 := hWn
  clear hWn hsz0 bxf hHf hKf hBf hOf bzf df hb0
  have k0 : ((wf.alloc (.cells #[.int .i64 0, .string ⟨#[]⟩, .int .i64 0, .slice none 0 0] 24)).alloc (.cells #[.string lB, .string lE, .int .i64 2] 56)).cell? ⟨g, 0, none⟩ = some (.int .i64 5) := bx0.cell rfl
  have k1 : ((wf.alloc (.cells #[.int .i64 0, .string ⟨#[]⟩, .int .i64 0, .slice none 0 0] 24)).alloc (.cells #[.string lB, .string lE, .int .i64 2] 56)).cell? ⟨g, 1, none⟩ = some (.string lR) := bx0.cell rfl
  have k2 : ((wf.alloc (.cells #[.int .i64 0, .string ⟨#[]⟩, .int .i64 0, .slice none 0 0] 24)).alloc (.cells #[.string lB, .string lE, .int .i64 2] 56)).cell? ⟨g, 2, none⟩ = some (.int .i64 2) := bx0.cell rfl
  have k3 : ((wf.alloc (.cells #[.int .i64 0, .string ⟨#[]⟩, .int .i64 0, .slice none 0 0] 24)).alloc (.cells #[.string lB, .string lE, .int .i64 2] 56)).cell? ⟨g, 3, none⟩ = some (.slice A8 1 c8) := bx0.cell rfl
  go_wp2_with fail
  refine (reads_any 5 lR 2 A8 1 c8 [lX] lA lD 1 _ hH0 (by omega)).mono ?_
  rw [l_read1]
  rintro e u1 ⟨rfl, b1_⟩
  have bx1 := bx0.on b1_
  have hH1 := hH0.on b1_
  have hK1 := hK0.on b1_
  have hB1 := hB0.on b1_
  have hO1 := hO0.on b1_
  have bz1 := bz0.on b1_
  have hW1 := hW0.on b1_
  have d1 := below_then d0 b1_
  clear k0 k1 k2 k3 bx0 hH0 hK0 hB0 hO0 bz0 hW0 d0 b1_
  have k0 : u1.cell? ⟨g, 0, none⟩ = some (.int .i64 5) := bx1.cell rfl
  have k1 : u1.cell? ⟨g, 1, none⟩ = some (.string lR) := bx1.cell rfl
  have k2 : u1.cell? ⟨g, 2, none⟩ = some (.int .i64 2) := bx1.cell rfl
  have k3 : u1.cell? ⟨g, 3, none⟩ = some (.slice A8 1 c8) := bx1.cell rfl
  go_wp2_with fail
  refine (reads_any 5 lR 2 A8 1 c8 [lX] lA lD 0 _ hH1 (by omega)).mono ?_
  rw [l_read0]
  rintro e u2 ⟨rfl, b2_⟩
  have bx2 := bx1.on b2_
  have hH2 := hH1.on b2_
  have hK2 := hK1.on b2_
  have hB2 := hB1.on b2_
  have hO2 := hO1.on b2_
  have bz2 := bz1.on b2_
  have hW2 := hW1.on b2_
  have d2 := below_then d1 b2_
  clear k0 k1 k2 k3 bx1 hH1 hK1 hB1 hO1 bz1 hW1 d1 b2_
  have k0 : u2.cell? ⟨g, 0, none⟩ = some (.int .i64 5) := bx2.cell rfl
  have k1 : u2.cell? ⟨g, 1, none⟩ = some (.string lR) := bx2.cell rfl
  have k2 : u2.cell? ⟨g, 2, none⟩ = some (.int .i64 2) := bx2.cell rfl
  have k3 : u2.cell? ⟨g, 3, none⟩ = some (.slice A8 1 c8) := bx2.cell rfl
  go_wp2_with fail
  refine (reads_any 5 lR 2 A8 1 c8 [lX] lA lD 2 _ hH2 (by omega)).mono ?_
  rw [l_read2]
  rintro e u3 ⟨rfl, b3_⟩
  have bx3 := bx2.on b3_
  have hH3 := hH2.on b3_
  have hK3 := hK2.on b3_
  have hB3 := hB2.on b3_
  have hO3 := hO2.on b3_
  have bz3 := bz2.on b3_
  have hW3 := hW2.on b3_
  have d3 := below_then d2 b3_
  clear k0 k1 k2 k3 bx2 hH2 hK2 hB2 hO2 bz2 hW2 d2 b3_
  have k0 : u3.cell? ⟨g, 0, none⟩ = some (.int .i64 5) := bx3.cell rfl
  have k1 : u3.cell? ⟨g, 1, none⟩ = some (.string lR) := bx3.cell rfl
  have k2 : u3.cell? ⟨g, 2, none⟩ = some (.int .i64 2) := bx3.cell rfl
  have k3 : u3.cell? ⟨g, 3, none⟩ = some (.slice A8 1 c8) := bx3.cell rfl
  go_wp2_with fail
  refine (wants_any 5 lR 2 A8 1 c8 [lX] _ 2 2 [lB, lA] _ 2 2 K _ hH3 (by omega) hB3 (by omega) l_sizes hK3 HFew.out).mono ?_
  rintro e u4 ⟨vw, rfl, b4_, oww⟩
  have bx4 := bx3.on b4_
  have hH4 := hH3.on b4_
  have hK4 := hK3.on b4_
  have hB4 := hB3.on b4_
  have hO4 := hO3.on b4_
  have bz4 := bz3.on b4_
  have hW4 := hW3.on b4_
  have d4 := below_then d3 b4_
  rw [HWT.out] at oww
  obtain ⟨Aw, cw, rfl, hHw, _⟩ := oww.form (fun x hx => by
    rw [List.mem_singleton] at hx; subst hx
    exact ⟨by show 4 ≤ maxLen; unfold maxLen; omega, by show 1 ≤ maxLen; unfold maxLen; omega, by show -9223372036854775808 ≤ (2 : Int); omega, by show (2 : Int) ≤ 9223372036854775807; omega⟩)
  clear oww
  clear k0 k1 k2 k3 bx3 hH3 hK3 hB3 hO3 bz3 hW3 d3 b4_
  have k0 : u4.cell? ⟨g, 0, none⟩ = some (.int .i64 5) := bx4.cell rfl
  have k1 : u4.cell? ⟨g, 1, none⟩ = some (.string lR) := bx4.cell rfl
  have k2 : u4.cell? ⟨g, 2, none⟩ = some (.int .i64 2) := bx4.cell rfl
  have k3 : u4.cell? ⟨g, 3, none⟩ = some (.slice A8 1 c8) := bx4.cell rfl
  go_wp2_with fail
  refine (sameShares_any Aw _ 1 cw 1 [⟨lB, lE, 2⟩] _ hHw hW4 (by omega)).mono ?_
  rintro e u5 ⟨rfl, b5_⟩
  have bx5 := bx4.on b5_
  have hH5 := hH4.on b5_
  have hK5 := hK4.on b5_
  have hB5 := hB4.on b5_
  have hO5 := hO4.on b5_
  have bz5 := bz4.on b5_
  have hW5 := hW4.on b5_
  have d5 := below_then d4 b5_
  clear hHw
  clear k0 k1 k2 k3 bx4 hH4 hK4 hB4 hO4 bz4 hW4 d4 b5_
  have k0 : u5.cell? ⟨g, 0, none⟩ = some (.int .i64 5) := bx5.cell rfl
  have k1 : u5.cell? ⟨g, 1, none⟩ = some (.string lR) := bx5.cell rfl
  have k2 : u5.cell? ⟨g, 2, none⟩ = some (.int .i64 2) := bx5.cell rfl
  have k3 : u5.cell? ⟨g, 3, none⟩ = some (.slice A8 1 c8) := bx5.cell rfl
  go_wp2_with fail
  refine (stale_any 5 lR 2 A8 1 c8 [lX] _ 2 2 [lB, lA] _ 2 2 K _ hH5 (by omega) hB5 (by omega) l_sizes hK5 HFew.out).mono ?_
  rw [HS2.out]
  rintro e u6 ⟨rfl, b6_⟩
  have bx6 := bx5.on b6_
  have hH6 := hH5.on b6_
  have hK6 := hK5.on b6_
  have hB6 := hB5.on b6_
  have hO6 := hO5.on b6_
  have bz6 := bz5.on b6_
  have hW6 := hW5.on b6_
  have d6 := below_then d5 b6_
  clear k0 k1 k2 k3 bx5 hH5 hK5 hB5 hO5 bz5 hW5 d5 b6_
  have k0 : u6.cell? ⟨g, 0, none⟩ = some (.int .i64 5) := bx6.cell rfl
  have k1 : u6.cell? ⟨g, 1, none⟩ = some (.string lR) := bx6.cell rfl
  have k2 : u6.cell? ⟨g, 2, none⟩ = some (.int .i64 2) := bx6.cell rfl
  have k3 : u6.cell? ⟨g, 3, none⟩ = some (.slice A8 1 c8) := bx6.cell rfl
  go_wp2_with fail
  refine (stale_any 5 lR 2 A8 1 c8 [lX] _ 1 1 [lB] _ 2 2 K _ hH6 (by omega) hO6 (by omega) l_size1 hK6 HFew.out).mono ?_
  rw [HS1.out]
  rintro e u7 ⟨rfl, b7_⟩
  have bx7 := bx6.on b7_
  have hH7 := hH6.on b7_
  have hK7 := hK6.on b7_
  have hB7 := hB6.on b7_
  have hO7 := hO6.on b7_
  have bz7 := bz6.on b7_
  have hW7 := hW6.on b7_
  have d7 := below_then d6 b7_
  clear k0 k1 k2 k3 bx6 hH6 hK6 hB6 hO6 bz6 hW6 d6 b7_
  have z0 : u7.cell? ⟨h, 0, none⟩ = some (.int .i64 6) := bz7.cell rfl
  have z1 : u7.cell? ⟨h, 1, none⟩ = some (.string lR) := bz7.cell rfl
  have z2 : u7.cell? ⟨h, 2, none⟩ = some (.int .i64 0) := bz7.cell rfl
  have z3 : u7.cell? ⟨h, 3, none⟩ = some (.slice Ax 1 cx) := bz7.cell rfl
  go_wp2_with fail
  go_ret
  exact ⟨rfl, d7⟩
end Go.Proofs.Ytnbgcjangoiodaa
