/-
  The walk through the examples of chapter 47 (awake).
-/
import Derived.Test.YthcbplameonjlaaPolA
namespace Go.Proofs.Ythcbplameonjlaa
open Go.RowKit
attribute [local go_sem ↓] ex_st_pol
attribute [local go_sem] st_pol_new st_pol

set_option maxRecDepth 100000 in
set_option maxHeartbeats 4000000 in
theorem awake_any (w : World) : Calls Try.prog 11 #[] w (Ret w (.bool true)) := by
  go_enter Try.func11, Try.ntmps11
  go_upto_region 2 with fail
  obtain ⟨wa, hwa⟩ : ∃ wa : World, wa = w.alloc (.cells #[.int .i64 2, .string ⟨#[64, 115, 112, 97, 109, 42, 58, 42]⟩, .string ⟨#[]⟩, .int .i64 6, .string ⟨#[101, 118, 105, 108, 46, 42]⟩, .string ⟨#[]⟩] 37) := ⟨_, rfl⟩
  rw [← hwa]
  have ba : Below w.heap.size w wa := by rw [hwa]; exact below_alloc (Below.refl _ _) _
  have hl : Rd.pol.Holds wa (some ⟨w.heap.size, 0, none⟩) 2 aL := by rw [hwa]; exact Rd.Holds.new Rd.pol w _ _ aL 2 rfl rfl aL_ok.ok
  clear hwa
  go_wp2_with fail
  obtain ⟨wb, hwb⟩ : ∃ wb : World, wb = wa.alloc (.cells #[.int .i64 0, .string ⟨#[]⟩, .string ⟨#[]⟩, .int .i64 9, .bool false, .string ⟨#[98]⟩, .int .i64 0, .int .i64 0, .slice none 0 0, .slice none 0 0, .string ⟨#[64, 120, 42]⟩, .int .i64 2, .int .i64 0, .bool false, .string ⟨#[]⟩, .slice none 0 0, .slice none 0 0, .slice none 0 0, .slice none 0 0, .int .i64 0, .int .i64 0, .int .i64 0, .int .i64 0, .int .i64 0, .int .i64 0, .int .i64 0, .int .i64 0, .string ⟨#[]⟩, .int .i64 0, .int .i64 0, .string ⟨#[]⟩, .string ⟨#[]⟩, .int .i64 9, .bool false, .string ⟨#[97]⟩, .int .i64 0, .int .i64 0, .slice none 0 0, .slice none 0 0, .string ⟨#[]⟩, .int .i64 0, .int .i64 0, .bool false, .string ⟨#[]⟩, .slice none 0 0, .slice none 0 0, .slice none 0 0, .slice none 0 0, .int .i64 0, .int .i64 0, .int .i64 0, .int .i64 0, .int .i64 0, .int .i64 0, .int .i64 0, .int .i64 0, .string ⟨#[]⟩, .int .i64 0] 59) := ⟨_, rfl⟩
  rw [← hwb]
  have bb : Below wa.heap.size wa wb := by rw [hwb]; exact below_alloc (Below.refl _ _) _
  have he : Rd.ev.Holds wb (some ⟨wa.heap.size, 0, none⟩) 2 aE := by rw [hwb]; exact Rd.Holds.new Rd.ev wa _ _ aE 2 rfl rfl aE_ok
  clear hwb
  refine (prules_any (some ⟨wa.heap.size, 0, none⟩) 2 _ aE wb he (by omega)).mono ?_
  rintro e w1 ⟨v1, rfl, b1, own1⟩
  rw [aw_rules] at own1
  obtain ⟨A1, c1, rfl, hR, _⟩ := own1.form aP_ok
  simp only [List.length_singleton] at hR ⊢
  have d1 := below_then bb b1
  have hl1 := hl.on d1
  clear own1 b1 bb he
  go_wp2_with fail
  refine (pmatch_any (some ⟨w.heap.size, 0, none⟩) 2 _ aL 6 ⟨#[101, 118, 105, 108, 46, 120]⟩ w1 hl1 (by omega) aL_s (by decide)).mono ?_
  rintro e w2 ⟨rfl, b2⟩
  rw [aw_m1]
  go_upto_region 4 with fail
  obtain ⟨w3, hw3⟩ : ∃ W : World, W = w2.alloc (.cells #[.int .i64 6, .string ⟨#[101, 118, 105, 108, 46, 42]⟩, .string ⟨#[]⟩] 37) := ⟨_, rfl⟩
  rw [← hw3]
  have b3 : Below w1.heap.size w1 w3 := by rw [hw3]; exact below_alloc b2 _
  clear hw3 b2
  go_wp2_with fail
  refine (pmatch_any (some ⟨w.heap.size, 0, none⟩) 2 _ aL 2 ⟨#[101, 118, 105, 108, 46, 120]⟩ w3 (hl1.on b3) (by omega) aL_s (by decide)).mono ?_
  rintro e w4 ⟨rfl, b4⟩
  rw [aw_m2]
  go_upto_region 5 with fail
  obtain ⟨w5, hw5⟩ : ∃ W : World, W = w4.alloc (.cells #[.int .i64 0, .string ⟨#[]⟩, .string ⟨#[]⟩] 37) := ⟨_, rfl⟩
  rw [← hw5]
  have b5 : Below w1.heap.size w1 w5 := by rw [hw5]; exact below_alloc (below_then b3 b4) _
  clear hw5 b4 b3
  go_wp2_with fail
  obtain ⟨w6, hw6⟩ : ∃ W : World, W = w5.alloc (.cells #[.string ⟨#[64, 115, 112, 97, 109, 109, 101, 114, 58, 97]⟩, .string ⟨#[64, 97, 110, 110, 58, 101, 118, 105, 108, 46, 120]⟩, .string ⟨#[64, 97, 110, 110, 58, 97]⟩] 9) := ⟨_, rfl⟩
  rw [← hw6]
  have b6 : Below w1.heap.size w1 w6 := by rw [hw6]; exact below_alloc b5 _
  have hU : Strs w6 (some ⟨w5.heap.size, 0, none⟩) 3 aU := by rw [hw6]; exact Strs.new _ _ _ aU 3 rfl rfl
  clear hw6
  refine (pusers_any (some ⟨w.heap.size, 0, none⟩) 2 _ aL (some ⟨w5.heap.size, 0, none⟩) 3 _ aU w6 (hl1.on b6) (by omega) aL_s hU (by omega) aU_s).mono ?_
  rintro e w7 ⟨v7, rfl, b7, own7⟩
  rw [aw_users] at own7
  obtain ⟨A7, c7, rfl, hS7, _⟩ := own7.form
  have d7 := below_then b6 b7
  clear own7 b7 b6 b5 hU
  go_wp2_with fail
  obtain ⟨w8, hw8⟩ : ∃ W : World, W = w7.alloc (.cells #[.string ⟨#[64, 97, 110, 110, 58, 101, 118, 105, 108, 46, 120]⟩, .string ⟨#[64, 115, 112, 97, 109, 109, 101, 114, 58, 97]⟩] 9) := ⟨_, rfl⟩
  rw [← hw8]
  have b8 : Below w7.heap.size w7 w8 := by rw [hw8]; exact below_alloc (Below.refl _ _) _
  have hV : Strs w8 (some ⟨w7.heap.size, 0, none⟩) 2 aV := by rw [hw8]; exact Strs.new _ _ _ aV 2 rfl rfl
  clear hw8
  refine ((rsame_any A7 _ _ _ _ _ ((bss aV).map mk) aV w8 (hS7.on b8) hV (by decide)).mono fun _ _ => Quiet.ret').mono ?_
  rintro e w9 ⟨rfl, b9⟩
  rw [show decide (bss ((bss aV).map mk) = bss aV) = true from by rw [bss_mk']; exact decide_eq_true rfl]
  have d9 := below_then d7 (below_then b8 b9)
  clear b8 b9 hV hS7 d7
  go_wp2_with fail
  refine (pdeny_any (some ⟨w.heap.size, 0, none⟩) 2 _ aL w9 (hl1.on d9) (by omega)).mono ?_
  rintro e w10 ⟨v10, rfl, b10, own10⟩
  rw [aw_deny] at own10
  obtain ⟨A10, c10, rfl, hS10, _⟩ := own10.form
  have d10 := below_then d9 b10
  clear own10 b10 d9
  go_wp2_with fail
  obtain ⟨w11, hw11⟩ : ∃ W : World, W = w10.alloc (.cells #[.string ⟨#[101, 118, 105, 108, 46, 42]⟩] 9) := ⟨_, rfl⟩
  rw [← hw11]
  have b11 : Below w10.heap.size w10 w11 := by rw [hw11]; exact below_alloc (Below.refl _ _) _
  have hV : Strs w11 (some ⟨w10.heap.size, 0, none⟩) 1 [⟨#[101, 118, 105, 108, 46, 42]⟩] := by rw [hw11]; exact Strs.new _ _ _ [⟨#[101, 118, 105, 108, 46, 42]⟩] 1 rfl rfl
  clear hw11
  refine ((rsame_any A10 _ _ _ _ _ ((bss [⟨#[101, 118, 105, 108, 46, 42]⟩]).map mk) [⟨#[101, 118, 105, 108, 46, 42]⟩] w11 (hS10.on b11) hV (by decide)).mono fun _ _ => Quiet.ret').mono ?_
  rintro e w12 ⟨rfl, b12⟩
  rw [show decide (bss ((bss [⟨#[101, 118, 105, 108, 46, 42]⟩]).map mk) = bss [⟨#[101, 118, 105, 108, 46, 42]⟩]) = true from by rw [bss_mk']; exact decide_eq_true rfl]
  have d12 := below_then d10 (below_then b11 b12)
  clear b11 b12 hV hS10 d10
  obtain ⟨b, o, x, rfl, hbl, hu, _, _, hxa⟩ := (hR.on d12).mid (by decide) (show 0 < 1 by omega)
  obtain rfl : aP = x := by simpa using hu
  have x1 : w12.cell? ⟨b, o + 1, none⟩ = some (.string ⟨#[64, 120, 42]⟩) := by simpa using hxa 1 _ rfl
  have x2 : w12.cell? ⟨b, o + 2, none⟩ = some (.string ⟨#[98]⟩) := by simpa using hxa 2 _ rfl
  clear hu hxa
  go_wp2_with fail
  refine (pmerge_any (some ⟨w.heap.size, 0, none⟩) (some ⟨w.heap.size, 0, none⟩) 2 2 _ _ aL aL w12 (hl1.on d12) (hl1.on d12) (by omega) (by omega)).mono ?_
  rintro e w13 ⟨v13, rfl, b13, own13⟩
  rw [aw_merge] at own13
  obtain ⟨A13, c13, rfl, h13, _⟩ := own13.form aL_ok
  change Rd.pol.Holds w13 A13 2 aL at h13
  have d13 := below_then d12 b13
  go_wp2_with fail
  refine (samePols_any A13 (some ⟨w.heap.size, 0, none⟩) 2 _ _ aL w13 h13 (hl1.on d13) (by omega)).mono ?_
  rintro e w14 ⟨rfl, b14⟩
  have hfin := below_then ba (below_then (below_then d1 d13) b14)
  go_wp2_with fail
  go_ret
  exact ⟨rfl, hfin⟩
end Go.Proofs.Ythcbplameonjlaa
