/-
  The chapter's examples, walked whole.
-/
import Derived.Test.YtbhkgdfmjkblcaaDevA
import Derived.Test.YtbhkgdfmjkblcaaDevE
import Derived.Test.YtbhkgdfmjkblcaaDevB
namespace Go.Proofs.Ytbhkgdfmjkblcaa
open Go.RowKit
attribute [local go_sem ↓] ex_st_ky ex_st_dv
attribute [local go_sem] st_ky_new st_ky st_dv_new st_dv

abbrev exU : ByteArray := ⟨#[64, 97, 58, 115]⟩
abbrev exD : ByteArray := ⟨#[100]⟩
abbrev exD0 : Dvc := ⟨exD, 7, false⟩
abbrev exD1 : Dvc := ⟨exD, 7, true⟩
abbrev exK1 : Kv := ⟨exU, 0, 1, [exD0]⟩
abbrev exK3 : Kv := ⟨exU, 9, 3, [exD0]⟩
abbrev exK4 : Kv := ⟨exU, 9, 4, [exD1]⟩
abbrev exK5 : Kv := ⟨exU, 9, 5, []⟩
theorem ex_add : Dv.add [] exU exD1 1 = ([exK1], 0) := by decide +kernel
theorem ex_sign0 : Dv.sign [exK1] exU exD 2 = ([], 26) := by decide +kernel
theorem ex_cross : Dv.cross [exK1] exU 9 3 = ([exK3], 0) := by decide +kernel
theorem ex_sign : Dv.sign [exK3] exU exD 4 = ([exK4], 0) := by decide +kernel
theorem ex_remove : Dv.remove [exK4] exU exD 5 = ([exK5], 0) := by decide +kernel
theorem ex_changed : Dv.changed [exK4] 4 = [bs exU] := by decide +kernel
theorem ex_chk : Dv.chk [exK4] = 0 := by decide +kernel
theorem ex_v1 : Dv.Valid [exK1] := Dv.chk_iff.1 (by decide +kernel)
theorem ex_v3 : Dv.Valid [exK3] := Dv.chk_iff.1 (by decide +kernel)
theorem ex_v4 : Dv.Valid [exK4] := Dv.chk_iff.1 ex_chk
theorem one_ky {xs : List Kys} {k : Kv} (h : xs.map kv = [k]) : ∃ A n c, xs = [⟨k.user, k.master, k.pos, ⟨A, n, c, k.devs⟩⟩] := by
  match xs, h with
  | [], h => simp at h
  | [⟨u, m, p, ⟨A, n, c, l⟩⟩], h =>
    simp only [List.map_cons, List.map_nil, List.cons.injEq, and_true] at h
    subst h
    exact ⟨A, n, c, rfl⟩
  | _ :: _ :: _, h => simp at h
theorem ex_small (s : ByteArray) (h : s.size ≤ 100) : s.size ≤ maxLen := by unfold maxLen; omega
theorem res_of {w : World} {r r' : List Kv × Int} (h : r = r') {e : Ending} {w' : World} (hr : Res w r e w') : Res w r' e w' := h ▸ hr

set_option maxRecDepth 100000 in
set_option maxHeartbeats 8000000 in
theorem lives_any (w : World) : Calls Try.prog 32 #[] w (Ret w (.bool true)) := by
  go_enter Try.func32, Try.ntmps32
  go_wp2_with fail
  refine ((padd_any none 0 0 [] exU exD1 1 w Rd.Holds.none_ Dv.valid_nil (by omega) (by omega) (by omega) (ex_small _ (by decide)) (ex_small _ (by decide)) (by decide) (by decide)).mono fun _ _ h => res_of ex_add h).mono ?_
  rintro e w1 ⟨A1, c1, xs1, rfl, b1, h1, hc1, hm1, hk1⟩
  obtain ⟨dA1, dn1, dc1, rfl⟩ := one_ky hk1
  have hv1 : Dv.Valid ([(⟨exU, 0, 1, ⟨dA1, dn1, dc1, [exD0]⟩⟩ : Kys)].map kv) := ex_v1
  clear hk1
  simp only [List.length_singleton] at h1 hc1 ⊢
  have HV1 := Lib.hid hv1
  clear hv1
  go_wp2_with fail
  refine ((psign_any A1 1 c1 _ exU exD 2 w1 h1 HV1.out (by omega) hc1 hm1 (ex_small _ (by decide)) (by decide)).mono fun _ _ h => res_of ex_sign0 h).mono ?_
  rintro e w2 ⟨A2, c2, xs2, rfl, b2, _, _, _, hk2⟩
  have hxs2 : xs2 = [] := by simpa using hk2
  subst hxs2
  clear hk2
  have d2 := below_then b1 b2
  have h1' := h1.on b2
  clear b1 b2 h1
  simp only [List.length_nil]
  go_wp2_with fail
  refine ((pcross_any A1 1 c1 _ exU 9 3 w2 h1' HV1.out (by omega) hc1 hm1 (ex_small _ (by decide)) (by decide) (by decide)).mono fun _ _ h => res_of ex_cross h).mono ?_
  rintro e w3 ⟨A3, c3, xs3, rfl, b3, h3, hc3, hm3, hk3⟩
  obtain ⟨dA3, dn3, dc3, rfl⟩ := one_ky hk3
  have hv3 : Dv.Valid ([(⟨exU, 9, 3, ⟨dA3, dn3, dc3, [exD0]⟩⟩ : Kys)].map kv) := ex_v3
  clear hk3
  simp only [List.length_singleton] at h3 hc3 ⊢
  have HV3 := Lib.hid hv3
  have d3 := below_then d2 b3
  have h1'' := h1'.on b3
  clear hv3 d2 b3 h1'
  go_wp2_with fail
  refine ((psign_any A3 1 c3 _ exU exD 4 w3 h3 HV3.out (by omega) hc3 hm3 (ex_small _ (by decide)) (by decide)).mono fun _ _ h => res_of ex_sign h).mono ?_
  rintro e w4 ⟨A4, c4, xs4, rfl, b4, h4, hc4, hm4, hk4⟩
  obtain ⟨dA4, dn4, dc4, rfl⟩ := one_ky hk4
  have hv4 : Dv.Valid ([(⟨exU, 9, 4, ⟨dA4, dn4, dc4, [exD1]⟩⟩ : Kys)].map kv) := ex_v4
  clear hk4
  simp only [List.length_singleton] at h4 hc4 ⊢
  have HV4 := Lib.hid hv4
  have d4 := below_then d3 b4
  have g1 := h1''.on b4
  clear hv4 d3 b4 h1'' h3 HV3 HV1
  go_wp2_with fail
  refine ((premove_any A4 1 c4 _ exU exD 5 w4 h4 HV4.out (by omega) hc4 hm4 (ex_small _ (by decide)) (by decide)).mono fun _ _ h => res_of ex_remove h).mono ?_
  rintro e w5 ⟨A5, c5, xs5, rfl, b5, h5, hc5, hm5, hk5⟩
  obtain ⟨dA5, dn5, dc5, rfl⟩ := one_ky hk5
  clear hk5
  simp only [List.length_singleton] at h5 hc5 ⊢
  have d5 := below_then d4 b5
  have g1' := g1.on b5
  have h4' := h4.on b5
  clear d4 b5 g1 h4
  have hget : getV (Dv.find ku [(⟨exU, 9, 4, ⟨dA4, dn4, dc4, [exD1]⟩⟩ : Kys)] (bs exU)) = .tuple #[.agg #[.string exU, .int .i64 9, .int .i64 4, .slice dA4 dn4 dc4], .bool true] := rfl
  have CG := get_any A4 1 c4 _ exU w5 h4' (by omega)
  rw [hget] at CG
  have HCG := Lib.hid CG
  clear CG hget
  go_wp2_with fail
  refine HCG.out.mono ?_
  rintro e w6 ⟨rfl, b6⟩
  have d6 := below_then d5 b6
  have g1'' := g1'.on b6
  have h4'' := h4'.on b6
  have h5' := h5.on b6
  clear d5 b6 g1' h4' h5 HCG
  go_upto_region 7 with fail
  obtain ⟨w7, hw7⟩ : ∃ W : World, W = w6.alloc (.cells #[.string exU, .int .i64 9, .int .i64 4, .slice dA4 dn4 dc4] 59) := ⟨_, rfl⟩
  have b7 : Below w6.heap.size w6 w7 := by rw [hw7]; exact below_alloc (Below.refl _ _) _
  have bx : Box w7 w6.heap.size [.string exU, .int .i64 9, .int .i64 4, .slice dA4 dn4 dc4] := by rw [hw7]; exact Box.new w6 [.string exU, .int .i64 9, .int .i64 4, .slice dA4 dn4 dc4] _
  rw [← hw7]
  obtain ⟨q, hq⟩ : ∃ q, w6.heap.size = q := ⟨_, rfl⟩
  have d7 := below_then d6 b7
  have g1 := g1''.on b7
  have h4 := h4''.on b7
  have h5 := h5'.on b7
  rw [hq] at bx ⊢
  clear hq hw7 b7 d6 g1'' h4'' h5'
  have CC := changed_any A4 1 c4 _ 4 w7 h4 (by omega) HV4.out.inc
  rw [show Dv.changed ([(⟨exU, 9, 4, ⟨dA4, dn4, dc4, [exD1]⟩⟩ : Kys)].map kv) 4 = [bs exU] from ex_changed] at CC
  have HCC := Lib.hid CC
  clear CC
  go_wp2_with fail
  refine HCC.out.mono ?_
  rintro e w8 ⟨v8, rfl, b8, own8⟩
  obtain ⟨A8, c8, rfl, hs8⟩ := own8.form'
  have d8 := below_then d7 b8
  have g1' := g1.on b8
  have h4' := h4.on b8
  have h5' := h5.on b8
  have bx' := bx.on b8
  clear own8 b8 d7 g1 h4 h5 bx HCC
  simp only [List.length_singleton, List.map_cons, List.map_nil] at hs8
  have k1 : w8.cell? ⟨q, 1, none⟩ = some (.int .i64 9) := bx'.at_ 1 _ rfl
  have k2 : w8.cell? ⟨q, 2, none⟩ = some (.int .i64 4) := bx'.at_ 2 _ rfl
  have k3 : w8.cell? ⟨q, 3, none⟩ = some (.slice dA4 dn4 dc4) := bx'.at_ 3 _ rfl
  have e4 := (h4'.2.2 _ (List.mem_singleton.2 rfl)).2.2.2.1.1
  have e1 := (g1'.2.2 _ (List.mem_singleton.2 rfl)).2.2.2.1.1
  have e5 := (h5'.2.2 _ (List.mem_singleton.2 rfl)).2.2.2.1.1
  have l4 : 1 = dn4 := e4.length
  have l1 : 1 = dn1 := e1.length
  have l5 : 0 = dn5 := e5.length
  subst l4 l1 l5
  have e4' : Rd.dvc.Holds w8 dA4 1 [exD1] := e4
  have e1' : Rd.dvc.Holds w8 dA1 1 [exD0] := e1
  clear e4 e1 e5
  obtain ⟨p4, o4, x4, rfl, _, hx4, _, _, z4⟩ := e4'.mid (by decide) (show 0 < 1 by omega)
  obtain ⟨p1, o1, x1, rfl, _, hx1, _, _, z1⟩ := e1'.mid (by decide) (show 0 < 1 by omega)
  simp only [List.getElem?_cons_zero, Option.some.injEq] at hx4 hx1
  subst hx4 hx1
  obtain ⟨pa, oa, xa, rfl, _, hxa, _, _, za⟩ := g1'.mid (by decide) (show 0 < 1 by omega)
  obtain ⟨pd, od, xd, rfl, _, hxd, _, _, zd⟩ := h5'.mid (by decide) (show 0 < 1 by omega)
  simp only [List.getElem?_cons_zero, Option.some.injEq] at hxa hxd
  subst hxa hxd
  obtain ⟨ad8, x8, rfl, _, hx8, z8⟩ := hs8.at_ (show 0 < 1 by omega)
  simp only [List.getElem?_cons_zero, Option.some.injEq] at hx8
  subst hx8
  have m41 : w8.cell? ⟨p4, o4, none⟩ = none ∨ True := .inr trivial
  have m4k : w8.cell? ⟨p4, o4 + 1, none⟩ = some (.int .i64 7) := by have := z4 1 _ rfl; simpa using this
  have m4s : w8.cell? ⟨p4, o4 + 2, none⟩ = some (.bool true) := by have := z4 2 _ rfl; simpa using this
  have m1s : w8.cell? ⟨p1, o1 + 2, none⟩ = some (.bool false) := by have := z1 2 _ rfl; simpa using this
  have ma3 : w8.cell? ⟨pa, oa + 3, none⟩ = some (.slice (some ⟨p1, o1, none⟩) 1 dc1) := by have := za 3 _ rfl; simpa [Sl.val] using this
  have md3 : w8.cell? ⟨pd, od + 3, none⟩ = some (.slice dA5 0 dc5) := by have := zd 3 _ rfl; simpa [Sl.val] using this
  have m8 : w8.cell? ad8 = some (.string exU) := by
    have := z8
    rw [mk_bs] at this
    simpa [Addr.add] using this
  have CK := pcheck_any A4 1 c4 _ w8 h4' (by omega)
  rw [show Dv.chk ([(⟨exU, 9, 4, ⟨some ⟨p4, o4, none⟩, 1, dc4, [exD1]⟩⟩ : Kys)].map kv) = 0 from ex_chk] at CK
  have HCK := Lib.hid CK
  clear CK z4 z1 za zd z8 m41 e4' e1' hs8 g1' h4' h5' bx' HV4
  go_wp2_with fail
  refine HCK.out.mono ?_
  rintro e w9 ⟨rfl, b9⟩
  have d9 := below_then d8 b9
  go_wp2_with fail
  go_ret
  exact ⟨rfl, d9⟩
end Go.Proofs.Ytbhkgdfmjkblcaa
