/-
  The law DevicesAdds. Printed by gen_devt.py.
-/
import Derived.Test.YtbhkgdfmjkblcaaDevT
import Derived.Test.YtbhkgdfmjkblcaaDevU
namespace Go.Proofs.Ytbhkgdfmjkblcaa
open Go.RowKit
attribute [local go_sem ↓] ex_st_ky ex_st_dv
attribute [local go_sem] st_ky_new st_ky st_dv_new st_dv

set_option maxRecDepth 100000 in
set_option maxHeartbeats 8000000 in
theorem devicesAdds_any (x : Sl Kys) (y : Dc) (w : World) (hx : InL w x.A x.n x.c x.l) (hy : Rd.dc.Ok w y) : Calls Try.prog 10 #[x.val, .agg (Rd.dc.cells y).toArray] w (Ret w (.bool true)) := by
  obtain ⟨A, n, c, l⟩ := x
  have hr0 : Rd.kys.Holds w A n l := hx.h
  have hnm : n ≤ maxLen := hx.nm
  have hnc : n ≤ c := hx.nc
  have hcm : c ≤ maxLen := hx.cm
  have hy0 := dc_ok hy
  obtain ⟨u, ⟨id, key, sg⟩, m, p⟩ := y
  have hus : u.size ≤ maxLen := hy0.user
  have hid : id.size ≤ maxLen := hy0.id
  have hkey : -9223372036854775808 ≤ key ∧ key ≤ 9223372036854775807 := hy0.key
  have hm : -9223372036854775808 ≤ m ∧ m ≤ 9223372036854775807 := hy0.master
  have hp : -9223372036854775808 ≤ p ∧ p ≤ 9223372036854775807 := hy0.pos
  show Calls _ _ #[.slice A n c, .agg #[.string u, .string id, .int .i64 key, .bool sg, .int .i64 m, .int .i64 p]] w _
  clear hx hy hy0
  obtain ⟨wa, hwa⟩ : ∃ wa : World, wa = w.alloc (.cells #[.string u, .string id, .int .i64 key, .bool sg, .int .i64 m, .int .i64 p] 49) := ⟨_, rfl⟩
  have hba : Below w.heap.size w wa := by rw [hwa]; exact below_alloc (Below.refl _ _) _
  have bx0 : Box wa w.heap.size [.string u, .string id, .int .i64 key, .bool sg, .int .i64 m, .int .i64 p] := by rw [hwa]; exact Box.new w [.string u, .string id, .int .i64 key, .bool sg, .int .i64 m, .int .i64 p] _
  go_enter Try.func10, Try.ntmps10
  go_upto_region 1 with fail
  rw [← hwa]
  clear hwa
  obtain ⟨q, hq⟩ : ∃ q, w.heap.size = q := ⟨_, rfl⟩
  rw [hq] at bx0 ⊢
  clear hq
  have hra := hr0.on hba
  go_wp2_with fail
  refine (valid_any A n c l wa hra hnm).mono ?_
  rintro e w1 ⟨v, rfl, hv, b1⟩
  have d1 := below_then hba b1
  have bx1 := bx0.on b1
  have hr1 := hra.on b1
  have HV0 := Lib.hid hv
  clear hv hra bx0 b1 hba
  have k0 : w1.cell? ⟨q, 0, none⟩ = some (.string u) := bx1.at_ 0 _ rfl
  have k1 : w1.cell? ⟨q, 1, none⟩ = some (.string id) := bx1.at_ 1 _ rfl
  have k2 : w1.cell? ⟨q, 2, none⟩ = some (.int .i64 key) := bx1.at_ 2 _ rfl
  have k3 : w1.cell? ⟨q, 3, none⟩ = some (.bool sg) := bx1.at_ 3 _ rfl
  have k4 : w1.cell? ⟨q, 4, none⟩ = some (.int .i64 m) := bx1.at_ 4 _ rfl
  have k5 : w1.cell? ⟨q, 5, none⟩ = some (.int .i64 p) := bx1.at_ 5 _ rfl
  cases v
  · go_wp2_with fail
    refine (lives_any w1).mono ?_
    rintro e w2 ⟨rfl, b2⟩
    have d2 := below_then d1 b2
    go_wp2_with fail
    go_ret
    exact ⟨rfl, d2⟩
  obtain ⟨hn, hV⟩ : n ≤ 210 ∧ Dv.Valid (l.map kv) := HV0.out (by first | trivial | rfl)
  have HV := Lib.hid hV
  clear hV HV0
  go_wp2_with fail
  refine (brief_any ⟨u, ⟨id, key, sg⟩, m, p⟩ w1).mono ?_
  rintro e w2 ⟨v, rfl, b2⟩
  have d2 := below_then d1 b2
  have bx2 := bx1.on b2
  have hr2 := hr1.on b2
  clear b2 d1 bx1 hr1 k0 k1 k2 k3 k4 k5
  have k0 : w2.cell? ⟨q, 0, none⟩ = some (.string u) := bx2.at_ 0 _ rfl
  have k1 : w2.cell? ⟨q, 1, none⟩ = some (.string id) := bx2.at_ 1 _ rfl
  have k2 : w2.cell? ⟨q, 2, none⟩ = some (.int .i64 key) := bx2.at_ 2 _ rfl
  have k3 : w2.cell? ⟨q, 3, none⟩ = some (.bool sg) := bx2.at_ 3 _ rfl
  have k4 : w2.cell? ⟨q, 4, none⟩ = some (.int .i64 m) := bx2.at_ 4 _ rfl
  have k5 : w2.cell? ⟨q, 5, none⟩ = some (.int .i64 p) := bx2.at_ 5 _ rfl
  cases v
  · go_wp2_with fail
    refine (lives_any w2).mono ?_
    rintro e w3 ⟨rfl, b3⟩
    have d3 := below_then d2 b3
    go_wp2_with fail
    go_ret
    exact ⟨rfl, d3⟩

  obtain ⟨⟨La, ea⟩, hLa⟩ : ∃ r, Dv.add (l.map kv) u ⟨id, key, sg⟩ p = r := ⟨_, rfl⟩
  have hoka : Dv.Valid La := by have := Dv.add_ok HV.out u ⟨id, key, sg⟩ p; rw [hLa] at this; exact this
  have CPa := padd_any A n c l u ⟨id, key, sg⟩ p w2 hr2 HV.out (by omega) hnc hcm hus hid hkey hp
  have CRa := fun W (h : Rd.kys.Holds W A n l) => radd_any A n c l u ⟨id, key, sg⟩ p W h HV.out (by omega) hnc hcm hus hid hkey hp
  rw [hLa] at CPa
  rw [hLa] at CRa
  have HCPa := Lib.hid CPa; have HCRa := Lib.hid CRa; have HOKa := Lib.hid hoka
  clear CPa CRa hLa hoka
  go_wp2_with fail
  refine HCPa.out.mono ?_
  rintro e w3 ⟨Aa, ca, xsa, rfl, b3, hxa, hca, hma, hkxa⟩
  have d3 := below_then d2 b3
  have bx3 := bx2.on b3
  have hr3 := hr2.on b3
  clear b3 d2 bx2 hr2 k0 k1 k2 k3 k4 k5 HCPa
  have k0 : w3.cell? ⟨q, 0, none⟩ = some (.string u) := bx3.at_ 0 _ rfl
  have k1 : w3.cell? ⟨q, 1, none⟩ = some (.string id) := bx3.at_ 1 _ rfl
  have k2 : w3.cell? ⟨q, 2, none⟩ = some (.int .i64 key) := bx3.at_ 2 _ rfl
  have k3 : w3.cell? ⟨q, 3, none⟩ = some (.bool sg) := bx3.at_ 3 _ rfl
  have k4 : w3.cell? ⟨q, 4, none⟩ = some (.int .i64 m) := bx3.at_ 4 _ rfl
  have k5 : w3.cell? ⟨q, 5, none⟩ = some (.int .i64 p) := bx3.at_ 5 _ rfl
  go_wp2_with fail
  refine (HCRa.out w3 hr3).mono ?_
  rintro e w4 ⟨Ba, fa, ysa, rfl, b4, hya, _, _, hkya⟩
  have d4 := below_then d3 b4
  have bx4 := bx3.on b4
  have hr4 := hr3.on b4
  have hxa := hxa.on b4
  have hlena : ysa.length = xsa.length := by rw [kv_len hkxa, kv_len hkya]
  rw [hlena] at hya ⊢
  have hfxa : xsa.length ≤ 200 := by rw [kv_len hkxa]; exact HOKa.out.few
  have HEQa : Hid (xsa.map kv = ysa.map kv) := Lib.hid (by rw [hkxa, hkya])
  have HCHa : Hid (Dv.chk (xsa.map kv) = 0) := Lib.hid (by rw [hkxa]; exact Dv.chk_iff.2 HOKa.out)
  obtain ⟨na, hna⟩ : ∃ m, xsa.length = m := ⟨_, rfl⟩
  rw [hna] at hxa hya hfxa hca ⊢
  clear b4 d3 bx3 hr3 k0 k1 k2 k3 k4 k5 HCRa hkxa hkya hlena hna HOKa
  have k0 : w4.cell? ⟨q, 0, none⟩ = some (.string u) := bx4.at_ 0 _ rfl
  have k1 : w4.cell? ⟨q, 1, none⟩ = some (.string id) := bx4.at_ 1 _ rfl
  have k2 : w4.cell? ⟨q, 2, none⟩ = some (.int .i64 key) := bx4.at_ 2 _ rfl
  have k3 : w4.cell? ⟨q, 3, none⟩ = some (.bool sg) := bx4.at_ 3 _ rfl
  have k4 : w4.cell? ⟨q, 4, none⟩ = some (.int .i64 m) := bx4.at_ 4 _ rfl
  have k5 : w4.cell? ⟨q, 5, none⟩ = some (.int .i64 p) := bx4.at_ 5 _ rfl

  obtain ⟨⟨Lb, eb⟩, hLb⟩ : ∃ r, Dv.remove (l.map kv) u id p = r := ⟨_, rfl⟩
  have hokb : Dv.Valid Lb := by have := Dv.remove_ok HV.out u id p; rw [hLb] at this; exact this
  have CPb := premove_any A n c l u id p w4 hr4 HV.out (by omega) hnc hcm hid hp
  have CRb := fun W (h : Rd.kys.Holds W A n l) => rremove_any A n c l u id p W h HV.out (by omega) hnc hcm hp
  rw [hLb] at CPb
  rw [hLb] at CRb
  have HCPb := Lib.hid CPb; have HCRb := Lib.hid CRb; have HOKb := Lib.hid hokb
  clear CPb CRb hLb hokb
  go_wp2_with fail
  refine HCPb.out.mono ?_
  rintro e w5 ⟨Ab, cb, xsb, rfl, b5, hxb, hcb, hmb, hkxb⟩
  have d5 := below_then d4 b5
  have bx5 := bx4.on b5
  have hr5 := hr4.on b5
  have hxa := hxa.on b5
  have hya := hya.on b5
  clear b5 d4 bx4 hr4 k0 k1 k2 k3 k4 k5 HCPb
  have k0 : w5.cell? ⟨q, 0, none⟩ = some (.string u) := bx5.at_ 0 _ rfl
  have k1 : w5.cell? ⟨q, 1, none⟩ = some (.string id) := bx5.at_ 1 _ rfl
  have k2 : w5.cell? ⟨q, 2, none⟩ = some (.int .i64 key) := bx5.at_ 2 _ rfl
  have k3 : w5.cell? ⟨q, 3, none⟩ = some (.bool sg) := bx5.at_ 3 _ rfl
  have k4 : w5.cell? ⟨q, 4, none⟩ = some (.int .i64 m) := bx5.at_ 4 _ rfl
  have k5 : w5.cell? ⟨q, 5, none⟩ = some (.int .i64 p) := bx5.at_ 5 _ rfl
  go_wp2_with fail
  refine (HCRb.out w5 hr5).mono ?_
  rintro e w6 ⟨Bb, fb, ysb, rfl, b6, hyb, _, _, hkyb⟩
  have d6 := below_then d5 b6
  have bx6 := bx5.on b6
  have hr6 := hr5.on b6
  have hxb := hxb.on b6
  have hxa := hxa.on b6
  have hya := hya.on b6
  have hlenb : ysb.length = xsb.length := by rw [kv_len hkxb, kv_len hkyb]
  rw [hlenb] at hyb ⊢
  have hfxb : xsb.length ≤ 200 := by rw [kv_len hkxb]; exact HOKb.out.few
  have HEQb : Hid (xsb.map kv = ysb.map kv) := Lib.hid (by rw [hkxb, hkyb])
  have HCHb : Hid (Dv.chk (xsb.map kv) = 0) := Lib.hid (by rw [hkxb]; exact Dv.chk_iff.2 HOKb.out)
  obtain ⟨nb, hnb⟩ : ∃ m, xsb.length = m := ⟨_, rfl⟩
  rw [hnb] at hxb hyb hfxb hcb ⊢
  clear b6 d5 bx5 hr5 k0 k1 k2 k3 k4 k5 HCRb hkxb hkyb hlenb hnb HOKb
  have k0 : w6.cell? ⟨q, 0, none⟩ = some (.string u) := bx6.at_ 0 _ rfl
  have k1 : w6.cell? ⟨q, 1, none⟩ = some (.string id) := bx6.at_ 1 _ rfl
  have k2 : w6.cell? ⟨q, 2, none⟩ = some (.int .i64 key) := bx6.at_ 2 _ rfl
  have k3 : w6.cell? ⟨q, 3, none⟩ = some (.bool sg) := bx6.at_ 3 _ rfl
  have k4 : w6.cell? ⟨q, 4, none⟩ = some (.int .i64 m) := bx6.at_ 4 _ rfl
  have k5 : w6.cell? ⟨q, 5, none⟩ = some (.int .i64 p) := bx6.at_ 5 _ rfl
  clear k0 k1 k2 k3 k4 k5 bx6 hr6 hr0

  go_wp2_with fail
  refine (rsame43_any Aa Ba na ca fa xsa ysa w6 hxa hya (by unfold maxLen; omega) HEQa.out).mono ?_
  rintro e w7 ⟨rfl, b7⟩
  have d7 := below_then d6 b7
  have hxa' := hxa.on b7
  have hxb := hxb.on b7
  have hyb := hyb.on b7
  clear b7 d6 hxa hya
  have CKa := pcheck_any Aa na ca xsa w7 hxa' (by omega)
  rw [HCHa.out] at CKa
  have HCKa := Lib.hid CKa
  clear CKa HCHa HEQa
  go_wp2_with fail
  refine HCKa.out.mono ?_
  rintro e w8 ⟨rfl, b8⟩
  have d8 := below_then d7 b8
  have hxb := hxb.on b8
  have hyb := hyb.on b8
  clear b8 d7 hxa' HCKa

  go_wp2_with fail
  refine (rsame43_any Ab Bb nb cb fb xsb ysb w8 hxb hyb (by unfold maxLen; omega) HEQb.out).mono ?_
  rintro e w9 ⟨rfl, b9⟩
  have d9 := below_then d8 b9
  have hxb' := hxb.on b9
  clear b9 d8 hxb hyb
  have CKb := pcheck_any Ab nb cb xsb w9 hxb' (by omega)
  rw [HCHb.out] at CKb
  have HCKb := Lib.hid CKb
  clear CKb HCHb HEQb
  go_wp2_with fail
  refine HCKb.out.mono ?_
  rintro e w10 ⟨rfl, b10⟩
  have d10 := below_then d9 b10
  clear b10 d9 hxb' HCKb

  go_wp2_with fail
  refine (lives_any w10).mono ?_
  rintro e w11 ⟨rfl, b11⟩
  have d11 := below_then d10 b11
  go_wp2_with fail
  go_ret
  exact ⟨rfl, d11⟩
end Go.Proofs.Ytbhkgdfmjkblcaa
