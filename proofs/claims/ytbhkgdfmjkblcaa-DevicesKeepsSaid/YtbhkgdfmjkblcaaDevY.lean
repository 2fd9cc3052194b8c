/-
  The law DevicesKeeps. Printed by gen_devy.py.
-/
import Derived.Test.YtbhkgdfmjkblcaaDevT
import Derived.Test.YtbhkgdfmjkblcaaDevX
import Derived.Deep.DeepCutAuto
namespace Go.Proofs.Ytbhkgdfmjkblcaa
open Go.RowKit
attribute [local go_sem ↓] ex_st_ky ex_st_dv
attribute [local go_sem] st_ky_new st_ky st_dv_new st_dv

set_option maxRecDepth 100000 in
set_option maxHeartbeats 8000000 in
theorem devicesKeeps_any (x : Sl Kys) (y : Dc) (w : World) (hx : InL w x.A x.n x.c x.l) (hy : Rd.dc.Ok w y) : Calls Try.prog 13 #[x.val, .agg (Rd.dc.cells y).toArray] w (Ret w (.bool true)) := by
  obtain ⟨A, n, c, l⟩ := x
  have hr0 : Rd.kys.Holds w A n l := hx.h
  have hnm : n ≤ maxLen := hx.nm
  have hnc : n ≤ c := hx.nc
  have hcm : c ≤ maxLen := hx.cm
  have hy0 := dc_ok hy
  obtain ⟨u, ⟨id, key, sg⟩, m, p⟩ := y
  have hus : u.size ≤ maxLen := hy0.user
  have hid : id.size ≤ maxLen := hy0.id
  have hkey : -9223372036854775808 ≤ key ∧ key ≤ 9223372036854775807 := hy0.key
  have hm : -9223372036854775808 ≤ m ∧ m ≤ 9223372036854775807 := hy0.master
  have hp : -9223372036854775808 ≤ p ∧ p ≤ 9223372036854775807 := hy0.pos
  show Calls _ _ #[.slice A n c, .agg #[.string u, .string id, .int .i64 key, .bool sg, .int .i64 m, .int .i64 p]] w _
  clear hx hy hy0
  obtain ⟨wa, hwa⟩ : ∃ wa : World, wa = w.alloc (.cells #[.string u, .string id, .int .i64 key, .bool sg, .int .i64 m, .int .i64 p] 49) := ⟨_, rfl⟩
  have hba : Below w.heap.size w wa := by rw [hwa]; exact below_alloc (Below.refl _ _) _
  have bx0 : Box wa w.heap.size [.string u, .string id, .int .i64 key, .bool sg, .int .i64 m, .int .i64 p] := by rw [hwa]; exact Box.new w [.string u, .string id, .int .i64 key, .bool sg, .int .i64 m, .int .i64 p] _
  go_enter Try.func13, Try.ntmps13
  go_upto_region 1 with fail
  rw [← hwa]
  clear hwa
  obtain ⟨q, hq⟩ : ∃ q, w.heap.size = q := ⟨_, rfl⟩
  rw [hq] at bx0 ⊢
  clear hq
  have hra := hr0.on hba
  go_wp2_with fail
  refine (valid_any A n c l wa hra hnm).mono ?_
  rintro e w1 ⟨v, rfl, hv, b1⟩
  have d1 := below_then hba b1
  have bx1 := bx0.on b1
  have hr1 := hra.on b1
  have HV0 := Lib.hid hv
  clear hv hra bx0 b1 hba
  have k0 : w1.cell? ⟨q, 0, none⟩ = some (.string u) := bx1.at_ 0 _ rfl
  have k1 : w1.cell? ⟨q, 1, none⟩ = some (.string id) := bx1.at_ 1 _ rfl
  have k2 : w1.cell? ⟨q, 2, none⟩ = some (.int .i64 key) := bx1.at_ 2 _ rfl
  have k3 : w1.cell? ⟨q, 3, none⟩ = some (.bool sg) := bx1.at_ 3 _ rfl
  have k4 : w1.cell? ⟨q, 4, none⟩ = some (.int .i64 m) := bx1.at_ 4 _ rfl
  have k5 : w1.cell? ⟨q, 5, none⟩ = some (.int .i64 p) := bx1.at_ 5 _ rfl
  cases v
  · go_wp2_with fail
    refine (lives_any w1).mono ?_
    rintro e w2 ⟨rfl, b2⟩
    have d2 := below_then d1 b2
    go_wp2_with fail
    go_ret
    exact ⟨rfl, d2⟩
  obtain ⟨hn, hV⟩ : n ≤ 210 ∧ Dv.Valid (l.map kv) := HV0.out (by first | trivial | rfl)
  have HV := Lib.hid hV
  clear hV HV0
  go_wp2_with fail
  refine (brief_any ⟨u, ⟨id, key, sg⟩, m, p⟩ w1).mono ?_
  rintro e w2 ⟨v, rfl, b2⟩
  have d2 := below_then d1 b2
  have bx2 := bx1.on b2
  have hr2 := hr1.on b2
  clear b2 d1 bx1 hr1 k0 k1 k2 k3 k4 k5
  have k0 : w2.cell? ⟨q, 0, none⟩ = some (.string u) := bx2.at_ 0 _ rfl
  have k1 : w2.cell? ⟨q, 1, none⟩ = some (.string id) := bx2.at_ 1 _ rfl
  have k2 : w2.cell? ⟨q, 2, none⟩ = some (.int .i64 key) := bx2.at_ 2 _ rfl
  have k3 : w2.cell? ⟨q, 3, none⟩ = some (.bool sg) := bx2.at_ 3 _ rfl
  have k4 : w2.cell? ⟨q, 4, none⟩ = some (.int .i64 m) := bx2.at_ 4 _ rfl
  have k5 : w2.cell? ⟨q, 5, none⟩ = some (.int .i64 p) := bx2.at_ 5 _ rfl
  cases v
  · go_wp2_with fail
    refine (lives_any w2).mono ?_
    rintro e w3 ⟨rfl, b3⟩
    have d3 := below_then d2 b3
    go_wp2_with fail
    go_ret
    exact ⟨rfl, d3⟩

  obtain ⟨⟨La, ea⟩, hLa⟩ : ∃ r, Dv.add (l.map kv) u ⟨id, key, sg⟩ p = r := ⟨_, rfl⟩
  have hoka : Dv.Valid La := by have := Dv.add_ok HV.out u ⟨id, key, sg⟩ p; rw [hLa] at this; exact this
  have hkpa : ea = 0 → Dv.apartB (l.map kv) La u = true ∧ bs u ∈ Dv.changed La p := by have := Dv.add_keeps HV.out.inc u ⟨id, key, sg⟩ p; rw [hLa] at this; exact this
  have CPa := padd_any A n c l u ⟨id, key, sg⟩ p w2 hr2 HV.out (by omega) hnc hcm hus hid hkey hp
  rw [hLa] at CPa
  have HCPa := Lib.hid CPa; have HOKa := Lib.hid hoka; have HKPa := Lib.hid hkpa
  clear CPa hLa hoka hkpa
  go_wp2_with fail
  refine HCPa.out.mono ?_
  rintro e w3 ⟨Aa, ca, xsa, rfl, b3, hxa, hca, hma, hkxa⟩
  have d3 := below_then d2 b3
  have bx3 := bx2.on b3
  have hr3 := hr2.on b3
  have HKXa := Lib.hid hkxa
  have hfxa : xsa.length ≤ 200 := by rw [kv_len hkxa]; exact HOKa.out.few
  obtain ⟨na, hna⟩ : ∃ m, xsa.length = m := ⟨_, rfl⟩
  rw [hna] at hxa hfxa ⊢
  clear b3 d2 bx2 hr2 k0 k1 k2 k3 k4 k5 HCPa hca hkxa hna
  have k0 : w3.cell? ⟨q, 0, none⟩ = some (.string u) := bx3.at_ 0 _ rfl
  have k1 : w3.cell? ⟨q, 1, none⟩ = some (.string id) := bx3.at_ 1 _ rfl
  have k2 : w3.cell? ⟨q, 2, none⟩ = some (.int .i64 key) := bx3.at_ 2 _ rfl
  have k3 : w3.cell? ⟨q, 3, none⟩ = some (.bool sg) := bx3.at_ 3 _ rfl
  have k4 : w3.cell? ⟨q, 4, none⟩ = some (.int .i64 m) := bx3.at_ 4 _ rfl
  have k5 : w3.cell? ⟨q, 5, none⟩ = some (.int .i64 p) := bx3.at_ 5 _ rfl
  go_upto_region 4 with fail
  go_cut [48] (fun s V => s = .bool false ∧ Below w3.heap.size w3 V)
  case first =>
    by_cases he : ea = 0
    · obtain ⟨hq1, hq2⟩ := HKPa.out he
      subst he
      have CA := apart_any A Aa n na c ca l xsa u w3 hr3 hxa (by omega) (by omega) (by rw [HKXa.out]; exact HOKa.out.inc) (by rw [HKXa.out]; exact hq1)
      have CS := fun V (h : Below w3.heap.size w3 V) => seen_any Aa na ca xsa u p V (hxa.on h) (by omega) (by rw [HKXa.out]; exact HOKa.out.inc) (by rw [HKXa.out]; exact hq2)
      have HCA := Lib.hid CA; have HCS := Lib.hid CS
      clear CA CS hq1 hq2
      go_wp2_with fail
      refine HCA.out.mono ?_
      rintro e wz ⟨rfl, bz⟩
      have bxz := bx3.on bz
      clear k0 k1 k2 k3 k4 k5
      have k0 : wz.cell? ⟨q, 0, none⟩ = some (.string u) := bxz.at_ 0 _ rfl
      have k5 : wz.cell? ⟨q, 5, none⟩ = some (.int .i64 p) := bxz.at_ 5 _ rfl
      go_wp2_with fail
      refine (HCS.out wz bz).mono ?_
      rintro e wy ⟨rfl, bby⟩
      have bzy := below_then bz bby
      go_wp2_with fail
      go_meet
      exact ⟨rfl, bzy⟩
    · have e0 : (ea == 0) = false := eqF he
      clear he
      go_wp2_with fail
      go_meet
      exact ⟨rfl, Below.refl _ _⟩
  obtain ⟨rfl, hb4⟩ := hcut
  rename World => w4
  have d4 := below_then d3 hb4
  have bx4 := bx3.on hb4
  have hr4 := hr3.on hb4
  clear hb4 d3 bx3 hr3 k0 k1 k2 k3 k4 k5 HKPa HKXa HOKa hxa
  have k0 : w4.cell? ⟨q, 0, none⟩ = some (.string u) := bx4.at_ 0 _ rfl
  have k1 : w4.cell? ⟨q, 1, none⟩ = some (.string id) := bx4.at_ 1 _ rfl
  have k2 : w4.cell? ⟨q, 2, none⟩ = some (.int .i64 key) := bx4.at_ 2 _ rfl
  have k3 : w4.cell? ⟨q, 3, none⟩ = some (.bool sg) := bx4.at_ 3 _ rfl
  have k4 : w4.cell? ⟨q, 4, none⟩ = some (.int .i64 m) := bx4.at_ 4 _ rfl
  have k5 : w4.cell? ⟨q, 5, none⟩ = some (.int .i64 p) := bx4.at_ 5 _ rfl

  obtain ⟨⟨Lb, eb⟩, hLb⟩ : ∃ r, Dv.cross (l.map kv) u m p = r := ⟨_, rfl⟩
  have hokb : Dv.Valid Lb := by have := Dv.cross_ok HV.out u m p; rw [hLb] at this; exact this
  have hkpb : eb = 0 → Dv.apartB (l.map kv) Lb u = true ∧ bs u ∈ Dv.changed Lb p := by have := Dv.cross_keeps HV.out.inc u m p; rw [hLb] at this; exact this
  have CPb := pcross_any A n c l u m p w4 hr4 HV.out (by omega) hnc hcm hus hm hp
  rw [hLb] at CPb
  have HCPb := Lib.hid CPb; have HOKb := Lib.hid hokb; have HKPb := Lib.hid hkpb
  clear CPb hLb hokb hkpb
  go_wp2_with fail
  refine HCPb.out.mono ?_
  rintro e w5 ⟨Ab, cb, xsb, rfl, b5, hxb, hcb, hmb, hkxb⟩
  have d5 := below_then d4 b5
  have bx5 := bx4.on b5
  have hr5 := hr4.on b5
  have HKXb := Lib.hid hkxb
  have hfxb : xsb.length ≤ 200 := by rw [kv_len hkxb]; exact HOKb.out.few
  obtain ⟨nb, hnb⟩ : ∃ m, xsb.length = m := ⟨_, rfl⟩
  rw [hnb] at hxb hfxb ⊢
  clear b5 d4 bx4 hr4 k0 k1 k2 k3 k4 k5 HCPb hcb hkxb hnb
  have k0 : w5.cell? ⟨q, 0, none⟩ = some (.string u) := bx5.at_ 0 _ rfl
  have k1 : w5.cell? ⟨q, 1, none⟩ = some (.string id) := bx5.at_ 1 _ rfl
  have k2 : w5.cell? ⟨q, 2, none⟩ = some (.int .i64 key) := bx5.at_ 2 _ rfl
  have k3 : w5.cell? ⟨q, 3, none⟩ = some (.bool sg) := bx5.at_ 3 _ rfl
  have k4 : w5.cell? ⟨q, 4, none⟩ = some (.int .i64 m) := bx5.at_ 4 _ rfl
  have k5 : w5.cell? ⟨q, 5, none⟩ = some (.int .i64 p) := bx5.at_ 5 _ rfl
  go_upto_region 7 with fail
  go_cut [78] (fun s V => s = .bool false ∧ Below w5.heap.size w5 V)
  case first =>
    by_cases he : eb = 0
    · obtain ⟨hq1, hq2⟩ := HKPb.out he
      subst he
      have CA := apart_any A Ab n nb c cb l xsb u w5 hr5 hxb (by omega) (by omega) (by rw [HKXb.out]; exact HOKb.out.inc) (by rw [HKXb.out]; exact hq1)
      have CS := fun V (h : Below w5.heap.size w5 V) => seen_any Ab nb cb xsb u p V (hxb.on h) (by omega) (by rw [HKXb.out]; exact HOKb.out.inc) (by rw [HKXb.out]; exact hq2)
      have HCA := Lib.hid CA; have HCS := Lib.hid CS
      clear CA CS hq1 hq2
      go_wp2_with fail
      refine HCA.out.mono ?_
      rintro e wz ⟨rfl, bz⟩
      have bxz := bx5.on bz
      clear k0 k1 k2 k3 k4 k5
      have k0 : wz.cell? ⟨q, 0, none⟩ = some (.string u) := bxz.at_ 0 _ rfl
      have k5 : wz.cell? ⟨q, 5, none⟩ = some (.int .i64 p) := bxz.at_ 5 _ rfl
      go_wp2_with fail
      refine (HCS.out wz bz).mono ?_
      rintro e wy ⟨rfl, bby⟩
      have bzy := below_then bz bby
      go_wp2_with fail
      go_meet
      exact ⟨rfl, bzy⟩
    · have e0 : (eb == 0) = false := eqF he
      clear he
      go_wp2_with fail
      go_meet
      exact ⟨rfl, Below.refl _ _⟩
  obtain ⟨rfl, hb6⟩ := hcut
  rename World => w6
  have d6 := below_then d5 hb6
  have bx6 := bx5.on hb6
  have hr6 := hr5.on hb6
  clear hb6 d5 bx5 hr5 k0 k1 k2 k3 k4 k5 HKPb HKXb HOKb hxb
  have k0 : w6.cell? ⟨q, 0, none⟩ = some (.string u) := bx6.at_ 0 _ rfl
  have k1 : w6.cell? ⟨q, 1, none⟩ = some (.string id) := bx6.at_ 1 _ rfl
  have k2 : w6.cell? ⟨q, 2, none⟩ = some (.int .i64 key) := bx6.at_ 2 _ rfl
  have k3 : w6.cell? ⟨q, 3, none⟩ = some (.bool sg) := bx6.at_ 3 _ rfl
  have k4 : w6.cell? ⟨q, 4, none⟩ = some (.int .i64 m) := bx6.at_ 4 _ rfl
  have k5 : w6.cell? ⟨q, 5, none⟩ = some (.int .i64 p) := bx6.at_ 5 _ rfl

  obtain ⟨⟨Lx, ex⟩, hLx⟩ : ∃ r, Dv.sign (l.map kv) u id p = r := ⟨_, rfl⟩
  have hokx : Dv.Valid Lx := by have := Dv.sign_ok HV.out u id p; rw [hLx] at this; exact this
  have hkpx : ex = 0 → Dv.apartB (l.map kv) Lx u = true ∧ bs u ∈ Dv.changed Lx p := by have := Dv.sign_keeps HV.out.inc u id p; rw [hLx] at this; exact this
  have CPx := psign_any A n c l u id p w6 hr6 HV.out (by omega) hnc hcm hid hp
  rw [hLx] at CPx
  have HCPx := Lib.hid CPx; have HOKx := Lib.hid hokx; have HKPx := Lib.hid hkpx
  clear CPx hLx hokx hkpx
  go_wp2_with fail
  refine HCPx.out.mono ?_
  rintro e w7 ⟨Ax, cx, xsx, rfl, b7, hxx, hcx, hmx, hkxx⟩
  have d7 := below_then d6 b7
  have bx7 := bx6.on b7
  have hr7 := hr6.on b7
  have HKXx := Lib.hid hkxx
  have hfxx : xsx.length ≤ 200 := by rw [kv_len hkxx]; exact HOKx.out.few
  obtain ⟨nx, hnx⟩ : ∃ m, xsx.length = m := ⟨_, rfl⟩
  rw [hnx] at hxx hfxx ⊢
  clear b7 d6 bx6 hr6 k0 k1 k2 k3 k4 k5 HCPx hcx hkxx hnx
  have k0 : w7.cell? ⟨q, 0, none⟩ = some (.string u) := bx7.at_ 0 _ rfl
  have k1 : w7.cell? ⟨q, 1, none⟩ = some (.string id) := bx7.at_ 1 _ rfl
  have k2 : w7.cell? ⟨q, 2, none⟩ = some (.int .i64 key) := bx7.at_ 2 _ rfl
  have k3 : w7.cell? ⟨q, 3, none⟩ = some (.bool sg) := bx7.at_ 3 _ rfl
  have k4 : w7.cell? ⟨q, 4, none⟩ = some (.int .i64 m) := bx7.at_ 4 _ rfl
  have k5 : w7.cell? ⟨q, 5, none⟩ = some (.int .i64 p) := bx7.at_ 5 _ rfl
  go_upto_region 10 with fail
  go_cut [109] (fun s V => s = .bool false ∧ Below w7.heap.size w7 V)
  case first =>
    by_cases he : ex = 0
    · obtain ⟨hq1, hq2⟩ := HKPx.out he
      subst he
      have CA := apart_any A Ax n nx c cx l xsx u w7 hr7 hxx (by omega) (by omega) (by rw [HKXx.out]; exact HOKx.out.inc) (by rw [HKXx.out]; exact hq1)
      have CS := fun V (h : Below w7.heap.size w7 V) => seen_any Ax nx cx xsx u p V (hxx.on h) (by omega) (by rw [HKXx.out]; exact HOKx.out.inc) (by rw [HKXx.out]; exact hq2)
      have HCA := Lib.hid CA; have HCS := Lib.hid CS
      clear CA CS hq1 hq2
      go_wp2_with fail
      refine HCA.out.mono ?_
      rintro e wz ⟨rfl, bz⟩
      have bxz := bx7.on bz
      clear k0 k1 k2 k3 k4 k5
      have k0 : wz.cell? ⟨q, 0, none⟩ = some (.string u) := bxz.at_ 0 _ rfl
      have k5 : wz.cell? ⟨q, 5, none⟩ = some (.int .i64 p) := bxz.at_ 5 _ rfl
      go_wp2_with fail
      refine (HCS.out wz bz).mono ?_
      rintro e wy ⟨rfl, bby⟩
      have bzy := below_then bz bby
      go_wp2_with fail
      go_meet
      exact ⟨rfl, bzy⟩
    · have e0 : (ex == 0) = false := eqF he
      clear he
      go_wp2_with fail
      go_meet
      exact ⟨rfl, Below.refl _ _⟩
  obtain ⟨rfl, hb8⟩ := hcut
  rename World => w8
  have d8 := below_then d7 hb8
  have bx8 := bx7.on hb8
  have hr8 := hr7.on hb8
  clear hb8 d7 bx7 hr7 k0 k1 k2 k3 k4 k5 HKPx HKXx HOKx hxx
  have k0 : w8.cell? ⟨q, 0, none⟩ = some (.string u) := bx8.at_ 0 _ rfl
  have k1 : w8.cell? ⟨q, 1, none⟩ = some (.string id) := bx8.at_ 1 _ rfl
  have k2 : w8.cell? ⟨q, 2, none⟩ = some (.int .i64 key) := bx8.at_ 2 _ rfl
  have k3 : w8.cell? ⟨q, 3, none⟩ = some (.bool sg) := bx8.at_ 3 _ rfl
  have k4 : w8.cell? ⟨q, 4, none⟩ = some (.int .i64 m) := bx8.at_ 4 _ rfl
  have k5 : w8.cell? ⟨q, 5, none⟩ = some (.int .i64 p) := bx8.at_ 5 _ rfl

  obtain ⟨⟨Ly, ey⟩, hLy⟩ : ∃ r, Dv.remove (l.map kv) u id p = r := ⟨_, rfl⟩
  have hoky : Dv.Valid Ly := by have := Dv.remove_ok HV.out u id p; rw [hLy] at this; exact this
  have hkpy : ey = 0 → Dv.apartB (l.map kv) Ly u = true ∧ bs u ∈ Dv.changed Ly p := by have := Dv.remove_keeps HV.out.inc u id p; rw [hLy] at this; exact this
  have CPy := premove_any A n c l u id p w8 hr8 HV.out (by omega) hnc hcm hid hp
  rw [hLy] at CPy
  have HCPy := Lib.hid CPy; have HOKy := Lib.hid hoky; have HKPy := Lib.hid hkpy
  clear CPy hLy hoky hkpy
  go_wp2_with fail
  refine HCPy.out.mono ?_
  rintro e w9 ⟨Ay, cy, xsy, rfl, b9, hxy, hcy, hmy, hkxy⟩
  have d9 := below_then d8 b9
  have bx9 := bx8.on b9
  have hr9 := hr8.on b9
  have HKXy := Lib.hid hkxy
  have hfxy : xsy.length ≤ 200 := by rw [kv_len hkxy]; exact HOKy.out.few
  obtain ⟨ny, hny⟩ : ∃ m, xsy.length = m := ⟨_, rfl⟩
  rw [hny] at hxy hfxy ⊢
  clear b9 d8 bx8 hr8 k0 k1 k2 k3 k4 k5 HCPy hcy hkxy hny
  have k0 : w9.cell? ⟨q, 0, none⟩ = some (.string u) := bx9.at_ 0 _ rfl
  have k1 : w9.cell? ⟨q, 1, none⟩ = some (.string id) := bx9.at_ 1 _ rfl
  have k2 : w9.cell? ⟨q, 2, none⟩ = some (.int .i64 key) := bx9.at_ 2 _ rfl
  have k3 : w9.cell? ⟨q, 3, none⟩ = some (.bool sg) := bx9.at_ 3 _ rfl
  have k4 : w9.cell? ⟨q, 4, none⟩ = some (.int .i64 m) := bx9.at_ 4 _ rfl
  have k5 : w9.cell? ⟨q, 5, none⟩ = some (.int .i64 p) := bx9.at_ 5 _ rfl
  go_upto_region 13 with fail
  go_cut [140] (fun s V => s = .bool false ∧ Below w9.heap.size w9 V)
  case first =>
    by_cases he : ey = 0
    · obtain ⟨hq1, hq2⟩ := HKPy.out he
      subst he
      have CA := apart_any A Ay n ny c cy l xsy u w9 hr9 hxy (by omega) (by omega) (by rw [HKXy.out]; exact HOKy.out.inc) (by rw [HKXy.out]; exact hq1)
      have CS := fun V (h : Below w9.heap.size w9 V) => seen_any Ay ny cy xsy u p V (hxy.on h) (by omega) (by rw [HKXy.out]; exact HOKy.out.inc) (by rw [HKXy.out]; exact hq2)
      have HCA := Lib.hid CA; have HCS := Lib.hid CS
      clear CA CS hq1 hq2
      go_wp2_with fail
      refine HCA.out.mono ?_
      rintro e wz ⟨rfl, bz⟩
      have bxz := bx9.on bz
      clear k0 k1 k2 k3 k4 k5
      have k0 : wz.cell? ⟨q, 0, none⟩ = some (.string u) := bxz.at_ 0 _ rfl
      have k5 : wz.cell? ⟨q, 5, none⟩ = some (.int .i64 p) := bxz.at_ 5 _ rfl
      go_wp2_with fail
      refine (HCS.out wz bz).mono ?_
      rintro e wy ⟨rfl, bby⟩
      have bzy := below_then bz bby
      go_wp2_with fail
      go_meet
      exact ⟨rfl, bzy⟩
    · have e0 : (ey == 0) = false := eqF he
      clear he
      go_wp2_with fail
      go_meet
      exact ⟨rfl, Below.refl _ _⟩
  obtain ⟨rfl, hb10⟩ := hcut
  rename World => w10
  have d10 := below_then d9 hb10
  have bx10 := bx9.on hb10
  have hr10 := hr9.on hb10
  clear hb10 d9 bx9 hr9 k0 k1 k2 k3 k4 k5 HKPy HKXy HOKy hxy
  have k0 : w10.cell? ⟨q, 0, none⟩ = some (.string u) := bx10.at_ 0 _ rfl
  have k1 : w10.cell? ⟨q, 1, none⟩ = some (.string id) := bx10.at_ 1 _ rfl
  have k2 : w10.cell? ⟨q, 2, none⟩ = some (.int .i64 key) := bx10.at_ 2 _ rfl
  have k3 : w10.cell? ⟨q, 3, none⟩ = some (.bool sg) := bx10.at_ 3 _ rfl
  have k4 : w10.cell? ⟨q, 4, none⟩ = some (.int .i64 m) := bx10.at_ 4 _ rfl
  have k5 : w10.cell? ⟨q, 5, none⟩ = some (.int .i64 p) := bx10.at_ 5 _ rfl

  clear k0 k1 k2 k3 k4 k5
  go_wp2_with fail
  refine (lives_any w10).mono ?_
  rintro e w11 ⟨rfl, b11⟩
  have d11 := below_then d10 b11
  go_wp2_with fail
  go_ret
  exact ⟨rfl, d11⟩
end Go.Proofs.Ytbhkgdfmjkblcaa
