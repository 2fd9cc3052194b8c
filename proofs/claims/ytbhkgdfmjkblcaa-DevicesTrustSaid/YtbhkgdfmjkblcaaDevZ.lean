/-
  The law DevicesTrust. Printed by gen_devz.py.
-/
import Derived.Test.YtbhkgdfmjkblcaaDevT
import Derived.Deep.DeepCutAuto
import Derived.BigQuiet
namespace Go.Proofs.Ytbhkgdfmjkblcaa
open Go.RowKit
attribute [local go_sem ↓] ex_st_ky ex_st_dv
attribute [local go_sem] st_ky_new st_ky st_dv_new st_dv

theorem found {xs : List Kys} {L : List Kv} {u : ByteArray} {k : Kv} (hk : xs.map kv = L) (hg : Dv.get L u = some k) : ∃ K ∈ xs, Dv.find ku xs (bs u) = some K ∧ kv K = k := by
  have h : (Dv.find ku xs (bs u)).map kv = some k := by rw [kv_find, hk]; exact hg
  obtain ⟨K, hK, e⟩ := Option.map_eq_some_iff.1 h
  exact ⟨K, List.mem_of_find?_eq_some hK, hK, e⟩
theorem getV_some {xs : List Kys} {u : ByteArray} {K : Kys} (h : Dv.find ku xs (bs u) = some K) : getV (Dv.find ku xs (bs u)) = .tuple #[.agg #[.string K.user, .int .i64 K.master, .int .i64 K.pos, .slice K.devices.A K.devices.n K.devices.c], .bool true] := by rw [h]; rfl

set_option maxRecDepth 100000 in
set_option maxHeartbeats 16000000 in
theorem devicesTrust_any (x : Sl Kys) (y : Dc) (w : World) (hx : InL w x.A x.n x.c x.l) (hy : Rd.dc.Ok w y) : Calls Try.prog 14 #[x.val, .agg (Rd.dc.cells y).toArray] w (Ret w (.bool true)) := by
  obtain ⟨A, n, c, l⟩ := x
  have hr0 : Rd.kys.Holds w A n l := hx.h
  have hnm : n ≤ maxLen := hx.nm
  have hnc : n ≤ c := hx.nc
  have hcm : c ≤ maxLen := hx.cm
  have hy0 := dc_ok hy
  obtain ⟨u, ⟨id, key, sg⟩, m, p⟩ := y
  have hus : u.size ≤ maxLen := hy0.user
  have hid : id.size ≤ maxLen := hy0.id
  have hkey : -9223372036854775808 ≤ key ∧ key ≤ 9223372036854775807 := hy0.key
  have hm : -9223372036854775808 ≤ m ∧ m ≤ 9223372036854775807 := hy0.master
  have hp : -9223372036854775808 ≤ p ∧ p ≤ 9223372036854775807 := hy0.pos
  show Calls _ _ #[.slice A n c, .agg #[.string u, .string id, .int .i64 key, .bool sg, .int .i64 m, .int .i64 p]] w _
  clear hx hy hy0
  obtain ⟨wa, hwa⟩ : ∃ wa : World, wa = w.alloc (.cells #[.string u, .string id, .int .i64 key, .bool sg, .int .i64 m, .int .i64 p] 49) := ⟨_, rfl⟩
  have hba : Below w.heap.size w wa := by rw [hwa]; exact below_alloc (Below.refl _ _) _
  have bx0 : Box wa w.heap.size [.string u, .string id, .int .i64 key, .bool sg, .int .i64 m, .int .i64 p] := by rw [hwa]; exact Box.new w [.string u, .string id, .int .i64 key, .bool sg, .int .i64 m, .int .i64 p] _
  go_enter Try.func14, Try.ntmps14
  go_upto_region 1 with fail
  rw [← hwa]
  clear hwa
  obtain ⟨q, hq⟩ : ∃ q, w.heap.size = q := ⟨_, rfl⟩
  rw [hq] at bx0 ⊢
  clear hq
  have hra := hr0.on hba
  go_wp2_with fail
  refine (valid_any A n c l wa hra hnm).mono ?_
  rintro e w1 ⟨v, rfl, hv, b1⟩
  have d1 := below_then hba b1
  have bx1 := bx0.on b1
  have hr1 := hra.on b1
  have HV0 := Lib.hid hv
  clear hv hra bx0 b1 hba
  have k0 : w1.cell? ⟨q, 0, none⟩ = some (.string u) := bx1.at_ 0 _ rfl
  have k1 : w1.cell? ⟨q, 1, none⟩ = some (.string id) := bx1.at_ 1 _ rfl
  have k2 : w1.cell? ⟨q, 2, none⟩ = some (.int .i64 key) := bx1.at_ 2 _ rfl
  have k3 : w1.cell? ⟨q, 3, none⟩ = some (.bool sg) := bx1.at_ 3 _ rfl
  have k4 : w1.cell? ⟨q, 4, none⟩ = some (.int .i64 m) := bx1.at_ 4 _ rfl
  have k5 : w1.cell? ⟨q, 5, none⟩ = some (.int .i64 p) := bx1.at_ 5 _ rfl
  cases v
  · go_wp2_with fail
    refine (lives_any w1).mono ?_
    rintro e w2 ⟨rfl, b2⟩
    have d2 := below_then d1 b2
    go_wp2_with fail
    go_ret
    exact ⟨rfl, d2⟩
  obtain ⟨hn, hV⟩ : n ≤ 210 ∧ Dv.Valid (l.map kv) := HV0.out (by first | trivial | rfl)
  have HV := Lib.hid hV
  clear hV HV0
  go_wp2_with fail
  refine (brief_any ⟨u, ⟨id, key, sg⟩, m, p⟩ w1).mono ?_
  rintro e w2 ⟨v, rfl, b2⟩
  have d2 := below_then d1 b2
  have bx2 := bx1.on b2
  have hr2 := hr1.on b2
  clear b2 d1 bx1 hr1 k0 k1 k2 k3 k4 k5
  have k0 : w2.cell? ⟨q, 0, none⟩ = some (.string u) := bx2.at_ 0 _ rfl
  have k1 : w2.cell? ⟨q, 1, none⟩ = some (.string id) := bx2.at_ 1 _ rfl
  have k2 : w2.cell? ⟨q, 2, none⟩ = some (.int .i64 key) := bx2.at_ 2 _ rfl
  have k3 : w2.cell? ⟨q, 3, none⟩ = some (.bool sg) := bx2.at_ 3 _ rfl
  have k4 : w2.cell? ⟨q, 4, none⟩ = some (.int .i64 m) := bx2.at_ 4 _ rfl
  have k5 : w2.cell? ⟨q, 5, none⟩ = some (.int .i64 p) := bx2.at_ 5 _ rfl
  cases v
  · go_wp2_with fail
    refine (lives_any w2).mono ?_
    rintro e w3 ⟨rfl, b3⟩
    have d3 := below_then d2 b3
    go_wp2_with fail
    go_ret
    exact ⟨rfl, d3⟩

  obtain ⟨⟨La, ea⟩, hLa⟩ : ∃ r, Dv.add (l.map kv) u ⟨id, key, sg⟩ p = r := ⟨_, rfl⟩
  have hoka : Dv.Valid La := by have := Dv.add_ok HV.out u ⟨id, key, sg⟩ p; rw [hLa] at this; exact this
  have hta : ea = 0 → ∃ (X : Kv) (i : Nat), Dv.get La u = some X ∧ X.devs[i]? = some ⟨id, key, false⟩ ∧ Dv.idx X.devs (bs id) = (i : Nat) ∧ X.pos = p := fun h => by
    have := Dv.add_trust HV.out (u := u) (d := ⟨id, key, sg⟩) (p := p) (by rw [hLa]; exact h)
    rw [hLa] at this; exact this
  have hea : ea ≠ 0 → La = [] := fun h => by
    have := Dv.add_err (l := l.map kv) (u := u) (d := ⟨id, key, sg⟩) (p := p) (by rw [hLa]; exact h)
    rw [hLa] at this; exact this
  have CPa := padd_any A n c l u ⟨id, key, sg⟩ p w2 hr2 HV.out (by omega) hnc hcm hus hid hkey hp
  rw [hLa] at CPa
  have HCPa := Lib.hid CPa; have HOKa := Lib.hid hoka; have HTa := Lib.hid hta; have HEa := Lib.hid hea
  clear CPa hLa hoka hta hea
  go_wp2_with fail
  refine HCPa.out.mono ?_
  rintro e w3 ⟨Aa, ca, xsa, rfl, b3, hxa, hca, hma, hkxa⟩
  have d3 := below_then d2 b3
  have bx3 := bx2.on b3
  have HKXa : Hid (xsa.map kv = La) := Lib.hid hkxa
  have hfxa : xsa.length ≤ 200 := by rw [kv_len hkxa]; exact HOKa.out.few
  have hempty : La = [] → xsa.length = 0 := fun h => by rw [kv_len hkxa, h]; rfl
  obtain ⟨na, hna⟩ : ∃ m, xsa.length = m := ⟨_, rfl⟩
  rw [hna] at hxa hfxa hca hempty ⊢
  have HEM := Lib.hid hempty
  clear b3 d2 bx2 hr2 k0 k1 k2 k3 k4 k5 HCPa hkxa hna hempty
  have k0 : w3.cell? ⟨q, 0, none⟩ = some (.string u) := bx3.at_ 0 _ rfl
  have k1 : w3.cell? ⟨q, 1, none⟩ = some (.string id) := bx3.at_ 1 _ rfl
  have k2 : w3.cell? ⟨q, 2, none⟩ = some (.int .i64 key) := bx3.at_ 2 _ rfl
  have k3 : w3.cell? ⟨q, 3, none⟩ = some (.bool sg) := bx3.at_ 3 _ rfl
  have k4 : w3.cell? ⟨q, 4, none⟩ = some (.int .i64 m) := bx3.at_ 4 _ rfl
  have k5 : w3.cell? ⟨q, 5, none⟩ = some (.int .i64 p) := bx3.at_ 5 _ rfl
  by_cases he : ea = 0
  case neg =>
    obtain rfl : na = 0 := HEM.out (HEa.out he)
    have e0 : (ea != 0) = true := neT he
    clear he
    go_wp2_with fail
    refine (lives_any w3).mono ?_
    rintro e w4 ⟨rfl, b4⟩
    have d4 := below_then d3 b4
    go_wp2_with fail
    go_ret
    exact ⟨rfl, d4⟩
  obtain ⟨Xv, nn, hX1, hX2, hX3, hX4⟩ := HTa.out he
  subst he
  obtain ⟨⟨Xu, Xm, Xp, ⟨XA, Xn, Xc, Xl⟩⟩, hXm, hXf, hXk⟩ := found HKXa.out hX1
  subst hXk
  change Xl[nn]? = some ⟨id, key, false⟩ at hX2
  change Dv.idx Xl (bs id) = (nn : Nat) at hX3
  change Xp = p at hX4
  subst hX4
  have hXd : Rd.dvc.Holds w3 XA Xn Xl := (hxa.2.2 _ hXm).2.2.2.1.1
  have hXn : Xn ≤ 10 := by rw [← hXd.length]; exact (HOKa.out.each _ (by rw [← HKXa.out]; exact List.mem_map.2 ⟨_, hXm, rfl⟩)).few
  have hXi : Dv.Inc Dv.dk Xl := (HOKa.out.each _ (by rw [← HKXa.out]; exact List.mem_map.2 ⟨_, hXm, rfl⟩)).inc
  have HFX := Lib.hid hXf
  have hnn : nn < Xn := by rw [← hXd.length]; exact (List.getElem?_eq_some_iff.1 hX2).1
  have HX1 := Lib.hid hX1; have HX2 := Lib.hid hX2; have HX3 := Lib.hid hX3; have HXI := Lib.hid hXi
  clear hX1 hX2 hX3 hXm hXf hXi HTa HEa HEM

  have CGX := get_any Aa na ca xsa u w3 hxa (by omega)
  rw [getV_some HFX.out] at CGX
  have HCGX := Lib.hid CGX
  clear CGX
  go_wp2_with fail
  refine HCGX.out.mono ?_
  rintro e w4 ⟨rfl, b4⟩
  have d4 := below_then d3 b4
  have bx4 := bx3.on b4
  have hxa := hxa.on b4
  have hXd := hXd.on b4
  clear b4 d3 bx3 HCGX
  go_upto_region 7 with fail
  obtain ⟨w5, hw5⟩ : ∃ W : World, W = w4.alloc (.cells #[.string Xu, .int .i64 Xm, .int .i64 Xp, .slice XA Xn Xc] 59) := ⟨_, rfl⟩
  have b5 : Below w4.heap.size w4 w5 := by rw [hw5]; exact below_alloc (Below.refl _ _) _
  have bxqx : Box w5 w4.heap.size [.string Xu, .int .i64 Xm, .int .i64 Xp, .slice XA Xn Xc] := by rw [hw5]; exact Box.new w4 [.string Xu, .int .i64 Xm, .int .i64 Xp, .slice XA Xn Xc] _
  rw [← hw5]
  obtain ⟨qx, hqx⟩ : ∃ q, w4.heap.size = q := ⟨_, rfl⟩
  have d5 := below_then d4 b5
  have bx5 := bx4.on b5
  have hxa := hxa.on b5
  have hXd := hXd.on b5
  rw [hqx] at bxqx ⊢
  clear hqx hw5 b5 d4 bx4 k0 k1 k2 k3 k4 k5
  have k0 : w5.cell? ⟨q, 0, none⟩ = some (.string u) := bx5.at_ 0 _ rfl
  have k1 : w5.cell? ⟨q, 1, none⟩ = some (.string id) := bx5.at_ 1 _ rfl
  have k2 : w5.cell? ⟨q, 2, none⟩ = some (.int .i64 key) := bx5.at_ 2 _ rfl
  have k3 : w5.cell? ⟨q, 3, none⟩ = some (.bool sg) := bx5.at_ 3 _ rfl
  have k4 : w5.cell? ⟨q, 4, none⟩ = some (.int .i64 m) := bx5.at_ 4 _ rfl
  have k5 : w5.cell? ⟨q, 5, none⟩ = some (.int .i64 Xp) := bx5.at_ 5 _ rfl

  have y0 : w5.cell? ⟨qx, 3, none⟩ = some (.slice XA Xn Xc) := bxqx.at_ 3 _ rfl
  have CPL := rplace43_any XA Xn Xc Xl id w5 hXd (by unfold maxLen; omega)
  rw [HX3.out] at CPL
  have HCPL := Lib.hid CPL
  clear CPL
  go_wp2_with fail
  refine HCPL.out.mono ?_
  rintro e wy ⟨rfl, rfl⟩
  obtain ⟨b1, o1, dd, rfl, hbl1, hdd, _, _, hda⟩ := hXd.mid (by decide) hnn
  obtain rfl : dd = ⟨id, key, false⟩ := by rw [HX2.out] at hdd; cases hdd; rfl
  have z1 : w5.cell? ⟨b1, o1 + nn * 3 + 1, none⟩ = some (.int .i64 key) := hda 1 _ rfl
  have z2 : w5.cell? ⟨b1, o1 + nn * 3 + 2, none⟩ = some (.bool false) := hda 2 _ rfl
  have y2 : w5.cell? ⟨qx, 2, none⟩ = some (.int .i64 Xp) := bxqx.at_ 2 _ rfl
  have e1 : decide ((nn : Int) < 0) = false := decide_eq_false (by omega)
  have e2 : (key != key) = false := neF rfl
  have e3 : (Xp != Xp) = false := neF rfl
  have hn1 : (nn : Int) < Xn := by omega
  clear hda hdd HCPL
  go_upto_region 8 with fail
  go_quiet (fail)
  have d6 : Below w.heap.size w (w5.drewN nq) := below_drewN d5 _
  have bx6 := bx5.on (below_drewN (Below.refl w5.heap.size w5) nq)
  have bxqx6 := bxqx.on (below_drewN (Below.refl w5.heap.size w5) nq)
  have hxa := hxa.on (below_drewN (Below.refl w5.heap.size w5) nq)
  have hXd := hXd.on (below_drewN (Below.refl w5.heap.size w5) nq)
  clear y0 y2 z1 z2 e1 e2 e3 hn1 d5 bx5 bxqx k0 k1 k2 k3 k4 k5 hbl1
  generalize w5.drewN nq = w6 at d6 bx6 bxqx6 hxa hXd ⊢
  have k0 : w6.cell? ⟨q, 0, none⟩ = some (.string u) := bx6.at_ 0 _ rfl
  have k1 : w6.cell? ⟨q, 1, none⟩ = some (.string id) := bx6.at_ 1 _ rfl
  have k2 : w6.cell? ⟨q, 2, none⟩ = some (.int .i64 key) := bx6.at_ 2 _ rfl
  have k3 : w6.cell? ⟨q, 3, none⟩ = some (.bool sg) := bx6.at_ 3 _ rfl
  have k4 : w6.cell? ⟨q, 4, none⟩ = some (.int .i64 m) := bx6.at_ 4 _ rfl
  have k5 : w6.cell? ⟨q, 5, none⟩ = some (.int .i64 Xp) := bx6.at_ 5 _ rfl
  obtain ⟨⟨Lb, eb⟩, hLb⟩ : ∃ r, Dv.cross La u m Xp = r := ⟨_, rfl⟩
  have hokb : Dv.Valid Lb := by have := Dv.cross_ok HOKa.out u m Xp; rw [hLb] at this; exact this
  have hex : eb ≠ 0 → Lb = [] := fun h => by
    have := Dv.cross_err (l := La) (u := u) (m := m) (p := Xp) (by rw [hLb]; exact h)
    rw [hLb] at this; exact this
  have htb : eb = 0 → (Dv.sign Lb u id Xp).2 = 0 ∧ ∃ Y Z, Dv.get Lb u = some Y ∧ Dv.get (Dv.sign Lb u id Xp).1 u = some Z ∧ Y.devs = Xl.map Dv.off ∧ Z.devs = (Xl.map Dv.off).map (Dv.on_ id) ∧ Z.master = m := fun h => by
    have := Dv.cross_trust HOKa.out (u := u) (id := id) (m := m) (p := Xp) HX1.out HX2.out rfl (by rw [hLb]; exact h)
    rw [hLb] at this; exact this
  have CPb := pcross_any Aa na ca xsa u m Xp w6 hxa (by rw [HKXa.out]; exact HOKa.out) (by omega) hca hma hus hm hp
  rw [HKXa.out, hLb] at CPb
  have HCPb := Lib.hid CPb; have HOKb := Lib.hid hokb; have HTb := Lib.hid htb; have HEb := Lib.hid hex
  clear CPb hLb hokb htb hex
  go_wp2_with fail
  refine HCPb.out.mono ?_
  rintro e w7 ⟨Ab, cb, xsb, rfl, b7, hxb, hcb, hmb, hkxb⟩
  have d7 := below_then d6 b7
  have bx7 := bx6.on b7
  have bxqx7 := bxqx6.on b7
  have hXd := hXd.on b7
  have HKXb : Hid (xsb.map kv = Lb) := Lib.hid hkxb
  have hfxb : xsb.length ≤ 200 := by rw [kv_len hkxb]; exact HOKb.out.few
  have hempty : Lb = [] → xsb.length = 0 := fun h => by rw [kv_len hkxb, h]; rfl
  obtain ⟨nb, hnb⟩ : ∃ m, xsb.length = m := ⟨_, rfl⟩
  rw [hnb] at hxb hfxb hcb hempty ⊢
  have HEM := Lib.hid hempty
  clear b7 d6 bx6 bxqx6 k0 k1 k2 k3 k4 k5 HCPb hkxb hnb hempty hxa
  have k0 : w7.cell? ⟨q, 0, none⟩ = some (.string u) := bx7.at_ 0 _ rfl
  have k1 : w7.cell? ⟨q, 1, none⟩ = some (.string id) := bx7.at_ 1 _ rfl
  have k2 : w7.cell? ⟨q, 2, none⟩ = some (.int .i64 key) := bx7.at_ 2 _ rfl
  have k3 : w7.cell? ⟨q, 3, none⟩ = some (.bool sg) := bx7.at_ 3 _ rfl
  have k4 : w7.cell? ⟨q, 4, none⟩ = some (.int .i64 m) := bx7.at_ 4 _ rfl
  have k5 : w7.cell? ⟨q, 5, none⟩ = some (.int .i64 Xp) := bx7.at_ 5 _ rfl
  by_cases he : eb = 0
  case neg =>
    obtain rfl : nb = 0 := HEM.out (HEb.out he)
    have e0 : (eb != 0) = true := neT he
    clear he
    go_wp2_with fail
    refine (lives_any w7).mono ?_
    rintro e w8 ⟨rfl, b8⟩
    have d8 := below_then d7 b8
    go_wp2_with fail
    go_ret
    exact ⟨rfl, d8⟩
  obtain ⟨hs0, Yv, Zv, hY1, hZ1, hY2, hZ2, hZ3⟩ := HTb.out he
  subst he
  obtain ⟨⟨Ls, es⟩, hLs⟩ : ∃ r, Dv.sign Lb u id Xp = r := ⟨_, rfl⟩
  rw [hLs] at hs0 hZ1
  change es = 0 at hs0
  subst hs0
  change Dv.get Ls u = some Zv at hZ1
  have hoks : Dv.Valid Ls := by have := Dv.sign_ok HOKb.out u id Xp; rw [hLs] at this; exact this
  have CPs := psign_any Ab nb cb xsb u id Xp w7 hxb (by rw [HKXb.out]; exact HOKb.out) (by omega) hcb hmb hid hp
  rw [HKXb.out, hLs] at CPs
  have HCPs := Lib.hid CPs; have HOKs := Lib.hid hoks; have HY1 := Lib.hid hY1; have HZ1 := Lib.hid hZ1; have HY2 := Lib.hid hY2; have HZ2 := Lib.hid hZ2; have HZ3 := Lib.hid hZ3
  clear CPs hLs hoks hY1 hZ1 hY2 hZ2 hZ3 HTb HEb HEM
  go_wp2_with fail
  refine HCPs.out.mono ?_
  rintro e w8 ⟨As, cs, xss, rfl, b8, hxs, _, _, hkxs⟩
  have d8 := below_then d7 b8
  have bx8 := bx7.on b8
  have bxqx8 := bxqx7.on b8
  have hXd := hXd.on b8
  have hxb := hxb.on b8
  have hfxs : xss.length ≤ 200 := by rw [kv_len hkxs]; exact HOKs.out.few
  obtain ⟨⟨Yu, Ym, Yp, ⟨YA, Yn, Yc, Yl⟩⟩, hYm, hYf, hYk⟩ := found HKXb.out HY1.out
  obtain ⟨⟨Zu, Zm, Zp, ⟨ZA, Zn, Zc, Zl⟩⟩, hZm, hZf, hZk⟩ := found (L := Ls) hkxs HZ1.out
  obtain ⟨ns, hns⟩ : ∃ m, xss.length = m := ⟨_, rfl⟩
  rw [hns] at hxs hfxs ⊢
  have hYl : Yl = Xl.map Dv.off := by have := HY2.out; rw [← hYk] at this; exact this
  have hZl : Zl = (Xl.map Dv.off).map (Dv.on_ id) := by have := HZ2.out; rw [← hZk] at this; exact this
  have hZmm : Zm = m := by have := HZ3.out; rw [← hZk] at this; exact this
  subst hZmm
  have hYd : Rd.dvc.Holds w8 YA Yn Yl := (hxb.2.2 _ hYm).2.2.2.1.1
  have hZd : Rd.dvc.Holds w8 ZA Zn Zl := (hxs.2.2 _ hZm).2.2.2.1.1
  have hYn : Yn = Xn := by rw [← hYd.length, hYl, List.length_map, hXd.length]
  have hZn : Zn = Xn := by rw [← hZd.length, hZl, List.length_map, List.length_map, hXd.length]
  subst hYn
  subst hZn
  have HYL := Lib.hid hYl; have HZL := Lib.hid hZl; have HFY := Lib.hid hYf; have HFZ := Lib.hid hZf
  clear b8 d7 bx7 bxqx7 k0 k1 k2 k3 k4 k5 HCPs hkxs hns hYm hYf hYk hZm hZf hZk hYl hZl HY1 HZ1 HY2 HZ2 HZ3
  have k0 : w8.cell? ⟨q, 0, none⟩ = some (.string u) := bx8.at_ 0 _ rfl
  have k1 : w8.cell? ⟨q, 1, none⟩ = some (.string id) := bx8.at_ 1 _ rfl
  have k2 : w8.cell? ⟨q, 2, none⟩ = some (.int .i64 key) := bx8.at_ 2 _ rfl
  have k3 : w8.cell? ⟨q, 3, none⟩ = some (.bool sg) := bx8.at_ 3 _ rfl
  have k4 : w8.cell? ⟨q, 4, none⟩ = some (.int .i64 Zm) := bx8.at_ 4 _ rfl
  have k5 : w8.cell? ⟨q, 5, none⟩ = some (.int .i64 Xp) := bx8.at_ 5 _ rfl

  have CGY := get_any Ab nb cb xsb u w8 hxb (by omega)
  rw [getV_some HFY.out] at CGY
  have HCGY := Lib.hid CGY
  clear CGY
  go_wp2_with fail
  refine HCGY.out.mono ?_
  rintro e w9 ⟨rfl, b9⟩
  have d9 := below_then d8 b9
  have bx9 := bx8.on b9
  have hxb := hxb.on b9
  have hxs := hxs.on b9
  have bxqx8 := bxqx8.on b9
  have hYd := hYd.on b9
  have hZd := hZd.on b9
  clear b9 d8 bx8 HCGY
  go_upto_region 15 with fail
  obtain ⟨w10, hw10⟩ : ∃ W : World, W = w9.alloc (.cells #[.string Yu, .int .i64 Ym, .int .i64 Yp, .slice YA Zn Yc] 59) := ⟨_, rfl⟩
  have b10 : Below w9.heap.size w9 w10 := by rw [hw10]; exact below_alloc (Below.refl _ _) _
  have bxqy : Box w10 w9.heap.size [.string Yu, .int .i64 Ym, .int .i64 Yp, .slice YA Zn Yc] := by rw [hw10]; exact Box.new w9 [.string Yu, .int .i64 Ym, .int .i64 Yp, .slice YA Zn Yc] _
  rw [← hw10]
  obtain ⟨qy, hqy⟩ : ∃ q, w9.heap.size = q := ⟨_, rfl⟩
  have d10 := below_then d9 b10
  have bx10 := bx9.on b10
  have hxb := hxb.on b10
  have hxs := hxs.on b10
  have bxqx8 := bxqx8.on b10
  have hYd := hYd.on b10
  have hZd := hZd.on b10
  rw [hqy] at bxqy ⊢
  clear hqy hw10 b10 d9 bx9 k0 k1 k2 k3 k4 k5
  have k0 : w10.cell? ⟨q, 0, none⟩ = some (.string u) := bx10.at_ 0 _ rfl
  have k1 : w10.cell? ⟨q, 1, none⟩ = some (.string id) := bx10.at_ 1 _ rfl
  have k2 : w10.cell? ⟨q, 2, none⟩ = some (.int .i64 key) := bx10.at_ 2 _ rfl
  have k3 : w10.cell? ⟨q, 3, none⟩ = some (.bool sg) := bx10.at_ 3 _ rfl
  have k4 : w10.cell? ⟨q, 4, none⟩ = some (.int .i64 Zm) := bx10.at_ 4 _ rfl
  have k5 : w10.cell? ⟨q, 5, none⟩ = some (.int .i64 Xp) := bx10.at_ 5 _ rfl

  have CGZ := get_any As ns cs xss u w10 hxs (by omega)
  rw [getV_some HFZ.out] at CGZ
  have HCGZ := Lib.hid CGZ
  clear CGZ
  go_wp2_with fail
  refine HCGZ.out.mono ?_
  rintro e w11 ⟨rfl, b11⟩
  have d11 := below_then d10 b11
  have bx11 := bx10.on b11
  have hxs := hxs.on b11
  have bxqx8 := bxqx8.on b11
  have bxqy := bxqy.on b11
  have hYd := hYd.on b11
  have hZd := hZd.on b11
  clear b11 d10 bx10 HCGZ
  go_upto_region 16 with fail
  obtain ⟨w12, hw12⟩ : ∃ W : World, W = w11.alloc (.cells #[.string Zu, .int .i64 Zm, .int .i64 Zp, .slice ZA Zn Zc] 59) := ⟨_, rfl⟩
  have b12 : Below w11.heap.size w11 w12 := by rw [hw12]; exact below_alloc (Below.refl _ _) _
  have bxqz : Box w12 w11.heap.size [.string Zu, .int .i64 Zm, .int .i64 Zp, .slice ZA Zn Zc] := by rw [hw12]; exact Box.new w11 [.string Zu, .int .i64 Zm, .int .i64 Zp, .slice ZA Zn Zc] _
  rw [← hw12]
  obtain ⟨qz, hqz⟩ : ∃ q, w11.heap.size = q := ⟨_, rfl⟩
  have d12 := below_then d11 b12
  have bx12 := bx11.on b12
  have hxs := hxs.on b12
  have bxqx8 := bxqx8.on b12
  have bxqy := bxqy.on b12
  have hYd := hYd.on b12
  have hZd := hZd.on b12
  rw [hqz] at bxqz ⊢
  clear hqz hw12 b12 d11 bx11 k0 k1 k2 k3 k4 k5
  have k0 : w12.cell? ⟨q, 0, none⟩ = some (.string u) := bx12.at_ 0 _ rfl
  have k1 : w12.cell? ⟨q, 1, none⟩ = some (.string id) := bx12.at_ 1 _ rfl
  have k2 : w12.cell? ⟨q, 2, none⟩ = some (.int .i64 key) := bx12.at_ 2 _ rfl
  have k3 : w12.cell? ⟨q, 3, none⟩ = some (.bool sg) := bx12.at_ 3 _ rfl
  have k4 : w12.cell? ⟨q, 4, none⟩ = some (.int .i64 Zm) := bx12.at_ 4 _ rfl
  have k5 : w12.cell? ⟨q, 5, none⟩ = some (.int .i64 Xp) := bx12.at_ 5 _ rfl

  have x3 : w12.cell? ⟨qx, 3, none⟩ = some (.slice (some ⟨b1, o1, none⟩) Zn Xc) := bxqx8.at_ 3 _ rfl
  have y3 : w12.cell? ⟨qy, 3, none⟩ = some (.slice YA Zn Yc) := bxqy.at_ 3 _ rfl
  have v3 : w12.cell? ⟨qz, 3, none⟩ = some (.slice ZA Zn Zc) := bxqz.at_ 3 _ rfl
  have v1 : w12.cell? ⟨qz, 1, none⟩ = some (.int .i64 Zm) := bxqz.at_ 1 _ rfl
  have e1 : ((Zn : Int) != Zn) = false := neF rfl
  have e2 : (Zm != Zm) = false := neF rfl
  go_wp2_with fail
  clear x3 v1 e1 e2 k0 k1 k2 k3 k4 k5
  go_loop [16] (fun i => ∃ k : Nat, k ≤ Zn ∧ i = .int .i64 k) (fun i => Zn - (intOf i).toNat)
  case atStart => exact ⟨0, by omega, rfl⟩
  case round =>
    obtain ⟨i, hi, rfl⟩ := hrel
    by_cases hlt : i < Zn
    · obtain ⟨b4, o4, y, rfl, _, hy, _, _, hya⟩ := hYd.mid (by decide) hlt
      obtain ⟨b5, o5, z, rfl, _, hz, _, _, hza⟩ := hZd.mid (by decide) hlt
      have hXlen : Xl.length = Zn := by have := hYd.length; rw [HYL.out, List.length_map] at this; exact this
      obtain ⟨x, hx⟩ : ∃ x, Xl[i]? = some x := ⟨_, List.getElem?_eq_getElem (by rw [hXlen]; exact hlt)⟩
      have hy2 : y.signed = false := by
        rw [HYL.out, List.getElem?_map, hx] at hy
        cases hy; rfl
      obtain ⟨bb, hbb⟩ : ∃ b, ((i : Int) == (nn : Int)) = b := ⟨_, rfl⟩
      have hz2 : z.signed = bb := by
        rw [HZL.out, List.getElem?_map, List.getElem?_map, hx] at hz
        simp only [Option.map_some, Option.some.injEq] at hz
        rw [← hz, Dv.signed_at HXI.out HX2.out rfl hx, ← hbb]
        by_cases h : i = nn
        · rw [decide_eq_true h, eqT (by omega)]
        · rw [decide_eq_false h, eqF (by omega)]
      have p2 : w12.cell? ⟨b4, o4 + i * 3 + 2, none⟩ = some (.bool y.signed) := hya 2 _ rfl
      have q2 : w12.cell? ⟨b5, o5 + i * 3 + 2, none⟩ = some (.bool z.signed) := hza 2 _ rfl
      rw [hy2] at p2
      rw [hz2] at q2
      have hk0 : (i : Int) < Zn := by omega
      clear hya hza hy hz hx hy2 hz2 hXlen
      cases bb
      all_goals
        go_wp2_with fail
        exact ⟨⟨i + 1, by omega, by go_num⟩, by simp [intOf]; omega⟩
    · go_wp2_with fail
      refine (lives_any w12).mono ?_
      rintro e w13 ⟨rfl, b13⟩
      have d13 := below_then d12 b13
      go_wp2_with fail
      go_ret
      exact ⟨rfl, d13⟩
end Go.Proofs.Ytbhkgdfmjkblcaa
