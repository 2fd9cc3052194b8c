/-
  The walks through Remove and Sign. Printed by gen_devg.py.
-/
import Derived.Test.YtbhkgdfmjkblcaaDevH
namespace Go.Proofs.Ytbhkgdfmjkblcaa
open Go.RowKit
attribute [local go_sem ↓] ex_st_ky ex_st_dv
attribute [local go_sem] st_ky_new st_ky st_dv_new st_dv

set_option maxRecDepth 100000 in
set_option maxHeartbeats 8000000 in
theorem premove_any (A : Option Addr) (n c : Nat) (l : List Kys) (u id : ByteArray) (p : Int) (w : World) (hr : Rd.kys.Holds w A n l) (hV : Dv.Valid (l.map kv)) (hn : n ≤ 1000) (hc : n ≤ c) (hcm : c ≤ maxLen) (hid : id.size ≤ maxLen) (hp : -9223372036854775808 ≤ p ∧ p ≤ 9223372036854775807) :
    Calls Try.prog 39 #[.slice A n c, .string u, .string id, .int .i64 p] w (Res w (Dv.remove (l.map kv) u id p)) := by
  have HV := Lib.hid hV
  obtain ⟨b0, hb0⟩ : ∃ b0, Dv.inR p 0 = b0 := ⟨_, rfl⟩
  have CF := Lib.hid (from_any p 0 w)
  rw [hb0] at CF
  have HP := Lib.hid hb0
  clear hb0
  go_enter Try.func39, Try.ntmps39
  cases b0
  case false =>
    have HE : Hid (Dv.remove (l.map kv) u id p = ([], 2)) := Lib.hid (by unfold Dv.remove; rw [if_pos HP.out])
    go_wp2_with fail
    refine CF.out.mono ?_
    rintro e w1 ⟨rfl, rfl⟩
    go_wp2_with fail
    go_ret2
    rw [HE.out]
    exact Res.none_ (Below.refl _ _)
  obtain ⟨K, s, hgv, hG⟩ := gotten hr hV u
  have CG := Lib.hid (get_any A n c l u w hr (by omega))
  rw [hgv] at CG
  have HG := Lib.hid hG
  clear hV hgv
  go_wp2_with fail
  refine CF.out.mono ?_
  rintro e w0 ⟨rfl, rfl⟩
  go_wp2_with fail
  refine CG.out.mono ?_
  rintro e w1 ⟨rfl, bb1⟩
  go_upto_region 4 with fail
  obtain ⟨wa, hwa⟩ : ∃ W : World, W = w1.alloc (.cells #[.string K.user, .int .i64 K.master, .int .i64 K.pos, .slice K.devices.A K.devices.n K.devices.c] 59) := ⟨_, rfl⟩
  have ba : Below w.heap.size w wa := by rw [hwa]; exact below_alloc bb1 _
  have bo : OBox wa w1.heap.size (kyC K) := by rw [hwa]; exact OBox.new w1 (kyC K) _
  rw [← hwa]
  obtain ⟨q, hq⟩ : ∃ q, w1.heap.size = q := ⟨_, rfl⟩
  have hwq : w.heap.size ≤ q := by rw [← hq]; exact bb1.size
  rw [hq] at bo ⊢
  clear hq hwa bb1 hG
  have k0 : wa.cell? ⟨q, 0, none⟩ = some (.string K.user) := bo.cell rfl
  have k1 : wa.cell? ⟨q, 1, none⟩ = some (.int .i64 K.master) := bo.cell rfl
  have k2 : wa.cell? ⟨q, 2, none⟩ = some (.int .i64 K.pos) := bo.cell rfl
  have k3 : wa.cell? ⟨q, 3, none⟩ = some (.slice K.devices.A K.devices.n K.devices.c) := bo.cell rfl
  go_wp2_with fail
  refine (index_any K wa (HG.out.devs.on ba) HG.out.inc (by have := HG.out.few; omega)).mono ?_
  rintro e w2 ⟨b, rfl, bb2, hab, hD⟩
  have bo2 := bo.on bb2
  have b2 := below_then ba bb2
  have hqb : q < b := Nat.lt_of_lt_of_le bo.lt hab
  clear k0 k1 k2 k3 bo bb2 ba CF CG
  have hlook := hD.lookOk id hid
  obtain ⟨dd, hdd⟩ : ∃ dd, (Dv.find Dv.dk K.devices.l (bs id)).getD zD = dd := ⟨_, rfl⟩
  obtain ⟨hs, hhs⟩ : ∃ hs, Dv.has K.devices.l id = hs := ⟨_, rfl⟩
  rw [hdd, hhs] at hlook
  have HDD := Lib.hid hdd
  have HS := Lib.hid hhs
  have HH : Hid (Dv.has (Dv.getK (l.map kv) u).devs id = hs) := Lib.hid (by rw [← HG.out.kv_]; exact hhs)
  clear hdd hhs
  go_upto_region 6 with fail
  obtain ⟨w3, hw3⟩ : ∃ W : World, W = w2.alloc (.cells #[.string dd.id, .int .i64 dd.key, .bool dd.signed] 47) := ⟨_, rfl⟩
  rw [← hw3]
  have bb3 : Below w2.heap.size w2 w3 := by rw [hw3]; exact below_alloc (Below.refl _ _) _
  have b3 := below_then b2 bb3
  have bo3 := bo2.on bb3
  have hD3 := hD.on bb3
  clear hw3 bb3 b2 bo2 hD hlook
  cases hs
  · have HE : Hid (Dv.remove (l.map kv) u id p = ([], 5)) := Lib.hid (by unfold Dv.remove; rw [if_neg (by rw [HP.out]; simp), if_pos HH.out])
    go_wp2_with fail
    go_ret2
    rw [HE.out]
    exact Res.none_ b3
  · obtain ⟨S, hS⟩ : ∃ S, (K.devices.l.filter fun d => decide (Dv.dk d ≠ bs id)) = S := ⟨_, rfl⟩
    have HE : Hid (Dv.remove (l.map kv) u id p = (Dv.put Dv.uk (l.map kv) ⟨K.user, K.master, p, S⟩, 0)) := Lib.hid (by
      unfold Dv.remove
      rw [if_neg (by rw [HP.out]; simp), if_neg (by rw [HH.out]; simp), ← HG.out.kv_, ← hS]; rfl)
    have hSi : Dv.Inc Dv.dk S := by rw [← hS]; exact List.Pairwise.filter _ HG.out.inc
    have hSo : DvOk S := by rw [← hS]; exact (dv_ok HG.out.devs).sub fun z hz => (List.mem_filter.1 hz).1
    have hSl : S.length ≤ 1000000 := by rw [← hS]; exact Nat.le_trans (List.length_filter_le _ _) (by have := HG.out.few; have := HG.out.len; omega)
    have hfew := HG.out.few
    go_wp2_with (at_delete; refine wpList_del rfl _ _ rfl rfl hD3 id hid rfl ?_)
    intro w4 hD4 hg4
    have hS2 : (K.devices.l.filter fun d => !decide (Dv.dk d = bs id)) = S := by rw [← hS]; congr 1; funext d; simp
    try rw [hS2] at hD4
    try rw [hS] at hD4
    clear hS2
    have b4 : Below w.heap.size w w4 := b3.grown hg4 b3.size (fun j hj => by cases hj; omega)
    have bo4 := bo3.kept hg4 (by intro e; injection e with e; omega)
    clear hD3 hg4 bo3 b3 hS
    go_wp2_with fail
    refine (listed_any b _ S w4 hD4 hSi hSo (by omega) hSl).mono ?_
    rintro e w5 ⟨v5, rfl, bb5, own5⟩
    have b5 := below_then b4 bb5
    have bo5 := bo4.on bb5
    have hq4 : q < w4.heap.size := bo4.lt
    obtain ⟨A5, c5, rfl, h5, hc5, hm5⟩ := own5.form hSo
    have f2 := bo5.free 2
    have k2 : w5.cell? ⟨q, 2, none⟩ = some (.int .i64 K.pos) := bo5.cell rfl
    have f3 := bo5.free 3
    have k3 : w5.cell? ⟨q, 3, none⟩ = some (.slice K.devices.A K.devices.n K.devices.c) := bo5.cell rfl
    have own51 : OwnDvs _ _ _ S := World.ownsRow.kept own5 (grown_setCell _ q 2 (.int .i64 p)) (.inr (by intro e; have := (World.ownsRow.lt own5 q e).1; omega))
    have own52 : OwnDvs _ _ _ S := World.ownsRow.kept own51 (grown_setCell _ q 3 (.slice A5 S.length c5)) (.inr (by intro e; have := (World.ownsRow.lt own51 q e).1; omega))
    have bo7 := ((bo5.set 2 (.int .i64 p)).set 3 (.slice A5 S.length c5))
    have b7 := ((b5.setCell (p := ⟨q, 2, none⟩) hwq (.int .i64 p)).setCell (p := ⟨q, 3, none⟩) hwq (.slice A5 S.length c5))
    obtain ⟨w7, hw7⟩ : ∃ w7 : World, (w5.setCell ⟨q, 2, none⟩ (.int .i64 p)).setCell ⟨q, 3, none⟩ (.slice A5 S.length c5) = w7 := ⟨_, rfl⟩
    rw [hw7] at own52 bo7 b7
    obtain ⟨A7, c7, hv7, h7, _⟩ := own52.form hSo
    obtain ⟨rfl, rfl⟩ : A5 = A7 ∧ c5 = c7 := by cases hv7; exact ⟨rfl, rfl⟩
    have HB7 := Lib.hid b7
    have HX : Hid (Rd.kys.Ok w7 ⟨K.user, K.master, p, ⟨A5, S.length, c5, S⟩⟩) := Lib.hid ⟨HG.out.ok.1, HG.out.ok.2.1, hp, ⟨h7, hc5, hm5⟩, trivial⟩
    have HC := Lib.hid (putRes_any A n c l ⟨K.user, K.master, p, ⟨A5, S.length, c5, S⟩⟩ w7 (hr.on b7) (by omega) hc hcm (inc_kv.1 HV.out.inc) HX.out)
    clear own5 own51 own52 h5 h7 hv7 bb5 bo4 bo5 b4 b5 b7 hD4
    go_upto_region 10 with fail
    try rw [hw7]
    have k0 : w7.cell? ⟨q, 0, none⟩ = some (.string K.user) := bo7.cell rfl
    have k1 : w7.cell? ⟨q, 1, none⟩ = some (.int .i64 K.master) := bo7.cell rfl
    have k2 : w7.cell? ⟨q, 2, none⟩ = some (.int .i64 p) := bo7.cell rfl
    have k3 : w7.cell? ⟨q, 3, none⟩ = some (.slice A5 S.length c5) := bo7.cell rfl
    clear hw7 bo7 f2 f3
    go_wp2_with fail
    refine HC.out.mono ?_
    rintro e w8 ⟨O, co, xs, rfl, bb8, hx8, hl8, hm8, hkv⟩
    have b8 := below_then HB7.out bb8
    have HK := Lib.hid hkv
    clear hkv k0 k1 k2 k3
    go_wp2_with fail
    go_ret2
    rw [HE.out]
    exact ⟨O, co, xs, rfl, b8, hx8, hl8, hm8, HK.out⟩

set_option maxRecDepth 100000 in
set_option maxHeartbeats 8000000 in
theorem psign_any (A : Option Addr) (n c : Nat) (l : List Kys) (u id : ByteArray) (p : Int) (w : World) (hr : Rd.kys.Holds w A n l) (hV : Dv.Valid (l.map kv)) (hn : n ≤ 1000) (hc : n ≤ c) (hcm : c ≤ maxLen) (hid : id.size ≤ maxLen) (hp : -9223372036854775808 ≤ p ∧ p ≤ 9223372036854775807) :
    Calls Try.prog 44 #[.slice A n c, .string u, .string id, .int .i64 p] w (Res w (Dv.sign (l.map kv) u id p)) := by
  have HV := Lib.hid hV
  obtain ⟨b0, hb0⟩ : ∃ b0, Dv.inR p 0 = b0 := ⟨_, rfl⟩
  have CF := Lib.hid (from_any p 0 w)
  rw [hb0] at CF
  have HP := Lib.hid hb0
  clear hb0
  go_enter Try.func44, Try.ntmps44
  cases b0
  case false =>
    have HE : Hid (Dv.sign (l.map kv) u id p = ([], 2)) := Lib.hid (by unfold Dv.sign; rw [if_pos HP.out])
    go_wp2_with fail
    refine CF.out.mono ?_
    rintro e w1 ⟨rfl, rfl⟩
    go_wp2_with fail
    go_ret2
    rw [HE.out]
    exact Res.none_ (Below.refl _ _)
  obtain ⟨K, s, hgv, hG⟩ := gotten hr hV u
  have CG := Lib.hid (get_any A n c l u w hr (by omega))
  rw [hgv] at CG
  have HG := Lib.hid hG
  clear hV hgv
  go_wp2_with fail
  refine CF.out.mono ?_
  rintro e w0 ⟨rfl, rfl⟩
  go_wp2_with fail
  refine CG.out.mono ?_
  rintro e w1 ⟨rfl, bb1⟩
  go_upto_region 4 with fail
  obtain ⟨wa, hwa⟩ : ∃ W : World, W = w1.alloc (.cells #[.string K.user, .int .i64 K.master, .int .i64 K.pos, .slice K.devices.A K.devices.n K.devices.c] 59) := ⟨_, rfl⟩
  have ba : Below w.heap.size w wa := by rw [hwa]; exact below_alloc bb1 _
  have bo : OBox wa w1.heap.size (kyC K) := by rw [hwa]; exact OBox.new w1 (kyC K) _
  rw [← hwa]
  obtain ⟨q, hq⟩ : ∃ q, w1.heap.size = q := ⟨_, rfl⟩
  have hwq : w.heap.size ≤ q := by rw [← hq]; exact bb1.size
  rw [hq] at bo ⊢
  clear hq hwa bb1 hG
  have k0 : wa.cell? ⟨q, 0, none⟩ = some (.string K.user) := bo.cell rfl
  have k1 : wa.cell? ⟨q, 1, none⟩ = some (.int .i64 K.master) := bo.cell rfl
  have k2 : wa.cell? ⟨q, 2, none⟩ = some (.int .i64 K.pos) := bo.cell rfl
  have k3 : wa.cell? ⟨q, 3, none⟩ = some (.slice K.devices.A K.devices.n K.devices.c) := bo.cell rfl
  go_wp2_with fail
  refine (index_any K wa (HG.out.devs.on ba) HG.out.inc (by have := HG.out.few; omega)).mono ?_
  rintro e w2 ⟨b, rfl, bb2, hab, hD⟩
  have bo2 := bo.on bb2
  have b2 := below_then ba bb2
  have hqb : q < b := Nat.lt_of_lt_of_le bo.lt hab
  clear k0 k1 k2 k3 bo bb2 ba CF CG
  have hlook := hD.lookOk id hid
  obtain ⟨dd, hdd⟩ : ∃ dd, (Dv.find Dv.dk K.devices.l (bs id)).getD zD = dd := ⟨_, rfl⟩
  obtain ⟨hs, hhs⟩ : ∃ hs, Dv.has K.devices.l id = hs := ⟨_, rfl⟩
  rw [hdd, hhs] at hlook
  have HDD := Lib.hid hdd
  have HS := Lib.hid hhs
  have HH : Hid (Dv.has (Dv.getK (l.map kv) u).devs id = hs) := Lib.hid (by rw [← HG.out.kv_]; exact hhs)
  clear hdd hhs
  go_upto_region 6 with fail
  obtain ⟨w3, hw3⟩ : ∃ W : World, W = w2.alloc (.cells #[.string dd.id, .int .i64 dd.key, .bool dd.signed] 47) := ⟨_, rfl⟩
  rw [← hw3]
  have bb3 : Below w2.heap.size w2 w3 := by rw [hw3]; exact below_alloc (Below.refl _ _) _
  have bd3 : OBox w3 w2.heap.size [.string dd.id, .int .i64 dd.key, .bool dd.signed] := by rw [hw3]; exact OBox.new w2 [.string dd.id, .int .i64 dd.key, .bool dd.signed] _
  have hq2 : q < w2.heap.size := bo2.lt
  have hb2 := hD.lt
  have hw2 := b2.size
  obtain ⟨g, hg⟩ : ∃ g, w2.heap.size = g := ⟨_, rfl⟩
  have b3 := below_then b2 bb3
  have bo3 := bo2.on bb3
  have hD3 := hD.on bb3
  rw [hg] at bd3 hq2 hb2 hw2 ⊢
  clear hg
  clear hw3 bb3 b2 bo2 hD hlook
  cases hs
  · have HE : Hid (Dv.sign (l.map kv) u id p = ([], 5)) := Lib.hid (by unfold Dv.sign; rw [if_neg (by rw [HP.out]; simp), if_pos HH.out])
    go_wp2_with fail
    go_ret2
    rw [HE.out]
    exact Res.none_ b3
  · obtain ⟨m, hm⟩ : ∃ m, K.master = m := ⟨_, rfl⟩
    have k1 : w3.cell? ⟨q, 1, none⟩ = some (.int .i64 m) := by rw [← hm]; exact bo3.cell rfl
    have HM := Lib.hid hm
    have hM : (Dv.getK (l.map kv) u).master = m := by rw [← HG.out.kv_]; exact hm
    clear hm
    by_cases h0 : m = 0
    · have HE : Hid (Dv.sign (l.map kv) u id p = ([], 26)) := Lib.hid (by unfold Dv.sign; rw [if_neg (by rw [HP.out]; simp), if_neg (by rw [HH.out]; simp), if_pos (by rw [hM]; exact h0)])
      clear hM
      go_wp2_with fail
      go_ret2
      rw [HE.out]
      exact Res.none_ b3
    obtain ⟨hfd, hdid⟩ : Dv.find Dv.dk K.devices.l (bs id) = some dd ∧ dd.id = id := by
      have h1 := HS.out
      unfold Dv.has at h1
      obtain ⟨d1, h2⟩ := Option.isSome_iff_exists.1 h1
      have h3 := HDD.out
      rw [h2] at h3
      simp only [Option.getD_some] at h3
      subst h3
      exact ⟨h2, Dv.bsi ((Dv.find_some_iff HG.out.inc).1 h2).2⟩
    obtain ⟨S, hS⟩ : ∃ S, (K.devices.l.map (Dv.on_ id)) = S := ⟨_, rfl⟩
    have hput0 := Dv.put_on HG.out.inc hfd
    rw [hdid, hS] at hput0
    have HE : Hid (Dv.sign (l.map kv) u id p = (Dv.put Dv.uk (l.map kv) ⟨K.user, K.master, p, S⟩, 0)) := Lib.hid (by
      unfold Dv.sign
      rw [if_neg (by rw [HP.out]; simp), if_neg (by rw [HH.out]; simp), if_neg (by rw [hM]; exact h0), ← HG.out.kv_, ← hS]; rfl)
    have hon : ∀ z, (Dv.on_ id z).id = z.id ∧ (Dv.on_ id z).key = z.key := fun z => by unfold Dv.on_; split <;> exact ⟨rfl, rfl⟩
    have hSi : Dv.Inc Dv.dk S := by rw [← hS]; exact Dv.inc_same (Dv.map_on_keys id _) HG.out.inc
    have hSo : DvOk S := by
      rw [← hS]
      intro z hz
      obtain ⟨y, hy, rfl⟩ := List.mem_map.1 hz
      rw [(hon y).1, (hon y).2]
      exact dv_ok HG.out.devs y hy
    have hSl : S.length ≤ 1000000 := by rw [← hS, List.length_map]; have := HG.out.few; have := HG.out.len; omega
    have hfew := HG.out.few
    rw [hdid] at bd3
    have d0 : w3.cell? ⟨g, 0, none⟩ = some (.string id) := bd3.cell rfl
    have d1 : w3.cell? ⟨g, 1, none⟩ = some (.int .i64 dd.key) := bd3.cell rfl
    have d2 : w3.cell? ⟨g, 2, none⟩ = some (.bool dd.signed) := bd3.cell rfl
    have df := bd3.free 2
    have bdx := bd3.set 2 (.bool true)
    have hgx := grown_setCell w3 g 2 (.bool true)
    have hDx := hD3.kept hgx (by intro e; injection e with e; omega)
    have box := bo3.kept hgx (by intro e; injection e with e; omega)
    have bx := b3.setCell (p := ⟨g, 2, none⟩) hw2 (.bool true)
    obtain ⟨wx, hwx⟩ : ∃ wx : World, w3.setCell ⟨g, 2, none⟩ (.bool true) = wx := ⟨_, rfl⟩
    rw [hwx] at bdx hDx box bx hgx
    obtain ⟨w4, hput, hD4, hg4⟩ := hDx.put HG.out.inc ⟨id, dd.key, true⟩ hid (by unfold maxLen; omega)
    change (Instr.mapUpdate 73 (.map (some b)) (.string id) (.agg #[.string id, .int .i64 dd.key, .bool true])).run Try.prog wx = .ok () w4 at hput
    rw [hput0] at hD4
    have b4 : Below w.heap.size w w4 := bx.grown hg4 bx.size (fun j hj => by cases hj; omega)
    have bo4 := box.kept hg4 (by intro e; injection e with e; omega)
    clear hD3 hg4 bo3 b3 hDx box bx hgx bd3 hS hput0 hfd hdid hon hM hw2 hb2
    go_upto_region 11 with fail
    try rw [hwx]
    have e0 : wx.cell? ⟨g, 0, none⟩ = some (.string id) := bdx.cell rfl
    have e1 : wx.cell? ⟨g, 1, none⟩ = some (.int .i64 dd.key) := bdx.cell rfl
    have e2 : wx.cell? ⟨g, 2, none⟩ = some (.bool true) := bdx.cell rfl
    clear hwx bdx df d0 d1 d2 k1
    go_upto_region 12 with fail
    clear hput e0 e1 e2
    go_wp2_with fail
    refine (listed_any b _ S w4 hD4 hSi hSo (by omega) hSl).mono ?_
    rintro e w5 ⟨v5, rfl, bb5, own5⟩
    have b5 := below_then b4 bb5
    have bo5 := bo4.on bb5
    have hq4 : q < w4.heap.size := bo4.lt
    obtain ⟨A5, c5, rfl, h5, hc5, hm5⟩ := own5.form hSo
    have f2 := bo5.free 2
    have k2 : w5.cell? ⟨q, 2, none⟩ = some (.int .i64 K.pos) := bo5.cell rfl
    have f3 := bo5.free 3
    have k3 : w5.cell? ⟨q, 3, none⟩ = some (.slice K.devices.A K.devices.n K.devices.c) := bo5.cell rfl
    have own51 : OwnDvs _ _ _ S := World.ownsRow.kept own5 (grown_setCell _ q 2 (.int .i64 p)) (.inr (by intro e; have := (World.ownsRow.lt own5 q e).1; omega))
    have own52 : OwnDvs _ _ _ S := World.ownsRow.kept own51 (grown_setCell _ q 3 (.slice A5 S.length c5)) (.inr (by intro e; have := (World.ownsRow.lt own51 q e).1; omega))
    have bo7 := ((bo5.set 2 (.int .i64 p)).set 3 (.slice A5 S.length c5))
    have b7 := ((b5.setCell (p := ⟨q, 2, none⟩) hwq (.int .i64 p)).setCell (p := ⟨q, 3, none⟩) hwq (.slice A5 S.length c5))
    obtain ⟨w7, hw7⟩ : ∃ w7 : World, (w5.setCell ⟨q, 2, none⟩ (.int .i64 p)).setCell ⟨q, 3, none⟩ (.slice A5 S.length c5) = w7 := ⟨_, rfl⟩
    rw [hw7] at own52 bo7 b7
    obtain ⟨A7, c7, hv7, h7, _⟩ := own52.form hSo
    obtain ⟨rfl, rfl⟩ : A5 = A7 ∧ c5 = c7 := by cases hv7; exact ⟨rfl, rfl⟩
    have HB7 := Lib.hid b7
    have HX : Hid (Rd.kys.Ok w7 ⟨K.user, K.master, p, ⟨A5, S.length, c5, S⟩⟩) := Lib.hid ⟨HG.out.ok.1, HG.out.ok.2.1, hp, ⟨h7, hc5, hm5⟩, trivial⟩
    have HC := Lib.hid (putRes_any A n c l ⟨K.user, K.master, p, ⟨A5, S.length, c5, S⟩⟩ w7 (hr.on b7) (by omega) hc hcm (inc_kv.1 HV.out.inc) HX.out)
    clear own5 own51 own52 h5 h7 hv7 bb5 bo4 bo5 b4 b5 b7 hD4
    go_upto_region 13 with fail
    try rw [hw7]
    have k0 : w7.cell? ⟨q, 0, none⟩ = some (.string K.user) := bo7.cell rfl
    have k1 : w7.cell? ⟨q, 1, none⟩ = some (.int .i64 K.master) := bo7.cell rfl
    have k2 : w7.cell? ⟨q, 2, none⟩ = some (.int .i64 p) := bo7.cell rfl
    have k3 : w7.cell? ⟨q, 3, none⟩ = some (.slice A5 S.length c5) := bo7.cell rfl
    clear hw7 bo7 f2 f3
    go_wp2_with fail
    refine HC.out.mono ?_
    rintro e w8 ⟨O, co, xs, rfl, bb8, hx8, hl8, hm8, hkv⟩
    have b8 := below_then HB7.out bb8
    have HK := Lib.hid hkv
    clear hkv k0 k1 k2 k3
    go_wp2_with fail
    go_ret2
    rw [HE.out]
    exact ⟨O, co, xs, rfl, b8, hx8, hl8, hm8, HK.out⟩
end Go.Proofs.Ytbhkgdfmjkblcaa
