/-
  The walk through Add. Printed by gen_devg.py.
-/
import Derived.Test.YtbhkgdfmjkblcaaDevG
namespace Go.Proofs.Ytbhkgdfmjkblcaa
open Go.RowKit
attribute [local go_sem ↓] ex_st_ky ex_st_dv
attribute [local go_sem] st_ky_new st_ky st_dv_new st_dv

set_option maxRecDepth 100000 in
set_option maxHeartbeats 16000000 in
theorem padd_any (A : Option Addr) (n c : Nat) (l : List Kys) (u : ByteArray) (d : Dvc) (p : Int) (w : World) (hr : Rd.kys.Holds w A n l) (hV : Dv.Valid (l.map kv)) (hn : n ≤ 1000) (hc : n ≤ c) (hcm : c ≤ maxLen) (hus : u.size ≤ maxLen) (hds : d.id.size ≤ maxLen) (hdk : -9223372036854775808 ≤ d.key ∧ d.key ≤ 9223372036854775807) (hp : -9223372036854775808 ≤ p ∧ p ≤ 9223372036854775807) :
    Calls Try.prog 37 #[.slice A n c, .string u, devA d, .int .i64 p] w (Res w (Dv.add (l.map kv) u d p)) := by
  show Calls _ _ #[.slice A n c, .string u, .agg #[.string d.id, .int .i64 d.key, .bool d.signed], .int .i64 p] w _
  have HV := Lib.hid hV
  have HN := Lib.hid hr.length
  obtain ⟨t0, ht0⟩ : ∃ b, I.userB (bs u) = b := ⟨_, rfl⟩
  obtain ⟨t1, ht1⟩ : ∃ b, Dv.devB d.id = b := ⟨_, rfl⟩
  obtain ⟨t2, ht2⟩ : ∃ b, Dv.inR d.key 1 = b := ⟨_, rfl⟩
  obtain ⟨t3, ht3⟩ : ∃ b, Dv.inR p 0 = b := ⟨_, rfl⟩
  have CU := fun w => user_any u w hus
  have CD := fun w => isDev_any d.id w hds
  have CK := fun w => from_any d.key 1 w
  have CP := fun w => from_any p 0 w
  rw [ht0] at CU; rw [ht1] at CD; rw [ht2] at CK; rw [ht3] at CP
  have HCU := Lib.hid CU; have HCD := Lib.hid CD; have HCK := Lib.hid CK; have HCP := Lib.hid CP
  have H0 := Lib.hid ht0; have H1 := Lib.hid ht1; have H2 := Lib.hid ht2; have H3 := Lib.hid ht3
  clear ht0 ht1 ht2 ht3 CU CD CK CP
  go_enter Try.func37, Try.ntmps37
  go_upto_region 1 with fail
  obtain ⟨wp, hwp⟩ : ∃ W : World, W = w.alloc (.cells #[.string d.id, .int .i64 d.key, .bool d.signed] 47) := ⟨_, rfl⟩
  have bp : Below w.heap.size w wp := by rw [hwp]; exact below_alloc (Below.refl _ _) _
  have bd : OBox wp w.heap.size [.string d.id, .int .i64 d.key, .bool d.signed] := by rw [hwp]; exact OBox.new w [.string d.id, .int .i64 d.key, .bool d.signed] _
  rw [← hwp]
  obtain ⟨g, hg⟩ : ∃ g, w.heap.size = g := ⟨_, rfl⟩
  have HGG := Lib.hid hg
  have hwg : w.heap.size ≤ g := by omega
  rw [hg] at bd ⊢
  clear hg hwp
  go_wp2_with fail
  refine ((HCU.out wp).mono fun _ _ => Quiet.ret').mono ?_
  rintro e w0 ⟨rfl, bb0⟩
  have b0 := below_then bp bb0
  have bd0 := bd.on bb0
  clear bp bb0 bd
  have d0 : w0.cell? ⟨g, 0, none⟩ = some (.string d.id) := bd0.cell rfl
  have d1 : w0.cell? ⟨g, 1, none⟩ = some (.int .i64 d.key) := bd0.cell rfl
  cases t0
  case false =>
    simp only [I.errOf]
    have HE : Hid (Dv.add (l.map kv) u d p = ([], 3)) := Lib.hid (by unfold Dv.add; rw [if_pos (by rw [H0.out]; rfl)])
    go_wp2_with fail
    go_ret2
    rw [HE.out]
    exact Res.none_ b0
  simp only [I.errOf]
  go_wp2_with fail
  refine (HCD.out w0).mono ?_
  rintro e wx ⟨rfl, rfl⟩
  cases t1
  case false =>
    have HE : Hid (Dv.add (l.map kv) u d p = ([], 3)) := Lib.hid (by unfold Dv.add; rw [if_pos (by rw [H0.out, H1.out]; rfl)])
    go_wp2_with fail
    go_ret2
    rw [HE.out]
    exact Res.none_ b0
  go_wp2_with fail
  refine (HCK.out w0).mono ?_
  rintro e wx ⟨rfl, rfl⟩
  cases t2
  case false =>
    have HE : Hid (Dv.add (l.map kv) u d p = ([], 2)) := Lib.hid (by unfold Dv.add; rw [if_neg (by rw [H0.out, H1.out]; simp), if_pos (by rw [H2.out]; rfl)])
    go_wp2_with fail
    go_ret2
    rw [HE.out]
    exact Res.none_ b0
  go_wp2_with fail
  refine (HCP.out w0).mono ?_
  rintro e wx ⟨rfl, rfl⟩
  cases t3
  case false =>
    have HE : Hid (Dv.add (l.map kv) u d p = ([], 2)) := Lib.hid (by unfold Dv.add; rw [if_neg (by rw [H0.out, H1.out]; simp), if_pos (by rw [H2.out, H3.out]; rfl)])
    go_wp2_with fail
    go_ret2
    rw [HE.out]
    exact Res.none_ b0
  obtain ⟨K, s, hgv, hG⟩ := gotten (hr.on b0) hV u
  have CG := Lib.hid (get_any A n c l u w0 (hr.on b0) (by omega))
  rw [hgv] at CG
  have HG := Lib.hid hG
  clear hV hgv HCU HCD HCK HCP
  go_wp2_with fail
  refine CG.out.mono ?_
  rintro e w1 ⟨rfl, cc1⟩
  have bb1 := below_then b0 cc1
  have bd1 := bd0.on cc1
  have hbg : g < w1.heap.size := bd1.lt
  have HGd := Lib.hid (HG.out.devs.on cc1)
  clear cc1 bd0 b0 d0 d1
  go_upto_region 6 with fail
  obtain ⟨wa, hwa⟩ : ∃ W : World, W = w1.alloc (.cells #[.string K.user, .int .i64 K.master, .int .i64 K.pos, .slice K.devices.A K.devices.n K.devices.c] 59) := ⟨_, rfl⟩
  have ba : Below w.heap.size w wa := by rw [hwa]; exact below_alloc bb1 _
  have bo : OBox wa w1.heap.size (kyC K) := by rw [hwa]; exact OBox.new w1 (kyC K) _
  rw [← hwa]
  obtain ⟨q, hq⟩ : ∃ q, w1.heap.size = q := ⟨_, rfl⟩
  have hwq : w.heap.size ≤ q := by rw [← hq]; exact bb1.size
  have bda := bd1.on (below_alloc (Below.refl w1.heap.size w1) (.cells #[.string K.user, .int .i64 K.master, .int .i64 K.pos, .slice K.devices.A K.devices.n K.devices.c] 59))
  have hda := HGd.out.on (below_alloc (Below.refl w1.heap.size w1) (.cells #[.string K.user, .int .i64 K.master, .int .i64 K.pos, .slice K.devices.A K.devices.n K.devices.c] 59))
  rw [← hwa] at bda hda
  rw [hq] at bo hbg ⊢
  clear hq hwa bb1 hG bd1
  have k0 : wa.cell? ⟨q, 0, none⟩ = some (.string K.user) := bo.cell rfl
  have k1 : wa.cell? ⟨q, 1, none⟩ = some (.int .i64 K.master) := bo.cell rfl
  have k2 : wa.cell? ⟨q, 2, none⟩ = some (.int .i64 K.pos) := bo.cell rfl
  have k3 : wa.cell? ⟨q, 3, none⟩ = some (.slice K.devices.A K.devices.n K.devices.c) := bo.cell rfl
  go_wp2_with fail
  refine (index_any K wa hda HG.out.inc (by have := HG.out.few; omega)).mono ?_
  rintro e w2 ⟨b, rfl, bb2, hab, hD⟩
  have bo2 := bo.on bb2
  have bd2 := bda.on bb2
  have b2 := below_then ba bb2
  have hqb : q < b := Nat.lt_of_lt_of_le bo.lt hab
  clear k0 k1 k2 k3 bo bb2 ba CG bda hda
  have hlook := hD.lookOk d.id hds
  have d0 : w2.cell? ⟨g, 0, none⟩ = some (.string d.id) := bd2.cell rfl
  obtain ⟨dd, hdd⟩ : ∃ dd, (Dv.find Dv.dk K.devices.l (bs d.id)).getD zD = dd := ⟨_, rfl⟩
  obtain ⟨hs, hhs⟩ : ∃ hs, Dv.has K.devices.l d.id = hs := ⟨_, rfl⟩
  rw [hdd, hhs] at hlook
  have HH : Hid (Dv.has (Dv.getK (l.map kv) u).devs d.id = hs) := Lib.hid (by rw [← HG.out.kv_]; exact hhs)
  clear hdd hhs
  go_upto_region 8 with fail
  obtain ⟨w3, hw3⟩ : ∃ W : World, W = w2.alloc (.cells #[.string dd.id, .int .i64 dd.key, .bool dd.signed] 47) := ⟨_, rfl⟩
  rw [← hw3]
  have bb3 : Below w2.heap.size w2 w3 := by rw [hw3]; exact below_alloc (Below.refl _ _) _
  have b3 := below_then b2 bb3
  have bo3 := bo2.on bb3
  have bd3 := bd2.on bb3
  have hD3 := hD.on bb3
  clear hw3 bb3 b2 bo2 hD hlook bd2 d0
  obtain ⟨S, hS⟩ : ∃ S, Dv.put Dv.dk K.devices.l (Dv.off d) = S := ⟨_, rfl⟩
  have hfew := HG.out.few
  have hlen := HG.out.len
  have HL : Hid ((Dv.getK (l.map kv) u).devs.length = K.devices.n) := Lib.hid (by rw [← HG.out.kv_]; exact hlen)
  have HF : Hid (((!s && decide (200 ≤ n)) || (!hs && decide (10 ≤ K.devices.n))) = true → Dv.add (l.map kv) u d p = ([], 29)) := Lib.hid fun h => by
    unfold Dv.add
    rw [if_neg (by rw [H0.out, H1.out]; simp), if_neg (by rw [H2.out, H3.out]; simp), if_pos]
    rw [HG.out.some_, HH.out, List.length_map, HN.out, HL.out]; exact h
  have HA : Hid (((!s && decide (200 ≤ n)) || (!hs && decide (10 ≤ K.devices.n))) = false → Dv.add (l.map kv) u d p = (Dv.put Dv.uk (l.map kv) ⟨u, K.master, p, S⟩, 0)) := Lib.hid fun h => by
    unfold Dv.add
    rw [if_neg (by rw [H0.out, H1.out]; simp), if_neg (by rw [H2.out, H3.out]; simp), if_neg, ← HG.out.kv_, ← hS]
    · rfl
    · rw [HG.out.some_, HH.out, List.length_map, HN.out, HL.out, h]; simp
  have hSi : Dv.Inc Dv.dk S := by rw [← hS]; exact Dv.inc_put HG.out.inc _
  have hSo : DvOk S := by
    rw [← hS]
    intro z hz
    rcases (Dv.mem_put HG.out.inc).1 hz with rfl | ⟨hz, _⟩
    · exact ⟨hds, hdk⟩
    · exact dv_ok HG.out.devs z hz
  have hSl : S.length ≤ 1000000 := by
    rw [← hS, Dv.put_length HG.out.inc]
    split <;> omega
  clear hlen
  have k3 : w3.cell? ⟨q, 3, none⟩ = some (.slice K.devices.A K.devices.n K.devices.c) := bo3.cell rfl
  have c3 : (K.devices.n : Int) ≤ 10 := by omega
  have d0 : w3.cell? ⟨g, 0, none⟩ = some (.string d.id) := bd3.cell rfl
  have d1 : w3.cell? ⟨g, 1, none⟩ = some (.int .i64 d.key) := bd3.cell rfl
  have d2 : w3.cell? ⟨g, 2, none⟩ = some (.bool d.signed) := bd3.cell rfl
  have df := bd3.free 2
  have bdx := bd3.set 2 (.bool false)
  have hgx := grown_setCell w3 g 2 (.bool false)
  have hDx := hD3.kept hgx (by intro e; injection e with e; omega)
  have box := bo3.kept hgx (by intro e; injection e with e; omega)
  have bx := b3.setCell (p := ⟨g, 2, none⟩) hwg (.bool false)
  obtain ⟨wx, hwx⟩ : ∃ wx : World, w3.setCell ⟨g, 2, none⟩ (.bool false) = wx := ⟨_, rfl⟩
  rw [hwx] at bdx hDx box bx hgx
  obtain ⟨w4, hput, hD4, hg4⟩ := hDx.put HG.out.inc ⟨d.id, d.key, false⟩ hds (by unfold maxLen; omega)
  change (Instr.mapUpdate 73 (.map (some b)) (.string d.id) (.agg #[.string d.id, .int .i64 d.key, .bool false])).run Try.prog wx = .ok () w4 at hput
  rw [show Dv.put Dv.dk K.devices.l ⟨d.id, d.key, false⟩ = S from hS] at hD4
  have b4 : Below w.heap.size w w4 := bx.grown hg4 bx.size (fun j hj => by cases hj; omega)
  have bo4 := box.kept hg4 (by intro e; injection e with e; omega)
  have HR := Lib.hid b3
  clear hD3 hg4 bo3 b3 hDx box bx hgx bd3 hS
  cases s
  · by_cases h2 : (200 : Int) ≤ n
    · have HE : Hid (Dv.add (l.map kv) u d p = ([], 29)) := Lib.hid (HF.out (by simp; omega))
      cases hs
      all_goals
        by_cases h1 : (10 : Int) ≤ K.devices.n
      all_goals
        go_wp2_with fail
        go_ret2
        rw [HE.out]
        exact Res.none_ HR.out
    · cases hs
      · by_cases h1 : (10 : Int) ≤ K.devices.n
        · have HE : Hid (Dv.add (l.map kv) u d p = ([], 29)) := Lib.hid (HF.out (by simp; omega))
          go_wp2_with fail
          go_ret2
          rw [HE.out]
          exact Res.none_ HR.out
        · skip
          have HE : Hid (Dv.add (l.map kv) u d p = (Dv.put Dv.uk (l.map kv) ⟨u, K.master, p, S⟩, 0)) := Lib.hid (HA.out (by first | (simp; omega) | simp))
          go_upto_region 10 with fail
          clear k3 c3
          go_upto_region 11 with fail
          try rw [hwx]
          have e0 : wx.cell? ⟨g, 0, none⟩ = some (.string d.id) := bdx.cell rfl
          have e1 : wx.cell? ⟨g, 1, none⟩ = some (.int .i64 d.key) := bdx.cell rfl
          have e2 : wx.cell? ⟨g, 2, none⟩ = some (.bool false) := bdx.cell rfl
          clear hwx bdx df d0 d1 d2
          go_upto_region 12 with fail
          clear hput e0 e1 e2
          go_wp2_with fail
          refine (listed_any b _ S w4 hD4 hSi hSo (by omega) hSl).mono ?_
          rintro e w5 ⟨v5, rfl, bb5, own5⟩
          have b5 := below_then b4 bb5
          have bo5 := bo4.on bb5
          have hq4 : q < w4.heap.size := bo4.lt
          obtain ⟨A5, c5, rfl, h5, hc5, hm5⟩ := own5.form hSo
          have f0 := bo5.free 0
          have k0 : w5.cell? ⟨q, 0, none⟩ = some (.string K.user) := bo5.cell rfl
          have f2 := bo5.free 2
          have k2 : w5.cell? ⟨q, 2, none⟩ = some (.int .i64 K.pos) := bo5.cell rfl
          have f3 := bo5.free 3
          have k3 : w5.cell? ⟨q, 3, none⟩ = some (.slice K.devices.A K.devices.n K.devices.c) := bo5.cell rfl
          have own51 : OwnDvs _ _ _ S := World.ownsRow.kept own5 (grown_setCell _ q 0 (.string u)) (.inr (by intro e; have := (World.ownsRow.lt own5 q e).1; omega))
          have own52 : OwnDvs _ _ _ S := World.ownsRow.kept own51 (grown_setCell _ q 2 (.int .i64 p)) (.inr (by intro e; have := (World.ownsRow.lt own51 q e).1; omega))
          have own53 : OwnDvs _ _ _ S := World.ownsRow.kept own52 (grown_setCell _ q 3 (.slice A5 S.length c5)) (.inr (by intro e; have := (World.ownsRow.lt own52 q e).1; omega))
          have bo7 := (((bo5.set 0 (.string u)).set 2 (.int .i64 p)).set 3 (.slice A5 S.length c5))
          have b7 := (((b5.setCell (p := ⟨q, 0, none⟩) hwq (.string u)).setCell (p := ⟨q, 2, none⟩) hwq (.int .i64 p)).setCell (p := ⟨q, 3, none⟩) hwq (.slice A5 S.length c5))
          obtain ⟨w7, hw7⟩ : ∃ w7 : World, ((w5.setCell ⟨q, 0, none⟩ (.string u)).setCell ⟨q, 2, none⟩ (.int .i64 p)).setCell ⟨q, 3, none⟩ (.slice A5 S.length c5) = w7 := ⟨_, rfl⟩
          rw [hw7] at own53 bo7 b7
          obtain ⟨A7, c7, hv7, h7, _⟩ := own53.form hSo
          obtain ⟨rfl, rfl⟩ : A5 = A7 ∧ c5 = c7 := by cases hv7; exact ⟨rfl, rfl⟩
          have HB7 := Lib.hid b7
          have HX : Hid (Rd.kys.Ok w7 ⟨u, K.master, p, ⟨A5, S.length, c5, S⟩⟩) := Lib.hid ⟨hus, HG.out.ok.2.1, hp, ⟨h7, hc5, hm5⟩, trivial⟩
          have HC := Lib.hid (putRes_any A n c l ⟨u, K.master, p, ⟨A5, S.length, c5, S⟩⟩ w7 (hr.on b7) (by omega) hc hcm (inc_kv.1 HV.out.inc) HX.out)
          clear own5 own51 own52 own53 h5 h7 hv7 bb5 bo4 bo5 b4 b5 b7 hD4
          go_upto_region 13 with fail
          try rw [hw7]
          have k0 : w7.cell? ⟨q, 0, none⟩ = some (.string u) := bo7.cell rfl
          have k1 : w7.cell? ⟨q, 1, none⟩ = some (.int .i64 K.master) := bo7.cell rfl
          have k2 : w7.cell? ⟨q, 2, none⟩ = some (.int .i64 p) := bo7.cell rfl
          have k3 : w7.cell? ⟨q, 3, none⟩ = some (.slice A5 S.length c5) := bo7.cell rfl
          clear hw7 bo7 f0 f2 f3
          go_wp2_with fail
          refine HC.out.mono ?_
          rintro e w8 ⟨O, co, xs, rfl, bb8, hx8, hl8, hm8, hkv⟩
          have b8 := below_then HB7.out bb8
          have HK := Lib.hid hkv
          clear hkv k0 k1 k2 k3
          go_wp2_with fail
          go_ret2
          rw [HE.out]
          exact ⟨O, co, xs, rfl, b8, hx8, hl8, hm8, HK.out⟩
      · skip
        have HE : Hid (Dv.add (l.map kv) u d p = (Dv.put Dv.uk (l.map kv) ⟨u, K.master, p, S⟩, 0)) := Lib.hid (HA.out (by first | (simp; omega) | simp))
        go_upto_region 10 with fail
        clear k3 c3
        go_upto_region 11 with fail
        try rw [hwx]
        have e0 : wx.cell? ⟨g, 0, none⟩ = some (.string d.id) := bdx.cell rfl
        have e1 : wx.cell? ⟨g, 1, none⟩ = some (.int .i64 d.key) := bdx.cell rfl
        have e2 : wx.cell? ⟨g, 2, none⟩ = some (.bool false) := bdx.cell rfl
        clear hwx bdx df d0 d1 d2
        go_upto_region 12 with fail
        clear hput e0 e1 e2
        go_wp2_with fail
        refine (listed_any b _ S w4 hD4 hSi hSo (by omega) hSl).mono ?_
        rintro e w5 ⟨v5, rfl, bb5, own5⟩
        have b5 := below_then b4 bb5
        have bo5 := bo4.on bb5
        have hq4 : q < w4.heap.size := bo4.lt
        obtain ⟨A5, c5, rfl, h5, hc5, hm5⟩ := own5.form hSo
        have f0 := bo5.free 0
        have k0 : w5.cell? ⟨q, 0, none⟩ = some (.string K.user) := bo5.cell rfl
        have f2 := bo5.free 2
        have k2 : w5.cell? ⟨q, 2, none⟩ = some (.int .i64 K.pos) := bo5.cell rfl
        have f3 := bo5.free 3
        have k3 : w5.cell? ⟨q, 3, none⟩ = some (.slice K.devices.A K.devices.n K.devices.c) := bo5.cell rfl
        have own51 : OwnDvs _ _ _ S := World.ownsRow.kept own5 (grown_setCell _ q 0 (.string u)) (.inr (by intro e; have := (World.ownsRow.lt own5 q e).1; omega))
        have own52 : OwnDvs _ _ _ S := World.ownsRow.kept own51 (grown_setCell _ q 2 (.int .i64 p)) (.inr (by intro e; have := (World.ownsRow.lt own51 q e).1; omega))
        have own53 : OwnDvs _ _ _ S := World.ownsRow.kept own52 (grown_setCell _ q 3 (.slice A5 S.length c5)) (.inr (by intro e; have := (World.ownsRow.lt own52 q e).1; omega))
        have bo7 := (((bo5.set 0 (.string u)).set 2 (.int .i64 p)).set 3 (.slice A5 S.length c5))
        have b7 := (((b5.setCell (p := ⟨q, 0, none⟩) hwq (.string u)).setCell (p := ⟨q, 2, none⟩) hwq (.int .i64 p)).setCell (p := ⟨q, 3, none⟩) hwq (.slice A5 S.length c5))
        obtain ⟨w7, hw7⟩ : ∃ w7 : World, ((w5.setCell ⟨q, 0, none⟩ (.string u)).setCell ⟨q, 2, none⟩ (.int .i64 p)).setCell ⟨q, 3, none⟩ (.slice A5 S.length c5) = w7 := ⟨_, rfl⟩
        rw [hw7] at own53 bo7 b7
        obtain ⟨A7, c7, hv7, h7, _⟩ := own53.form hSo
        obtain ⟨rfl, rfl⟩ : A5 = A7 ∧ c5 = c7 := by cases hv7; exact ⟨rfl, rfl⟩
        have HB7 := Lib.hid b7
        have HX : Hid (Rd.kys.Ok w7 ⟨u, K.master, p, ⟨A5, S.length, c5, S⟩⟩) := Lib.hid ⟨hus, HG.out.ok.2.1, hp, ⟨h7, hc5, hm5⟩, trivial⟩
        have HC := Lib.hid (putRes_any A n c l ⟨u, K.master, p, ⟨A5, S.length, c5, S⟩⟩ w7 (hr.on b7) (by omega) hc hcm (inc_kv.1 HV.out.inc) HX.out)
        clear own5 own51 own52 own53 h5 h7 hv7 bb5 bo4 bo5 b4 b5 b7 hD4
        go_upto_region 13 with fail
        try rw [hw7]
        have k0 : w7.cell? ⟨q, 0, none⟩ = some (.string u) := bo7.cell rfl
        have k1 : w7.cell? ⟨q, 1, none⟩ = some (.int .i64 K.master) := bo7.cell rfl
        have k2 : w7.cell? ⟨q, 2, none⟩ = some (.int .i64 p) := bo7.cell rfl
        have k3 : w7.cell? ⟨q, 3, none⟩ = some (.slice A5 S.length c5) := bo7.cell rfl
        clear hw7 bo7 f0 f2 f3
        go_wp2_with fail
        refine HC.out.mono ?_
        rintro e w8 ⟨O, co, xs, rfl, bb8, hx8, hl8, hm8, hkv⟩
        have b8 := below_then HB7.out bb8
        have HK := Lib.hid hkv
        clear hkv k0 k1 k2 k3
        go_wp2_with fail
        go_ret2
        rw [HE.out]
        exact ⟨O, co, xs, rfl, b8, hx8, hl8, hm8, HK.out⟩
  · cases hs
    · by_cases h1 : (10 : Int) ≤ K.devices.n
      · have HE : Hid (Dv.add (l.map kv) u d p = ([], 29)) := Lib.hid (HF.out (by simp; omega))
        go_wp2_with fail
        go_ret2
        rw [HE.out]
        exact Res.none_ HR.out
      · skip
        have HE : Hid (Dv.add (l.map kv) u d p = (Dv.put Dv.uk (l.map kv) ⟨u, K.master, p, S⟩, 0)) := Lib.hid (HA.out (by first | (simp; omega) | simp))
        go_upto_region 10 with fail
        clear k3 c3
        go_upto_region 11 with fail
        try rw [hwx]
        have e0 : wx.cell? ⟨g, 0, none⟩ = some (.string d.id) := bdx.cell rfl
        have e1 : wx.cell? ⟨g, 1, none⟩ = some (.int .i64 d.key) := bdx.cell rfl
        have e2 : wx.cell? ⟨g, 2, none⟩ = some (.bool false) := bdx.cell rfl
        clear hwx bdx df d0 d1 d2
        go_upto_region 12 with fail
        clear hput e0 e1 e2
        go_wp2_with fail
        refine (listed_any b _ S w4 hD4 hSi hSo (by omega) hSl).mono ?_
        rintro e w5 ⟨v5, rfl, bb5, own5⟩
        have b5 := below_then b4 bb5
        have bo5 := bo4.on bb5
        have hq4 : q < w4.heap.size := bo4.lt
        obtain ⟨A5, c5, rfl, h5, hc5, hm5⟩ := own5.form hSo
        have f0 := bo5.free 0
        have k0 : w5.cell? ⟨q, 0, none⟩ = some (.string K.user) := bo5.cell rfl
        have f2 := bo5.free 2
        have k2 : w5.cell? ⟨q, 2, none⟩ = some (.int .i64 K.pos) := bo5.cell rfl
        have f3 := bo5.free 3
        have k3 : w5.cell? ⟨q, 3, none⟩ = some (.slice K.devices.A K.devices.n K.devices.c) := bo5.cell rfl
        have own51 : OwnDvs _ _ _ S := World.ownsRow.kept own5 (grown_setCell _ q 0 (.string u)) (.inr (by intro e; have := (World.ownsRow.lt own5 q e).1; omega))
        have own52 : OwnDvs _ _ _ S := World.ownsRow.kept own51 (grown_setCell _ q 2 (.int .i64 p)) (.inr (by intro e; have := (World.ownsRow.lt own51 q e).1; omega))
        have own53 : OwnDvs _ _ _ S := World.ownsRow.kept own52 (grown_setCell _ q 3 (.slice A5 S.length c5)) (.inr (by intro e; have := (World.ownsRow.lt own52 q e).1; omega))
        have bo7 := (((bo5.set 0 (.string u)).set 2 (.int .i64 p)).set 3 (.slice A5 S.length c5))
        have b7 := (((b5.setCell (p := ⟨q, 0, none⟩) hwq (.string u)).setCell (p := ⟨q, 2, none⟩) hwq (.int .i64 p)).setCell (p := ⟨q, 3, none⟩) hwq (.slice A5 S.length c5))
        obtain ⟨w7, hw7⟩ : ∃ w7 : World, ((w5.setCell ⟨q, 0, none⟩ (.string u)).setCell ⟨q, 2, none⟩ (.int .i64 p)).setCell ⟨q, 3, none⟩ (.slice A5 S.length c5) = w7 := ⟨_, rfl⟩
        rw [hw7] at own53 bo7 b7
        obtain ⟨A7, c7, hv7, h7, _⟩ := own53.form hSo
        obtain ⟨rfl, rfl⟩ : A5 = A7 ∧ c5 = c7 := by cases hv7; exact ⟨rfl, rfl⟩
        have HB7 := Lib.hid b7
        have HX : Hid (Rd.kys.Ok w7 ⟨u, K.master, p, ⟨A5, S.length, c5, S⟩⟩) := Lib.hid ⟨hus, HG.out.ok.2.1, hp, ⟨h7, hc5, hm5⟩, trivial⟩
        have HC := Lib.hid (putRes_any A n c l ⟨u, K.master, p, ⟨A5, S.length, c5, S⟩⟩ w7 (hr.on b7) (by omega) hc hcm (inc_kv.1 HV.out.inc) HX.out)
        clear own5 own51 own52 own53 h5 h7 hv7 bb5 bo4 bo5 b4 b5 b7 hD4
        go_upto_region 13 with fail
        try rw [hw7]
        have k0 : w7.cell? ⟨q, 0, none⟩ = some (.string u) := bo7.cell rfl
        have k1 : w7.cell? ⟨q, 1, none⟩ = some (.int .i64 K.master) := bo7.cell rfl
        have k2 : w7.cell? ⟨q, 2, none⟩ = some (.int .i64 p) := bo7.cell rfl
        have k3 : w7.cell? ⟨q, 3, none⟩ = some (.slice A5 S.length c5) := bo7.cell rfl
        clear hw7 bo7 f0 f2 f3
        go_wp2_with fail
        refine HC.out.mono ?_
        rintro e w8 ⟨O, co, xs, rfl, bb8, hx8, hl8, hm8, hkv⟩
        have b8 := below_then HB7.out bb8
        have HK := Lib.hid hkv
        clear hkv k0 k1 k2 k3
        go_wp2_with fail
        go_ret2
        rw [HE.out]
        exact ⟨O, co, xs, rfl, b8, hx8, hl8, hm8, HK.out⟩
    · skip
      have HE : Hid (Dv.add (l.map kv) u d p = (Dv.put Dv.uk (l.map kv) ⟨u, K.master, p, S⟩, 0)) := Lib.hid (HA.out (by first | (simp; omega) | simp))
      go_upto_region 10 with fail
      clear k3 c3
      go_upto_region 11 with fail
      try rw [hwx]
      have e0 : wx.cell? ⟨g, 0, none⟩ = some (.string d.id) := bdx.cell rfl
      have e1 : wx.cell? ⟨g, 1, none⟩ = some (.int .i64 d.key) := bdx.cell rfl
      have e2 : wx.cell? ⟨g, 2, none⟩ = some (.bool false) := bdx.cell rfl
      clear hwx bdx df d0 d1 d2
      go_upto_region 12 with fail
      clear hput e0 e1 e2
      go_wp2_with fail
      refine (listed_any b _ S w4 hD4 hSi hSo (by omega) hSl).mono ?_
      rintro e w5 ⟨v5, rfl, bb5, own5⟩
      have b5 := below_then b4 bb5
      have bo5 := bo4.on bb5
      have hq4 : q < w4.heap.size := bo4.lt
      obtain ⟨A5, c5, rfl, h5, hc5, hm5⟩ := own5.form hSo
      have f0 := bo5.free 0
      have k0 : w5.cell? ⟨q, 0, none⟩ = some (.string K.user) := bo5.cell rfl
      have f2 := bo5.free 2
      have k2 : w5.cell? ⟨q, 2, none⟩ = some (.int .i64 K.pos) := bo5.cell rfl
      have f3 := bo5.free 3
      have k3 : w5.cell? ⟨q, 3, none⟩ = some (.slice K.devices.A K.devices.n K.devices.c) := bo5.cell rfl
      have own51 : OwnDvs _ _ _ S := World.ownsRow.kept own5 (grown_setCell _ q 0 (.string u)) (.inr (by intro e; have := (World.ownsRow.lt own5 q e).1; omega))
      have own52 : OwnDvs _ _ _ S := World.ownsRow.kept own51 (grown_setCell _ q 2 (.int .i64 p)) (.inr (by intro e; have := (World.ownsRow.lt own51 q e).1; omega))
      have own53 : OwnDvs _ _ _ S := World.ownsRow.kept own52 (grown_setCell _ q 3 (.slice A5 S.length c5)) (.inr (by intro e; have := (World.ownsRow.lt own52 q e).1; omega))
      have bo7 := (((bo5.set 0 (.string u)).set 2 (.int .i64 p)).set 3 (.slice A5 S.length c5))
      have b7 := (((b5.setCell (p := ⟨q, 0, none⟩) hwq (.string u)).setCell (p := ⟨q, 2, none⟩) hwq (.int .i64 p)).setCell (p := ⟨q, 3, none⟩) hwq (.slice A5 S.length c5))
      obtain ⟨w7, hw7⟩ : ∃ w7 : World, ((w5.setCell ⟨q, 0, none⟩ (.string u)).setCell ⟨q, 2, none⟩ (.int .i64 p)).setCell ⟨q, 3, none⟩ (.slice A5 S.length c5) = w7 := ⟨_, rfl⟩
      rw [hw7] at own53 bo7 b7
      obtain ⟨A7, c7, hv7, h7, _⟩ := own53.form hSo
      obtain ⟨rfl, rfl⟩ : A5 = A7 ∧ c5 = c7 := by cases hv7; exact ⟨rfl, rfl⟩
      have HB7 := Lib.hid b7
      have HX : Hid (Rd.kys.Ok w7 ⟨u, K.master, p, ⟨A5, S.length, c5, S⟩⟩) := Lib.hid ⟨hus, HG.out.ok.2.1, hp, ⟨h7, hc5, hm5⟩, trivial⟩
      have HC := Lib.hid (putRes_any A n c l ⟨u, K.master, p, ⟨A5, S.length, c5, S⟩⟩ w7 (hr.on b7) (by omega) hc hcm (inc_kv.1 HV.out.inc) HX.out)
      clear own5 own51 own52 own53 h5 h7 hv7 bb5 bo4 bo5 b4 b5 b7 hD4
      go_upto_region 13 with fail
      try rw [hw7]
      have k0 : w7.cell? ⟨q, 0, none⟩ = some (.string u) := bo7.cell rfl
      have k1 : w7.cell? ⟨q, 1, none⟩ = some (.int .i64 K.master) := bo7.cell rfl
      have k2 : w7.cell? ⟨q, 2, none⟩ = some (.int .i64 p) := bo7.cell rfl
      have k3 : w7.cell? ⟨q, 3, none⟩ = some (.slice A5 S.length c5) := bo7.cell rfl
      clear hw7 bo7 f0 f2 f3
      go_wp2_with fail
      refine HC.out.mono ?_
      rintro e w8 ⟨O, co, xs, rfl, bb8, hx8, hl8, hm8, hkv⟩
      have b8 := below_then HB7.out bb8
      have HK := Lib.hid hkv
      clear hkv k0 k1 k2 k3
      go_wp2_with fail
      go_ret2
      rw [HE.out]
      exact ⟨O, co, xs, rfl, b8, hx8, hl8, hm8, HK.out⟩
end Go.Proofs.Ytbhkgdfmjkblcaa
