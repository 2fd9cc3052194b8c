/-
  The walk through the reference's Remove. Printed by gen_devu.py.
-/
import Derived.Test.YtbhkgdfmjkblcaaDevS
import Derived.Test.YtbhkgdfmjkblcaaAppD
import Derived.Deep.RegionLaw
import Derived.Deep.DeepCutAuto
import Derived.IntWalk
namespace Go.Proofs.Ytbhkgdfmjkblcaa
open Go.RowKit
attribute [local go_sem ↓] ex_st_ky ex_st_dv
attribute [local go_sem] st_ky_new st_ky st_dv_new st_dv

theorem filter_at {l : List Dvc} (hi : Dv.Inc Dv.dk l) {i : Nat} {d : Dvc} {id : ByteArray} (hd : l[i]? = some d) (hk : Dv.dk d = bs id) : (l.filter fun d => decide (Dv.dk d ≠ bs id)) = l.take i ++ l.drop (i + 1) := by
  obtain ⟨h0, rfl⟩ := List.getElem?_eq_some_iff.1 hd
  have e : l = l.take i ++ l[i] :: l.drop (i + 1) := by rw [← List.drop_eq_getElem_cons h0, List.take_append_drop]
  have h1 : ∀ y ∈ l.take i, decide (Dv.dk y ≠ bs id) = true := fun y hy => by
    obtain ⟨j, hj, rfl⟩ := List.mem_iff_getElem.1 hy
    simp only [List.length_take] at hj
    rw [List.getElem_take]
    have := hi.at (List.getElem?_eq_getElem (by omega : j < l.length)) (List.getElem?_eq_getElem h0) (by omega)
    exact decide_eq_true fun e2 => by rw [e2, hk] at this; exact Nm.lt_irrefl _ this
  have h2 : ∀ y ∈ l.drop (i + 1), decide (Dv.dk y ≠ bs id) = true := fun y hy => by
    obtain ⟨j, hj, rfl⟩ := List.mem_iff_getElem.1 hy
    simp only [List.length_drop] at hj
    rw [List.getElem_drop]
    have := hi.at (List.getElem?_eq_getElem h0) (List.getElem?_eq_getElem (by omega : i + 1 + j < l.length)) (by omega)
    exact decide_eq_true fun e2 => by rw [e2, hk] at this; exact Nm.lt_irrefl _ this
  conv => lhs; rw [e]
  rw [List.filter_append, List.filter_cons, List.filter_eq_self.2 h1, List.filter_eq_self.2 h2, if_neg (by simp [hk])]

set_option maxRecDepth 100000 in
set_option maxHeartbeats 16000000 in
theorem rremove_any (A : Option Addr) (n c : Nat) (l : List Kys) (u id : ByteArray) (p : Int) (w : World) (hr : Rd.kys.Holds w A n l) (hV : Dv.Valid (l.map kv)) (hn : n ≤ 1000) (hc : n ≤ c) (hcm : c ≤ maxLen) (hp : -9223372036854775808 ≤ p ∧ p ≤ 9223372036854775807) :
    Calls Try.prog 40 #[.slice A n c, .string u, .string id, .int .i64 p] w (Res w (Dv.remove (l.map kv) u id p)) := by
  obtain ⟨i0, hi, hz0, hz1, hz2⟩ := info_parts infoDvc
  have HI := Lib.hid hi; have HZ0 := Lib.hid hz0; have HZ1 := Lib.hid hz1; have HZ2 := Lib.hid hz2
  clear hi hz0 hz1 hz2
  have HV := Lib.hid hV
  obtain ⟨t3, ht3⟩ : ∃ b, Dv.inR p 0 = b := ⟨_, rfl⟩
  have CP := within_any p 0 w
  rw [ht3] at CP
  have HCP := Lib.hid CP; have H3 := Lib.hid ht3
  clear ht3 CP
  have b0 := Below.refl w.heap.size w
  go_enter Try.func40, Try.ntmps40
  go_wp2_with fail
  refine HCP.out.mono ?_
  rintro e wx ⟨rfl, rfl⟩
  cases t3
  case false =>
    have HE : Hid (Dv.remove (l.map kv) u id p = ([], 2)) := Lib.hid (by unfold Dv.remove; rw [if_pos H3.out])
    go_wp2_with fail
    go_ret2
    rw [HE.out]
    exact Res.none_ b0
  clear HCP
  obtain ⟨K, s, hgv, hG⟩ := gotten hr hV u
  have CG := Lib.hid (rget_got (w := w) c u (hr.on b0) (by omega))
  rw [hgv] at CG
  have HG := Lib.hid hG
  clear hV hgv
  go_wp2_with fail
  refine CG.out.mono ?_
  rintro e w1 ⟨rfl, cc1⟩
  have bb1 := below_then b0 cc1
  clear cc1 b0
  go_upto_region 4 with fail
  obtain ⟨wa, hwa⟩ : ∃ W : World, W = w1.alloc (.cells #[.string K.user, .int .i64 K.master, .int .i64 K.pos, .slice K.devices.A K.devices.n K.devices.c] 59) := ⟨_, rfl⟩
  have ba : Below w.heap.size w wa := by rw [hwa]; exact below_alloc bb1 _
  have bo : OBox wa w1.heap.size (kyC K) := by rw [hwa]; exact OBox.new w1 (kyC K) _
  rw [← hwa]
  obtain ⟨q, hq⟩ : ∃ q, w1.heap.size = q := ⟨_, rfl⟩
  have hwq : w.heap.size ≤ q := by rw [← hq]; exact bb1.size
  have hda := HG.out.devs.on ba
  rw [hq] at bo ⊢
  clear hq hwa bb1 hG CG
  have k0 : wa.cell? ⟨q, 0, none⟩ = some (.string K.user) := bo.cell rfl
  have k1 : wa.cell? ⟨q, 1, none⟩ = some (.int .i64 K.master) := bo.cell rfl
  have k2 : wa.cell? ⟨q, 2, none⟩ = some (.int .i64 K.pos) := bo.cell rfl
  have k3 : wa.cell? ⟨q, 3, none⟩ = some (.slice K.devices.A K.devices.n K.devices.c) := bo.cell rfl
  obtain ⟨ix, hix⟩ : ∃ ix, Dv.idx K.devices.l (bs id) = ix := ⟨_, rfl⟩
  have hfew := HG.out.few
  have CP := rplace43_any K.devices.A K.devices.n K.devices.c K.devices.l id wa hda (by unfold maxLen; omega)
  rw [hix] at CP
  have HCP := Lib.hid CP
  have hneg := idx_neg K.devices.l id
  rw [hix] at hneg
  have HNEG := Lib.hid hneg
  have HIX := Lib.hid hix
  have HBAD : Hid (s = false ∨ ix < 0 → Dv.remove (l.map kv) u id p = ([], 5)) := Lib.hid fun h => by
    unfold Dv.remove
    rw [if_neg (by rw [H3.out]; simp), if_pos]
    rcases h with h | h
    · cases hh : Dv.has (Dv.getK (l.map kv) u).devs id
      · rfl
      · have h1 := (Dv.has_user HV.out.inc hh).2
        have h2 := HG.out.some_
        rw [h1, h] at h2; cases h2
    · have h1 := HNEG.out
      rw [decide_eq_true h] at h1
      rw [← HG.out.kv_]
      show Dv.has K.devices.l id = false
      cases hh : Dv.has K.devices.l id
      · rfl
      · rw [hh] at h1; cases h1
  clear CP hix hneg
  have hqa : q < wa.heap.size := bo.lt
  go_wp2_with fail
  refine HCP.out.mono ?_
  rintro e wx ⟨rfl, rfl⟩
  cases s
  · have HE := Lib.hid (HBAD.out (.inl rfl))
    clear HBAD
    go_wp2_with fail
    go_ret2
    rw [HE.out]
    exact Res.none_ ba
  by_cases hi0 : ix < 0
  · have HE := Lib.hid (HBAD.out (.inr hi0))
    clear HBAD
    go_wp2_with fail
    go_ret2
    rw [HE.out]
    exact Res.none_ ba
  clear HBAD
  have HH : Hid (Dv.has (Dv.getK (l.map kv) u).devs id = true) := Lib.hid (by
    have h1 := HNEG.out
    rw [decide_eq_false hi0] at h1
    rw [← HG.out.kv_]
    show Dv.has K.devices.l id = true
    cases hh : Dv.has K.devices.l id
    · rw [hh] at h1; cases h1
    · rfl)
  obtain ⟨i, d, hii, hd, hdk⟩ := idx_some (l := K.devices.l) (s := id) (by rw [HIX.out]; exact hi0)
  rw [HIX.out] at hii
  subst hii
  obtain ⟨S, hS⟩ : ∃ S, (K.devices.l.filter fun d => decide (Dv.dk d ≠ bs id)) = S := ⟨_, rfl⟩
  have HE : Hid (Dv.remove (l.map kv) u id p = (Dv.put Dv.uk (l.map kv) ⟨K.user, K.master, p, S⟩, 0)) := Lib.hid (by
    unfold Dv.remove
    rw [if_neg (by rw [H3.out]; simp), if_neg (by rw [HH.out]; simp), ← HG.out.kv_, ← hS]; rfl)
  have hSo : DvOk S := by rw [← hS]; exact (dv_ok HG.out.devs).sub fun z hz => (List.mem_filter.1 hz).1
  have HSS : Hid (K.devices.l.take i ++ K.devices.l.drop (i + 1) = S) := Lib.hid (by rw [← hS]; exact (filter_at HG.out.inc hd hdk).symm)
  have hil : i < K.devices.l.length := (List.getElem?_eq_some_iff.1 hd).1
  have hlen := HG.out.len
  have hok := HG.out.ok
  clear hS hd hdk HIX HNEG HCP hi0
  obtain ⟨Ku, Km, Kp, ⟨KA, Kn, Kc, Kl⟩⟩ := K
  change i < Kl.length at hil
  change Kl.length = Kn at hlen
  change Kn ≤ 10 at hfew
  change DvOk S at hSo
  have hus : Ku.size ≤ maxLen := hok.1
  have hms : -9223372036854775808 ≤ Km ∧ Km ≤ 9223372036854775807 := hok.2.1
  have hKc : Kn ≤ Kc := hok.2.2.2.1.2.1
  have hKm : Kc ≤ maxLen := hok.2.2.2.1.2.2
  unfold maxLen at hKm
  change Rd.dvc.Holds wa KA Kn Kl at hda
  have HSS : Hid (Kl.take i ++ Kl.drop (i + 1) = S) := HSS
  have HE : Hid (Dv.remove (l.map kv) u id p = (Dv.put Dv.uk (l.map kv) ⟨Ku, Km, p, S⟩, 0)) := HE
  obtain ⟨b1, o1, d, rfl, _⟩ := hda.mid (by decide) (show 0 < Kn by omega)
  change OBox wa q [.string Ku, .int .i64 Km, .int .i64 Kp, .slice (some ⟨b1, o1, none⟩) Kn Kc] at bo
  change wa.cell? ⟨q, 0, none⟩ = some (.string Ku) at k0
  change wa.cell? ⟨q, 1, none⟩ = some (.int .i64 Km) at k1
  change wa.cell? ⟨q, 2, none⟩ = some (.int .i64 Kp) at k2
  change wa.cell? ⟨q, 3, none⟩ = some (.slice (some ⟨b1, o1, none⟩) Kn Kc) at k3
  have HLEN := Lib.hid hlen
  have hiI : (i : Int) < Kn := by omega
  have hiI2 : (i : Int) ≤ Kc := by omega
  have hi1 : (i : Int) + 1 ≤ Kn := by omega
  have hnc : (Kn : Int) ≤ Kc := by omega
  have hw1 : IntKind.i64.wrap ((i : Int) + 1) = (i : Int) + 1 := IntWalk.i64_in _ (by omega)
  have hz1 : (0 : Int) ≤ (i : Int) + 1 := by omega
  have htn : ((i : Int) + 1).toNat = i + 1 := by omega
  have HR1 := Lib.hid (hda.front (k := i) (by omega)).1
  have OA : (wa.alloc (.cells #[] 47)).drew.ownsRow wa.heap.size 47 3 (.slice (some ⟨wa.heap.size, 0, none⟩) 0 0) 0 [] := World.ownsRow.drew (World.ownsRow_made wa #[] 0 (Nat.le_refl _) (by unfold maxLen; omega) rfl)
  have BA : Below wa.heap.size wa (wa.alloc (.cells #[] 47)).drew := Below.drew (below_alloc (Below.refl _ _) _)
  have HBO := Lib.hid bo
  have HSo := Lib.hid hSo
  clear hil hlen hok HG HH H3 bo hSo
  go_upto_region 7 with fail
  by_cases hck : Kc = i + 1
  · have hKn : Kn = i + 1 := by omega
    subst hKn
    subst hck
    have hle : (i : Int) ≤ (i : Int) + 1 := by omega
    go_region_law (first | (refine step_app_rows rfl (.tmp 33) (.tmp 37) 57 rfl wa.heap.size 47 i0 _ 3 32 Try.underlying57 HI.out HZ0.out HZ1.out HZ2.out rfl (by decide) (by decide) (.slice (some ⟨wa.heap.size, 0, none⟩) 0 0) 0 [] rfl (by with_reducible exact OA) wa.heap.size (some ⟨b1, o1, none⟩) i (i + 1) (Rd.dvc.rows (Kl.take i)) rfl (Reads.below HR1.out (by with_reducible exact BA)) (Rd.dvc.rows_one' _) (by omega) (by simp) ?_; intro v1 w1x hown1 hg1; have hb1 : Below wa.heap.size wa w1x := Below.grown (by with_reducible exact BA) hg1 (by simp) (fun j hj => (World.ownsRow.lt OA _ hj).1); have hbo1 := HBO.out.on hb1; have hB1 := hb1.size; have k3x : w1x.cell? ⟨q, 3, none⟩ = some (.slice (some ⟨b1, o1, none⟩) (i + 1) (i + 1)) := hbo1.cell rfl) | (refine step_app_rows rfl (.tmp 38) (.tmp 43) 57 rfl wa.heap.size 47 i0 _ 3 32 Try.underlying57 HI.out HZ0.out HZ1.out HZ2.out rfl (by decide) (by decide) v1 (0 + i) _ rfl (by with_reducible exact hown1) wa.heap.size (some ⟨b1, o1, none⟩) 0 0 [] rfl ⟨rfl, fun h => absurd h (by omega)⟩ (by simp) (by omega) hB1 ?_; intro v2 w2x hown2 hg2; have hb2 : Below wa.heap.size wa w2x := Below.grown hb1 hg2 hB1 (fun j hj => (World.ownsRow.lt hown1 _ hj).1); have hbo2 := HBO.out.on hb2; obtain ⟨A5, c5, rfl, hc5, hm5, hrd5⟩ := own_cap hown2; have f2 := hbo2.free 2; have f3 := hbo2.free 3; have k2x : w2x.cell? ⟨q, 2, none⟩ = some (.int .i64 Kp) := hbo2.cell rfl; have k3y : w2x.cell? ⟨q, 3, none⟩ = some (.slice (some ⟨b1, o1, none⟩) (i + 1) (i + 1)) := hbo2.cell rfl))
    all_goals
      have hSl : S.length = i := by rw [← HSS.out, List.length_append, List.length_take, List.length_drop]; have := HLEN.out; omega
      have own5 : w2x.ownsRow wa.heap.size 47 3 (.slice A5 (i) c5) (i) (Rd.dvc.rows S) := by
        rw [← HSS.out, Rd.rows_append, List.drop_of_length_le (by rw [HLEN.out]; exact Nat.le_refl _)]
        simpa [Rd.rows_nil] using hown2
      have hne : ∀ (W : World) (k : Nat) (v : Value), W.ownsRow wa.heap.size 47 3 (.slice A5 (i) c5) (i) (Rd.dvc.rows S) → (W.setCell ⟨q, k, none⟩ v).ownsRow wa.heap.size 47 3 (.slice A5 (i) c5) (i) (Rd.dvc.rows S) := fun W k v h => World.ownsRow.kept h (grown_setCell W q k v) (.inr (by intro e; have := (World.ownsRow.lt h q e).1; omega))
      have own7 := hne _ 3 (.slice A5 (i) c5) (hne _ 2 (.int .i64 p) own5)
      have b5 := below_then ba hb2
      have b7 := (b5.setCell (p := ⟨q, 2, none⟩) hwq (.int .i64 p)).setCell (p := ⟨q, 3, none⟩) hwq (.slice A5 (i) c5)
      have bo7 := (hbo2.set 2 (.int .i64 p)).set 3 (.slice A5 (i) c5)
      obtain ⟨w7, hw7⟩ : ∃ W : World, (w2x.setCell ⟨q, 2, none⟩ (.int .i64 p)).setCell ⟨q, 3, none⟩ (.slice A5 (i) c5) = W := ⟨_, rfl⟩
      rw [hw7] at own7 b7 bo7 ⊢
      change OBox w7 q [.string Ku, .int .i64 Km, .int .i64 p, .slice A5 (i) c5] at bo7
      obtain ⟨A7, c7, hv7, hc7, hm7, hrd7⟩ := own_cap own7
      injection hv7 with hv1 hv2 hv3
      subst hv1 hv3
      have h7 : Rd.dvc.Holds w7 A5 (i) S := ⟨hrd7, hSl, HSo.out.ok⟩
      have HC := Lib.hid (withRes_any A n c l ⟨Ku, Km, p, ⟨A5, i, c5, S⟩⟩ w7 (hr.on b7) (by omega) hc hcm (inc_kv.1 HV.out.inc) ⟨hus, hms, hp, ⟨h7, hc7, hm7⟩, trivial⟩)
      have HB7 := Lib.hid b7
      clear k0 k1 k2 k3 k2x k3x k3y f2 f3 hw7 hne own5 own7 b5 b7 hrd7 h7 hown1 hown2 hg1 hg2 hb1 hb2 hbo1 hbo2 hw1 hz1 htn hiI hiI2 hi1 hnc OA BA hrd5 hc5 hm5 hSl
      have k0 : w7.cell? ⟨q, 0, none⟩ = some (.string Ku) := bo7.cell rfl
      have k1 : w7.cell? ⟨q, 1, none⟩ = some (.int .i64 Km) := bo7.cell rfl
      have k2 : w7.cell? ⟨q, 2, none⟩ = some (.int .i64 p) := bo7.cell rfl
      have k3 : w7.cell? ⟨q, 3, none⟩ = some (.slice A5 (i) c5) := bo7.cell rfl
      clear bo7
      go_wp2_with fail
      refine HC.out.mono ?_
      rintro e w8 ⟨O, co, xs, rfl, bb8, hx8, hl8, hm8, hkv⟩
      have b8 := below_then HB7.out bb8
      have HK := Lib.hid hkv
      clear hkv k0 k1 k2 k3
      go_wp2_with fail
      go_ret2
      rw [HE.out]
      exact ⟨O, co, xs, rfl, b8, hx8, hl8, hm8, HK.out⟩
  · have HD1 := Lib.hid (by have h := (hda.cut (k := i + 1) (cap := Kc) (by omega) hKc).1; rw [if_neg hck] at h; exact h)
    go_region_law (first | (refine step_app_rows rfl (.tmp 33) (.tmp 37) 57 rfl wa.heap.size 47 i0 _ 3 32 Try.underlying57 HI.out HZ0.out HZ1.out HZ2.out rfl (by decide) (by decide) (.slice (some ⟨wa.heap.size, 0, none⟩) 0 0) 0 [] rfl (by with_reducible exact OA) wa.heap.size (some ⟨b1, o1, none⟩) i Kc (Rd.dvc.rows (Kl.take i)) rfl (Reads.below HR1.out (by with_reducible exact BA)) (Rd.dvc.rows_one' _) (by omega) (by simp) ?_; intro v1 w1x hown1 hg1; have hb1 : Below wa.heap.size wa w1x := Below.grown (by with_reducible exact BA) hg1 (by simp) (fun j hj => (World.ownsRow.lt OA _ hj).1); have hbo1 := HBO.out.on hb1; have hB1 := hb1.size; have k3x : w1x.cell? ⟨q, 3, none⟩ = some (.slice (some ⟨b1, o1, none⟩) Kn Kc) := hbo1.cell rfl) | (refine step_app_rows rfl (.tmp 38) (.tmp 43) 57 rfl wa.heap.size 47 i0 _ 3 32 Try.underlying57 HI.out HZ0.out HZ1.out HZ2.out rfl (by decide) (by decide) v1 (0 + i) _ rfl (by with_reducible exact hown1) wa.heap.size ((some ⟨b1, o1, none⟩ : Option Addr).map (·.add ((i + 1) * 3))) (Kn - (i + 1)) (Kc - (i + 1)) (Rd.dvc.rows (Kl.drop (i + 1))) (by first | rfl | (simp only [Option.map_some, Addr.add_mid]; rfl)) (Reads.below HD1.out hb1) (Rd.dvc.rows_one' _) (by omega) hB1 ?_; intro v2 w2x hown2 hg2; have hb2 : Below wa.heap.size wa w2x := Below.grown hb1 hg2 hB1 (fun j hj => (World.ownsRow.lt hown1 _ hj).1); have hbo2 := HBO.out.on hb2; obtain ⟨A5, c5, rfl, hc5, hm5, hrd5⟩ := own_cap hown2; have f2 := hbo2.free 2; have f3 := hbo2.free 3; have k2x : w2x.cell? ⟨q, 2, none⟩ = some (.int .i64 Kp) := hbo2.cell rfl; have k3y : w2x.cell? ⟨q, 3, none⟩ = some (.slice (some ⟨b1, o1, none⟩) Kn Kc) := hbo2.cell rfl))
    all_goals
      have hSl : S.length = i + (Kn - (i + 1)) := by rw [← HSS.out, List.length_append, List.length_take, List.length_drop]; have := HLEN.out; omega
      have own5 : w2x.ownsRow wa.heap.size 47 3 (.slice A5 (i + (Kn - (i + 1))) c5) (i + (Kn - (i + 1))) (Rd.dvc.rows S) := by
        rw [← HSS.out, Rd.rows_append]
        simpa [Rd.rows_nil] using hown2
      have hne : ∀ (W : World) (k : Nat) (v : Value), W.ownsRow wa.heap.size 47 3 (.slice A5 (i + (Kn - (i + 1))) c5) (i + (Kn - (i + 1))) (Rd.dvc.rows S) → (W.setCell ⟨q, k, none⟩ v).ownsRow wa.heap.size 47 3 (.slice A5 (i + (Kn - (i + 1))) c5) (i + (Kn - (i + 1))) (Rd.dvc.rows S) := fun W k v h => World.ownsRow.kept h (grown_setCell W q k v) (.inr (by intro e; have := (World.ownsRow.lt h q e).1; omega))
      have own7 := hne _ 3 (.slice A5 (i + (Kn - (i + 1))) c5) (hne _ 2 (.int .i64 p) own5)
      have b5 := below_then ba hb2
      have b7 := (b5.setCell (p := ⟨q, 2, none⟩) hwq (.int .i64 p)).setCell (p := ⟨q, 3, none⟩) hwq (.slice A5 (i + (Kn - (i + 1))) c5)
      have bo7 := (hbo2.set 2 (.int .i64 p)).set 3 (.slice A5 (i + (Kn - (i + 1))) c5)
      obtain ⟨w7, hw7⟩ : ∃ W : World, (w2x.setCell ⟨q, 2, none⟩ (.int .i64 p)).setCell ⟨q, 3, none⟩ (.slice A5 (i + (Kn - (i + 1))) c5) = W := ⟨_, rfl⟩
      rw [hw7] at own7 b7 bo7 ⊢
      change OBox w7 q [.string Ku, .int .i64 Km, .int .i64 p, .slice A5 (i + (Kn - (i + 1))) c5] at bo7
      obtain ⟨A7, c7, hv7, hc7, hm7, hrd7⟩ := own_cap own7
      injection hv7 with hv1 hv2 hv3
      subst hv1 hv3
      have h7 : Rd.dvc.Holds w7 A5 (i + (Kn - (i + 1))) S := ⟨hrd7, hSl, HSo.out.ok⟩
      have HC := Lib.hid (withRes_any A n c l ⟨Ku, Km, p, ⟨A5, i + (Kn - (i + 1)), c5, S⟩⟩ w7 (hr.on b7) (by omega) hc hcm (inc_kv.1 HV.out.inc) ⟨hus, hms, hp, ⟨h7, hc7, hm7⟩, trivial⟩)
      have HB7 := Lib.hid b7
      clear k0 k1 k2 k3 k2x k3x k3y f2 f3 hw7 hne own5 own7 b5 b7 hrd7 h7 hown1 hown2 hg1 hg2 hb1 hb2 hbo1 hbo2 hw1 hz1 htn hiI hiI2 hi1 hnc OA BA hrd5 hc5 hm5 hSl
      have k0 : w7.cell? ⟨q, 0, none⟩ = some (.string Ku) := bo7.cell rfl
      have k1 : w7.cell? ⟨q, 1, none⟩ = some (.int .i64 Km) := bo7.cell rfl
      have k2 : w7.cell? ⟨q, 2, none⟩ = some (.int .i64 p) := bo7.cell rfl
      have k3 : w7.cell? ⟨q, 3, none⟩ = some (.slice A5 (i + (Kn - (i + 1))) c5) := bo7.cell rfl
      clear bo7
      go_wp2_with fail
      refine HC.out.mono ?_
      rintro e w8 ⟨O, co, xs, rfl, bb8, hx8, hl8, hm8, hkv⟩
      have b8 := below_then HB7.out bb8
      have HK := Lib.hid hkv
      clear hkv k0 k1 k2 k3
      go_wp2_with fail
      go_ret2
      rw [HE.out]
      exact ⟨O, co, xs, rfl, b8, hx8, hl8, hm8, HK.out⟩
end Go.Proofs.Ytbhkgdfmjkblcaa
