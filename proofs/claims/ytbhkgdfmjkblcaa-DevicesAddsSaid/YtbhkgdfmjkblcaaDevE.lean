/-
  The walk through Cross: a copy of the devices, each not Signed.
-/
import Derived.Test.YtbhkgdfmjkblcaaDevF
import Derived.Lib.SliceRun
namespace Go.Proofs.Ytbhkgdfmjkblcaa
open Go.RowKit
attribute [local go_sem ↓] ex_st_ky ex_st_dv
attribute [local go_sem] st_ky_new st_ky st_dv_new st_dv

theorem rows_set : ∀ (l : List Dvc) (k : Nat) (d : Dvc) (b : Bool), l[k]? = some d → (Rd.dvc.rows l).set (k * 3 + 2) (.bool b) = Rd.dvc.rows (l.set k ⟨d.id, d.key, b⟩)
  | [], k, d, b, h => by simp at h
  | x :: l, 0, d, b, h => by
    simp at h; subst h
    rfl
  | x :: l, k + 1, d, b, h => by
    have ih := rows_set l k d b (by simpa using h)
    have e : Rd.dvc.rows (x :: l) = .string x.id :: .int .i64 x.key :: .bool x.signed :: Rd.dvc.rows l := rfl
    have e2 : Rd.dvc.rows ((x :: l).set (k + 1) ⟨d.id, d.key, b⟩) = .string x.id :: .int .i64 x.key :: .bool x.signed :: Rd.dvc.rows (l.set k ⟨d.id, d.key, b⟩) := rfl
    rw [e, e2, ← ih, show (k + 1) * 3 + 2 = (k * 3 + 2) + 1 + 1 + 1 by omega, List.set_cons_succ, List.set_cons_succ, List.set_cons_succ]
section
variable {w : World} {B g N c k : Nat} {l : List Dvc} {d : Dvc}
theorem own_sig (h : w.ownsRow B 47 3 (.slice (some ⟨g, 0, none⟩) N c) N (Rd.dvc.rows l)) (hd : l[k]? = some d) (b : Bool) :
    (w.setCell ⟨g, k * 3 + 2, none⟩ (.bool b)).ownsRow B 47 3 (.slice (some ⟨g, 0, none⟩) N c) N (Rd.dvc.rows (l.set k ⟨d.id, d.key, b⟩)) ∧ w.grownBy (w.setCell ⟨g, k * 3 + 2, none⟩ (.bool b)) (some g) := by
  rw [← rows_set l k d b hd]
  exact h.stored _ _
theorem own_at (h : w.ownsRow B 47 3 (.slice (some ⟨g, 0, none⟩) N c) N (Rd.dvc.rows l)) (hd : l[k]? = some d) (hk : k < N) :
    w.cell? ⟨g, k * 3 + 2, none⟩ = some (.bool d.signed) ∧ w.frozen? ⟨g, k * 3 + 2, none⟩ = false := by
  refine ⟨?_, h.frozenAt _⟩
  rw [h.cellAt (k * 3 + 2) (by omega)]
  exact Rd.dvc.rows_at (j := 2) hd rfl
end
/-- the first k devices not Signed, the others as they were -/
def offs (k : Nat) (l : List Dvc) : List Dvc := (l.take k).map Dv.off ++ l.drop k
theorem offs_zero (l : List Dvc) : offs 0 l = l := rfl
theorem offs_all {k : Nat} {l : List Dvc} (h : l.length ≤ k) : offs k l = l.map Dv.off := by
  unfold offs
  rw [List.take_of_length_le h, List.drop_of_length_le h, List.append_nil]
theorem offs_at {k : Nat} {l : List Dvc} {d : Dvc} (h : l[k]? = some d) : (offs k l)[k]? = some d := by
  obtain ⟨hk, rfl⟩ := List.getElem?_eq_some_iff.1 h
  unfold offs
  have e : ((l.take k).map Dv.off).length = k := by rw [List.length_map, List.length_take]; omega
  rw [List.getElem?_append_right (by rw [e]; exact Nat.le_refl _), e, Nat.sub_self, List.getElem?_drop]
  exact h
theorem offs_set {k : Nat} {l : List Dvc} {d : Dvc} (h : l[k]? = some d) : (offs k l).set k ⟨d.id, d.key, false⟩ = offs (k + 1) l := by
  obtain ⟨hk, rfl⟩ := List.getElem?_eq_some_iff.1 h
  unfold offs
  have e : ((l.take k).map Dv.off).length = k := by rw [List.length_map, List.length_take]; omega
  rw [List.set_append_right _ _ (by rw [e]; exact Nat.le_refl _), e, Nat.sub_self, List.drop_eq_getElem_cons hk, List.set_cons_zero, List.take_succ_eq_append_getElem hk, List.map_append, List.append_assoc]
  rfl

set_option maxRecDepth 100000 in
set_option maxHeartbeats 4000000 in
theorem clone_any (A : Option Addr) (n c : Nat) (l : List Dvc) (w : World) (hr : Rd.dvc.Holds w A n l) (hn : n ≤ 1000000) :
    Calls Try.prog 72 #[.slice A n c] w fun e w' => ∃ v, e = .returned v ∧ Below w.heap.size w w' ∧ OwnDvs w' w.heap.size v l := by
  obtain ⟨i0, hi, hz0, hz1, hz2⟩ := info_parts infoDvc
  have HI := Lib.hid hi; have HZ0 := Lib.hid hz0; have HZ1 := Lib.hid hz1; have HZ2 := Lib.hid hz2
  clear hi hz0 hz1 hz2
  go_enter Try.func72, Try.ntmps72
  have heq := fun (A : Option Addr) (W : World) => Lib.run_eql_slice_nil (P := Try.prog) W 57 47 A n c 0 0 Try.underlying57
  rcases A with _ | ad
  · have h0 : ∀ W : World, (binOp .eql 57 (.slice none n c) (.slice none 0 0)).run Try.prog W = .ok (.bool true) W := fun W => heq none W
    clear heq
    have hl : l = [] := by
      rcases Nat.eq_zero_or_pos n with h0 | h0
      · exact List.eq_nil_of_length_eq_zero (by rw [hr.length, h0])
      · obtain ⟨_, _, h, _⟩ := hr.at_ h0
        cases h
    subst hl
    go_wp2_with fail
    go_ret
    exact ⟨_, rfl, Below.refl _ _, OwnDvs.nil _ _⟩
  · have h0 : ∀ W : World, (binOp .eql 57 (.slice (some ad) n c) (.slice none 0 0)).run Try.prog W = .ok (.bool false) W := fun W => heq (some ad) W
    clear heq
    have own0 : (w.alloc (.cells #[] 47)).ownsRow w.heap.size 47 3 (.slice (some ⟨w.heap.size, 0, none⟩) 0 0) 0 [] := World.ownsRow_made w #[] 0 (Nat.le_refl _) (by unfold maxLen; omega) rfl
    have HL := Lib.hid hr.length
    have hrr := hr.1
    go_wp2_with (at_builtin; refine app_rows rfl (.tmp 5) (.tmp 6) 57 rfl w.heap.size 47 i0 _ 3 32 Try.underlying57 HI.out HZ0.out HZ1.out HZ2.out rfl (by decide) (by decide) _ 0 [] rfl own0 w.heap.size (some ad) n c (Rd.dvc.rows l) ?a1 ?a2 ?a3 ?a4 ?a5 ?_)
    try case a1 => rfl
    try case a2 => exact Reads.below hrr (below_alloc (Below.refl _ _) _)
    try case a3 => exact Rd.dvc.rows_one' _
    try case a4 => omega
    try case a5 => first | omega | simp | (simp; omega)
    intro v1 w1 own1 g1
    have hb1 : Below w.heap.size w w1 := (below_alloc (Below.refl _ _) _).grown g1 (by simp) (fun j hj => (World.ownsRow.lt own0 _ hj).1)
    have own2 : OwnDvs w1 w.heap.size v1 l := by unfold OwnDvs; rw [HL.out]; simpa using own1
    clear own1 g1 own0 hrr
    go_wp2_with fail
    go_ret
    exact ⟨_, rfl, hb1, own2⟩

set_option maxRecDepth 100000 in
set_option maxHeartbeats 16000000 in
theorem pcross_any (A : Option Addr) (n c : Nat) (l : List Kys) (u : ByteArray) (m p : Int) (w : World) (hr : Rd.kys.Holds w A n l) (hV : Dv.Valid (l.map kv)) (hn : n ≤ 1000) (hc : n ≤ c) (hcm : c ≤ maxLen) (hus : u.size ≤ maxLen) (hm : -9223372036854775808 ≤ m ∧ m ≤ 9223372036854775807) (hp : -9223372036854775808 ≤ p ∧ p ≤ 9223372036854775807) :
    Calls Try.prog 42 #[.slice A n c, .string u, .int .i64 m, .int .i64 p] w (Res w (Dv.cross (l.map kv) u m p)) := by
  have HV := Lib.hid hV
  have HN := Lib.hid hr.length
  obtain ⟨t0, ht0⟩ : ∃ b, I.userB (bs u) = b := ⟨_, rfl⟩
  obtain ⟨t2, ht2⟩ : ∃ b, Dv.inR m 1 = b := ⟨_, rfl⟩
  obtain ⟨t3, ht3⟩ : ∃ b, Dv.inR p 0 = b := ⟨_, rfl⟩
  have CU := fun w => user_any u w hus
  have CK := fun w => from_any m 1 w
  have CP := fun w => from_any p 0 w
  rw [ht0] at CU; rw [ht2] at CK; rw [ht3] at CP
  have HCU := Lib.hid CU; have HCK := Lib.hid CK; have HCP := Lib.hid CP
  have H0 := Lib.hid ht0; have H2 := Lib.hid ht2; have H3 := Lib.hid ht3
  clear ht0 ht2 ht3 CU CK CP
  go_enter Try.func42, Try.ntmps42
  go_wp2_with fail
  refine ((HCU.out w).mono fun _ _ => Quiet.ret').mono ?_
  rintro e w0 ⟨rfl, b0⟩
  cases t0
  case false =>
    simp only [I.errOf]
    have HE : Hid (Dv.cross (l.map kv) u m p = ([], 3)) := Lib.hid (by unfold Dv.cross; rw [if_pos H0.out])
    go_wp2_with fail
    go_ret2
    rw [HE.out]
    exact Res.none_ b0
  simp only [I.errOf]
  go_wp2_with fail
  refine (HCK.out w0).mono ?_
  rintro e wx ⟨rfl, rfl⟩
  cases t2
  case false =>
    have HE : Hid (Dv.cross (l.map kv) u m p = ([], 2)) := Lib.hid (by unfold Dv.cross; rw [if_neg (by rw [H0.out]; simp), if_pos (by rw [H2.out]; rfl)])
    go_wp2_with fail
    go_ret2
    rw [HE.out]
    exact Res.none_ b0
  go_wp2_with fail
  refine (HCP.out w0).mono ?_
  rintro e wx ⟨rfl, rfl⟩
  cases t3
  case false =>
    have HE : Hid (Dv.cross (l.map kv) u m p = ([], 2)) := Lib.hid (by unfold Dv.cross; rw [if_neg (by rw [H0.out]; simp), if_pos (by rw [H2.out, H3.out]; rfl)])
    go_wp2_with fail
    go_ret2
    rw [HE.out]
    exact Res.none_ b0
  obtain ⟨K, s, hgv, hG⟩ := gotten (hr.on b0) hV u
  have CG := Lib.hid (get_any A n c l u w0 (hr.on b0) (by omega))
  rw [hgv] at CG
  have HG := Lib.hid hG
  clear hV hgv HCU HCK HCP
  go_wp2_with fail
  refine CG.out.mono ?_
  rintro e w1 ⟨rfl, cc1⟩
  have bb1 := below_then b0 cc1
  have HGd := Lib.hid (HG.out.devs.on cc1)
  clear cc1 b0
  go_upto_region 6 with fail
  obtain ⟨wa, hwa⟩ : ∃ W : World, W = w1.alloc (.cells #[.string K.user, .int .i64 K.master, .int .i64 K.pos, .slice K.devices.A K.devices.n K.devices.c] 59) := ⟨_, rfl⟩
  have ba : Below w.heap.size w wa := by rw [hwa]; exact below_alloc bb1 _
  have bo : OBox wa w1.heap.size (kyC K) := by rw [hwa]; exact OBox.new w1 (kyC K) _
  rw [← hwa]
  obtain ⟨q, hq⟩ : ∃ q, w1.heap.size = q := ⟨_, rfl⟩
  have hwq : w.heap.size ≤ q := by rw [← hq]; exact bb1.size
  have hda := HGd.out.on (below_alloc (Below.refl w1.heap.size w1) (.cells #[.string K.user, .int .i64 K.master, .int .i64 K.pos, .slice K.devices.A K.devices.n K.devices.c] 59))
  rw [← hwa] at hda
  rw [hq] at bo ⊢
  clear hq hwa bb1 hG HGd
  have HS : Hid ((Dv.get (l.map kv) u).isSome = s) := Lib.hid HG.out.some_
  have HF : Hid ((!s && decide (200 ≤ n)) = true → Dv.cross (l.map kv) u m p = ([], 29)) := Lib.hid fun h => by
    unfold Dv.cross
    rw [if_neg (by rw [H0.out]; simp), if_neg (by rw [H2.out, H3.out]; simp), if_pos]
    rw [HS.out, List.length_map, HN.out]; exact h
  have HA : Hid ((!s && decide (200 ≤ n)) = false → Dv.cross (l.map kv) u m p = (Dv.put Dv.uk (l.map kv) ⟨u, m, p, K.devices.l.map Dv.off⟩, 0)) := Lib.hid fun h => by
    unfold Dv.cross
    rw [if_neg (by rw [H0.out]; simp), if_neg (by rw [H2.out, H3.out]; simp), if_neg, ← HG.out.kv_]
    · rfl
    · rw [HS.out, List.length_map, HN.out, h]; simp
  have hcase : (s = false ∧ (200 : Int) ≤ n) ∨ (s = true) ∨ (s = false ∧ ¬ (200 : Int) ≤ n) := by
    cases s
    · by_cases h : (200 : Int) ≤ n
      · exact .inl ⟨rfl, h⟩
      · exact .inr (.inr ⟨rfl, h⟩)
    · exact .inr (.inl rfl)
  rcases hcase with ⟨rfl, h2⟩ | hcase
  · have HE := Lib.hid (HF.out (by simp; omega))
    go_wp2_with fail
    go_ret2
    rw [HE.out]
    exact Res.none_ ba
  have HE := Lib.hid (HA.out (by rcases hcase with rfl | ⟨rfl, h⟩ <;> simp <;> omega))
  have k0 : wa.cell? ⟨q, 0, none⟩ = some (.string K.user) := bo.cell rfl
  have k1 : wa.cell? ⟨q, 1, none⟩ = some (.int .i64 K.master) := bo.cell rfl
  have k2 : wa.cell? ⟨q, 2, none⟩ = some (.int .i64 K.pos) := bo.cell rfl
  have k3 : wa.cell? ⟨q, 3, none⟩ = some (.slice K.devices.A K.devices.n K.devices.c) := bo.cell rfl
  have hqa : q < wa.heap.size := bo.lt
  have hwa := ba.size
  have hfew := HG.out.few
  have hok := dv_ok HG.out.devs
  have HOK : Hid (DvOk (K.devices.l.map Dv.off)) := Lib.hid (fun z hz => by
    obtain ⟨y, hy, rfl⟩ := List.mem_map.1 hz
    exact hok y hy)
  obtain ⟨N, hN⟩ : ∃ N, K.devices.l.length = N := ⟨_, rfl⟩
  have hNn : N ≤ 10 := by rw [← hN, HG.out.len]; exact hfew
  clear HF HA HS
  rcases hcase with rfl | ⟨rfl, h2⟩
  all_goals
    go_wp2_with fail
    refine (clone_any _ _ _ K.devices.l wa hda (by omega)).mono ?_
    rintro e w2 ⟨v2, rfl, bb2, own2⟩
    have bo2 := bo.on bb2
    have b2 := below_then ba bb2
    obtain ⟨A3, c3, rfl, _, hc3, hm3⟩ := own2.form hok
    unfold OwnDvs at own2
    rw [hN] at own2 hc3 ⊢
    have HNN := Lib.hid hN
    clear hN k0 k1 k2 k3 bo ba bb2 hda hok CG
    have f0 := bo2.free 0
    have f1 := bo2.free 1
    have f2 := bo2.free 2
    have f3 := bo2.free 3
    have k0 : w2.cell? ⟨q, 0, none⟩ = some (.string K.user) := bo2.cell rfl
    have k1 : w2.cell? ⟨q, 1, none⟩ = some (.int .i64 K.master) := bo2.cell rfl
    have k2 : w2.cell? ⟨q, 2, none⟩ = some (.int .i64 K.pos) := bo2.cell rfl
    have k3 : w2.cell? ⟨q, 3, none⟩ = some (.slice K.devices.A K.devices.n K.devices.c) := bo2.cell rfl
    have hne : ∀ W : World, W.ownsRow wa.heap.size 47 3 (.slice A3 N c3) N (Rd.dvc.rows K.devices.l) → ∀ v j, (W.setCell ⟨q, j, none⟩ v).ownsRow wa.heap.size 47 3 (.slice A3 N c3) N (Rd.dvc.rows K.devices.l) := fun W hW v j =>
      World.ownsRow.kept hW (grown_setCell W q j v) (.inr (by intro e; have := (World.ownsRow.lt hW q e).1; omega))
    have own3 := hne _ (hne _ (hne _ (hne _ own2 (.string u) 0) (.int .i64 m) 1) (.int .i64 p) 2) (.slice A3 N c3) 3
    have bo3 := (((bo2.set 0 (.string u)).set 1 (.int .i64 m)).set 2 (.int .i64 p)).set 3 (.slice A3 N c3)
    have b3 := (((b2.setCell (p := ⟨q, 0, none⟩) hwq (.string u)).setCell (p := ⟨q, 1, none⟩) hwq (.int .i64 m)).setCell (p := ⟨q, 2, none⟩) hwq (.int .i64 p)).setCell (p := ⟨q, 3, none⟩) hwq (.slice A3 N c3)
    obtain ⟨w3, hw3⟩ : ∃ W : World, (((w2.setCell ⟨q, 0, none⟩ (.string u)).setCell ⟨q, 1, none⟩ (.int .i64 m)).setCell ⟨q, 2, none⟩ (.int .i64 p)).setCell ⟨q, 3, none⟩ (.slice A3 N c3) = W := ⟨_, rfl⟩
    rw [hw3] at own3 bo3 b3
    change OBox w3 q [.string u, .int .i64 m, .int .i64 p, .slice A3 N c3] at bo3
    clear own2 bo2 b2 hne
    go_upto_region 9 with fail
    try rw [hw3]
    have y3 : w3.cell? ⟨q, 3, none⟩ = some (.slice A3 N c3) := bo3.cell rfl
    clear hw3 f0 f1 f2 f3 k0 k1 k2 k3
    go_wp2_with fail
    go_loopw [50] (fun i wr => ∃ k : Nat, k ≤ N ∧ i = .int .i64 k ∧ Below w.heap.size w wr ∧ OBox wr q [.string u, .int .i64 m, .int .i64 p, .slice A3 N c3] ∧ wr.ownsRow wa.heap.size 47 3 (.slice A3 N c3) N (Rd.dvc.rows (offs k K.devices.l))) (fun i _ => N - (intOf i).toNat)
    case atStart => exact ⟨0, by omega, rfl, b3, bo3, own3⟩
    case round =>
      obtain ⟨k, hk, rfl, hbw, hbo, hown⟩ := hrel
      clear y3 own3 bo3 b3
      by_cases hkn : k < N
      · obtain ⟨g, cap, hv, hg1, hg2⟩ := World.ownsRow.form hown (by omega)
        injection hv with hv1 hv2 hv3
        subst hv1 hv3
        obtain ⟨d, hd⟩ : ∃ d, K.devices.l[k]? = some d := ⟨_, List.getElem?_eq_getElem (by rw [HNN.out]; exact hkn)⟩
        obtain ⟨z0, z1⟩ := own_at hown (offs_at hd) hkn
        obtain ⟨own', hg'⟩ := own_sig hown (offs_at hd) false
        rw [offs_set hd] at own'
        have hbo' := hbo.kept hg' (by intro e; injection e with e; omega)
        have hbw' := hbw.setCell (p := ⟨g, k * 3 + 2, none⟩) (show w.heap.size ≤ g by omega) (.bool false)
        have y3 : wr.cell? ⟨q, 3, none⟩ = some (.slice (some ⟨g, 0, none⟩) N c3) := hbo.cell rfl
        obtain ⟨wn, hwn⟩ : ∃ W : World, wr.setCell ⟨g, k * 3 + 2, none⟩ (.bool false) = W := ⟨_, rfl⟩
        have HWN := Lib.hid hwn
        rw [hwn] at own' hbo' hbw'
        clear hwn hd hg' hown hbo hbw
        go_wp2_with fail
        try rw [HWN.out]
        exact ⟨⟨k + 1, by omega, by go_num, hbw', hbo', own'⟩, by simp [intOf]; omega⟩
      · rw [offs_all (by rw [HNN.out]; omega)] at hown
        have hfin : OwnDvs wr wa.heap.size (.slice A3 N c3) (K.devices.l.map Dv.off) := by unfold OwnDvs; rw [List.length_map, HNN.out]; exact hown
        obtain ⟨A7, c7, hv7, h7, _⟩ := hfin.form HOK.out
        rw [List.length_map, HNN.out] at hv7 h7
        injection hv7 with hv1 hv2 hv3
        subst hv1 hv3
        have HB7 := Lib.hid hbw
        have HC := Lib.hid (putRes_any A n c l ⟨u, m, p, ⟨A3, N, c3, K.devices.l.map Dv.off⟩⟩ wr (hr.on hbw) (by omega) hc hcm (inc_kv.1 HV.out.inc) ⟨hus, hm, hp, ⟨h7, hc3, hm3⟩, trivial⟩)
        have k0 : wr.cell? ⟨q, 0, none⟩ = some (.string u) := hbo.cell rfl
        have k1 : wr.cell? ⟨q, 1, none⟩ = some (.int .i64 m) := hbo.cell rfl
        have k2 : wr.cell? ⟨q, 2, none⟩ = some (.int .i64 p) := hbo.cell rfl
        have k3 : wr.cell? ⟨q, 3, none⟩ = some (.slice A3 N c3) := hbo.cell rfl
        clear hown hfin h7 hbo hbw
        go_wp2_with fail
        refine HC.out.mono ?_
        rintro e w8 ⟨O, co, xs, rfl, bb8, hx8, hl8, hm8, hkv⟩
        have b8 := below_then HB7.out bb8
        have HK := Lib.hid hkv
        clear hkv k0 k1 k2 k3
        go_wp2_with fail
        go_ret2
        rw [HE.out]
        exact ⟨O, co, xs, rfl, b8, hx8, hl8, hm8, HK.out⟩
end Go.Proofs.Ytbhkgdfmjkblcaa
