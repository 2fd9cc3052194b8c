/-
  The walks through the reference's Same, Add, Cross and Sign. Printed by gen_devs.py.
-/
import Derived.Test.YtbhkgdfmjkblcaaDevA
import Derived.Test.YtbhkgdfmjkblcaaDevE
namespace Go.Proofs.Ytbhkgdfmjkblcaa
open Go.RowKit
attribute [local go_sem ↓] ex_st_ky ex_st_dv
attribute [local go_sem] st_ky_new st_ky st_dv_new st_dv

theorem rget_got {w : World} {A : Option Addr} {n : Nat} (c : Nat) {l : List Kys} (u : ByteArray) (hr : Rd.kys.Holds w A n l) (hn : n ≤ 1000000) : Calls Try.prog 47 #[.slice A n c, .string u] w (Ret w (getV (Dv.find ku l (bs u)))) := rget_any A n c l u w hr hn
theorem idx_neg (l : List Dvc) (s : ByteArray) : decide (Dv.idx l (bs s) < 0) = !Dv.has l s := by
  unfold Dv.idx Dv.has Dv.find
  cases hf : l.findIdx? fun d => decide (Dv.dk d = bs s) with
  | none =>
    rw [List.findIdx?_eq_none_iff] at hf
    have : l.find? (fun y => decide (Dv.dk y = bs s)) = none := by
      rw [List.find?_eq_none]
      intro x hx
      rw [hf x hx]; simp
    rw [this]; rfl
  | some i =>
    obtain ⟨hi, h1, _⟩ := List.findIdx?_eq_some_iff_getElem.1 hf
    have : (l.find? (fun y => decide (Dv.dk y = bs s))).isSome = true := by
      rw [List.find?_isSome]
      exact ⟨_, List.getElem_mem hi, h1⟩
    rw [this]
    simp
theorem idx_some {l : List Dvc} {s : ByteArray} (h : ¬ Dv.idx l (bs s) < 0) : ∃ (i : Nat) (d : Dvc), Dv.idx l (bs s) = (i : Nat) ∧ l[i]? = some d ∧ Dv.dk d = bs s := by
  unfold Dv.idx at *
  cases hf : l.findIdx? fun d => decide (Dv.dk d = bs s) with
  | none => rw [hf] at h; exact absurd (by decide) h
  | some i =>
    obtain ⟨hi, h1, _⟩ := List.findIdx?_eq_some_iff_getElem.1 hf
    exact ⟨i, l[i], rfl, List.getElem?_eq_getElem hi, of_decide_eq_true h1⟩
theorem set_on {l : List Dvc} (hi : Dv.Inc Dv.dk l) {i : Nat} {d : Dvc} {id : ByteArray} (hd : l[i]? = some d) (hk : Dv.dk d = bs id) : l.set i ⟨d.id, d.key, true⟩ = l.map (Dv.on_ id) := by
  obtain ⟨h0, rfl⟩ := List.getElem?_eq_some_iff.1 hd
  apply List.ext_getElem (by simp)
  intro j h1 h2
  rw [List.getElem_set, List.getElem_map]
  have hj : j < l.length := by simpa using h2
  split
  · rename_i e
    subst e
    unfold Dv.on_; rw [if_pos hk]
  · rename_i e
    unfold Dv.on_
    rw [if_neg]
    intro e2
    refine e ?_
    rcases Nat.lt_trichotomy i j with h3 | h3 | h3
    · have := hi.at (List.getElem?_eq_getElem h0) (List.getElem?_eq_getElem hj) h3
      rw [hk, e2] at this; exact absurd this (Nm.lt_irrefl _)
    · exact h3
    · have := hi.at (List.getElem?_eq_getElem hj) (List.getElem?_eq_getElem h0) h3
      rw [hk, e2] at this; exact absurd this (Nm.lt_irrefl _)

set_option maxRecDepth 100000 in
set_option maxHeartbeats 4000000 in
theorem rsame43_any (A B : Option Addr) (n c d : Nat) (a l : List Kys) (w : World) (ha : Rd.kys.Holds w A n a) (hb : Rd.kys.Holds w B n l) (hn : n ≤ maxLen) (he : a.map kv = l.map kv) :
    Calls Try.prog 41 #[.slice A n c, .slice B n d] w (Ret w (.bool true)) := by
  unfold maxLen at hn
  have HE := Lib.hid he
  clear he
  go_enter Try.func41, Try.ntmps41
  go_wp2_with fail
  go_loopw [5] (fun i wr => ∃ k : Nat, k ≤ n ∧ i = .int .i64 k ∧ Below w.heap.size w wr) (fun i _ => n - (intOf i).toNat)
  case atStart => exact ⟨0, by omega, rfl, Below.refl _ _⟩
  case round =>
    obtain ⟨k, hk, rfl, hbw⟩ := hrel
    by_cases hlt : k < n
    · obtain ⟨b1, o1, ⟨xu, xm, xp, ⟨xA, xn, xc, xl⟩⟩, rfl, hl1, hu, _, hok1, hxa⟩ := (ha.on hbw).mid (by decide) hlt
      obtain ⟨b2, o2, ⟨yu, ym, yp, ⟨yA, yn, yc, yl⟩⟩, rfl, hl2, hv, _, hok2, hya⟩ := (hb.on hbw).mid (by decide) hlt
      have hk1 := Dv.map_at hu
      rw [HE.out, Dv.map_at hv] at hk1
      injection hk1 with hk1
      injection hk1 with h1 h2 h3 h4
      subst h1 h2 h3
      have h4' : yl = xl := h4
      subst h4'
      have hd1 : Rd.dvc.Holds wr xA xn yl := hok1.2.2.2.1.1
      have hd2 : Rd.dvc.Holds wr yA yn yl := hok2.2.2.2.1.1
      obtain rfl : xn = yn := by rw [← hd1.length, ← hd2.length]
      have hxn : xn ≤ maxLen := Nat.le_trans hok1.2.2.2.1.2.1 hok1.2.2.2.1.2.2
      have BX : Hid (∀ V, Below wr.heap.size wr V → Below wr.heap.size wr V ∧ V.cell? ⟨b1, o1 + k * 4, none⟩ = some (.string yu) ∧ V.cell? ⟨b1, o1 + k * 4 + 1, none⟩ = some (.int .i64 ym) ∧ V.cell? ⟨b1, o1 + k * 4 + 2, none⟩ = some (.int .i64 yp) ∧ V.cell? ⟨b1, o1 + k * 4 + 3, none⟩ = some (.slice xA xn xc) ∧ V.cell? ⟨b2, o2 + k * 4, none⟩ = some (.string yu) ∧ V.cell? ⟨b2, o2 + k * 4 + 1, none⟩ = some (.int .i64 ym) ∧ V.cell? ⟨b2, o2 + k * 4 + 2, none⟩ = some (.int .i64 yp) ∧ V.cell? ⟨b2, o2 + k * 4 + 3, none⟩ = some (.slice yA xn yc)) :=
        Lib.hid fun V h => ⟨h, (range_on hxa h hl1) 0 _ rfl, (range_on hxa h hl1) 1 _ rfl, (range_on hxa h hl1) 2 _ rfl, (range_on hxa h hl1) 3 _ rfl, (range_on hya h hl2) 0 _ rfl, (range_on hya h hl2) 1 _ rfl, (range_on hya h hl2) 2 _ rfl, (range_on hya h hl2) 3 _ rfl⟩
      have CD : Hid (∀ V, Below wr.heap.size wr V → Calls Try.prog 48 #[.agg #[.string yu, .int .i64 ym, .int .i64 yp, .slice xA xn xc], .agg #[.string yu, .int .i64 ym, .int .i64 yp, .slice yA xn yc]] V (Ret V (.bool true))) :=
        Lib.hid fun V h => sameKeys_any yu ym yp xA yA xn xc yc yl V (hd1.on h) (hd2.on h) hxn
      have hk0 : (k : Int) < n := by omega
      clear hu hv hxa hya hok1 hok2 hd1 hd2 h4
      go_upto_region 6 with fail
      go_cut [26] (fun s V => s = .bool false ∧ Below wr.heap.size wr V)
      case rest =>
        obtain ⟨rfl, hbv⟩ := hcut
        have hb3 := below_then hbw hbv
        clear BX CD hbv
        go_wp2_with fail
        exact ⟨⟨k + 1, by omega, by go_num, hb3⟩, by simp [intOf]; omega⟩
      go_region_held3 (fun V => Below wr.heap.size wr V ∧ V.cell? ⟨b1, o1 + k * 4, none⟩ = some (.string yu) ∧ V.cell? ⟨b1, o1 + k * 4 + 1, none⟩ = some (.int .i64 ym) ∧ V.cell? ⟨b1, o1 + k * 4 + 2, none⟩ = some (.int .i64 yp) ∧ V.cell? ⟨b1, o1 + k * 4 + 3, none⟩ = some (.slice xA xn xc) ∧ V.cell? ⟨b2, o2 + k * 4, none⟩ = some (.string yu) ∧ V.cell? ⟨b2, o2 + k * 4 + 1, none⟩ = some (.int .i64 ym) ∧ V.cell? ⟨b2, o2 + k * 4 + 2, none⟩ = some (.int .i64 yp) ∧ V.cell? ⟨b2, o2 + k * 4 + 3, none⟩ = some (.slice yA xn yc))
        (first | exact BX.out _ (by assumption) | exact BX.out _ (Below.refl _ _) | exact BX.out _ (Below.drew (Below.refl _ _)) | exact BX.out _ (Below.drew (by assumption)))
        (first | (go_at_call 48; have hB := And.left ‹Below wr.heap.size wr _ ∧ _›; refine (CD.out _ hB).mono ?_; rintro e wz ⟨rfl, bz⟩; have bz2 : Below wr.heap.size wr wz := below_then hB bz; clear bz hB))
      all_goals
        have hB9 := And.left ‹Below wr.heap.size wr _ ∧ _›
        clear BX
        go_wp2_with fail
      all_goals go_meet
      all_goals exact ⟨rfl, hB9⟩
    · go_wp2_with fail
      go_ret
      exact ⟨rfl, hbw⟩

set_option maxRecDepth 100000 in
set_option maxHeartbeats 16000000 in
theorem radd_any (A : Option Addr) (n c : Nat) (l : List Kys) (u : ByteArray) (d : Dvc) (p : Int) (w : World) (hr : Rd.kys.Holds w A n l) (hV : Dv.Valid (l.map kv)) (hn : n ≤ 1000) (hc : n ≤ c) (hcm : c ≤ maxLen) (hus : u.size ≤ maxLen) (hds : d.id.size ≤ maxLen) (hdk : -9223372036854775808 ≤ d.key ∧ d.key ≤ 9223372036854775807) (hp : -9223372036854775808 ≤ p ∧ p ≤ 9223372036854775807) :
    Calls Try.prog 38 #[.slice A n c, .string u, devA d, .int .i64 p] w (Res w (Dv.add (l.map kv) u d p)) := by
  show Calls _ _ #[.slice A n c, .string u, .agg #[.string d.id, .int .i64 d.key, .bool d.signed], .int .i64 p] w _
  have HV := Lib.hid hV
  have HN := Lib.hid hr.length
  obtain ⟨t0, ht0⟩ : ∃ b, I.userB (bs u) = b := ⟨_, rfl⟩
  obtain ⟨t1, ht1⟩ : ∃ b, Dv.devB d.id = b := ⟨_, rfl⟩
  obtain ⟨t2, ht2⟩ : ∃ b, Dv.inR d.key 1 = b := ⟨_, rfl⟩
  obtain ⟨t3, ht3⟩ : ∃ b, Dv.inR p 0 = b := ⟨_, rfl⟩
  have CU := fun w => ruser_any u w hus
  have CD := fun w => rdev_any d.id w hds
  have CK := fun w => within_any d.key 1 w
  have CP := fun w => within_any p 0 w
  rw [ht0] at CU; rw [ht1] at CD; rw [ht2] at CK; rw [ht3] at CP
  have HCU := Lib.hid CU; have HCD := Lib.hid CD; have HCK := Lib.hid CK; have HCP := Lib.hid CP
  have H0 := Lib.hid ht0; have H1 := Lib.hid ht1; have H2 := Lib.hid ht2; have H3 := Lib.hid ht3
  clear ht0 ht1 ht2 ht3 CU CD CK CP
  go_enter Try.func38, Try.ntmps38
  go_upto_region 1 with fail
  obtain ⟨wp, hwp⟩ : ∃ W : World, W = w.alloc (.cells #[.string d.id, .int .i64 d.key, .bool d.signed] 47) := ⟨_, rfl⟩
  have b0 : Below w.heap.size w wp := by rw [hwp]; exact below_alloc (Below.refl _ _) _
  have bd : OBox wp w.heap.size [.string d.id, .int .i64 d.key, .bool d.signed] := by rw [hwp]; exact OBox.new w [.string d.id, .int .i64 d.key, .bool d.signed] _
  rw [← hwp]
  obtain ⟨g, hg⟩ : ∃ g, w.heap.size = g := ⟨_, rfl⟩
  have HGG := Lib.hid hg
  have hwg : w.heap.size ≤ g := by omega
  rw [hg] at bd ⊢
  clear hg hwp
  have d0 : wp.cell? ⟨g, 0, none⟩ = some (.string d.id) := bd.cell rfl
  have d1 : wp.cell? ⟨g, 1, none⟩ = some (.int .i64 d.key) := bd.cell rfl
  go_wp2_with fail
  refine (HCU.out wp).mono ?_
  rintro e wx ⟨rfl, rfl⟩
  cases t0
  case false =>
    simp only [I.errOf]
    have HE : Hid (Dv.add (l.map kv) u d p = ([], 3)) := Lib.hid (by unfold Dv.add; rw [if_pos (by rw [H0.out]; rfl)])
    go_wp2_with fail
    go_ret2
    rw [HE.out]
    exact Res.none_ b0
  simp only [I.errOf]
  go_wp2_with fail
  refine (HCD.out wp).mono ?_
  rintro e wx ⟨rfl, rfl⟩
  cases t1
  case false =>
    have HE : Hid (Dv.add (l.map kv) u d p = ([], 3)) := Lib.hid (by unfold Dv.add; rw [if_pos (by rw [H0.out, H1.out]; rfl)])
    go_wp2_with fail
    go_ret2
    rw [HE.out]
    exact Res.none_ b0
  go_wp2_with fail
  refine (HCK.out wp).mono ?_
  rintro e wx ⟨rfl, rfl⟩
  cases t2
  case false =>
    have HE : Hid (Dv.add (l.map kv) u d p = ([], 2)) := Lib.hid (by unfold Dv.add; rw [if_neg (by rw [H0.out, H1.out]; simp), if_pos (by rw [H2.out]; rfl)])
    go_wp2_with fail
    go_ret2
    rw [HE.out]
    exact Res.none_ b0
  go_wp2_with fail
  refine (HCP.out wp).mono ?_
  rintro e wx ⟨rfl, rfl⟩
  cases t3
  case false =>
    have HE : Hid (Dv.add (l.map kv) u d p = ([], 2)) := Lib.hid (by unfold Dv.add; rw [if_neg (by rw [H0.out, H1.out]; simp), if_pos (by rw [H2.out, H3.out]; rfl)])
    go_wp2_with fail
    go_ret2
    rw [HE.out]
    exact Res.none_ b0
  clear HCU HCD HCK HCP d0 d1
  obtain ⟨K, s, hgv, hG⟩ := gotten hr hV u
  have CG := Lib.hid (rget_got (w := wp) c u (hr.on b0) (by omega))
  rw [hgv] at CG
  have HG := Lib.hid hG
  clear hV hgv
  go_wp2_with fail
  refine CG.out.mono ?_
  rintro e w1 ⟨rfl, cc1⟩
  have bb1 := below_then b0 cc1
  have bd1 := bd.on cc1
  have hbg : g < w1.heap.size := bd1.lt
  clear cc1 bd b0
  go_upto_region 6 with fail
  obtain ⟨wa, hwa⟩ : ∃ W : World, W = w1.alloc (.cells #[.string K.user, .int .i64 K.master, .int .i64 K.pos, .slice K.devices.A K.devices.n K.devices.c] 59) := ⟨_, rfl⟩
  have ba : Below w.heap.size w wa := by rw [hwa]; exact below_alloc bb1 _
  have bo : OBox wa w1.heap.size (kyC K) := by rw [hwa]; exact OBox.new w1 (kyC K) _
  rw [← hwa]
  obtain ⟨q, hq⟩ : ∃ q, w1.heap.size = q := ⟨_, rfl⟩
  have hwq : w.heap.size ≤ q := by rw [← hq]; exact bb1.size
  have hda := HG.out.devs.on ba
  have bda := bd1.on (below_alloc (Below.refl w1.heap.size w1) (.cells #[.string K.user, .int .i64 K.master, .int .i64 K.pos, .slice K.devices.A K.devices.n K.devices.c] 59))
  rw [← hwa] at bda
  rw [hq] at bo hbg ⊢
  clear hq hwa bb1 hG CG bd1
  have k0 : wa.cell? ⟨q, 0, none⟩ = some (.string K.user) := bo.cell rfl
  have k1 : wa.cell? ⟨q, 1, none⟩ = some (.int .i64 K.master) := bo.cell rfl
  have k2 : wa.cell? ⟨q, 2, none⟩ = some (.int .i64 K.pos) := bo.cell rfl
  have k3 : wa.cell? ⟨q, 3, none⟩ = some (.slice K.devices.A K.devices.n K.devices.c) := bo.cell rfl
  have d0 : wa.cell? ⟨g, 0, none⟩ = some (.string d.id) := bda.cell rfl
  have d1 : wa.cell? ⟨g, 1, none⟩ = some (.int .i64 d.key) := bda.cell rfl
  have d2 : wa.cell? ⟨g, 2, none⟩ = some (.bool d.signed) := bda.cell rfl
  obtain ⟨hs, hhs⟩ : ∃ hs, Dv.has K.devices.l d.id = hs := ⟨_, rfl⟩
  obtain ⟨ix, hix⟩ : ∃ ix, Dv.idx K.devices.l (bs d.id) = ix := ⟨_, rfl⟩
  have hneg := idx_neg K.devices.l d.id
  rw [hix, hhs] at hneg
  have CP := rplace43_any K.devices.A K.devices.n K.devices.c K.devices.l d.id wa hda (by have := HG.out.few; unfold maxLen; omega)
  rw [hix] at CP
  have HCP := Lib.hid CP
  have HNEG := Lib.hid hneg
  have HH : Hid (Dv.has (Dv.getK (l.map kv) u).devs d.id = hs) := Lib.hid (by rw [← HG.out.kv_]; exact hhs)
  obtain ⟨S, hS⟩ : ∃ S, Dv.put Dv.dk K.devices.l (Dv.off d) = S := ⟨_, rfl⟩
  have hfew := HG.out.few
  have hlen := HG.out.len
  have HL : Hid ((Dv.getK (l.map kv) u).devs.length = K.devices.n) := Lib.hid (by rw [← HG.out.kv_]; exact hlen)
  have HF : Hid (((!s && decide (200 ≤ n)) || (!hs && decide (10 ≤ K.devices.n))) = true → Dv.add (l.map kv) u d p = ([], 29)) := Lib.hid fun h => by
    unfold Dv.add
    rw [if_neg (by rw [H0.out, H1.out]; simp), if_neg (by rw [H2.out, H3.out]; simp), if_pos]
    rw [HG.out.some_, HH.out, List.length_map, HN.out, HL.out]; exact h
  have HA : Hid (((!s && decide (200 ≤ n)) || (!hs && decide (10 ≤ K.devices.n))) = false → Dv.add (l.map kv) u d p = (Dv.put Dv.uk (l.map kv) ⟨u, K.master, p, S⟩, 0)) := Lib.hid fun h => by
    unfold Dv.add
    rw [if_neg (by rw [H0.out, H1.out]; simp), if_neg (by rw [H2.out, H3.out]; simp), if_neg, ← HG.out.kv_, ← hS]
    · rfl
    · rw [HG.out.some_, HH.out, List.length_map, HN.out, HL.out, h]; simp
  have hSo : DvOk S := by
    rw [← hS]
    intro z hz
    rcases (Dv.mem_put HG.out.inc).1 hz with rfl | ⟨hz, _⟩
    · exact ⟨hds, hdk⟩
    · exact dv_ok HG.out.devs z hz
  have df := bda.free 2
  have bdx := bda.set 2 (.bool false)
  have hgx := grown_setCell wa g 2 (.bool false)
  have box := bo.kept hgx (by intro e; injection e with e; omega)
  have bx := ba.setCell (p := ⟨g, 2, none⟩) hwg (.bool false)
  obtain ⟨wx, hwx⟩ : ∃ wx : World, wa.setCell ⟨g, 2, none⟩ (.bool false) = wx := ⟨_, rfl⟩
  rw [hwx] at bdx box bx hgx
  have hdx : Rd.dvc.Holds wx K.devices.A K.devices.n K.devices.l := HG.out.devs.on bx
  have CPUT := rdput_any K.devices.A K.devices.n K.devices.c K.devices.l ⟨d.id, d.key, false⟩ wx hdx (by omega) HG.out.ok.2.2.2.1.2.1 HG.out.ok.2.2.2.1.2.2
  rw [show Dv.put Dv.dk K.devices.l ⟨d.id, d.key, false⟩ = S from hS] at CPUT
  have HPUT := Lib.hid CPUT
  have hqx : q < wx.heap.size := box.lt
  have HR := Lib.hid ba
  have HS := Lib.hid hS
  have c3 : (K.devices.n : Int) ≤ 10 := by omega
  clear hhs hix hneg CP hS hlen bda bo ba hgx hda hdx CPUT
  have hcase : (s = false ∧ (200 : Int) ≤ n) ∨ s = true ∨ (s = false ∧ ¬ (200 : Int) ≤ n) := by
    cases s
    · by_cases h : (200 : Int) ≤ n
      · exact .inl ⟨rfl, h⟩
      · exact .inr (.inr ⟨rfl, h⟩)
    · exact .inr (.inl rfl)
  rcases hcase with ⟨rfl, h2⟩ | hcase
  · have HE : Hid (Dv.add (l.map kv) u d p = ([], 29)) := Lib.hid (HF.out (by simp; omega))
    go_wp2_with fail
    go_ret2
    rw [HE.out]
    exact Res.none_ HR.out
  have HNS : Hid ((!s && decide (200 ≤ n)) = false) := Lib.hid (by rcases hcase with rfl | ⟨rfl, h⟩ <;> simp <;> omega)
  rcases hcase with rfl | ⟨rfl, h2⟩
  all_goals
    go_wp2_with fail
    refine HCP.out.mono ?_
    rintro e wy ⟨rfl, rfl⟩
    by_cases hbad : ix < 0 ∧ (10 : Int) ≤ K.devices.n
    · obtain ⟨h3, h4⟩ := hbad
      have HE : Hid (Dv.add (l.map kv) u d p = ([], 29)) := Lib.hid (HF.out (by
        have := HNEG.out
        rw [decide_eq_true h3] at this
        rw [← this, decide_eq_true (show 10 ≤ K.devices.n by omega)]; simp))
      go_wp2_with fail
      go_ret2
      rw [HE.out]
      exact Res.none_ HR.out
    have HE : Hid (Dv.add (l.map kv) u d p = (Dv.put Dv.uk (l.map kv) ⟨u, K.master, p, S⟩, 0)) := Lib.hid (HA.out (by
      rw [HNS.out, ← HNEG.out, Bool.false_or]
      by_cases h3 : ix < 0
      · rw [decide_eq_true h3, decide_eq_false (by omega)]; rfl
      · rw [decide_eq_false h3]; rfl))
    have hor : ¬ ix < 0 ∨ (ix < 0 ∧ ¬ (10 : Int) ≤ K.devices.n) := by omega
    clear hbad HF HA
    rcases hor with h3 | ⟨h3, h4⟩
    all_goals
      go_upto_region 8 with fail
      clear k0 k1 k2 k3
      go_upto_region 9 with fail
      try rw [hwx]
      have e0 : wx.cell? ⟨g, 0, none⟩ = some (.string d.id) := bdx.cell rfl
      have e1 : wx.cell? ⟨g, 1, none⟩ = some (.int .i64 d.key) := bdx.cell rfl
      have e2 : wx.cell? ⟨g, 2, none⟩ = some (.bool false) := bdx.cell rfl
      have k3 : wx.cell? ⟨q, 3, none⟩ = some (.slice K.devices.A K.devices.n K.devices.c) := box.cell rfl
      clear hwx bdx df d0 d1 d2
      go_wp2_with fail
      refine HPUT.out.mono ?_
      rintro e w5 ⟨v5, rfl, bb5, own5⟩
      have b5 := below_then bx bb5
      have bo5 := box.on bb5
      obtain ⟨A5, c5, rfl, h5, hc5, hm5⟩ := own5.form hSo
      clear e0 e1 e2 k3 bx box bb5 c3
      have f0 := bo5.free 0
      have k0 : w5.cell? ⟨q, 0, none⟩ = some (.string K.user) := bo5.cell rfl
      have f2 := bo5.free 2
      have k2 : w5.cell? ⟨q, 2, none⟩ = some (.int .i64 K.pos) := bo5.cell rfl
      have f3 := bo5.free 3
      have k3 : w5.cell? ⟨q, 3, none⟩ = some (.slice K.devices.A K.devices.n K.devices.c) := bo5.cell rfl
      have own51 : OwnDvs _ _ _ S := World.ownsRow.kept own5 (grown_setCell _ q 0 (.string u)) (.inr (by intro e; have := (World.ownsRow.lt own5 q e).1; omega))
      have own52 : OwnDvs _ _ _ S := World.ownsRow.kept own51 (grown_setCell _ q 2 (.int .i64 p)) (.inr (by intro e; have := (World.ownsRow.lt own51 q e).1; omega))
      have own53 : OwnDvs _ _ _ S := World.ownsRow.kept own52 (grown_setCell _ q 3 (.slice A5 S.length c5)) (.inr (by intro e; have := (World.ownsRow.lt own52 q e).1; omega))
      have bo7 := (((bo5.set 0 (.string u)).set 2 (.int .i64 p)).set 3 (.slice A5 S.length c5))
      have b7 := (((b5.setCell (p := ⟨q, 0, none⟩) hwq (.string u)).setCell (p := ⟨q, 2, none⟩) hwq (.int .i64 p)).setCell (p := ⟨q, 3, none⟩) hwq (.slice A5 S.length c5))
      obtain ⟨w7, hw7⟩ : ∃ w7 : World, ((w5.setCell ⟨q, 0, none⟩ (.string u)).setCell ⟨q, 2, none⟩ (.int .i64 p)).setCell ⟨q, 3, none⟩ (.slice A5 S.length c5) = w7 := ⟨_, rfl⟩
      rw [hw7] at own53 bo7 b7
      obtain ⟨A7, c7, hv7, h7, _⟩ := own53.form hSo
      obtain ⟨rfl, rfl⟩ : A5 = A7 ∧ c5 = c7 := by cases hv7; exact ⟨rfl, rfl⟩
      have HB7 := Lib.hid b7
      have HX : Hid (Rd.kys.Ok w7 ⟨u, K.master, p, ⟨A5, S.length, c5, S⟩⟩) := Lib.hid ⟨hus, HG.out.ok.2.1, hp, ⟨h7, hc5, hm5⟩, trivial⟩
      have HC := Lib.hid (withRes_any A n c l ⟨u, K.master, p, ⟨A5, S.length, c5, S⟩⟩ w7 (hr.on b7) (by omega) hc hcm (inc_kv.1 HV.out.inc) HX.out)
      clear own5 own51 own52 own53 h5 h7 hv7 bo5 b5 b7
      go_upto_region 10 with fail
      try rw [hw7]
      have k0 : w7.cell? ⟨q, 0, none⟩ = some (.string u) := bo7.cell rfl
      have k1 : w7.cell? ⟨q, 1, none⟩ = some (.int .i64 K.master) := bo7.cell rfl
      have k2 : w7.cell? ⟨q, 2, none⟩ = some (.int .i64 p) := bo7.cell rfl
      have k3 : w7.cell? ⟨q, 3, none⟩ = some (.slice A5 S.length c5) := bo7.cell rfl
      clear hw7 bo7 f0 f2 f3
      go_wp2_with fail
      refine HC.out.mono ?_
      rintro e w8 ⟨O, co, xs, rfl, bb8, hx8, hl8, hm8, hkv⟩
      have b8 := below_then HB7.out bb8
      have HK := Lib.hid hkv
      clear hkv k0 k1 k2 k3
      go_wp2_with fail
      go_ret2
      rw [HE.out]
      exact ⟨O, co, xs, rfl, b8, hx8, hl8, hm8, HK.out⟩

set_option maxRecDepth 100000 in
set_option maxHeartbeats 16000000 in
theorem rcross_any (A : Option Addr) (n c : Nat) (l : List Kys) (u : ByteArray) (m p : Int) (w : World) (hr : Rd.kys.Holds w A n l) (hV : Dv.Valid (l.map kv)) (hn : n ≤ 1000) (hc : n ≤ c) (hcm : c ≤ maxLen) (hus : u.size ≤ maxLen) (hm : -9223372036854775808 ≤ m ∧ m ≤ 9223372036854775807) (hp : -9223372036854775808 ≤ p ∧ p ≤ 9223372036854775807) :
    Calls Try.prog 43 #[.slice A n c, .string u, .int .i64 m, .int .i64 p] w (Res w (Dv.cross (l.map kv) u m p)) := by
  obtain ⟨i0, hi, hz0, hz1, hz2⟩ := info_parts infoDvc
  have HI := Lib.hid hi; have HZ0 := Lib.hid hz0; have HZ1 := Lib.hid hz1; have HZ2 := Lib.hid hz2
  clear hi hz0 hz1 hz2
  have HV := Lib.hid hV
  have HN := Lib.hid hr.length
  obtain ⟨t0, ht0⟩ : ∃ b, I.userB (bs u) = b := ⟨_, rfl⟩
  obtain ⟨t2, ht2⟩ : ∃ b, Dv.inR m 1 = b := ⟨_, rfl⟩
  obtain ⟨t3, ht3⟩ : ∃ b, Dv.inR p 0 = b := ⟨_, rfl⟩
  have CU := fun w => ruser_any u w hus
  have CK := fun w => within_any m 1 w
  have CP := fun w => within_any p 0 w
  rw [ht0] at CU; rw [ht2] at CK; rw [ht3] at CP
  have HCU := Lib.hid CU; have HCK := Lib.hid CK; have HCP := Lib.hid CP
  have H0 := Lib.hid ht0; have H2 := Lib.hid ht2; have H3 := Lib.hid ht3
  clear ht0 ht2 ht3 CU CK CP
  have b0 := Below.refl w.heap.size w
  go_enter Try.func43, Try.ntmps43
  go_wp2_with fail
  refine (HCU.out w).mono ?_
  rintro e wx ⟨rfl, rfl⟩
  cases t0
  case false =>
    simp only [I.errOf]
    have HE : Hid (Dv.cross (l.map kv) u m p = ([], 3)) := Lib.hid (by unfold Dv.cross; rw [if_pos H0.out])
    go_wp2_with fail
    go_ret2
    rw [HE.out]
    exact Res.none_ b0
  simp only [I.errOf]
  go_wp2_with fail
  refine (HCK.out w).mono ?_
  rintro e wx ⟨rfl, rfl⟩
  cases t2
  case false =>
    have HE : Hid (Dv.cross (l.map kv) u m p = ([], 2)) := Lib.hid (by unfold Dv.cross; rw [if_neg (by rw [H0.out]; simp), if_pos (by rw [H2.out]; rfl)])
    go_wp2_with fail
    go_ret2
    rw [HE.out]
    exact Res.none_ b0
  go_wp2_with fail
  refine (HCP.out w).mono ?_
  rintro e wx ⟨rfl, rfl⟩
  cases t3
  case false =>
    have HE : Hid (Dv.cross (l.map kv) u m p = ([], 2)) := Lib.hid (by unfold Dv.cross; rw [if_neg (by rw [H0.out]; simp), if_pos (by rw [H2.out, H3.out]; rfl)])
    go_wp2_with fail
    go_ret2
    rw [HE.out]
    exact Res.none_ b0
  clear HCU HCK HCP
  obtain ⟨K, s, hgv, hG⟩ := gotten hr hV u
  have CG := Lib.hid (rget_got (w := w) c u (hr.on b0) (by omega))
  rw [hgv] at CG
  have HG := Lib.hid hG
  clear hV hgv
  go_wp2_with fail
  refine CG.out.mono ?_
  rintro e w1 ⟨rfl, cc1⟩
  have bb1 := below_then b0 cc1
  clear cc1 b0
  go_upto_region 6 with fail
  obtain ⟨wa, hwa⟩ : ∃ W : World, W = w1.alloc (.cells #[.string K.user, .int .i64 K.master, .int .i64 K.pos, .slice K.devices.A K.devices.n K.devices.c] 59) := ⟨_, rfl⟩
  have ba : Below w.heap.size w wa := by rw [hwa]; exact below_alloc bb1 _
  have bo : OBox wa w1.heap.size (kyC K) := by rw [hwa]; exact OBox.new w1 (kyC K) _
  rw [← hwa]
  obtain ⟨q, hq⟩ : ∃ q, w1.heap.size = q := ⟨_, rfl⟩
  have hwq : w.heap.size ≤ q := by rw [← hq]; exact bb1.size
  have hda := HG.out.devs.on ba
  rw [hq] at bo ⊢
  clear hq hwa bb1 hG CG
  have HS : Hid ((Dv.get (l.map kv) u).isSome = s) := Lib.hid HG.out.some_
  obtain ⟨S, hS⟩ : ∃ S, K.devices.l.map Dv.off = S := ⟨_, rfl⟩
  have HF : Hid ((!s && decide (200 ≤ n)) = true → Dv.cross (l.map kv) u m p = ([], 29)) := Lib.hid fun h => by
    unfold Dv.cross
    rw [if_neg (by rw [H0.out]; simp), if_neg (by rw [H2.out, H3.out]; simp), if_pos]
    rw [HS.out, List.length_map, HN.out]; exact h
  have HA : Hid ((!s && decide (200 ≤ n)) = false → Dv.cross (l.map kv) u m p = (Dv.put Dv.uk (l.map kv) ⟨u, m, p, S⟩, 0)) := Lib.hid fun h => by
    unfold Dv.cross
    rw [if_neg (by rw [H0.out]; simp), if_neg (by rw [H2.out, H3.out]; simp), if_neg, ← HG.out.kv_, ← hS]
    · rfl
    · rw [HS.out, List.length_map, HN.out, h]; simp
  have hcase : (s = false ∧ (200 : Int) ≤ n) ∨ (s = true) ∨ (s = false ∧ ¬ (200 : Int) ≤ n) := by
    cases s
    · by_cases h : (200 : Int) ≤ n
      · exact .inl ⟨rfl, h⟩
      · exact .inr (.inr ⟨rfl, h⟩)
    · exact .inr (.inl rfl)
  rcases hcase with ⟨rfl, h2⟩ | hcase
  · have HE := Lib.hid (HF.out (by simp; omega))
    go_wp2_with fail
    go_ret2
    rw [HE.out]
    exact Res.none_ ba
  have HE := Lib.hid (HA.out (by rcases hcase with rfl | ⟨rfl, h⟩ <;> simp <;> omega))
  have k0 : wa.cell? ⟨q, 0, none⟩ = some (.string K.user) := bo.cell rfl
  have k1 : wa.cell? ⟨q, 1, none⟩ = some (.int .i64 K.master) := bo.cell rfl
  have k2 : wa.cell? ⟨q, 2, none⟩ = some (.int .i64 K.pos) := bo.cell rfl
  have k3 : wa.cell? ⟨q, 3, none⟩ = some (.slice K.devices.A K.devices.n K.devices.c) := bo.cell rfl
  have hqa : q < wa.heap.size := bo.lt
  have hwa := ba.size
  have hfew := HG.out.few
  have hok := dv_ok HG.out.devs
  have hSo : DvOk S := by
    rw [← hS]
    intro z hz
    obtain ⟨y, hy, rfl⟩ := List.mem_map.1 hz
    exact hok y hy
  obtain ⟨N, hN⟩ : ∃ N, K.devices.l.length = N := ⟨_, rfl⟩
  have HNS : Hid (S.length = N) := Lib.hid (by rw [← hS, List.length_map]; exact hN)
  have hNn : N ≤ 10 := by rw [← hN, HG.out.len]; exact hfew
  have HSS := Lib.hid hS
  clear HF HA HS hS
  rcases hcase with rfl | ⟨rfl, h2⟩
  all_goals
    have own0 : (wa.alloc (.cells #[] 47)).ownsRow wa.heap.size 47 3 (.slice (some ⟨wa.heap.size, 0, none⟩) 0 0) 0 [] := World.ownsRow_made wa #[] 0 (Nat.le_refl _) (by unfold maxLen; omega) rfl
    go_wp2_with (at_builtin; refine app_rows rfl (.tmp 38) (.tmp 40) 57 rfl wa.heap.size 47 i0 _ 3 32 Try.underlying57 HI.out HZ0.out HZ1.out HZ2.out rfl (by decide) (by decide) _ 0 [] rfl own0 wa.heap.size K.devices.A K.devices.n K.devices.c (Rd.dvc.rows K.devices.l) ?hca ?hcb ?hcc ?hcd ?hce ?_)
    try case hca => rfl
    try case hcb => exact Reads.below hda.1 (below_alloc (Below.refl _ _) _)
    try case hcc => exact Rd.dvc.rows_one' _
    try case hcd => omega
    try case hce => first | omega | (simp; done) | (simp; omega)
    intro v2 w2 own1 g1
    have bb2 : Below wa.heap.size wa w2 := (below_alloc (Below.refl _ _) _).grown g1 (by simp) (fun j hj => (World.ownsRow.lt own0 _ hj).1)
    have own2 : OwnDvs w2 wa.heap.size v2 K.devices.l := by unfold OwnDvs; rw [HG.out.len]; simpa using own1
    clear own1 g1 own0
    have bo2 := bo.on bb2
    have b2 := below_then ba bb2
    obtain ⟨A5, c5, rfl, _, hc5, hm5⟩ := own2.form (dv_ok HG.out.devs)
    unfold OwnDvs at own2
    rw [hN] at own2 hc5 ⊢
    have HNN := Lib.hid hN
    clear hN k0 k1 k2 k3 bo ba bb2 hda
    go_wp2_with fail
    go_loopw [13] (fun i wr => ∃ k : Nat, k ≤ N ∧ i = .int .i64 k ∧ Below w.heap.size w wr ∧ OBox wr q (kyC K) ∧ wr.ownsRow wa.heap.size 47 3 (.slice A5 N c5) N (Rd.dvc.rows (offs k K.devices.l))) (fun i _ => N - (intOf i).toNat)
    case atStart => exact ⟨0, by omega, rfl, b2, bo2, own2⟩
    case round =>
      obtain ⟨k, hk, rfl, hbw, hbo, hown⟩ := hrel
      clear own2 bo2 b2
      by_cases hkn : k < N
      · obtain ⟨g, cap, hv, hg1, hg2⟩ := World.ownsRow.form hown (by omega)
        injection hv with hv1 hv2 hv3
        subst hv1 hv3
        obtain ⟨d, hd⟩ : ∃ d, K.devices.l[k]? = some d := ⟨_, List.getElem?_eq_getElem (by rw [HNN.out]; exact hkn)⟩
        obtain ⟨z0, z1⟩ := own_at hown (offs_at hd) hkn
        obtain ⟨own', hg'⟩ := own_sig hown (offs_at hd) false
        rw [offs_set hd] at own'
        have hbo' := hbo.kept hg' (by intro e; injection e with e; omega)
        have hbw' := hbw.setCell (p := ⟨g, k * 3 + 2, none⟩) (show w.heap.size ≤ g by omega) (.bool false)
        obtain ⟨wn, hwn⟩ : ∃ W : World, wr.setCell ⟨g, k * 3 + 2, none⟩ (.bool false) = W := ⟨_, rfl⟩
        have HWN := Lib.hid hwn
        rw [hwn] at own' hbo' hbw'
        clear hwn hd hg' hown hbo hbw
        go_wp2_with fail
        try rw [HWN.out]
        exact ⟨⟨k + 1, by omega, by go_num, hbw', hbo', own'⟩, by simp [intOf]; omega⟩
      · rw [offs_all (by rw [HNN.out]; omega), HSS.out] at hown
        have b5 := hbw
        have bo5 := hbo
        have own5 : OwnDvs wr wa.heap.size (.slice A5 S.length c5) S := by unfold OwnDvs; rw [HNS.out]; exact hown
        obtain ⟨A7', c7', hv7', h5, _⟩ := own5.form hSo
        injection hv7' with hv1 hv2 hv3
        subst hv1 hv3
        obtain ⟨N', hN'⟩ : ∃ N', N = N' := ⟨_, rfl⟩
        have hNS := HNS.out
        subst hNS
        have hq4 : q < wa.heap.size := hqa
        clear hown hbw hbo hN'
        have f0 := bo5.free 0
        have k0 : wr.cell? ⟨q, 0, none⟩ = some (.string K.user) := bo5.cell rfl
        have f1 := bo5.free 1
        have k1 : wr.cell? ⟨q, 1, none⟩ = some (.int .i64 K.master) := bo5.cell rfl
        have f2 := bo5.free 2
        have k2 : wr.cell? ⟨q, 2, none⟩ = some (.int .i64 K.pos) := bo5.cell rfl
        have f3 := bo5.free 3
        have k3 : wr.cell? ⟨q, 3, none⟩ = some (.slice K.devices.A K.devices.n K.devices.c) := bo5.cell rfl
        have own51 : OwnDvs _ _ _ S := World.ownsRow.kept own5 (grown_setCell _ q 0 (.string u)) (.inr (by intro e; have := (World.ownsRow.lt own5 q e).1; omega))
        have own52 : OwnDvs _ _ _ S := World.ownsRow.kept own51 (grown_setCell _ q 1 (.int .i64 m)) (.inr (by intro e; have := (World.ownsRow.lt own51 q e).1; omega))
        have own53 : OwnDvs _ _ _ S := World.ownsRow.kept own52 (grown_setCell _ q 2 (.int .i64 p)) (.inr (by intro e; have := (World.ownsRow.lt own52 q e).1; omega))
        have own54 : OwnDvs _ _ _ S := World.ownsRow.kept own53 (grown_setCell _ q 3 (.slice A5 S.length c5)) (.inr (by intro e; have := (World.ownsRow.lt own53 q e).1; omega))
        have bo7 := ((((bo5.set 0 (.string u)).set 1 (.int .i64 m)).set 2 (.int .i64 p)).set 3 (.slice A5 S.length c5))
        have b7 := ((((b5.setCell (p := ⟨q, 0, none⟩) hwq (.string u)).setCell (p := ⟨q, 1, none⟩) hwq (.int .i64 m)).setCell (p := ⟨q, 2, none⟩) hwq (.int .i64 p)).setCell (p := ⟨q, 3, none⟩) hwq (.slice A5 S.length c5))
        obtain ⟨w7, hw7⟩ : ∃ w7 : World, (((wr.setCell ⟨q, 0, none⟩ (.string u)).setCell ⟨q, 1, none⟩ (.int .i64 m)).setCell ⟨q, 2, none⟩ (.int .i64 p)).setCell ⟨q, 3, none⟩ (.slice A5 S.length c5) = w7 := ⟨_, rfl⟩
        rw [hw7] at own54 bo7 b7
        obtain ⟨A7, c7, hv7, h7, _⟩ := own54.form hSo
        obtain ⟨rfl, rfl⟩ : A5 = A7 ∧ c5 = c7 := by cases hv7; exact ⟨rfl, rfl⟩
        have HB7 := Lib.hid b7
        have HX : Hid (Rd.kys.Ok w7 ⟨u, m, p, ⟨A5, S.length, c5, S⟩⟩) := Lib.hid ⟨hus, hm, hp, ⟨h7, hc5, hm5⟩, trivial⟩
        have HC := Lib.hid (withRes_any A n c l ⟨u, m, p, ⟨A5, S.length, c5, S⟩⟩ w7 (hr.on b7) (by omega) hc hcm (inc_kv.1 HV.out.inc) HX.out)
        clear own5 own51 own52 own53 own54 h5 h7 hv7 bo5 b5 b7
        go_upto_region 14 with fail
        try rw [hw7]
        have k0 : w7.cell? ⟨q, 0, none⟩ = some (.string u) := bo7.cell rfl
        have k1 : w7.cell? ⟨q, 1, none⟩ = some (.int .i64 m) := bo7.cell rfl
        have k2 : w7.cell? ⟨q, 2, none⟩ = some (.int .i64 p) := bo7.cell rfl
        have k3 : w7.cell? ⟨q, 3, none⟩ = some (.slice A5 S.length c5) := bo7.cell rfl
        clear hw7 bo7 f0 f1 f2 f3
        go_wp2_with fail
        refine HC.out.mono ?_
        rintro e w8 ⟨O, co, xs, rfl, bb8, hx8, hl8, hm8, hkv⟩
        have b8 := below_then HB7.out bb8
        have HK := Lib.hid hkv
        clear hkv k0 k1 k2 k3
        go_wp2_with fail
        go_ret2
        rw [HE.out]
        exact ⟨O, co, xs, rfl, b8, hx8, hl8, hm8, HK.out⟩

set_option maxRecDepth 100000 in
set_option maxHeartbeats 16000000 in
theorem rsign_any (A : Option Addr) (n c : Nat) (l : List Kys) (u id : ByteArray) (p : Int) (w : World) (hr : Rd.kys.Holds w A n l) (hV : Dv.Valid (l.map kv)) (hn : n ≤ 1000) (hc : n ≤ c) (hcm : c ≤ maxLen) (hp : -9223372036854775808 ≤ p ∧ p ≤ 9223372036854775807) :
    Calls Try.prog 45 #[.slice A n c, .string u, .string id, .int .i64 p] w (Res w (Dv.sign (l.map kv) u id p)) := by
  obtain ⟨i0, hi, hz0, hz1, hz2⟩ := info_parts infoDvc
  have HI := Lib.hid hi; have HZ0 := Lib.hid hz0; have HZ1 := Lib.hid hz1; have HZ2 := Lib.hid hz2
  clear hi hz0 hz1 hz2
  have HV := Lib.hid hV
  obtain ⟨t3, ht3⟩ : ∃ b, Dv.inR p 0 = b := ⟨_, rfl⟩
  have CP := within_any p 0 w
  rw [ht3] at CP
  have HCP := Lib.hid CP; have H3 := Lib.hid ht3
  clear ht3 CP
  have b0 := Below.refl w.heap.size w
  go_enter Try.func45, Try.ntmps45
  go_wp2_with fail
  refine HCP.out.mono ?_
  rintro e wx ⟨rfl, rfl⟩
  cases t3
  case false =>
    have HE : Hid (Dv.sign (l.map kv) u id p = ([], 2)) := Lib.hid (by unfold Dv.sign; rw [if_pos H3.out])
    go_wp2_with fail
    go_ret2
    rw [HE.out]
    exact Res.none_ b0
  clear HCP
  obtain ⟨K, s, hgv, hG⟩ := gotten hr hV u
  have CG := Lib.hid (rget_got (w := w) c u (hr.on b0) (by omega))
  rw [hgv] at CG
  have HG := Lib.hid hG
  clear hV hgv
  go_wp2_with fail
  refine CG.out.mono ?_
  rintro e w1 ⟨rfl, cc1⟩
  have bb1 := below_then b0 cc1
  clear cc1 b0
  go_upto_region 4 with fail
  obtain ⟨wa, hwa⟩ : ∃ W : World, W = w1.alloc (.cells #[.string K.user, .int .i64 K.master, .int .i64 K.pos, .slice K.devices.A K.devices.n K.devices.c] 59) := ⟨_, rfl⟩
  have ba : Below w.heap.size w wa := by rw [hwa]; exact below_alloc bb1 _
  have bo : OBox wa w1.heap.size (kyC K) := by rw [hwa]; exact OBox.new w1 (kyC K) _
  rw [← hwa]
  obtain ⟨q, hq⟩ : ∃ q, w1.heap.size = q := ⟨_, rfl⟩
  have hwq : w.heap.size ≤ q := by rw [← hq]; exact bb1.size
  have hda := HG.out.devs.on ba
  rw [hq] at bo ⊢
  clear hq hwa bb1 hG CG
  have k0 : wa.cell? ⟨q, 0, none⟩ = some (.string K.user) := bo.cell rfl
  have k1 : wa.cell? ⟨q, 1, none⟩ = some (.int .i64 K.master) := bo.cell rfl
  have k2 : wa.cell? ⟨q, 2, none⟩ = some (.int .i64 K.pos) := bo.cell rfl
  have k3 : wa.cell? ⟨q, 3, none⟩ = some (.slice K.devices.A K.devices.n K.devices.c) := bo.cell rfl
  obtain ⟨ix, hix⟩ : ∃ ix, Dv.idx K.devices.l (bs id) = ix := ⟨_, rfl⟩
  have hfew := HG.out.few
  have CP := rplace43_any K.devices.A K.devices.n K.devices.c K.devices.l id wa hda (by unfold maxLen; omega)
  rw [hix] at CP
  have HCP := Lib.hid CP
  have hneg := idx_neg K.devices.l id
  rw [hix] at hneg
  have HNEG := Lib.hid hneg
  have HIX := Lib.hid hix
  have HBAD : Hid (s = false ∨ ix < 0 → Dv.sign (l.map kv) u id p = ([], 5)) := Lib.hid fun h => by
    unfold Dv.sign
    rw [if_neg (by rw [H3.out]; simp), if_pos]
    rcases h with h | h
    · cases hh : Dv.has (Dv.getK (l.map kv) u).devs id
      · rfl
      · have h1 := (Dv.has_user HV.out.inc hh).2
        have h2 := HG.out.some_
        rw [h1, h] at h2; cases h2
    · have h1 := HNEG.out
      rw [decide_eq_true h] at h1
      rw [← HG.out.kv_]
      show Dv.has K.devices.l id = false
      cases hh : Dv.has K.devices.l id
      · rfl
      · rw [hh] at h1; cases h1
  clear CP hix hneg
  have hqa : q < wa.heap.size := bo.lt
  go_wp2_with fail
  refine HCP.out.mono ?_
  rintro e wx ⟨rfl, rfl⟩
  cases s
  · have HE := Lib.hid (HBAD.out (.inl rfl))
    clear HBAD
    go_wp2_with fail
    go_ret2
    rw [HE.out]
    exact Res.none_ ba
  by_cases hi0 : ix < 0
  · have HE := Lib.hid (HBAD.out (.inr hi0))
    clear HBAD
    go_wp2_with fail
    go_ret2
    rw [HE.out]
    exact Res.none_ ba
  clear HBAD
  have HH : Hid (Dv.has (Dv.getK (l.map kv) u).devs id = true) := Lib.hid (by
    have h1 := HNEG.out
    rw [decide_eq_false hi0] at h1
    rw [← HG.out.kv_]
    show Dv.has K.devices.l id = true
    cases hh : Dv.has K.devices.l id
    · rw [hh] at h1; cases h1
    · rfl)
  obtain ⟨i, d, hii, hd, hdk⟩ := idx_some (l := K.devices.l) (s := id) (by rw [HIX.out]; exact hi0)
  rw [HIX.out] at hii
  subst hii
  obtain ⟨mm, hmm⟩ : ∃ m, K.master = m := ⟨_, rfl⟩
  have hM : (Dv.getK (l.map kv) u).master = mm := by rw [← HG.out.kv_]; exact hmm
  have HMM := Lib.hid hmm
  rw [hmm] at k1
  clear hmm
  by_cases h0 : mm = 0
  · have e0 : (mm == 0) = true := eqT h0
    have HE : Hid (Dv.sign (l.map kv) u id p = ([], 26)) := Lib.hid (by unfold Dv.sign; rw [if_neg (by rw [H3.out]; simp), if_neg (by rw [HH.out]; simp), if_pos (by rw [hM]; exact h0)])
    clear h0 hM hd hdk
    go_wp2_with fail
    go_ret2
    rw [HE.out]
    exact Res.none_ ba
  have e0 : (mm == 0) = false := eqF h0
  obtain ⟨S, hS⟩ : ∃ S, K.devices.l.map (Dv.on_ id) = S := ⟨_, rfl⟩
  have HE : Hid (Dv.sign (l.map kv) u id p = (Dv.put Dv.uk (l.map kv) ⟨K.user, K.master, p, S⟩, 0)) := Lib.hid (by
    unfold Dv.sign
    rw [if_neg (by rw [H3.out]; simp), if_neg (by rw [HH.out]; simp), if_neg (by rw [hM]; exact h0), ← HG.out.kv_, ← hS]; rfl)
  have hSo : DvOk S := by
    rw [← hS]
    intro z hz
    obtain ⟨y, hy, rfl⟩ := List.mem_map.1 hz
    have hon : (Dv.on_ id y).id = y.id ∧ (Dv.on_ id y).key = y.key := by unfold Dv.on_; split <;> exact ⟨rfl, rfl⟩
    rw [hon.1, hon.2]
    exact dv_ok HG.out.devs y hy
  obtain ⟨N, hN⟩ : ∃ N, K.devices.l.length = N := ⟨_, rfl⟩
  have HNS : Hid (S.length = N) := Lib.hid (by rw [← hS, List.length_map]; exact hN)
  have hNn : N ≤ 10 := by rw [← hN, HG.out.len]; exact hfew
  have hiN : i < N := by rw [← hN]; exact (List.getElem?_eq_some_iff.1 hd).1
  have HSS : Hid (K.devices.l.set i ⟨d.id, d.key, true⟩ = S) := Lib.hid (by rw [← hS]; exact set_on HG.out.inc hd hdk)
  have HD := Lib.hid hd
  clear hS hM h0 hd hdk
  have own0 : (wa.alloc (.cells #[] 47)).ownsRow wa.heap.size 47 3 (.slice (some ⟨wa.heap.size, 0, none⟩) 0 0) 0 [] := World.ownsRow_made wa #[] 0 (Nat.le_refl _) (by unfold maxLen; omega) rfl
  go_wp2_with (at_builtin; refine app_rows rfl (.tmp 36) (.tmp 38) 57 rfl wa.heap.size 47 i0 _ 3 32 Try.underlying57 HI.out HZ0.out HZ1.out HZ2.out rfl (by decide) (by decide) _ 0 [] rfl own0 wa.heap.size K.devices.A K.devices.n K.devices.c (Rd.dvc.rows K.devices.l) ?hsa ?hsb ?hsc ?hsd ?hse ?_)
  try case hsa => rfl
  try case hsb => exact Reads.below hda.1 (below_alloc (Below.refl _ _) _)
  try case hsc => exact Rd.dvc.rows_one' _
  try case hsd => omega
  try case hse => first | omega | (simp; done) | (simp; omega)
  intro v2 w2 own1 g1
  have bb2 : Below wa.heap.size wa w2 := (below_alloc (Below.refl _ _) _).grown g1 (by simp) (fun j hj => (World.ownsRow.lt own0 _ hj).1)
  have own2 : OwnDvs w2 wa.heap.size v2 K.devices.l := by unfold OwnDvs; rw [HG.out.len]; simpa using own1
  clear own1 g1 own0
  have bo2 := bo.on bb2
  have b2 := below_then ba bb2
  obtain ⟨A5, c5, rfl, _, hc5, hm5⟩ := own2.form (dv_ok HG.out.devs)
  unfold OwnDvs at own2
  rw [hN] at own2 hc5 ⊢
  have HNN := Lib.hid hN
  clear hN k0 k1 k2 k3 bo ba bb2 hda
  obtain ⟨g, cap, hv, hg1, hg2⟩ := World.ownsRow.form own2 (by omega)
  injection hv with hv1 hv2 hv3
  subst hv1 hv3
  obtain ⟨z0, z1⟩ := own_at own2 HD.out hiN
  obtain ⟨own', hg'⟩ := own_sig own2 HD.out true
  rw [HSS.out] at own'
  have bo5 := bo2.kept hg' (by intro e; injection e with e; omega)
  have b5 := b2.setCell (p := ⟨g, i * 3 + 2, none⟩) (show w.heap.size ≤ g by have := hwq; omega) (.bool true)
  obtain ⟨w5, hw5⟩ : ∃ W : World, w2.setCell ⟨g, i * 3 + 2, none⟩ (.bool true) = W := ⟨_, rfl⟩
  rw [hw5] at own' bo5 b5
  have own5 : OwnDvs w5 wa.heap.size (.slice (some ⟨g, 0, none⟩) S.length c5) S := by unfold OwnDvs; rw [HNS.out]; exact own'
  clear own2 own' bo2 b2 hg'
  have hiI : (i : Int) < N := by omega
  go_upto_region 11 with fail
  try rw [hw5]
  clear hw5 z0 z1 hiI
  obtain ⟨A7', c7', hv7', h5, _⟩ := own5.form hSo
  injection hv7' with hv1 hv2 hv3
  subst hv1 hv3
  have hNS := HNS.out
  subst hNS
  have f2 := bo5.free 2
  have k2 : w5.cell? ⟨q, 2, none⟩ = some (.int .i64 K.pos) := bo5.cell rfl
  have f3 := bo5.free 3
  have k3 : w5.cell? ⟨q, 3, none⟩ = some (.slice K.devices.A K.devices.n K.devices.c) := bo5.cell rfl
  have own51 : OwnDvs _ _ _ S := World.ownsRow.kept own5 (grown_setCell _ q 2 (.int .i64 p)) (.inr (by intro e; have := (World.ownsRow.lt own5 q e).1; omega))
  have own52 : OwnDvs _ _ _ S := World.ownsRow.kept own51 (grown_setCell _ q 3 (.slice (some ⟨g, 0, none⟩) S.length c5)) (.inr (by intro e; have := (World.ownsRow.lt own51 q e).1; omega))
  have bo7 := ((bo5.set 2 (.int .i64 p)).set 3 (.slice (some ⟨g, 0, none⟩) S.length c5))
  have b7 := ((b5.setCell (p := ⟨q, 2, none⟩) hwq (.int .i64 p)).setCell (p := ⟨q, 3, none⟩) hwq (.slice (some ⟨g, 0, none⟩) S.length c5))
  obtain ⟨w7, hw7⟩ : ∃ w7 : World, (w5.setCell ⟨q, 2, none⟩ (.int .i64 p)).setCell ⟨q, 3, none⟩ (.slice (some ⟨g, 0, none⟩) S.length c5) = w7 := ⟨_, rfl⟩
  rw [hw7] at own52 bo7 b7
  obtain ⟨A7, c7, hv7, h7, _⟩ := own52.form hSo
  obtain ⟨rfl, rfl⟩ : some ⟨g, 0, none⟩ = A7 ∧ c5 = c7 := by cases hv7; exact ⟨rfl, rfl⟩
  have HB7 := Lib.hid b7
  have HX : Hid (Rd.kys.Ok w7 ⟨K.user, K.master, p, ⟨some ⟨g, 0, none⟩, S.length, c5, S⟩⟩) := Lib.hid ⟨HG.out.ok.1, HG.out.ok.2.1, hp, ⟨h7, hc5, hm5⟩, trivial⟩
  have HC := Lib.hid (withRes_any A n c l ⟨K.user, K.master, p, ⟨some ⟨g, 0, none⟩, S.length, c5, S⟩⟩ w7 (hr.on b7) (by omega) hc hcm (inc_kv.1 HV.out.inc) HX.out)
  clear own5 own51 own52 h5 h7 hv7 bo5 b5 b7
  go_upto_region 12 with fail
  try rw [hw7]
  have k0 : w7.cell? ⟨q, 0, none⟩ = some (.string K.user) := bo7.cell rfl
  have k1 : w7.cell? ⟨q, 1, none⟩ = some (.int .i64 K.master) := bo7.cell rfl
  have k2 : w7.cell? ⟨q, 2, none⟩ = some (.int .i64 p) := bo7.cell rfl
  have k3 : w7.cell? ⟨q, 3, none⟩ = some (.slice (some ⟨g, 0, none⟩) S.length c5) := bo7.cell rfl
  clear hw7 bo7 f2 f3
  go_wp2_with fail
  refine HC.out.mono ?_
  rintro e w8 ⟨O, co, xs, rfl, bb8, hx8, hl8, hm8, hkv⟩
  have b8 := below_then HB7.out bb8
  have HK := Lib.hid hkv
  clear hkv k0 k1 k2 k3
  go_wp2_with fail
  go_ret2
  rw [HE.out]
  exact ⟨O, co, xs, rfl, b8, hx8, hl8, hm8, HK.out⟩
end Go.Proofs.Ytbhkgdfmjkblcaa
