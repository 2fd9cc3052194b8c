/-
  The walk through Check.
-/
import Derived.Test.YtbhkgdfmjkblcaaDevH
import Derived.Test.YtbhkgdfmjkblcaaDevR
import Derived.Test.YtbhkgdfmjkblcaaIdsT
import Derived.IntWalk
import Derived.Deep.DeepCutAuto
namespace Go.Proofs.Ytbhkgdfmjkblcaa
open Go.RowKit
attribute [local go_sem ↓] ex_st_ky ex_st_dv
attribute [local go_sem] st_ky_new st_ky st_dv_new st_dv

set_option maxRecDepth 100000 in
set_option maxHeartbeats 16000000 in
theorem pcheck_any (A : Option Addr) (n c : Nat) (l : List Kys) (w : World) (hr : Rd.kys.Holds w A n l) (hn : n ≤ 1000000) :
    Calls Try.prog 33 #[.slice A n c] w (Ret w (.int .i64 (Dv.chk (l.map kv)))) := by
  have HL := Lib.hid hr.length
  go_enter Try.func33, Try.ntmps33
  go_wp2_with fail
  go_loopw [3, 4, 5, 6, 7, 17] (fun s3 s4 s5 s6 s7 i wr => ∃ (k : Nat) (c1 c2 c3 c4 c5 : Bool), k ≤ n ∧ i = .int .i64 k ∧ s3 = .bool c1 ∧ s4 = .bool c2 ∧ s5 = .bool c3 ∧ s6 = .bool c4 ∧ s7 = .bool c5 ∧ Below w.heap.size w wr ∧ Dv.Acc n ((l.map kv).take k) c1 c2 c3 c4 c5) (fun _ _ _ _ _ i _ => n - (intOf i).toNat)
  case atStart => exact ⟨0, true, true, true, _, true, by omega, rfl, rfl, rfl, rfl, rfl, rfl, Below.refl _ _, by rw [List.take_zero]; exact Dv.Acc.nil n⟩
  case round =>
    obtain ⟨k, c1, c2, c3, c4, c5, hk, rfl, rfl, rfl, rfl, rfl, rfl, hbw, hacc⟩ := hrel
    have HACC := Lib.hid hacc
    clear hacc
    by_cases hkn : k < n
    · obtain ⟨b, o, ⟨xu, xm, xp, ⟨xA, xn, xc, xl⟩⟩, rfl, hbl, hu, _, hok, hxa⟩ := (hr.on hbw).mid (by decide) hkn
      obtain ⟨pv, hpi, hpc⟩ := Dv.prev_of (key := Dv.uk) (Dv.map_at hu)
      have HACC2 := Lib.hid (HACC.out.snoc (Dv.map_at hu) pv hpi)
      have HU := Lib.hid hu
      have hus : xu.size ≤ maxLen := hok.1
      have hdv : Rd.dvc.Holds wr xA xn xl := hok.2.2.2.1.1
      have hdn : xn ≤ maxLen := Nat.le_trans hok.2.2.2.1.2.1 hok.2.2.2.1.2.2
      unfold maxLen at hdn
      have x0 : wr.cell? ⟨b, o + k * 4, none⟩ = some (.string xu) := hxa 0 _ rfl
      have x1 : wr.cell? ⟨b, o + k * 4 + 1, none⟩ = some (.int .i64 xm) := hxa 1 _ rfl
      have x2 : wr.cell? ⟨b, o + k * 4 + 2, none⟩ = some (.int .i64 xp) := hxa 2 _ rfl
      have x3 : wr.cell? ⟨b, o + k * 4 + 3, none⟩ = some (.slice xA xn xc) := hxa 3 _ rfl
      clear hxa hok hu hpi
      go_upto_region 5 with fail
      have bx := Box.new wr [.string xu, .int .i64 xm, .int .i64 xp, .slice xA xn xc] 59
      have hbo := below_alloc (Below.refl wr.heap.size wr) (.cells #[.string xu, .int .i64 xm, .int .i64 xp, .slice xA xn xc] 59)
      change Box (wr.alloc (.cells #[.string xu, .int .i64 xm, .int .i64 xp, .slice xA xn xc] 59)) _ _ at bx
      generalize wr.alloc (.cells #[.string xu, .int .i64 xm, .int .i64 xp, .slice xA xn xc] 59) = wx at bx hbo ⊢
      have hbx := below_then hbw hbo
      have hdx := hdv.on hbo
      obtain ⟨q, hq⟩ : ∃ q, wr.heap.size = q := ⟨_, rfl⟩
      rw [hq] at bx ⊢
      clear hq x0 x1 x2 x3 hbo hbw hdv hbl
      obtain ⟨t, ht⟩ : ∃ t, I.userB (bs xu) = t := ⟨_, rfl⟩
      have CU := user_any xu wx hus
      rw [ht] at CU
      have HCU := Lib.hid CU
      obtain ⟨d1, hd1⟩ : ∃ d, (c1 && t) = d := ⟨_, rfl⟩
      have HD1 := Lib.hid hd1
      have HT := Lib.hid ht
      clear CU ht hd1
      have y0 : wx.cell? ⟨q, 0, none⟩ = some (.string xu) := bx.at_ 0 _ rfl
      go_cut [3] (fun s V => s = .bool d1 ∧ Below wx.heap.size wx V)
      case first =>
        cases c1
        · go_wp2_with fail
          go_meet
          exact ⟨by rw [← HD1.out]; rfl, Below.refl _ _⟩
        · go_wp2_with fail
          refine (HCU.out.mono fun _ _ => Quiet.ret').mono ?_
          rintro e w1 ⟨rfl, b1⟩
          cases t
          all_goals
            simp only [I.errOf]
            go_wp2_with fail
            go_meet
            exact ⟨by rw [← HD1.out]; rfl, b1⟩
      obtain ⟨rfl, hb1⟩ := hcut
      rename World => W1
      have hbW1 := below_then hbx hb1
      have bx1 := bx.on hb1
      have hdx1 := hdx.on hb1
      clear y0 bx hdx hbx hb1 HCU
      have y0 : W1.cell? ⟨q, 0, none⟩ = some (.string xu) := bx1.at_ 0 _ rfl
      obtain ⟨d2, hd2⟩ : ∃ d, (c2 && pv) = d := ⟨_, rfl⟩
      have HD2 := Lib.hid hd2
      clear hd2
      go_upto_region 6 with fail
      go_cut [4] (fun s V => s = .bool d2 ∧ Below W1.heap.size W1 V)
      case first =>
        cases c2
        · go_quiet (fail)
          go_wp2_with fail
          go_meet
          exact ⟨by rw [← HD2.out]; rfl, below_drewN (Below.refl _ _) _⟩
        · rcases hpc with ⟨hk0, rfl⟩ | ⟨i, y', hki, hy', hlt⟩
          · have e0 : ((k : Int) == 0) = true := eqT (by omega)
            have HK0 := Lib.hid hk0
            clear hk0
            go_quiet (fail)
            go_wp2_with fail
            go_meet
            exact ⟨by rw [← HD2.out]; rfl, below_drewN (Below.refl _ _) _⟩
          · obtain ⟨b', o', y, h', _, hy, _, _, hya⟩ := (hr.on hbW1).mid (by decide) (show i < n by omega)
            cases h'
            have e0 : ((k : Int) == 0) = false := eqF (by omega)
            have hw1 : IntKind.i64.wrap ((k : Int) - 1) = (i : Int) := by rw [show (k : Int) - 1 = (i : Int) by omega]; exact IntWalk.i64_in _ (by omega)
            have hin : (i : Int) < n := by omega
            have p0 : W1.cell? ⟨b, o + i * 4, none⟩ = some (.string y.user) := hya 0 _ rfl
            have hless : Op.bytesLess y.user.toList xu.toList = pv := by
              rw [Dv.map_at hy] at hy'
              cases hy'
              rw [bytesLess_lt, ← hlt]; rfl
            have HKI := Lib.hid hki
            clear hki hy' hlt hya hy
            cases pv
            all_goals
              go_quiet (fail)
              go_wp2_with fail
              go_meet
              exact ⟨by rw [← HD2.out]; rfl, below_drewN (Below.refl _ _) _⟩
      obtain ⟨rfl, hb2⟩ := hcut
      rename World => W2
      have hbW2 := below_then hbW1 hb2
      have bx2 := bx1.on hb2
      have hdx2 := hdx1.on hb2
      clear y0 bx1 hdx1 hbW1 hb2 hpc
      have y1 : W2.cell? ⟨q, 1, none⟩ = some (.int .i64 xm) := bx2.at_ 1 _ rfl
      have y2 : W2.cell? ⟨q, 2, none⟩ = some (.int .i64 xp) := bx2.at_ 2 _ rfl
      have y3 : W2.cell? ⟨q, 3, none⟩ = some (.slice xA xn xc) := bx2.at_ 3 _ rfl
      obtain ⟨m1, hm1⟩ : ∃ t, Dv.inR xm 0 = t := ⟨_, rfl⟩
      obtain ⟨m2, hm2⟩ : ∃ t, Dv.inR xp 0 = t := ⟨_, rfl⟩
      have CF1 := from_any xm 0 W2
      have CF2 := from_any xp 0 W2
      rw [hm1] at CF1
      rw [hm2] at CF2
      obtain ⟨d3, hd3⟩ : ∃ d, (c3 && m1 && m2) = d := ⟨_, rfl⟩
      have HD3 := Lib.hid hd3; have HM1 := Lib.hid hm1; have HM2 := Lib.hid hm2; have HCF1 := Lib.hid CF1; have HCF2 := Lib.hid CF2
      clear hd3 hm1 hm2 CF1 CF2
      go_upto_region 7 with fail
      go_cut [5] (fun s V => s = .bool d3 ∧ W2 = V)
      case first =>
        cases c3
        · go_wp2_with fail
          go_meet
          exact ⟨by rw [← HD3.out]; rfl, rfl⟩
        · go_wp2_with fail
          refine HCF1.out.mono ?_
          rintro e w1 ⟨rfl, rfl⟩
          cases m1
          · go_wp2_with fail
            go_meet
            exact ⟨by rw [← HD3.out]; rfl, rfl⟩
          · go_wp2_with fail
            refine HCF2.out.mono ?_
            rintro e w1 ⟨rfl, rfl⟩
            cases m2
            all_goals
              go_wp2_with fail
              go_meet
              exact ⟨by rw [← HD3.out]; rfl, rfl⟩
      obtain ⟨rfl, rfl⟩ := hcut
      obtain ⟨d4, hd4⟩ : ∃ d, (c4 && decide (xl.length ≤ 10)) = d := ⟨_, rfl⟩
      have HD4 := Lib.hid hd4
      have HDL := Lib.hid hdx2.length
      clear hd4
      go_upto_region 8 with fail
      go_cut [6] (fun s V => s = .bool d4 ∧ W2 = V)
      case first =>
        cases c4
        · go_wp2_with fail
          go_meet
          exact ⟨by rw [← HD4.out]; rfl, rfl⟩
        · by_cases h10 : (xn : Int) ≤ 10
          all_goals
            go_wp2_with fail
            go_meet
            exact ⟨by rw [← HD4.out, HDL.out]; simp; omega, rfl⟩
      obtain ⟨rfl, rfl⟩ := hcut
      go_wp2_with fail
      go_loopw [3, 4, 5, 7, 66] (fun s3 s4 s5 s7 j wq => ∃ (i : Nat) (e1 e2 e3 e5 : Bool), i ≤ xn ∧ j = .int .i64 i ∧ s3 = .bool e1 ∧ s4 = .bool e2 ∧ s5 = .bool e3 ∧ s7 = .bool e5 ∧ Below W2.heap.size W2 wq ∧ Dv.AccD xm (xl.take i) d1 d2 d3 c5 e1 e2 e3 e5) (fun _ _ _ _ j _ => xn - (intOf j).toNat)
      case atStart => exact ⟨0, d1, d2, d3, c5, by omega, rfl, rfl, rfl, rfl, rfl, Below.refl _ _, by rw [List.take_zero]; exact Dv.AccD.nil _ _ _ _ _⟩
      case round =>
        obtain ⟨i, e1, e2, e3, e5, hi, rfl, rfl, rfl, rfl, rfl, hbq, had⟩ := hrel
        have HAD := Lib.hid had
        clear had y1 y2 y3
        by_cases hin : i < xn
        · obtain ⟨b3, o3, d, rfl, hb3l, hdd, _, hdok, hda⟩ := (hdx2.on hbq).mid (by decide) hin
          obtain ⟨pw, hpi, hpc⟩ := Dv.prev_of (key := Dv.dk) hdd
          have HAD2 := Lib.hid (HAD.out.snoc hdd pw hpi)
          have hds : d.id.size ≤ maxLen := hdok.1
          have z0 : wr.cell? ⟨b3, o3 + i * 3, none⟩ = some (.string d.id) := hda 0 _ rfl
          have z1 : wr.cell? ⟨b3, o3 + i * 3 + 1, none⟩ = some (.int .i64 d.key) := hda 1 _ rfl
          have z2 : wr.cell? ⟨b3, o3 + i * 3 + 2, none⟩ = some (.bool d.signed) := hda 2 _ rfl
          clear hda hdok hdd hpi
          go_upto_region 12 with fail
          have bd := Box.new wr [.string d.id, .int .i64 d.key, .bool d.signed] 47
          have hbo := below_alloc (Below.refl wr.heap.size wr) (.cells #[.string d.id, .int .i64 d.key, .bool d.signed] 47)
          change Box (wr.alloc (.cells #[.string d.id, .int .i64 d.key, .bool d.signed] 47)) _ _ at bd
          generalize wr.alloc (.cells #[.string d.id, .int .i64 d.key, .bool d.signed] 47) = wd at bd hbo ⊢
          have hbd := below_then hbq hbo
          have bx3 := bx2.on hbd
          have hdx3 := hdx2.on hbd
          obtain ⟨g, hg⟩ : ∃ g, wr.heap.size = g := ⟨_, rfl⟩
          rw [hg] at bd ⊢
          clear hg z0 z1 z2 hbo hbq hb3l
          have z0 : wd.cell? ⟨g, 0, none⟩ = some (.string d.id) := bd.at_ 0 _ rfl
          obtain ⟨t1, ht1⟩ : ∃ t, Dv.devB d.id = t := ⟨_, rfl⟩
          have CD := isDev_any d.id wd hds
          rw [ht1] at CD
          obtain ⟨f1, hf1⟩ : ∃ f, (e1 && t1) = f := ⟨_, rfl⟩
          have HCD := Lib.hid CD; have HT1 := Lib.hid ht1; have HF1 := Lib.hid hf1
          clear CD ht1 hf1
          go_cut [3] (fun s V => s = .bool f1 ∧ wd = V)
          case first =>
            cases e1
            · go_wp2_with fail
              go_meet
              exact ⟨by rw [← HF1.out]; rfl, rfl⟩
            · go_wp2_with fail
              refine HCD.out.mono ?_
              rintro e w1 ⟨rfl, rfl⟩
              cases t1
              all_goals
                go_wp2_with fail
                go_meet
                exact ⟨by rw [← HF1.out]; rfl, rfl⟩
          obtain ⟨rfl, rfl⟩ := hcut
          have y3 : wd.cell? ⟨q, 3, none⟩ = some (.slice (some ⟨b3, o3, none⟩) xn xc) := bx3.at_ 3 _ rfl
          obtain ⟨f2, hf2⟩ : ∃ f, (e2 && pw) = f := ⟨_, rfl⟩
          have HF2 := Lib.hid hf2
          clear hf2 HCD
          go_upto_region 13 with fail
          go_cut [4] (fun s V => s = .bool f2 ∧ Below wd.heap.size wd V)
          case first =>
            cases e2
            · go_quiet (fail)
              go_wp2_with fail
              go_meet
              exact ⟨by rw [← HF2.out]; rfl, below_drewN (Below.refl _ _) _⟩
            · rcases hpc with ⟨hk0, rfl⟩ | ⟨i', y, hki, hy', hlt⟩
              · have e0 : ((i : Int) == 0) = true := eqT (by omega)
                have HK0 := Lib.hid hk0
                clear hk0
                go_quiet (fail)
                go_wp2_with fail
                go_meet
                exact ⟨by rw [← HF2.out]; rfl, below_drewN (Below.refl _ _) _⟩
              · obtain ⟨b', o', y2, h', _, hy, _, _, hya⟩ := hdx3.mid (by decide) (show i' < xn by omega)
                cases h'
                rw [hy] at hy'
                obtain rfl : y2 = y := by cases hy'; rfl
                have e0 : ((i : Int) == 0) = false := eqF (by omega)
                have hw1 : IntKind.i64.wrap ((i : Int) - 1) = (i' : Int) := by rw [show (i : Int) - 1 = (i' : Int) by omega]; exact IntWalk.i64_in _ (by omega)
                have hin' : (i' : Int) < xn := by omega
                have p0 : wd.cell? ⟨b3, o3 + i' * 3, none⟩ = some (.string y2.id) := hya 0 _ rfl
                have hless : Op.bytesLess y2.id.toList d.id.toList = pw := by
                  rw [bytesLess_lt, ← hlt]; rfl
                have HKI := Lib.hid hki
                clear hki hy' hlt hya hy
                cases pw
                all_goals
                  go_quiet (fail)
                  go_wp2_with fail
                  go_meet
                  exact ⟨by rw [← HF2.out]; rfl, below_drewN (Below.refl _ _) _⟩
          obtain ⟨rfl, hb5⟩ := hcut
          rename World => W5
          have hbd5 := below_then hbd hb5
          have bx5 := bx3.on hb5
          have bd5 := bd.on hb5
          clear y3 z0 bx3 bd hdx3 hpc hbd hb5
          have z1 : W5.cell? ⟨g, 1, none⟩ = some (.int .i64 d.key) := bd5.at_ 1 _ rfl
          have z2 : W5.cell? ⟨g, 2, none⟩ = some (.bool d.signed) := bd5.at_ 2 _ rfl
          have y1 : W5.cell? ⟨q, 1, none⟩ = some (.int .i64 xm) := bx5.at_ 1 _ rfl
          obtain ⟨t3, ht3⟩ : ∃ t, Dv.inR d.key 1 = t := ⟨_, rfl⟩
          have CF := from_any d.key 1 W5
          rw [ht3] at CF
          obtain ⟨f3, hf3⟩ : ∃ f, (e3 && t3) = f := ⟨_, rfl⟩
          have HCF := Lib.hid CF; have HT3 := Lib.hid ht3; have HF3 := Lib.hid hf3
          clear CF ht3 hf3
          go_upto_region 14 with fail
          go_cut [5] (fun s V => s = .bool f3 ∧ W5 = V)
          case first =>
            cases e3
            · go_wp2_with fail
              go_meet
              exact ⟨by rw [← HF3.out]; rfl, rfl⟩
            · go_wp2_with fail
              refine HCF.out.mono ?_
              rintro e w1 ⟨rfl, rfl⟩
              cases t3
              all_goals
                go_wp2_with fail
                go_meet
                exact ⟨by rw [← HF3.out]; rfl, rfl⟩
          obtain ⟨rfl, rfl⟩ := hcut
          clear HCF
          obtain ⟨ds, hds1⟩ : ∃ s, d.signed = s := ⟨_, rfl⟩
          rw [hds1] at z2
          obtain ⟨f5, hf5⟩ : ∃ f, (e5 && (!ds || decide (xm ≠ 0))) = f := ⟨_, rfl⟩
          have HF5 := Lib.hid hf5; have HDS := Lib.hid hds1
          clear hf5 hds1
          have hA : Dv.AccD xm (xl.take (i + 1)) d1 d2 d3 c5 f1 f2 f3 f5 := by
            rw [← HF1.out, ← HF2.out, ← HF3.out, ← HF5.out, ← HT1.out, ← HT3.out, ← HDS.out]
            exact HAD2.out
          have HA := Lib.hid hA
          clear hA
          cases e5
          · go_wp2_with fail
            exact ⟨⟨i + 1, f1, f2, f3, f5, by omega, by go_num, rfl, rfl, rfl, by rw [← HF5.out]; rfl, hbd5, HA.out⟩, by simp [intOf]; omega⟩
          · cases ds
            · go_wp2_with fail
              exact ⟨⟨i + 1, f1, f2, f3, f5, by omega, by go_num, rfl, rfl, rfl, by rw [← HF5.out]; rfl, hbd5, HA.out⟩, by simp [intOf]; omega⟩
            · by_cases hm0 : xm = 0
              · have e0 : (xm != 0) = false := neF hm0
                have HM0 := Lib.hid hm0
                clear hm0
                go_wp2_with fail
                exact ⟨⟨i + 1, f1, f2, f3, f5, by omega, by go_num, rfl, rfl, rfl, by rw [← HF5.out, HM0.out]; rfl, hbd5, HA.out⟩, by simp [intOf]; omega⟩
              · have e0 : (xm != 0) = true := neT hm0
                have HM0 := Lib.hid hm0
                clear hm0
                go_wp2_with fail
                exact ⟨⟨i + 1, f1, f2, f3, f5, by omega, by go_num, rfl, rfl, rfl, by rw [← HF5.out, decide_eq_true HM0.out]; rfl, hbd5, HA.out⟩, by simp [intOf]; omega⟩
        · have hA : Dv.Acc n ((l.map kv).take (k + 1)) e1 e2 e3 d4 e5 := by
            have a := HAD.out
            rw [List.take_of_length_le (by have := hdx2.length; omega)] at a
            rw [← a.names, ← a.order, ← a.numbers, ← a.state, ← HD1.out, ← HD2.out, ← HD3.out, ← HD4.out, ← HT.out, ← HM1.out, ← HM2.out]
            exact HACC2.out
          have HA := Lib.hid hA
          have hbe := below_then hbW2 hbq
          clear hA hbq
          go_wp2_with fail
          exact ⟨⟨k + 1, e1, e2, e3, d4, e5, by omega, by go_num, rfl, rfl, rfl, rfl, rfl, hbe, HA.out⟩, by simp [intOf]; omega⟩
    · have hc : Dv.chk (l.map kv) = if c1 = false then 3 else if c2 = false then 8 else if c3 = false then 2 else if c4 = false then 29 else if c5 = false then 26 else 0 := by
        refine Dv.Acc.chk ?_
        have a := HACC.out
        rw [List.take_of_length_le (by rw [List.length_map, HL.out]; omega)] at a
        rw [List.length_map, HL.out]; exact a
      have HC := Lib.hid hc
      clear hc
      cases c1
      · go_wp2_with fail
        go_ret
        exact ⟨ret_int (by rw [HC.out]; rfl), hbw⟩
      cases c2
      · go_wp2_with fail
        go_ret
        exact ⟨ret_int (by rw [HC.out]; rfl), hbw⟩
      cases c3
      · go_wp2_with fail
        go_ret
        exact ⟨ret_int (by rw [HC.out]; rfl), hbw⟩
      cases c4
      · go_wp2_with fail
        go_ret
        exact ⟨ret_int (by rw [HC.out]; rfl), hbw⟩
      cases c5
      all_goals
        go_wp2_with fail
        go_ret
        exact ⟨ret_int (by rw [HC.out]; rfl), hbw⟩
end Go.Proofs.Ytbhkgdfmjkblcaa
