/-
  The walks through the reference's Check and its parts; Place; small, brief.
-/
import Derived.Test.YtbhkgdfmjkblcaaDevH
import Derived.Test.YtbhkgdfmjkblcaaDevR
import Derived.Test.YtbhkgdfmjkblcaaIdsQ
import Derived.IntWalk
import Derived.Deep.DeepCutAuto
namespace Go.Proofs.Ytbhkgdfmjkblcaa
open Go.RowKit
attribute [local go_sem ↓] ex_st_ky ex_st_dv
attribute [local go_sem] st_ky_new st_ky st_dv_new st_dv

theorem rdev_any (s : ByteArray) (w : World) (hs : s.size ≤ maxLen) : Calls Try.prog 68 #[.string s] w (Same w (.bool (Dv.devB s))) := by
  unfold maxLen at hs
  obtain ⟨e1, h1⟩ : ∃ e, decide ((1 : Int) ≤ (s.size : Nat)) = e := ⟨_, rfl⟩
  obtain ⟨e2, h2⟩ : ∃ e, decide ((s.size : Nat) ≤ (32 : Int)) = e := ⟨_, rfl⟩
  have HE : Hid (Dv.devB s = (e1 && e2)) := Lib.hid (by
    subst h1 h2
    unfold Dv.devB
    rw [Bool.eq_iff_iff]; simp; omega)
  go_enter Try.func68, Try.ntmps68
  cases e1 <;> cases e2
  all_goals
    go_wp2_with fail
    go_ret
    exact ⟨ret_bool (by rw [HE.out]; rfl), rfl⟩
theorem within_any (n m : Int) (w : World) : Calls Try.prog 69 #[.int .i64 n, .int .i64 m, .int .i64 1000000000000] w (Same w (.bool (Dv.inR n m))) := by
  obtain ⟨e1, h1⟩ : ∃ e, decide (m ≤ n) = e := ⟨_, rfl⟩
  obtain ⟨e2, h2⟩ : ∃ e, decide (n ≤ 1000000000000) = e := ⟨_, rfl⟩
  have HE : Hid (Dv.inR n m = (e1 && e2)) := Lib.hid (by subst h1 h2; rfl)
  go_enter Try.func69, Try.ntmps69
  cases e1 <;> cases e2
  all_goals
    go_wp2_with fail
    go_ret
    exact ⟨ret_bool (by rw [HE.out]; rfl), rfl⟩

set_option maxRecDepth 100000 in
set_option maxHeartbeats 4000000 in
theorem rnames43_any (A : Option Addr) (n c : Nat) (l : List Kys) (w : World) (hr : Rd.kys.Holds w A n l) (hn : n ≤ maxLen) :
    Calls Try.prog 61 #[.slice A n c] w (Same w (.bool (Dv.namesB (l.map kv)))) := by
  unfold maxLen at hn
  have HL := Lib.hid hr.length
  go_enter Try.func61, Try.ntmps61
  go_wp2_with fail
  go_loop [3] (fun i => ∃ k : Nat, k ≤ n ∧ i = .int .i64 k ∧ Dv.namesB ((l.map kv).take k) = true) (fun i => n - (intOf i).toNat)
  case atStart => exact ⟨0, by omega, rfl, rfl⟩
  case round =>
    obtain ⟨k, hk, rfl, hnm⟩ := hrel
    have HNM := Lib.hid hnm
    clear hnm
    by_cases hlt : k < n
    · obtain ⟨b, o, ⟨xu, xm, xp, ⟨xA, xn, xc, xl⟩⟩, rfl, hbl, hu, _, hok, hxa⟩ := hr.mid (by decide) hlt
      have hus : xu.size ≤ maxLen := hok.1
      have hdv : Rd.dvc.Holds w xA xn xl := hok.2.2.2.1.1
      have hdn : xn ≤ maxLen := Nat.le_trans hok.2.2.2.1.2.1 hok.2.2.2.1.2.2
      unfold maxLen at hdn
      have x0 : w.cell? ⟨b, o + k * 4, none⟩ = some (.string xu) := hxa 0 _ rfl
      have x3 : w.cell? ⟨b, o + k * 4 + 3, none⟩ = some (.slice xA xn xc) := hxa 3 _ rfl
      have HU := Lib.hid (Dv.map_at hu)
      obtain ⟨t, ht⟩ : ∃ t, I.userB (bs xu) = t := ⟨_, rfl⟩
      have CU := ruser_any xu w hus
      rw [ht] at CU
      have HCU := Lib.hid CU; have HT := Lib.hid ht
      clear CU ht hu hok hxa
      cases t
      · have HF : Hid (Dv.namesB (l.map kv) = false) := Lib.hid (Dv.all_false _ HU.out (by show (I.userB (bs xu) && _) = false; rw [HT.out]; rfl))
        go_wp2_with fail
        refine HCU.out.mono ?_
        rintro e w1 ⟨rfl, rfl⟩
        simp only [I.errOf]
        go_wp2_with fail
        go_ret
        exact ⟨ret_bool (by rw [HF.out]), rfl⟩
      · go_wp2_with fail
        refine HCU.out.mono ?_
        rintro e w1 ⟨rfl, rfl⟩
        simp only [I.errOf]
        go_wp2_with fail
        go_loop [4] (fun j => ∃ i : Nat, i ≤ xn ∧ j = .int .i64 i ∧ (xl.take i).all (fun d => Dv.devB d.id) = true) (fun j => xn - (intOf j).toNat)
        case atStart => exact ⟨0, by omega, rfl, rfl⟩
        case round =>
          obtain ⟨i, hi, rfl, hal⟩ := hrel
          have HAL := Lib.hid hal
          clear hal HCU
          by_cases hlt2 : i < xn
          · obtain ⟨b3, o3, d, rfl, hb3l, hdd, _, hdok, hda⟩ := hdv.mid (by decide) hlt2
            have hds : d.id.size ≤ maxLen := hdok.1
            have z0 : w.cell? ⟨b3, o3 + i * 3, none⟩ = some (.string d.id) := hda 0 _ rfl
            obtain ⟨t1, ht1⟩ : ∃ t, Dv.devB d.id = t := ⟨_, rfl⟩
            have CD := rdev_any d.id w hds
            rw [ht1] at CD
            have HCD := Lib.hid CD; have HT1 := Lib.hid ht1; have HD := Lib.hid hdd
            clear CD ht1 hdd hdok hda
            cases t1
            · have HF : Hid (Dv.namesB (l.map kv) = false) := Lib.hid (Dv.all_false _ HU.out (by
                show (I.userB (bs xu) && xl.all fun d => Dv.devB d.id) = false
                rw [Dv.all_false _ HD.out HT1.out, Bool.and_false]))
              go_wp2_with fail
              refine HCD.out.mono ?_
              rintro e w1 ⟨rfl, rfl⟩
              go_wp2_with fail
              go_ret
              exact ⟨ret_bool (by rw [HF.out]), rfl⟩
            · have HN : Hid ((xl.take (i + 1)).all (fun d => Dv.devB d.id) = true) := Lib.hid (by rw [Dv.all_take _ HD.out, HAL.out, HT1.out]; rfl)
              go_wp2_with fail
              refine HCD.out.mono ?_
              rintro e w1 ⟨rfl, rfl⟩
              go_wp2_with fail
              exact ⟨⟨i + 1, by omega, by go_num, HN.out⟩, by simp [intOf]; omega⟩
          · have HN : Hid (Dv.namesB ((l.map kv).take (k + 1)) = true) := Lib.hid (by
              have a := HAL.out
              rw [List.take_of_length_le (by have := hdv.length; omega)] at a
              have h := HNM.out
              unfold Dv.namesB at h ⊢
              rw [Dv.all_take _ HU.out, h]
              show (true && (I.userB (bs xu) && xl.all fun d => Dv.devB d.id)) = true
              rw [HT.out, a]; rfl)
            go_wp2_with fail
            exact ⟨⟨k + 1, by omega, by go_num, HN.out⟩, by simp [intOf]; omega⟩
    · have HF : Hid (Dv.namesB (l.map kv) = true) := Lib.hid (by
        have h := HNM.out
        rwa [List.take_of_length_le (by rw [List.length_map, HL.out]; omega)] at h)
      go_wp2_with fail
      go_ret
      exact ⟨ret_bool (by rw [HF.out]), rfl⟩

set_option maxRecDepth 100000 in
set_option maxHeartbeats 4000000 in
theorem rranges_any (A : Option Addr) (n c : Nat) (l : List Kys) (w : World) (hr : Rd.kys.Holds w A n l) (hn : n ≤ maxLen) :
    Calls Try.prog 63 #[.slice A n c] w (Same w (.bool (Dv.numbersB (l.map kv)))) := by
  unfold maxLen at hn
  have HL := Lib.hid hr.length
  go_enter Try.func63, Try.ntmps63
  go_wp2_with fail
  go_loop [3] (fun i => ∃ k : Nat, k ≤ n ∧ i = .int .i64 k ∧ Dv.numbersB ((l.map kv).take k) = true) (fun i => n - (intOf i).toNat)
  case atStart => exact ⟨0, by omega, rfl, rfl⟩
  case round =>
    obtain ⟨k, hk, rfl, hnm⟩ := hrel
    have HNM := Lib.hid hnm
    clear hnm
    by_cases hlt : k < n
    · obtain ⟨b, o, ⟨xu, xm, xp, ⟨xA, xn, xc, xl⟩⟩, rfl, hbl, hu, _, hok, hxa⟩ := hr.mid (by decide) hlt
      have hdv : Rd.dvc.Holds w xA xn xl := hok.2.2.2.1.1
      have hdn : xn ≤ maxLen := Nat.le_trans hok.2.2.2.1.2.1 hok.2.2.2.1.2.2
      unfold maxLen at hdn
      have x1 : w.cell? ⟨b, o + k * 4 + 1, none⟩ = some (.int .i64 xm) := hxa 1 _ rfl
      have x2 : w.cell? ⟨b, o + k * 4 + 2, none⟩ = some (.int .i64 xp) := hxa 2 _ rfl
      have x3 : w.cell? ⟨b, o + k * 4 + 3, none⟩ = some (.slice xA xn xc) := hxa 3 _ rfl
      have HU := Lib.hid (Dv.map_at hu)
      obtain ⟨m1, hm1⟩ : ∃ t, Dv.inR xm 0 = t := ⟨_, rfl⟩
      obtain ⟨m2, hm2⟩ : ∃ t, Dv.inR xp 0 = t := ⟨_, rfl⟩
      have C1 := within_any xm 0 w
      have C2 := within_any xp 0 w
      rw [hm1] at C1
      rw [hm2] at C2
      have HC1 := Lib.hid C1; have HC2 := Lib.hid C2; have HM1 := Lib.hid hm1; have HM2 := Lib.hid hm2
      clear C1 C2 hm1 hm2 hu hok hxa
      have HB : Hid ((m1 && m2) = false → Dv.numbersB (l.map kv) = false) := Lib.hid fun h => Dv.all_false _ HU.out (by
        show (Dv.inR xm 0 && Dv.inR xp 0 && _) = false
        rw [HM1.out, HM2.out, h]; rfl)
      cases m1
      · have HF := Lib.hid (HB.out rfl)
        go_wp2_with fail
        refine HC1.out.mono ?_
        rintro e w1 ⟨rfl, rfl⟩
        go_wp2_with fail
        go_ret
        exact ⟨ret_bool (by rw [HF.out]), rfl⟩
      go_wp2_with fail
      refine HC1.out.mono ?_
      rintro e w1 ⟨rfl, rfl⟩
      cases m2
      · have HF := Lib.hid (HB.out rfl)
        go_wp2_with fail
        refine HC2.out.mono ?_
        rintro e w1 ⟨rfl, rfl⟩
        go_wp2_with fail
        go_ret
        exact ⟨ret_bool (by rw [HF.out]), rfl⟩
      go_wp2_with fail
      refine HC2.out.mono ?_
      rintro e w1 ⟨rfl, rfl⟩
      go_wp2_with fail
      go_loop [4] (fun j => ∃ i : Nat, i ≤ xn ∧ j = .int .i64 i ∧ (xl.take i).all (fun d => Dv.inR d.key 1) = true) (fun j => xn - (intOf j).toNat)
      case atStart => exact ⟨0, by omega, rfl, rfl⟩
      case round =>
        obtain ⟨i, hi, rfl, hal⟩ := hrel
        have HAL := Lib.hid hal
        clear hal HC1 HC2 HB
        by_cases hlt2 : i < xn
        · obtain ⟨b3, o3, d, rfl, hb3l, hdd, _, hdok, hda⟩ := hdv.mid (by decide) hlt2
          have z1 : w.cell? ⟨b3, o3 + i * 3 + 1, none⟩ = some (.int .i64 d.key) := hda 1 _ rfl
          obtain ⟨t1, ht1⟩ : ∃ t, Dv.inR d.key 1 = t := ⟨_, rfl⟩
          have CD := within_any d.key 1 w
          rw [ht1] at CD
          have HCD := Lib.hid CD; have HT1 := Lib.hid ht1; have HD := Lib.hid hdd
          clear CD ht1 hdd hdok hda
          cases t1
          · have HF : Hid (Dv.numbersB (l.map kv) = false) := Lib.hid (Dv.all_false _ HU.out (by
              show (Dv.inR xm 0 && Dv.inR xp 0 && xl.all fun d => Dv.inR d.key 1) = false
              rw [Dv.all_false _ HD.out HT1.out, Bool.and_false]))
            go_wp2_with fail
            refine HCD.out.mono ?_
            rintro e w1 ⟨rfl, rfl⟩
            go_wp2_with fail
            go_ret
            exact ⟨ret_bool (by rw [HF.out]), rfl⟩
          · have HN : Hid ((xl.take (i + 1)).all (fun d => Dv.inR d.key 1) = true) := Lib.hid (by rw [Dv.all_take _ HD.out, HAL.out, HT1.out]; rfl)
            go_wp2_with fail
            refine HCD.out.mono ?_
            rintro e w1 ⟨rfl, rfl⟩
            go_wp2_with fail
            exact ⟨⟨i + 1, by omega, by go_num, HN.out⟩, by simp [intOf]; omega⟩
        · have HN : Hid (Dv.numbersB ((l.map kv).take (k + 1)) = true) := Lib.hid (by
            have a := HAL.out
            rw [List.take_of_length_le (by have := hdv.length; omega)] at a
            have h := HNM.out
            unfold Dv.numbersB at h ⊢
            rw [Dv.all_take _ HU.out, h]
            show (true && (Dv.inR xm 0 && Dv.inR xp 0 && xl.all fun d => Dv.inR d.key 1)) = true
            rw [HM1.out, HM2.out, a]; rfl)
          go_wp2_with fail
          exact ⟨⟨k + 1, by omega, by go_num, HN.out⟩, by simp [intOf]; omega⟩
    · have HF : Hid (Dv.numbersB (l.map kv) = true) := Lib.hid (by
        have h := HNM.out
        rwa [List.take_of_length_le (by rw [List.length_map, HL.out]; omega)] at h)
      go_wp2_with fail
      go_ret
      exact ⟨ret_bool (by rw [HF.out]), rfl⟩

set_option maxRecDepth 100000 in
set_option maxHeartbeats 4000000 in
theorem rsigned_any (A : Option Addr) (n c : Nat) (l : List Kys) (w : World) (hr : Rd.kys.Holds w A n l) (hn : n ≤ maxLen) :
    Calls Try.prog 64 #[.slice A n c] w (Same w (.bool (!Dv.stateB (l.map kv)))) := by
  unfold maxLen at hn
  have HL := Lib.hid hr.length
  go_enter Try.func64, Try.ntmps64
  go_wp2_with fail
  go_loop [3] (fun i => ∃ k : Nat, k ≤ n ∧ i = .int .i64 k ∧ Dv.stateB ((l.map kv).take k) = true) (fun i => n - (intOf i).toNat)
  case atStart => exact ⟨0, by omega, rfl, rfl⟩
  case round =>
    obtain ⟨k, hk, rfl, hnm⟩ := hrel
    have HNM := Lib.hid hnm
    clear hnm
    by_cases hlt : k < n
    · obtain ⟨b, o, ⟨xu, xm, xp, ⟨xA, xn, xc, xl⟩⟩, rfl, hbl, hu, _, hok, hxa⟩ := hr.mid (by decide) hlt
      have hdv : Rd.dvc.Holds w xA xn xl := hok.2.2.2.1.1
      have hdn : xn ≤ maxLen := Nat.le_trans hok.2.2.2.1.2.1 hok.2.2.2.1.2.2
      unfold maxLen at hdn
      have x1 : w.cell? ⟨b, o + k * 4 + 1, none⟩ = some (.int .i64 xm) := hxa 1 _ rfl
      have x3 : w.cell? ⟨b, o + k * 4 + 3, none⟩ = some (.slice xA xn xc) := hxa 3 _ rfl
      have HU := Lib.hid (Dv.map_at hu)
      clear hu hok hxa
      go_wp2_with fail
      go_loop [4] (fun j => ∃ i : Nat, i ≤ xn ∧ j = .int .i64 i ∧ (xl.take i).all (fun d => !d.signed || decide (xm ≠ 0)) = true) (fun j => xn - (intOf j).toNat)
      case atStart => exact ⟨0, by omega, rfl, rfl⟩
      case round =>
        obtain ⟨i, hi, rfl, hal⟩ := hrel
        have HAL := Lib.hid hal
        clear hal
        by_cases hlt2 : i < xn
        · obtain ⟨b3, o3, d, rfl, hb3l, hdd, _, hdok, hda⟩ := hdv.mid (by decide) hlt2
          obtain ⟨ds, hds⟩ : ∃ s, d.signed = s := ⟨_, rfl⟩
          have z2 : w.cell? ⟨b3, o3 + i * 3 + 2, none⟩ = some (.bool d.signed) := hda 2 _ rfl
          rw [hds] at z2
          have HDS := Lib.hid hds; have HD := Lib.hid hdd
          clear hdd hdok hda hds
          have HN : Hid ((!ds || decide (xm ≠ 0)) = true → (xl.take (i + 1)).all (fun d => !d.signed || decide (xm ≠ 0)) = true) := Lib.hid fun h => by
            rw [Dv.all_take _ HD.out, HAL.out, HDS.out, h]; rfl
          cases ds
          · have HN2 := Lib.hid (HN.out rfl)
            clear HN
            go_wp2_with fail
            exact ⟨⟨i + 1, by omega, by go_num, HN2.out⟩, by simp [intOf]; omega⟩
          · by_cases hm0 : xm = 0
            · have e0 : (xm == 0) = true := eqT hm0
              have HF : Hid (Dv.stateB (l.map kv) = false) := Lib.hid (Dv.all_false _ HU.out (Dv.all_false _ HD.out (by
                show (!d.signed || decide (xm ≠ 0)) = false
                rw [HDS.out, hm0]; rfl)))
              have HM0 := Lib.hid hm0
              clear hm0 HN
              go_wp2_with fail
              go_ret
              exact ⟨ret_bool (by rw [HF.out]; rfl), rfl⟩
            · have e0 : (xm == 0) = false := eqF hm0
              have HN2 := Lib.hid (HN.out (by rw [decide_eq_true hm0]; rfl))
              clear hm0 HN
              go_wp2_with fail
              exact ⟨⟨i + 1, by omega, by go_num, HN2.out⟩, by simp [intOf]; omega⟩
        · have HN : Hid (Dv.stateB ((l.map kv).take (k + 1)) = true) := Lib.hid (by
            have a := HAL.out
            rw [List.take_of_length_le (by have := hdv.length; omega)] at a
            have h := HNM.out
            unfold Dv.stateB at h ⊢
            rw [Dv.all_take _ HU.out, h]
            show (true && (xl.all fun d => !d.signed || decide (xm ≠ 0))) = true
            rw [a]; rfl)
          go_wp2_with fail
          exact ⟨⟨k + 1, by omega, by go_num, HN.out⟩, by simp [intOf]; omega⟩
    · have HF : Hid (Dv.stateB (l.map kv) = true) := Lib.hid (by
        have h := HNM.out
        rwa [List.take_of_length_le (by rw [List.length_map, HL.out]; omega)] at h)
      go_wp2_with fail
      go_ret
      exact ⟨ret_bool (by rw [HF.out]; rfl), rfl⟩

/-- it returns some bool; if that is true, the list is short -/
def SmallQ (n : Nat) (w : World) (e : Ending) (w' : World) : Prop := ∃ b, e = .returned (.bool b) ∧ (b = true → n ≤ 210) ∧ w' = w
set_option maxRecDepth 100000 in
set_option maxHeartbeats 4000000 in
theorem small_any (A : Option Addr) (n c : Nat) (l : List Kys) (w : World) (hr : Rd.kys.Holds w A n l) (hn : n ≤ maxLen) :
    Calls Try.prog 31 #[.slice A n c] w (SmallQ n w) := by
  unfold maxLen at hn
  by_cases h210 : (210 : Int) < n
  · go_enter Try.func31, Try.ntmps31
    go_wp2_with fail
    go_ret
    exact ⟨false, rfl, by simp, rfl⟩
  have HS : Hid (n ≤ 210) := Lib.hid (by omega)
  go_enter Try.func31, Try.ntmps31
  go_wp2_with fail
  go_loop [3] (fun i => ∃ k : Nat, k ≤ n ∧ i = .int .i64 k) (fun i => n - (intOf i).toNat)
  case atStart => exact ⟨0, by omega, rfl⟩
  case round =>
    obtain ⟨k, hk, rfl⟩ := hrel
    by_cases hlt : k < n
    · obtain ⟨b, o, ⟨xu, xm, xp, ⟨xA, xn, xc, xl⟩⟩, rfl, hbl, hu, _, hok, hxa⟩ := hr.mid (by decide) hlt
      have hdv : Rd.dvc.Holds w xA xn xl := hok.2.2.2.1.1
      have hdn : xn ≤ maxLen := Nat.le_trans hok.2.2.2.1.2.1 hok.2.2.2.1.2.2
      unfold maxLen at hdn
      have x0 : w.cell? ⟨b, o + k * 4, none⟩ = some (.string xu) := hxa 0 _ rfl
      have x3 : w.cell? ⟨b, o + k * 4 + 3, none⟩ = some (.slice xA xn xc) := hxa 3 _ rfl
      clear hu hok hxa
      by_cases h1 : (100 : Int) < (xu.size : Nat)
      · go_wp2_with fail
        go_ret
        exact ⟨false, rfl, by simp, rfl⟩
      by_cases h2 : (20 : Int) < xn
      · go_wp2_with fail
        go_ret
        exact ⟨false, rfl, by simp, rfl⟩
      go_wp2_with fail
      go_loop [4] (fun j => ∃ i : Nat, i ≤ xn ∧ j = .int .i64 i) (fun j => xn - (intOf j).toNat)
      case atStart => exact ⟨0, by omega, rfl⟩
      case round =>
        obtain ⟨i, hi, rfl⟩ := hrel
        by_cases hlt2 : i < xn
        · obtain ⟨b3, o3, d, rfl, hb3l, hdd, _, hdok, hda⟩ := hdv.mid (by decide) hlt2
          have z0 : w.cell? ⟨b3, o3 + i * 3, none⟩ = some (.string d.id) := hda 0 _ rfl
          clear hdd hdok hda
          by_cases h3 : (100 : Int) < (d.id.size : Nat)
          · go_wp2_with fail
            go_ret
            exact ⟨false, rfl, by simp, rfl⟩
          · go_wp2_with fail
            exact ⟨⟨i + 1, by omega, by go_num⟩, by simp [intOf]; omega⟩
        · go_wp2_with fail
          exact ⟨⟨k + 1, by omega, by go_num⟩, by simp [intOf]; omega⟩
    · go_wp2_with fail
      go_ret
      exact ⟨true, rfl, fun _ => HS.out, rfl⟩

set_option maxRecDepth 100000 in
set_option maxHeartbeats 4000000 in
theorem rplace43_any (A : Option Addr) (n c : Nat) (l : List Dvc) (s : ByteArray) (w : World) (hr : Rd.dvc.Holds w A n l) (hn : n ≤ maxLen) :
    Calls Try.prog 54 #[.slice A n c, .string s] w (Same w (.int .i64 (Dv.idx l (bs s)))) := by
  unfold maxLen at hn
  have HL := Lib.hid hr.length
  go_enter Try.func54, Try.ntmps54
  go_wp2_with fail
  go_loop [5] (fun i => ∃ k : Nat, k ≤ n ∧ i = .int .i64 k ∧ NoF Dv.dk l (bs s) k) (fun i => n - (intOf i).toNat)
  case atStart => exact ⟨0, by omega, rfl, NoF.zero⟩
  case round =>
    obtain ⟨k, hk, rfl, hno⟩ := hrel
    by_cases hlt : k < n
    · obtain ⟨b, o, d, rfl, hbl, hu, _, hok, hxa⟩ := hr.mid (by decide) hlt
      have x0 : w.cell? ⟨b, o + k * 3, none⟩ = some (.string d.id) := hxa 0 _ rfl
      obtain ⟨e0, h0⟩ : ∃ e, (d.id.toList == s.toList) = e := ⟨_, rfl⟩
      have hd : decide (Dv.dk d = bs s) = e0 := by rw [← h0, streq]; rfl
      clear hok hxa
      cases e0
      · have HN := Lib.hid (hno.succ hu (of_decide_eq_false hd))
        clear hno hu hd
        go_wp2_with fail
        exact ⟨⟨k + 1, by omega, by go_num, HN.out⟩, by simp [intOf]; omega⟩
      · have HF : Hid (Dv.idx l (bs s) = (k : Nat)) := Lib.hid (by
          obtain ⟨hk2, rfl⟩ := List.getElem?_eq_some_iff.1 hu
          have : l.findIdx? (fun d => decide (Dv.dk d = bs s)) = some k := by
            rw [List.findIdx?_eq_some_iff_getElem]
            refine ⟨hk2, hd, fun j hj => ?_⟩
            have := hno j _ (List.getElem?_eq_getElem (by omega)) hj
            simp only [Bool.not_eq_true, decide_eq_false_iff_not]
            exact this
          unfold Dv.idx; rw [this])
        clear hno hu hd
        go_wp2_with fail
        go_ret
        exact ⟨ret_int HF.out.symm, rfl⟩
    · have HF : Hid (Dv.idx l (bs s) = -1) := Lib.hid (by
        have : l.findIdx? (fun d => decide (Dv.dk d = bs s)) = none := by
          rw [List.findIdx?_eq_none_iff]
          intro y hy
          obtain ⟨j, hj, rfl⟩ := List.mem_iff_getElem.1 hy
          have := hno j _ (List.getElem?_eq_getElem hj) (by have := HL.out; omega)
          exact decide_eq_false this
        unfold Dv.idx; rw [this])
      clear hno
      go_wp2_with fail
      go_ret
      exact ⟨ret_int HF.out.symm, rfl⟩
end Go.Proofs.Ytbhkgdfmjkblcaa
