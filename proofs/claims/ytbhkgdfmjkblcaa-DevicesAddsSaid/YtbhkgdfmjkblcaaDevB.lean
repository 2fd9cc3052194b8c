/-
  The walks through the reference's ordered and Check; valid; both Changed.
-/
import Derived.Test.YtbhkgdfmjkblcaaDevC
import Derived.Test.YtbhkgdfmjkblcaaDevD
import Derived.Test.YtbhkgdfmjkblcaaNamesT
import Derived.Test.YtbhkgdfmjkblcaaRet
namespace Go.Proofs.Ytbhkgdfmjkblcaa
open Go.RowKit
attribute [local go_sem ↓] ex_st_ky ex_st_dv
attribute [local go_sem] st_ky_new st_ky st_dv_new st_dv

set_option maxRecDepth 100000 in
set_option maxHeartbeats 8000000 in
theorem rordered_any (A : Option Addr) (n c : Nat) (l : List Kys) (w : World) (hr : Rd.kys.Holds w A n l) (hn : n ≤ maxLen) :
    Calls Try.prog 62 #[.slice A n c] w (Ret w (.bool (Dv.orderB (l.map kv)))) := by
  unfold maxLen at hn
  have HL := Lib.hid hr.length
  go_enter Try.func62, Try.ntmps62
  go_wp2_with fail
  go_loopw [3] (fun i wr => ∃ k : Nat, k ≤ n ∧ i = .int .i64 k ∧ Below w.heap.size w wr ∧ Dv.orderB ((l.map kv).take k) = true) (fun i _ => n - (intOf i).toNat)
  case atStart => exact ⟨0, by omega, rfl, Below.refl _ _, rfl⟩
  case round =>
    obtain ⟨k, hk, rfl, hbw, hnm⟩ := hrel
    have HNM := Lib.hid hnm
    clear hnm
    by_cases hlt : k < n
    · obtain ⟨b, o, ⟨xu, xm, xp, ⟨xA, xn, xc, xl⟩⟩, rfl, hbl, hu, _, hok, hxa⟩ := (hr.on hbw).mid (by decide) hlt
      have hdv : Rd.dvc.Holds wr xA xn xl := hok.2.2.2.1.1
      have hdn : xn ≤ maxLen := Nat.le_trans hok.2.2.2.1.2.1 hok.2.2.2.1.2.2
      unfold maxLen at hdn
      have hkn : (k : Int) < n := by omega
      have x0 : wr.cell? ⟨b, o + k * 4, none⟩ = some (.string xu) := hxa 0 _ rfl
      have x3 : wr.cell? ⟨b, o + k * 4 + 3, none⟩ = some (.slice xA xn xc) := hxa 3 _ rfl
      have HU := Lib.hid (Dv.map_at hu)
      obtain ⟨pv, hpi, hpc⟩ := Dv.prev_of (key := Dv.uk) (Dv.map_at hu)
      have HPI := Lib.hid hpi
      have HBW := Lib.hid hbw
      go_upto_region 4 with fail
      go_cut [27] (fun s V => s = .bool (!pv) ∧ Below wr.heap.size wr V)
      case first =>
        clear hpi hu hok hxa hbw
        rcases hpc with ⟨hk0, rfl⟩ | ⟨i, y', hki, hy', hl⟩
        · have hd : decide (0 < k) = false := by simp; omega
          have HK0 := Lib.hid hk0
          clear hk0
          go_quiet (fail)
          go_wp2_with fail
          go_meet
          exact ⟨rfl, below_drewN (Below.refl _ _) _⟩
        · obtain ⟨b', o', y, h', _, hy, _, _, hya⟩ := (hr.on HBW.out).mid (by decide) (show i < n by omega)
          cases h'
          have hd : decide (0 < k) = true := by simp; omega
          have hw1 : IntKind.i64.wrap ((k : Int) - 1) = (i : Int) := by rw [show (k : Int) - 1 = (i : Int) by omega]; exact IntWalk.i64_in _ (by omega)
          have hin : (i : Int) < n := by omega
          have p0 : wr.cell? ⟨b, o + i * 4, none⟩ = some (.string y.user) := hya 0 _ rfl
          have hg : Op.bytesLess y.user.toList xu.toList = pv := by
            rw [Dv.map_at hy] at hy'
            cases hy'
            rw [bytesLess_lt, ← hl]; rfl
          have HKI := Lib.hid hki
          clear hki hy' hl hya hy
          cases pv
          all_goals
            go_quiet (fail)
            go_wp2_with fail
            go_meet
            exact ⟨rfl, below_drewN (Below.refl _ _) _⟩
      obtain ⟨rfl, hb1⟩ := hcut
      rename World => W1
      have hb2 := below_then hbw hb1
      have hdv1 := hdv.on hb1
      have y3 : W1.cell? ⟨b, o + k * 4 + 3, none⟩ = some (.slice xA xn xc) := (range_on hxa hb1 hbl) 3 _ rfl
      clear hpc hxa x0 x3 hu hok hpi hbw hbl hb1 hdv
      cases pv
      · have HF : Hid (Dv.orderB (l.map kv) = false) := Lib.hid (by
          have h1 : Dv.incB Dv.uk (l.map kv) = false := by
            cases hi : Dv.incB Dv.uk (l.map kv)
            · rfl
            · have h2 : Dv.incB Dv.uk ((l.map kv).take (k + 1)) = true := Dv.incB_iff.2 (List.Pairwise.sublist (List.take_sublist _ _) (Dv.incB_iff.1 hi))
              rw [HPI.out, Bool.and_false] at h2; cases h2
          unfold Dv.orderB; rw [h1]; rfl)
        go_wp2_with fail
        go_ret
        exact ⟨ret_bool (by rw [HF.out]), hb2⟩
      go_wp2_with fail
      go_loopw [5] (fun j wq => ∃ i : Nat, 1 ≤ i ∧ i ≤ xn + 1 ∧ j = .int .i64 i ∧ Below W1.heap.size W1 wq ∧ Dv.incB Dv.dk (xl.take i) = true) (fun j _ => xn + 1 - (intOf j).toNat)
      case atStart =>
        refine ⟨1, by omega, by omega, rfl, Below.refl _ _, ?_⟩
        cases xl with
        | nil => rfl
        | cons d t => exact Dv.incB_zero (x := d) rfl
      case round =>
        obtain ⟨i, hi1, hi, rfl, hbq, hal⟩ := hrel
        have HAL := Lib.hid hal
        clear hal y3
        have hbz := below_then hb2 hbq
        by_cases hlt2 : i < xn
        · obtain ⟨b3, o3, d, rfl, hb3l, hdd, _, _, hda⟩ := (hdv1.on hbq).mid (by decide) hlt2
          have z0 : wr.cell? ⟨b3, o3 + i * 3, none⟩ = some (.string d.id) := hda 0 _ rfl
          obtain ⟨i', hii⟩ : ∃ i', i = i' + 1 := ⟨i - 1, by omega⟩
          obtain ⟨b', o', d', h', _, hdd', _, _, hda'⟩ := (hdv1.on hbq).mid (by decide) (show i' < xn by omega)
          cases h'
          have hw1 : IntKind.i64.wrap ((i : Int) - 1) = (i' : Int) := by rw [show (i : Int) - 1 = (i' : Int) by omega]; exact IntWalk.i64_in _ (by omega)
          have hin : (i' : Int) < xn := by omega
          have hin2 : (i : Int) < xn := by omega
          have p0 : wr.cell? ⟨b3, o3 + i' * 3, none⟩ = some (.string d'.id) := hda' 0 _ rfl
          obtain ⟨pw, hpw⟩ : ∃ p, decide (Dv.dk d' < Dv.dk d) = p := ⟨_, rfl⟩
          have hg : Op.bytesLess d'.id.toList d.id.toList = pw := by rw [bytesLess_lt, ← hpw]; rfl
          have HN : Hid (pw = true → Dv.incB Dv.dk (xl.take (i + 1)) = true) := Lib.hid fun h => by
            subst hii
            rw [Dv.incB_succ hdd' hdd, HAL.out, hpw, h]; rfl
          have HF : Hid (pw = false → Dv.orderB (l.map kv) = false) := Lib.hid fun h => by
            subst hii
            have h1 : (Dv.incB Dv.dk xl) = false := Dv.incB_not hdd' hdd (by rw [hpw, h])
            unfold Dv.orderB
            rw [Dv.all_false _ HU.out (by exact h1), Bool.and_false]
          have HII := Lib.hid hii
          clear hii hpw hdd hdd' hda hda' hb3l
          cases pw
          · have HF2 := Lib.hid (HF.out rfl)
            clear HN HF
            go_wp2_with fail
            go_quiet (fail)
            go_wp2_with fail
            go_ret
            exact ⟨ret_bool (by rw [HF2.out]), below_drewN hbz _⟩
          · have HN2 := Lib.hid (HN.out rfl)
            clear HN HF
            go_wp2_with fail
            go_quiet (fail)
            go_wp2_with fail
            exact ⟨⟨i + 1, by omega, by omega, by go_num, below_drewN hbq _, HN2.out⟩, by simp [intOf]; omega⟩
        · have HN : Hid (Dv.orderB ((l.map kv).take (k + 1)) = true) := Lib.hid (by
            have a := HAL.out
            rw [List.take_of_length_le (by have := hdv1.length; omega)] at a
            have h := HNM.out
            unfold Dv.orderB at h ⊢
            rw [Bool.and_eq_true] at h
            rw [Dv.all_take _ HU.out, HPI.out, h.1, h.2]
            show (true && true && (true && Dv.incB Dv.dk xl)) = true
            rw [a]; rfl)
          go_wp2_with fail
          exact ⟨⟨k + 1, by omega, by go_num, hbz, HN.out⟩, by simp [intOf]; omega⟩
    · have HF : Hid (Dv.orderB (l.map kv) = true) := Lib.hid (by
        have h := HNM.out
        rwa [List.take_of_length_le (by rw [List.length_map, HL.out]; omega)] at h)
      go_wp2_with fail
      go_ret
      exact ⟨ret_bool (by rw [HF.out]), hbw⟩

set_option maxRecDepth 100000 in
set_option maxHeartbeats 4000000 in
theorem rcheck43_any (A : Option Addr) (n c : Nat) (l : List Kys) (w : World) (hr : Rd.kys.Holds w A n l) (hn : n ≤ maxLen) :
    Calls Try.prog 34 #[.slice A n c] w (Ret w (.int .i64 (Dv.chk (l.map kv)))) := by
  have HL := Lib.hid hr.length
  obtain ⟨t1, ht1⟩ : ∃ t, Dv.namesB (l.map kv) = t := ⟨_, rfl⟩
  obtain ⟨t2, ht2⟩ : ∃ t, Dv.orderB (l.map kv) = t := ⟨_, rfl⟩
  obtain ⟨t3, ht3⟩ : ∃ t, Dv.numbersB (l.map kv) = t := ⟨_, rfl⟩
  obtain ⟨t5, ht5⟩ : ∃ t, Dv.stateB (l.map kv) = t := ⟨_, rfl⟩
  have C1 := rnames43_any A n c l w hr hn
  have C2 := rordered_any A n c l w hr hn
  have C3 := fun W (h : Rd.kys.Holds W A n l) => rranges_any A n c l W h hn
  have C5 := fun W (h : Rd.kys.Holds W A n l) => rsigned_any A n c l W h hn
  rw [ht1] at C1; rw [ht2] at C2; rw [ht3] at C3; rw [ht5] at C5
  have HC : Hid (Dv.chk (l.map kv) = if t1 = false then 3 else if t2 = false then 8 else if t3 = false then 2 else if Dv.fullB (l.map kv) = false then 29 else if t5 = false then 26 else 0) := Lib.hid (by unfold Dv.chk; rw [ht1, ht2, ht3, ht5])
  have H1 := Lib.hid C1; have H2 := Lib.hid C2; have H3 := Lib.hid C3; have H5 := Lib.hid C5
  clear C1 C2 C3 C5 ht1 ht2 ht3 ht5
  unfold maxLen at hn
  go_enter Try.func34, Try.ntmps34
  go_wp2_with fail
  refine H1.out.mono ?_
  rintro e w1 ⟨rfl, rfl⟩
  cases t1
  · go_wp2_with fail
    go_ret
    exact ⟨ret_int (by rw [HC.out]; rfl), Below.refl _ _⟩
  go_wp2_with fail
  refine H2.out.mono ?_
  rintro e w2 ⟨rfl, b2⟩
  have hr2 := hr.on b2
  cases t2
  · go_wp2_with fail
    go_ret
    exact ⟨ret_int (by rw [HC.out]; rfl), b2⟩
  go_wp2_with fail
  refine (H3.out w2 hr2).mono ?_
  rintro e w3 ⟨rfl, rfl⟩
  cases t3
  · go_wp2_with fail
    go_ret
    exact ⟨ret_int (by rw [HC.out]; rfl), b2⟩
  by_cases h200 : (200 : Int) < n
  · have HF : Hid (Dv.fullB (l.map kv) = false) := Lib.hid (by
      unfold Dv.fullB
      rw [List.length_map, HL.out, decide_eq_false (by omega)]; rfl)
    go_wp2_with fail
    go_ret
    exact ⟨ret_int (by rw [HC.out, HF.out]; rfl), b2⟩
  have H200 : Hid (decide ((l.map kv).length ≤ 200) = true) := Lib.hid (by rw [List.length_map, HL.out]; exact decide_eq_true (by omega))
  go_wp2_with fail
  go_loop [3] (fun i => ∃ k : Nat, k ≤ n ∧ i = .int .i64 k ∧ ((l.map kv).take k).all (fun k => decide (k.devs.length ≤ 10)) = true) (fun i => n - (intOf i).toNat)
  case atStart => exact ⟨0, by omega, rfl, rfl⟩
  case round =>
    obtain ⟨k, hk, rfl, hal⟩ := hrel
    have HAL := Lib.hid hal
    clear hal
    by_cases hlt : k < n
    · obtain ⟨b, o, ⟨xu, xm, xp, ⟨xA, xn, xc, xl⟩⟩, rfl, hbl, hu, _, hok, hxa⟩ := hr2.mid (by decide) hlt
      have HDL : Hid (xl.length = xn) := Lib.hid hok.2.2.2.1.1.length
      have x3 : w2.cell? ⟨b, o + k * 4 + 3, none⟩ = some (.slice xA xn xc) := hxa 3 _ rfl
      have HU := Lib.hid (Dv.map_at hu)
      clear hu hok hxa
      by_cases h10 : (10 : Int) < xn
      · have HF : Hid (Dv.fullB (l.map kv) = false) := Lib.hid (by
          unfold Dv.fullB
          rw [Dv.all_false _ HU.out (by show decide (xl.length ≤ 10) = false; rw [HDL.out]; exact decide_eq_false (by omega)), Bool.and_false])
        go_wp2_with fail
        go_ret
        exact ⟨ret_int (by rw [HC.out, HF.out]; rfl), b2⟩
      · have HN : Hid (((l.map kv).take (k + 1)).all (fun k => decide (k.devs.length ≤ 10)) = true) := Lib.hid (by
          rw [Dv.all_take _ HU.out, HAL.out]
          show (true && decide (xl.length ≤ 10)) = true
          rw [HDL.out, decide_eq_true (by omega)]; rfl)
        go_wp2_with fail
        exact ⟨⟨k + 1, by omega, by go_num, HN.out⟩, by simp [intOf]; omega⟩
    · have HF : Hid (Dv.fullB (l.map kv) = true) := Lib.hid (by
        have a := HAL.out
        rw [List.take_of_length_le (by rw [List.length_map, HL.out]; omega)] at a
        unfold Dv.fullB
        rw [H200.out, a]; rfl)
      go_wp2_with fail
      refine (H5.out w2 hr2).mono ?_
      rintro e w4 ⟨rfl, rfl⟩
      cases t5
      all_goals
        go_wp2_with fail
        go_ret
        exact ⟨ret_int (by rw [HC.out, HF.out]; rfl), b2⟩

/-- it returns some bool; if that is true, the list is short, and Check accepts it -/
def ValidQ (n : Nat) (l : List Kys) (w : World) (e : Ending) (w' : World) : Prop := ∃ b, e = .returned (.bool b) ∧ (b = true → n ≤ 210 ∧ Dv.Valid (l.map kv)) ∧ Below w.heap.size w w'
set_option maxRecDepth 100000 in
set_option maxHeartbeats 4000000 in
theorem valid_any (A : Option Addr) (n c : Nat) (l : List Kys) (w : World) (hr : Rd.kys.Holds w A n l) (hn : n ≤ maxLen) :
    Calls Try.prog 35 #[.slice A n c] w (ValidQ n l w) := by
  have HC := Lib.hid (rcheck43_any A n c l w hr hn)
  go_enter Try.func35, Try.ntmps35
  go_wp2_with fail
  refine (small_any A n c l w hr hn).mono ?_
  rintro e w1 ⟨b, rfl, hb, rfl⟩
  have HB := Lib.hid hb
  clear hb
  cases b
  · go_wp2_with fail
    go_ret
    exact ⟨false, rfl, by simp, Below.refl _ _⟩
  · obtain ⟨k, hk⟩ : ∃ k, Dv.chk (l.map kv) = k := ⟨_, rfl⟩
    have C := HC.out
    rw [hk] at C
    have HC2 := Lib.hid C; have HK := Lib.hid hk
    clear C hk HC
    go_wp2_with fail
    refine HC2.out.mono ?_
    rintro e w2 ⟨rfl, b2⟩
    by_cases h0 : k = 0
    · have e0 : (k == 0) = true := eqT h0
      have HV : Hid (n ≤ 210 ∧ Dv.Valid (l.map kv)) := Lib.hid ⟨HB.out (by first | trivial | rfl), Dv.chk_iff.1 (by rw [HK.out, h0])⟩
      clear h0
      go_wp2_with fail
      go_ret
      exact ⟨true, rfl, fun _ => HV.out, b2⟩
    · have e0 : (k == 0) = false := eqF h0
      clear h0
      go_wp2_with fail
      go_ret
      exact ⟨false, rfl, by simp, b2⟩
end Go.Proofs.Ytbhkgdfmjkblcaa
