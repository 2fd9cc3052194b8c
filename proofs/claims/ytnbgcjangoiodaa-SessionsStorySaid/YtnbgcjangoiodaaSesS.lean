/-
  The law SessionsStory.
-/
import Derived.Test.YtnbgcjangoiodaaSesA
import Derived.Test.YtnbgcjangoiodaaSesC
namespace Go.Proofs.Ytnbgcjangoiodaa
open Go.RowKit
attribute [local go_sem ↓] ex_st_shr ex_st_own ex_st_ses
attribute [local go_sem] st_shr_new st_shr st_own_new st_ses_new st_ses

structure Sstp where
  message : Bool
  user : ByteArray
  id : ByteArray
def Rd.sstp : Rd Sstp := (Rd.pair Rd.bool (Rd.pair Rd.dev Rd.unit)).as fun x => (x.message, ⟨x.user, x.id⟩, ())
/-- what a device can read after some steps -/
def StI (m : List Shr) (a : Ss.D) (fr : Int) : Prop := (Ss.find m a = none ∧ fr = -1) ∨ ∃ y, Ss.find m a = some y ∧ y.index = fr ∧ 0 ≤ fr
theorem StI.zero (a : Ss.D) : StI [] a (-1) := .inl ⟨rfl, rfl⟩
theorem StI.bound {m : List Shr} {a : Ss.D} {fr : Int} (h : StI m a fr) : -1 ≤ fr := by
  rcases h with ⟨_, rfl⟩ | ⟨_, _, _, h⟩ <;> omega
theorem StI.reads {m : List Shr} {a : Ss.D} {fr : Int} (h : StI m a fr) (sent i : Int) : Ss.reads m sent a i = (decide (0 ≤ fr) && decide (fr ≤ i) && decide (i < sent)) := by
  unfold Ss.reads
  rcases h with ⟨h1, rfl⟩ | ⟨y, h1, rfl, h0⟩
  · rw [h1]; rfl
  · rw [h1, decide_eq_true h0]
    simp only [Bool.true_and]
    by_cases hi : y.index ≤ i
    · rw [decide_eq_true hi, decide_eq_true (show 0 ≤ i by omega)]; simp
    · rw [decide_eq_false hi]; simp
theorem give_none {m : List Shr} {u d : ByteArray} (h : Ss.giveErr m (bs u) (bs d) = 0) : Ss.find m (bs u, bs d) = none := by
  unfold Ss.giveErr at h
  cases hf : Ss.find m (bs u, bs d) with
  | none => rfl
  | some y =>
    rw [hf] at h
    simp at h
    repeat' split at h
    all_goals simp_all
theorem StI.give {m : List Shr} {a : Ss.D} {fr : Int} (h : StI m a fr) {u d : ByteArray} {sent : Int} (hs : 0 ≤ sent) (hg : Ss.giveErr m (bs u) (bs d) = 0) :
    StI (Ss.put m ⟨u, d, sent⟩) a (if a = (bs u, bs d) then sent else fr) := by
  have hn := give_none hg
  have hp := Ss.find_put (l := m) (x := ⟨u, d, sent⟩) (a := a) hn
  change _ = if a = (bs u, bs d) then _ else _ at hp
  by_cases e : a = (bs u, bs d)
  · rw [if_pos e]
    rw [if_pos e] at hp
    exact .inr ⟨_, hp, rfl, hs⟩
  · rw [if_neg e]
    rw [if_neg e] at hp
    rcases h with ⟨h1, rfl⟩ | ⟨y, h1, h2, h3⟩
    · exact .inl ⟨by rw [hp, h1], rfl⟩
    · exact .inr ⟨y, by rw [hp, h1], h2, h3⟩
theorem give_form2 (id : Int) (room : ByteArray) (next : Int) (l : List Shr) (u d : ByteArray) : ∃ (i : Int) (r : ByteArray) (nx : Int) (m : List Shr) (er : Int), m.length ≤ l.length + 1 ∧
    (∀ (w w' : World) (e : Ending), GiveP w id room next l u d e w' → Below w.heap.size w w' ∧ ∃ A c, e = .returned (.tuple #[sesA i r nx A m.length c, .int .i64 er]) ∧ Rd.shr.Holds w' A m.length m ∧ m.length ≤ c) ∧
    ((er = 0 ∧ i = id ∧ r = room ∧ nx = next ∧ m = Ss.put l ⟨u, d, next⟩ ∧ Ss.giveErr l (bs u) (bs d) = 0) ∨ er ≠ 0) := by
  by_cases h0 : Ss.giveErr l (bs u) (bs d) = 0
  · refine ⟨id, room, next, Ss.put l ⟨u, d, next⟩, 0, by rw [Ss.put_length]; exact Nat.le_refl _, fun w w' e h => ?_, .inl ⟨rfl, rfl, rfl, rfl, rfl, h0⟩⟩
    obtain ⟨hb, A, c, he, hH, hc⟩ := give_ok h h0 rfl
    exact ⟨hb, A, c, he, hH, hc⟩
  · refine ⟨0, ⟨#[]⟩, 0, [], Ss.giveErr l (bs u) (bs d), Nat.zero_le _, fun w w' e h => ?_, .inr h0⟩
    obtain ⟨hb, he⟩ := give_err h rfl h0
    exact ⟨hb, none, 0, he, Rd.Holds.none_, Nat.le_refl _⟩
theorem to_dec {u d tu td : ByteArray} {f1 f2 : Bool} (h1 : (tu.toList == u.toList) = f1) (h2 : (td.toList == d.toList) = f2) : decide ((bs u, bs d) = (bs tu, bs td)) = (f1 && f2) := by
  rw [← who_dec (x := ⟨tu, td, 0⟩) h1 h2, Bool.eq_iff_iff, decide_eq_true_eq, decide_eq_true_eq]
  exact eq_comm
theorem to_fr {a b : Ss.D} {f : Bool} (h : decide (a = b) = f) (x y : Int) : (if a = b then x else y) = if f = true then x else y := by
  subst h; simp only [decide_eq_true_eq]
theorem l_new1 : newV 1 lR = .tuple #[sesA 1 lR 0 none 0 0, .int .i64 0] := newV_ok (by decide +kernel)
/-- where the story stands -/
def SyI (w1 : World) (h0 N : Nat) (a : Ss.D) (s7 s8 s9 : Value) (wr : World) : Prop :=
  ∃ (k sent : Nat) (fr : Int) (A : Option Addr) (c : Nat) (m : List Shr), k ≤ N ∧ sent ≤ k ∧ s7 = .int .i64 sent ∧ s8 = .int .i64 fr ∧ s9 = .int .i64 k ∧ Below w1.heap.size w1 wr ∧
    OBox wr h0 [.int .i64 1, .string lR, .int .i64 sent, .slice A m.length c] ∧ Rd.shr.Holds wr A m.length m ∧ m.length ≤ c ∧ m.length ≤ k ∧ StI m a fr

set_option maxRecDepth 100000 in
set_option maxHeartbeats 8000000 in
theorem sessionsStory_any (X : Sl Sstp) (x : Dev) (w : World) (hX : Rd.sstp.Holds w X.A X.n X.l ∧ X.n ≤ maxLen) (hx : Rd.dev.Ok w x) :
    Calls Try.prog 7 #[X.val, .agg (Rd.dev.cells x).toArray] w (Ret w (.bool true)) := by
  obtain ⟨TA, N, tc, ts⟩ := X
  obtain ⟨hts, hN⟩ := hX
  obtain ⟨u, d⟩ := x
  change Calls _ _ #[.slice TA N tc, .agg #[.string u, .string d]] _ _
  change Rd.sstp.Holds w TA N ts at hts
  change N ≤ maxLen at hN
  have hu : u.size ≤ maxLen := hx.1
  have hd : d.size ≤ maxLen := hx.2.1
  unfold maxLen at hN hu hd
  have HTL := Lib.hid hts.length
  clear hx
  obtain ⟨wa, hwa⟩ : ∃ wa : World, wa = w.alloc (.cells #[.string u, .string d] 26) := ⟨_, rfl⟩
  have hba : Below w.heap.size w wa := by rw [hwa]; exact below_alloc (Below.refl _ _) _
  have x0 : OBox wa w.heap.size [.string u, .string d] := by rw [hwa]; exact OBox.new w [.string u, .string d] _
  go_enter Try.func7, Try.ntmps7
  go_upto_region 1 with fail
  rw [← hwa]
  have HW := Lib.hid hwa; clear hwa
  obtain ⟨g, hg⟩ : ∃ g, w.heap.size = g := ⟨_, rfl⟩
  rw [hg] at x0 ⊢
  have HG := Lib.hid hg
  clear hg
  have hta := hts.on hba
  have p0 : wa.cell? ⟨g, 0, none⟩ = some (.string u) := x0.cell rfl
  have p1 : wa.cell? ⟨g, 1, none⟩ = some (.string d) := x0.cell rfl
  by_cases hN30 : (30 : Int) < (N : Nat)
  · have e0 : decide ((30 : Int) < (N : Nat)) = true := decide_eq_true hN30
    go_wp2_with fail
    go_ret
    exact ⟨rfl, hba⟩
  have e0 : decide ((30 : Int) < (N : Nat)) = false := decide_eq_false hN30
  by_cases hu200 : (200 : Int) < (u.size : Nat)
  · have e1 : decide ((200 : Int) < (u.size : Nat)) = true := decide_eq_true hu200
    go_wp2_with fail
    go_ret
    exact ⟨rfl, hba⟩
  have e1 : decide ((200 : Int) < (u.size : Nat)) = false := decide_eq_false hu200
  by_cases hd200 : (200 : Int) < (d.size : Nat)
  · have e2 : decide ((200 : Int) < (d.size : Nat)) = true := decide_eq_true hd200
    go_wp2_with fail
    go_ret
    exact ⟨rfl, hba⟩
  have e2 : decide ((200 : Int) < (d.size : Nat)) = false := decide_eq_false hd200
  have hN30' : N ≤ 30 := by omega
  clear hu200 hd200 hN30
  go_wp2_with fail
  refine (new_any 1 lR wa (by decide)).mono ?_
  rw [l_new1]
  rintro e w1 ⟨rfl, bb1⟩
  have c1 := below_then hba bb1
  have x1 := x0.on bb1
  have ht1 := hta.on bb1
  clear p0 p1 x0 hta hba bb1 hts e0 e1 e2
  go_upto_region 4 with fail
  have y1 := OBox.new w1 [.int .i64 1, .string lR, .int .i64 0, .slice none 0 0] 24
  have hby := below_alloc (Below.refl w1.heap.size w1) (.cells #[.int .i64 1, .string lR, .int .i64 0, .slice none 0 0] 24)
  change OBox (w1.alloc (.cells #[.int .i64 1, .string lR, .int .i64 0, .slice none 0 0] 24)) _ _ at y1
  generalize w1.alloc (.cells #[.int .i64 1, .string lR, .int .i64 0, .slice none 0 0] 24) = w2 at y1 hby ⊢
  obtain ⟨h0, hh0⟩ : ∃ h, w1.heap.size = h := ⟨_, rfl⟩
  rw [hh0] at y1 ⊢
  have HH0 := Lib.hid hh0
  clear hh0
  go_upto_region 5 with fail
  go_wp2_with fail
  go_loopw [7, 8, 9] (fun s7 s8 s9 wr => SyI w1 h0 N (bs u, bs d) s7 s8 s9 wr) (fun _ _ i _ => N - (intOf i).toNat)
  case atStart => exact ⟨0, 0, -1, none, 0, [], by omega, Nat.le_refl _, rfl, rfl, rfl, hby, y1, Rd.Holds.none_, Nat.le_refl _, Nat.le_refl _, StI.zero _⟩
  case round =>
    clear hby y1
    obtain ⟨k, sent, fr, A, c, m, hk, hsk, rfl, rfl, rfl, hbw, yR, hH, hmc, hmk, hst⟩ := hrel
    have xR := x1.on hbw
    have htR := ht1.on hbw
    have hfr := hst.bound
    by_cases hkn : k < N
    · obtain ⟨b, o, ⟨msg, tu, td⟩, rfl, hbl, hux, _, _, hxa⟩ := htR.mid (by decide) hkn
      have HUX := Lib.hid hux; clear hux
      have t0 : wr.cell? ⟨b, o + k * 3, none⟩ = some (.bool msg) := hxa 0 _ rfl
      have t1 : wr.cell? ⟨b, o + k * 3 + 1, none⟩ = some (.string tu) := hxa 1 _ rfl
      have t2 : wr.cell? ⟨b, o + k * 3 + 2, none⟩ = some (.string td) := hxa 2 _ rfl
      by_cases hu2 : (200 : Int) < (tu.size : Nat)
      · have e1 : decide ((200 : Int) < (tu.size : Nat)) = true := decide_eq_true hu2
        have dR := below_then c1 hbw
        clear hst
        go_wp2_with fail
        try rw [Exit.noGoto_ret]
        go_ret
        exact ⟨rfl, dR⟩
      have e1 : decide ((200 : Int) < (tu.size : Nat)) = false := decide_eq_false hu2
      by_cases hd2 : (200 : Int) < (td.size : Nat)
      · have e2 : decide ((200 : Int) < (td.size : Nat)) = true := decide_eq_true hd2
        have dR := below_then c1 hbw
        clear hst
        go_wp2_with fail
        try rw [Exit.noGoto_ret]
        go_ret
        exact ⟨rfl, dR⟩
      have e2 : decide ((200 : Int) < (td.size : Nat)) = false := decide_eq_false hd2
      have htu : tu.size ≤ maxLen := by unfold maxLen; omega
      have htd : td.size ≤ maxLen := by unfold maxLen; omega
      clear hu2 hd2
      have q0 : wr.cell? ⟨h0, 0, none⟩ = some (.int .i64 1) := yR.cell rfl
      have q1 : wr.cell? ⟨h0, 1, none⟩ = some (.string lR) := yR.cell rfl
      have q2 : wr.cell? ⟨h0, 2, none⟩ = some (.int .i64 sent) := yR.cell rfl
      have q3 : wr.cell? ⟨h0, 3, none⟩ = some (.slice A m.length c) := yR.cell rfl
      have htl := ht1
      cases msg
      · obtain ⟨gi, gr, gn, gm, er, hgm, hgf, hge⟩ := give_form2 1 lR sent m tu td
        have CD : Hid (∀ V, Below wr.heap.size wr V → Calls Try.prog 13 #[sesA 1 lR sent A m.length c, .string tu, .string td] V fun e V' => ∃ A' c', e = .returned (.tuple #[sesA gi gr gn A' gm.length c', .int .i64 er]) ∧ Below V.heap.size V V' ∧ Rd.shr.Holds V' A' gm.length gm ∧ gm.length ≤ c') :=
          Lib.hid fun V hb => (give_any 1 lR sent A m.length c m tu td V (hH.on hb) (by omega) hmc htu htd (by omega)).mono fun e V' h => by
            obtain ⟨h1, A', c', h2, h3, h4⟩ := hgf _ _ _ h
            exact ⟨A', c', h2, h1, h3, h4⟩
        have HGE := Lib.hid hge
        have BX := Lib.hid (fun V (h : Below wr.heap.size wr V) => (⟨h, (yR.on h).cell rfl, (yR.on h).cell rfl, (yR.on h).cell rfl, (yR.on h).cell rfl, (range_on hxa h hbl) 1 _ rfl, (range_on hxa h hbl) 2 _ rfl⟩ :
          Below wr.heap.size wr V ∧ V.cell? ⟨h0, 0, none⟩ = some (.int .i64 1) ∧ V.cell? ⟨h0, 1, none⟩ = some (.string lR) ∧ V.cell? ⟨h0, 2, none⟩ = some (.int .i64 sent) ∧ V.cell? ⟨h0, 3, none⟩ = some (.slice A m.length c) ∧ V.cell? ⟨b, o + k * 3 + 1, none⟩ = some (.string tu) ∧ V.cell? ⟨b, o + k * 3 + 2, none⟩ = some (.string td)))
        have ST := Lib.hid hst; have HMC := Lib.hid hmc; have HT1 := Lib.hid ht1
        have YR := Lib.hid yR; have XR := Lib.hid xR; have HHR := Lib.hid hH; have HXA := Lib.hid hxa
        clear hge hgf hst hmc htl
        go_upto_region 15 with fail
        clear q0 q1 q2 q3 t0 t1 t2 yR xR hH hxa e1 e2 htR ht1
        go_cut [13, 14] (fun s13 s14 V => ∃ q A' c', s13 = .pointer (some ⟨q, 0, none⟩) ∧ s14 = .int .i64 er ∧ OBox V q [.int .i64 gi, .string gr, .int .i64 gn, .slice A' gm.length c'] ∧ Rd.shr.Holds V A' gm.length gm ∧ gm.length ≤ c' ∧ Below wr.heap.size wr V)
        case rest =>
          obtain ⟨q, A9, c9, rfl, rfl, zc, hZ, hmc9, hbc⟩ := hcut
          have dC := below_then hbw hbc
          have yC := YR.out.on hbc
          have xC := XR.out.on hbc
          have hHC := HHR.out.on hbc
          clear BX CD hbc hbw
          by_cases her : er = 0
          · have hge := HGE.out
            rcases hge with ⟨_, rfl, rfl, rfl, rfl, hg0⟩ | h
            case inr => exact absurd her h
            have hei : (er == 0) = true := eqT her
            have HNS := Lib.hid (ST.out.give (sent := (sent : Int)) (by omega) hg0)
            have hth := yC.there (n := 4) rfl
            have z0 : wc.cell? ⟨q, 0, none⟩ = some (.int .i64 1) := zc.cell rfl
            have z1 : wc.cell? ⟨q, 1, none⟩ = some (.string lR) := zc.cell rfl
            have z2 : wc.cell? ⟨q, 2, none⟩ = some (.int .i64 sent) := zc.cell rfl
            obtain ⟨m2, hm2⟩ : ∃ m2, Ss.put m ⟨tu, td, sent⟩ = m2 := ⟨_, rfl⟩
            rw [hm2] at hgm zc hZ hmc9 HNS
            have z3 : wc.cell? ⟨q, 3, none⟩ = some (.slice A9 m2.length c9) := zc.cell rfl
            clear her HGE hm2 hg0
            go_upto_region 18 with fail
            have y5 := yC.put (cs := [.int .i64 1, .string lR, .int .i64 sent, .slice A9 m2.length c9]) rfl
            have hH5 := shr_apart hZ yC [.int .i64 1, .string lR, .int .i64 sent, .slice A9 m2.length c9]
            have d5 := below_put (g := h0) (cs := [.int .i64 1, .string lR, .int .i64 sent, .slice A9 m2.length c9]) (by have := HH0.out; omega) dC
            have x5 := x1.on d5
            have t5 : Rd.sstp.Holds _ _ N ts := HT1.out.on d5
            clear z0 z1 z2 z3 hth yC zc hZ dC xC hHC
            generalize putRow wc h0 [.int .i64 1, .string lR, .int .i64 sent, .slice A9 m2.length c9] = w5 at y5 hH5 d5 x5 t5 ⊢
            have hr5 : w5.rangeAt b (o + k * 3) [.bool false, .string tu, .string td] := by
              obtain ⟨b', o', y, hA, _, hy, _, _, hr⟩ := t5.mid (by decide) hkn
              cases hA
              rw [HUX.out] at hy
              cases hy
              exact hr
            have t1 : w5.cell? ⟨b, o + k * 3 + 1, none⟩ = some (.string tu) := hr5 1 _ rfl
            have t2 : w5.cell? ⟨b, o + k * 3 + 2, none⟩ = some (.string td) := hr5 2 _ rfl
            have p0 : w5.cell? ⟨g, 0, none⟩ = some (.string u) := x5.cell rfl
            have p1 : w5.cell? ⟨g, 1, none⟩ = some (.string d) := x5.cell rfl
            obtain ⟨f1, hf1⟩ : ∃ e, (tu.toList == u.toList) = e := ⟨_, rfl⟩
            obtain ⟨f2, hf2⟩ : ∃ e, (td.toList == d.toList) = e := ⟨_, rfl⟩
            have HFR := Lib.hid (to_fr (to_dec hf1 hf2))
            rw [HFR.out] at HNS
            have D5 := Lib.hid d5; have Y5 := Lib.hid y5; have H5 := Lib.hid hH5
            clear hr5 d5 y5 hH5 x5 t5 HFR ST
            cases f1 <;> cases f2
            all_goals
              go_quiet (fail)
              go_wp2_with fail
              exact ⟨⟨k + 1, sent, _, A9, c9, m2, by omega, by omega, rfl, rfl, by go_num, below_drewN D5.out _, Y5.out.on (below_drewN (Below.refl _ _) _), H5.out.on (below_drewN (Below.refl _ _) _), hmc9, by omega, by simpa using HNS.out⟩, by simp [intOf]; omega⟩
          · have hei : (er == 0) = false := eqF her
            clear HGE her
            have hthx : True := trivial
            go_wp2_with fail
            exact ⟨⟨k + 1, sent, fr, A, c, m, by omega, by omega, rfl, rfl, by go_num, dC, yC, hHC, HMC.out, by omega, ST.out⟩, by simp [intOf]; omega⟩
        clear YR XR HHR ST HT1 HGE
        go_region_held3 (fun V => Below wr.heap.size wr V ∧ V.cell? ⟨h0, 0, none⟩ = some (.int .i64 1) ∧ V.cell? ⟨h0, 1, none⟩ = some (.string lR) ∧ V.cell? ⟨h0, 2, none⟩ = some (.int .i64 sent) ∧ V.cell? ⟨h0, 3, none⟩ = some (.slice A m.length c) ∧ V.cell? ⟨b, o + k * 3 + 1, none⟩ = some (.string tu) ∧ V.cell? ⟨b, o + k * 3 + 2, none⟩ = some (.string td))
          ((refine BX.out _ ?_; repeat (first | assumption | exact Below.refl _ _ | exact And.left ‹Below wr.heap.size wr _ ∧ _› | refine Below.drew ?_ | refine below_alloc ?_ _ | refine below_put (by first | exact Nat.le_refl _ | exact bz2.size) ?_)))
          (first | (go_at_call 13; have hB := And.left ‹Below wr.heap.size wr _ ∧ _›; refine (CD.out _ hB).mono ?_; rintro e wz ⟨Ag, cg, rfl, bz, hHg, hcg⟩; have bz2 : Below wr.heap.size wr wz := below_then hB bz; (try (have hO := ((OBox.new wr [.int .i64 0, .string ⟨#[]⟩, .int .i64 0, .slice none 0 0] 24).on (Below.drew (Below.refl _ _))).on bz; have hth := hO.there (n := 4) rfl)); clear bz hB))
        all_goals
          have hB9 := And.left ‹Below wr.heap.size wr _ ∧ _›
          clear BX CD
          go_wp2_with fail
        all_goals go_meet
        all_goals (first
          | exact ⟨_, Ag, cg, rfl, rfl, hO.put (cs := [.int .i64 gi, .string gr, .int .i64 gn, .slice Ag gm.length cg]) rfl, shr_apart hHg hO [.int .i64 gi, .string gr, .int .i64 gn, .slice Ag gm.length cg], hcg, hB9⟩
          | exact ⟨_, Ag, cg, rfl, rfl, OBox.new wz [.int .i64 gi, .string gr, .int .i64 gn, .slice Ag gm.length cg] _, hHg.on (below_alloc (Below.refl _ _) _), hcg, hB9⟩)
      · have hxs : ((sent : Int) != sent) = false := by simp
        go_wp2_with fail
        refine (use_any 1 lR sent A m.length c m 10000 wr hH (by omega)).mono ?_
        intro e w3 hU
        obtain ⟨bb3, A3, c3, rfl, hH3, hmc3⟩ := use_ok hU (by unfold Ss.useErr; rw [if_neg (by omega), if_neg (by omega)])
        have d3 := below_then hbw bb3
        have y3 := yR.on bb3
        clear hU q0 q1 q2 q3 t0 t1 t2 yR hH xR htR hxa bb3 e1 e2
        have hsz3 := d3.size
        go_upto_region 12 with fail
        have z3 := OBox.new w3 [.int .i64 1, .string lR, .int .i64 (sent + 1), .slice A3 m.length c3] 24
        have hbz := below_alloc (Below.refl w3.heap.size w3) (.cells #[.int .i64 1, .string lR, .int .i64 (sent + 1), .slice A3 m.length c3] 24)
        change OBox (w3.alloc (.cells #[.int .i64 1, .string lR, .int .i64 (sent + 1), .slice A3 m.length c3] 24)) _ _ at z3
        have hlt3 := y3.lt
        generalize w3.alloc (.cells #[.int .i64 1, .string lR, .int .i64 (sent + 1), .slice A3 m.length c3] 24) = w4 at z3 hbz ⊢
        have d4 := below_then d3 hbz
        have y4 := y3.on hbz
        have hH4 := hH3.on hbz
        obtain ⟨h1, hh1⟩ : ∃ h, w3.heap.size = h := ⟨_, rfl⟩
        rw [hh1] at z3 ⊢
        clear hh1 y3 hH3 d3 hbz
        have q0 : w4.cell? ⟨h1, 0, none⟩ = some (.int .i64 1) := z3.cell rfl
        have q1 : w4.cell? ⟨h1, 1, none⟩ = some (.string lR) := z3.cell rfl
        have q2 : w4.cell? ⟨h1, 2, none⟩ = some (.int .i64 (sent + 1)) := z3.cell rfl
        have q3 : w4.cell? ⟨h1, 3, none⟩ = some (.slice A3 m.length c3) := z3.cell rfl
        have hth := y4.there (n := 4) rfl
        have y5 := y4.put (cs := [.int .i64 1, .string lR, .int .i64 (sent + 1), .slice A3 m.length c3]) rfl
        have hH5 := shr_apart hH4 y4 [.int .i64 1, .string lR, .int .i64 (sent + 1), .slice A3 m.length c3]
        have d5 := below_put (g := h0) (cs := [.int .i64 1, .string lR, .int .i64 (sent + 1), .slice A3 m.length c3]) (by have := HH0.out; omega) d4
        have Y5 := Lib.hid y5; have H5 := Lib.hid hH5; have D5 := Lib.hid d5; have ST := Lib.hid hst
        clear z3 y4 hH4 y5 hH5 d5 d4 hst htl hlt3
        have hw9 : IntKind.i64.wrap ((sent : Int) + 1) = sent + 1 := IntWalk.i64_in _ (by omega)
        go_wp2_with fail
        exact ⟨⟨k + 1, sent + 1, fr, A3, c3, m, by omega, by omega, by go_num, rfl, by go_num, D5.out, by simpa using Y5.out, H5.out, hmc3, by omega, ST.out⟩, by simp [intOf]; omega⟩
    · obtain ⟨W, hW⟩ : ∃ W9, W9 = wr := ⟨_, rfl⟩
      rw [← hW] at hbw yR xR hH ⊢
      have HWr := Lib.hid hW
      have hs30 : sent ≤ 30 := by omega
      have dW := below_then c1 hbw
      have ST := Lib.hid hst
      clear hW htR hbw hst ht1
      go_wp2_with fail
      go_loopw [15] (fun i wq => ∃ j : Nat, j ≤ sent + 2 ∧ i = .int .i64 ((j : Int) - 1) ∧ Below W.heap.size W wq) (fun i _ => sent + 2 - (intOf i + 1).toNat)
      case atStart => exact ⟨0, by omega, rfl, Below.refl _ _⟩
      case round =>
        obtain ⟨j, hj, rfl, hbq⟩ := hrel
        by_cases hjs : j < sent + 2
        · have f0 : decide (((j : Int) - 1) ≤ sent) = true := decide_eq_true (by omega)
          have yQ := yR.on hbq
          have xQ := xR.on hbq
          have hQ := hH.on hbq
          have q0 : wr.cell? ⟨h0, 0, none⟩ = some (.int .i64 1) := yQ.cell rfl
          have q1 : wr.cell? ⟨h0, 1, none⟩ = some (.string lR) := yQ.cell rfl
          have q2 : wr.cell? ⟨h0, 2, none⟩ = some (.int .i64 sent) := yQ.cell rfl
          have q3 : wr.cell? ⟨h0, 3, none⟩ = some (.slice A m.length c) := yQ.cell rfl
          have p0 : wr.cell? ⟨g, 0, none⟩ = some (.string u) := xQ.cell rfl
          have p1 : wr.cell? ⟨g, 1, none⟩ = some (.string d) := xQ.cell rfl
          have HRD := Lib.hid (ST.out.reads sent ((j : Int) - 1))
          clear yQ xQ
          go_wp2_with fail
          refine (reads_any 1 lR sent A m.length c m u d ((j : Int) - 1) wr hQ (by omega)).mono ?_
          rw [HRD.out]
          rintro e w3 ⟨rfl, bb3⟩
          have d3 := below_then hbq bb3
          clear q0 q1 q2 q3 p0 p1 HRD f0 bb3 hQ
          obtain ⟨g1, h1⟩ : ∃ e, decide ((0 : Int) ≤ fr) = e := ⟨_, rfl⟩
          obtain ⟨g2, h2⟩ : ∃ e, decide (fr ≤ (j : Int) - 1) = e := ⟨_, rfl⟩
          obtain ⟨g3, h3⟩ : ∃ e, decide ((j : Int) - 1 < sent) = e := ⟨_, rfl⟩
          rw [h1, h2, h3]
          have hw9 : IntKind.i64.wrap ((j : Int) - 1 + 1) = (j : Int) - 1 + 1 := IntWalk.i64_in _ (by omega)
          cases g1 <;> cases g2 <;> cases g3
          all_goals
            go_wp2_with fail
            exact ⟨⟨j + 1, by omega, by go_num, d3⟩, by simp [intOf]; omega⟩
        · have f0 : decide (((j : Int) - 1) ≤ sent) = false := decide_eq_false (by omega)
          have dq := below_then dW hbq
          go_wp2_with fail
          refine (slive_any _).mono ?_
          rintro e w3 ⟨rfl, bb3⟩
          go_wp2_with fail
          try rw [Exit.noGoto_ret]
          go_ret
          exact ⟨rfl, below_then dq bb3⟩
end Go.Proofs.Ytnbgcjangoiodaa
