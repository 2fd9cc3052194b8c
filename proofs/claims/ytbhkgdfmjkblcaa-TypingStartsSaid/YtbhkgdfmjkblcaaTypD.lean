/-
  The walk through the law TypingStays.
-/
import Derived.Test.YtbhkgdfmjkblcaaTypB
namespace Go.Proofs.Ytbhkgdfmjkblcaa
open Go.RowKit

theorem start_of {A : Option Addr} {n c : Nat} {l m : List Typ} {u : ByteArray} {now span err : Int} {w : World} (he : startErr (bs u) now span = err) (hm : startL l u now span = m)
    (hr : Typs w A n l) (hn : n ≤ 1000000) (hcap : n ≤ c) (hu : u.size ≤ maxLen) :
    Calls Try.prog 19 #[.slice A n c, .string u, .int .i64 now, .int .i64 span] w fun e w' => ∃ A' c', e = .returned (.tuple #[.slice A' m.length c', .int .i64 err]) ∧ Typs w' A' m.length m ∧ m.length ≤ c' ∧ Below w.heap.size w w' :=
  start_lit err m he hm hr hn hcap hu
theorem startL_len {l m : List Typ} {u : ByteArray} {now span : Int} {n : Nat} (h : startL l u now span = m) (hl : l.length = n) (hn : n ≤ 40) : m.length ≤ 41 := by
  subst h
  unfold startL
  split
  · have := T.start_len l ⟨u, now + span⟩; omega
  · simp
theorem startL_right {l m : List Typ} {u : ByteArray} {now span : Int} (h : startL l u now span = m) (hl : T.chk none l = 0) : T.chk none m = 0 := by
  subst h
  unfold startL
  split
  · next he =>
    refine T.right_start hl ?_
    unfold startErr at he
    split at he
    · simp at he
    · next hu =>
      split at he
      · simp at he
      · next hr => exact ⟨by simpa using hu, by show 1 ≤ now + span; omega, by show now + span ≤ 1000030000; omega⟩
  · rfl

/-- the law's record: who, when, how long -/
structure Cl where
  user : ByteArray
  now : Int
  span : Int
abbrev Rd.cl' := Rd.pair Rd.str (Rd.pair Rd.i64 (Rd.pair Rd.i64 Rd.unit))
def Rd.cl : Rd Cl := Rd.cl'.as fun x => (x.user, x.now, x.span, ())
def CBox (w : World) (g : Nat) (x : Cl) : Prop := Rd.cl.Holds w (some ⟨g, 0, none⟩) 1 [x]
theorem CBox.on {w w' : World} {g : Nat} {x : Cl} (h : CBox w g x) (hb : Below w.heap.size w w') : CBox w' g x := Rd.Holds.on h hb
theorem CBox.cells {w : World} {g : Nat} {u : ByteArray} {now span : Int} (h : CBox w g ⟨u, now, span⟩) :
    w.cell? ⟨g, 0, none⟩ = some (.string u) ∧ w.cell? ⟨g, 1, none⟩ = some (.int .i64 now) ∧ w.cell? ⟨g, 2, none⟩ = some (.int .i64 span) := by
  obtain ⟨b, o, x, h1, _, h3, _, _, hr⟩ := Rd.Holds.mid h (by decide) (show 0 < 1 by omega)
  cases h1
  simp only [List.getElem?_cons_zero, Option.some.injEq] at h3
  subst h3
  exact ⟨by simpa using hr 0 _ rfl, by simpa using hr 1 _ rfl, by simpa using hr 2 _ rfl⟩

set_option maxRecDepth 100000 in
set_option maxHeartbeats 4000000 in
theorem typingStays_any (x : Sl Typ) (y : Cl) (w : World) (hx : (Typs w x.A x.n x.l ∧ x.n ≤ x.c) ∧ x.n ≤ maxLen) (hy : Rd.cl.Ok w y) :
    Calls Try.prog 6 #[x.val, .agg (Rd.cl.cells y).toArray] w (Ret w (.bool true)) := by
  obtain ⟨A, n, c, l⟩ := x
  obtain ⟨⟨hr, hc⟩, hn⟩ := hx
  obtain ⟨u, now, span⟩ := y
  change Calls _ _ #[.slice A n c, .agg #[.string u, .int .i64 now, .int .i64 span]] _ _
  replace hr : Typs w A n l := hr
  replace hn : n ≤ maxLen := hn
  replace hc : n ≤ c := hc
  have hu : u.size ≤ maxLen := hy.1
  have HL := Lib.hid (Rd.Holds.length hr)
  go_enter Try.func6, Try.ntmps6
  obtain ⟨wa, hwa⟩ : ∃ wa : World, wa = w.alloc (.cells #[.string u, .int .i64 now, .int .i64 span] 28) := ⟨_, rfl⟩
  have hba : Below w.heap.size w wa := by rw [hwa]; exact below_alloc (Below.refl _ _) _
  have hbx : CBox wa w.heap.size ⟨u, now, span⟩ := by rw [hwa]; exact Rd.Holds.new Rd.cl _ _ _ _ _ rfl rfl (by intro z hz; simp only [List.mem_singleton] at hz; subst hz; exact hy)
  replace hr := hr.on hba
  go_wp2_with fail
  rw [← hwa]
  clear hwa hy
  refine (tgreat_any A n c l wa hr hn).mono ?_
  rintro e w1 ⟨g, rfl, hg, rfl⟩
  obtain ⟨p0, p1, p2⟩ := hbx.cells
  cases g
  · have hn40 := hg rfl
    clear hg
    by_cases hlt : (200 : Int) < (u.size : Nat)
    · clear hr HL
      go_wp2_with fail
      refine (tlive_any _).mono ?_
      rintro e w3 ⟨rfl, b3⟩
      go_wp2_with fail
      go_ret
      exact ⟨rfl, below_then hba b3⟩
    · go_wp2_with fail
      refine (tcheck_any A n c l wa hr hn).mono ?_
      rintro e w1 ⟨rfl, b1⟩
      have hr1 := hr.on b1
      have hbx1 := hbx.on b1
      have d1 := below_then hba b1
      clear p0 p1 p2
      obtain ⟨p0, p1, p2⟩ := hbx1.cells
      obtain ⟨err, herr⟩ : ∃ err, T.chk none l = err := ⟨_, rfl⟩
      rw [herr]
      by_cases he : err = 0
      · subst he
        obtain ⟨ms, hms⟩ : ∃ m, startL l u now span = m := ⟨_, rfl⟩
        obtain ⟨mp, hmp⟩ : ∃ m, l.filter (fun y => decide (T.nm y ≠ bs u)) = m := ⟨_, rfl⟩
        obtain ⟨mc, hmc⟩ : ∃ m, l.filter (fun y => decide (now < y.til)) = m := ⟨_, rfl⟩
        obtain ⟨er, her⟩ : ∃ er, startErr (bs u) now span = er := ⟨_, rfl⟩
        have q1 : ms.length ≤ 41 := startL_len hms HL.out hn40
        have q2 : mp.length ≤ 40 := hmp ▸ filt_len _ HL.out hn40
        have q3 : mc.length ≤ 40 := hmc ▸ filt_len _ HL.out hn40
        have z1 : Hid (T.chk none ms = 0) := Lib.hid (startL_right hms herr)
        have z2 : Hid (T.chk none mp = 0) := Lib.hid (hmp ▸ T.right_filter herr _)
        have z3 : Hid (T.chk none mc = 0) := Lib.hid (hmc ▸ T.right_filter herr _)
        have MS := Lib.hid hms; have MP := Lib.hid hmp; have MC := Lib.hid hmc; have ER := Lib.hid her
        clear hms hmp hmc her herr
        have hokp : TypOk mp := fun y hy => hr.ok y (List.mem_filter.1 (by rw [MP.out]; exact hy : y ∈ l.filter fun y => decide (T.nm y ≠ bs u))).1
        have hokc : TypOk mc := fun y hy => hr.ok y (List.mem_filter.1 (by rw [MC.out]; exact hy : y ∈ l.filter fun y => decide (now < y.til))).1
        have CTL : Hid (∀ w1 : World, Below w.heap.size w w1 → Calls Try.prog 18 #[] w1 fun e w' => e = .returned (.bool true) ∧ Below w.heap.size w w') := Lib.hid fun w1 hb => (tlive_any w1).mono fun e w' ⟨h1, h2⟩ => ⟨h1, below_then hb h2⟩
        go_wp2_with fail
        refine (start_of ER.out MS.out hr1 (by omega) hc hu).mono ?_
        rintro e w2 ⟨A2, c2, rfl, hT2, hc2, b2⟩
        have hr2 := hr1.on b2
        have hbx2 := hbx1.on b2
        have d2 := below_then d1 b2
        clear p0 p1 p2
        obtain ⟨p0, p1, p2⟩ := hbx2.cells
        by_cases hz : er = 0
        · subst hz
          go_wp2_with fail
          refine (tcheck_any _ _ _ ms w2 hT2 (by unfold maxLen; omega)).mono ?_
          rintro e w3 ⟨rfl, b3⟩
          rw [z1.out]
          have hr3 := hr2.on b3
          have hbx3 := hbx2.on b3
          have d3 := below_then d2 b3
          clear p0 p1 p2
          obtain ⟨p0, p1, p2⟩ := hbx3.cells
          go_wp2_with fail
          refine (tstop_any A n c l u w3 hr3 (by omega)).mono ?_
          rintro e w4 ⟨v4, rfl, b4, o4⟩
          rw [MP.out] at o4
          obtain ⟨A4, c4, rfl, hT4⟩ := o4.form hokp
          have hr4 := hr3.on b4
          have hbx4 := hbx3.on b4
          have d4 := below_then d3 b4
          clear p0 p1 p2 o4
          obtain ⟨p0, p1, p2⟩ := hbx4.cells
          go_wp2_with fail
          refine (tcheck_any _ _ _ mp w4 hT4 (by unfold maxLen; omega)).mono ?_
          rintro e w5 ⟨rfl, b5⟩
          rw [z2.out]
          have hr5 := hr4.on b5
          have hbx5 := hbx4.on b5
          have d5 := below_then d4 b5
          clear p0 p1 p2
          obtain ⟨p0, p1, p2⟩ := hbx5.cells
          go_wp2_with fail
          refine (tclean_any A n c l now w5 hr5 (by omega)).mono ?_
          rintro e w6 ⟨v6, rfl, b6, o6⟩
          rw [MC.out] at o6
          obtain ⟨A6, c6, rfl, hT6⟩ := o6.form hokc
          have d6 := below_then d5 b6
          clear p0 p1 p2 o6
          go_wp2_with fail
          refine (tcheck_any _ _ _ mc w6 hT6 (by unfold maxLen; omega)).mono ?_
          rintro e w7 ⟨rfl, b7⟩
          rw [z3.out]
          have d7 := below_then d6 b7
          go_wp2_with fail
          refine (CTL.out _ d7).mono ?_
          rintro e w8 ⟨rfl, b8⟩
          go_wp2_with fail
          go_ret
          exact ⟨rfl, b8⟩
        · have hne : (er != 0) = true := by simpa using hz
          go_wp2_with fail
          refine (tstop_any A n c l u w2 hr2 (by omega)).mono ?_
          rintro e w4 ⟨v4, rfl, b4, o4⟩
          rw [MP.out] at o4
          obtain ⟨A4, c4, rfl, hT4⟩ := o4.form hokp
          have hr4 := hr2.on b4
          have hbx4 := hbx2.on b4
          have d4 := below_then d2 b4
          clear p0 p1 p2 o4
          obtain ⟨p0, p1, p2⟩ := hbx4.cells
          go_wp2_with fail
          refine (tcheck_any _ _ _ mp w4 hT4 (by unfold maxLen; omega)).mono ?_
          rintro e w5 ⟨rfl, b5⟩
          rw [z2.out]
          have hr5 := hr4.on b5
          have hbx5 := hbx4.on b5
          have d5 := below_then d4 b5
          clear p0 p1 p2
          obtain ⟨p0, p1, p2⟩ := hbx5.cells
          go_wp2_with fail
          refine (tclean_any A n c l now w5 hr5 (by omega)).mono ?_
          rintro e w6 ⟨v6, rfl, b6, o6⟩
          rw [MC.out] at o6
          obtain ⟨A6, c6, rfl, hT6⟩ := o6.form hokc
          have d6 := below_then d5 b6
          clear p0 p1 p2 o6
          go_wp2_with fail
          refine (tcheck_any _ _ _ mc w6 hT6 (by unfold maxLen; omega)).mono ?_
          rintro e w7 ⟨rfl, b7⟩
          rw [z3.out]
          have d7 := below_then d6 b7
          go_wp2_with fail
          refine (CTL.out _ d7).mono ?_
          rintro e w8 ⟨rfl, b8⟩
          go_wp2_with fail
          go_ret
          exact ⟨rfl, b8⟩
      · clear herr HL hr1
        have hne : (err != 0) = true := by simpa using he
        go_wp2_with fail
        refine (tlive_any _).mono ?_
        rintro e w3 ⟨rfl, b3⟩
        go_wp2_with fail
        go_ret
        exact ⟨rfl, below_then d1 b3⟩
  · clear hr HL hg
    go_wp2_with fail
    refine (tlive_any _).mono ?_
    rintro e w3 ⟨rfl, b3⟩
    go_wp2_with fail
    go_ret
    exact ⟨rfl, below_then hba b3⟩
end Go.Proofs.Ytbhkgdfmjkblcaa
