/-
  The law SessionsLeaves.
-/
import Derived.Test.YtnbgcjangoiodaaSesD
namespace Go.Proofs.Ytnbgcjangoiodaa
open Go.RowKit
attribute [local go_sem ↓] ex_st_shr ex_st_own ex_st_ses
attribute [local go_sem] st_shr_new st_shr st_own_new st_ses_new st_ses

/-- the members but one -/
def restL (ms : List ByteArray) (u : ByteArray) : List (List UInt8) := (bss ms).filter fun x => decide (x ≠ bs u)
theorem rest_succ {ms : List ByteArray} {k : Nat} {x u : ByteArray} (h : ms[k]? = some x) : restL (ms.take (k + 1)) u = restL (ms.take k) u ++ if x = u then [] else [bs x] := by
  obtain ⟨hk, rfl⟩ := List.getElem?_eq_some_iff.1 h
  unfold restL
  rw [List.take_succ_eq_append_getElem hk]
  simp only [bss, List.map_append, List.filter_append, List.map_cons, List.map_nil]
  congr 1
  by_cases hx : ms[k] = u
  · simp [hx]
  · have : bs ms[k] ≠ bs u := fun e => hx (bs_inj e)
    simp [hx, this]
theorem rest_length (ms : List ByteArray) (u : ByteArray) : (restL ms u).length ≤ ms.length := by
  have := List.length_filter_le (fun x => decide (x ≠ bs u)) (bss ms)
  rw [List.length_map] at this; exact this
theorem rest_not (ms : List ByteArray) (u : ByteArray) : bs u ∉ restL ms u := by
  unfold restL
  rw [List.mem_filter]
  simp
theorem rest_size {ms : List ByteArray} {u : ByteArray} (h : ∀ x ∈ ms, x.size ≤ maxLen) : ∀ x ∈ (restL ms u).map mk, x.size ≤ maxLen := fun x hx => by
  obtain ⟨y, hy, rfl⟩ := List.mem_map.1 hx
  obtain ⟨z, hz, rfl⟩ := List.mem_map.1 (List.mem_filter.1 hy).1
  rw [mk_bs]; exact h z hz
theorem reads_true {l : List Shr} {next i : Int} {a : Ss.D} (h : Ss.reads l next a i = true) : (∃ x, Ss.find l a = some x) ∧ Ss.reads l (next + 1) a i = true := by
  unfold Ss.reads at *
  cases hf : Ss.find l a with
  | none => rw [hf] at h; cases h
  | some x =>
    rw [hf] at h
    simp only [Bool.and_eq_true, decide_eq_true_eq] at h
    refine ⟨⟨x, rfl⟩, ?_⟩
    simp only [Bool.and_eq_true, decide_eq_true_eq]
    omega
def RI (w : World) (ms : List ByteArray) (u : ByteArray) (out i : Value) (wr : World) : Prop :=
  ∃ k : Nat, k ≤ ms.length ∧ i = .int .i64 k ∧ Below w.heap.size w wr ∧ OwnStrs wr w.heap.size out (restL (ms.take k) u)

set_option maxRecDepth 100000 in
set_option maxHeartbeats 8000000 in
theorem sessionsLeaves_any (s : Ses) (gp : Grp) (x : Dev) (i : Int) (w : World) (hs : Rd.ses.Ok w s) (hgp : Rd.grp.Ok w gp) (hx : Rd.dev.Ok w x) :
    Calls Try.prog 9 #[.agg (Rd.ses.cells s).toArray, .agg (Rd.grp.cells gp).toArray, .agg (Rd.dev.cells x).toArray, .int .i64 i] w (Ret w (.bool true)) := by
  obtain ⟨i0, hi, hz0, hz1, hz2⟩ := info_parts infoStr
  have HI := Lib.hid hi; have HZ0 := Lib.hid hz0; have HZ1 := Lib.hid hz1; have HZ2 := Lib.hid hz2
  clear hi hz0 hz1 hz2
  obtain ⟨sid, room, next, ⟨A, n, c, l⟩⟩ := s
  obtain ⟨⟨MA, mn, mc, ms⟩, ⟨KA, kn, kc, ks⟩⟩ := gp
  obtain ⟨u, d⟩ := x
  change Calls _ _ #[.agg #[.int .i64 sid, .string room, .int .i64 next, .slice A n c], .agg #[.slice MA mn mc, .slice KA kn kc], .agg #[.string u, .string d], _] _ _
  have hl : Rd.shr.Holds w A n l := hs.2.2.2.1.1
  have hn : n ≤ maxLen := Nat.le_trans hs.2.2.2.1.2.1 hs.2.2.2.1.2.2
  have hmst : Strs w MA mn ms := holds_str hgp.1.1
  have hmsz : ∀ x ∈ ms, x.size ≤ maxLen := hgp.1.1.2.2
  have hmn : mn ≤ maxLen := Nat.le_trans hgp.1.2.1 hgp.1.2.2
  have hkh : Rd.kys.Holds w KA kn ks := hgp.2.1.1
  have hkn : kn ≤ maxLen := Nat.le_trans hgp.2.1.2.1 hgp.2.1.2.2
  have HL := Lib.hid hl.length
  have HMS := Lib.hid hmst.length
  have HMZ := Lib.hid hmsz
  clear hs hx hgp hmsz
  obtain ⟨wa, hwa⟩ : ∃ wa : World, wa = ((w.alloc (.cells #[.int .i64 sid, .string room, .int .i64 next, .slice A n c] 24)).alloc (.cells #[.slice MA mn mc, .slice KA kn kc] 46)).alloc (.cells #[.string u, .string d] 26) := ⟨_, rfl⟩
  have hba : Below w.heap.size w wa := by rw [hwa]; exact below_alloc (below_alloc (below_alloc (Below.refl _ _) _) _) _
  have b0 : OBox wa w.heap.size [.int .i64 sid, .string room, .int .i64 next, .slice A n c] := by rw [hwa]; exact ((OBox.new w [.int .i64 sid, .string room, .int .i64 next, .slice A n c] _).on (below_alloc (Below.refl _ _) _)).on (below_alloc (Below.refl _ _) _)
  have q0 : OBox wa (w.heap.size + 1) [.slice MA mn mc, .slice KA kn kc] := by rw [hwa]; have h := (OBox.new (w.alloc (.cells #[.int .i64 sid, .string room, .int .i64 next, .slice A n c] 24)) [.slice MA mn mc, .slice KA kn kc] 46).on (below_alloc (Below.refl _ _) (.cells #[.string u, .string d] 26)); simpa using h
  have x0 : OBox wa (w.heap.size + 2) [.string u, .string d] := by rw [hwa]; simpa using OBox.new ((w.alloc (.cells #[.int .i64 sid, .string room, .int .i64 next, .slice A n c] 24)).alloc (.cells #[.slice MA mn mc, .slice KA kn kc] 46)) [.string u, .string d] 26
  go_enter Try.func9, Try.ntmps9
  go_upto_region 1 with fail
  rw [← hwa]
  have HW := Lib.hid hwa; clear hwa
  obtain ⟨g, hg⟩ : ∃ g, w.heap.size = g := ⟨_, rfl⟩
  rw [hg] at b0 q0 x0 ⊢
  have HG := Lib.hid hg
  clear hg
  have hla := hl.on hba
  have hma := hmst.on hba
  have hka := hkh.on hba
  have k0 : wa.cell? ⟨g, 0, none⟩ = some (.int .i64 sid) := b0.cell rfl
  have k1 : wa.cell? ⟨g, 1, none⟩ = some (.string room) := b0.cell rfl
  have k2 : wa.cell? ⟨g, 2, none⟩ = some (.int .i64 next) := b0.cell rfl
  have k3 : wa.cell? ⟨g, 3, none⟩ = some (.slice A n c) := b0.cell rfl
  go_wp2_with fail
  refine (rgreat45_any sid room next A n c l wa hla hn).mono ?_
  rintro e w1 ⟨g1, rfl, hg1, bb1⟩
  have c1 := below_then hba bb1
  have b1 := b0.on bb1
  have q1 := q0.on bb1
  have x1 := x0.on bb1
  have hl1 := hla.on bb1
  have hm1 := hma.on bb1
  have hk1 := hka.on bb1
  clear k0 k1 k2 k3 b0 q0 x0 hla hma hka hba bb1 hl hmst hkh
  cases g1
  · have hn40 : n ≤ 40 := hg1 rfl
    clear hg1 hn
    have j0 : w1.cell? ⟨g + 1, 0, none⟩ = some (.slice MA mn mc) := q1.cell rfl
    have j1 : w1.cell? ⟨g + 1, 1, none⟩ = some (.slice KA kn kc) := q1.cell rfl
    go_wp2_with fail
    refine (rmany_any MA mn mc ms KA kn kc ks w1 hm1 hmn hk1 hkn).mono ?_
    rintro e w2 ⟨g2, rfl, hg2, bb2⟩
    have c2 := below_then c1 bb2
    have b2 := b1.on bb2
    have q2 := q1.on bb2
    have x2 := x1.on bb2
    have hl2 := hl1.on bb2
    have hm2 := hm1.on bb2
    have hk2 := hk1.on bb2
    clear j0 j1 b1 q1 x1 hl1 hm1 hk1 c1 bb2
    cases g2
    · obtain ⟨hmn30, hfew⟩ := hg2 rfl
      have HFW := Lib.hid hfew
      clear hg2 hmn hkn hfew
      have p0 : w2.cell? ⟨g + 2, 0, none⟩ = some (.string u) := x2.cell rfl
      have p1 : w2.cell? ⟨g + 2, 1, none⟩ = some (.string d) := x2.cell rfl
      by_cases hu200 : (200 : Int) < (u.size : Nat)
      · have e1 : decide ((200 : Int) < (u.size : Nat)) = true := decide_eq_true hu200
        go_wp2_with fail
        refine (slive_any _).mono ?_
        rintro e w3 ⟨rfl, bb3⟩
        go_wp2_with fail
        go_ret
        exact ⟨rfl, below_then c2 bb3⟩
      have e1 : decide ((200 : Int) < (u.size : Nat)) = false := decide_eq_false hu200
      by_cases hd200 : (200 : Int) < (d.size : Nat)
      · have e2 : decide ((200 : Int) < (d.size : Nat)) = true := decide_eq_true hd200
        go_wp2_with fail
        refine (slive_any _).mono ?_
        rintro e w3 ⟨rfl, bb3⟩
        go_wp2_with fail
        go_ret
        exact ⟨rfl, below_then c2 bb3⟩
      have e2 : decide ((200 : Int) < (d.size : Nat)) = false := decide_eq_false hd200
      clear hu200 hd200
      have k0 : w2.cell? ⟨g, 0, none⟩ = some (.int .i64 sid) := b2.cell rfl
      have k1 : w2.cell? ⟨g, 1, none⟩ = some (.string room) := b2.cell rfl
      have k2 : w2.cell? ⟨g, 2, none⟩ = some (.int .i64 next) := b2.cell rfl
      have k3 : w2.cell? ⟨g, 3, none⟩ = some (.slice A n c) := b2.cell rfl
      obtain ⟨rv, hrv⟩ : ∃ rv, Ss.reads l next (bs u, bs d) i = rv := ⟨_, rfl⟩
      have HRV := Lib.hid hrv
      clear hrv
      go_wp2_with fail
      refine (reads_any sid room next A n c l u d i w2 hl2 (by omega)).mono ?_
      rw [HRV.out]
      rintro e w3 ⟨rfl, bb3⟩
      have c3 := below_then c2 bb3
      have b3 := b2.on bb3
      have q3 := q2.on bb3
      have x3 := x2.on bb3
      have hl3 := hl2.on bb3
      have hm3 := hm2.on bb3
      have hk3 := hk2.on bb3
      clear k0 k1 k2 k3 p0 p1 b2 q2 x2 hl2 hm2 hk2 c2 bb3
      cases rv
      · go_wp2_with fail
        refine (slive_any _).mono ?_
        rintro e w4 ⟨rfl, bb4⟩
        go_wp2_with fail
        go_ret
        exact ⟨rfl, below_then c3 bb4⟩
      · obtain ⟨⟨y, hfy⟩, hr1⟩ := reads_true HRV.out
        have HFY := Lib.hid hfy; have HR1 := Lib.hid hr1
        clear hfy hr1
        go_wp2_with fail
        go_loopw [9, 10] (fun out i wr => RI w3 ms u out i wr) (fun _ i _ => mn - (intOf i).toNat)
        case atStart => exact ⟨0, by omega, rfl, Below.refl _ _, World.ownsRow_nil _ _ _ _⟩
        case round =>
          obtain ⟨k, hkk, rfl, hbw, hown⟩ := hrel
          have hle := hbw.size
          have bR := b3.on hbw
          have qR := q3.on hbw
          have xR := x3.on hbw
          have j0 : wr.cell? ⟨g + 1, 0, none⟩ = some (.slice MA mn mc) := qR.cell rfl
          have p0 : wr.cell? ⟨g + 2, 0, none⟩ = some (.string u) := xR.cell rfl
          by_cases hkn : k < mn
          · obtain ⟨ad, z, rfl, hadb, hz, hcz⟩ := (hm3.on hbw).at_ hkn
            have hrlen : (restL (ms.take k) u).length ≤ k := Nat.le_trans (rest_length _ _) (List.length_take_le _ _)
            have HRS := Lib.hid (rest_succ (u := u) hz)
            have hk1 : k + 1 ≤ ms.length := by have := HMS.out; omega
            have hkI : (k : Int) < mn := by omega
            by_cases hzu : z = u
            · have es : (z.toList == u.toList) = true := by rw [streq']; exact decide_eq_true hzu
              have HF : Hid (restL (ms.take (k + 1)) u = restL (ms.take k) u) := by show _ = _; rw [HRS.out, if_pos hzu, List.append_nil]
              clear hzu hz
              go_wp2_with fail
              go_quiet (fail)
              go_wp2_with fail
              exact ⟨⟨k + 1, hk1, by go_num, below_drewN hbw nq, by rw [HF.out]; exact owns_on hown (below_drewN (Below.refl _ _) nq)⟩, by simp [intOf]; omega⟩
            · have es : (z.toList == u.toList) = false := by rw [streq']; exact decide_eq_false hzu
              have HF : Hid (restL (ms.take (k + 1)) u = restL (ms.take k) u ++ [bs z]) := by show _ = _; rw [HRS.out, if_neg hzu]
              clear hzu hz
              go_wp2_with fail
              go_quiet (fail)
              have hownq := owns_on hown (below_drewN (Below.refl wr.heap.size wr) nq)
              have hbwq := below_drewN hbw nq
              have hbq := below_drewN (Below.refl wr.heap.size wr) nq
              have qQ := qR.on hbq
              have hcq : (wr.drewN nq).cell? (ad.add k) = some (.string z) := hcz
              generalize wr.drewN nq = wq at hownq hbwq qQ hcq hbq ⊢
              clear hown hbw bR qR xR j0 p0 hcz hle
              have hle := hbwq.size
              have j0 : wq.cell? ⟨g + 1, 0, none⟩ = some (.slice (some ad) mn mc) := qQ.cell rfl
              go_wp2_with (at_builtin; refine wpList_append_own _ rfl _ _ 39 rfl w3.heap.size 9 i0 (.string .empty) 1 16 Try.underlying39 HI.out HZ0.out HZ1.out HZ2.out rfl (by decide) _ _ _ rfl (World.ownsRow.alloc hownq _) ⟨wq.heap.size, 0, none⟩ 1 1 [.string z] rfl rfl ?c1 ?c2 ?c3 ?c4 ?c5 ?_)
              case c1 => exact cell_one _ _ _
              case c2 => simp [Value.oneCell']
              case c3 => unfold maxLen; omega
              case c4 => omega
              case c5 => simp; omega
              intro v' w' hown' hgrow _
              have hbw3 : Below w3.heap.size w3 w' := (hbwq.alloc (by omega) _).grown hgrow (by simp; omega) (fun j hj => (World.ownsRow.lt hownq _ hj).1)
              have hown3 : OwnStrs w' w3.heap.size v' (restL (ms.take (k + 1)) u) := by
                rw [HF.out]
                unfold OwnStrs
                rw [List.length_append, List.map_append]
                have : ([bs z].map encStr) = [Value.string z] := by simp [encStr]
                rw [this]; exact hown'
              clear hown' hgrow
              go_wp2_with fail
              exact ⟨⟨k + 1, hk1, by go_num, hbw3, hown3⟩, by simp [intOf]; omega⟩
          · have hF : restL (ms.take k) u = restL ms u := by rw [List.take_of_length_le (by have := HMS.out; omega)]
            rw [hF] at hown
            clear hF
            have hnot := rest_not ms u
            have hrl : (restL ms u).length ≤ 30 := by have := rest_length ms u; have := HMS.out; omega
            have hrs := rest_size (u := u) HMZ.out
            generalize restL ms u = R at hown hnot hrl hrs
            obtain ⟨RA, rc, rfl, hRS⟩ := OwnStrs.form' hown
            have hst : Ss.stale l (Ss.own R ks) = true := Ss.stale_left HFY.out hnot
            have HST := Lib.hid hst; have HRSZ := Lib.hid hrs
            have d4 := below_then c3 hbw
            have hl4 := hl3.on hbw
            have hk4 := hk3.on hbw
            have k0 : wr.cell? ⟨g, 0, none⟩ = some (.int .i64 sid) := bR.cell rfl
            have k1 : wr.cell? ⟨g, 1, none⟩ = some (.string room) := bR.cell rfl
            have k2 : wr.cell? ⟨g, 2, none⟩ = some (.int .i64 next) := bR.cell rfl
            have k3 : wr.cell? ⟨g, 3, none⟩ = some (.slice A n c) := bR.cell rfl
            clear hown hnot hst hrs hbw hle
            go_wp2_with fail
            refine (use_any sid room next A n c l 10000 wr hl4 (by omega)).mono ?_
            intro e w5 hU
            by_cases hue : Ss.useErr 10000 next = 0
            · obtain ⟨bb5, A5, c5, rfl, hH5, hc5⟩ := use_ok hU hue
              have d5 := below_then d4 bb5
              have b5 := bR.on bb5
              have q5 := qR.on bb5
              have x5 := xR.on bb5
              have hl5 := hl4.on bb5
              have hk5 := hk4.on bb5
              have hRS5 := hRS.on bb5
              have hl40 : l.length ≤ 40 := by have := HL.out; omega
              clear hU hue k0 k1 k2 k3 bR qR xR hl4 hk4 hRS d4 bb5 j0 p0
              go_upto_region 10 with fail
              have y5 := OBox.new w5 [.int .i64 sid, .string room, .int .i64 (next + 1), .slice A5 l.length c5] 24
              have hby := below_alloc (Below.refl w5.heap.size w5) (.cells #[.int .i64 sid, .string room, .int .i64 (next + 1), .slice A5 l.length c5] 24)
              change OBox (w5.alloc (.cells #[.int .i64 sid, .string room, .int .i64 (next + 1), .slice A5 l.length c5] 24)) _ _ at y5
              generalize w5.alloc (.cells #[.int .i64 sid, .string room, .int .i64 (next + 1), .slice A5 l.length c5] 24) = w6 at y5 hby ⊢
              have d6 := below_then d5 hby
              have b6 := b5.on hby
              have q6 := q5.on hby
              have x6 := x5.on hby
              have hl6 := hl5.on hby
              have hk6 := hk5.on hby
              have hR6 := hRS5.on hby
              have hH6 := hH5.on hby
              obtain ⟨h1, hh1⟩ : ∃ h, w5.heap.size = h := ⟨_, rfl⟩
              rw [hh1] at y5 ⊢
              clear hh1 b5 q5 x5 hl5 hk5 hRS5 hH5 d5 hby
              have k0 : w6.cell? ⟨g, 0, none⟩ = some (.int .i64 sid) := b6.cell rfl
              have k1 : w6.cell? ⟨g, 1, none⟩ = some (.string room) := b6.cell rfl
              have k2 : w6.cell? ⟨g, 2, none⟩ = some (.int .i64 next) := b6.cell rfl
              have k3 : w6.cell? ⟨g, 3, none⟩ = some (.slice A n c) := b6.cell rfl
              have j1 : w6.cell? ⟨g + 1, 1, none⟩ = some (.slice KA kn kc) := q6.cell rfl
              go_wp2_with fail
              refine (stale_any sid room next A n c l RA R.length rc (R.map mk) KA kn kc ks w6 hl6 (by omega) hR6 hrl HRSZ.out hk6 HFW.out).mono ?_
              rw [show bss (R.map mk) = R from map_bs_mk R, HST.out]
              rintro e w7 ⟨rfl, bb7⟩
              have d7 := below_then d6 bb7
              have x7 := x6.on bb7
              have y7 := y5.on bb7
              have hH7 := hH6.on bb7
              clear k0 k1 k2 k3 j1 b6 q6 x6 y5 hl6 hk6 hR6 hH6 d6 bb7
              have k0 : w7.cell? ⟨h1, 0, none⟩ = some (.int .i64 sid) := y7.cell rfl
              have k1 : w7.cell? ⟨h1, 1, none⟩ = some (.string room) := y7.cell rfl
              have k2 : w7.cell? ⟨h1, 2, none⟩ = some (.int .i64 (next + 1)) := y7.cell rfl
              have k3 : w7.cell? ⟨h1, 3, none⟩ = some (.slice A5 l.length c5) := y7.cell rfl
              have p0 : w7.cell? ⟨g + 2, 0, none⟩ = some (.string u) := x7.cell rfl
              have p1 : w7.cell? ⟨g + 2, 1, none⟩ = some (.string d) := x7.cell rfl
              go_wp2_with fail
              refine (reads_any sid room (next + 1) A5 l.length c5 l u d i w7 hH7 (by omega)).mono ?_
              rw [HR1.out]
              rintro e w8 ⟨rfl, bb8⟩
              have d8 := below_then d7 bb8
              clear k0 k1 k2 k3 p0 p1
              go_wp2_with fail
              refine (slive_any _).mono ?_
              rintro e w9 ⟨rfl, bb9⟩
              go_wp2_with fail
              go_ret
              exact ⟨rfl, below_then d8 bb9⟩
            · obtain ⟨bb5, rfl⟩ := use_err hU rfl hue
              generalize Ss.useErr 10000 next = er at hue ⊢
              have hne : (er != 0) = true := by simpa using hue
              have d5 := below_then d4 bb5
              have b5 := bR.on bb5
              have q5 := qR.on bb5
              have hl5 := hl4.on bb5
              have hk5 := hk4.on bb5
              have hRS5 := hRS.on bb5
              clear hU hue k0 k1 k2 k3 bR qR xR hl4 hk4 hRS d4 bb5 j0 p0
              go_upto_region 10 with fail
              have hby := below_alloc (Below.refl w5.heap.size w5) (.cells #[.int .i64 0, .string ⟨#[]⟩, .int .i64 0, .slice none 0 0] 24)
              generalize w5.alloc (.cells #[.int .i64 0, .string ⟨#[]⟩, .int .i64 0, .slice none 0 0] 24) = w6 at hby ⊢
              have d6 := below_then d5 hby
              have b6 := b5.on hby
              have q6 := q5.on hby
              have hl6 := hl5.on hby
              have hk6 := hk5.on hby
              have hR6 := hRS5.on hby
              clear b5 q5 hl5 hk5 hRS5 d5 hby
              have k0 : w6.cell? ⟨g, 0, none⟩ = some (.int .i64 sid) := b6.cell rfl
              have k1 : w6.cell? ⟨g, 1, none⟩ = some (.string room) := b6.cell rfl
              have k2 : w6.cell? ⟨g, 2, none⟩ = some (.int .i64 next) := b6.cell rfl
              have k3 : w6.cell? ⟨g, 3, none⟩ = some (.slice A n c) := b6.cell rfl
              have j1 : w6.cell? ⟨g + 1, 1, none⟩ = some (.slice KA kn kc) := q6.cell rfl
              go_wp2_with fail
              refine (stale_any sid room next A n c l RA R.length rc (R.map mk) KA kn kc ks w6 hl6 (by omega) hR6 hrl HRSZ.out hk6 HFW.out).mono ?_
              rw [show bss (R.map mk) = R from map_bs_mk R, HST.out]
              rintro e w7 ⟨rfl, bb7⟩
              have d7 := below_then d6 bb7
              clear k0 k1 k2 k3 j1
              go_wp2_with fail
              refine (slive_any _).mono ?_
              rintro e w9 ⟨rfl, bb9⟩
              go_wp2_with fail
              go_ret
              exact ⟨rfl, below_then d7 bb9⟩
    · clear hg2
      go_wp2_with fail
      refine (slive_any _).mono ?_
      rintro e w3 ⟨rfl, bb3⟩
      go_wp2_with fail
      go_ret
      exact ⟨rfl, below_then c2 bb3⟩
  · clear hg1
    go_wp2_with fail
    refine (slive_any _).mono ?_
    rintro e w3 ⟨rfl, bb3⟩
    go_wp2_with fail
    go_ret
    exact ⟨rfl, below_then c1 bb3⟩
end Go.Proofs.Ytnbgcjangoiodaa
