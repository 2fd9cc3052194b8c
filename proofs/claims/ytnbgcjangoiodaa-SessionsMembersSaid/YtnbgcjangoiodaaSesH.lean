/-
  The law SessionsMembers.
-/
import Derived.Test.YtnbgcjangoiodaaSesE
import Derived.Test.YtnbgcjangoiodaaSesC
namespace Go.Proofs.Ytnbgcjangoiodaa
open Go.RowKit
attribute [local go_sem ↓] ex_st_shr ex_st_own ex_st_ses
attribute [local go_sem] st_shr_new st_shr st_own_new st_ses_new st_ses

theorem reads_own (L : List Ss.D) (a : Ss.D) : Ss.reads (Ss.shs L 0) 1 a 0 = decide (a ∈ L) := by
  unfold Ss.reads
  rw [Ss.find_shs]
  by_cases h : a ∈ L
  · rw [if_pos h, decide_eq_true h]; rfl
  · rw [if_neg h, decide_eq_false h]
def isTo (S : List Shr) (a : Ss.D) (k : Nat) : Bool := (S.take k).any fun x => decide (Ss.who x = a)
theorem isTo_succ {S : List Shr} {a : Ss.D} {k : Nat} {x : Shr} (h : S[k]? = some x) : isTo S a (k + 1) = (isTo S a k || decide (Ss.who x = a)) := by
  obtain ⟨hk, rfl⟩ := List.getElem?_eq_some_iff.1 h
  unfold isTo
  rw [List.take_succ_eq_append_getElem hk, List.any_append]
  simp
theorem isTo_all (L : List Ss.D) (a : Ss.D) (i : Int) : isTo (Ss.shs L i) a (Ss.shs L i).length = decide (a ∈ L) := by
  unfold isTo
  rw [List.take_of_length_le (Nat.le_refl _), Bool.eq_iff_iff, List.any_eq_true, decide_eq_true_eq]
  constructor
  · rintro ⟨x, hx, he⟩
    rw [decide_eq_true_eq] at he
    exact he ▸ Ss.who_shs hx
  · intro h
    exact ⟨⟨mkB a.1, mkB a.2, i⟩, List.mem_map.2 ⟨a, h, rfl⟩, decide_eq_true (by simp only [Ss.who, bs_mkB])⟩

set_option maxRecDepth 100000 in
set_option maxHeartbeats 8000000 in
theorem sessionsMembers_any (s : Ses) (gp : Grp) (x : Dev) (w : World) (hs : Rd.ses.Ok w s) (hgp : Rd.grp.Ok w gp) (hx : Rd.dev.Ok w x) :
    Calls Try.prog 8 #[.agg (Rd.ses.cells s).toArray, .agg (Rd.grp.cells gp).toArray, .agg (Rd.dev.cells x).toArray] w (Ret w (.bool true)) := by
  obtain ⟨i0, hi, hz0, hz1, hz2⟩ := info_parts infoStr
  have HI := Lib.hid hi; have HZ0 := Lib.hid hz0; have HZ1 := Lib.hid hz1; have HZ2 := Lib.hid hz2
  clear hi hz0 hz1 hz2
  obtain ⟨sid, room, next, ⟨A, n, c, l⟩⟩ := s
  obtain ⟨⟨MA, mn, mc, ms⟩, ⟨KA, kn, kc, ks⟩⟩ := gp
  obtain ⟨u, d⟩ := x
  change Calls _ _ #[.agg #[.int .i64 sid, .string room, .int .i64 next, .slice A n c], .agg #[.slice MA mn mc, .slice KA kn kc], .agg #[.string u, .string d]] _ _
  have hl : Rd.shr.Holds w A n l := hs.2.2.2.1.1
  have hn : n ≤ maxLen := Nat.le_trans hs.2.2.2.1.2.1 hs.2.2.2.1.2.2
  have hmst : Strs w MA mn ms := holds_str hgp.1.1
  have hmsz : ∀ x ∈ ms, x.size ≤ maxLen := hgp.1.1.2.2
  have hmn : mn ≤ maxLen := Nat.le_trans hgp.1.2.1 hgp.1.2.2
  have hkh : Rd.kys.Holds w KA kn ks := hgp.2.1.1
  have hkn : kn ≤ maxLen := Nat.le_trans hgp.2.1.2.1 hgp.2.1.2.2
  have HL := Lib.hid hl.length
  have HMS := Lib.hid hmst.length
  have HMZ := Lib.hid hmsz
  clear hs hx hgp hmsz
  obtain ⟨wa, hwa⟩ : ∃ wa : World, wa = ((w.alloc (.cells #[.int .i64 sid, .string room, .int .i64 next, .slice A n c] 24)).alloc (.cells #[.slice MA mn mc, .slice KA kn kc] 46)).alloc (.cells #[.string u, .string d] 26) := ⟨_, rfl⟩
  have hba : Below w.heap.size w wa := by rw [hwa]; exact below_alloc (below_alloc (below_alloc (Below.refl _ _) _) _) _
  have b0 : OBox wa w.heap.size [.int .i64 sid, .string room, .int .i64 next, .slice A n c] := by rw [hwa]; exact ((OBox.new w [.int .i64 sid, .string room, .int .i64 next, .slice A n c] _).on (below_alloc (Below.refl _ _) _)).on (below_alloc (Below.refl _ _) _)
  have q0 : OBox wa (w.heap.size + 1) [.slice MA mn mc, .slice KA kn kc] := by rw [hwa]; have h := (OBox.new (w.alloc (.cells #[.int .i64 sid, .string room, .int .i64 next, .slice A n c] 24)) [.slice MA mn mc, .slice KA kn kc] 46).on (below_alloc (Below.refl _ _) (.cells #[.string u, .string d] 26)); simpa using h
  have x0 : OBox wa (w.heap.size + 2) [.string u, .string d] := by rw [hwa]; simpa using OBox.new ((w.alloc (.cells #[.int .i64 sid, .string room, .int .i64 next, .slice A n c] 24)).alloc (.cells #[.slice MA mn mc, .slice KA kn kc] 46)) [.string u, .string d] 26
  go_enter Try.func8, Try.ntmps8
  go_upto_region 1 with fail
  rw [← hwa]
  have HW := Lib.hid hwa; clear hwa
  obtain ⟨g, hg⟩ : ∃ g, w.heap.size = g := ⟨_, rfl⟩
  rw [hg] at b0 q0 x0 ⊢
  have HG := Lib.hid hg
  clear hg
  have hla := hl.on hba
  have hma := hmst.on hba
  have hka := hkh.on hba
  have k0 : wa.cell? ⟨g, 0, none⟩ = some (.int .i64 sid) := b0.cell rfl
  have k1 : wa.cell? ⟨g, 1, none⟩ = some (.string room) := b0.cell rfl
  have k2 : wa.cell? ⟨g, 2, none⟩ = some (.int .i64 next) := b0.cell rfl
  have k3 : wa.cell? ⟨g, 3, none⟩ = some (.slice A n c) := b0.cell rfl
  go_wp2_with fail
  refine (rgreat45_any sid room next A n c l wa hla hn).mono ?_
  rintro e w1 ⟨g1, rfl, hg1, bb1⟩
  have c1 := below_then hba bb1
  have b1 := b0.on bb1
  have q1 := q0.on bb1
  have x1 := x0.on bb1
  have hl1 := hla.on bb1
  have hm1 := hma.on bb1
  have hk1 := hka.on bb1
  clear k0 k1 k2 k3 b0 q0 x0 hla hma hka hba bb1 hl hmst hkh
  cases g1
  · have hn40 : n ≤ 40 := hg1 rfl
    clear hg1 hn
    have j0 : w1.cell? ⟨g + 1, 0, none⟩ = some (.slice MA mn mc) := q1.cell rfl
    have j1 : w1.cell? ⟨g + 1, 1, none⟩ = some (.slice KA kn kc) := q1.cell rfl
    go_wp2_with fail
    refine (rmany_any MA mn mc ms KA kn kc ks w1 hm1 hmn hk1 hkn).mono ?_
    rintro e w2 ⟨g2, rfl, hg2, bb2⟩
    have c2 := below_then c1 bb2
    have b2 := b1.on bb2
    have q2 := q1.on bb2
    have x2 := x1.on bb2
    have hl2 := hl1.on bb2
    have hm2 := hm1.on bb2
    have hk2 := hk1.on bb2
    clear j0 j1 b1 q1 x1 hl1 hm1 hk1 c1 bb2
    cases g2
    · obtain ⟨hmn30, hfew⟩ := hg2 rfl
      have HFW := Lib.hid hfew
      clear hg2 hmn hkn hfew
      have p0 : w2.cell? ⟨g + 2, 0, none⟩ = some (.string u) := x2.cell rfl
      have p1 : w2.cell? ⟨g + 2, 1, none⟩ = some (.string d) := x2.cell rfl
      by_cases hu200 : (200 : Int) < (u.size : Nat)
      · have e1 : decide ((200 : Int) < (u.size : Nat)) = true := decide_eq_true hu200
        go_wp2_with fail
        go_ret
        exact ⟨rfl, c2⟩
      have e1 : decide ((200 : Int) < (u.size : Nat)) = false := decide_eq_false hu200
      by_cases hd200 : (200 : Int) < (d.size : Nat)
      · have e2 : decide ((200 : Int) < (d.size : Nat)) = true := decide_eq_true hd200
        go_wp2_with fail
        go_ret
        exact ⟨rfl, c2⟩
      have e2 : decide ((200 : Int) < (d.size : Nat)) = false := decide_eq_false hd200
      clear hu200 hd200
      obtain ⟨L, hLdef⟩ : ∃ L, L = Ss.own (bss ms) ks := ⟨_, rfl⟩
      have hLok := own_ok HMZ.out hk2
      have hL900 : (Ss.own (bss ms) ks).length ≤ 900 := Ss.own_length (by rw [List.length_map]; have := HMS.out; omega) hk2 HFW.out
      rw [← hLdef] at hLok hL900
      have hSok : ShrOk (Ss.shs L 0) := shs_ok (by omega) hLok
      have HSOK := Lib.hid hSok
      have HLD := Lib.hid hLdef
      have hSl : (Ss.shs L 0).length ≤ 900 := by rw [shs_length]; exact hL900
      have hT1 : Ss.stale (Ss.shs L 0) L = false := Ss.stale_own L 0
      have hT2 : Ss.wants (Ss.shs L 0) 0 L = [] := Ss.wants_own L 0
      have hT3 := reads_own L (bs u, bs d)
      have hT4 := isTo_all L (bs u, bs d) 0
      obtain ⟨S, hS⟩ : ∃ S, S = Ss.shs L 0 := ⟨_, rfl⟩
      rw [← hS] at hSl hT1 hT2 hT3 hT4 HSOK
      obtain ⟨mb, hmb⟩ : ∃ mb, decide ((bs u, bs d) ∈ L) = mb := ⟨_, rfl⟩
      rw [hmb] at hT3 hT4
      have HS := Lib.hid hS; have T1 := Lib.hid hT1; have T2 := Lib.hid hT2; have T3 := Lib.hid hT3; have T4 := Lib.hid hT4
      clear hLdef hLok hL900 hSok hS hT1 hT2 hT3 hT4 hmb
      have k0 : w2.cell? ⟨g, 0, none⟩ = some (.int .i64 sid) := b2.cell rfl
      have k1 : w2.cell? ⟨g, 1, none⟩ = some (.string room) := b2.cell rfl
      have k2 : w2.cell? ⟨g, 2, none⟩ = some (.int .i64 next) := b2.cell rfl
      have k3 : w2.cell? ⟨g, 3, none⟩ = some (.slice A n c) := b2.cell rfl
      have j0 : w2.cell? ⟨g + 1, 0, none⟩ = some (.slice MA mn mc) := q2.cell rfl
      have j1 : w2.cell? ⟨g + 1, 1, none⟩ = some (.slice KA kn kc) := q2.cell rfl
      go_wp2_with fail
      refine (renew_any sid room next A n c MA mn mc ms KA kn kc ks 7 w2 hm2 (by omega) HMZ.out hk2 HFW.out).mono ?_
      intro e w3 hR
      rw [← HLD.out, ← HS.out] at hR
      obtain ⟨bb3, A3, c3', A3', c3'', rfl, hH3, _, _, _⟩ := hR
      have d3 := below_then c2 bb3
      have q3 := q2.on bb3
      have x3 := x2.on bb3
      have hm3 := hm2.on bb3
      have hk3 := hk2.on bb3
      clear k0 k1 k2 k3 j0 j1 p0 p1 b2 q2 x2 hl2 hm2 hk2 c2 bb3
      go_upto_region 4 with fail
      have y3 := OBox.new w3 [.int .i64 7, .string room, .int .i64 0, .slice A3 S.length c3'] 24
      have hby := below_alloc (Below.refl w3.heap.size w3) (.cells #[.int .i64 7, .string room, .int .i64 0, .slice A3 S.length c3'] 24)
      change OBox (w3.alloc (.cells #[.int .i64 7, .string room, .int .i64 0, .slice A3 S.length c3'] 24)) _ _ at y3
      have hgw3 := q3.lt
      generalize w3.alloc (.cells #[.int .i64 7, .string room, .int .i64 0, .slice A3 S.length c3'] 24) = w4 at y3 hby ⊢
      have d4 := below_then d3 hby
      have q4 := q3.on hby
      have x4 := x3.on hby
      have hm4 := hm3.on hby
      have hk4 := hk3.on hby
      have hH4 := hH3.on hby
      have hsz3 := d3.size
      have hx3 := x3.lt
      obtain ⟨h1, hh1⟩ : ∃ h, w3.heap.size = h := ⟨_, rfl⟩
      rw [hh1] at y3 hgw3 hsz3 hx3 ⊢
      have HH1 := Lib.hid hh1; have HM3 := Lib.hid hm3; have HK3 := Lib.hid hk3
      have e4 := hby
      clear hh1 q3 x3 hm3 hk3 hH3 d3 hby
      have k0 : w4.cell? ⟨h1, 0, none⟩ = some (.int .i64 7) := y3.cell rfl
      have k1 : w4.cell? ⟨h1, 1, none⟩ = some (.string room) := y3.cell rfl
      have k2 : w4.cell? ⟨h1, 2, none⟩ = some (.int .i64 0) := y3.cell rfl
      have k3 : w4.cell? ⟨h1, 3, none⟩ = some (.slice A3 S.length c3') := y3.cell rfl
      have j0 : w4.cell? ⟨g + 1, 0, none⟩ = some (.slice MA mn mc) := q4.cell rfl
      have j1 : w4.cell? ⟨g + 1, 1, none⟩ = some (.slice KA kn kc) := q4.cell rfl
      go_wp2_with fail
      refine (stale_any 7 room 0 A3 S.length c3' S MA mn mc ms KA kn kc ks w4 hH4 (by omega) hm4 (by omega) HMZ.out hk4 HFW.out).mono ?_
      rw [← HLD.out, T1.out]
      rintro e w5 ⟨rfl, bb5⟩
      have d5 := below_then d4 bb5
      have e5 := below_then e4 bb5
      have y5 := y3.on bb5
      have q5 := q4.on bb5
      have x5 := x4.on bb5
      have hm5 := hm4.on bb5
      have hk5 := hk4.on bb5
      have hH5 := hH4.on bb5
      clear k0 k1 k2 k3 j0 j1 y3 q4 x4 hm4 hk4 hH4 d4 bb5
      have k0 : w5.cell? ⟨h1, 0, none⟩ = some (.int .i64 7) := y5.cell rfl
      have k1 : w5.cell? ⟨h1, 1, none⟩ = some (.string room) := y5.cell rfl
      have k2 : w5.cell? ⟨h1, 2, none⟩ = some (.int .i64 0) := y5.cell rfl
      have k3 : w5.cell? ⟨h1, 3, none⟩ = some (.slice A3 S.length c3') := y5.cell rfl
      have j0 : w5.cell? ⟨g + 1, 0, none⟩ = some (.slice MA mn mc) := q5.cell rfl
      have j1 : w5.cell? ⟨g + 1, 1, none⟩ = some (.slice KA kn kc) := q5.cell rfl
      go_wp2_with fail
      refine (wants_any 7 room 0 A3 S.length c3' S MA mn mc ms KA kn kc ks w5 hH5 (by omega) hm5 (by omega) HMZ.out hk5 HFW.out).mono ?_
      rw [← HLD.out, T2.out]
      rintro e w6 ⟨v6, rfl, bb6, own6⟩
      obtain ⟨A6, c6, rfl, _, _⟩ := own6.form (fun x hx => by cases hx)
      have d6 := below_then d5 bb6
      have e6 := below_then e5 bb6
      have y6 := y5.on bb6
      have q6 := q5.on bb6
      have x6 := x5.on bb6
      have hm6 := hm5.on bb6
      have hk6 := hk5.on bb6
      have hH6 := hH5.on bb6
      clear k0 k1 k2 k3 j0 j1 y5 q5 x5 hm5 hk5 hH5 d5 bb6 own6
      have k0 : w6.cell? ⟨h1, 0, none⟩ = some (.int .i64 7) := y6.cell rfl
      have k1 : w6.cell? ⟨h1, 1, none⟩ = some (.string room) := y6.cell rfl
      have k2 : w6.cell? ⟨h1, 2, none⟩ = some (.int .i64 0) := y6.cell rfl
      have k3 : w6.cell? ⟨h1, 3, none⟩ = some (.slice A3 S.length c3') := y6.cell rfl
      go_wp2_with fail
      refine (use_any 7 room 0 A3 S.length c3' S 10 w6 hH6 (by omega)).mono ?_
      intro e w7 hU
      obtain ⟨bb7, A7, c7, rfl, hH7, _⟩ := use_ok hU (by decide)
      have d7 := below_then d6 bb7
      have e7 := below_then e6 bb7
      have y7 := y6.on bb7
      have q7 := q6.on bb7
      have x7 := x6.on bb7
      have hm7 := hm6.on bb7
      have hk7 := hk6.on bb7
      have hth := y7.there (n := 4) rfl
      clear hU k0 k1 k2 k3 y6 q6 x6 hm6 hk6 hH6 d6 bb7
      go_upto_region 7 with fail
      have y8 := y7.put (cs := [.int .i64 7, .string room, .int .i64 1, .slice A7 S.length c7]) rfl
      have hH8 := shr_apart hH7 y7 [.int .i64 7, .string room, .int .i64 1, .slice A7 S.length c7]
      have q8 := q7.putOther (g' := h1) (cs := [.int .i64 7, .string room, .int .i64 1, .slice A7 S.length c7]) (by omega)
      have x8 := x7.putOther (g' := h1) (cs := [.int .i64 7, .string room, .int .i64 1, .slice A7 S.length c7]) (by omega)
      have d8 := below_own_box (g := h1) (cs := [.int .i64 7, .string room, .int .i64 1, .slice A7 S.length c7]) d7 (by omega)
      have e8 := below_own_box (g := h1) (cs := [.int .i64 7, .string room, .int .i64 1, .slice A7 S.length c7]) e7 (by have := HH1.out; omega)
      have hm8 := HM3.out.on e8
      have hk8 := HK3.out.on e8
      clear y7 hH7 q7 x7 d7 e7 hth hm7 hk7
      generalize putRow w7 h1 [.int .i64 7, .string room, .int .i64 1, .slice A7 S.length c7] = w8 at y8 hH8 q8 x8 d8 e8 hm8 hk8 ⊢
      have j0 : w8.cell? ⟨g + 1, 0, none⟩ = some (.slice MA mn mc) := q8.cell rfl
      have j1 : w8.cell? ⟨g + 1, 1, none⟩ = some (.slice KA kn kc) := q8.cell rfl
      go_wp2_with fail
      refine (devices_any MA mn mc ms KA kn kc ks 0 w8 hm8 (by omega) hk8 HFW.out).mono ?_
      rw [← HLD.out, ← HS.out]
      rintro e w9 ⟨v9, rfl, bb9, own9⟩
      obtain ⟨A9, c9, rfl, hH9, _⟩ := own9.form HSOK.out
      have d9 := below_then d8 bb9
      have y9 := y8.on bb9
      have x9 := x8.on bb9
      have hG9 := hH8.on bb9
      have hSlen := hH9.length
      clear j0 j1 y8 q8 x8 hm8 hk8 hH8 d8 e8 bb9 own9
      go_wp2_with fail
      go_loopw [11, 13] (fun b i wr => ∃ k : Nat, k ≤ S.length ∧ i = .int .i64 k ∧ b = .bool (isTo S (bs u, bs d) k) ∧ Below w9.heap.size w9 wr) (fun _ i _ => S.length - (intOf i).toNat)
      case atStart => exact ⟨0, by omega, rfl, by simp [isTo], Below.refl _ _⟩
      case round =>
        obtain ⟨k, hk, rfl, rfl, hbw⟩ := hrel
        by_cases hkn : k < S.length
        · obtain ⟨bq, oq, z, rfl, _, hz, _, _, hza⟩ := (hH9.on hbw).mid (by decide) hkn
          have z0 : wr.cell? ⟨bq, oq + k * 3, none⟩ = some (.string z.user) := hza 0 _ rfl
          have z1 : wr.cell? ⟨bq, oq + k * 3 + 1, none⟩ = some (.string z.dev) := hza 1 _ rfl
          have xR := x9.on hbw
          have p0 : wr.cell? ⟨g + 2, 0, none⟩ = some (.string u) := xR.cell rfl
          have p1 : wr.cell? ⟨g + 2, 1, none⟩ = some (.string d) := xR.cell rfl
          have HIS := Lib.hid (isTo_succ (a := (bs u, bs d)) hz)
          have hkI : (k : Int) < S.length := by omega
          obtain ⟨f1, hf1⟩ : ∃ e, (z.user.toList == u.toList) = e := ⟨_, rfl⟩
          obtain ⟨f2, hf2⟩ : ∃ e, (z.dev.toList == d.toList) = e := ⟨_, rfl⟩
          have HWD := Lib.hid (who_dec hf1 hf2)
          generalize isTo S (bs u, bs d) k = b0 at HIS ⊢
          clear hza hz xR
          cases b0 <;> cases f1 <;> cases f2
          all_goals
            go_wp2_with fail
            go_quiet (fail)
            go_wp2_with fail
            exact ⟨⟨k + 1, by omega, by go_num, by rw [HIS.out, HWD.out]; rfl, below_drewN hbw _⟩, by simp [intOf]; omega⟩
        · have hke : k = S.length := by omega
          subst hke
          rw [T4.out]
          have yR := y9.on hbw
          have xR := x9.on hbw
          have hHR := hG9.on hbw
          have dR := below_then d9 hbw
          have k0 : wr.cell? ⟨h1, 0, none⟩ = some (.int .i64 7) := yR.cell rfl
          have k1 : wr.cell? ⟨h1, 1, none⟩ = some (.string room) := yR.cell rfl
          have k2 : wr.cell? ⟨h1, 2, none⟩ = some (.int .i64 1) := yR.cell rfl
          have k3 : wr.cell? ⟨h1, 3, none⟩ = some (.slice A7 S.length c7) := yR.cell rfl
          have p0 : wr.cell? ⟨g + 2, 0, none⟩ = some (.string u) := xR.cell rfl
          have p1 : wr.cell? ⟨g + 2, 1, none⟩ = some (.string d) := xR.cell rfl
          clear y9 x9 hG9 d9 hbw
          go_wp2_with fail
          refine (reads_any 7 room 1 A7 S.length c7 S u d 0 wr hHR (by omega)).mono ?_
          rw [T3.out]
          rintro e wy ⟨rfl, bby⟩
          have dy := below_then dR bby
          clear k0 k1 k2 k3 p0 p1
          cases mb
          all_goals
            go_wp2_with fail
            refine (slive_any _).mono ?_
            rintro e wz ⟨rfl, bbz⟩
            go_wp2_with fail
            go_ret
            exact ⟨rfl, below_then dy bbz⟩
    · clear hg2
      go_wp2_with fail
      go_ret
      exact ⟨rfl, c2⟩
  · clear hg1
    go_wp2_with fail
    go_ret
    exact ⟨rfl, c1⟩
end Go.Proofs.Ytnbgcjangoiodaa
