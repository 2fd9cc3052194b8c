/-
  The law SessionsRenews.
-/
import Derived.Test.YtnbgcjangoiodaaSesF
import Derived.Test.YtnbgcjangoiodaaSesC
namespace Go.Proofs.Ytnbgcjangoiodaa
open Go.RowKit
attribute [local go_sem ↓] ex_st_shr ex_st_own ex_st_ses
attribute [local go_sem] st_shr_new st_shr st_own_new st_ses_new st_ses

set_option maxRecDepth 100000 in
set_option maxHeartbeats 8000000 in
theorem sessionsRenews_any (s : Ses) (gp : Grp) (id : Int) (w : World) (hs : Rd.ses.Ok w s) (hgp : Rd.grp.Ok w gp) :
    Calls Try.prog 6 #[.agg (Rd.ses.cells s).toArray, .agg (Rd.grp.cells gp).toArray, .int .i64 id] w (Ret w (.bool true)) := by
  obtain ⟨sid, room, next, ⟨A, n, c, l⟩⟩ := s
  obtain ⟨⟨MA, mn, mc, ms⟩, ⟨KA, kn, kc, ks⟩⟩ := gp
  change Calls _ _ #[.agg #[.int .i64 sid, .string room, .int .i64 next, .slice A n c], .agg #[.slice MA mn mc, .slice KA kn kc], _] _ _
  have hl : Rd.shr.Holds w A n l := hs.2.2.2.1.1
  have hn : n ≤ maxLen := Nat.le_trans hs.2.2.2.1.2.1 hs.2.2.2.1.2.2
  have hmst : Strs w MA mn ms := holds_str hgp.1.1
  have hmsz : ∀ x ∈ ms, x.size ≤ maxLen := hgp.1.1.2.2
  have hmn : mn ≤ maxLen := Nat.le_trans hgp.1.2.1 hgp.1.2.2
  have hkh : Rd.kys.Holds w KA kn ks := hgp.2.1.1
  have hkn : kn ≤ maxLen := Nat.le_trans hgp.2.1.2.1 hgp.2.1.2.2
  have HL := Lib.hid hl.length
  have HMS := Lib.hid hmst.length
  have HMZ := Lib.hid hmsz
  clear hs hgp hmsz
  obtain ⟨wa, hwa⟩ : ∃ wa : World, wa = (w.alloc (.cells #[.int .i64 sid, .string room, .int .i64 next, .slice A n c] 24)).alloc (.cells #[.slice MA mn mc, .slice KA kn kc] 46) := ⟨_, rfl⟩
  have hba : Below w.heap.size w wa := by rw [hwa]; exact below_alloc (below_alloc (Below.refl _ _) _) _
  have b0 : OBox wa w.heap.size [.int .i64 sid, .string room, .int .i64 next, .slice A n c] := by rw [hwa]; exact (OBox.new w [.int .i64 sid, .string room, .int .i64 next, .slice A n c] _).on (below_alloc (Below.refl _ _) _)
  have q0 : OBox wa (w.heap.size + 1) [.slice MA mn mc, .slice KA kn kc] := by rw [hwa]; simpa using OBox.new (w.alloc (.cells #[.int .i64 sid, .string room, .int .i64 next, .slice A n c] 24)) [.slice MA mn mc, .slice KA kn kc] 46
  go_enter Try.func6, Try.ntmps6
  go_upto_region 1 with fail
  rw [← hwa]
  have HW := Lib.hid hwa; clear hwa
  obtain ⟨g, hg⟩ : ∃ g, w.heap.size = g := ⟨_, rfl⟩
  rw [hg] at b0 q0 ⊢
  have HG := Lib.hid hg
  clear hg
  have hla := hl.on hba
  have hma := hmst.on hba
  have hka := hkh.on hba
  have k0 : wa.cell? ⟨g, 0, none⟩ = some (.int .i64 sid) := b0.cell rfl
  have k1 : wa.cell? ⟨g, 1, none⟩ = some (.string room) := b0.cell rfl
  have k2 : wa.cell? ⟨g, 2, none⟩ = some (.int .i64 next) := b0.cell rfl
  have k3 : wa.cell? ⟨g, 3, none⟩ = some (.slice A n c) := b0.cell rfl
  go_wp2_with fail
  refine (rgreat45_any sid room next A n c l wa hla hn).mono ?_
  rintro e w1 ⟨g1, rfl, hg1, bb1⟩
  have c1 := below_then hba bb1
  have b1 := b0.on bb1
  have q1 := q0.on bb1
  have hl1 := hla.on bb1
  have hm1 := hma.on bb1
  have hk1 := hka.on bb1
  clear k0 k1 k2 k3 b0 q0 hla hma hka hba bb1 hl hmst hkh
  cases g1
  · have hn40 : n ≤ 40 := hg1 rfl
    clear hg1 hn
    have j0 : w1.cell? ⟨g + 1, 0, none⟩ = some (.slice MA mn mc) := q1.cell rfl
    have j1 : w1.cell? ⟨g + 1, 1, none⟩ = some (.slice KA kn kc) := q1.cell rfl
    go_wp2_with fail
    refine (rmany_any MA mn mc ms KA kn kc ks w1 hm1 hmn hk1 hkn).mono ?_
    rintro e w2 ⟨g2, rfl, hg2, bb2⟩
    have c2 := below_then c1 bb2
    have b2 := b1.on bb2
    have q2 := q1.on bb2
    have hl2 := hl1.on bb2
    have hm2 := hm1.on bb2
    have hk2 := hk1.on bb2
    clear j0 j1 b1 q1 hl1 hm1 hk1 c1 bb2
    cases g2
    · obtain ⟨hmn30, hfew⟩ := hg2 rfl
      have HFW := Lib.hid hfew
      clear hg2 hmn hkn hfew
      have hL900 : (Ss.own (bss ms) ks).length ≤ 900 := Ss.own_length (by rw [List.length_map]; have := HMS.out; omega) hk2 HFW.out
      obtain ⟨S, hS⟩ : ∃ S, S = Ss.shs (Ss.own (bss ms) ks) 0 := ⟨_, rfl⟩
      have hSl : S.length ≤ 900 := by rw [hS, shs_length]; exact hL900
      have HS := Lib.hid hS
      clear hL900 hS
      have k0 : w2.cell? ⟨g, 0, none⟩ = some (.int .i64 sid) := b2.cell rfl
      have k1 : w2.cell? ⟨g, 1, none⟩ = some (.string room) := b2.cell rfl
      have k2 : w2.cell? ⟨g, 2, none⟩ = some (.int .i64 next) := b2.cell rfl
      have k3 : w2.cell? ⟨g, 3, none⟩ = some (.slice A n c) := b2.cell rfl
      have j0 : w2.cell? ⟨g + 1, 0, none⟩ = some (.slice MA mn mc) := q2.cell rfl
      have j1 : w2.cell? ⟨g + 1, 1, none⟩ = some (.slice KA kn kc) := q2.cell rfl
      go_wp2_with fail
      refine (renew_any sid room next A n c MA mn mc ms KA kn kc ks id w2 hm2 (by omega) HMZ.out hk2 HFW.out).mono ?_
      intro e w3 hR
      rw [← HS.out] at hR
      obtain ⟨bb3, A3, c3, A3', c3', rfl, hH3, _, hI3, _⟩ := hR
      have d3 := below_then c2 bb3
      have b3 := b2.on bb3
      have q3 := q2.on bb3
      have hl3 := hl2.on bb3
      have hm3 := hm2.on bb3
      have hk3 := hk2.on bb3
      clear k0 k1 k2 k3 j0 j1 b2 q2 hl2 hm2 hk2 c2 bb3
      go_upto_region 4 with fail
      have y3 := OBox.new w3 [.int .i64 id, .string room, .int .i64 0, .slice A3 S.length c3] 24
      have hby := below_alloc (Below.refl w3.heap.size w3) (.cells #[.int .i64 id, .string room, .int .i64 0, .slice A3 S.length c3] 24)
      change OBox (w3.alloc (.cells #[.int .i64 id, .string room, .int .i64 0, .slice A3 S.length c3] 24)) _ _ at y3
      generalize w3.alloc (.cells #[.int .i64 id, .string room, .int .i64 0, .slice A3 S.length c3] 24) = w4 at y3 hby ⊢
      have d4 := below_then d3 hby
      have b4 := b3.on hby
      have q4 := q3.on hby
      have hl4 := hl3.on hby
      have hm4 := hm3.on hby
      have hk4 := hk3.on hby
      have hH4 := hH3.on hby
      have hI4 := hI3.on hby
      obtain ⟨h1, hh1⟩ : ∃ h, w3.heap.size = h := ⟨_, rfl⟩
      rw [hh1] at y3 ⊢
      clear hh1 b3 q3 hl3 hm3 hk3 hH3 hI3 d3 hby
      have k0 : w4.cell? ⟨g, 0, none⟩ = some (.int .i64 sid) := b4.cell rfl
      have k1 : w4.cell? ⟨g, 1, none⟩ = some (.string room) := b4.cell rfl
      have k2 : w4.cell? ⟨g, 2, none⟩ = some (.int .i64 next) := b4.cell rfl
      have k3 : w4.cell? ⟨g, 3, none⟩ = some (.slice A n c) := b4.cell rfl
      have j0 : w4.cell? ⟨g + 1, 0, none⟩ = some (.slice MA mn mc) := q4.cell rfl
      have j1 : w4.cell? ⟨g + 1, 1, none⟩ = some (.slice KA kn kc) := q4.cell rfl
      go_wp2_with fail
      refine (rrenew_any sid room next A n c MA mn mc ms KA kn kc ks id w4 hm4 (by omega) HMZ.out hk4 HFW.out).mono ?_
      intro e w5 hR
      rw [← HS.out] at hR
      obtain ⟨bb5, A5, c5, A5', c5', rfl, hH5, _, hI5, _⟩ := hR
      have d5 := below_then d4 bb5
      have y5 := y3.on bb5
      have hG5 := hH4.on bb5
      have hJ5 := hI4.on bb5
      clear k0 k1 k2 k3 j0 j1 b4 q4 hl4 hm4 hk4 d4 y3 hH4 hI4 bb5
      go_upto_region 5 with fail
      have z5 := OBox.new w5 [.int .i64 id, .string room, .int .i64 0, .slice A5 S.length c5] 24
      have hbz := below_alloc (Below.refl w5.heap.size w5) (.cells #[.int .i64 id, .string room, .int .i64 0, .slice A5 S.length c5] 24)
      change OBox (w5.alloc (.cells #[.int .i64 id, .string room, .int .i64 0, .slice A5 S.length c5] 24)) _ _ at z5
      generalize w5.alloc (.cells #[.int .i64 id, .string room, .int .i64 0, .slice A5 S.length c5] 24) = w6 at z5 hbz ⊢
      have d6 := below_then d5 hbz
      have y6 := y5.on hbz
      have hG6 := hG5.on hbz
      have hJ6 := hJ5.on hbz
      have hH6 := hH5.on hbz
      have hI6 := hI5.on hbz
      obtain ⟨h2, hh2⟩ : ∃ h, w5.heap.size = h := ⟨_, rfl⟩
      rw [hh2] at z5 ⊢
      clear hh2 y5 hG5 hJ5 hH5 hI5 d5 hbz
      have ka : w6.cell? ⟨h1, 0, none⟩ = some (.int .i64 id) := y6.cell rfl
      have kb : w6.cell? ⟨h1, 1, none⟩ = some (.string room) := y6.cell rfl
      have kc : w6.cell? ⟨h1, 2, none⟩ = some (.int .i64 0) := y6.cell rfl
      have kd : w6.cell? ⟨h1, 3, none⟩ = some (.slice A3 S.length c3) := y6.cell rfl
      have ja : w6.cell? ⟨h2, 0, none⟩ = some (.int .i64 id) := z5.cell rfl
      have jb : w6.cell? ⟨h2, 1, none⟩ = some (.string room) := z5.cell rfl
      have jc : w6.cell? ⟨h2, 2, none⟩ = some (.int .i64 0) := z5.cell rfl
      have jd : w6.cell? ⟨h2, 3, none⟩ = some (.slice A5 S.length c5) := z5.cell rfl
      go_wp2_with fail
      refine (sameSes_any id room 0 A3 A5 S.length c3 c5 S w6 hG6 hH6 (by omega)).mono ?_
      rintro e w7 ⟨rfl, bb7⟩
      have d7 := below_then d6 bb7
      have hJ7 := hJ6.on bb7
      have hI7 := hI6.on bb7
      clear ka kb kc kd ja jb jc jd y6 z5 hG6 hH6 hJ6 hI6 d6 bb7
      go_wp2_with fail
      refine (sameShares_any A3' A5' S.length c3' c5' S w7 (by assumption) (by assumption) (by omega)).mono ?_
      rintro e w8 ⟨rfl, bb8⟩
      have d8 := below_then d7 bb8
      clear hJ7 hI7 d7 bb8
      go_wp2_with fail
      refine (slive_any _).mono ?_
      rintro e w9 ⟨rfl, bb9⟩
      go_wp2_with fail
      go_ret
      exact ⟨rfl, below_then d8 bb9⟩
    · clear hg2
      go_wp2_with fail
      go_ret
      exact ⟨rfl, c2⟩
  · clear hg1
    go_wp2_with fail
    go_ret
    exact ⟨rfl, c1⟩
end Go.Proofs.Ytnbgcjangoiodaa
