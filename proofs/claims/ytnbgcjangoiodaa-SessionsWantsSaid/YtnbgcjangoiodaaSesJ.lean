/-
  The law SessionsWants.
-/
import Derived.Test.YtnbgcjangoiodaaSesF
import Derived.Test.YtnbgcjangoiodaaSesC
namespace Go.Proofs.Ytnbgcjangoiodaa
open Go.RowKit
attribute [local go_sem ↓] ex_st_shr ex_st_own ex_st_ses
attribute [local go_sem] st_shr_new st_shr st_own_new st_ses_new st_ses

set_option maxRecDepth 100000 in
set_option maxHeartbeats 8000000 in
theorem sessionsWants_any (s : Ses) (MA : Option Addr) (mn mc : Nat) (ms : List ByteArray) (K : Sl Kys) (w : World) (hs : Rd.ses.Ok w s) (hmst : Strs w MA mn ms) (hmn : mn ≤ maxLen) (hmsz : ∀ x ∈ ms, x.size ≤ maxLen) (hK : Rd.kys.Holds w K.A K.n K.l ∧ K.n ≤ maxLen) :
    Calls Try.prog 5 #[.agg (Rd.ses.cells s).toArray, .slice MA mn mc, K.val] w (Ret w (.bool true)) := by
  obtain ⟨sid, room, next, ⟨A, n, c, l⟩⟩ := s
  obtain ⟨KA, kn, kc, ks⟩ := K
  obtain ⟨hkh, hkn⟩ := hK
  change Calls _ _ #[.agg #[.int .i64 sid, .string room, .int .i64 next, .slice A n c], .slice MA mn mc, .slice KA kn kc] _ _
  change Rd.kys.Holds w KA kn ks at hkh
  change kn ≤ maxLen at hkn
  have hl : Rd.shr.Holds w A n l := hs.2.2.2.1.1
  have hn : n ≤ maxLen := Nat.le_trans hs.2.2.2.1.2.1 hs.2.2.2.1.2.2
  have hnext : -9223372036854775808 ≤ next ∧ next ≤ 9223372036854775807 := hs.2.2.1
  have HL := Lib.hid hl.length
  have HMS := Lib.hid hmst.length
  have HMZ := Lib.hid hmsz
  have HNX := Lib.hid hnext
  clear hs hmsz hnext
  obtain ⟨wa, hwa⟩ : ∃ wa : World, wa = w.alloc (.cells #[.int .i64 sid, .string room, .int .i64 next, .slice A n c] 24) := ⟨_, rfl⟩
  have hba : Below w.heap.size w wa := by rw [hwa]; exact below_alloc (Below.refl _ _) _
  have b0 : OBox wa w.heap.size [.int .i64 sid, .string room, .int .i64 next, .slice A n c] := by rw [hwa]; exact OBox.new w [.int .i64 sid, .string room, .int .i64 next, .slice A n c] _
  go_enter Try.func5, Try.ntmps5
  go_upto_region 1 with fail
  rw [← hwa]
  have HW := Lib.hid hwa; clear hwa
  obtain ⟨g, hg⟩ : ∃ g, w.heap.size = g := ⟨_, rfl⟩
  rw [hg] at b0 ⊢
  have HG := Lib.hid hg
  clear hg
  have hla := hl.on hba
  have hma := hmst.on hba
  have hka := hkh.on hba
  have k0 : wa.cell? ⟨g, 0, none⟩ = some (.int .i64 sid) := b0.cell rfl
  have k1 : wa.cell? ⟨g, 1, none⟩ = some (.string room) := b0.cell rfl
  have k2 : wa.cell? ⟨g, 2, none⟩ = some (.int .i64 next) := b0.cell rfl
  have k3 : wa.cell? ⟨g, 3, none⟩ = some (.slice A n c) := b0.cell rfl
  go_wp2_with fail
  refine (rgreat45_any sid room next A n c l wa hla hn).mono ?_
  rintro e w1 ⟨g1, rfl, hg1, bb1⟩
  have c1 := below_then hba bb1
  have b1 := b0.on bb1
  have hl1 := hla.on bb1
  have hm1 := hma.on bb1
  have hk1 := hka.on bb1
  clear k0 k1 k2 k3 b0 hla hma hka hba bb1 hl hmst hkh
  cases g1
  · have hn40 : n ≤ 40 := hg1 rfl
    clear hg1 hn
    go_wp2_with fail
    refine (rmany_any MA mn mc ms KA kn kc ks w1 hm1 hmn hk1 hkn).mono ?_
    rintro e w2 ⟨g2, rfl, hg2, bb2⟩
    have c2 := below_then c1 bb2
    have b2 := b1.on bb2
    have hl2 := hl1.on bb2
    have hm2 := hm1.on bb2
    have hk2 := hk1.on bb2
    clear b1 hl1 hm1 hk1 c1 bb2
    cases g2
    · obtain ⟨hmn30, hfew⟩ := hg2 rfl
      have HFW := Lib.hid hfew
      clear hg2 hmn hkn hfew
      have hL900 : (Ss.own (bss ms) ks).length ≤ 900 := Ss.own_length (by rw [List.length_map]; have := HMS.out; omega) hk2 HFW.out
      obtain ⟨S, hS⟩ : ∃ S, S = Ss.wants l next (Ss.own (bss ms) ks) := ⟨_, rfl⟩
      have hSl : S.length ≤ 1000000 := by rw [hS]; have := Ss.wants_length l (Ss.own (bss ms) ks) next; omega
      have hSok : ShrOk S := by
        rw [hS]
        exact shs_ok HNX.out fun a ha => own_ok HMZ.out hk2 a (List.mem_filter.1 ha).1
      obtain ⟨sb, hsb⟩ : ∃ sb, sb = Ss.stale l (Ss.own (bss ms) ks) := ⟨_, rfl⟩
      have CW : Hid (∀ V, Below w2.heap.size w2 V → Calls Try.prog 23 #[sesA sid room next A n c, .slice MA mn mc, .slice KA kn kc] V fun e V' => ∃ A' c', e = .returned (.slice A' S.length c') ∧ Below V.heap.size V V' ∧ Rd.shr.Holds V' A' S.length S) :=
        Lib.hid fun V hb => (wants_any sid room next A n c l MA mn mc ms KA kn kc ks V (hl2.on hb) (by omega) (hm2.on hb) (by omega) HMZ.out (hk2.on hb) HFW.out).mono fun e V' ⟨v, h1, h2, h3⟩ => by
          rw [← hS] at h3
          obtain ⟨A', c', rfl, h4, _⟩ := h3.form hSok
          exact ⟨A', c', h1, h2, h4⟩
      have CR : Hid (∀ V, Below w2.heap.size w2 V → Calls Try.prog 24 #[sesA sid room next A n c, .slice MA mn mc, .slice KA kn kc] V fun e V' => ∃ A' c', e = .returned (.slice A' S.length c') ∧ Below V.heap.size V V' ∧ Rd.shr.Holds V' A' S.length S) :=
        Lib.hid fun V hb => (rwants_any sid room next A n c l MA mn mc ms KA kn kc ks V (hl2.on hb) (by omega) HNX.out (hm2.on hb) (by omega) HMZ.out (hk2.on hb) HFW.out).mono fun e V' ⟨v, h1, h2, h3⟩ => by
          rw [← hS] at h3
          obtain ⟨A', c', rfl, h4, _⟩ := h3.form hSok
          exact ⟨A', c', h1, h2, h4⟩
      have CS : Hid (∀ V, Below w2.heap.size w2 V → Calls Try.prog 25 #[sesA sid room next A n c, .slice MA mn mc, .slice KA kn kc] V (Ret V (.bool sb))) :=
        Lib.hid fun V hb => by rw [hsb]; exact stale_any sid room next A n c l MA mn mc ms KA kn kc ks V (hl2.on hb) (by omega) (hm2.on hb) (by omega) HMZ.out (hk2.on hb) HFW.out
      have CT : Hid (∀ V, Below w2.heap.size w2 V → Calls Try.prog 26 #[sesA sid room next A n c, .slice MA mn mc, .slice KA kn kc] V (Ret V (.bool sb))) :=
        Lib.hid fun V hb => by rw [hsb]; exact rstale_any sid room next A n c l MA mn mc ms KA kn kc ks V (hl2.on hb) (by omega) (hm2.on hb) (by omega) HMZ.out (hk2.on hb) HFW.out
      have CM : Hid (∀ V A1 c1 A2 c2, Rd.shr.Holds V A1 S.length S → Rd.shr.Holds V A2 S.length S → Calls Try.prog 22 #[.slice A1 S.length c1, .slice A2 S.length c2] V (Ret V (.bool true))) :=
        Lib.hid fun V A1 c1 A2 c2 h1 h2 => sameShares_any A1 A2 S.length c1 c2 S V h1 h2 hSl
      have CL : Hid (∀ V, Calls Try.prog 16 #[] V (Ret V (.bool true))) := Lib.hid fun V => slive_any V
      have BX := Lib.hid (fun V (h : Below w2.heap.size w2 V) => (⟨h, (b2.on h).cell rfl, (b2.on h).cell rfl, (b2.on h).cell rfl, (b2.on h).cell rfl⟩ :
        Below w2.heap.size w2 V ∧ V.cell? ⟨g, 0, none⟩ = some (.int .i64 sid) ∧ V.cell? ⟨g, 1, none⟩ = some (.string room) ∧ V.cell? ⟨g, 2, none⟩ = some (.int .i64 next) ∧ V.cell? ⟨g, 3, none⟩ = some (.slice A n c)))
      clear hS hsb hL900 hSok hl2 hm2 hk2 b2
      go_upto_region 3 with fail
      cases sb
      all_goals
        go_region_held3 (fun V => Below w2.heap.size w2 V ∧ V.cell? ⟨g, 0, none⟩ = some (.int .i64 sid) ∧ V.cell? ⟨g, 1, none⟩ = some (.string room) ∧ V.cell? ⟨g, 2, none⟩ = some (.int .i64 next) ∧ V.cell? ⟨g, 3, none⟩ = some (.slice A n c))
          (first | exact BX.out _ (by assumption) | exact BX.out _ (Below.refl _ _) | exact BX.out _ (Below.drew (Below.refl _ _)) | exact BX.out _ (Below.drew (by assumption)))
          (first
          | (go_at_call 23; have hB := And.left ‹Below w2.heap.size w2 _ ∧ _›; refine (CW.out _ hB).mono ?_; (first | (have hR9 := hR1; rintro e wv ⟨A1r, c1r, rfl, bx, hW1⟩; have hR2 := Rd.Holds.on hR9 bx; have bv2 : Below w2.heap.size w2 wv := below_then hB bx; clear bx hB hR9) | (rintro e wv ⟨A1r, c1r, rfl, bx, hW1⟩; have bv2 : Below w2.heap.size w2 wv := below_then hB bx; clear bx hB)))
          | (go_at_call 24; have hB := And.left ‹Below w2.heap.size w2 _ ∧ _›; refine (CR.out _ hB).mono ?_; (first | (have hW9 := hW1; rintro e wr ⟨A2r, c2r, rfl, bx, hR1⟩; have hW2 := Rd.Holds.on hW9 bx; have br2 : Below w2.heap.size w2 wr := below_then hB bx; clear bx hB hW9) | (rintro e wr ⟨A2r, c2r, rfl, bx, hR1⟩; have br2 : Below w2.heap.size w2 wr := below_then hB bx; clear bx hB)))
          | (go_at_call 22; have hB := And.left ‹Below w2.heap.size w2 _ ∧ _›; (first | refine (CM.out _ _ _ _ _ hW1 hR2).mono ?_ | refine (CM.out _ _ _ _ _ hW2 hR1).mono ?_); rintro e wm ⟨rfl, bx⟩; have bm2 : Below w2.heap.size w2 wm := below_then hB bx; clear bx hB)
          | (go_at_call 25; have hB := And.left ‹Below w2.heap.size w2 _ ∧ _›; refine (CS.out _ hB).mono ?_; rintro e ws ⟨rfl, bx⟩; have bs2 : Below w2.heap.size w2 ws := below_then hB bx; clear bx hB)
          | (go_at_call 26; have hB := And.left ‹Below w2.heap.size w2 _ ∧ _›; refine (CT.out _ hB).mono ?_; rintro e wt ⟨rfl, bx⟩; have bt2 : Below w2.heap.size w2 wt := below_then hB bx; clear bx hB)
          | (go_at_call 16; have hB := And.left ‹Below w2.heap.size w2 _ ∧ _›; refine (CL.out _).mono ?_; rintro e wl ⟨rfl, bx⟩; have bl2 : Below w2.heap.size w2 wl := below_then hB bx; clear bx hB))
      all_goals
        go_wp2_with fail
        go_ret
        exact ⟨rfl, below_then c2 bl2⟩
    · clear hg2
      go_wp2_with fail
      go_ret
      exact ⟨rfl, c2⟩
  · clear hg1
    go_wp2_with fail
    go_ret
    exact ⟨rfl, c1⟩
end Go.Proofs.Ytnbgcjangoiodaa
