/-
  The walk through the law TypingLasts.
-/
import Derived.Test.YtbhkgdfmjkblcaaTypD
import Derived.Deep.RegionHeld3
namespace Go.Proofs.Ytbhkgdfmjkblcaa
open Go.RowKit

theorem bss_mk (l : List (List UInt8)) : bss (l.map mk) = l := by simp [Function.comp_def, bs_mk]
theorem last1 {l ms : List Typ} {u : ByteArray} {now span t : Int} {L : List ByteArray} (he : startErr (bs u) now span = 0) (hm : startL l u now span = ms) (hl : T.chk none l = 0) (h : (T.now ms t).map mk = L) :
    hasB (bss L) (bs u) = decide (t < now + span) := by
  subst h hm
  rw [bss_mk]
  unfold startL
  rw [if_pos he]
  exact T.lasts_has hl ⟨u, now + span⟩ t
theorem last2 {l ms : List Typ} {u : ByteArray} {now span t : Int} {L K : List ByteArray} (he : startErr (bs u) now span = 0) (hm : startL l u now span = ms) (hl : T.chk none l = 0) (h : (T.now ms t).map mk = L) (hk : (T.now l t).map mk = K) :
    T.without (bss L) (bs u) = T.without (bss K) (bs u) := by
  subst h hk hm
  rw [bss_mk, bss_mk]
  unfold startL
  rw [if_pos he]
  exact T.lasts_others hl ⟨u, now + span⟩ t
theorem last3 {m mf : List Typ} {u : ByteArray} {t : Int} {L : List ByteArray} (hm : m.filter (fun y => decide (T.nm y ≠ bs u)) = mf) (h : (T.now mf t).map mk = L) : hasB (bss L) (bs u) = false := by
  subst h hm
  rw [bss_mk]
  exact T.stop_has m (bs u) t
theorem now_len2 {l : List Typ} {n : Nat} {now : Int} {L : List ByteArray} (hn : l.length ≤ n) (hL : (T.now l now).map mk = L) : L.length ≤ n := by
  have h1 : (T.now l now).length ≤ (T.clean l now).length := by
    have h := Nm.names_length ((T.clean l now).map T.nm)
    rw [List.length_map] at h
    exact h
  have h2 : (T.clean l now).length ≤ l.length := List.length_filter_le _ _
  subst hL
  simp only [List.length_map]
  omega
theorem wo_len {K L : List ByteArray} {u : List UInt8} {n : Nat} (hn : K.length ≤ n) (hL : (T.without (bss K) u).map mk = L) : L.length ≤ n := by
  subst hL
  have := List.length_filter_le (fun y => decide (y ≠ u)) (bss K)
  simp only [List.length_map] at this ⊢
  unfold T.without
  omega

set_option maxRecDepth 100000 in
set_option maxHeartbeats 4000000 in
theorem typingLasts_any (x : Sl Typ) (y : Cl) (t : Int) (w : World) (hx : (Typs w x.A x.n x.l ∧ x.n ≤ x.c) ∧ x.n ≤ maxLen) (hy : Rd.cl.Ok w y) :
    Calls Try.prog 7 #[x.val, .agg (Rd.cl.cells y).toArray, .int .i64 t] w (Ret w (.bool true)) := by
  obtain ⟨A, n, c, l⟩ := x
  obtain ⟨⟨hr, hc⟩, hn⟩ := hx
  obtain ⟨u, now, span⟩ := y
  change Calls _ _ #[.slice A n c, .agg #[.string u, .int .i64 now, .int .i64 span], _] _ _
  replace hr : Typs w A n l := hr
  replace hn : n ≤ maxLen := hn
  replace hc : n ≤ c := hc
  have hu : u.size ≤ maxLen := hy.1
  have HL := Lib.hid (Rd.Holds.length hr)
  go_enter Try.func7, Try.ntmps7
  obtain ⟨wa, hwa⟩ : ∃ wa : World, wa = w.alloc (.cells #[.string u, .int .i64 now, .int .i64 span] 28) := ⟨_, rfl⟩
  have hba : Below w.heap.size w wa := by rw [hwa]; exact below_alloc (Below.refl _ _) _
  have hbx : CBox wa w.heap.size ⟨u, now, span⟩ := by rw [hwa]; exact Rd.Holds.new Rd.cl _ _ _ _ _ rfl rfl (by intro z hz; simp only [List.mem_singleton] at hz; subst hz; exact hy)
  replace hr := hr.on hba
  go_wp2_with fail
  rw [← hwa]
  clear hwa hy
  refine (tgreat_any A n c l wa hr hn).mono ?_
  rintro e w1 ⟨g, rfl, hg, rfl⟩
  obtain ⟨p0, p1, p2⟩ := hbx.cells
  cases g
  · have hn40 := hg rfl
    clear hg
    by_cases hlt : (200 : Int) < (u.size : Nat)
    · clear hr HL
      go_wp2_with fail
      refine (tlive_any _).mono ?_
      rintro e w3 ⟨rfl, b3⟩
      go_wp2_with fail
      go_ret
      exact ⟨rfl, below_then hba b3⟩
    · go_wp2_with fail
      refine (tcheck_any A n c l wa hr hn).mono ?_
      rintro e w1 ⟨rfl, b1⟩
      have hr1 := hr.on b1
      have hbx1 := hbx.on b1
      have d1 := below_then hba b1
      clear p0 p1 p2
      obtain ⟨p0, p1, p2⟩ := hbx1.cells
      obtain ⟨err, herr⟩ : ∃ err, T.chk none l = err := ⟨_, rfl⟩
      rw [herr]
      by_cases he : err = 0
      · subst he
        obtain ⟨ms, hms⟩ : ∃ m, startL l u now span = m := ⟨_, rfl⟩
        obtain ⟨er, her⟩ : ∃ er, startErr (bs u) now span = er := ⟨_, rfl⟩
        have q1 : ms.length ≤ 41 := startL_len hms HL.out hn40
        have MS := Lib.hid hms; have ER := Lib.hid her; have HE := Lib.hid herr
        clear hms her herr
        go_wp2_with fail
        refine (start_of ER.out MS.out hr1 (by omega) hc hu).mono ?_
        rintro e w2 ⟨A2, c2, rfl, hT2, hc2, b2⟩
        have hr2 := hr1.on b2
        have hbx2 := hbx1.on b2
        have d2 := below_then d1 b2
        clear p0 p1 p2
        obtain ⟨p0, p1, p2⟩ := hbx2.cells
        by_cases hz : er = 0
        · subst hz
          obtain ⟨K, hK⟩ : ∃ K, (T.now l t).map mk = K := ⟨_, rfl⟩
          obtain ⟨M, hM⟩ : ∃ K, (T.now ms t).map mk = K := ⟨_, rfl⟩
          have hK40 : K.length ≤ 40 := now_len2 (by have := HL.out; omega) hK
          have hM40 : M.length ≤ 41 := now_len2 q1 hM
          have NK := Lib.hid hK; have NM := Lib.hid hM
          clear hK hM
          go_wp2_with fail
          refine (tnow_any A n c l t w2 hr2 (by omega)).mono ?_
          rintro e w3 ⟨v3, rfl, b3, o3⟩
          obtain ⟨A3, c3, rfl, hS3⟩ := now_form NK.out o3
          have hT3 := hT2.on b3
          have hbx3 := hbx2.on b3
          have d3 := below_then d2 b3
          clear o3 p0 p1 p2
          go_wp2_with fail
          refine (tnow_any _ _ _ ms t w3 hT3 (by omega)).mono ?_
          rintro e wq ⟨v4, rfl, b4, o4⟩
          obtain ⟨A4, c4, rfl, hS4⟩ := now_form NM.out o4
          have hTq := hT3.on b4
          have hSq := hS3.on b4
          have hbq := hbx3.on b4
          have dq := below_then d3 b4
          clear o4
          obtain ⟨p0, p1, p2⟩ := hbq.cells
          obtain ⟨bb, hbb⟩ : ∃ bb : Bool, decide (t < now + span) = bb := ⟨_, rfl⟩
          have hw : IntKind.i64.wrap (now + span) = now + span := by
            have h := ER.out
            unfold startErr at h
            split at h
            · simp at h
            · split at h
              · simp at h
              · exact IntWalk.i64_in _ (by omega)
          obtain ⟨L, hL⟩ : ∃ L, (T.without (bss K) (bs u)).map mk = L := ⟨_, rfl⟩
          obtain ⟨mf, hmf⟩ : ∃ m, ms.filter (fun y => decide (T.nm y ≠ bs u)) = m := ⟨_, rfl⟩
          obtain ⟨F, hF⟩ : ∃ F, (T.now mf t).map mk = F := ⟨_, rfl⟩
          have hL40 : L.length ≤ 40 := wo_len hK40 hL
          have hmf41 : mf.length ≤ 41 := by have := List.length_filter_le (fun y => decide (T.nm y ≠ bs u)) ms; rw [hmf] at this; omega
          have hF41 : F.length ≤ 41 := now_len2 hmf41 hF
          have hokf : TypOk mf := fun y hy => hTq.ok y (List.mem_filter.1 (by rw [hmf]; exact hy : y ∈ ms.filter fun y => decide (T.nm y ≠ bs u))).1
          have hh1 : hasB (bss M) (bs u) = bb := (last1 ER.out MS.out HE.out NM.out).trans hbb
          have hh2 : (T.without (bss M) (bs u)).map mk = L := by rw [last2 ER.out MS.out HE.out NM.out NK.out]; exact hL
          have hh3 : hasB (bss F) (bs u) = false := last3 hmf hF
          have CH : Hid (∀ w1 : World, Below wq.heap.size wq w1 → Calls Try.prog 29 #[.slice A4 M.length c4, .string u] w1 fun e w' => e = .returned (.bool bb) ∧ Below wq.heap.size wq w') :=
            Lib.hid fun w1 hb => (thas_any _ _ _ M u w1 (hS4.on hb) (by omega)).mono fun e w' ⟨h1, h2⟩ => ⟨by rw [h1, hh1], h2 ▸ hb⟩
          have CM : Hid (∀ w1 : World, Below wq.heap.size wq w1 → Calls Try.prog 30 #[.slice A4 M.length c4, .string u] w1 fun e w' => ∃ A c, e = .returned (.slice A L.length c) ∧ Strs w' A L.length L ∧ Below wq.heap.size wq w') :=
            Lib.hid fun w1 hb => (twithout_any _ _ _ M u w1 (hS4.on hb) (by omega)).mono fun e w' ⟨v, h1, h2, h3⟩ => by
              obtain ⟨A', c', rfl, h4⟩ := now_form hh2 h3
              exact ⟨A', c', h1, h4, below_then hb h2⟩
          have CK : Hid (∀ (A0 : Option Addr) (w1 : World), Strs w1 A0 L.length L → Below wq.heap.size wq w1 → Calls Try.prog 30 #[.slice A3 K.length c3, .string u] w1 fun e w' => ∃ A c, e = .returned (.slice A L.length c) ∧ Strs w' A L.length L ∧ Strs w' A0 L.length L ∧ Below wq.heap.size wq w') :=
            Lib.hid fun A0 w1 h0 hb => (twithout_any _ _ _ K u w1 (hSq.on hb) (by omega)).mono fun e w' ⟨v, h1, h2, h3⟩ => by
              obtain ⟨A', c', rfl, h4⟩ := now_form hL h3
              exact ⟨A', c', h1, h4, h0.on h2, below_then hb h2⟩
          have CS : Hid (∀ (A1 A2 : Option Addr) (c1 c2 : Nat) (w1 : World), Strs w1 A1 L.length L → Strs w1 A2 L.length L → Below wq.heap.size wq w1 → Calls Try.prog 26 #[.slice A1 L.length c1, .slice A2 L.length c2] w1 fun e w' => e = .returned (.bool true) ∧ Below wq.heap.size wq w') :=
            Lib.hid fun A1 A2 c1 c2 w1 h1 h2 hb => (sameTexts_eq A1 A2 _ c1 c2 L w1 h1 h2 (by unfold maxLen; omega)).mono fun e w' ⟨h3, h4⟩ => ⟨h3, below_then hb h4⟩
          have CP : Hid (∀ w1 : World, Below wq.heap.size wq w1 → Calls Try.prog 22 #[.slice A2 ms.length c2, .string u] w1 fun e w' => ∃ A c, e = .returned (.slice A mf.length c) ∧ Typs w' A mf.length mf ∧ Below wq.heap.size wq w') :=
            Lib.hid fun w1 hb => (tstop_any _ _ _ ms u w1 (hTq.on hb) (by omega)).mono fun e w' ⟨v, h1, h2, h3⟩ => by
              rw [hmf] at h3
              obtain ⟨A', c', rfl, h4⟩ := h3.form hokf
              exact ⟨A', c', h1, h4, below_then hb h2⟩
          have CN : Hid (∀ (A1 : Option Addr) (c1 : Nat) (w1 : World), Typs w1 A1 mf.length mf → Below wq.heap.size wq w1 → Calls Try.prog 27 #[.slice A1 mf.length c1, .int .i64 t] w1 fun e w' => ∃ A c, e = .returned (.slice A F.length c) ∧ Strs w' A F.length F ∧ Below wq.heap.size wq w') :=
            Lib.hid fun A1 c1 w1 h0 hb => (tnow_any A1 _ c1 mf t w1 h0 (by omega)).mono fun e w' ⟨v, h1, h2, h3⟩ => by
              obtain ⟨A', c', rfl, h4⟩ := now_form hF h3
              exact ⟨A', c', h1, h4, below_then hb h2⟩
          have CF : Hid (∀ (A1 : Option Addr) (c1 : Nat) (w1 : World), Strs w1 A1 F.length F → Below wq.heap.size wq w1 → Calls Try.prog 29 #[.slice A1 F.length c1, .string u] w1 fun e w' => e = .returned (.bool false) ∧ Below wq.heap.size wq w') :=
            Lib.hid fun A1 c1 w1 h0 hb => (thas_any A1 _ c1 F u w1 h0 (by omega)).mono fun e w' ⟨h1, h2⟩ => ⟨by rw [h1, hh3], h2 ▸ hb⟩
          have CL : Hid (∀ w1 : World, Below wq.heap.size wq w1 → Calls Try.prog 18 #[] w1 fun e w' => e = .returned (.bool true) ∧ Below wq.heap.size wq w') :=
            Lib.hid fun w1 hb => (tlive_any w1).mono fun e w' ⟨h1, h2⟩ => ⟨h1, below_then hb h2⟩
          clear hh1 hh2 hh3 hL hmf hF hL40 hmf41 hF41 hokf hT3 hT2 hTq hS3 hS4 hSq hbx hbx1 hbx2 hbx3 hr hr1 hr2 b1 b2 b3 b4 d1 d2 d3 q1 hK40 hM40 NK NM MS ER HE HL
          cases bb
          all_goals go_wp2_with fail
          all_goals go_region_held3 (fun w' => Below wq.heap.size wq w' ∧ w'.cell? ⟨w.heap.size, 0, none⟩ = some (.string u) ∧ w'.cell? ⟨w.heap.size, 1, none⟩ = some (.int .i64 now) ∧ w'.cell? ⟨w.heap.size, 2, none⟩ = some (.int .i64 span)) (first | (exact ⟨by assumption, by assumption, by assumption, by assumption⟩) | (exact ⟨Below.drew (Below.refl _ _), by simpa using p0, by simpa using p1, by simpa using p2⟩))
            (first
            | (go_at_call 18; refine (CL.out _ (And.left ‹Below wq.heap.size wq _ ∧ _›)).mono ?_; rintro e wx ⟨rfl, bx⟩; obtain ⟨q0, q1, q2⟩ := (hbq.on bx).cells)
            | (go_at_call 29; with_reducible refine (CH.out _ (And.left ‹Below wq.heap.size wq _ ∧ _›)).mono ?_; rintro e wx ⟨rfl, bx⟩; obtain ⟨q0, q1, q2⟩ := (hbq.on bx).cells)
            | (go_at_call 29; refine (CF.out _ _ _ (by assumption) (And.left ‹Below wq.heap.size wq _ ∧ _›)).mono ?_; rintro e wx ⟨rfl, bx⟩; obtain ⟨q0, q1, q2⟩ := (hbq.on bx).cells)
            | (go_at_call 30; with_reducible refine (CM.out _ (And.left ‹Below wq.heap.size wq _ ∧ _›)).mono ?_; rintro e wx ⟨Ax, cx, rfl, sx, bx⟩; obtain ⟨q0, q1, q2⟩ := (hbq.on bx).cells)
            | (go_at_call 30; refine (CK.out _ _ (by assumption) (And.left ‹Below wq.heap.size wq _ ∧ _›)).mono ?_; rintro e wx ⟨Ay, cy, rfl, sx, sy, bx⟩; obtain ⟨q0, q1, q2⟩ := (hbq.on bx).cells)
            | (go_at_call 26; refine (CS.out _ _ _ _ _ (by assumption) (by assumption) (And.left ‹Below wq.heap.size wq _ ∧ _›)).mono ?_; rintro e wx ⟨rfl, bx⟩; obtain ⟨q0, q1, q2⟩ := (hbq.on bx).cells)
            | (go_at_call 22; refine (CP.out _ (And.left ‹Below wq.heap.size wq _ ∧ _›)).mono ?_; rintro e wx ⟨Ax, cx, rfl, sx, bx⟩; obtain ⟨q0, q1, q2⟩ := (hbq.on bx).cells)
            | (go_at_call 27; refine (CN.out _ _ _ (by assumption) (And.left ‹Below wq.heap.size wq _ ∧ _›)).mono ?_; rintro e wx ⟨Ax, cx, rfl, sx, bx⟩; obtain ⟨q0, q1, q2⟩ := (hbq.on bx).cells))
          all_goals go_wp2_with fail
          all_goals go_ret
          all_goals exact ⟨rfl, below_then dq (by assumption)⟩
        · have hne : (er != 0) = true := by simpa using hz
          clear MS ER HE HL hr1 hr2
          go_wp2_with fail
          refine (tlive_any _).mono ?_
          rintro e w3 ⟨rfl, b3⟩
          go_wp2_with fail
          go_ret
          exact ⟨rfl, below_then d2 b3⟩
      · clear herr HL hr1
        have hne : (err != 0) = true := by simpa using he
        go_wp2_with fail
        refine (tlive_any _).mono ?_
        rintro e w3 ⟨rfl, b3⟩
        go_wp2_with fail
        go_ret
        exact ⟨rfl, below_then d1 b3⟩
  · clear hr HL hg
    go_wp2_with fail
    refine (tlive_any _).mono ?_
    rintro e w3 ⟨rfl, b3⟩
    go_wp2_with fail
    go_ret
    exact ⟨rfl, below_then hba b3⟩
end Go.Proofs.Ytbhkgdfmjkblcaa
