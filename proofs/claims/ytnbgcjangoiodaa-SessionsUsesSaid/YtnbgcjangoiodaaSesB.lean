/-
  The law SessionsUses.
-/
import Derived.Test.YtnbgcjangoiodaaSesA
namespace Go.Proofs.Ytnbgcjangoiodaa
open Go.RowKit
attribute [local go_sem ↓] ex_st_shr ex_st_own ex_st_ses
attribute [local go_sem] st_shr_new st_shr st_own_new st_ses_new st_ses

set_option maxRecDepth 100000 in
set_option maxHeartbeats 8000000 in
theorem sessionsUses_any (s : Ses) (x : Dev) (i : Int) (w : World) (hs : Rd.ses.Ok w s) (hx : Rd.dev.Ok w x) :
    Calls Try.prog 4 #[.agg (Rd.ses.cells s).toArray, .agg (Rd.dev.cells x).toArray, .int .i64 i] w (Ret w (.bool true)) := by
  obtain ⟨sid, room, next, ⟨A, n, c, l⟩⟩ := s
  obtain ⟨u, d⟩ := x
  change Calls _ _ #[.agg #[.int .i64 sid, .string room, .int .i64 next, .slice A n c], .agg #[.string u, .string d], _] _ _
  have hroom : room.size ≤ maxLen := hs.2.1
  have hnext : -9223372036854775808 ≤ next ∧ next ≤ 9223372036854775807 := hs.2.2.1
  have hl : Rd.shr.Holds w A n l := hs.2.2.2.1.1
  have hcap : n ≤ c := hs.2.2.2.1.2.1
  have hn : n ≤ maxLen := Nat.le_trans hcap hs.2.2.2.1.2.2
  have hu : u.size ≤ maxLen := hx.1
  have hd : d.size ≤ maxLen := hx.2.1
  have HL := Lib.hid hl.length
  have HNX := Lib.hid hnext
  clear hs hx hnext
  obtain ⟨wa, hwa⟩ : ∃ wa : World, wa = (w.alloc (.cells #[.int .i64 sid, .string room, .int .i64 next, .slice A n c] 24)).alloc (.cells #[.string u, .string d] 26) := ⟨_, rfl⟩
  have hba : Below w.heap.size w wa := by rw [hwa]; exact below_alloc (below_alloc (Below.refl _ _) _) _
  have b0 : OBox wa w.heap.size [.int .i64 sid, .string room, .int .i64 next, .slice A n c] := by rw [hwa]; exact (OBox.new w [.int .i64 sid, .string room, .int .i64 next, .slice A n c] _).on (below_alloc (Below.refl _ _) _)
  have x0 : OBox wa (w.heap.size + 1) [.string u, .string d] := by rw [hwa]; simpa using OBox.new (w.alloc (.cells #[.int .i64 sid, .string room, .int .i64 next, .slice A n c] 24)) [.string u, .string d] 26
  go_enter Try.func4, Try.ntmps4
  go_upto_region 1 with fail
  rw [← hwa]
  have HW := Lib.hid hwa; clear hwa
  obtain ⟨g, hg⟩ : ∃ g, w.heap.size = g := ⟨_, rfl⟩
  rw [hg] at b0 x0 ⊢
  have HG := Lib.hid hg
  clear hg
  have hla := hl.on hba
  have k0 : wa.cell? ⟨g, 0, none⟩ = some (.int .i64 sid) := b0.cell rfl
  have k1 : wa.cell? ⟨g, 1, none⟩ = some (.string room) := b0.cell rfl
  have k2 : wa.cell? ⟨g, 2, none⟩ = some (.int .i64 next) := b0.cell rfl
  have k3 : wa.cell? ⟨g, 3, none⟩ = some (.slice A n c) := b0.cell rfl
  go_wp2_with fail
  refine (rgreat45_any sid room next A n c l wa hla hn).mono ?_
  rintro e w1 ⟨g1, rfl, hg1, bb1⟩
  have c1 := below_then hba bb1
  have b1 := b0.on bb1
  have x1 := x0.on bb1
  have hl1 := hla.on bb1
  clear k0 k1 k2 k3 b0 x0 hla hba bb1
  cases g1
  · have hn40 : n ≤ 40 := hg1 rfl
    clear hg1 hn
    have p0 : w1.cell? ⟨g + 1, 0, none⟩ = some (.string u) := x1.cell rfl
    have p1 : w1.cell? ⟨g + 1, 1, none⟩ = some (.string d) := x1.cell rfl
    by_cases hu200 : (200 : Int) < (u.size : Nat)
    · have e1 : decide ((200 : Int) < (u.size : Nat)) = true := decide_eq_true hu200
      go_wp2_with fail
      go_ret
      exact ⟨rfl, c1⟩
    have e1 : decide ((200 : Int) < (u.size : Nat)) = false := decide_eq_false hu200
    by_cases hd200 : (200 : Int) < (d.size : Nat)
    · have e2 : decide ((200 : Int) < (d.size : Nat)) = true := decide_eq_true hd200
      go_wp2_with fail
      go_ret
      exact ⟨rfl, c1⟩
    have e2 : decide ((200 : Int) < (d.size : Nat)) = false := decide_eq_false hd200
    clear hu200 hd200
    have k0 : w1.cell? ⟨g, 0, none⟩ = some (.int .i64 sid) := b1.cell rfl
    have k1 : w1.cell? ⟨g, 1, none⟩ = some (.string room) := b1.cell rfl
    have k2 : w1.cell? ⟨g, 2, none⟩ = some (.int .i64 next) := b1.cell rfl
    have k3 : w1.cell? ⟨g, 3, none⟩ = some (.slice A n c) := b1.cell rfl
    obtain ⟨ui, ur, un, um, ux, ue, hum, huf⟩ := use_form sid room next l i
    have hum40 : um.length ≤ 40 := by have := HL.out; omega
    have HUF := Lib.hid huf
    clear huf hum
    go_wp2_with fail
    refine (use_any sid room next A n c l i w1 hl1 (by omega)).mono ?_
    intro e w2 hU
    obtain ⟨bb2, A2, c2, rfl, hH2⟩ := HUF.out _ _ _ hU
    have d2 := below_then c1 bb2
    have b2 := b1.on bb2
    have x2 := x1.on bb2
    have hl2 := hl1.on bb2
    clear hU k0 k1 k2 k3 p0 p1 b1 x1 hl1 c1 bb2
    go_upto_region 4 with fail
    have y2 := OBox.new w2 [.int .i64 ui, .string ur, .int .i64 un, .slice A2 um.length c2] 24
    have hby := below_alloc (Below.refl w2.heap.size w2) (.cells #[.int .i64 ui, .string ur, .int .i64 un, .slice A2 um.length c2] 24)
    change OBox (w2.alloc (.cells #[.int .i64 ui, .string ur, .int .i64 un, .slice A2 um.length c2] 24)) _ _ at y2
    generalize w2.alloc (.cells #[.int .i64 ui, .string ur, .int .i64 un, .slice A2 um.length c2] 24) = w3 at y2 hby ⊢
    have d3 := below_then d2 hby
    have b3 := b2.on hby
    have x3 := x2.on hby
    have hl3 := hl2.on hby
    have hH3 := hH2.on hby
    obtain ⟨h1, hh1⟩ : ∃ h, w2.heap.size = h := ⟨_, rfl⟩
    rw [hh1] at y2 ⊢
    clear hh1 b2 x2 hl2 hH2 d2 hby
    have k0 : w3.cell? ⟨g, 0, none⟩ = some (.int .i64 sid) := b3.cell rfl
    have k1 : w3.cell? ⟨g, 1, none⟩ = some (.string room) := b3.cell rfl
    have k2 : w3.cell? ⟨g, 2, none⟩ = some (.int .i64 next) := b3.cell rfl
    have k3 : w3.cell? ⟨g, 3, none⟩ = some (.slice A n c) := b3.cell rfl
    go_wp2_with fail
    refine (ruse_any sid room next A n c l i w3 hl3 (by omega)).mono ?_
    intro e w4 hU
    obtain ⟨bb4, A4, c4, rfl, hH4⟩ := HUF.out _ _ _ hU
    have d4 := below_then d3 bb4
    have b4 := b3.on bb4
    have x4 := x3.on bb4
    have y4 := y2.on bb4
    have hl4 := hl3.on bb4
    have hH34 := hH3.on bb4
    clear hU k0 k1 k2 k3 b3 x3 y2 hl3 hH3 d3 bb4
    go_upto_region 5 with fail
    have z4 := OBox.new w4 [.int .i64 ui, .string ur, .int .i64 un, .slice A4 um.length c4] 24
    have hbz := below_alloc (Below.refl w4.heap.size w4) (.cells #[.int .i64 ui, .string ur, .int .i64 un, .slice A4 um.length c4] 24)
    change OBox (w4.alloc (.cells #[.int .i64 ui, .string ur, .int .i64 un, .slice A4 um.length c4] 24)) _ _ at z4
    generalize w4.alloc (.cells #[.int .i64 ui, .string ur, .int .i64 un, .slice A4 um.length c4] 24) = w7 at z4 hbz ⊢
    have d7 := below_then d4 hbz
    have b7 := b4.on hbz
    have x7 := x4.on hbz
    have y7 := y4.on hbz
    have hl7 := hl4.on hbz
    have hH7 := hH34.on hbz
    have hI7 := hH4.on hbz
    obtain ⟨h2, hh2⟩ : ∃ h, w4.heap.size = h := ⟨_, rfl⟩
    rw [hh2] at z4 ⊢
    clear hh2 b4 x4 y4 hl4 hH34 hH4 d4 hbz
    obtain ⟨rv, hrv⟩ : ∃ rv, Ss.reads l next (bs u, bs d) i = rv := ⟨_, rfl⟩
    have BX := Lib.hid (fun V (h : Below w7.heap.size w7 V) => (⟨h, (y7.on h).cell rfl, (y7.on h).cell rfl, (y7.on h).cell rfl, (y7.on h).cell rfl, (z4.on h).cell rfl, (z4.on h).cell rfl, (z4.on h).cell rfl, (z4.on h).cell rfl, (b7.on h).cell rfl, (b7.on h).cell rfl, (b7.on h).cell rfl, (b7.on h).cell rfl, (x7.on h).cell rfl, (x7.on h).cell rfl⟩ :
      Below w7.heap.size w7 V ∧ V.cell? ⟨h1, 0, none⟩ = some (.int .i64 ui) ∧ V.cell? ⟨h1, 1, none⟩ = some (.string ur) ∧ V.cell? ⟨h1, 2, none⟩ = some (.int .i64 un) ∧ V.cell? ⟨h1, 3, none⟩ = some (.slice A2 um.length c2) ∧ V.cell? ⟨h2, 0, none⟩ = some (.int .i64 ui) ∧ V.cell? ⟨h2, 1, none⟩ = some (.string ur) ∧ V.cell? ⟨h2, 2, none⟩ = some (.int .i64 un) ∧ V.cell? ⟨h2, 3, none⟩ = some (.slice A4 um.length c4) ∧ V.cell? ⟨g, 0, none⟩ = some (.int .i64 sid) ∧ V.cell? ⟨g, 1, none⟩ = some (.string room) ∧ V.cell? ⟨g, 2, none⟩ = some (.int .i64 next) ∧ V.cell? ⟨g, 3, none⟩ = some (.slice A n c) ∧ V.cell? ⟨g + 1, 0, none⟩ = some (.string u) ∧ V.cell? ⟨g + 1, 1, none⟩ = some (.string d)))
    have CS : Hid (∀ V, Below w7.heap.size w7 V → Calls Try.prog 15 #[.agg #[.int .i64 ui, .string ur, .int .i64 un, .slice A2 um.length c2], .agg #[.int .i64 ui, .string ur, .int .i64 un, .slice A4 um.length c4]] V (Ret V (.bool true))) :=
      Lib.hid fun V hb => sameSes_any ui ur un A2 A4 um.length c2 c4 um V (hH7.on hb) (hI7.on hb) (by omega)
    have CR : Hid (∀ V, Below w7.heap.size w7 V → Calls Try.prog 19 #[.agg #[.int .i64 sid, .string room, .int .i64 next, .slice A n c], .string u, .string d, .int .i64 i] V (Ret V (.bool rv))) :=
      Lib.hid fun V hb => hrv ▸ reads_any sid room next A n c l u d i V (hl7.on hb) (by omega)
    have CQ : Hid (∀ V, Below w7.heap.size w7 V → Calls Try.prog 20 #[.agg #[.int .i64 sid, .string room, .int .i64 next, .slice A n c], .string u, .string d, .int .i64 i] V (Ret V (.bool rv))) :=
      Lib.hid fun V hb => hrv ▸ rreads_any sid room next A n c l u d i V (hl7.on hb) (by omega)
    have UP := Lib.hid (fun V (h : Below w7.heap.size w7 V) => below_then d7 h)
    clear hrv b7 x7 y7 z4 hl7 hH7 hI7 d7
    cases rv
    all_goals
      go_wp2_with fail
      go_region_held3 (fun V => Below w7.heap.size w7 V ∧ V.cell? ⟨h1, 0, none⟩ = some (.int .i64 ui) ∧ V.cell? ⟨h1, 1, none⟩ = some (.string ur) ∧ V.cell? ⟨h1, 2, none⟩ = some (.int .i64 un) ∧ V.cell? ⟨h1, 3, none⟩ = some (.slice A2 um.length c2) ∧ V.cell? ⟨h2, 0, none⟩ = some (.int .i64 ui) ∧ V.cell? ⟨h2, 1, none⟩ = some (.string ur) ∧ V.cell? ⟨h2, 2, none⟩ = some (.int .i64 un) ∧ V.cell? ⟨h2, 3, none⟩ = some (.slice A4 um.length c4) ∧ V.cell? ⟨g, 0, none⟩ = some (.int .i64 sid) ∧ V.cell? ⟨g, 1, none⟩ = some (.string room) ∧ V.cell? ⟨g, 2, none⟩ = some (.int .i64 next) ∧ V.cell? ⟨g, 3, none⟩ = some (.slice A n c) ∧ V.cell? ⟨g + 1, 0, none⟩ = some (.string u) ∧ V.cell? ⟨g + 1, 1, none⟩ = some (.string d))
        (first | exact BX.out _ (by assumption) | exact BX.out _ (Below.drew (by assumption)) | exact BX.out _ (Below.refl _ _) | exact BX.out _ (Below.drew (Below.refl _ _)))
        (first
        | (go_at_call 15; have hB := And.left ‹Below w7.heap.size w7 _ ∧ _›; refine (CS.out _ hB).mono ?_; rintro e wx ⟨rfl, bx⟩; have bx2 : Below w7.heap.size w7 wx := below_then hB bx; clear bx hB)
        | (go_at_call 19; have hB := And.left ‹Below w7.heap.size w7 _ ∧ _›; refine (CR.out _ hB).mono ?_; rintro e wx ⟨rfl, bx⟩; have bx2 : Below w7.heap.size w7 wx := below_then hB bx; clear bx hB)
        | (go_at_call 20; have hB := And.left ‹Below w7.heap.size w7 _ ∧ _›; refine (CQ.out _ hB).mono ?_; rintro e wx ⟨rfl, bx⟩; have bx2 : Below w7.heap.size w7 wx := below_then hB bx; clear bx hB)
        | (go_at_call 16; have hB := And.left ‹Below w7.heap.size w7 _ ∧ _›; refine (slive_any _).mono ?_; rintro e wx ⟨rfl, bx⟩; have bx2 : Below w7.heap.size w7 wx := below_then hB bx; clear bx hB))
    all_goals go_wp2_with fail
    all_goals go_ret
    all_goals exact ⟨rfl, UP.out _ (by assumption)⟩
  · clear hg1
    go_wp2_with fail
    go_ret
    exact ⟨rfl, c1⟩
end Go.Proofs.Ytnbgcjangoiodaa
