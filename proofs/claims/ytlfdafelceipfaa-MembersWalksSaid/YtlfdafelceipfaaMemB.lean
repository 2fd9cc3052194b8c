/-
  The law MembersWalks.
-/
import Derived.Test.YtlfdafelceipfaaMemR
import Derived.Deep.RegionHeld3
import Derived.Deep.DeepCutAuto
namespace Go.Proofs.Ytlfdafelceipfaa
open Go.RowKit

structure Stp where
  tgt : Int
  self : Bool
abbrev Rd.stp' := Rd.pair Rd.i64 (Rd.pair Rd.bool Rd.unit)
def Rd.stp : Rd Stp := Rd.stp'.as fun x => (x.tgt, x.self, ())
section
variable {W : World}
theorem opens_stp : Opens Try.prog W Rd.stp 64 :=
  Opens.as (opens_struct Try.underlying64 (by kernel_rfl) (opens_cons rfl (by kernel_rfl) (opens_i64 Try.underlying3) (opens_cons rfl (by kernel_rfl) (opens_bool Try.underlying4) opens_nil))) Rd.stp (fun x => ⟨x.1, x.2.1⟩) (fun _ => rfl) (fun _ h => h)
theorem opens_stps : Opens Try.prog W (Rd.slice Rd.stp) 62 := opens_slice Try.underlying62 (by kernel_rfl) (by decide) opens_stp
end
theorem move_facts {f t : Int} {b : Bool} (h : moveB f t b = true) : (f = 4 → b = false ∧ (t = 0 ∨ t = 4)) ∧ (t = 3 → b = true) := by
  unfold moveB at h
  split at h
  · cases h
  · refine ⟨fun hf => ?_, fun ht => ?_⟩
    · subst hf
      split at h
      · simp at h
      · split at h
        · rename_i h0
          have : b = false := by simpa using h
          exact ⟨this, .inl h0⟩
        · split at h
          · simp at h
          · split at h
            · simp at h
            · split at h
              · rename_i h4
                have : b = false := by simpa using h
                exact ⟨this, .inr h4⟩
              · cases h
    · subst ht
      rw [if_pos rfl] at h
      rw [Bool.and_eq_true] at h
      exact h.1

set_option maxRecDepth 100000 in
set_option maxHeartbeats 4000000 in
theorem membersWalks_any (f : Int) (x : Sl Stp) (w : World) (hx : Rd.stp.Holds w x.A x.n x.l ∧ x.n ≤ maxLen) :
    Calls Try.prog 14 #[.int .i64 f, x.val] w (Ret w (.bool true)) := by
  obtain ⟨A, n, c, l⟩ := x
  obtain ⟨hr, hn⟩ := hx
  simp only [Sl.val] at hr hn ⊢
  unfold maxLen at hn
  have HL := Lib.hid hr.length
  by_cases h100 : (100 : Int) < n
  · go_enter Try.func14, Try.ntmps14
    go_wp2_with fail
    go_ret
    exact ⟨rfl, Below.refl _ _⟩
  have hn100 : n ≤ 100 := by omega
  go_enter Try.func14, Try.ntmps14
  go_wp2_with fail
  go_loopw [5, 6] (fun now i wr => ∃ (k : Nat) (q : Int), k ≤ l.length ∧ i = .int .i64 k ∧ now = .int .i64 q ∧ Below w.heap.size w wr) (fun _ i _ => n - (intOf i).toNat)
  case atStart => exact ⟨0, f, by omega, rfl, rfl, Below.refl _ _⟩
  case round =>
    obtain ⟨k, q, hk, rfl, rfl, hbw⟩ := hrel
    by_cases hlt : k < n
    · obtain ⟨b, o, x, rfl, hbl, hu, _, _, hra⟩ := hr.mid (by decide) hlt
      have c0 : ∀ wx, Below w.heap.size w wx → wx.cell? ⟨b, o + k * 2, none⟩ = some (.int .i64 x.tgt) ∧ wx.cell? ⟨b, o + k * 2 + 1, none⟩ = some (.bool x.self) := fun wx hb =>
        ⟨(hb.cell (p := ⟨b, o + k * 2, none⟩) hbl).trans (hra 0 _ rfl), (hb.cell (p := ⟨b, o + k * 2 + 1, none⟩) hbl).trans (hra 1 _ rfl)⟩
      have HC := Lib.hid c0
      have hk1 : k + 1 ≤ l.length := by have := HL.out; omega
      have hr' : Rd.stp.Holds w (some ⟨b, o, none⟩) n l := hr
      clear hra c0 hu
      obtain ⟨tt, self⟩ := x
      go_upto_region 7 with fail
      go_cut [29] (fun s29 wx => s29 = Value.bool (!moveB q tt self) ∧ Below w.heap.size w wx)
      case rest =>
        obtain ⟨rfl, hbx⟩ := hcut
        clear hbw
        obtain ⟨c0, c1⟩ := HC.out wc hbx
        cases hm : moveB q tt self
        · clear hm
          go_wp2_with fail
          exact ⟨⟨k + 1, q, hk1, by go_num, rfl, hbx⟩, by simp [intOf]; omega⟩
        · obtain ⟨f1, f2⟩ := move_facts hm
          clear hm
          by_cases hq : q = 4
          · obtain ⟨hs, ht⟩ := f1 hq
            have eq4 : (q == 4) = true := eqT hq
            subst hs
            clear f1 f2 hq
            rcases ht with rfl | rfl
            · go_wp2_with fail
              exact ⟨⟨k + 1, 0, hk1, by go_num, rfl, hbx⟩, by simp [intOf]; omega⟩
            · go_wp2_with fail
              exact ⟨⟨k + 1, 4, hk1, by go_num, rfl, hbx⟩, by simp [intOf]; omega⟩
          · have eq4 : (q == 4) = false := eqF hq
            clear f1 hq
            by_cases ht : tt = 3
            · have hs := f2 ht
              subst ht hs
              clear f2
              go_wp2_with fail
              exact ⟨⟨k + 1, 3, hk1, by go_num, rfl, hbx⟩, by simp [intOf]; omega⟩
            · have et3 : (tt == 3) = false := eqF ht
              clear ht f2
              go_wp2_with fail
              exact ⟨⟨k + 1, tt, hk1, by go_num, rfl, hbx⟩, by simp [intOf]; omega⟩
      go_region_held3 (fun w' => Below w.heap.size w w' ∧ w'.cell? ⟨b, o + k * 2, none⟩ = some (.int .i64 tt) ∧ w'.cell? ⟨b, o + k * 2 + 1, none⟩ = some (.bool self)) (first | exact ⟨by assumption, HC.out _ (by assumption)⟩ | exact ⟨Below.drew (by assumption), HC.out _ (Below.drew (by assumption))⟩)
        (first | (go_at_call 42; have hB := And.left ‹Below w.heap.size w _ ∧ _›; refine (move_any q tt self _).mono ?_; rintro e wx ⟨rfl, bx⟩; have bx2 : Below w.heap.size w wx := below_then hB bx; clear bx hB))
      all_goals go_wp2_with fail
      all_goals go_meet
      all_goals exact ⟨rfl, by assumption⟩
    · go_wp2_with fail
      refine (mlive_any _).mono ?_
      rintro e w2 ⟨rfl, b2⟩
      go_wp2_with fail
      go_ret
      exact ⟨rfl, below_then hbw b2⟩
end Go.Proofs.Ytlfdafelceipfaa
