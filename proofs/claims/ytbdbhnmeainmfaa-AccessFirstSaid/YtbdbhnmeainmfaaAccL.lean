/-
  The walk through the law AccessLists.
-/
import Derived.Test.YtbdbhnmeainmfaaAccA
namespace Go.Proofs.Ytbdbhnmeainmfaa
open Go.RowKit

attribute [local go_sem ↓] execOp_ld_cnt
attribute [local go_sem] run_ld_cnt

theorem Small.lists {w : World} {c : Cnt} {s : ByteArray} (h : Small c s) (hc : Rd.cnt.Ok w c) : Lists w c :=
  ⟨(cnt_ok hc).1.1, (cnt_ok hc).2.1.1, by have := h.na; omega, by have := h.nd; omega, fun x hx => by have := h.a x hx; omega, fun x hx => by have := h.d x hx; omega⟩

set_option maxRecDepth 100000 in
set_option maxHeartbeats 4000000 in
theorem accessLists_any (c d : Cnt) (s : ByteArray) (w : World) (hc : Rd.cnt.Ok w c) (hd : Rd.cnt.Ok w d) (hs : s.size ≤ maxLen) :
    Calls Try.prog 3 #[cv c, cv d, .string s] w (Ret w (.bool true)) := by
  obtain ⟨wa, hwa⟩ : ∃ wa : World, wa = (w.alloc (.cells (Rd.cnt.cells c).toArray 28)).alloc (.cells (Rd.cnt.cells d).toArray 28) := ⟨_, rfl⟩
  have hba : Below w.heap.size w wa := by rw [hwa]; exact below_alloc (below_alloc (Below.refl _ _) _) _
  have b1 : Box wa w.heap.size (Rd.cnt.cells c) := by rw [hwa]; exact (Box.new w _ _).on (below_alloc (Below.refl _ _) _)
  have b2 : Box wa (w.heap.size + 1) (Rd.cnt.cells d) := by rw [hwa]; simpa using Box.new (w.alloc (.cells (Rd.cnt.cells c).toArray 28)) (Rd.cnt.cells d) 28
  have hca := Rd.cnt.on hc hba; have hda := Rd.cnt.on hd hba
  clear hc hd
  unfold cv
  generalize (Rd.cnt.cells c).toArray = xs at hwa ⊢
  generalize (Rd.cnt.cells d).toArray = ys at hwa ⊢
  have HW := Lib.hid hwa; clear hwa
  have HCA := Lib.hid hca; have HDA := Lib.hid hda
  clear hca hda
  go_enter Try.func3, Try.ntmps3
  go_upto_region 1 with fail
  rw [← HW.out]
  clear HW
  obtain ⟨h1, v1⟩ := box_lit b1
  go_wp2_with fail
  refine (rgreat14_any c s _ HCA.out hs).mono ?_
  rintro e w1 ⟨g1, rfl, hg1, d1⟩
  clear h1 v1
  cases g1
  · have hS1 := hg1 rfl
    have HS1 := Lib.hid hS1
    obtain ⟨h2, v2⟩ := box_lit (b2.on d1)
    clear hg1 hS1
    go_wp2_with fail
    refine (rgreat14_any d s _ (Rd.cnt.on HDA.out d1) hs).mono ?_
    rintro e w2 ⟨g2, rfl, hg2, e2⟩
    have d2 := below_then d1 e2
    clear h2 v2 d1 e2
    cases g2
    · have HS2 := Lib.hid (hg2 rfl)
      clear hg2
      have hss : s.size ≤ 1000000 := by have := HS1.out.s; omega
      have HLC := Lib.hid (HS1.out.lists HCA.out); have HLD := Lib.hid (HS2.out.lists HDA.out)
      have SS := Lib.hid (fun w' (h : Below wa.heap.size wa w') => s2 b1 b2 h)
      clear b1 b2
      go_wp2_with fail
      go_region_held3 (fun w' => Below wa.heap.size wa w' ∧ hasRow w' w.heap.size 0 16 = true ∧ rowAt w' w.heap.size 0 16 = cv c ∧ hasRow w' (w.heap.size + 1) 0 16 = true ∧ rowAt w' (w.heap.size + 1) 0 16 = cv d) (first | exact SS.out _ (by assumption) | exact SS.out _ (Below.drew (by assumption)))
        (first
        | (go_at_call_of 9 (cv c); have hB := And.left ‹Below wa.heap.size wa _ ∧ _›; refine (allowed_any c s _ (HLC.out.on hB) hss).mono ?_; rintro e wx ⟨rfl, bx⟩; have bx2 : Below wa.heap.size wa wx := below_then hB bx; clear bx hB)
        | (go_at_call_of 9 (cv d); have hB := And.left ‹Below wa.heap.size wa _ ∧ _›; refine (allowed_any d s _ (HLD.out.on hB) hss).mono ?_; rintro e wx ⟨rfl, bx⟩; have bx2 : Below wa.heap.size wa wx := below_then hB bx; clear bx hB)
        | (go_at_call_of 10 (cv c); have hB := And.left ‹Below wa.heap.size wa _ ∧ _›; refine (rallowed_any c s _ (HLC.out.on hB) hss).mono ?_; rintro e wx ⟨rfl, bx⟩; have bx2 : Below wa.heap.size wa wx := below_then hB bx; clear bx hB)
        | (go_at_call_of 10 (cv d); have hB := And.left ‹Below wa.heap.size wa _ ∧ _›; refine (rallowed_any d s _ (HLD.out.on hB) hss).mono ?_; rintro e wx ⟨rfl, bx⟩; have bx2 : Below wa.heap.size wa wx := below_then hB bx; clear bx hB)
        | (go_at_call 11; have hB := And.left ‹Below wa.heap.size wa _ ∧ _›; refine (keeps_any c d s _ (HLC.out.on hB) (HLD.out.on hB) hss).mono ?_; rintro e wx ⟨rfl, bx⟩; have bx2 : Below wa.heap.size wa wx := below_then hB bx; clear bx hB)
        | (go_at_call 12; have hB := And.left ‹Below wa.heap.size wa _ ∧ _›; refine (rkeeps_any c d s _ (HLC.out.on hB) (HLD.out.on hB) hss).mono ?_; rintro e wx ⟨rfl, bx⟩; have bx2 : Below wa.heap.size wa wx := below_then hB bx; clear bx hB)
        | (go_at_call 8; have hB := And.left ‹Below wa.heap.size wa _ ∧ _›; refine (awake14_any _).mono ?_; rintro e wx ⟨rfl, bx⟩; have bx2 : Below wa.heap.size wa wx := below_then hB bx; clear bx hB))
      all_goals go_wp2_with fail
      all_goals go_ret
      all_goals exact ⟨rfl, below_then hba (by assumption)⟩
    · clear hg2
      go_wp2_with fail
      refine (awake14_any _).mono ?_
      rintro e w3 ⟨rfl, b3⟩
      go_wp2_with fail
      go_ret
      exact ⟨rfl, below_then hba (below_then d2 b3)⟩
  · clear hg1
    go_wp2_with fail
    refine (awake14_any _).mono ?_
    rintro e w3 ⟨rfl, b3⟩
    go_wp2_with fail
    go_ret
    exact ⟨rfl, below_then hba (below_then d1 b3)⟩
end Go.Proofs.Ytbdbhnmeainmfaa
