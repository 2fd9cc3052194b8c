/-
  SessionsWants: the given statement 'SessionsWantsSaid', for every input, out of the law's walk. No condition.
-/
import Derived.Test.YtnbgcjangoiodaaLiftG
import Derived.Test.YtnbgcjangoiodaaSesJ
namespace Go.Proofs.Ytnbgcjangoiodaa
open Go.ChangeShapes Go.WideShapes Go.ChangeAt Go.RowKit
open Go.ChangeMaps (open_string)

set_option maxRecDepth 100000 in
set_option maxHeartbeats 1600000 in
theorem sessionsWants_lifted (os : Os) (started : os.Started) (H : Type) (enc : TypeId × Value → H) :
    ReturnsInHanded {} Try.checked os 5 .any (Rows.sessionsWantsSpec.pre6 enc Try.prog Try.f5 Rows.sessionsWantsRow.domain false) (Rows.sessionsWantsSpec.post enc Try.prog Try.f5 false true false false) := by
  refine returnsInHanded_of_change (C := Try.checked) own started (by kernel_rfl) Try.func5
    (ChangeSpec.witness6 (enc := enc) (C := Try.checked) false ⟨#[], #[.agg #[.int .i64 0, .string .empty, .int .i64 0, .slice none 0 0], .slice none 0 0, .slice none 0 0], []⟩ 8 (by kernel_rfl) (by kernel_rfl) (by kernel_rfl) (by kernel_rfl)) ?_
  intro W base args ds gs before hval0 hW _ _
  refine law_contract Try.underlying4 (by kernel_rfl) rfl (by rw [Try.params5]; exact by decide +kernel) ?_ H enc W args ds gs before hW ?_
  · intro H ds hl
    rw [Try.params5] at hl
    match ds, hl with
    | [d0, d1, d2], _ => rfl
  intro p hA hlt
  have hval : ∀ (j : Nat) t v, Try.f5.params[j]? = some t → args[j]? = some v → Value.okWide Try.prog W .any base t v := hval0
  rw [Try.params5] at hA hval
  obtain ⟨v0, v1, v2, d0, d1, d2, p0, p1, p2, rfl, rfl, rfl, h0, h1, h2⟩ := trodAll_three hA
  obtain ⟨x0, rfl, hx0⟩ := open_ses (hval 0 24 v0 rfl rfl) h0 (fun x hx => hlt x (by simp [hx]))
  obtain ⟨A1, n1, c1, l1, rfl, hc1, hr1, hx1⟩ := open_strs (hval 1 39 v1 rfl rfl) h1 (fun x hx => hlt x (by simp [hx]))
  obtain ⟨x2, rfl, hx2⟩ := open_kyss (hval 2 40 v2 rfl rfl) h2 (fun x hx => hlt x (by simp [hx]))
  exact sessionsWants_any x0 A1 n1 c1 l1 x2 W hx0 hr1 hc1 hx1 hx2

theorem sessionsWants_holds : Rows.SessionsWantsSaid :=
  OpenClaim.holds_of_wide 5 Try.f5 rfl rfl rfl rfl rfl rfl rfl ⟨rfl, rfl, rfl, rfl, rfl⟩ rfl rfl rfl rfl rfl (by kernel_rfl) Try.func5 (by kernel_rfl)
    (of_decide_eq_true (by kernel_rfl)) (by unfold Func.isWrapper; first | (rw [if_pos (by decide +kernel)]; kernel_rfl) | (rw [if_neg (by decide +kernel)]; exact ⟨rfl, rfl⟩))
    (fun os started H enc _ => sessionsWants_lifted os started H enc)
#print axioms sessionsWants_holds
end Go.Proofs.Ytnbgcjangoiodaa
