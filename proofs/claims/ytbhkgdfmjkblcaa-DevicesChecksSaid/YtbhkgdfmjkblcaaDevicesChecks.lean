/-
  DevicesChecks: the given statement 'DevicesChecksSaid', for every input, out of the law's walk. No condition.
-/
import Derived.Test.YtbhkgdfmjkblcaaLiftV
import Derived.Test.YtbhkgdfmjkblcaaDevT
namespace Go.Proofs.Ytbhkgdfmjkblcaa
open Go.ChangeShapes Go.WideShapes Go.ChangeAt Go.RowKit
open Go.ChangeMaps (open_string)

set_option maxRecDepth 100000 in
set_option maxHeartbeats 1600000 in
theorem devicesChecks_lifted (os : Os) (started : os.Started) (H : Type) (enc : TypeId × Value → H) :
    ReturnsInHanded {} Try.checked os 9 .any (Rows.devicesChecksSpec.pre6 enc Try.prog Try.f9 Rows.devicesChecksRow.domain false) (Rows.devicesChecksSpec.post enc Try.prog Try.f9 false true false false) := by
  refine returnsInHanded_of_change (C := Try.checked) own started (by kernel_rfl) Try.func9
    (ChangeSpec.witness6 (enc := enc) (C := Try.checked) false ⟨#[], #[.slice none 0 0], []⟩ 8 (by kernel_rfl) (by kernel_rfl) (by kernel_rfl) (by kernel_rfl)) ?_
  intro W base args ds gs before hval0 hW _ _
  refine law_contract Try.underlying4 (by kernel_rfl) rfl (by rw [Try.params9]; exact by decide +kernel) ?_ H enc W args ds gs before hW ?_
  · intro H ds hl
    rw [Try.params9] at hl
    match ds, hl with
    | [d0], _ => rfl
  intro p hA hlt
  have hval : ∀ (j : Nat) t v, Try.f9.params[j]? = some t → args[j]? = some v → Value.okWide Try.prog W .any base t v := hval0
  rw [Try.params9] at hA hval
  obtain ⟨v0, d0, rfl, rfl, h0⟩ := trodAll_one hA
  obtain ⟨x0, rfl, hx0⟩ := open_kyss (hval 0 43 v0 rfl rfl) h0 (fun x hx => hlt x (by simp [hx]))
  exact devicesChecks_any x0 W hx0

theorem devicesChecks_holds : Rows.DevicesChecksSaid :=
  OpenClaim.holds_of_wide 9 Try.f9 rfl rfl rfl rfl rfl rfl rfl ⟨rfl, rfl, rfl, rfl, rfl⟩ rfl rfl rfl rfl rfl (by kernel_rfl) Try.func9 (by kernel_rfl)
    (of_decide_eq_true (by kernel_rfl)) (by unfold Func.isWrapper; first | (rw [if_pos (by decide +kernel)]; kernel_rfl) | (rw [if_neg (by decide +kernel)]; exact ⟨rfl, rfl⟩))
    (fun os started H enc _ => devicesChecks_lifted os started H enc)
#print axioms devicesChecks_holds
end Go.Proofs.Ytbhkgdfmjkblcaa
