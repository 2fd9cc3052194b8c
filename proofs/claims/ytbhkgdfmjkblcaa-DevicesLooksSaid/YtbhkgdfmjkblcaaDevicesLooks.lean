/-
  DevicesLooks: the given statement 'DevicesLooksSaid', for every input, out of the law's walk. No condition.
-/
import Derived.Test.YtbhkgdfmjkblcaaLiftV
import Derived.Test.YtbhkgdfmjkblcaaDevT
namespace Go.Proofs.Ytbhkgdfmjkblcaa
open Go.ChangeShapes Go.WideShapes Go.ChangeAt Go.RowKit
open Go.ChangeMaps (open_string)

set_option maxRecDepth 100000 in
set_option maxHeartbeats 1600000 in
theorem devicesLooks_lifted (os : Os) (started : os.Started) (H : Type) (enc : TypeId × Value → H) :
    ReturnsInHanded {} Try.checked os 12 .any (Rows.devicesLooksSpec.pre6 enc Try.prog Try.f12 Rows.devicesLooksRow.domain false) (Rows.devicesLooksSpec.post enc Try.prog Try.f12 false true false false) := by
  refine returnsInHanded_of_change (C := Try.checked) own started (by kernel_rfl) Try.func12
    (ChangeSpec.witness6 (enc := enc) (C := Try.checked) false ⟨#[], #[.slice none 0 0, .string .empty, .int .i64 0], []⟩ 8 (by kernel_rfl) (by kernel_rfl) (by kernel_rfl) (by kernel_rfl)) ?_
  intro W base args ds gs before hval0 hW _ _
  refine law_contract Try.underlying4 (by kernel_rfl) rfl (by rw [Try.params12]; exact by decide +kernel) ?_ H enc W args ds gs before hW ?_
  · intro H ds hl
    rw [Try.params12] at hl
    match ds, hl with
    | [d0, d1, d2], _ => rfl
  intro p hA hlt
  have hval : ∀ (j : Nat) t v, Try.f12.params[j]? = some t → args[j]? = some v → Value.okWide Try.prog W .any base t v := hval0
  rw [Try.params12] at hA hval
  obtain ⟨v0, v1, v2, d0, d1, d2, p0, p1, p2, rfl, rfl, rfl, h0, h1, h2⟩ := trodAll_three hA
  obtain ⟨x0, rfl, hx0⟩ := open_kyss (hval 0 43 v0 rfl rfl) h0 (fun x hx => hlt x (by simp [hx]))
  obtain ⟨s1, rfl, rfl, rfl, hs1⟩ := open_string Try.underlying9 (hval 1 9 v1 rfl rfl) h1
  obtain ⟨x2, rfl, rfl, rfl, _⟩ := open_int Try.underlying3 (hval 2 3 v2 rfl rfl) h2
  exact devicesLooks_any x0 s1 x2 W hx0 hs1

theorem devicesLooks_holds : Rows.DevicesLooksSaid :=
  OpenClaim.holds_of_wide 12 Try.f12 rfl rfl rfl rfl rfl rfl rfl ⟨rfl, rfl, rfl, rfl, rfl⟩ rfl rfl rfl rfl rfl (by kernel_rfl) Try.func12 (by kernel_rfl)
    (of_decide_eq_true (by kernel_rfl)) (by unfold Func.isWrapper; first | (rw [if_pos (by decide +kernel)]; kernel_rfl) | (rw [if_neg (by decide +kernel)]; exact ⟨rfl, rfl⟩))
    (fun os started H enc _ => devicesLooks_lifted os started H enc)
#print axioms devicesLooks_holds
end Go.Proofs.Ytbhkgdfmjkblcaa
