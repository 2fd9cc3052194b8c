/-
  IdsLists: the given statement 'IdsListsSaid', for every input, out of the law's walk. No condition.
-/
import Derived.Test.YtlfdafelceipfaaLift
import Derived.Test.YtlfdafelceipfaaIdsK
namespace Go.Proofs.Ytlfdafelceipfaa
open Go.ChangeShapes Go.WideShapes Go.ChangeAt Go.RowKit
open Go.ChangeMaps (open_string)

set_option maxRecDepth 100000 in
theorem idsLists_lifted (os : Os) (started : os.Started) (H : Type) (enc : TypeId × Value → H) :
    ReturnsInHanded {} Try.checked os 6 .any (Rows.idsListsSpec.pre6 enc Try.prog Try.f6 Rows.idsListsRow.domain false) (Rows.idsListsSpec.post enc Try.prog Try.f6 false true false false) := by
  refine returnsInHanded_of_change (C := Try.checked) own started (by kernel_rfl) Try.func6
    (ChangeSpec.witness6 (enc := enc) (C := Try.checked) false ⟨#[], #[.slice none 0 0, .string .empty], []⟩ 8 (by kernel_rfl) (by kernel_rfl) (by kernel_rfl) (by kernel_rfl)) ?_
  intro W base args ds gs before hval0 hW _ _
  refine law_contract Try.underlying4 (by kernel_rfl) rfl (by rw [Try.params6]; exact by decide +kernel) ?_ H enc W args ds gs before hW ?_
  · intro H ds hl
    rw [Try.params6] at hl
    match ds, hl with
    | [d0, d1], _ => rfl
  intro p hA hlt
  have hval : ∀ (j : Nat) t v, Try.f6.params[j]? = some t → args[j]? = some v → Value.okWide Try.prog W .any base t v := hval0
  rw [Try.params6] at hA hval
  obtain ⟨v0, v1, d0, d1, p0, p1, rfl, rfl, rfl, h0, h1⟩ := trodAll_two hA
  obtain ⟨A0, n0, c0, l0, rfl, hc0, hr0, hx0⟩ := open_strs (hval 0 30 v0 rfl rfl) h0 (fun x hx => hlt x (by simp [hx]))
  obtain ⟨s1, rfl, rfl, rfl, hs1⟩ := open_string Try.underlying9 (hval 1 9 v1 rfl rfl) h1
  exact idsLists_any A0 n0 c0 l0 s1 W hr0 hc0 hx0 hs1

theorem idsLists_holds : Rows.IdsListsSaid :=
  OpenClaim.holds_of_wide 6 Try.f6 rfl rfl rfl rfl rfl rfl rfl ⟨rfl, rfl, rfl, rfl, rfl⟩ rfl rfl rfl rfl rfl (by kernel_rfl) Try.func6 (by kernel_rfl)
    (of_decide_eq_true (by kernel_rfl)) (by unfold Func.isWrapper; first | (rw [if_pos (by decide +kernel)]; kernel_rfl) | (rw [if_neg (by decide +kernel)]; exact ⟨rfl, rfl⟩))
    (fun os started H enc _ => idsLists_lifted os started H enc)
#print axioms idsLists_holds
end Go.Proofs.Ytlfdafelceipfaa
