/-
  Arguments that are lists of policies and of events, opened.
-/
import Derived.Test.YthcbplameonjlaaLift
import Derived.Test.YthcbplameonjlaaEvents
import Derived.Test.YthcbplameonjlaaPolP
import Derived.Test.YthcbplameonjlaaChecked
namespace Go.Proofs.Ythcbplameonjlaa
open Go.ChangeShapes Go.WideShapes Go.ChangeAt Go.RowKit

section
variable {W : World}
theorem opens_pol : Opens Try.prog W Rd.pol 37 :=
  Opens.as (opens_struct Try.underlying37 (by kernel_rfl) (opens_cons rfl (by kernel_rfl) (opens_i64 Try.underlying35) (opens_cons rfl (by kernel_rfl) (opens_str Try.underlying9) (opens_cons rfl (by kernel_rfl) (opens_str Try.underlying9) opens_nil)))) Rd.pol (fun x => ⟨x.1, x.2.1, x.2.2.1⟩) (fun _ => rfl) (fun _ h => h)
theorem opens_pols : Opens Try.prog W (Rd.slice Rd.pol) 22 := opens_slice Try.underlying22 (by kernel_rfl) (by decide) opens_pol
end
section
variable {H : Type} {enc : TypeId × Value → H} {r : Reach} {b0 : Nat} {W : World} {sp : Nat → Bool} {v : Value} {d : DataW H} {ps : List MemPlace}
set_option maxRecDepth 100000 in
theorem open_pols (hv : Value.okWide Try.prog W r b0 22 v) (h : DataW.Trod enc Try.prog W 0 sp true 22 v d ps) (_ : ∀ x ∈ ps, x.block < W.heap.size) :
    ∃ x : Sl Pol, v = x.val ∧ (Rd.pol.Holds W x.A x.n x.l ∧ x.n ≤ maxLen) := by
  obtain ⟨A, n, c, l, rfl, h1, h2, h3⟩ := open_sl opens_pols Try.underlying22 hv h
  exact ⟨⟨A, n, c, l⟩, rfl, h3, Nat.le_trans h1 h2⟩
set_option maxRecDepth 100000 in
theorem open_evs (hv : Value.okWide Try.prog W r b0 43 v) (h : DataW.Trod enc Try.prog W 0 sp true 43 v d ps) (_ : ∀ x ∈ ps, x.block < W.heap.size) :
    ∃ x : Sl Ev, v = x.val ∧ (Rd.ev.Holds W x.A x.n x.l ∧ x.n ≤ maxLen) := by
  obtain ⟨A, n, c, l, rfl, h1, h2, h3⟩ := open_sl opens_evs Try.underlying43 hv h
  exact ⟨⟨A, n, c, l⟩, rfl, h3, Nat.le_trans h1 h2⟩
end
end Go.Proofs.Ythcbplameonjlaa
