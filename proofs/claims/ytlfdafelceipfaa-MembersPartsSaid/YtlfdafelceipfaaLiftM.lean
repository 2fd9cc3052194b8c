/-
  Arguments that are lists of events and states, opened.
-/
import Derived.Test.YtlfdafelceipfaaLift
import Derived.Test.YtlfdafelceipfaaMemS
namespace Go.Proofs.Ytlfdafelceipfaa
open Go.ChangeShapes Go.WideShapes Go.ChangeAt Go.RowKit

section
variable {H : Type} {enc : TypeId × Value → H} {r : Reach} {b0 : Nat} {W : World} {sp : Nat → Bool} {v : Value} {d : DataW H} {ps : List MemPlace}
set_option maxRecDepth 100000 in
theorem open_evs (hv : Value.okWide Try.prog W r b0 38 v) (h : DataW.Trod enc Try.prog W 0 sp true 38 v d ps) (_ : ∀ x ∈ ps, x.block < W.heap.size) :
    ∃ x : Sl Ev, v = x.val ∧ (Rd.ev.Holds W x.A x.n x.l ∧ x.n ≤ maxLen) := by
  obtain ⟨A, n, c, l, rfl, h1, h2, h3⟩ := open_sl opens_evs Try.underlying38 hv h
  exact ⟨⟨A, n, c, l⟩, rfl, h3, Nat.le_trans h1 h2⟩
set_option maxRecDepth 100000 in
theorem open_state (hv : Value.okWide Try.prog W r b0 47 v) (h : DataW.Trod enc Try.prog W 0 sp true 47 v d ps) (_ : ∀ x ∈ ps, x.block < W.heap.size) :
    ∃ x : Sl Ent, v = x.val ∧ (Rd.ent.Holds W x.A x.n x.l ∧ x.n ≤ maxLen) := by
  obtain ⟨A, n, c, l, rfl, h1, h2, h3⟩ := open_sl opens_state Try.underlying47 hv h
  exact ⟨⟨A, n, c, l⟩, rfl, h3, Nat.le_trans h1 h2⟩
end
end Go.Proofs.Ytlfdafelceipfaa
