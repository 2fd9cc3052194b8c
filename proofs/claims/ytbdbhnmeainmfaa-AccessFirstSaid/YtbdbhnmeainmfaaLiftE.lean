/-
  Arguments that are contents, events and lists of events, opened.
-/
import Derived.Test.YtbdbhnmeainmfaaLift
import Derived.Test.YtbdbhnmeainmfaaEvents
namespace Go.Proofs.Ytbdbhnmeainmfaa
open Go.ChangeShapes Go.WideShapes Go.ChangeAt Go.RowKit

section
variable {H : Type} {enc : TypeId × Value → H} {r : Reach} {b0 : Nat} {W : World} {sp : Nat → Bool} {v : Value} {d : DataW H} {ps : List MemPlace}
theorem open_cnt (hv : Value.okWide Try.prog W r b0 28 v) (h : DataW.Trod enc Try.prog W 0 sp true 28 v d ps) (_ : ∀ x ∈ ps, x.block < W.heap.size) :
    ∃ x : Cnt, v = .agg (Rd.cnt.cells x).toArray ∧ Rd.cnt.Ok W x := open_st opens_cnt Try.underlying28 hv h
theorem open_ev (hv : Value.okWide Try.prog W r b0 39 v) (h : DataW.Trod enc Try.prog W 0 sp true 39 v d ps) (_ : ∀ x ∈ ps, x.block < W.heap.size) :
    ∃ x : Ev, v = .agg (Rd.ev.cells x).toArray ∧ Rd.ev.Ok W x := open_st opens_ev Try.underlying39 hv h
theorem open_evs (hv : Value.okWide Try.prog W r b0 32 v) (h : DataW.Trod enc Try.prog W 0 sp true 32 v d ps) (_ : ∀ x ∈ ps, x.block < W.heap.size) :
    ∃ x : Sl Ev, v = x.val ∧ (Rd.ev.Holds W x.A x.n x.l ∧ x.n ≤ maxLen) := by
  obtain ⟨A, n, c, l, rfl, h1, h2, h3⟩ := open_sl opens_evs Try.underlying32 hv h
  exact ⟨⟨A, n, c, l⟩, rfl, h3, Nat.le_trans h1 h2⟩
end
end Go.Proofs.Ytbdbhnmeainmfaa
