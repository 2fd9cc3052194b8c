/-
  Arguments that are lists of typing records, opened.
-/
import Derived.Test.YtbhkgdfmjkblcaaLift
import Derived.Test.YtbhkgdfmjkblcaaTypD
import Derived.Test.YtbhkgdfmjkblcaaChecked
import Derived.ProofKit
namespace Go.Proofs.Ytbhkgdfmjkblcaa
open Go.ChangeShapes Go.WideShapes Go.ChangeAt Go.RowKit

section
variable {W : World}
theorem opens_typ : Opens Try.prog W Rd.typ 68 :=
  Opens.as (opens_struct Try.underlying68 (by kernel_rfl) (opens_cons rfl (by kernel_rfl) (opens_str Try.underlying9) (opens_cons rfl (by kernel_rfl) (opens_i64 Try.underlying3) opens_nil))) Rd.typ (fun x => ⟨x.1, x.2.1⟩) (fun _ => rfl) (fun _ h => h)
theorem opens_cl : Opens Try.prog W Rd.cl 28 :=
  Opens.as (opens_struct Try.underlying28 (by kernel_rfl) (opens_cons rfl (by kernel_rfl) (opens_str Try.underlying9) (opens_cons rfl (by kernel_rfl) (opens_i64 Try.underlying3) (opens_cons rfl (by kernel_rfl) (opens_i64 Try.underlying3) opens_nil)))) Rd.cl (fun x => ⟨x.1, x.2.1, x.2.2.1⟩) (fun _ => rfl) (fun _ h => h)
theorem opens_typs : Opens Try.prog W (Rd.slice Rd.typ) 22 := opens_slice Try.underlying22 (by kernel_rfl) (by decide) opens_typ
end
section
variable {H : Type} {enc : TypeId × Value → H} {r : Reach} {b0 : Nat} {W : World} {sp : Nat → Bool} {v : Value} {d : DataW H} {ps : List MemPlace}
set_option maxRecDepth 100000 in
theorem open_typs (hv : Value.okWide Try.prog W r b0 22 v) (h : DataW.Trod enc Try.prog W 0 sp true 22 v d ps) (_ : ∀ x ∈ ps, x.block < W.heap.size) :
    ∃ x : Sl Typ, v = x.val ∧ ((Typs W x.A x.n x.l ∧ x.n ≤ x.c) ∧ x.n ≤ maxLen) := by
  obtain ⟨A, n, c, l, rfl, h1, h2, h3⟩ := open_sl opens_typs Try.underlying22 hv h
  exact ⟨⟨A, n, c, l⟩, rfl, ⟨h3, h1⟩, Nat.le_trans h1 h2⟩
set_option maxRecDepth 100000 in
theorem open_call (hv : Value.okWide Try.prog W r b0 28 v) (h : DataW.Trod enc Try.prog W 0 sp true 28 v d ps) (_ : ∀ x ∈ ps, x.block < W.heap.size) :
    ∃ x : Cl, v = .agg (Rd.cl.cells x).toArray ∧ Rd.cl.Ok W x := open_st opens_cl Try.underlying28 hv h
end
end Go.Proofs.Ytbhkgdfmjkblcaa
