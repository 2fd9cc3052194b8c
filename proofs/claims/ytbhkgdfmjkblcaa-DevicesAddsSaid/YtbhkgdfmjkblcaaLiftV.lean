/-
  Arguments that are lists of keys and calls, opened.
-/
import Derived.Test.YtbhkgdfmjkblcaaLift
import Derived.Test.YtbhkgdfmjkblcaaDevT
import Derived.Test.YtbhkgdfmjkblcaaChecked
import Derived.ProofKit
namespace Go.Proofs.Ytbhkgdfmjkblcaa
open Go.ChangeShapes Go.WideShapes Go.ChangeAt Go.RowKit

section
variable {W : World}
theorem opens_dvc : Opens Try.prog W Rd.dvc 47 :=
  Opens.as (opens_struct Try.underlying47 (by kernel_rfl) (opens_cons rfl (by kernel_rfl) (opens_str Try.underlying9) (opens_cons rfl (by kernel_rfl) (opens_i64 Try.underlying3) (opens_cons rfl (by kernel_rfl) (opens_bool Try.underlying4) opens_nil)))) Rd.dvc (fun x => ⟨x.1, x.2.1, x.2.2.1⟩) (fun _ => rfl) (fun _ h => h)
theorem opens_dvcs : Opens Try.prog W (Rd.slice Rd.dvc) 57 := opens_slice Try.underlying57 (by kernel_rfl) (by decide) opens_dvc
theorem opens_kys : Opens Try.prog W Rd.kys 59 :=
  Opens.as (opens_struct Try.underlying59 (by kernel_rfl) (opens_cons rfl (by kernel_rfl) (opens_str Try.underlying9) (opens_cons rfl (by kernel_rfl) (opens_i64 Try.underlying3) (opens_cons rfl (by kernel_rfl) (opens_i64 Try.underlying3) (opens_cons rfl (by kernel_rfl) opens_dvcs opens_nil))))) Rd.kys (fun x => ⟨x.1, x.2.1, x.2.2.1, x.2.2.2.1⟩) (fun _ => rfl) (fun _ h => h)
theorem opens_kyss : Opens Try.prog W (Rd.slice Rd.kys) 43 := opens_slice Try.underlying43 (by kernel_rfl) (by decide) opens_kys
theorem opens_dc : Opens Try.prog W Rd.dc 49 :=
  Opens.as (opens_struct Try.underlying49 (by kernel_rfl) (opens_cons rfl (by kernel_rfl) (opens_str Try.underlying9) (opens_cons rfl (by kernel_rfl) opens_dvc (opens_cons rfl (by kernel_rfl) (opens_i64 Try.underlying3) (opens_cons rfl (by kernel_rfl) (opens_i64 Try.underlying3) opens_nil))))) Rd.dc (fun x => ⟨x.1, x.2.1, x.2.2.1, x.2.2.2.1⟩) (fun _ => rfl) (fun _ h => h)
end
section
variable {H : Type} {enc : TypeId × Value → H} {r : Reach} {b0 : Nat} {W : World} {sp : Nat → Bool} {v : Value} {d : DataW H} {ps : List MemPlace}
set_option maxRecDepth 100000 in
theorem open_dc (hv : Value.okWide Try.prog W r b0 49 v) (h : DataW.Trod enc Try.prog W 0 sp true 49 v d ps) (_ : ∀ x ∈ ps, x.block < W.heap.size) :
    ∃ x : Dc, v = .agg (Rd.dc.cells x).toArray ∧ Rd.dc.Ok W x := open_st opens_dc Try.underlying49 hv h
set_option maxRecDepth 100000 in
theorem open_kyss (hv : Value.okWide Try.prog W r b0 43 v) (h : DataW.Trod enc Try.prog W 0 sp true 43 v d ps) (_ : ∀ x ∈ ps, x.block < W.heap.size) :
    ∃ x : Sl Kys, v = x.val ∧ InL W x.A x.n x.c x.l := by
  obtain ⟨A, n, c, l, rfl, h1, h2, h3⟩ := open_sl opens_kyss Try.underlying43 hv h
  exact ⟨⟨A, n, c, l⟩, rfl, ⟨h3, h1, h2⟩⟩
end
end Go.Proofs.Ytbhkgdfmjkblcaa
