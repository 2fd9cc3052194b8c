/-
  Arguments that are sessions and devices, opened.
-/
import Derived.Test.YtnbgcjangoiodaaLift
import Derived.Test.YtnbgcjangoiodaaSesA
import Derived.Test.YtnbgcjangoiodaaChecked
import Derived.ProofKit
namespace Go.Proofs.Ytnbgcjangoiodaa
open Go.ChangeShapes Go.WideShapes Go.ChangeAt Go.RowKit

section
variable {W : World}
theorem opens_shr : Opens Try.prog W Rd.shr 56 :=
  Opens.as (opens_struct Try.underlying56 (by kernel_rfl) (opens_cons rfl (by kernel_rfl) (opens_str Try.underlying9) (opens_cons rfl (by kernel_rfl) (opens_str Try.underlying9) (opens_cons rfl (by kernel_rfl) (opens_i64 Try.underlying3) opens_nil)))) Rd.shr (fun x => ⟨x.1, x.2.1, x.2.2.1⟩) (fun _ => rfl) (fun _ h => h)
theorem opens_shrs : Opens Try.prog W (Rd.slice Rd.shr) 22 := opens_slice Try.underlying22 (by kernel_rfl) (by decide) opens_shr
theorem opens_ses : Opens Try.prog W Rd.ses 24 :=
  Opens.as (opens_struct Try.underlying24 (by kernel_rfl) (opens_cons rfl (by kernel_rfl) (opens_i64 Try.underlying3) (opens_cons rfl (by kernel_rfl) (opens_str Try.underlying9) (opens_cons rfl (by kernel_rfl) (opens_i64 Try.underlying3) (opens_cons rfl (by kernel_rfl) opens_shrs opens_nil))))) Rd.ses (fun x => ⟨x.1, x.2.1, x.2.2.1, x.2.2.2.1⟩) (fun _ => rfl) (fun _ h => h)
theorem opens_dev : Opens Try.prog W Rd.dev 26 :=
  Opens.as (opens_struct Try.underlying26 (by kernel_rfl) (opens_cons rfl (by kernel_rfl) (opens_str Try.underlying9) (opens_cons rfl (by kernel_rfl) (opens_str Try.underlying9) opens_nil))) Rd.dev (fun x => ⟨x.1, x.2.1⟩) (fun _ => rfl) (fun _ h => h)
end
section
variable {H : Type} {enc : TypeId × Value → H} {r : Reach} {b0 : Nat} {W : World} {sp : Nat → Bool} {v : Value} {d : DataW H} {ps : List MemPlace}
set_option maxRecDepth 100000 in
theorem open_ses (hv : Value.okWide Try.prog W r b0 24 v) (h : DataW.Trod enc Try.prog W 0 sp true 24 v d ps) (_ : ∀ x ∈ ps, x.block < W.heap.size) :
    ∃ x : Ses, v = .agg (Rd.ses.cells x).toArray ∧ Rd.ses.Ok W x := open_st opens_ses Try.underlying24 hv h
set_option maxRecDepth 100000 in
theorem open_dev (hv : Value.okWide Try.prog W r b0 26 v) (h : DataW.Trod enc Try.prog W 0 sp true 26 v d ps) (_ : ∀ x ∈ ps, x.block < W.heap.size) :
    ∃ x : Dev, v = .agg (Rd.dev.cells x).toArray ∧ Rd.dev.Ok W x := open_st opens_dev Try.underlying26 hv h
end
end Go.Proofs.Ytnbgcjangoiodaa
