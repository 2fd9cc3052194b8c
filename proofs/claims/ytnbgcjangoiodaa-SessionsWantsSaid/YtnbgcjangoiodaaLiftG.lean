/-
  Arguments that are groups of members and keys, opened.
-/
import Derived.Test.YtnbgcjangoiodaaLiftS
import Derived.Test.YtnbgcjangoiodaaSesD
namespace Go.Proofs.Ytnbgcjangoiodaa
open Go.ChangeShapes Go.WideShapes Go.ChangeAt Go.RowKit

section
variable {W : World}
theorem opens_dvc : Opens Try.prog W Rd.dvc 68 :=
  Opens.as (opens_struct Try.underlying68 (by kernel_rfl) (opens_cons rfl (by kernel_rfl) (opens_str Try.underlying9) (opens_cons rfl (by kernel_rfl) (opens_i64 Try.underlying3) (opens_cons rfl (by kernel_rfl) (opens_bool Try.underlying4) opens_nil)))) Rd.dvc (fun x => ⟨x.1, x.2.1, x.2.2.1⟩) (fun _ => rfl) (fun _ h => h)
theorem opens_dvcs : Opens Try.prog W (Rd.slice Rd.dvc) 69 := opens_slice Try.underlying69 (by kernel_rfl) (by decide) opens_dvc
theorem opens_kys : Opens Try.prog W Rd.kys 71 :=
  Opens.as (opens_struct Try.underlying71 (by kernel_rfl) (opens_cons rfl (by kernel_rfl) (opens_str Try.underlying9) (opens_cons rfl (by kernel_rfl) (opens_i64 Try.underlying3) (opens_cons rfl (by kernel_rfl) (opens_i64 Try.underlying3) (opens_cons rfl (by kernel_rfl) opens_dvcs opens_nil))))) Rd.kys (fun x => ⟨x.1, x.2.1, x.2.2.1, x.2.2.2.1⟩) (fun _ => rfl) (fun _ h => h)
theorem opens_kyss : Opens Try.prog W (Rd.slice Rd.kys) 40 := opens_slice Try.underlying40 (by kernel_rfl) (by decide) opens_kys
theorem opens_strs : Opens Try.prog W (Rd.slice Rd.str) 39 := opens_slice Try.underlying39 (by kernel_rfl) (by decide) (opens_str Try.underlying9)
theorem opens_grp : Opens Try.prog W Rd.grp 46 :=
  Opens.as (opens_struct Try.underlying46 (by kernel_rfl) (opens_cons rfl (by kernel_rfl) opens_strs (opens_cons rfl (by kernel_rfl) opens_kyss opens_nil))) Rd.grp (fun x => ⟨x.1, x.2.1⟩) (fun _ => rfl) (fun _ h => h)
end
section
variable {H : Type} {enc : TypeId × Value → H} {r : Reach} {b0 : Nat} {W : World} {sp : Nat → Bool} {v : Value} {d : DataW H} {ps : List MemPlace}
set_option maxRecDepth 100000 in
theorem open_grp (hv : Value.okWide Try.prog W r b0 46 v) (h : DataW.Trod enc Try.prog W 0 sp true 46 v d ps) (_ : ∀ x ∈ ps, x.block < W.heap.size) :
    ∃ x : Grp, v = .agg (Rd.grp.cells x).toArray ∧ Rd.grp.Ok W x := open_st opens_grp Try.underlying46 hv h
set_option maxRecDepth 100000 in
theorem open_kyss (hv : Value.okWide Try.prog W r b0 40 v) (h : DataW.Trod enc Try.prog W 0 sp true 40 v d ps) (_ : ∀ x ∈ ps, x.block < W.heap.size) :
    ∃ x : Sl Kys, v = x.val ∧ (Rd.kys.Holds W x.A x.n x.l ∧ x.n ≤ maxLen) := by
  obtain ⟨A, n, c, l, rfl, h1, h2, h3⟩ := open_sl opens_kyss Try.underlying40 hv h
  exact ⟨⟨A, n, c, l⟩, rfl, h3, Nat.le_trans h1 h2⟩
end
end Go.Proofs.Ytnbgcjangoiodaa
