/-
  Arguments that are lists of steps, opened.
-/
import Derived.Test.YtnbgcjangoiodaaLiftS
import Derived.Test.YtnbgcjangoiodaaSesS
namespace Go.Proofs.Ytnbgcjangoiodaa
open Go.ChangeShapes Go.WideShapes Go.ChangeAt Go.RowKit

section
variable {W : World}
theorem opens_sstp : Opens Try.prog W Rd.sstp 52 :=
  Opens.as (opens_struct Try.underlying52 (by kernel_rfl) (opens_cons rfl (by kernel_rfl) (opens_bool Try.underlying4) (opens_cons rfl (by kernel_rfl) opens_dev opens_nil))) Rd.sstp (fun x => ⟨x.1, x.2.1.user, x.2.1.id⟩) (fun _ => rfl) (fun _ h => h)
theorem opens_sstps : Opens Try.prog W (Rd.slice Rd.sstp) 50 := opens_slice Try.underlying50 (by kernel_rfl) (by decide) opens_sstp
end
section
variable {H : Type} {enc : TypeId × Value → H} {r : Reach} {b0 : Nat} {W : World} {sp : Nat → Bool} {v : Value} {d : DataW H} {ps : List MemPlace}
set_option maxRecDepth 100000 in
theorem open_sstps (hv : Value.okWide Try.prog W r b0 50 v) (h : DataW.Trod enc Try.prog W 0 sp true 50 v d ps) (_ : ∀ x ∈ ps, x.block < W.heap.size) :
    ∃ x : Sl Sstp, v = x.val ∧ (Rd.sstp.Holds W x.A x.n x.l ∧ x.n ≤ maxLen) := by
  obtain ⟨A, n, c, l, rfl, h1, h2, h3⟩ := open_sl opens_sstps Try.underlying50 hv h
  exact ⟨⟨A, n, c, l⟩, rfl, h3, Nat.le_trans h1 h2⟩
end
end Go.Proofs.Ytnbgcjangoiodaa
