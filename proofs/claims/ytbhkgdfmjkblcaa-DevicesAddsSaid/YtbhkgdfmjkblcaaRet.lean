/-
  What callees leave, in the form of 'Ret'; a row of the call's own as a list of strings.
-/
import Derived.Test.YtbhkgdfmjkblcaaIdsT
import Derived.Test.YtbhkgdfmjkblcaaNamesT
namespace Go.Proofs.Ytbhkgdfmjkblcaa
open Go.RowKit

theorem Same.ret' {w : World} {v : Value} {e : Ending} {w' : World} (h : Same w v e w') : Ret w v e w' := ⟨h.1, h.2 ▸ Below.refl _ _⟩
theorem Quiet.ret' {w : World} {v : Value} {e : Ending} {w' : World} (h : Quiet w v e w') : Ret w v e w' := by
  obtain ⟨h1, n, rfl⟩ := h
  exact ⟨h1, below_drewN (Below.refl _ _) n⟩
theorem OwnStrs.form' {w : World} {B : Nat} {v : Value} {l : List (List UInt8)} (h : OwnStrs w B v l) : ∃ A c, v = .slice A l.length c ∧ Strs w A l.length (l.map mk) := by
  obtain ⟨A, c, rfl, _, hr⟩ := own_form h
  refine ⟨A, c, rfl, ?_⟩
  unfold Strs
  rw [strs_mk]; exact hr
theorem not_less {a b : ByteArray} (h : bs b < bs a) : Op.bytesLess a.toList b.toList = false ∧ (a.toList == b.toList) = false := by
  rw [bytesLess_lt, streq]
  constructor
  · rw [decide_eq_false_iff_not]; intro h2; exact Nm.lt_irrefl _ (Nm.lt_trans h h2)
  · rw [decide_eq_false_iff_not]; intro h2; rw [h2] at h; exact Nm.lt_irrefl _ h
end Go.Proofs.Ytbhkgdfmjkblcaa
