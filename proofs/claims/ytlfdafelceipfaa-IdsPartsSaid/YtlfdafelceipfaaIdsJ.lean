/-
  The plain laws behind IdsParts: an identifier is made up of its parts, in one way.
-/
import Derived.Test.YtlfdafelceipfaaIdsL
namespace Go.Proofs.Ytlfdafelceipfaa
open Go.RowKit

namespace I
theorem of_glue64 {a b : List UInt8} (ha : localB a = true) (hb : serverB b = true) :
    userB (glue 64 a b) = true ∧ roomB (glue 64 a b) = false ∧ serverOf (glue 64 a b) = b ∧ localOf (glue 64 a b) = a := by
  have h := ident_glue (m := 64) ha hb
  have h' := ident_other (m' := 33) (l := glue 64 a b) (m := 64) (by rw [h]; rfl) (by decide)
  refine ⟨by unfold userB; rw [h]; rfl, by unfold roomB; rw [h']; rfl, ?_, ?_⟩ <;> simp [serverOf, localOf, both, h]
theorem of_glue33 {a b : List UInt8} (ha : localB a = true) (hb : serverB b = true) :
    userB (glue 33 a b) = false ∧ roomB (glue 33 a b) = true ∧ serverOf (glue 33 a b) = b ∧ localOf (glue 33 a b) = a := by
  have h := ident_glue (m := 33) ha hb
  have h' := ident_other (m' := 64) (l := glue 33 a b) (m := 33) (by rw [h]; rfl) (by decide)
  refine ⟨by unfold userB; rw [h']; rfl, by unfold roomB; rw [h]; rfl, ?_, ?_⟩ <;> simp [serverOf, localOf, both, h, h']
theorem kinds (l : List UInt8) :
    (∃ a b, l = glue 64 a b ∧ localB a = true ∧ serverB b = true) ∨ (∃ a b, l = glue 33 a b ∧ localB a = true ∧ serverB b = true) ∨
    (userB l = false ∧ roomB l = false ∧ serverOf l = [] ∧ localOf l = []) := by
  cases h1 : ident 64 l with
  | some x => obtain ⟨a, b⟩ := x; exact .inl ⟨a, b, ident_some h1⟩
  | none =>
    cases h2 : ident 33 l with
    | some x => obtain ⟨a, b⟩ := x; exact .inr (.inl ⟨a, b, ident_some h2⟩)
    | none => exact .inr (.inr ⟨by simp [userB, h1], by simp [roomB, h2], by simp [serverOf, both, h1, h2], by simp [localOf, both, h1, h2]⟩)
theorem make_yes {m : UInt8} {a b : List UInt8} (h : makeB m a b = true) : (m = 64 ∨ m = 33) ∧ localB a = true ∧ serverB b = true := by
  simp only [makeB, Bool.and_eq_true, Bool.or_eq_true, beq_iff_eq] at h
  exact ⟨h.1.1, h.1.2, h.2⟩
theorem make_glue64 {a b : List UInt8} (ha : localB a = true) (hb : serverB b = true) : makeB 64 a b = true := by simp [makeB, ha, hb]
theorem make_glue33 {a b : List UInt8} (ha : localB a = true) (hb : serverB b = true) : makeB 33 a b = true := by simp [makeB, ha, hb]
end I

theorem pair_cells {w : World} {g : Nat} {a b : ByteArray} (h : Strs w (some ⟨g, 0, none⟩) 2 [a, b]) : w.cell? ⟨g, 0, none⟩ = some (.string a) ∧ w.cell? ⟨g, 1, none⟩ = some (.string b) := by
  obtain ⟨ad, h', _, hc⟩ := h.2 (by omega)
  cases h'
  exact ⟨hc 0 _ rfl, hc 1 _ rfl⟩
theorem glue_size {m : UInt8} {a b : List UInt8} (ha : I.localB a = true) (hb : I.serverB b = true) : (mk (I.glue m a b)).size ≤ maxLen := by
  have h1 := (I.validB_len ha).2
  have h2 := (I.validB_len (I.serverB_valid hb)).2
  rw [← size_list, show (mk (I.glue m a b)).data.toList = bs (mk (I.glue m a b)) from rfl, bs_mk]
  simp [I.glue, maxLen]; omega
theorem mk_size (l : List UInt8) : (mk l).size = l.length := by
  rw [← size_list, show (mk l).data.toList = bs (mk l) from rfl, bs_mk]
end Go.Proofs.Ytlfdafelceipfaa
