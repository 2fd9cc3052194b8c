/-
  IdsParts: the given statement 'IdsPartsSaid', for every input, out of the law's walk. No condition.
-/
import Derived.Test.YtlfdafelceipfaaLift
import Derived.Test.YtlfdafelceipfaaIdsIn
import Derived.Test.YtlfdafelceipfaaIdsIu
import Derived.Test.YtlfdafelceipfaaIdsIr
import Derived.OpenShut
namespace Go.Proofs.Ytlfdafelceipfaa
open Go.ChangeShapes Go.WideShapes Go.ChangeAt Go.RowKit
open Go.ChangeMaps (open_string)

theorem idsParts_any (s : ByteArray) (m : UInt8) (a b : ByteArray) (w : World) (hs : s.size ≤ maxLen) (ha : a.size ≤ maxLen) (hb : b.size ≤ maxLen) :
    Calls Try.prog 7 #[.string s, .int .u8 m.toNat, .agg #[.string a, .string b]] w (Ret w (.bool true)) := by
  rcases I.kinds (bs s) with ⟨la, lb, hl, h1, h2⟩ | ⟨la, lb, hl, h1, h2⟩ | ⟨h1, h2, h3, h4⟩
  · exact idsParts_user s m a b w hs ha hb hl h1 h2
  · exact idsParts_room s m a b w hs ha hb hl h1 h2
  · exact idsParts_none s m a b w hs ha hb h1 h2 h3 h4
theorem u8_of {n : Int} (h : (Lit.int .u8 n).wf = true) : ∃ m : UInt8, n = m.toNat := by
  have : 0 ≤ n ∧ n < 256 := by
    have e1 : IntKind.u8.min = 0 := by decide
    have e2 : IntKind.u8.max = 255 := by decide
    simp [Lit.wf, e1, e2] at h
    omega
  exact ⟨UInt8.ofNat n.toNat, by simp; omega⟩
set_option maxRecDepth 100000 in
theorem open_pair {H : Type} {enc : TypeId × Value → H} {r : Reach} {b0 : Nat} {W : World} {sp : Nat → Bool} {v : Value} {d : DataW H} {ps : List MemPlace} (hv : Value.okWide Try.prog W r b0 35 v)
    (h : DataW.Trod enc Try.prog W 0 sp true 35 v d ps) : ∃ x y : ByteArray, v = .agg #[.string x, .string y] ∧ x.size ≤ maxLen ∧ y.size ≤ maxLen := by
  simp only [Value.okWide, Try.underlying35] at hv
  obtain ⟨cs, rfl, hsz, _⟩ := hv
  have hsz2 : cs.size = 2 := by rw [hsz]; kernel_rfl
  obtain ⟨fuel, hf⟩ := h
  obtain ⟨xs, n, _, _, _, hxl, hg⟩ := DataW.trod_array Try.underlying35 hf
  have hc1 : Try.prog.cellsOf 9 = 1 := by kernel_rfl
  obtain ⟨l⟩ := cs
  match l, hsz2, xs, hxl with
  | [c0, c1], _, [y0, y1], _ =>
    have h0 := hg 0 (by omega)
    have h1 := hg 1 (by omega)
    simp [hc1, Value.cells] at h0 h1
    obtain ⟨x, hx, _, zx⟩ := DataW.trod_string Try.underlying9 h0
    obtain ⟨y, hy, _, zy⟩ := DataW.trod_string Try.underlying9 h1
    have e0 : c0 = .string x := by simpa using hx
    have e1 : c1 = .string y := by simpa using hy
    exact ⟨x, y, by rw [e0, e1], zx, zy⟩

set_option maxRecDepth 100000 in
set_option maxHeartbeats 1600000 in
theorem idsParts_lifted (os : Os) (started : os.Started) (H : Type) (enc : TypeId × Value → H) :
    ReturnsInHanded {} Try.checked os 7 .any (Rows.idsPartsSpec.pre6 enc Try.prog Try.f7 Rows.idsPartsRow.domain false) (Rows.idsPartsSpec.post enc Try.prog Try.f7 false true false false) := by
  refine returnsInHanded_of_change (C := Try.checked) own started (by kernel_rfl) Try.func7
    (ChangeSpec.witness6 (enc := enc) (C := Try.checked) false ⟨#[], #[.string .empty, .int .u8 0, .agg #[.string .empty, .string .empty]], []⟩ 8 (by kernel_rfl) (by kernel_rfl) (by kernel_rfl) (by kernel_rfl)) ?_
  intro W base args ds gs before hval0 hW _ _
  refine law_contract Try.underlying4 (by kernel_rfl) rfl (by rw [Try.params7]; exact by decide +kernel) ?_ H enc W args ds gs before hW ?_
  · intro H ds hl
    rw [Try.params7] at hl
    match ds, hl with
    | [d0, d1, d2], _ => rfl
  intro p hA hlt
  have hval : ∀ (j : Nat) t v, Try.f7.params[j]? = some t → args[j]? = some v → Value.okWide Try.prog W .any base t v := hval0
  rw [Try.params7] at hA hval
  obtain ⟨v0, v1, v2, d0, d1, d2, p0, p1, p2, rfl, rfl, rfl, h0, h1, h2⟩ := trodAll_three hA
  obtain ⟨s0, rfl, rfl, rfl, hs0⟩ := open_string Try.underlying9 (hval 0 9 v0 rfl rfl) h0
  obtain ⟨x1, rfl, rfl, rfl, wx1⟩ := open_int Try.underlying5 (hval 1 5 v1 rfl rfl) h1
  obtain ⟨a, b, rfl, ha, hb⟩ := open_pair (hval 2 35 v2 rfl rfl) h2
  obtain ⟨m, rfl⟩ := u8_of wx1
  exact idsParts_any s0 m a b W hs0 ha hb

theorem idsParts_holds : Rows.IdsPartsSaid :=
  OpenClaim.holds_of_wide 7 Try.f7 rfl rfl rfl rfl rfl rfl rfl ⟨rfl, rfl, rfl, rfl, rfl⟩ rfl rfl rfl rfl rfl (by kernel_rfl) Try.func7 (by kernel_rfl)
    (of_decide_eq_true (by kernel_rfl)) (by unfold Func.isWrapper; first | (rw [if_pos (by decide +kernel)]; kernel_rfl) | (rw [if_neg (by decide +kernel)]; exact ⟨rfl, rfl⟩))
    (fun os started H enc _ => idsParts_lifted os started H enc)
#print axioms idsParts_holds
end Go.Proofs.Ytlfdafelceipfaa
