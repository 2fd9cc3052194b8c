/-
  The walks through ids.Names and ids.Find.
-/
import Derived.Test.YthcbplameonjlaaNamesW
namespace Go.Proofs.Ythcbplameonjlaa
open Go.RowKit

theorem run_makeMap_hint {P : Program} (t k e : TypeId) (kd : IntKind) (n : Int) (ht : P.underlying t = some (.map k e)) (w : World) :
    (Instr.makeMap t (some (.int kd n))).run P w = .ok (.map (some w.heap.size)) (w.alloc (.map #[] 0)) := by
  simp [Instr.makeMap, run_underlying ht]; rfl
theorem make_strs {P : Program} (t e : TypeId) (i : TypeInfo) (ht : P.underlying t = some (.slice e)) (hi : P.info? e = some i) (hz : i.zero = some (.string .empty)) (h1 : i.size = 1) (h2 : i.bytes = 16)
    (c : Nat) (hc : c ≤ 1000000) (w : World) :
    (Instr.makeSlice t (.int .i64 0) (.int .i64 (c : Int))).run P w = .ok (.slice (some ⟨w.heap.size, 0, none⟩) 0 c) (w.alloc (.cells (madeCells #[.string .empty] c) e)) := by
  have h := run_make (P := P) w t e i (.string .empty) ht hi hz .i64 .i64 0 (c : Int) (by omega) (by omega) (by rw [h2]; omega) (by omega)
  simpa [h1, Value.cells] using h

/-- the strings of a list, as lists of bytes -/
abbrev bss (l : List ByteArray) : List (List UInt8) := l.map bs
theorem bss_take {l : List ByteArray} {k : Nat} {x : ByteArray} (h : l[k]? = some x) : (bss l).take (k + 1) = (bss l).take k ++ [bs x] := by
  obtain ⟨hk, hx⟩ := List.getElem?_eq_some_iff.1 h
  rw [List.take_succ_eq_append_getElem (by simpa using hk)]; simp [hx]
/-- 'v' is a row of the call's own, from block B on, that holds just the strings l -/
def OwnStrs (w : World) (B : Nat) (v : Value) (l : List (List UInt8)) : Prop := w.ownsRow B 9 1 v l.length (l.map encStr)

theorem owns_made (w : World) {B g : Nat} (n : Nat) (hg : g = w.heap.size) (hB : B ≤ w.heap.size) (hn : n ≤ 1000000) :
    OwnStrs (w.alloc (.cells (madeCells #[.string .empty] n) 9)) B (.slice (some ⟨g, 0, none⟩) 0 n) [] := by
  subst hg
  exact World.ownsRow_made w _ n hB (by unfold maxLen; omega) (by simp [size_madeCells])