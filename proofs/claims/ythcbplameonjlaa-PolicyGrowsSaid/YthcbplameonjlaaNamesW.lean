/-
  The walks through ids.Names, ids.Find, and the reference's Names, Find, Same; a set of strings in a map[string]bool.
-/
import Derived.Test.YthcbplameonjlaaIdsV
import Derived.Test.YthcbplameonjlaaNamesP
import Derived.Maps.Own
import Derived.Maps.OwnOps
import Derived.Maps.Views
namespace Go.Proofs.Ythcbplameonjlaa
open Go.RowKit Go.Maps Go.WideMaps

theorem infoStr : (Try.prog.info? 9).map (fun i => (i.zero, i.size, i.bytes)) = some (some (.string .empty), 1, 16) := by kernel_rfl
theorem keyStr : Keyed Try.prog 9 := string_keyed Try.underlying9
theorem zeroBool (w : World) : (zeroValue 4).run Try.prog w = .ok (.bool false) w := by kernel_rfl

theorem strs_eq (xs : List ByteArray) : strs xs = (xs.map bs).map encStr := by
  simp only [strs, List.map_map]
  refine List.map_congr_left fun x _ => ?_
  simp [encStr]
theorem strs_mk (l : List (List UInt8)) : strs (l.map mk) = l.map encStr := by
  simp only [strs, List.map_map]; rfl
theorem map_bs_mk (l : List (List UInt8)) : (l.map mk).map bs = l := by
  rw [List.map_map]; exact (List.map_congr_left fun x _ => bs_mk x).trans (List.map_id l)
theorem map_mk_bs (l : List ByteArray) : (l.map bs).map mk = l := by
  rw [List.map_map]; exact (List.map_congr_left fun x _ => mk_bs x).trans (List.map_id l)

/-- slices.Sort on a row of the call's own -/
theorem sort_any (base : Nat) (v : Value) (l : List (List UInt8)) (w : World) (hr : w.ownsRow base 9 1 v l.length (l.map encStr)) (hl : l.length ≤ 1000000) :
    Calls Try.prog 34 #[v] w fun e w' => e = .returned (.tuple #[]) ∧ w'.ownsRow base 9 1 v l.length ((Nm.sorted l).map encStr) ∧ w.grownBy w' v.ownBlock := by
  rcases hr.2 with ⟨rfl, hn⟩ | ⟨g, cap, cur, rfl, hbase, hb, h1, h2, h3, h4⟩
  · have hl0 : l = [] := List.eq_nil_of_length_eq_zero hn
    subst hl0
    refine (Try.slices_Sort_string_none none 0 w).mono ?_
    rintro e w' ⟨rfl, rfl⟩
    exact ⟨rfl, by rw [show Nm.sorted [] = [] from by simp [Nm.sorted]]; exact hr, World.grownBy.refl _ _⟩
  · refine (Try.slices_Sort_string g 0 cap l w (holds_of_block hb (by simpa using h4)) (Array.getElem?_eq_some_iff.1 hb).1 (by omega)).mono ?_
    rintro e w' ⟨rfl, n, os, rfl⟩
    exact ⟨rfl, ownsRow_sorted (by simp) hbase hb h1 h2 h3, grownBy_sorted _⟩
end Go.Proofs.Ythcbplameonjlaa
