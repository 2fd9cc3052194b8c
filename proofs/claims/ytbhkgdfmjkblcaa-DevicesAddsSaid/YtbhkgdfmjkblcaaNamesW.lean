/-
  The walks through ids.Names, ids.Find, and the reference's Names, Find, Same; a set of strings in a map[string]bool.
-/
import Derived.Test.YtbhkgdfmjkblcaaIdsV
import Derived.Test.YtbhkgdfmjkblcaaNamesP
import Derived.Maps.Own
import Derived.Maps.OwnOps
import Derived.Maps.Views
namespace Go.Proofs.Ytbhkgdfmjkblcaa
open Go.RowKit Go.Maps Go.WideMaps

theorem infoStr : (Try.prog.info? 9).map (fun i => (i.zero, i.size, i.bytes)) = some (some (.string .empty), 1, 16) := by kernel_rfl
theorem keyStr : Keyed Try.prog 9 := string_keyed Try.underlying9
theorem zeroBool (w : World) : (zeroValue 4).run Try.prog w = .ok (.bool false) w := by kernel_rfl

section
variable {P : Program} {ks eb tm : TypeId}
theorem plainBool_inv {H : Type} (he : P.underlying eb = some .bool) {v : Value} {d : DataW H × List MemPlace} (h : plainElem P eb v = some d) : ∃ x, v = .bool x ∧ d = (.lit (.bool x), []) := by
  unfold plainElem at h
  rw [he] at h
  cases v with
  | bool x => exact ⟨x, rfl, (Option.some.inj h).symm⟩
  | _ => cases h
/-- block b is a map of at most n entries that holds just the strings S, each with true -/
def SetIn (P : Program) (ks eb : TypeId) (w : World) (b n : Nat) (S : List (List UInt8)) : Prop :=
  ∃ D : DataW Unit, w.ownsMap P ks (plainElem P eb) b n D ∧ IsMap D ∧ ∀ k, D.atKey (.string k) (.lit (.bool false)) = .lit (.bool (decide (k ∈ S)))
theorem SetIn.made (w : World) : SetIn P ks eb (w.alloc (.map #[] 0)) w.heap.size 0 [] :=
  ⟨.map [], World.ownsMap_made _ _ _ _, ⟨[], rfl⟩, fun k => by simp [DataW.atKey]⟩
theorem SetIn.alloc {w : World} {b n : Nat} {S : List (List UInt8)} (h : SetIn P ks eb w b n S) (o : Obj) : SetIn P ks eb (w.alloc o) b n S := by
  obtain ⟨D, h1, h2⟩ := h; exact ⟨D, h1.alloc o, h2⟩
theorem SetIn.kept {w w' : World} {b n : Nat} {S : List (List UInt8)} (h : SetIn P ks eb w b n S) {row : Option Nat} (hg : w.grownBy w' row) (hne : some b ≠ row) : SetIn P ks eb w' b n S := by
  obtain ⟨D, h1, h2⟩ := h; exact ⟨D, h1.kept hg hne, h2⟩
theorem SetIn.mono {w : World} {b n m : Nat} {S : List (List UInt8)} (h : SetIn P ks eb w b n S) (hm : n ≤ m) : SetIn P ks eb w b m S := by
  obtain ⟨D, h1, h2⟩ := h; exact ⟨D, h1.mono hm, h2⟩
theorem SetIn.lt {w : World} {b n : Nat} {S : List (List UInt8)} (h : SetIn P ks eb w b n S) : b < w.heap.size := by obtain ⟨D, h1, _⟩ := h; exact h1.lt
theorem SetIn.look {w : World} {b n : Nat} {S : List (List UInt8)} (h : SetIn P ks eb w b n S) (hk : P.underlying ks = some .string) (he : P.underlying eb = some .bool) (ht : P.underlying tm = some (.map ks eb))
    (hz : (zeroValue eb).run P w = .ok (.bool false) w) (s : ByteArray) (hs : s.size ≤ maxLen) :
    (Instr.lookup tm (.map (some b)) (.string s) false).run P w = .ok (.bool (decide (bs s ∈ S))) w := by
  obtain ⟨D, h1, _, h3⟩ := h
  obtain ⟨v, ps, hrun, hv⟩ := h1.lookup (string_keyed hk) ht hz (plainElem_bool he false) (keyOf_string_mk hk hs)
  rw [h3] at hv
  obtain ⟨x, rfl, hx⟩ := plainBool_inv he hv
  injection hx with hx _
  injection hx with hx
  injection hx with hx
  rw [hrun, ← hx]
theorem SetIn.put {w : World} {b n : Nat} {S : List (List UInt8)} (h : SetIn P ks eb w b n S) (hk : P.underlying ks = some .string) (he : P.underlying eb = some .bool) (ht : P.underlying tm = some (.map ks eb))
    (s : ByteArray) (hs : s.size ≤ maxLen) (hn : n < maxLen) :
    ∃ w', (Instr.mapUpdate tm (.map (some b)) (.string s) (.bool true)).run P w = .ok () w' ∧ SetIn P ks eb w' b (n + 1) (S ++ [bs s]) ∧ w.grownBy w' (some b) := by
  obtain ⟨D, h1, h2, h3⟩ := h
  obtain ⟨w', hrun, hown, hg⟩ := h1.update (string_keyed hk) ht hn (keyOf_string_mk hk hs) (plainElem_bool he true)
  refine ⟨w', hrun, ⟨_, hown, ?_, fun k => ?_⟩, hg⟩
  · obtain ⟨es, rfl⟩ := h2; exact ⟨_, rfl⟩
  · by_cases hk : k = bs s
    · subst hk
      rw [atKey_put_same h2 (k := .string (bs s)) trivial, decide_eq_true (by simp)]
    · rw [atKey_put_other (by intro e; injection e with e; exact hk e), h3]
      rw [show decide (k ∈ S ++ [bs s]) = decide (k ∈ S) from by rw [decide_eq_decide]; simp [hk]]
end
/-- a set of this program's -/
def SetAt (w : World) (b n : Nat) (S : List (List UInt8)) : Prop := SetIn Try.prog 9 4 w b n S
theorem SetAt.look {w : World} {b n : Nat} {S : List (List UInt8)} (h : SetAt w b n S) (s : ByteArray) (hs : s.size ≤ maxLen) :
    (Instr.lookup 84 (.map (some b)) (.string s) false).run Try.prog w = .ok (.bool (decide (bs s ∈ S))) w :=
  SetIn.look h Try.underlying9 Try.underlying4 Try.underlying84 (zeroBool w) s hs
theorem SetAt.put {w : World} {b n : Nat} {S : List (List UInt8)} (h : SetAt w b n S) (s : ByteArray) (hs : s.size ≤ maxLen) (hn : n < maxLen) :
    ∃ w', (Instr.mapUpdate 84 (.map (some b)) (.string s) (.bool true)).run Try.prog w = .ok () w' ∧ SetAt w' b (n + 1) (S ++ [bs s]) ∧ w.grownBy w' (some b) :=
  SetIn.put h Try.underlying9 Try.underlying4 Try.underlying84 s hs hn

theorem strs_eq (xs : List ByteArray) : strs xs = (xs.map bs).map encStr := by
  simp only [strs, List.map_map]
  refine List.map_congr_left fun x _ => ?_
  simp [encStr]
theorem strs_mk (l : List (List UInt8)) : strs (l.map mk) = l.map encStr := by
  simp only [strs, List.map_map]; rfl
theorem map_bs_mk (l : List (List UInt8)) : (l.map mk).map bs = l := by
  rw [List.map_map]; exact (List.map_congr_left fun x _ => bs_mk x).trans (List.map_id l)
theorem map_mk_bs (l : List ByteArray) : (l.map bs).map mk = l := by
  rw [List.map_map]; exact (List.map_congr_left fun x _ => mk_bs x).trans (List.map_id l)

/-- slices.Sort on a row of the call's own -/
theorem sort_any (base : Nat) (v : Value) (l : List (List UInt8)) (w : World) (hr : w.ownsRow base 9 1 v l.length (l.map encStr)) (hl : l.length ≤ 1000000) :
    Calls Try.prog 73 #[v] w fun e w' => e = .returned (.tuple #[]) ∧ w'.ownsRow base 9 1 v l.length ((Nm.sorted l).map encStr) ∧ w.grownBy w' v.ownBlock := by
  rcases hr.2 with ⟨rfl, hn⟩ | ⟨g, cap, cur, rfl, hbase, hb, h1, h2, h3, h4⟩
  · have hl0 : l = [] := List.eq_nil_of_length_eq_zero hn
    subst hl0
    refine (Try.slices_Sort_string_none none 0 w).mono ?_
    rintro e w' ⟨rfl, rfl⟩
    exact ⟨rfl, by rw [show Nm.sorted [] = [] from by simp [Nm.sorted]]; exact hr, World.grownBy.refl _ _⟩
  · refine (Try.slices_Sort_string g 0 cap l w (holds_of_block hb (by simpa using h4)) (Array.getElem?_eq_some_iff.1 hb).1 (by omega)).mono ?_
    rintro e w' ⟨rfl, n, os, rfl⟩
    exact ⟨rfl, ownsRow_sorted (by simp) hbase hb h1 h2 h3, grownBy_sorted _⟩
end Go.Proofs.Ytbhkgdfmjkblcaa
