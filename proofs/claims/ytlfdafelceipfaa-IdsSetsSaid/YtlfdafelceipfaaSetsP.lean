/-
  The plain laws behind IdsSets: where Find finds, and what a shuffled list names.
-/
import Derived.Test.YtlfdafelceipfaaIdsL
namespace Go.Proofs.Ytlfdafelceipfaa
open Go.RowKit

theorem findI_mem {l : List (List UInt8)} {s : List UInt8} (h : s ∈ l) : ∃ k : Nat, findI l s = (k : Int) ∧ l[k]? = some s := by
  unfold findI
  cases hf : l.findIdx? (fun x => decide (x = s)) with
  | none =>
    rw [List.findIdx?_eq_none_iff] at hf
    have := hf s h
    simp at this
  | some k =>
    rw [List.findIdx?_eq_some_iff_getElem] at hf
    obtain ⟨hk, h1, _⟩ := hf
    exact ⟨k, rfl, by rw [List.getElem?_eq_getElem hk]; simpa using h1⟩
theorem findI_not {l : List (List UInt8)} {s : List UInt8} (h : s ∉ l) : findI l s = -1 := by
  unfold findI
  cases hf : l.findIdx? (fun x => decide (x = s)) with
  | none => rfl
  | some k =>
    rw [List.findIdx?_eq_some_iff_getElem] at hf
    obtain ⟨hk, h1, _⟩ := hf
    have : l[k] = s := by simpa using h1
    exact absurd (this ▸ List.getElem_mem hk) h
theorem findI_nodup {l : List (List UInt8)} (hn : l.Nodup) {s : List UInt8} {k : Nat} (h : l[k]? = some s) : findI l s = k := by
  obtain ⟨hk, hs⟩ := List.getElem?_eq_some_iff.1 h
  obtain ⟨j, hj, hj2⟩ := findI_mem (hs ▸ List.getElem_mem hk)
  obtain ⟨hj3, hj4⟩ := List.getElem?_eq_some_iff.1 hj2
  have hp := List.pairwise_iff_getElem.1 hn
  have he : j = k := by
    rcases Nat.lt_trichotomy j k with h1 | h1 | h1
    · exact absurd (hj4.trans hs.symm) (hp j k hj3 hk h1)
    · exact h1
    · exact absurd (hs.trans hj4.symm) (hp k j hk hj3 h1)
  rw [hj, he]
theorem inc_at {l : List (List UInt8)} (h : Nm.Inc l) {j k : Nat} (hjk : j < k) {x y : List UInt8} (hx : l[j]? = some x) (hy : l[k]? = some y) : x < y := by
  obtain ⟨h1, e1⟩ := List.getElem?_eq_some_iff.1 hx
  obtain ⟨h2, e2⟩ := List.getElem?_eq_some_iff.1 hy
  have := List.pairwise_iff_getElem.1 h j k h1 h2 hjk
  rwa [e1, e2] at this
/-- the list that IdsSets makes up, after k rounds -/
def Mixed (l : List ByteArray) (k : Nat) (m : List (List UInt8)) : Prop := m.length = k + k ∧ (∀ x ∈ m, x ∈ bss l) ∧ ∀ j x, (bss l)[j]? = some x → j < k → x ∈ m
theorem Mixed.zero (l : List ByteArray) : Mixed l 0 [] := ⟨rfl, by simp, fun j x _ h => by omega⟩
theorem Mixed.succ {l : List ByteArray} {k : Nat} {m : List (List UInt8)} (h : Mixed l k m) {x y : ByteArray} {i : Nat} (hx : l[i]? = some x) (hy : l[k]? = some y) : Mixed l (k + 1) (m ++ [bs x, bs y]) := by
  obtain ⟨h1, h2, h3⟩ := h
  have mem : ∀ {i : Nat} {x : ByteArray}, l[i]? = some x → bs x ∈ bss l := fun h => List.mem_map_of_mem (List.mem_of_getElem? h)
  refine ⟨by simp; omega, fun z hz => ?_, fun j z hz hj => ?_⟩
  · rcases List.mem_append.1 hz with h | h
    · exact h2 z h
    · simp at h; rcases h with rfl | rfl
      · exact mem hx
      · exact mem hy
  · rcases Nat.lt_or_ge j k with h | h
    · exact List.mem_append_left _ (h3 j z hz h)
    · obtain rfl : j = k := by omega
      have : (bss l)[j]? = some (bs y) := by simp [hy]
      rw [this] at hz
      cases hz
      simp
theorem Mixed.names {l : List ByteArray} {m : List (List UInt8)} (h : Mixed l l.length m) : Nm.names m = Nm.names (bss l) :=
  Nm.names_congr fun x => ⟨h.2.1 x, fun hx => by
    obtain ⟨j, hj, rfl⟩ := List.mem_iff_getElem.1 hx
    exact h.2.2 j _ (List.getElem?_eq_getElem hj) (by simpa using hj)⟩
end Go.Proofs.Ytlfdafelceipfaa
