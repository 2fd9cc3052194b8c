/-
  The walks through ids.Find, and the reference's Find and Same.
-/
import Derived.Test.YtbhkgdfmjkblcaaNamesV
namespace Go.Proofs.Ytbhkgdfmjkblcaa
open Go.RowKit

def findI (l : List (List UInt8)) (s : List UInt8) : Int := match l.findIdx? fun x => decide (x = s) with | some i => i | none => -1
def NotYet (l : List ByteArray) (s : ByteArray) (k : Nat) : Prop := ∀ j x, l[j]? = some x → j < k → x ≠ s
theorem NotYet.zero (l : List ByteArray) (s : ByteArray) : NotYet l s 0 := fun j _ _ h => by omega
theorem NotYet.succ {l : List ByteArray} {s : ByteArray} {k : Nat} {x : ByteArray} (h : NotYet l s k) (hx : l[k]? = some x) (hm : x ≠ s) : NotYet l s (k + 1) := fun j y hy hj => by
  rcases Nat.lt_or_ge j k with h1 | h1
  · exact h j y hy h1
  · obtain rfl : j = k := by omega
    rw [hx] at hy; cases hy; exact hm
theorem findI_some {l : List ByteArray} {s : ByteArray} {k : Nat} (h : NotYet l s k) (hx : l[k]? = some s) : findI (bss l) (bs s) = k := by
  have : (bss l).findIdx? (fun x => decide (x = bs s)) = some k := by
    rw [List.findIdx?_eq_some_iff_getElem]
    obtain ⟨hk, hx'⟩ := List.getElem?_eq_some_iff.1 hx
    refine ⟨by simpa using hk, by simp [hx'], fun j hj => ?_⟩
    have hjl : j < l.length := by omega
    have := h j _ (List.getElem?_eq_getElem hjl) hj
    simp only [List.getElem_map, decide_eq_true_eq]
    exact fun e => this (bs_inj e)
  unfold findI; rw [this]
theorem findI_none {l : List ByteArray} {s : ByteArray} (h : NotYet l s l.length) : findI (bss l) (bs s) = -1 := by
  have : (bss l).findIdx? (fun x => decide (x = bs s)) = none := by
    rw [List.findIdx?_eq_none_iff]
    intro x hx
    obtain ⟨y, hy, rfl⟩ := List.mem_map.1 hx
    obtain ⟨j, hj, rfl⟩ := List.mem_iff_getElem.1 hy
    have := h j _ (List.getElem?_eq_getElem hj) hj
    simp only [decide_eq_false_iff_not]
    exact fun e => this (bs_inj e)
  unfold findI; rw [this]