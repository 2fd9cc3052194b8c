/-
  The plain mathematics of policies: the different policies of a list, the first that matches, names about which there is one; a list in the order of its reasons.
-/
import Derived.Test.YthcbplameonjlaaRead
import Derived.Test.YthcbplameonjlaaNamesP
import Derived.Test.YthcbplameonjlaaGlobP
import Derived.Test.YthcbplameonjlaaIdsP
namespace Go.Proofs.Ythcbplameonjlaa
open Go.RowKit

structure Pol where
  about : Int
  pattern : ByteArray
  reason : ByteArray
deriving DecidableEq
def Rd.pol : Rd Pol := (Rd.pair Rd.i64 (Rd.pair Rd.str (Rd.pair Rd.str Rd.unit))).as fun x => (x.about, x.pattern, x.reason, ())
namespace Pl
/-- the policies of a list, each once, as they come -/
def once (l : List Pol) : List Pol := l.foldl (fun acc x => if x ∈ acc then acc else acc ++ [x]) []
theorem once_snoc (l : List Pol) (x : Pol) : once (l ++ [x]) = if x ∈ once l then once l else once l ++ [x] := by
  unfold once; rw [List.foldl_append]; rfl
theorem mem_once (l : List Pol) : ∀ x, x ∈ once l ↔ x ∈ l := by
  induction l using Nm.snoc_ind with
  | h0 => simp [once]
  | h1 l a ih =>
    intro x
    rw [once_snoc]
    by_cases h : a ∈ once l
    · rw [if_pos h, ih]
      simp only [List.mem_append, List.mem_singleton]
      constructor
      · exact .inl
      · rintro (h1 | rfl)
        · exact h1
        · exact (ih _).1 h
    · rw [if_neg h]; simp [ih]
theorem once_length (l : List Pol) : (once l).length ≤ l.length := by
  induction l using Nm.snoc_ind with
  | h0 => simp [once]
  | h1 l a ih =>
    rw [once_snoc]; split <;> simp <;> omega
theorem once_more {l r : List Pol} (h : ∀ x ∈ r, x ∈ l) : once (l ++ r) = once l := by
  induction r using Nm.snoc_ind with
  | h0 => simp
  | h1 r a ih =>
    rw [← List.append_assoc, once_snoc, ih (fun x hx => h x (by simp [hx]))]
    rw [if_pos ((mem_once l a).2 (h a (by simp)))]
theorem nodup_once (l : List Pol) : (once l).Nodup := by
  induction l using Nm.snoc_ind with
  | h0 => simp [once]
  | h1 l a ih =>
    rw [once_snoc]
    split
    · exact ih
    · rename_i h
      rw [List.nodup_append]
      exact ⟨ih, by simp, fun x hx y hy e => by simp at hy; subst hy; subst e; exact h hx⟩
theorem once_of_nodup {l : List Pol} (h : l.Nodup) : once l = l := by
  induction l using Nm.snoc_ind with
  | h0 => simp [once]
  | h1 l a ih =>
    rw [List.nodup_append] at h
    rw [once_snoc, ih h.1, if_neg fun hm => h.2.2 a hm a (by simp) rfl]
theorem once_once (l : List Pol) : once (once l) = once l := once_of_nodup (nodup_once l)
theorem merge_self (l : List Pol) : once (l ++ l) = once (l ++ []) := by rw [once_more fun x hx => hx, List.append_nil]
theorem merge_right (a b : List Pol) : once (once (a ++ b) ++ b) = once (a ++ b) := by
  rw [once_more fun x hx => (mem_once _ x).2 (by simp [hx]), once_once]
theorem merge_left (a b : List Pol) : once (once (a ++ b) ++ a) = once (a ++ b) := by
  rw [once_more fun x hx => (mem_once _ x).2 (by simp [hx]), once_once]

def hits (k : Int) (name : List UInt8) (p : Pol) : Bool := decide (p.about = k) && G.mt (bs p.pattern) name
/-- the first policy about a kind that matches a name -/
def find (l : List Pol) (k : Int) (name : List UInt8) : Option Pol := l.find? (hits k name)
def NoH (l : List Pol) (k : Int) (name : List UInt8) (n : Nat) : Prop := ∀ (j : Nat) x, l[j]? = some x → j < n → hits k name x = false
theorem NoH.zero (l : List Pol) (k : Int) (name : List UInt8) : NoH l k name 0 := fun j _ _ h => by omega
theorem NoH.succ {l : List Pol} {k : Int} {name : List UInt8} {n : Nat} {x : Pol} (h : NoH l k name n) (hx : l[n]? = some x) (hm : hits k name x = false) : NoH l k name (n + 1) := fun j y hy hj => by
  rcases Nat.lt_or_ge j n with h1 | h1
  · exact h j y hy h1
  · obtain rfl : j = n := by omega
    rw [hx] at hy; cases hy; exact hm
theorem find_some {l : List Pol} {k : Int} {name : List UInt8} {n : Nat} {x : Pol} (h : NoH l k name n) (hx : l[n]? = some x) (hm : hits k name x = true) : find l k name = some x := by
  unfold find
  obtain ⟨hn, rfl⟩ := List.getElem?_eq_some_iff.1 hx
  rw [List.find?_eq_some_iff_getElem]
  exact ⟨hm, n, hn, rfl, fun j hj => by rw [h j _ (List.getElem?_eq_getElem (by omega)) hj]; rfl⟩
theorem find_none {l : List Pol} {k : Int} {name : List UInt8} (h : NoH l k name l.length) : find l k name = none := by
  unfold find
  rw [List.find?_eq_none]
  intro x hx
  obtain ⟨j, hj, rfl⟩ := List.mem_iff_getElem.1 hx
  rw [h j _ (List.getElem?_eq_getElem hj) hj]; simp
theorem find_isSome (l : List Pol) (k : Int) (name : List UInt8) : (find l k name).isSome = l.any (hits k name) := by
  unfold find
  rw [Bool.eq_iff_iff, List.find?_isSome, List.any_eq_true]
/-- whether there is a policy about a user or its server (kinds 4: member, 10: access) -/
def met (km ka : Int) (l : List Pol) (u : List UInt8) : Bool := (find l km u).isSome || (!(I.serverOf u).isEmpty && (find l ka (I.serverOf u)).isSome)
theorem any_once (l : List Pol) (f : Pol → Bool) : (once l).any f = l.any f := by
  rw [Bool.eq_iff_iff, List.any_eq_true, List.any_eq_true]
  exact ⟨fun ⟨x, h1, h2⟩ => ⟨x, (mem_once l x).1 h1, h2⟩, fun ⟨x, h1, h2⟩ => ⟨x, (mem_once l x).2 h1, h2⟩⟩
theorem met_merge (km ka : Int) (a b : List Pol) (u : List UInt8) : met km ka (once (a ++ b)) u = (met km ka a u || met km ka b u) := by
  unfold met
  simp only [find_isSome, any_once, List.any_append]
  cases a.any (hits km u) <;> cases b.any (hits km u) <;> cases (I.serverOf u).isEmpty <;> cases a.any (hits ka (I.serverOf u)) <;> simp
def users (km ka : Int) (l : List Pol) (us : List (List UInt8)) : List (List UInt8) := Nm.names (us.filter (met km ka l))
theorem users_merge (km ka : Int) (a b : List Pol) (us : List (List UInt8)) : users km ka (once (a ++ b)) us = Nm.names (users km ka a us ++ users km ka b us) := by
  unfold users
  refine Nm.names_congr fun x => ?_
  simp only [List.mem_filter, List.mem_append, Nm.mem_names, met_merge, Bool.or_eq_true]
  constructor
  · rintro ⟨h, h1 | h1⟩
    · exact .inl ⟨h, h1⟩
    · exact .inr ⟨h, h1⟩
  · rintro (⟨h, h1⟩ | ⟨h, h1⟩)
    · exact ⟨h, .inl h1⟩
    · exact ⟨h, .inr h1⟩
theorem mem_users {km ka : Int} {l : List Pol} {us : List (List UInt8)} {u : List UInt8} : u ∈ users km ka l us ↔ u ∈ us ∧ met km ka l u = true := by
  unfold users
  rw [Nm.mem_names, List.mem_filter]
def deny (ka : Int) (l : List Pol) : List (List UInt8) := Nm.names ((l.filter fun p => decide (p.about = ka)).map fun p => bs p.pattern)
theorem any_deny (ka : Int) (l : List Pol) (s : List UInt8) : (deny ka l).any (fun p => G.mt p s) = (find l ka s).isSome := by
  rw [find_isSome, Bool.eq_iff_iff, List.any_eq_true, List.any_eq_true]
  constructor
  · rintro ⟨p, h1, h2⟩
    unfold deny at h1
    rw [Nm.mem_names, List.mem_map] at h1
    obtain ⟨x, hx, rfl⟩ := h1
    rw [List.mem_filter, decide_eq_true_eq] at hx
    exact ⟨x, hx.1, by unfold hits; rw [decide_eq_true hx.2, h2]; rfl⟩
  · rintro ⟨x, h1, h2⟩
    unfold hits at h2
    rw [Bool.and_eq_true, decide_eq_true_eq] at h2
    refine ⟨bs x.pattern, ?_, h2.2⟩
    unfold deny
    rw [Nm.mem_names, List.mem_map]
    exact ⟨x, by rw [List.mem_filter, decide_eq_true_eq]; exact ⟨h1, h2.1⟩, rfl⟩
end Pl
end Go.Proofs.Ythcbplameonjlaa
