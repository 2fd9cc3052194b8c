/-
  The plain mathematics of sorted lists of names: strictly increasing lists, the different elements of a list. No program in sight.
-/
import Derived.WalkKit
import Derived.Sort.OwnSorted
import Derived.Sort.EncStr
namespace Go.Proofs.Ytbhkgdfmjkblcaa.Nm

abbrev Str := List UInt8
theorem lt_irrefl (a : Str) : ¬ a < a := List.lt_irrefl a
theorem lt_trans {a b c : Str} (h : a < b) (k : b < c) : a < c := List.lt_trans h k
theorem lt_or (a b : Str) : a < b ∨ a = b ∨ b < a := by
  rcases Classical.em (a < b) with h | h
  · exact .inl h
  · rcases Classical.em (b < a) with k | k
    · exact .inr (.inr k)
    · exact .inr (.inl (List.le_antisymm (List.not_lt.1 k) (List.not_lt.1 h)))
theorem le_of (a b : Str) : (a ≤ b) ↔ (a < b ∨ a = b) := by
  constructor
  · intro h
    rcases lt_or a b with k | k | k
    · exact .inl k
    · exact .inr k
    · exact absurd k (List.not_lt.2 h)
  · rintro (h | rfl)
    · exact List.not_lt.1 fun k => lt_irrefl a (lt_trans h k)
    · exact List.not_lt.1 (lt_irrefl a)

/-- strictly increasing -/
def Inc (l : List Str) : Prop := l.Pairwise (· < ·)
theorem Inc.ext : ∀ {l m : List Str}, Inc l → Inc m → (∀ x, x ∈ l ↔ x ∈ m) → l = m
  | [], [], _, _, _ => rfl
  | [], y :: m, _, _, h => absurd ((h y).2 (by simp)) (by simp)
  | x :: l, [], _, _, h => absurd ((h x).1 (by simp)) (by simp)
  | x :: l, y :: m, hl, hm, h => by
    obtain ⟨h1, h2⟩ := List.pairwise_cons.1 hl
    obtain ⟨h3, h4⟩ := List.pairwise_cons.1 hm
    have e : x = y := by
      rcases List.mem_cons.1 ((h x).1 (by simp)) with e | e
      · exact e
      · rcases List.mem_cons.1 ((h y).2 (by simp)) with e' | e'
        · exact e'.symm
        · exact absurd (lt_trans (h1 y e') (h3 x e)) (lt_irrefl x)
    subst e
    congr 1
    refine Inc.ext h2 h4 fun z => ⟨fun hz => ?_, fun hz => ?_⟩
    · rcases List.mem_cons.1 ((h z).1 (by simp [hz])) with e | e
      · subst e; exact absurd (h1 z hz) (lt_irrefl z)
      · exact e
    · rcases List.mem_cons.1 ((h z).2 (by simp [hz])) with e | e
      · subst e; exact absurd (h3 z hz) (lt_irrefl z)
      · exact e

theorem snoc_ind {α : Type} {P : List α → Prop} (h0 : P []) (h1 : ∀ l a, P l → P (l ++ [a])) (l : List α) : P l := by
  rw [← List.reverse_reverse l]
  induction l.reverse with
  | nil => exact h0
  | cons a r ih => rw [List.reverse_cons]; exact h1 _ _ ih
/-- the elements of a list, each once, as they come -/
def firsts (l : List Str) : List Str := l.foldl (fun acc x => if x ∈ acc then acc else acc ++ [x]) []
theorem firsts_snoc (l : List Str) (x : Str) : firsts (l ++ [x]) = if x ∈ firsts l then firsts l else firsts l ++ [x] := by
  unfold firsts; rw [List.foldl_append]; rfl
theorem mem_firsts (l : List Str) : ∀ x, x ∈ firsts l ↔ x ∈ l := by
  induction l using snoc_ind with
  | h0 => simp [firsts]
  | h1 l a ih =>
    intro x
    rw [firsts_snoc]
    by_cases h : a ∈ firsts l
    · rw [if_pos h, ih]
      simp only [List.mem_append, List.mem_singleton]
      constructor
      · exact .inl
      · rintro (h1 | rfl)
        · exact h1
        · exact (ih _).1 h
    · rw [if_neg h]; simp [ih]
theorem nodup_firsts (l : List Str) : (firsts l).Nodup := by
  induction l using snoc_ind with
  | h0 => simp [firsts]
  | h1 l a ih =>
    rw [firsts_snoc]
    split
    · exact ih
    · rename_i h
      rw [List.nodup_append]
      exact ⟨ih, by simp, fun x hx y hy e => by simp at hy; subst hy; subst e; exact h hx⟩
theorem firsts_length (l : List Str) : (firsts l).length ≤ l.length := by
  induction l using snoc_ind with
  | h0 => simp [firsts]
  | h1 l a ih =>
    rw [firsts_snoc]; split <;> simp <;> omega

def sorted (l : List Str) : List Str := l.mergeSort fun x y => decide (x ≤ y)
theorem sorted_perm (l : List Str) : (sorted l).Perm l := List.mergeSort_perm _ _
theorem sorted_le (l : List Str) : (sorted l).Pairwise (· ≤ ·) := by
  have := List.pairwise_mergeSort (le := fun x y : Str => decide (x ≤ y)) (fun a b c h1 h2 => by
      simp only [decide_eq_true_eq] at *
      rw [le_of] at *
      rcases h1 with h1 | rfl
      · rcases h2 with h2 | rfl
        · exact .inl (lt_trans h1 h2)
        · exact .inl h1
      · exact h2) (fun a b => by
      simp only [Bool.or_eq_true, decide_eq_true_eq, le_of]
      rcases lt_or a b with h | h | h
      · exact .inl (.inl h)
      · exact .inl (.inr h)
      · exact .inr (.inl h)) l
  exact this.imp fun h => by simpa using h
theorem inc_of_le {l : List Str} (h : l.Pairwise (· ≤ ·)) (hn : l.Nodup) : Inc l := by
  have := List.Pairwise.and h hn
  exact this.imp fun ⟨h1, h2⟩ => by
    rw [le_of] at h1
    exact h1.resolve_right h2
theorem sorted_inc {l : List Str} (hn : l.Nodup) : Inc (sorted l) := inc_of_le (sorted_le l) ((sorted_perm l).nodup_iff.2 hn)

/-- the different elements, in increasing order -/
def names (l : List Str) : List Str := sorted (firsts l)
theorem names_inc (l : List Str) : Inc (names l) := sorted_inc (nodup_firsts l)
theorem mem_names (l : List Str) (x : Str) : x ∈ names l ↔ x ∈ l := by
  unfold names; rw [(sorted_perm _).mem_iff, mem_firsts]
theorem names_length (l : List Str) : (names l).length ≤ l.length := by
  unfold names; rw [(sorted_perm _).length_eq]; exact firsts_length l
theorem names_is {l m : List Str} (hm : Inc m) (h : ∀ x, x ∈ m ↔ x ∈ l) : m = names l := Inc.ext hm (names_inc l) fun x => by rw [h, mem_names]
theorem names_congr {l m : List Str} (h : ∀ x, x ∈ m ↔ x ∈ l) : names m = names l := names_is (names_inc m) fun x => by rw [mem_names, h]
theorem names_of_inc {l : List Str} (h : Inc l) : names l = l := (names_is h fun _ => Iff.rfl).symm
theorem Inc.nodup {l : List Str} (h : Inc l) : l.Nodup := h.imp fun h e => by subst e; exact lt_irrefl _ h

/-- an element in its place in an increasing list -/
def ins (x : Str) : List Str → List Str
  | [] => [x]
  | y :: l => if y < x then y :: ins x l else if y = x then y :: l else x :: y :: l
theorem mem_ins (x z : Str) : ∀ l, z ∈ ins x l ↔ z = x ∨ z ∈ l
  | [] => by simp [ins]
  | y :: l => by
    simp only [ins]
    split
    · simp only [List.mem_cons, mem_ins x z l]
      constructor
      · rintro (h | h | h) <;> simp [h]
      · rintro (h | h | h) <;> simp [h]
    · split
      · rename_i h; subst h; simp
      · simp
theorem ins_inc (x : Str) : ∀ {l : List Str}, Inc l → Inc (ins x l)
  | [], _ => by simp [ins, Inc]
  | y :: l, h => by
    obtain ⟨h1, h2⟩ := List.pairwise_cons.1 h
    simp only [ins]
    split
    · rename_i hyx
      refine List.pairwise_cons.2 ⟨fun z hz => ?_, ins_inc x h2⟩
      rcases (mem_ins x z l).1 hz with rfl | hz
      · exact hyx
      · exact h1 z hz
    · split
      · exact h
      · rename_i h3 h4
        have hxy : x < y := by
          rcases lt_or x y with k | k | k
          · exact k
          · exact absurd k.symm h4
          · exact absurd k h3
        refine List.pairwise_cons.2 ⟨fun z hz => ?_, h⟩
        rcases List.mem_cons.1 hz with rfl | hz
        · exact hxy
        · exact lt_trans hxy (h1 z hz)
theorem names_snoc (l : List Str) (x : Str) : names (l ++ [x]) = ins x (names l) := by
  refine (names_is (ins_inc x (names_inc l)) fun z => ?_).symm
  rw [mem_ins, mem_names]; simp; exact Or.comm
end Go.Proofs.Ytbhkgdfmjkblcaa.Nm
