/-
  The plain mathematics of the order of policies: the insertion sort puts each behind its equals. No program in sight.
-/
import Derived.Test.YthcbplameonjlaaPolP
import Derived.Sort.Defs
namespace Go.Proofs.Ythcbplameonjlaa
open Go.RowKit

instance : Inhabited Pol := ⟨⟨0, ⟨#[]⟩, ⟨#[]⟩⟩⟩
namespace Pl
/-- whether the reason of x is less than that of y -/
def lr (x y : Pol) : Bool := decide (bs x.reason < bs y.reason)
/-- a policy laid behind those whose reason is not greater -/
def put (l : List Pol) (x : Pol) : List Pol := l.takeWhile (fun y => !lr x y) ++ x :: l.dropWhile (fun y => !lr x y)
def sort (l : List Pol) : List Pol := l.foldl put []
theorem sort_snoc (l : List Pol) (x : Pol) : sort (l ++ [x]) = put (sort l) x := by unfold sort; rw [List.foldl_append]; rfl
theorem put_length (l : List Pol) (x : Pol) : (put l x).length = l.length + 1 := by
  unfold put
  have h := congrArg List.length (List.takeWhile_append_dropWhile (p := fun y => !lr x y) (l := l))
  rw [List.length_append] at h
  rw [List.length_append, List.length_cons]; omega
theorem sort_length (l : List Pol) : (sort l).length = l.length := by
  induction l using Nm.snoc_ind with
  | h0 => rfl
  | h1 l a ih => rw [sort_snoc, put_length, ih]; simp
theorem mem_put {l : List Pol} {x y : Pol} : y ∈ put l x ↔ y = x ∨ y ∈ l := by
  unfold put
  have h := List.takeWhile_append_dropWhile (p := fun y => !lr x y) (l := l)
  conv => rhs; rw [← h]
  simp only [List.mem_append, List.mem_cons]
  constructor
  · rintro (h | h | h)
    · exact .inr (.inl h)
    · exact .inl h
    · exact .inr (.inr h)
  · rintro (h | h | h)
    · exact .inr (.inl h)
    · exact .inl h
    · exact .inr (.inr h)
theorem mem_sort {l : List Pol} {y : Pol} : y ∈ sort l ↔ y ∈ l := by
  induction l using Nm.snoc_ind with
  | h0 => simp [sort]
  | h1 l a ih => rw [sort_snoc, mem_put, ih]; simp [or_comm]
/-- no one is less than one before it -/
def Ord (l : List Pol) : Prop := l.Pairwise fun x y => lr y x = false
theorem lr_trans {x y z : Pol} (h1 : lr x y = true) (h2 : lr z y = false) : lr x z = true := by
  unfold lr at *
  rw [decide_eq_true_eq] at *
  rw [decide_eq_false_iff_not] at h2
  rcases Nm.lt_or (bs x.reason) (bs z.reason) with h | h | h
  · exact h
  · rw [← h] at h2; exact absurd h1 h2
  · exact absurd (Nm.lt_trans h h1) h2
theorem put_at {l : List Pol} {x : Pol} {k : Nat} (h1 : ∀ j y, l[j]? = some y → j < k → lr x y = false) (hk : k ≤ l.length) (h2 : ∀ y, l[k]? = some y → lr x y = true) : put l x = l.take k ++ x :: l.drop k := by
  induction l generalizing k with
  | nil => obtain rfl : k = 0 := by simpa using hk
           rfl
  | cons y l ih =>
    cases k with
    | zero =>
      have := h2 y rfl
      unfold put
      simp [this]
    | succ k =>
      have h3 := h1 0 y rfl (by omega)
      have h4 := ih (k := k) (fun j z hz hj => h1 (j + 1) z (by simpa using hz) (by omega)) (by simpa using hk) (fun z hz => h2 z (by simpa using hz))
      unfold put at *
      simp only [List.takeWhile_cons, List.dropWhile_cons, h3, Bool.not_false, if_true, List.cons_append, h4, List.take_succ_cons, List.drop_succ_cons]
theorem put_last {l : List Pol} {x y : Pol} (h : lr x y = true) : put (l ++ [y]) x = put l x ++ [y] := by
  induction l with
  | nil => simp [put, h]
  | cons z l ih =>
    unfold put at *
    cases hz : lr x z
    · simp only [List.cons_append, List.takeWhile_cons, List.dropWhile_cons, hz, Bool.not_false, if_true, List.cons.injEq, true_and]
      exact ih
    · simp [hz]
theorem put_end {l : List Pol} {x : Pol} (h : ∀ y ∈ l, lr x y = false) : put l x = l ++ [x] := by
  have := put_at (l := l) (x := x) (k := l.length) (fun j y hy _ => h y (List.mem_of_getElem? hy)) (Nat.le_refl _) (fun y hy => by simp at hy)
  simpa using this
theorem ord_snoc {l : List Pol} {y : Pol} (h : Ord (l ++ [y])) : Ord l ∧ ∀ z ∈ l, lr y z = false := by
  unfold Ord at *
  rw [List.pairwise_append] at h
  exact ⟨h.1, fun z hz => h.2.2 z hz y (by simp)⟩
theorem ord_put {l : List Pol} (h : Ord l) (x : Pol) : Ord (put l x) := by
  induction l using Nm.snoc_ind with
  | h0 => simp [put, Ord]
  | h1 l a ih =>
    obtain ⟨h1, h2⟩ := ord_snoc h
    cases ha : lr x a
    · rw [put_end]
      · unfold Ord
        rw [List.pairwise_append]
        refine ⟨h, by simp, fun z hz y hy => ?_⟩
        simp only [List.mem_singleton] at hy
        subst hy
        rcases List.mem_append.1 hz with hz | hz
        · cases hc : lr y z
          · rfl
          · rw [lr_trans (z := a) hc (by
              cases hd : lr a z
              · rfl
              · rw [h2 z hz] at hd; cases hd)] at ha; cases ha
        · simp only [List.mem_singleton] at hz; subst hz; exact ha
      · intro z hz
        rcases List.mem_append.1 hz with hz | hz
        · cases hc : lr x z
          · rfl
          · rw [lr_trans (z := a) hc (h2 z hz)] at ha; cases ha
        · simp only [List.mem_singleton] at hz; subst hz; exact ha
    · rw [put_last ha]
      unfold Ord
      rw [List.pairwise_append]
      refine ⟨ih h1, by simp, fun z hz y hy => ?_⟩
      simp only [List.mem_singleton] at hy
      subst hy
      rcases mem_put.1 hz with rfl | hz
      · unfold lr at *
        rw [decide_eq_true_eq] at ha
        rw [decide_eq_false_iff_not]
        exact fun h => Nm.lt_irrefl _ (Nm.lt_trans ha h)
      · exact h2 z hz
theorem ord_sort (l : List Pol) : Ord (sort l) := by
  induction l using Nm.snoc_ind with
  | h0 => simp [sort, Ord]
  | h1 l a ih => rw [sort_snoc]; exact ord_put ih a

/-! ### the insertion sort, as the library writes it -/
theorem swap_list {α : Type} [Inhabited α] {A R : List α} {x y : α} {d : Array α} (h : d.toList = A ++ y :: x :: R) : (Sort.swp d (A.length + 1) A.length).toList = A ++ x :: y :: R := by
  obtain rfl : d = (A ++ y :: x :: R).toArray := by rw [← h]
  unfold Sort.swp
  simp [List.set_cons_succ]
theorem inner_is (j : Nat) : ∀ (A R : List Pol) (x : Pol) (d : Array Pol), A.length = j → d.toList = A ++ x :: R → Ord A → (Sort.insInner lr 0 j d).toList = put A x ++ R := by
  induction j with
  | zero =>
    intro A R x d hA hd _
    obtain rfl : A = [] := List.eq_nil_of_length_eq_zero hA
    simpa [Sort.insInner, put] using hd
  | succ j ih =>
    intro A R x d hA hd hO
    obtain ⟨A', y, rfl⟩ : ∃ A' y, A = A' ++ [y] := ⟨A.dropLast, A.getLast (by intro e; subst e; simp at hA), (List.dropLast_concat_getLast _).symm⟩
    have hl : A'.length = j := by simpa using hA
    obtain ⟨h1, h2⟩ := ord_snoc hO
    have hd2 : d.toList = A' ++ y :: x :: R := by rw [hd]; simp
    have g1 : d[j + 1]! = x := by
      have : d = (A' ++ y :: x :: R).toArray := by rw [← hd2]
      subst this hl; simp
    have g2 : d[j]! = y := by
      have : d = (A' ++ y :: x :: R).toArray := by rw [← hd2]
      subst this hl; simp
    unfold Sort.insInner
    rw [g1, g2]
    cases hc : lr x y
    · rw [if_neg (by simp)]
      rw [put_end, hd]
      · simp
      · intro z hz
        rcases List.mem_append.1 hz with hz | hz
        · cases hq : lr x z
          · rfl
          · rw [lr_trans (z := y) hq (h2 z hz)] at hc; cases hc
        · simp only [List.mem_singleton] at hz; subst hz; exact hc
    · rw [if_pos (by simp), put_last hc]
      have hs := swap_list (A := A') (R := R) (x := x) (y := y) (d := d) hd2
      rw [hl] at hs
      rw [ih A' (y :: R) x _ hl hs h1]
      simp
theorem outer_is (b : Nat) : ∀ (m i : Nat) (S T : List Pol) (d : Array Pol), b - i = m → S.length = i → d.toList = sort S ++ T → b = d.size → i ≤ b → (Sort.insOuter lr 0 b i d).toList = sort (S ++ T) := by
  intro m
  induction m with
  | zero =>
    intro i S T d hm hS hd hb hi
    unfold Sort.insOuter
    rw [if_neg (by omega), hd]
    have hsz := congrArg List.length hd
    simp only [Array.length_toList, List.length_append, sort_length] at hsz
    obtain rfl : T = [] := List.eq_nil_of_length_eq_zero (by omega)
    simp
  | succ m ih =>
    intro i S T d hm hS hd hb hi
    have hsz := congrArg List.length hd
    simp only [Array.length_toList, List.length_append, sort_length] at hsz
    unfold Sort.insOuter
    rw [if_pos (by omega)]
    cases T with
    | nil => simp at hsz; omega
    | cons x T =>
      have h1 := inner_is i (sort S) T x d (by rw [sort_length, hS]) hd (ord_sort S)
      have h2 := ih (i + 1) (S ++ [x]) T (Sort.insInner lr 0 i d) (by omega) (by simp [hS]) (by rw [h1, sort_snoc]) (by
        have := congrArg List.length h1
        simp only [Array.length_toList, List.length_append, put_length, sort_length] at this
        simp only [List.length_cons] at hsz
        omega) (by omega)
      rw [h2]; simp
theorem insertion_is (l : List Pol) : (Sort.insertionSort lr l.toArray 0 l.length).toList = sort l := by
  unfold Sort.insertionSort
  cases l with
  | nil => unfold Sort.insOuter; simp [sort]
  | cons x l =>
    have := outer_is (x :: l).length ((x :: l).length - 1) 1 [x] l (x :: l).toArray rfl rfl (by simp [sort, put]) (by simp) (by simp)
    rw [this]; simp
/-- a sort of nothing turns nothing -/
theorem insertion_none (lt : Pol → Pol → Bool) (d : Array Pol) (a : Nat) : Sort.insertionSort lt d a a = d := by
  unfold Sort.insertionSort Sort.insOuter
  rw [if_neg (by omega)]
end Pl
end Go.Proofs.Ythcbplameonjlaa
