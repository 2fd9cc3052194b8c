/-
  The plain laws behind chapter 43: users' device lists, and what the calls make of them. No program in sight.
-/
import Derived.Test.YtbhkgdfmjkblcaaRead
import Derived.Test.YtbhkgdfmjkblcaaIdsP
import Derived.Test.YtbhkgdfmjkblcaaNamesP
namespace Go.Proofs.Ytbhkgdfmjkblcaa
open Go.RowKit

structure Dvc where
  id : ByteArray
  key : Int
  signed : Bool
deriving DecidableEq
structure Kys where
  user : ByteArray
  master : Int
  pos : Int
  devices : Sl Dvc
def Rd.dvc : Rd Dvc := (Rd.pair Rd.str (Rd.pair Rd.i64 (Rd.pair Rd.bool Rd.unit))).as fun x => (x.id, x.key, x.signed, ())
def Rd.kys : Rd Kys := (Rd.pair Rd.str (Rd.pair Rd.i64 (Rd.pair Rd.i64 (Rd.pair (Rd.slice Rd.dvc) Rd.unit)))).as fun x => (x.user, x.master, x.pos, x.devices, ())
/-- an entry by its value -/
structure Kv where
  user : ByteArray
  master : Int
  pos : Int
  devs : List Dvc
deriving DecidableEq
def kv (x : Kys) : Kv := ⟨x.user, x.master, x.pos, x.devices.l⟩

namespace Dv
abbrev Str := List UInt8
section
variable {α β : Type} (key : α → Str)
/-- strictly increasing -/
def Inc (l : List α) : Prop := l.Pairwise fun x y => key x < key y
/-- a list without its first element, should that have the key s -/
def skip (s : Str) : List α → List α
  | [] => []
  | y :: t => if key y = s then t else y :: t
/-- an element laid in its place, instead of one with its key -/
def put (l : List α) (x : α) : List α := l.takeWhile (fun y => decide (key y < key x)) ++ x :: skip key (key x) (l.dropWhile fun y => decide (key y < key x))
def find (l : List α) (s : Str) : Option α := l.find? fun y => decide (key y = s)
variable {key}

theorem skip_cons (s : Str) (y : α) (t : List α) : skip key s (y :: t) = if key y = s then t else y :: t := rfl
theorem tw_mem (p : α → Bool) : ∀ {l : List α} {y : α}, y ∈ l.takeWhile p → p y = true
  | [], y, h => by simp at h
  | z :: l, y, h => by
    rw [List.takeWhile_cons] at h
    split at h
    · rename_i hz
      rcases List.mem_cons.1 h with rfl | h
      · exact hz
      · exact tw_mem p h
    · simp at h
theorem inc_keys {l : List α} : Inc key l ↔ Nm.Inc (l.map key) := by unfold Inc Nm.Inc; rw [List.pairwise_map]
theorem put_map {key' : β → Str} {f : α → β} (h : ∀ x, key' (f x) = key x) (l : List α) (x : α) : (put key l x).map f = put key' (l.map f) (f x) := by
  have hsk : ∀ (s : Str) (l : List α), (skip key s l).map f = skip key' s (l.map f) := fun s l => by
    cases l with
    | nil => rfl
    | cons y t => simp only [skip, List.map_cons, h]; split <;> rfl
  have hp : (fun y => decide (key y < key x)) = (fun y => decide (key' y < key x)) ∘ f := by funext y; simp [h]
  unfold put
  rw [List.map_append, List.map_cons, hsk, h, List.takeWhile_map, List.dropWhile_map, ← hp]
theorem find_map {key' : β → Str} {f : α → β} (h : ∀ x, key' (f x) = key x) (l : List α) (s : Str) : (find key l s).map f = find key' (l.map f) s := by
  unfold find
  rw [List.find?_map]
  congr 2; funext y; simp [h]

/-- where the search stops -/
theorem put_stop {l : List α} {x : α} {k : Nat} (h1 : ∀ j y, l[j]? = some y → j < k → key y < key x) (hk : k ≤ l.length) (h2 : ∀ y, l[k]? = some y → ¬ key y < key x) : put key l x = l.take k ++ x :: skip key (key x) (l.drop k) := by
  induction l generalizing k with
  | nil => obtain rfl : k = 0 := by simpa using hk
           rfl
  | cons y l ih =>
    cases k with
    | zero =>
      have := h2 y rfl
      unfold put
      simp [this]
    | succ k =>
      have h3 := h1 0 y rfl (by omega)
      have h4 := ih (k := k) (fun j z hz hj => h1 (j + 1) z (by simpa using hz) (by omega)) (by simpa using hk) (fun z hz => h2 z (by simpa using hz))
      unfold put at *
      simp only [List.takeWhile_cons, List.dropWhile_cons, h3, decide_true, if_true, List.cons_append, h4, List.take_succ_cons, List.drop_succ_cons]
theorem put_same {l : List α} {x y : α} {k : Nat} (h1 : ∀ j y, l[j]? = some y → j < k → key y < key x) (hy : l[k]? = some y) (he : key y = key x) : put key l x = l.take k ++ x :: l.drop (k + 1) := by
  obtain ⟨hk, rfl⟩ := List.getElem?_eq_some_iff.1 hy
  rw [put_stop h1 (by omega) (fun z hz => by rw [hy] at hz; cases hz; rw [he]; exact Nm.lt_irrefl _), List.drop_eq_getElem_cons hk]
  simp [skip, he]
theorem put_new {l : List α} {x : α} {k : Nat} (h1 : ∀ j y, l[j]? = some y → j < k → key y < key x) (hk : k ≤ l.length) (h2 : ∀ y, l[k]? = some y → key x < key y) : put key l x = l.take k ++ x :: l.drop k := by
  rw [put_stop h1 hk (fun z hz => fun h => Nm.lt_irrefl _ (Nm.lt_trans (h2 z hz) h))]
  congr 2
  cases hd : l.drop k with
  | nil => rfl
  | cons z t =>
    have hz : l[k]? = some z := by
      have := congrArg (·[0]?) hd
      simpa using this
    have := h2 z hz
    rw [skip_cons, if_neg (fun e => by rw [e] at this; exact Nm.lt_irrefl _ this)]
theorem put_end {l : List α} {x : α} (h : ∀ y ∈ l, key y < key x) : put key l x = l ++ [x] := by
  have := put_new (key := key) (l := l) (x := x) (k := l.length) (fun j y hy _ => h y (List.mem_of_getElem? hy)) (Nat.le_refl _) (fun y hy => by simp at hy)
  simpa using this

/-- for increasing lists -/
theorem Inc.at {l : List α} (h : Inc key l) {i j : Nat} {x y : α} (hx : l[i]? = some x) (hy : l[j]? = some y) (hij : i < j) : key x < key y := by
  obtain ⟨hi, rfl⟩ := List.getElem?_eq_some_iff.1 hx
  obtain ⟨hj, rfl⟩ := List.getElem?_eq_some_iff.1 hy
  exact (List.pairwise_iff_getElem.1 h) i j hi hj hij
/-- the place of a key -/
theorem place (l : List α) (s : Str) : ∃ k, k ≤ l.length ∧ (∀ j y, l[j]? = some y → j < k → key y < s) ∧ ∀ y, l[k]? = some y → ¬ key y < s := by
  induction l with
  | nil => exact ⟨0, Nat.le_refl _, fun j y h => by simp at h, fun y h => by simp at h⟩
  | cons y l ih =>
    by_cases hy : key y < s
    · obtain ⟨k, hk, h1, h2⟩ := ih
      refine ⟨k + 1, by simpa using hk, fun j z hz hj => ?_, fun z hz => h2 z (by simpa using hz)⟩
      cases j with
      | zero => simp at hz; subst hz; exact hy
      | succ j => exact h1 j z (by simpa using hz) (by omega)
    · exact ⟨0, Nat.zero_le _, fun j z _ h => by omega, fun z hz => by simp at hz; subst hz; exact hy⟩
theorem mem_put {l : List α} (h : Inc key l) {x y : α} : y ∈ put key l x ↔ y = x ∨ (y ∈ l ∧ key y ≠ key x) := by
  obtain ⟨k, hk, h1, h2⟩ := place (key := key) l (key x)
  have hl : ∀ z, z ∈ l ↔ z ∈ l.take k ∨ z ∈ l.drop k := fun z => by rw [← List.mem_append, List.take_append_drop]
  have ht : ∀ z ∈ l.take k, key z < key x := fun z hz => by
    obtain ⟨j, hj, rfl⟩ := List.mem_iff_getElem.1 hz
    simp only [List.length_take] at hj
    rw [List.getElem_take]
    exact h1 j _ (List.getElem?_eq_getElem (by omega)) (by omega)
  have hd : ∀ (i : Nat) z, k < i → l[i]? = some z → key x < key z := fun i z hi hz => by
    have hk2 : k < l.length := by have := (List.getElem?_eq_some_iff.1 hz).1; omega
    have hka := List.getElem?_eq_getElem hk2
    have h3 := h.at hka hz hi
    rcases Nm.lt_or (key l[k]) (key x) with h4 | h4 | h4
    · exact absurd h4 (h2 _ hka)
    · rw [← h4]; exact h3
    · exact Nm.lt_trans h4 h3
  have hdr : ∀ z, z ∈ l.drop (k + 1) → key x < key z := fun z hz => by
    obtain ⟨j, hj, rfl⟩ := List.mem_iff_getElem.1 hz
    simp only [List.length_drop] at hj
    exact hd (k + 1 + j) _ (by omega) (by rw [List.getElem_drop]; exact List.getElem?_eq_getElem (by omega))
  have hne : ∀ {z : α}, key z < key x → key z ≠ key x := fun hz e => by rw [e] at hz; exact Nm.lt_irrefl _ hz
  have hne' : ∀ {z : α}, key x < key z → key z ≠ key x := fun hz e => by rw [e] at hz; exact Nm.lt_irrefl _ hz
  rcases Nat.lt_or_ge k l.length with hkl | hkl
  · have hka := List.getElem?_eq_getElem hkl
    rcases Nm.lt_or (key l[k]) (key x) with h4 | h4 | h4
    · exact absurd h4 (h2 _ hka)
    · rw [put_same h1 hka h4, hl, List.drop_eq_getElem_cons hkl]
      simp only [List.mem_append, List.mem_cons]
      constructor
      · rintro (hy | hy | hy)
        · exact .inr ⟨.inl hy, hne (ht y hy)⟩
        · exact .inl hy
        · exact .inr ⟨.inr (.inr hy), hne' (hdr y hy)⟩
      · rintro (hy | ⟨hy | hy | hy, hn⟩)
        · exact .inr (.inl hy)
        · exact .inl hy
        · rw [hy] at hn; exact absurd h4 hn
        · exact .inr (.inr hy)
    · rw [put_new h1 hk (fun y hy => by rw [hka] at hy; cases hy; exact h4), hl, List.drop_eq_getElem_cons hkl]
      simp only [List.mem_append, List.mem_cons]
      constructor
      · rintro (hy | hy | hy | hy)
        · exact .inr ⟨.inl hy, hne (ht y hy)⟩
        · exact .inl hy
        · exact .inr ⟨.inr (.inl hy), by rw [hy]; exact hne' h4⟩
        · exact .inr ⟨.inr (.inr hy), hne' (hdr y hy)⟩
      · rintro (hy | ⟨hy | hy | hy, _⟩)
        · exact .inr (.inl hy)
        · exact .inl hy
        · exact .inr (.inr (.inl hy))
        · exact .inr (.inr (.inr hy))
  · obtain rfl : k = l.length := by omega
    rw [put_new h1 hk (fun y hy => by rw [List.getElem?_eq_none (Nat.le_refl _)] at hy; cases hy), hl]
    simp only [List.take_length, List.drop_length, List.mem_append, List.mem_cons, List.not_mem_nil, or_false]
    constructor
    · rintro (hy | hy)
      · exact .inr ⟨hy, hne (ht y (by rw [List.take_length]; exact hy))⟩
      · exact .inl hy
    · rintro (hy | ⟨hy, _⟩)
      · exact .inr hy
      · exact .inl hy
theorem inc_put {l : List α} (h : Inc key l) (x : α) : Inc key (put key l x) := by
  have hT : ∀ y ∈ l.takeWhile (fun y => decide (key y < key x)), key y < key x := fun y hy => by
    have h0 := tw_mem _ hy
    exact of_decide_eq_true h0
  have hsub : (l.takeWhile (fun y => decide (key y < key x)) ++ l.dropWhile (fun y => decide (key y < key x))).Pairwise fun x y => key x < key y := by rw [List.takeWhile_append_dropWhile]; exact h
  rw [List.pairwise_append] at hsub
  obtain ⟨p1, p2, p3⟩ := hsub
  have hD : ∀ y ∈ skip key (key x) (l.dropWhile fun y => decide (key y < key x)), key x < key y ∧ y ∈ l.dropWhile fun y => decide (key y < key x) := by
    intro y hy
    cases hd : l.dropWhile (fun y => decide (key y < key x)) with
    | nil => rw [hd] at hy; simp [skip] at hy
    | cons z t =>
      have hz : ¬ key z < key x := by
        have := List.head?_dropWhile_not (fun y => decide (key y < key x)) l
        rw [hd] at this
        simpa using this
      rw [hd] at hy p2
      obtain ⟨p4, p5⟩ := List.pairwise_cons.1 p2
      rw [skip_cons] at hy
      split at hy
      · rename_i he
        exact ⟨by rw [← he]; exact p4 y hy, by simp [hy]⟩
      · rename_i he
        have hxz : key x < key z := by
          rcases Nm.lt_or (key z) (key x) with h1 | h1 | h1
          · exact absurd h1 hz
          · exact absurd h1 he
          · exact h1
        rcases List.mem_cons.1 hy with rfl | hy
        · exact ⟨hxz, by simp⟩
        · exact ⟨Nm.lt_trans hxz (p4 y hy), by simp [hy]⟩
  have hS : (skip key (key x) (l.dropWhile fun y => decide (key y < key x))).Pairwise fun x y => key x < key y := by
    cases hd : l.dropWhile (fun y => decide (key y < key x)) with
    | nil => simp [skip]
    | cons z t =>
      rw [hd] at p2
      rw [skip_cons]
      split
      · exact (List.pairwise_cons.1 p2).2
      · exact p2
  unfold put Inc
  rw [List.pairwise_append, List.pairwise_cons]
  refine ⟨p1, ⟨fun y hy => (hD y hy).1, hS⟩, fun a ha b hb => ?_⟩
  rcases List.mem_cons.1 hb with rfl | hb
  · exact hT a ha
  · exact p3 a ha b (hD b hb).2
theorem inc_inj {l : List α} (h : Inc key l) {x y : α} (hx : x ∈ l) (hy : y ∈ l) (he : key x = key y) : x = y := by
  obtain ⟨i, hi, rfl⟩ := List.mem_iff_getElem.1 hx
  obtain ⟨j, hj, rfl⟩ := List.mem_iff_getElem.1 hy
  rcases Nat.lt_trichotomy i j with h1 | h1 | h1
  · have := h.at (List.getElem?_eq_getElem hi) (List.getElem?_eq_getElem hj) h1
    rw [he] at this; exact absurd this (Nm.lt_irrefl _)
  · subst h1; rfl
  · have := h.at (List.getElem?_eq_getElem hj) (List.getElem?_eq_getElem hi) h1
    rw [he] at this; exact absurd this (Nm.lt_irrefl _)
/-- increasing lists with the same elements are one -/
theorem inc_ext {l m : List α} (hl : Inc key l) (hm : Inc key m) (h : ∀ x, x ∈ l ↔ x ∈ m) : l = m := by
  have e : l.map key = m.map key := Nm.Inc.ext (inc_keys.1 hl) (inc_keys.1 hm) fun s => by
    rw [List.mem_map, List.mem_map]
    exact ⟨fun ⟨x, h1, h2⟩ => ⟨x, (h x).1 h1, h2⟩, fun ⟨x, h1, h2⟩ => ⟨x, (h x).2 h1, h2⟩⟩
  have hlen : l.length = m.length := by have := congrArg List.length e; simpa using this
  refine List.ext_getElem hlen fun i h1 h2 => ?_
  refine inc_inj hm ((h _).1 (List.getElem_mem h1)) (List.getElem_mem h2) ?_
  have := congrArg (·[i]?) e
  simpa [h1, h2] using this
theorem find_some_iff {l : List α} (h : Inc key l) {s : Str} {x : α} : find key l s = some x ↔ x ∈ l ∧ key x = s := by
  unfold find
  constructor
  · intro hf
    exact ⟨List.mem_of_find?_eq_some hf, by have := List.find?_some hf; exact of_decide_eq_true this⟩
  · rintro ⟨hx, rfl⟩
    cases hf : l.find? fun y => decide (key y = key x) with
    | none => have := List.find?_eq_none.1 hf x hx; simp at this
    | some y =>
      have h2 := List.find?_some hf
      rw [inc_inj h (List.mem_of_find?_eq_some hf) hx (of_decide_eq_true h2)]
theorem find_none_iff {l : List α} {s : Str} : find key l s = none ↔ ∀ x ∈ l, key x ≠ s := by
  unfold find
  rw [List.find?_eq_none]
  exact ⟨fun h x hx e => h x hx (decide_eq_true e), fun h x hx e => h x hx (of_decide_eq_true e)⟩
theorem find_put {l : List α} (h : Inc key l) (x : α) (s : Str) : find key (put key l x) s = if s = key x then some x else find key l s := by
  split
  · rename_i he
    rw [find_some_iff (inc_put h x), mem_put h]
    exact ⟨.inl rfl, he.symm⟩
  · rename_i he
    cases hf : find key l s with
    | some y =>
      obtain ⟨h1, h2⟩ := (find_some_iff h).1 hf
      rw [find_some_iff (inc_put h x), mem_put h]
      exact ⟨.inr ⟨h1, by rw [h2]; exact he⟩, h2⟩
    | none =>
      rw [find_none_iff] at hf ⊢
      intro y hy
      rcases (mem_put h).1 hy with rfl | ⟨hy, _⟩
      · exact fun e => he e.symm
      · exact hf y hy
theorem put_length {l : List α} (h : Inc key l) (x : α) : (put key l x).length = if (find key l (key x)).isSome then l.length else l.length + 1 := by
  obtain ⟨k, hk, h1, h2⟩ := place (key := key) l (key x)
  rcases Nat.lt_or_ge k l.length with hkl | hkl
  · have hka := List.getElem?_eq_getElem hkl
    by_cases he : key l[k] = key x
    · rw [put_same h1 hka he, (find_some_iff h).2 ⟨List.getElem_mem hkl, he⟩]
      simp; omega
    · have hgt : key x < key l[k] := by
        rcases Nm.lt_or (key l[k]) (key x) with h4 | h4 | h4
        · exact absurd h4 (h2 _ hka)
        · exact absurd h4 he
        · exact h4
      have hn : find key l (key x) = none := by
        rw [find_none_iff]
        intro y hy e
        obtain ⟨j, hj, rfl⟩ := List.mem_iff_getElem.1 hy
        rcases Nat.lt_trichotomy j k with h5 | h5 | h5
        · have := h1 j _ (List.getElem?_eq_getElem hj) h5; rw [e] at this; exact Nm.lt_irrefl _ this
        · subst h5; exact he e
        · have := Nm.lt_trans hgt (h.at hka (List.getElem?_eq_getElem hj) h5); rw [e] at this; exact Nm.lt_irrefl _ this
      rw [put_new h1 hk (fun y hy => by rw [hka] at hy; cases hy; exact hgt), hn]
      simp; omega
  · obtain rfl : k = l.length := by omega
    have hn : find key l (key x) = none := by
      rw [find_none_iff]
      intro y hy e
      obtain ⟨j, hj, rfl⟩ := List.mem_iff_getElem.1 hy
      have := h1 j _ (List.getElem?_eq_getElem hj) hj; rw [e] at this; exact Nm.lt_irrefl _ this
    rw [put_new h1 hk (fun y hy => by rw [List.getElem?_eq_none (Nat.le_refl _)] at hy; cases hy), hn]
    simp
end
/-! ### devices and entries -/
def dk (d : Dvc) : Str := bs d.id
def uk (k : Kv) : Str := bs k.user
def inR (n least : Int) : Bool := decide (least ≤ n) && decide (n ≤ 1000000000000)
def devB (s : ByteArray) : Bool := decide (1 ≤ s.size) && decide (s.size ≤ 32)
def namesB (l : List Kv) : Bool := l.all fun k => I.userB (bs k.user) && k.devs.all fun d => devB d.id
def incB {α : Type} (key : α → Str) : List α → Bool
  | [] => true
  | x :: t => (match t with
    | [] => true
    | y :: _ => decide (key x < key y)) && incB key t
def orderB (l : List Kv) : Bool := incB uk l && l.all fun k => incB dk k.devs
def numbersB (l : List Kv) : Bool := l.all fun k => inR k.master 0 && inR k.pos 0 && k.devs.all fun d => inR d.key 1
def fullB (l : List Kv) : Bool := decide (l.length ≤ 200) && l.all fun k => decide (k.devs.length ≤ 10)
def stateB (l : List Kv) : Bool := l.all fun k => k.devs.all fun d => !d.signed || decide (k.master ≠ 0)
/-- the first error of a list -/
def chk (l : List Kv) : Int := if namesB l = false then 3 else if orderB l = false then 8 else if numbersB l = false then 2 else if fullB l = false then 29 else if stateB l = false then 26 else 0
theorem incB_iff {α : Type} {key : α → Str} : ∀ {l : List α}, incB key l = true ↔ Inc key l
  | [] => by simp [incB, Inc]
  | [x] => by simp [incB, Inc]
  | x :: y :: t => by
    have ih := incB_iff (key := key) (l := y :: t)
    unfold incB
    rw [Bool.and_eq_true, ih, decide_eq_true_eq]
    constructor
    · rintro ⟨h1, h2⟩
      refine List.pairwise_cons.2 ⟨fun z hz => ?_, h2⟩
      rcases List.mem_cons.1 hz with rfl | hz
      · exact h1
      · exact Nm.lt_trans h1 ((List.pairwise_cons.1 h2).1 z hz)
    · intro h
      obtain ⟨h1, h2⟩ := List.pairwise_cons.1 h
      exact ⟨h1 y (by simp), h2⟩
/-- what Check asks of an entry -/
structure OkE (k : Kv) : Prop where
  user : I.userB (bs k.user) = true
  ids : ∀ d ∈ k.devs, devB d.id = true
  inc : Inc dk k.devs
  master : inR k.master 0 = true
  pos : inR k.pos 0 = true
  keys : ∀ d ∈ k.devs, inR d.key 1 = true
  few : k.devs.length ≤ 10
  st : ∀ d ∈ k.devs, d.signed = true → k.master ≠ 0
structure Valid (l : List Kv) : Prop where
  inc : Inc uk l
  few : l.length ≤ 200
  each : ∀ k ∈ l, OkE k
theorem chk_ok {l : List Kv} : chk l = 0 ↔ namesB l = true ∧ orderB l = true ∧ numbersB l = true ∧ fullB l = true ∧ stateB l = true := by
  unfold chk
  cases namesB l <;> cases orderB l <;> cases numbersB l <;> cases fullB l <;> cases stateB l <;> simp
theorem chk_iff {l : List Kv} : chk l = 0 ↔ Valid l := by
  rw [chk_ok]
  unfold namesB orderB numbersB fullB stateB
  simp only [Bool.and_eq_true, List.all_eq_true, decide_eq_true_eq, incB_iff, Bool.or_eq_true, Bool.not_eq_true']
  constructor
  · rintro ⟨h1, ⟨h2, h3⟩, h4, ⟨h5, h6⟩, h7⟩
    exact ⟨h2, h5, fun k hk => ⟨(h1 k hk).1, (h1 k hk).2, h3 k hk, (h4 k hk).1.1, (h4 k hk).1.2, (h4 k hk).2, h6 k hk, fun d hd hs => by
      rcases h7 k hk d hd with h | h
      · rw [hs] at h; cases h
      · exact h⟩⟩
  · rintro ⟨h1, h2, h3⟩
    refine ⟨fun k hk => ⟨(h3 k hk).user, (h3 k hk).ids⟩, ⟨h1, fun k hk => (h3 k hk).inc⟩, fun k hk => ⟨⟨(h3 k hk).master, (h3 k hk).pos⟩, (h3 k hk).keys⟩, ⟨h2, fun k hk => (h3 k hk).few⟩, fun k hk d hd => ?_⟩
    cases hs : d.signed
    · exact .inl rfl
    · exact .inr ((h3 k hk).st d hd hs)
theorem valid_nil : Valid [] := ⟨List.Pairwise.nil, by simp, by simp⟩

def zKv : Kv := ⟨⟨#[]⟩, 0, 0, []⟩
def get (l : List Kv) (u : ByteArray) : Option Kv := find uk l (bs u)
def getK (l : List Kv) (u : ByteArray) : Kv := (get l u).getD zKv
def has (d : List Dvc) (id : ByteArray) : Bool := (find dk d (bs id)).isSome
def off (d : Dvc) : Dvc := ⟨d.id, d.key, false⟩
def on_ (id : ByteArray) (d : Dvc) : Dvc := if dk d = bs id then ⟨d.id, d.key, true⟩ else d
def add (l : List Kv) (u : ByteArray) (d : Dvc) (p : Int) : List Kv × Int :=
  if (I.userB (bs u) && devB d.id) = false then ([], 3) else if (inR d.key 1 && inR p 0) = false then ([], 2) else
  if ((!(get l u).isSome && decide (200 ≤ l.length)) || (!has (getK l u).devs d.id && decide (10 ≤ (getK l u).devs.length))) = true then ([], 29)
  else (put uk l ⟨u, (getK l u).master, p, put dk (getK l u).devs (off d)⟩, 0)
def remove (l : List Kv) (u id : ByteArray) (p : Int) : List Kv × Int :=
  if inR p 0 = false then ([], 2) else if has (getK l u).devs id = false then ([], 5)
  else (put uk l ⟨(getK l u).user, (getK l u).master, p, (getK l u).devs.filter fun d => decide (dk d ≠ bs id)⟩, 0)
def cross (l : List Kv) (u : ByteArray) (m p : Int) : List Kv × Int :=
  if I.userB (bs u) = false then ([], 3) else if (inR m 1 && inR p 0) = false then ([], 2) else
  if (!(get l u).isSome && decide (200 ≤ l.length)) = true then ([], 29)
  else (put uk l ⟨u, m, p, (getK l u).devs.map off⟩, 0)
def sign (l : List Kv) (u id : ByteArray) (p : Int) : List Kv × Int :=
  if inR p 0 = false then ([], 2) else if has (getK l u).devs id = false then ([], 5) else if (getK l u).master = 0 then ([], 26)
  else (put uk l ⟨(getK l u).user, (getK l u).master, p, (getK l u).devs.map (on_ id)⟩, 0)
def changed (l : List Kv) (p : Int) : List Str := (l.filter fun k => decide (p ≤ k.pos)).map uk

theorem bsi {a b : ByteArray} (h : bs a = bs b) : a = b := bs_inj h
theorem get_some {l : List Kv} (h : Inc uk l) {u : ByteArray} {k : Kv} : get l u = some k ↔ k ∈ l ∧ k.user = u := by
  unfold get
  rw [find_some_iff h]
  exact ⟨fun ⟨h1, h2⟩ => ⟨h1, bsi h2⟩, fun ⟨h1, h2⟩ => ⟨h1, by rw [← h2]; rfl⟩⟩
theorem getK_cases (l : List Kv) (h : Inc uk l) (u : ByteArray) : (∃ k ∈ l, k.user = u ∧ get l u = some k ∧ getK l u = k) ∨ (get l u = none ∧ getK l u = zKv) := by
  unfold getK
  cases hg : get l u with
  | none => exact .inr ⟨rfl, rfl⟩
  | some k =>
    obtain ⟨h1, h2⟩ := (get_some h).1 hg
    exact .inl ⟨k, h1, h2, rfl, rfl⟩
theorem Valid.devs {l : List Kv} (h : Valid l) (u : ByteArray) : Inc dk (getK l u).devs ∧ (∀ d ∈ (getK l u).devs, devB d.id = true ∧ inR d.key 1 = true ∧ (d.signed = true → (getK l u).master ≠ 0)) ∧ (getK l u).devs.length ≤ 10 ∧ inR (getK l u).master 0 = true := by
  rcases getK_cases l h.inc u with ⟨k, hk, _, _, e⟩ | ⟨_, e⟩
  · rw [e]
    have := h.each k hk
    exact ⟨this.inc, fun d hd => ⟨this.ids d hd, this.keys d hd, this.st d hd⟩, this.few, this.master⟩
  · rw [e]
    exact ⟨List.Pairwise.nil, by simp [zKv], by simp [zKv], by decide⟩
theorem has_user {l : List Kv} (h : Inc uk l) {u id : ByteArray} (hh : has (getK l u).devs id = true) : (getK l u).user = u ∧ get l u = some (getK l u) := by
  rcases getK_cases l h u with ⟨k, _, h2, h3, e⟩ | ⟨_, e⟩
  · rw [e]; exact ⟨h2, h3⟩
  · rw [e] at hh; simp [has, zKv, find] at hh
theorem Valid.put {l : List Kv} (h : Valid l) {x : Kv} (hx : OkE x) (hf : (get l x.user).isSome = true ∨ l.length < 200) : Valid (put uk l x) := by
  refine ⟨inc_put h.inc x, ?_, fun k hk => ?_⟩
  · rw [put_length h.inc]
    split
    · exact h.few
    · rename_i hn
      rcases hf with h1 | h1
      · exact absurd h1 hn
      · omega
  · rcases (mem_put h.inc).1 hk with rfl | ⟨hk, _⟩
    · exact hx
    · exact h.each k hk
theorem inR_le {a b : Int} (h : inR a b = true) : b ≤ a ∧ a ≤ 1000000000000 := by unfold inR at h; simpa using h
theorem inR_zero {n : Int} (h : inR n 1 = true) : inR n 0 = true := by
  have := inR_le h
  unfold inR; simp; omega
theorem add_ok {l : List Kv} (h : Valid l) (u : ByteArray) (d : Dvc) (p : Int) : Valid (add l u d p).1 := by
  obtain ⟨i1, i2, i3, i4⟩ := h.devs u
  unfold add
  split
  · exact valid_nil
  rename_i h1
  split
  · exact valid_nil
  rename_i h2
  split
  · exact valid_nil
  rename_i h3
  simp only [Bool.not_eq_false, Bool.and_eq_true] at h1 h2
  simp only [Bool.or_eq_true, Bool.and_eq_true, Bool.not_eq_true', decide_eq_true_eq, not_or, not_and] at h3
  refine h.put ⟨h1.1, fun y hy => ?_, inc_put i1 _, i4, h2.2, fun y hy => ?_, ?_, fun y hy hs => ?_⟩ ?_
  · rcases (mem_put i1).1 hy with rfl | ⟨hy, _⟩
    · exact h1.2
    · exact (i2 y hy).1
  · rcases (mem_put i1).1 hy with rfl | ⟨hy, _⟩
    · exact h2.1
    · exact (i2 y hy).2.1
  · show (Dv.put dk (getK l u).devs (off d)).length ≤ 10
    rw [put_length i1]
    split
    · exact i3
    · rename_i hn
      have : ¬ 10 ≤ (getK l u).devs.length := fun h10 => h3.2 (by
        cases hh : has (getK l u).devs d.id
        · rfl
        · exact absurd hh hn) h10
      omega
  · rcases (mem_put i1).1 hy with rfl | ⟨hy, _⟩
    · simp [off] at hs
    · exact (i2 y hy).2.2 hs
  · cases hg : (get l u).isSome
    · right
      have := h3.1 hg
      omega
    · exact .inl rfl
theorem remove_ok {l : List Kv} (h : Valid l) (u id : ByteArray) (p : Int) : Valid (remove l u id p).1 := by
  obtain ⟨i1, i2, i3, i4⟩ := h.devs u
  unfold remove
  split
  · exact valid_nil
  rename_i h1
  split
  · exact valid_nil
  rename_i h2
  simp only [Bool.not_eq_false] at h1 h2
  obtain ⟨e1, e2⟩ := has_user h.inc h2
  have hk := h.each _ ((get_some h.inc).1 e2).1
  refine h.put ⟨hk.user, fun y hy => (i2 y (List.mem_filter.1 hy).1).1, List.Pairwise.filter _ i1, i4, h1, fun y hy => (i2 y (List.mem_filter.1 hy).1).2.1, Nat.le_trans (List.length_filter_le _ _) i3, fun y hy => (i2 y (List.mem_filter.1 hy).1).2.2⟩ (.inl ?_)
  show (get l (getK l u).user).isSome = true
  rw [e1, e2]; rfl
theorem map_off_keys (l : List Dvc) : (l.map off).map dk = l.map dk := by rw [List.map_map]; rfl
theorem map_on_keys (id : ByteArray) (l : List Dvc) : (l.map (on_ id)).map dk = l.map dk := by
  rw [List.map_map]
  refine List.map_congr_left fun d _ => ?_
  show dk (on_ id d) = dk d
  unfold on_; split <;> rfl
theorem inc_same {l m : List Dvc} (h : l.map dk = m.map dk) (hm : Inc dk m) : Inc dk l := by rw [inc_keys, h]; exact inc_keys.1 hm
theorem cross_ok {l : List Kv} (h : Valid l) (u : ByteArray) (m p : Int) : Valid (cross l u m p).1 := by
  obtain ⟨i1, i2, i3, i4⟩ := h.devs u
  unfold cross
  split
  · exact valid_nil
  rename_i h1
  split
  · exact valid_nil
  rename_i h2
  split
  · exact valid_nil
  rename_i h3
  simp only [Bool.not_eq_false, Bool.and_eq_true] at h1 h2
  simp only [Bool.and_eq_true, Bool.not_eq_true', decide_eq_true_eq, not_and] at h3
  refine h.put ⟨h1, fun y hy => ?_, inc_same (map_off_keys _) i1, inR_zero h2.1, h2.2, fun y hy => ?_, by simpa using i3, fun y hy hs => ?_⟩ ?_
  · obtain ⟨z, hz, rfl⟩ := List.mem_map.1 hy
    exact (i2 z hz).1
  · obtain ⟨z, hz, rfl⟩ := List.mem_map.1 hy
    exact (i2 z hz).2.1
  · obtain ⟨z, hz, rfl⟩ := List.mem_map.1 hy
    simp [off] at hs
  · cases hg : (get l u).isSome
    · right
      have := h3 hg
      omega
    · exact .inl rfl
theorem sign_ok {l : List Kv} (h : Valid l) (u id : ByteArray) (p : Int) : Valid (sign l u id p).1 := by
  obtain ⟨i1, i2, i3, i4⟩ := h.devs u
  unfold sign
  split
  · exact valid_nil
  rename_i h1
  split
  · exact valid_nil
  rename_i h2
  split
  · exact valid_nil
  rename_i h3
  simp only [Bool.not_eq_false] at h1 h2
  obtain ⟨e1, e2⟩ := has_user h.inc h2
  have hk := h.each _ ((get_some h.inc).1 e2).1
  have hon : ∀ z, (on_ id z).id = z.id ∧ (on_ id z).key = z.key := fun z => by unfold on_; split <;> exact ⟨rfl, rfl⟩
  refine h.put ⟨hk.user, fun y hy => ?_, inc_same (map_on_keys _ _) i1, i4, h1, fun y hy => ?_, by simpa using i3, fun y hy _ => h3⟩ (.inl ?_)
  · obtain ⟨z, hz, rfl⟩ := List.mem_map.1 hy
    rw [(hon z).1]; exact (i2 z hz).1
  · obtain ⟨z, hz, rfl⟩ := List.mem_map.1 hy
    rw [(hon z).2]; exact (i2 z hz).2.1
  · show (get l (getK l u).user).isSome = true
    rw [e1, e2]; rfl

/-! ### what a call leaves as it was -/
/-- two lists have the same entries, but for that of a user -/
def apartB (a b : List Kv) (u : ByteArray) : Bool := (a.all fun x => decide (x.user = u) || decide (get b x.user = some x)) && b.all fun x => decide (x.user = u) || (get a x.user).isSome
theorem apart_put {l : List Kv} (h : Inc uk l) (x : Kv) : apartB l (put uk l x) x.user = true := by
  unfold apartB
  simp only [Bool.and_eq_true, List.all_eq_true, Bool.or_eq_true, decide_eq_true_eq]
  have hu : ∀ y : Kv, y.user ≠ x.user → uk y ≠ uk x := fun y hy e => hy (bsi e)
  refine ⟨fun y hy => ?_, fun y hy => ?_⟩
  · by_cases e : y.user = x.user
    · exact .inl e
    · right
      have := find_put h x (uk y)
      rw [if_neg (hu y e)] at this
      exact this.trans ((find_some_iff h).2 ⟨hy, rfl⟩)
  · by_cases e : y.user = x.user
    · exact .inl e
    · right
      rcases (mem_put h).1 hy with rfl | ⟨hy, _⟩
      · exact absurd rfl e
      · rw [(get_some h).2 ⟨hy, rfl⟩]; rfl
theorem seen_put {l : List Kv} (h : Inc uk l) (x : Kv) : uk x ∈ changed (put uk l x) x.pos := by
  unfold changed
  rw [List.mem_map]
  refine ⟨x, ?_, rfl⟩
  rw [List.mem_filter, mem_put h]
  exact ⟨.inl rfl, by simp⟩
/-- a call changes the entry of its user alone -/
def Keeps (l : List Kv) (u : ByteArray) (p : Int) (r : List Kv × Int) : Prop := r.2 = 0 → apartB l r.1 u = true ∧ bs u ∈ changed r.1 p
theorem keeps_of {l : List Kv} (h : Inc uk l) {x : Kv} {u : ByteArray} {p : Int} (hu : x.user = u) (hp : x.pos = p) : apartB l (put uk l x) u = true ∧ bs u ∈ changed (put uk l x) p := by
  subst hu hp
  exact ⟨apart_put h x, seen_put h x⟩
theorem add_keeps {l : List Kv} (h : Inc uk l) (u : ByteArray) (d : Dvc) (p : Int) : Keeps l u p (add l u d p) := by
  unfold Keeps add
  split
  · intro h; cases h
  split
  · intro h; cases h
  split
  · intro h; cases h
  exact fun _ => keeps_of h rfl rfl
theorem remove_keeps {l : List Kv} (h : Inc uk l) (u id : ByteArray) (p : Int) : Keeps l u p (remove l u id p) := by
  unfold Keeps remove
  split
  · intro h; cases h
  split
  · intro h; cases h
  rename_i h2
  exact fun _ => keeps_of h (has_user h (by simpa using h2)).1 rfl
theorem cross_keeps {l : List Kv} (h : Inc uk l) (u : ByteArray) (m p : Int) : Keeps l u p (cross l u m p) := by
  unfold Keeps cross
  split
  · intro h; cases h
  split
  · intro h; cases h
  split
  · intro h; cases h
  exact fun _ => keeps_of h rfl rfl
theorem sign_keeps {l : List Kv} (h : Inc uk l) (u id : ByteArray) (p : Int) : Keeps l u p (sign l u id p) := by
  unfold Keeps sign
  split
  · intro h; cases h
  split
  · intro h; cases h
  split
  · intro h; cases h
  rename_i h2 _
  exact fun _ => keeps_of h (has_user h (by simpa using h2)).1 rfl

/-! ### the map of devices, and the list that comes out of it -/
theorem put_on {l : List Dvc} (h : Inc dk l) {d : Dvc} {id : ByteArray} (hf : find dk l (bs id) = some d) : put dk l ⟨d.id, d.key, true⟩ = l.map (on_ id) := by
  obtain ⟨h1, h2⟩ := (find_some_iff h).1 hf
  refine inc_ext (inc_put h _) (inc_same (map_on_keys id l) h) fun x => ?_
  rw [mem_put h, List.mem_map]
  have hkd : dk (⟨d.id, d.key, true⟩ : Dvc) = bs id := h2
  rw [hkd]
  constructor
  · rintro (rfl | ⟨hx, hn⟩)
    · exact ⟨d, h1, by unfold on_; rw [if_pos h2]⟩
    · exact ⟨x, hx, by unfold on_; rw [if_neg hn]⟩
  · rintro ⟨y, hy, rfl⟩
    unfold on_
    split
    · rename_i e
      rw [inc_inj h hy h1 (by rw [e, h2])]
      exact .inl rfl
    · rename_i e
      exact .inr ⟨hy, e⟩
/-! ### trust -/
def idx (l : List Dvc) (s : Str) : Int := match l.findIdx? fun d => decide (dk d = s) with
  | some i => i
  | none => -1
theorem idx_at {l : List Dvc} (h : Inc dk l) {s : Str} {i : Nat} {d : Dvc} (hd : l[i]? = some d) (hs : dk d = s) : idx l s = i := by
  obtain ⟨hi, rfl⟩ := List.getElem?_eq_some_iff.1 hd
  have : l.findIdx? (fun d => decide (dk d = s)) = some i := by
    rw [List.findIdx?_eq_some_iff_getElem]
    refine ⟨hi, decide_eq_true hs, fun j hj => ?_⟩
    have h1 := h.at (List.getElem?_eq_getElem (by omega : j < l.length)) (List.getElem?_eq_getElem hi) hj
    simp only [Bool.not_eq_true, decide_eq_false_iff_not]
    intro e
    rw [e, hs] at h1
    exact Nm.lt_irrefl _ h1
  unfold idx; rw [this]
theorem add_err {l : List Kv} {u : ByteArray} {d : Dvc} {p : Int} (h : (add l u d p).2 ≠ 0) : (add l u d p).1 = [] := by
  unfold add at *
  split
  · rfl
  split
  · rfl
  split
  · rfl
  rename_i h1 h2 h3
  rw [if_neg h1, if_neg h2, if_neg h3] at h
  exact absurd rfl h
theorem cross_err {l : List Kv} {u : ByteArray} {m p : Int} (h : (cross l u m p).2 ≠ 0) : (cross l u m p).1 = [] := by
  unfold cross at *
  split
  · rfl
  split
  · rfl
  split
  · rfl
  rename_i h1 h2 h3
  rw [if_neg h1, if_neg h2, if_neg h3] at h
  exact absurd rfl h
theorem get_put {l : List Kv} (h : Inc uk l) (x : Kv) {u : ByteArray} (hu : x.user = u) : get (put uk l x) u = some x := by
  subst hu
  have := find_put h x (uk x)
  rw [if_pos rfl] at this
  exact this
/-- behind Add -/
theorem add_trust {l : List Kv} (h : Valid l) {u : ByteArray} {d : Dvc} {p : Int} (he : (add l u d p).2 = 0) :
    ∃ X n, get (add l u d p).1 u = some X ∧ X.devs[n]? = some (off d) ∧ idx X.devs (bs d.id) = (n : Nat) ∧ X.pos = p := by
  have hv := add_ok h u d p
  unfold add at *
  split at he
  · cases he
  split at he
  · cases he
  split at he
  · cases he
  rename_i h1 h2 h3
  rw [if_neg h1, if_neg h2, if_neg h3] at *
  obtain ⟨i1, _⟩ := h.devs u
  have hm : off d ∈ put dk (getK l u).devs (off d) := (mem_put i1).2 (.inl rfl)
  obtain ⟨n, hn, hd⟩ := List.mem_iff_getElem.1 hm
  have hd' : (put dk (getK l u).devs (off d))[n]? = some (off d) := by rw [List.getElem?_eq_getElem hn, hd]
  refine ⟨⟨u, (getK l u).master, p, put dk (getK l u).devs (off d)⟩, n, ?_, hd', idx_at (inc_put i1 _) hd' rfl, rfl⟩
  exact get_put h.inc _ rfl
/-- behind Cross and Sign -/
theorem cross_trust {a : List Kv} (h : Valid a) {u id : ByteArray} {m p : Int} {X : Kv} {n : Nat} {d : Dvc} (hX : get a u = some X) (hd : X.devs[n]? = some d) (hid : dk d = bs id) (he : (cross a u m p).2 = 0) :
    (sign (cross a u m p).1 u id p).2 = 0 ∧ ∃ Y Z, get (cross a u m p).1 u = some Y ∧ get (sign (cross a u m p).1 u id p).1 u = some Z ∧ Y.devs = X.devs.map off ∧ Z.devs = (X.devs.map off).map (on_ id) ∧ Z.master = m := by
  have hv := cross_ok h u m p
  have hXe : getK a u = X := by unfold getK; rw [hX]; rfl
  have hc : cross a u m p = (put uk a ⟨u, m, p, X.devs.map off⟩, 0) := by
    unfold cross at *
    split at he
    · cases he
    split at he
    · cases he
    split at he
    · cases he
    rename_i h1 h2 h3
    rw [if_neg h1, if_neg h2, if_neg h3, hXe]
  have hmp : (inR m 1 && inR p 0) = true := by
    cases hh : inR m 1 && inR p 0
    · unfold cross at he
      rw [hh] at he
      split at he <;> simp at he
    · rfl
  rw [Bool.and_eq_true] at hmp
  rw [hc] at hv ⊢
  have hY : get (put uk a ⟨u, m, p, X.devs.map off⟩) u = some ⟨u, m, p, X.devs.map off⟩ := get_put h.inc _ rfl
  have hYe : getK (put uk a ⟨u, m, p, X.devs.map off⟩) u = ⟨u, m, p, X.devs.map off⟩ := by unfold getK; rw [hY]; rfl
  have hm0 : m ≠ 0 := by have := inR_le hmp.1; omega
  have hh : has (X.devs.map off) id = true := by
    unfold has find
    rw [List.find?_isSome]
    exact ⟨off d, List.mem_map.2 ⟨d, List.mem_of_getElem? hd, rfl⟩, decide_eq_true hid⟩
  have hs : sign (put uk a ⟨u, m, p, X.devs.map off⟩) u id p = (put uk (put uk a ⟨u, m, p, X.devs.map off⟩) ⟨u, m, p, (X.devs.map off).map (on_ id)⟩, 0) := by
    unfold sign
    rw [hYe, if_neg (by rw [hmp.2]; simp), if_neg (by rw [hh]; simp), if_neg hm0]
  refine ⟨by rw [hs], _, ⟨u, m, p, (X.devs.map off).map (on_ id)⟩, hY, ?_, rfl, rfl, rfl⟩
  rw [hs]
  exact get_put hv.inc _ rfl
/-- which devices are signed, in the end -/
theorem signed_at {l : List Dvc} (h : Inc dk l) {id : ByteArray} {n i : Nat} {d x : Dvc} (hd : l[n]? = some d) (hid : dk d = bs id) (hx : l[i]? = some x) : (on_ id (off x)).signed = decide (i = n) := by
  unfold on_
  have he : dk (off x) = dk x := rfl
  rw [he]
  by_cases e : dk x = bs id
  · rw [if_pos e]
    have : i = n := by
      rcases Nat.lt_trichotomy i n with h1 | h1 | h1
      · have := h.at hx hd h1; rw [e, hid] at this; exact absurd this (Nm.lt_irrefl _)
      · exact h1
      · have := h.at hd hx h1; rw [e, hid] at this; exact absurd this (Nm.lt_irrefl _)
    subst this; simp
  · rw [if_neg e]
    have : i ≠ n := fun e1 => by subst e1; rw [hd] at hx; cases hx; exact e hid
    rw [decide_eq_false this]; rfl
end Dv
end Go.Proofs.Ytbhkgdfmjkblcaa
