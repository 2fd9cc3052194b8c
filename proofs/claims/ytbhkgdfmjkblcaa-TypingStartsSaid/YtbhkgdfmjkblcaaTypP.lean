/-
  The plain laws behind chapter 38: lists of those who type. No program in sight.
-/
import Derived.Test.YtbhkgdfmjkblcaaRead
import Derived.Test.YtbhkgdfmjkblcaaIdsP
import Derived.Test.YtbhkgdfmjkblcaaNamesP
namespace Go.Proofs.Ytbhkgdfmjkblcaa
open Go.RowKit

/-- a record: who types, until when -/
structure Typ where
  user : ByteArray
  til : Int

namespace T
abbrev nm (x : Typ) : List UInt8 := bs x.user
def prevOk (p : Option (List UInt8)) (u : List UInt8) : Bool := match p with
  | none => true
  | some q => decide (q < u)
/-- the first error of a list, behind the name p -/
def chk (p : Option (List UInt8)) : List Typ → Int
  | [] => 0
  | x :: l => if I.userB (nm x) = false then 3 else if x.til < 1 ∨ 1000030000 < x.til then 2 else if prevOk p (nm x) = false then 8 else chk (some (nm x)) l
def Good (x : Typ) : Prop := I.userB (nm x) = true ∧ 1 ≤ x.til ∧ x.til ≤ 1000030000
theorem inc_cons (p : Option (List UInt8)) (u : List UInt8) (l : List (List UInt8)) : Nm.Inc (p.toList ++ u :: l) ↔ prevOk p u = true ∧ Nm.Inc (u :: l) := by
  cases p with
  | none => simp [prevOk]
  | some q =>
    simp only [Option.toList_some, List.singleton_append, prevOk, decide_eq_true_eq]
    constructor
    · intro h
      obtain ⟨h1, h2⟩ := List.pairwise_cons.1 h
      exact ⟨h1 u (by simp), h2⟩
    · rintro ⟨h1, h2⟩
      refine List.pairwise_cons.2 ⟨fun v hv => ?_, h2⟩
      rcases List.mem_cons.1 hv with rfl | hv
      · exact h1
      · exact Nm.lt_trans h1 ((List.pairwise_cons.1 h2).1 v hv)
theorem chk_zero : ∀ (l : List Typ) (p : Option (List UInt8)), chk p l = 0 ↔ (∀ x ∈ l, Good x) ∧ Nm.Inc (p.toList ++ l.map nm)
  | [], p => by cases p <;> simp [chk, Nm.Inc]
  | x :: l, p => by
    rw [chk, List.map_cons, inc_cons]
    have ih := chk_zero l (some (nm x))
    simp only [Option.toList_some, List.singleton_append] at ih
    simp only [List.forall_mem_cons, Good]
    by_cases h1 : I.userB (nm x) = false
    · rw [if_pos h1]; simp [h1]
    rw [if_neg h1]
    by_cases h2 : x.til < 1 ∨ 1000030000 < x.til
    · rw [if_pos h2]
      constructor
      · intro h; cases h
      · rintro ⟨⟨⟨_, h3, h4⟩, _⟩, _⟩; omega
    rw [if_neg h2]
    by_cases h3 : prevOk p (nm x) = false
    · rw [if_pos h3]; simp [h3]
    rw [if_neg h3, ih]
    have h1' : I.userB (nm x) = true := by simpa using h1
    have h3' : prevOk p (nm x) = true := by simpa using h3
    constructor
    · rintro ⟨h4, h5⟩; exact ⟨⟨⟨h1', by omega, by omega⟩, h4⟩, h3', h5⟩
    · rintro ⟨⟨_, h4⟩, _, h5⟩; exact ⟨h4, h5⟩
/-- what Check says of the list from its k-th record on -/
def At (l : List Typ) (k : Nat) : Int := chk (match k with | 0 => none | j + 1 => (l[j]?).map nm) (l.drop k)
theorem at_zero (l : List Typ) : At l 0 = chk none l := rfl
theorem at_end {l : List Typ} {k : Nat} (h : l.length ≤ k) : At l k = 0 := by unfold At; rw [List.drop_of_length_le h]; rfl
theorem at_user {l : List Typ} {k : Nat} {x : Typ} (hx : l[k]? = some x) (h : I.userB (nm x) = false) : At l k = 3 := by
  obtain ⟨hk, rfl⟩ := List.getElem?_eq_some_iff.1 hx
  unfold At; rw [List.drop_eq_getElem_cons hk, chk, if_pos h]
theorem at_range {l : List Typ} {k : Nat} {x : Typ} (hx : l[k]? = some x) (h : I.userB (nm x) = true) (h2 : x.til < 1 ∨ 1000030000 < x.til) : At l k = 2 := by
  obtain ⟨hk, rfl⟩ := List.getElem?_eq_some_iff.1 hx
  unfold At; rw [List.drop_eq_getElem_cons hk, chk, if_neg (by simp [h]), if_pos h2]
theorem at_order {l : List Typ} {j : Nat} {x y : Typ} (hy : l[j]? = some y) (hx : l[j + 1]? = some x) (h : I.userB (nm x) = true) (h2 : ¬ (x.til < 1 ∨ 1000030000 < x.til)) (h3 : ¬ nm y < nm x) : At l (j + 1) = 8 := by
  obtain ⟨hk, rfl⟩ := List.getElem?_eq_some_iff.1 hx
  unfold At; rw [List.drop_eq_getElem_cons hk, chk, if_neg (by simp [h]), if_neg h2, if_pos (by simp [hy, prevOk, h3])]
theorem at_next0 {l : List Typ} {x : Typ} (hx : l[0]? = some x) (h : I.userB (nm x) = true) (h2 : ¬ (x.til < 1 ∨ 1000030000 < x.til)) : At l 0 = At l 1 := by
  obtain ⟨hk, rfl⟩ := List.getElem?_eq_some_iff.1 hx
  unfold At; rw [List.drop_eq_getElem_cons hk, chk, if_neg (by simp [h]), if_neg h2, if_neg (by simp [prevOk])]
  show _ = chk ((l[0]?).map nm) _
  rw [hx]; rfl
theorem at_next {l : List Typ} {j : Nat} {x y : Typ} (hy : l[j]? = some y) (hx : l[j + 1]? = some x) (h : I.userB (nm x) = true) (h2 : ¬ (x.til < 1 ∨ 1000030000 < x.til)) (h3 : nm y < nm x) : At l (j + 1) = At l (j + 1 + 1) := by
  obtain ⟨hk, rfl⟩ := List.getElem?_eq_some_iff.1 hx
  unfold At; rw [List.drop_eq_getElem_cons hk, chk, if_neg (by simp [h]), if_neg h2, if_neg (by simp [hy, prevOk, h3])]
  show _ = chk ((l[j + 1]?).map nm) _
  rw [hx]; rfl

/-! ### Start -/
def hit (l : List Typ) (u : List UInt8) : Option Nat := l.findIdx? fun y => decide (nm y = u)
def spot (l : List Typ) (u : List UInt8) : Nat := l.findIdx fun y => decide (u < nm y)
def start (l : List Typ) (x : Typ) : List Typ := match hit l (nm x) with
  | some i => l.set i x
  | none => l.take (spot l (nm x)) ++ x :: l.drop (spot l (nm x))
theorem hit_some {l : List Typ} {u : List UInt8} {k : Nat} {y : Typ} (hk : l[k]? = some y) (h : nm y = u) (hn : ∀ (j : Nat) z, l[j]? = some z → j < k → nm z ≠ u) : hit l u = some k := by
  unfold hit
  rw [List.findIdx?_eq_some_iff_getElem]
  obtain ⟨hk', rfl⟩ := List.getElem?_eq_some_iff.1 hk
  exact ⟨hk', by simpa using h, fun j hj => by simpa using hn j _ (List.getElem?_eq_getElem (by omega)) hj⟩
theorem hit_none {l : List Typ} {u : List UInt8} (hn : ∀ (j : Nat) z, l[j]? = some z → nm z ≠ u) : hit l u = none := by
  unfold hit
  rw [List.findIdx?_eq_none_iff]
  intro z hz
  obtain ⟨j, hj, rfl⟩ := List.mem_iff_getElem.1 hz
  simpa using hn j _ (List.getElem?_eq_getElem hj)
theorem hit_is {l : List Typ} {u : List UInt8} {i : Nat} (h : hit l u = some i) : ∃ y, l[i]? = some y ∧ nm y = u := by
  unfold hit at h
  rw [List.findIdx?_eq_some_iff_getElem] at h
  obtain ⟨hi, h1, _⟩ := h
  exact ⟨_, List.getElem?_eq_getElem hi, by simpa using h1⟩
theorem hit_not {l : List Typ} {u : List UInt8} (h : hit l u = none) : ∀ y ∈ l, nm y ≠ u := by
  unfold hit at h
  rw [List.findIdx?_eq_none_iff] at h
  intro y hy
  simpa using h y hy
/-- the place of a name from k on -/
def spotAt (l : List Typ) (u : List UInt8) (k : Nat) : Nat := k + spot (l.drop k) u
theorem spotAt_zero (l : List Typ) (u : List UInt8) : spotAt l u 0 = spot l u := by simp [spotAt]
theorem spotAt_end (l : List Typ) (u : List UInt8) : spotAt l u l.length = l.length := by simp [spotAt, spot]
theorem spotAt_yes {l : List Typ} {u : List UInt8} {k : Nat} {x : Typ} (hx : l[k]? = some x) (h : u < nm x) : spotAt l u k = k := by
  obtain ⟨hk, rfl⟩ := List.getElem?_eq_some_iff.1 hx
  unfold spotAt spot; rw [List.drop_eq_getElem_cons hk, List.findIdx_cons]; simp [h]
theorem spotAt_no {l : List Typ} {u : List UInt8} {k : Nat} {x : Typ} (hx : l[k]? = some x) (h : ¬ u < nm x) : spotAt l u k = spotAt l u (k + 1) := by
  obtain ⟨hk, rfl⟩ := List.getElem?_eq_some_iff.1 hx
  unfold spotAt spot; rw [List.drop_eq_getElem_cons hk, List.findIdx_cons]; simp [h]; omega
theorem spot_le (l : List Typ) (u : List UInt8) : spot l u ≤ l.length := List.findIdx_le_length
theorem start_len (l : List Typ) (x : Typ) : (start l x).length ≤ l.length + 1 := by
  have := spot_le l (nm x)
  unfold start
  cases hit l (nm x) with
  | some i => simp
  | none => simp; omega
theorem spot_lt {l : List Typ} {u : List UInt8} : ∀ y ∈ l.take (spot l u), ¬ u < nm y := by
  intro y hy
  obtain ⟨j, hj, rfl⟩ := List.mem_iff_getElem.1 hy
  have hj' : j < spot l u := by simpa using Nat.lt_of_lt_of_le hj (by simp; omega)
  have := List.not_of_lt_findIdx (p := fun y => decide (u < nm y)) hj'
  simpa using this
theorem spot_ge {l : List Typ} {u : List UInt8} (hl : Nm.Inc (l.map nm)) : ∀ y ∈ l.drop (spot l u), u < nm y := by
  intro y hy
  obtain ⟨j, hj, rfl⟩ := List.mem_iff_getElem.1 hy
  rw [List.length_drop] at hj
  have hs : spot l u < l.length := by omega
  have h1 : u < nm l[spot l u] := of_decide_eq_true (List.findIdx_getElem (p := fun y => decide (u < nm y)) (xs := l) (w := hs))
  rw [List.getElem_drop]
  rcases Nat.eq_zero_or_pos j with rfl | h0
  · exact h1
  · have := List.pairwise_iff_getElem.1 hl (spot l u) (spot l u + j) (by simpa using hs) (by simp; omega) (by omega)
    simp only [List.getElem_map] at this
    exact Nm.lt_trans h1 this
/-- a name occurs once -/
theorem inc_once {l : List Typ} (hl : Nm.Inc (l.map nm)) {i j : Nat} {y z : Typ} (hy : l[i]? = some y) (hz : l[j]? = some z) (h : nm y = nm z) : i = j := by
  obtain ⟨hi, rfl⟩ := List.getElem?_eq_some_iff.1 hy
  obtain ⟨hj, rfl⟩ := List.getElem?_eq_some_iff.1 hz
  rcases Nat.lt_trichotomy i j with h1 | h1 | h1
  · have := List.pairwise_iff_getElem.1 hl i j (by simpa using hi) (by simpa using hj) h1
    simp only [List.getElem_map] at this
    rw [h] at this; exact absurd this (Nm.lt_irrefl _)
  · exact h1
  · have := List.pairwise_iff_getElem.1 hl j i (by simpa using hj) (by simpa using hi) h1
    simp only [List.getElem_map] at this
    rw [h] at this; exact absurd this (Nm.lt_irrefl _)
theorem mem_start {l : List Typ} (hl : Nm.Inc (l.map nm)) (x y : Typ) : y ∈ start l x ↔ y = x ∨ (y ∈ l ∧ nm y ≠ nm x) := by
  unfold start
  cases hh : hit l (nm x) with
  | some i =>
    obtain ⟨z, hz, hzn⟩ := hit_is hh
    obtain ⟨hi, hzi⟩ := List.getElem?_eq_some_iff.1 hz
    simp only
    constructor
    · intro hm
      obtain ⟨j, hj, rfl⟩ := List.mem_iff_getElem.1 hm
      rw [List.length_set] at hj
      rw [List.getElem_set]
      by_cases hij : i = j
      · rw [if_pos hij]; exact .inl rfl
      · rw [if_neg hij]
        exact .inr ⟨List.getElem_mem hj, fun e => hij (inc_once hl hz (List.getElem?_eq_getElem hj) (hzn.trans e.symm))⟩
    · rintro (rfl | ⟨hm, hne⟩)
      · exact List.mem_iff_getElem.2 ⟨i, by simpa using hi, by simp⟩
      · obtain ⟨j, hj, rfl⟩ := List.mem_iff_getElem.1 hm
        refine List.mem_iff_getElem.2 ⟨j, by simpa using hj, ?_⟩
        rw [List.getElem_set, if_neg]
        rintro rfl
        rw [hzi] at hne; exact hne hzn
  | none =>
    have hn := hit_not hh
    simp only [List.mem_append, List.mem_cons]
    constructor
    · rintro (h | rfl | h)
      · exact .inr ⟨List.mem_of_mem_take h, hn _ (List.mem_of_mem_take h)⟩
      · exact .inl rfl
      · exact .inr ⟨List.mem_of_mem_drop h, hn _ (List.mem_of_mem_drop h)⟩
    · rintro (rfl | ⟨h, _⟩)
      · exact .inr (.inl rfl)
      · rw [← List.take_append_drop (spot l (nm x)) l] at h
        rcases List.mem_append.1 h with h | h
        · exact .inl h
        · exact .inr (.inr h)
theorem inc_start {l : List Typ} (hl : Nm.Inc (l.map nm)) (x : Typ) : Nm.Inc ((start l x).map nm) := by
  unfold start
  cases hh : hit l (nm x) with
  | some i =>
    obtain ⟨z, hz, hzn⟩ := hit_is hh
    obtain ⟨hi, hzi⟩ := List.getElem?_eq_some_iff.1 hz
    have : (l.set i x).map nm = l.map nm := by
      rw [List.map_set]
      apply List.ext_getElem (by simp)
      intro j h1 h2
      rw [List.getElem_set]
      split
      · rename_i e; subst e; simp only [List.getElem_map]; rw [hzi]; exact hzn.symm
      · rfl
    simp only [this]; exact hl
  | none =>
    have hn := hit_not hh
    have hsp : Nm.Inc ((l.take (spot l (nm x)) ++ l.drop (spot l (nm x))).map nm) := by rw [List.take_append_drop]; exact hl
    simp only [List.map_append, List.map_cons] at hsp ⊢
    obtain ⟨h1, h2, h3⟩ := List.pairwise_append.1 hsp
    refine List.pairwise_append.2 ⟨h1, List.pairwise_cons.2 ⟨fun v hv => ?_, h2⟩, fun u hu v hv => ?_⟩
    · obtain ⟨y, hy, rfl⟩ := List.mem_map.1 hv
      exact spot_ge hl y hy
    · obtain ⟨y, hy, rfl⟩ := List.mem_map.1 hu
      have hyx : nm y < nm x := by
        rcases Nm.lt_or (nm y) (nm x) with h | h | h
        · exact h
        · exact absurd h (hn _ (List.mem_of_mem_take hy))
        · exact absurd h (spot_lt y hy)
      rcases List.mem_cons.1 hv with rfl | hv
      · exact hyx
      · obtain ⟨z, hz, rfl⟩ := List.mem_map.1 hv
        exact Nm.lt_trans hyx (spot_ge hl z hz)

/-! ### Stop, Clean, Now -/
def stop (l : List Typ) (u : List UInt8) : List Typ := l.filter fun y => decide (nm y ≠ u)
def clean (l : List Typ) (t : Int) : List Typ := l.filter fun y => decide (t < y.til)
def now (l : List Typ) (t : Int) : List (List UInt8) := Nm.names ((clean l t).map nm)
theorem mem_now (l : List Typ) (t : Int) (u : List UInt8) : u ∈ now l t ↔ ∃ y ∈ l, t < y.til ∧ nm y = u := by
  unfold now clean
  rw [Nm.mem_names]
  simp only [List.mem_map, List.mem_filter, decide_eq_true_eq]
  constructor
  · rintro ⟨y, ⟨h1, h2⟩, h3⟩; exact ⟨y, h1, h2, h3⟩
  · rintro ⟨y, h1, h2, h3⟩; exact ⟨y, ⟨h1, h2⟩, h3⟩
theorem inc_filter {l : List Typ} (hl : Nm.Inc (l.map nm)) (p : Typ → Bool) : Nm.Inc ((l.filter p).map nm) :=
  List.Pairwise.sublist ((List.filter_sublist (l := l)).map nm) hl
theorem right_start {l : List Typ} (h : chk none l = 0) {x : Typ} (hx : Good x) : chk none (start l x) = 0 := by
  rw [chk_zero] at h ⊢
  refine ⟨fun y hy => ?_, inc_start h.2 x⟩
  rcases (mem_start h.2 x y).1 hy with rfl | ⟨h1, _⟩
  · exact hx
  · exact h.1 y h1
theorem right_filter {l : List Typ} (h : chk none l = 0) (p : Typ → Bool) : chk none (l.filter p) = 0 := by
  rw [chk_zero] at h ⊢
  exact ⟨fun y hy => h.1 y (List.mem_filter.1 hy).1, inc_filter h.2 p⟩
theorem lasts_has {l : List Typ} (h : chk none l = 0) (x : Typ) (t : Int) : decide (nm x ∈ now (start l x) t) = decide (t < x.til) := by
  rw [chk_zero] at h
  rw [decide_eq_decide, mem_now]
  constructor
  · rintro ⟨y, hy, h1, h2⟩
    rcases (mem_start h.2 x y).1 hy with rfl | ⟨_, h3⟩
    · exact h1
    · exact absurd h2 h3
  · intro h1
    exact ⟨x, (mem_start h.2 x x).2 (.inl rfl), h1, rfl⟩
/-- a list of names without one of them -/
def without (l : List (List UInt8)) (u : List UInt8) : List (List UInt8) := l.filter fun y => decide (y ≠ u)
theorem lasts_others {l : List Typ} (h : chk none l = 0) (x : Typ) (t : Int) : without (now (start l x) t) (nm x) = without (now l t) (nm x) := by
  rw [chk_zero] at h
  have inc : ∀ m : List Typ, Nm.Inc (without (now m t) (nm x)) := fun m => List.Pairwise.sublist List.filter_sublist (Nm.names_inc _)
  refine Nm.Inc.ext (inc _) (inc _) fun u => ?_
  simp only [without, List.mem_filter, mem_now, decide_eq_true_eq]
  constructor
  · rintro ⟨⟨y, hy, h1, rfl⟩, h2⟩
    rcases (mem_start h.2 x y).1 hy with rfl | ⟨h3, _⟩
    · exact absurd rfl h2
    · exact ⟨⟨y, h3, h1, rfl⟩, h2⟩
  · rintro ⟨⟨y, hy, h1, rfl⟩, h2⟩
    exact ⟨⟨y, (mem_start h.2 x y).2 (.inr ⟨hy, h2⟩), h1, rfl⟩, h2⟩
theorem stop_has (l : List Typ) (u : List UInt8) (t : Int) : decide (u ∈ now (stop l u) t) = false := by
  rw [decide_eq_false_iff_not, mem_now]
  rintro ⟨y, hy, _, h2⟩
  simp only [stop, List.mem_filter, decide_eq_true_eq] at hy
  exact hy.2 h2
theorem clean_clean (l : List Typ) {a b : Int} (h : a ≤ b) : clean (clean l a) b = clean l b := by
  unfold clean
  rw [List.filter_filter]
  refine List.filter_congr fun y _ => ?_
  by_cases h1 : b < y.til
  · simp [h1]; omega
  · simp [h1]
theorem now_clean (l : List Typ) {a b : Int} (h : a ≤ b) : now (clean l a) b = now l b := by unfold now; rw [clean_clean l h]
end T
/-- a record in its two cells -/
def Rd.typ : Rd Typ := (Rd.pair Rd.str (Rd.pair Rd.i64 Rd.unit)).as fun x => (x.user, x.til, ())
end Go.Proofs.Ytbhkgdfmjkblcaa
