/-
  The plain mathematics of patterns: what a pattern matches, the greedy search and the table agree with it. No program in sight.
-/
import Derived.WalkKit
namespace Go.Proofs.Ythcbplameonjlaa.G

def bad (c : UInt8) : Bool := decide (c.toNat < 33) || decide (126 < c.toNat)
def chk (p : List UInt8) : Int := if p = [] then 9 else if 64 < p.length then 7 else if p.any bad then 3 else 0
def plain (p : List UInt8) : Bool := p.all fun c => !(c == 42 || c == 63)
def least (p : List UInt8) : Nat := (p.filter fun c => c != 42).length

def tails (f : List UInt8 → Bool) : List UInt8 → Bool
  | [] => f []
  | c :: t => f (c :: t) || tails f t
def gm : List UInt8 → List UInt8 → Bool
  | [], s => s.isEmpty
  | x :: p, s => if x = 42 then tails (gm p) s else match s with
    | [] => false
    | c :: t => (x == 63 || x == c) && gm p t
def mt (p s : List UInt8) : Bool := decide (chk p = 0) && gm p s

theorem tails_iff (f : List UInt8 → Bool) : ∀ s, tails f s = true ↔ ∃ i, i ≤ s.length ∧ f (s.drop i) = true
  | [] => by simp [tails]
  | c :: t => by
    simp only [tails, Bool.or_eq_true, tails_iff f t]
    constructor
    · rintro (h | ⟨i, hi, h⟩)
      · exact ⟨0, by simp, h⟩
      · exact ⟨i + 1, by simpa using hi, h⟩
    · rintro ⟨i, hi, h⟩
      cases i with
      | zero => exact .inl h
      | succ i => exact .inr ⟨i, by simpa using hi, h⟩

/-- two patterns, one after the other -/
theorem gm_append (p q : List UInt8) : ∀ s, gm (p ++ q) s = true ↔ ∃ i, i ≤ s.length ∧ gm p (s.take i) = true ∧ gm q (s.drop i) = true := by
  induction p with
  | nil =>
    intro s
    simp only [List.nil_append, gm]
    constructor
    · intro h; exact ⟨0, by simp, by simp, by simpa using h⟩
    · rintro ⟨i, hi, h1, h2⟩
      have h0 : i = 0 := by simp at h1; rcases h1 with h1 | h1 <;> simp_all
      subst h0; simpa using h2
  | cons x p ih =>
    intro s
    simp only [List.cons_append, gm]
    by_cases hx : x = 42
    · simp only [hx, if_true, tails_iff, ih]
      constructor
      · rintro ⟨i, hi, j, hj, h1, h2⟩
        simp only [List.length_drop] at hj
        refine ⟨i + j, by omega, ⟨i, by simp; omega, ?_⟩, by rw [← List.drop_drop]; exact h2⟩
        rw [List.drop_take]; rw [show i + j - i = j from by omega]; exact h1
      · rintro ⟨j, hj, ⟨i, hi, h1⟩, h2⟩
        simp only [List.length_take] at hi
        refine ⟨i, by omega, j - i, by simp; omega, ?_, ?_⟩
        · rw [← List.drop_take]; exact h1
        · rw [List.drop_drop, show i + (j - i) = j from by omega]; exact h2
    · simp only [hx, if_false]
      cases s with
      | nil => simp
      | cons c t =>
        simp only [Bool.and_eq_true, ih]
        constructor
        · rintro ⟨hc, i, hi, h1, h2⟩
          exact ⟨i + 1, by simpa using hi, by simp only [List.take_succ_cons, Bool.and_eq_true]; exact ⟨hc, h1⟩, by simpa using h2⟩
        · rintro ⟨i, hi, h1, h2⟩
          cases i with
          | zero => simp at h1
          | succ i =>
            simp only [List.take_succ_cons, Bool.and_eq_true] at h1
            exact ⟨h1.1, i, by simpa using hi, h1.2, by simpa using h2⟩

theorem gm_nil (s : List UInt8) : gm [] s = s.isEmpty := by simp [gm]
theorem gm_plain {p : List UInt8} (h : plain p = true) : ∀ s, gm p s = decide (p = s) := by
  induction p with
  | nil => intro s; cases s <;> simp [gm]
  | cons x p ih =>
    intro s
    simp only [plain, List.all_cons, Bool.and_eq_true] at h
    obtain ⟨hx, hp⟩ := h
    simp at hx
    simp only [gm, hx.1, if_false]
    cases s with
    | nil => simp
    | cons c t =>
      simp only [ih (by simpa [plain] using hp) t]
      have : (x == 63) = false := by simp [hx.2]
      rw [this, Bool.eq_iff_iff]; simp

/-- a match has at least as many bytes as the pattern has non-stars -/
theorem gm_least : ∀ (p s : List UInt8), gm p s = true → least p ≤ s.length
  | [], s, _ => by simp [least]
  | x :: p, s, h => by
    simp only [gm] at h
    by_cases hx : x = 42
    · simp only [hx, if_true, tails_iff] at h
      obtain ⟨i, hi, h⟩ := h
      have := gm_least p _ h
      simp only [List.length_drop] at this
      simp [least, hx] at *
      omega
    · simp only [hx, if_false] at h
      cases s with
      | nil => simp at h
      | cons c t =>
        simp only [Bool.and_eq_true] at h
        have := gm_least p t h.2
        simp [least, hx] at *
        omega

def shortest (p : List UInt8) : List UInt8 := p.flatMap fun c => if c = 63 then [120] else if c ≠ 42 then [c] else []
theorem shortest_length (p : List UInt8) : (shortest p).length = least p := by
  induction p with
  | nil => rfl
  | cons x p ih =>
    have e : shortest (x :: p) = (if x = 63 then [120] else if x ≠ 42 then [x] else []) ++ shortest p := rfl
    rw [e, List.length_append, ih]
    simp only [least, List.filter_cons]
    by_cases h1 : x = 63
    · subst h1; simp; omega
    · by_cases h2 : x = 42 <;> simp [h1, h2]; omega
theorem shortest_matched (p : List UInt8) : gm p (shortest p) = true := by
  induction p with
  | nil => rfl
  | cons x p ih =>
    have e : shortest (x :: p) = (if x = 63 then [120] else if x ≠ 42 then [x] else []) ++ shortest p := rfl
    rw [e]
    simp only [gm]
    by_cases h1 : x = 63
    · subst h1; simp [ih]
    · by_cases h2 : x = 42
      · simp only [h2]
        rw [if_pos trivial, tails_iff]
        exact ⟨0, by simp, by simpa using ih⟩
      · simp [h1, h2, ih]

/-! ### The program's way: pieces, and the first place of each -/
def fit : List UInt8 → List UInt8 → Bool
  | [], [] => true
  | x :: p, c :: s => (x == 63 || x == c) && fit p s
  | _, _ => false
theorem fit_length : ∀ {p s : List UInt8}, fit p s = true → p.length = s.length
  | [], [], _ => rfl
  | x :: p, c :: s, h => by simp only [fit, Bool.and_eq_true] at h; simp [fit_length h.2]
theorem gm_fit : ∀ (p s : List UInt8), (42 : UInt8) ∉ p → gm p s = fit p s
  | [], s, _ => by cases s <;> simp [gm, fit]
  | x :: p, s, h => by
    have hx : x ≠ 42 := fun e => h (by simp [e])
    have hp : (42 : UInt8) ∉ p := fun e => h (by simp [e])
    cases s with
    | nil => simp [gm, fit, hx]
    | cons c t => simp [gm, fit, hx, gm_fit p t hp]

def hcons (pre : List UInt8) : List (List UInt8) → List (List UInt8)
  | [] => [pre]
  | h :: t => (pre ++ h) :: t
def split : List UInt8 → List (List UInt8)
  | [] => [[]]
  | x :: p => if x = 42 then [] :: split p else hcons [x] (split p)
def unsplit : List (List UInt8) → List UInt8
  | [] => []
  | [a] => a
  | a :: b :: r => a ++ 42 :: unsplit (b :: r)
theorem split_ne (p : List UInt8) : split p ≠ [] := by
  cases p with
  | nil => simp [split]
  | cons x p => simp only [split]; split <;> (try simp); cases split p <;> simp [hcons]
theorem unsplit_hcons (a : List UInt8) {l : List (List UInt8)} (h : l ≠ []) : unsplit (hcons a l) = a ++ unsplit l := by
  match l, h with
  | [b], _ => simp [hcons, unsplit]
  | b :: c :: r, _ => simp [hcons, unsplit]
theorem unsplit_split : ∀ p, unsplit (split p) = p
  | [] => rfl
  | x :: p => by
    simp only [split]
    have hn := split_ne p
    by_cases hx : x = 42
    · simp only [hx, if_true]
      match hs : split p, hn with
      | b :: r, _ =>
        have := unsplit_split p
        rw [hs] at this
        simp [unsplit, this]
    · simp only [hx, if_false]
      rw [unsplit_hcons _ hn, unsplit_split p]; rfl
theorem split_free : ∀ (p : List UInt8), ∀ a ∈ split p, (42 : UInt8) ∉ a ∧ ∀ c ∈ a, c ∈ p
  | [], a, h => by simp [split] at h; subst h; simp
  | x :: p, a, h => by
    simp only [split] at h
    have ih := split_free p
    by_cases hx : x = 42
    · simp only [hx, if_true, List.mem_cons] at h
      rcases h with rfl | h
      · simp
      · exact ⟨(ih a h).1, fun c hc => List.mem_cons_of_mem _ ((ih a h).2 c hc)⟩
    · simp only [hx, if_false] at h
      match hs : split p, split_ne p with
      | b :: r, _ =>
        rw [hs] at h ih
        simp only [hcons, List.mem_cons] at h
        rcases h with rfl | h
        · refine ⟨fun e => ?_, fun c hc => ?_⟩
          · simp at e
            rcases e with e | e
            · exact hx e.symm
            · exact (ih b (by simp)).1 e
          · simp at hc
            rcases hc with rfl | hc
            · simp
            · exact List.mem_cons_of_mem _ ((ih b (by simp)).2 c hc)
        · exact ⟨(ih a (by simp [h])).1, fun c hc => List.mem_cons_of_mem _ ((ih a (by simp [h])).2 c hc)⟩
theorem split_len : ∀ (p : List UInt8), ∀ a ∈ split p, a.length ≤ p.length
  | [], a, h => by simp [split] at h; subst h; simp
  | x :: p, a, h => by
    have ih := split_len p
    simp only [split] at h
    split at h
    · simp only [List.mem_cons] at h
      rcases h with rfl | h
      · simp
      · have := ih a h; simp; omega
    · match hs : split p, split_ne p with
      | b :: r, _ =>
        rw [hs] at h ih
        simp only [hcons, List.mem_cons] at h
        rcases h with rfl | h
        · have := ih b (by simp); simp; omega
        · have := ih a (by simp [h]); simp; omega
theorem hcons_hcons (a b : List UInt8) (l : List (List UInt8)) : hcons a (hcons b l) = hcons (a ++ b) l := by
  cases l <;> simp [hcons]
theorem hcons_nil {l : List (List UInt8)} (h : l ≠ []) : hcons [] l = l := by
  cases l with
  | nil => exact absurd rfl h
  | cons a r => simp [hcons]

/-- a piece at place j of a text -/
def at_ (m r : List UInt8) (j : Nat) : Bool := decide (j + m.length ≤ r.length) && fit m ((r.drop j).take m.length)
def E : List (List UInt8) → List UInt8 → Prop
  | [], _ => True
  | m :: ms, r => ∃ j, at_ m r j = true ∧ E ms (r.drop (j + m.length))
def findFrom (m r : List UInt8) : Nat → Nat → Option Nat
  | _, 0 => none
  | i, n + 1 => if at_ m r i then some i else findFrom m r (i + 1) n
def find (m r : List UInt8) : Option Nat := findFrom m r 0 (r.length + 1)
def greedy : List (List UInt8) → List UInt8 → Bool
  | [], _ => true
  | m :: ms, r => match find m r with
    | none => false
    | some j => greedy ms (r.drop (j + m.length))

theorem findFrom_some {m r : List UInt8} : ∀ {n i j : Nat}, findFrom m r i n = some j → at_ m r j = true ∧ i ≤ j ∧ ∀ k, i ≤ k → k < j → at_ m r k = false
  | 0, _, _, h => by simp [findFrom] at h
  | n + 1, i, j, h => by
    simp only [findFrom] at h
    split at h
    · rename_i hat
      simp at h; subst h
      exact ⟨hat, Nat.le_refl _, fun k h1 h2 => by omega⟩
    · rename_i hat
      obtain ⟨h1, h2, h3⟩ := findFrom_some h
      refine ⟨h1, by omega, fun k hk1 hk2 => ?_⟩
      rcases Nat.eq_or_lt_of_le hk1 with rfl | hlt
      · simpa using hat
      · exact h3 k hlt hk2
theorem findFrom_none {m r : List UInt8} : ∀ {n i : Nat}, findFrom m r i n = none → ∀ k, i ≤ k → k < i + n → at_ m r k = false
  | 0, _, _, k, h1, h2 => by omega
  | n + 1, i, h, k, h1, h2 => by
    simp only [findFrom] at h
    split at h
    · simp at h
    · rename_i hat
      rcases Nat.eq_or_lt_of_le h1 with rfl | hlt
      · simpa using hat
      · exact findFrom_none h k hlt (by omega)
theorem find_is {m r : List UInt8} {j : Nat} (h : at_ m r j = true) (hl : ∀ k, k < j → at_ m r k = false) : find m r = some j := by
  cases hf : find m r with
  | none =>
    have hj : j < r.length + 1 := by simp [at_] at h; omega
    have := findFrom_none hf j (Nat.zero_le _) (by omega)
    rw [this] at h; cases h
  | some i =>
    obtain ⟨h1, _, h3⟩ := findFrom_some hf
    rcases Nat.lt_trichotomy i j with hlt | rfl | hlt
    · rw [hl i hlt] at h1; cases h1
    · rfl
    · rw [h3 j (Nat.zero_le _) hlt] at h; cases h
theorem find_isnt {m r : List UInt8} (hl : ∀ k, k + m.length ≤ r.length → at_ m r k = false) : find m r = none := by
  cases hf : find m r with
  | none => rfl
  | some i =>
    obtain ⟨h1, _, _⟩ := findFrom_some hf
    rw [hl i (by simp [at_] at h1; omega)] at h1; cases h1
theorem at_drop {m r : List UInt8} {a j : Nat} (hl : a ≤ r.length) (h : at_ m (r.drop a) j = true) : at_ m r (a + j) = true := by
  simp only [at_, Bool.and_eq_true, decide_eq_true_eq, List.length_drop, List.drop_drop] at *
  exact ⟨by omega, h.2⟩
theorem E_mono : ∀ (ms : List (List UInt8)) (r : List UInt8) (a : Nat), a ≤ r.length → E ms (r.drop a) → E ms r
  | [], _, _, _, _ => trivial
  | m :: ms, r, a, ha, ⟨j, h1, h2⟩ => ⟨a + j, at_drop ha h1, by rw [List.drop_drop] at h2; rw [Nat.add_assoc]; exact h2⟩
theorem greedy_iff : ∀ (ms : List (List UInt8)) (r : List UInt8), greedy ms r = true ↔ E ms r
  | [], _ => by simp [greedy, E]
  | m :: ms, r => by
    simp only [greedy, E]
    cases hf : find m r with
    | none =>
      simp only [Bool.false_eq_true, false_iff]
      rintro ⟨j, h1, _⟩
      have := findFrom_none hf j (Nat.zero_le _) (by simp [at_] at h1; omega)
      rw [this] at h1; cases h1
    | some i =>
      obtain ⟨h1, _, h3⟩ := findFrom_some hf
      simp only [greedy_iff ms]
      constructor
      · exact fun h => ⟨i, h1, h⟩
      · rintro ⟨j, hj, h⟩
        have hij : i ≤ j := by
          rcases Nat.lt_or_ge j i with hlt | hge
          · rw [h3 j (Nat.zero_le _) hlt] at hj; cases hj
          · exact hge
        have hl : j + m.length ≤ r.length := by simp [at_] at hj; exact hj.1
        refine E_mono ms _ (j - i) (by simp; omega) ?_
        rw [List.drop_drop, show i + m.length + (j - i) = j + m.length from by omega]
        exact h

/-- a star, and then the pieces -/
def SM (l : List (List UInt8)) (s : List UInt8) : Prop := ∃ j, j ≤ s.length ∧ gm (unsplit l) (s.drop j) = true

theorem SM_last {t : List UInt8} (ht : (42 : UInt8) ∉ t) (s : List UInt8) : SM [t] s ↔ t.length ≤ s.length ∧ fit t (s.drop (s.length - t.length)) = true := by
  unfold SM
  simp only [unsplit, gm_fit t _ ht]
  constructor
  · rintro ⟨j, hj, h⟩
    have := fit_length h
    simp at this
    refine ⟨by omega, ?_⟩
    rw [show s.length - t.length = j from by omega]; exact h
  · rintro ⟨h1, h2⟩
    exact ⟨_, by omega, h2⟩
theorem gm_cons_piece {m : List UInt8} (hm : (42 : UInt8) ∉ m) {l : List (List UInt8)} (hl : l ≠ []) (s : List UInt8) :
    gm (unsplit (m :: l)) s = true ↔ at_ m s 0 = true ∧ SM l (s.drop m.length) := by
  match l, hl with
  | b :: r, _ =>
    simp only [unsplit]
    rw [show m ++ 42 :: unsplit (b :: r) = m ++ ([42] ++ unsplit (b :: r)) from rfl, gm_append]
    constructor
    · rintro ⟨i, hi, h1, h2⟩
      rw [gm_fit m _ hm] at h1
      have hl := fit_length h1
      simp at hl
      have hi' : i = m.length := by omega
      subst hi'
      refine ⟨by simp [at_, h1]; omega, ?_⟩
      simp only [List.cons_append, List.nil_append, gm, if_true, tails_iff] at h2
      exact h2
    · rintro ⟨h1, h2⟩
      simp [at_] at h1
      refine ⟨m.length, h1.1, by rw [gm_fit m _ hm]; exact h1.2, ?_⟩
      simp only [List.cons_append, List.nil_append, gm, if_true, tails_iff]
      exact h2
theorem at_zero (m s : List UInt8) (j : Nat) (hj : j ≤ s.length) : at_ m (s.drop j) 0 = at_ m s j := by
  simp only [at_, List.length_drop, List.drop_drop, Nat.add_zero]
  rw [Bool.eq_iff_iff]; simp; intro _; omega
theorem SM_cons {m : List UInt8} (hm : (42 : UInt8) ∉ m) {l : List (List UInt8)} (hl : l ≠ []) (s : List UInt8) :
    SM (m :: l) s ↔ ∃ j, at_ m s j = true ∧ SM l (s.drop (j + m.length)) := by
  unfold SM
  constructor
  · rintro ⟨j, hj, h⟩
    obtain ⟨h1, h2⟩ := (gm_cons_piece hm hl _).1 h
    rw [at_zero m s j hj] at h1
    rw [List.drop_drop] at h2
    exact ⟨j, h1, h2⟩
  · rintro ⟨j, h1, h2⟩
    have hj : j + m.length ≤ s.length := by simp [at_] at h1; exact h1.1
    refine ⟨j, by omega, (gm_cons_piece hm hl _).2 ⟨by rw [at_zero m s j (by omega)]; exact h1, ?_⟩⟩
    rw [List.drop_drop]; exact h2
theorem at_take {m s : List UInt8} {j n : Nat} (hn : n ≤ s.length) : at_ m (s.take n) j = (decide (j + m.length ≤ n) && at_ m s j) := by
  simp only [at_, List.length_take]
  by_cases h : j + m.length ≤ n
  · have h1 : j + m.length ≤ min n s.length := by omega
    have h2 : j + m.length ≤ s.length := by omega
    simp only [h, h1, h2, decide_true, Bool.true_and]
    congr 1
    rw [List.drop_take, List.take_take, Nat.min_eq_left (by omega)]
  · have h1 : ¬ j + m.length ≤ min n s.length := by omega
    simp [h, h1]
theorem SM_mids {t : List UInt8} (ht : (42 : UInt8) ∉ t) : ∀ (ms : List (List UInt8)), (∀ m ∈ ms, (42 : UInt8) ∉ m) → ∀ s : List UInt8,
    SM (ms ++ [t]) s ↔ t.length ≤ s.length ∧ fit t (s.drop (s.length - t.length)) = true ∧ E ms (s.take (s.length - t.length))
  | [], _, s => by simp [SM_last ht, E]
  | m :: ms, hms, s => by
    rw [List.cons_append, SM_cons (hms m (by simp)) (by simp)]
    have ih := SM_mids ht ms (fun a ha => hms a (by simp [ha]))
    simp only [ih, E]
    constructor
    · rintro ⟨j, h1, h2, h3, h4⟩
      have hj : j + m.length ≤ s.length := by simp [at_] at h1; exact h1.1
      simp only [List.length_drop] at h2 h3 h4
      rw [List.drop_drop, show j + m.length + (s.length - (j + m.length) - t.length) = s.length - t.length from by omega] at h3
      refine ⟨by omega, h3, j, ?_, ?_⟩
      · rw [at_take (by omega), h1]; simp; omega
      · rw [List.drop_take, show s.length - t.length - (j + m.length) = s.length - (j + m.length) - t.length from by omega]
        exact h4
    · rintro ⟨h2, h3, j, h1, h4⟩
      rw [at_take (by omega)] at h1
      simp only [Bool.and_eq_true, decide_eq_true_eq] at h1
      refine ⟨j, h1.2, ?_, ?_, ?_⟩
      · simp; omega
      · simp only [List.length_drop]
        rw [List.drop_drop, show j + m.length + (s.length - (j + m.length) - t.length) = s.length - t.length from by omega]; exact h3
      · simp only [List.length_drop]
        rw [List.drop_take, show s.length - t.length - (j + m.length) = s.length - (j + m.length) - t.length from by omega] at h4
        exact h4

/-- the program's way over the pieces -/
def way (l : List (List UInt8)) (p s : List UInt8) : Bool :=
  match l with
  | [] => false
  | [_] => fit p s
  | h :: b :: r =>
    let t := (b :: r).getLast (by simp)
    decide (h.length + t.length ≤ s.length) && fit h (s.take h.length) && fit t (s.drop (s.length - t.length)) && greedy (b :: r).dropLast ((s.take (s.length - t.length)).drop h.length)
theorem way_gm (p s : List UInt8) : way (split p) p s = gm p s := by
  have hf := split_free p
  have hu := unsplit_split p
  match hs : split p, split_ne p with
  | [a], _ =>
    rw [hs] at hf hu
    simp only [unsplit] at hu
    subst hu
    simp only [way]
    exact (gm_fit _ _ (hf a (by simp)).1).symm
  | h :: b :: r, _ =>
    rw [hs] at hf hu
    simp only [way]
    conv => rhs; rw [← hu]
    have ht : (42 : UInt8) ∉ (b :: r).getLast (by simp) := (hf _ (List.mem_cons_of_mem _ (List.getLast_mem _))).1
    have hm : ∀ m ∈ (b :: r).dropLast, (42 : UInt8) ∉ m := fun m hm => (hf m (List.mem_cons_of_mem _ (List.dropLast_subset _ hm))).1
    rw [Bool.eq_iff_iff, gm_cons_piece (hf h (by simp)).1 (by simp)]
    conv => rhs; rw [← List.dropLast_concat_getLast (l := b :: r) (by simp)]
    rw [SM_mids ht _ hm]
    generalize (b :: r).getLast (by simp) = t
    generalize (b :: r).dropLast = ms
    simp only [Bool.and_eq_true, decide_eq_true_eq, greedy_iff, at_, List.drop_zero, List.length_drop, List.drop_drop, Nat.zero_add]
    constructor
    · rintro ⟨⟨⟨h1, h2⟩, h3⟩, h4⟩
      refine ⟨⟨by omega, h2⟩, by omega, ?_, ?_⟩
      · rw [show h.length + (s.length - h.length - t.length) = s.length - t.length from by omega]; exact h3
      · rw [List.drop_take, show s.length - t.length - h.length = s.length - h.length - t.length from by omega] at h4; exact h4
    · rintro ⟨⟨h0, h2⟩, h1, h3, h4⟩
      refine ⟨⟨⟨by omega, h2⟩, ?_⟩, ?_⟩
      · rw [show h.length + (s.length - h.length - t.length) = s.length - t.length from by omega] at h3; exact h3
      · rw [List.drop_take, show s.length - t.length - h.length = s.length - h.length - t.length from by omega]; exact h4

/-! ### The table's way -/
theorem gm_snoc_nil (p : List UInt8) (x : UInt8) : gm (p ++ [x]) [] = (gm p [] && x == 42) := by
  rw [Bool.eq_iff_iff, gm_append]
  constructor
  · rintro ⟨i, hi, h1, h2⟩
    simp at hi; subst hi
    simp at h1 h2
    by_cases hx : x = 42
    · simp [h1, hx]
    · simp [gm, hx] at h2
  · intro h
    simp at h
    refine ⟨0, by simp, by simpa using h.1, by simp [gm, h.2, tails]⟩
theorem tails_nil (s : List UInt8) : tails (gm []) s = true := by
  rw [tails_iff]; exact ⟨s.length, Nat.le_refl _, by simp [gm]⟩
theorem gm_star (s : List UInt8) : gm [42] s = true := by simp only [gm, if_true]; exact tails_nil s
theorem gm_snoc_star (p t : List UInt8) (c : UInt8) : gm (p ++ [42]) (t ++ [c]) = (gm p (t ++ [c]) || gm (p ++ [42]) t) := by
  rw [Bool.eq_iff_iff, Bool.or_eq_true, gm_append, gm_append]
  constructor
  · rintro ⟨i, hi, h1, h2⟩
    simp at hi
    rcases Nat.lt_or_ge i (t.length + 1) with hlt | hge
    · refine .inr ⟨i, by omega, ?_, gm_star _⟩
      rw [List.take_append_of_le_length (by omega)] at h1
      exact h1
    · left
      rw [List.take_of_length_le (by simp; omega)] at h1
      exact h1
  · rintro (h | ⟨i, hi, h1, h2⟩)
    · exact ⟨t.length + 1, by simp, by rw [List.take_of_length_le (by simp)]; exact h, gm_star _⟩
    · refine ⟨i, by simp; omega, ?_, gm_star _⟩
      rw [List.take_append_of_le_length (by omega)]
      exact h1
theorem gm_one {x : UInt8} (hx : x ≠ 42) (s : List UInt8) : gm [x] s = true ↔ ∃ c, s = [c] ∧ (x == 63 || x == c) = true := by
  simp only [gm, hx, if_false]
  cases s with
  | nil => simp
  | cons c t => cases t <;> simp
theorem gm_snoc (p t : List UInt8) (c : UInt8) {x : UInt8} (hx : x ≠ 42) : gm (p ++ [x]) (t ++ [c]) = (gm p t && (x == 63 || x == c)) := by
  rw [Bool.eq_iff_iff, Bool.and_eq_true, gm_append]
  constructor
  · rintro ⟨i, hi, h1, h2⟩
    obtain ⟨d, hd, h3⟩ := (gm_one hx _).1 h2
    have hl := congrArg List.length hd
    simp at hl hi
    have hi' : i = t.length := by omega
    subst hi'
    rw [List.take_append_of_le_length (by omega)] at h1
    simp at h1 hd
    subst hd
    exact ⟨h1, h3⟩
  · rintro ⟨h1, h2⟩
    exact ⟨t.length, by simp, by simpa using h1, (gm_one hx _).2 ⟨c, by simp, h2⟩⟩

end Go.Proofs.Ythcbplameonjlaa.G
