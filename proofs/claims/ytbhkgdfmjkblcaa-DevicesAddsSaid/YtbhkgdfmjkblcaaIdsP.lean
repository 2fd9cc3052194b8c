/-
  The plain mathematics of identifiers: what a local part, a server name and an identifier is. No program in sight.
-/
import Derived.WalkKit
namespace Go.Proofs.Ytbhkgdfmjkblcaa.I

def letterB (c : UInt8) : Bool := (decide (97 ≤ c.toNat) && decide (c.toNat ≤ 122)) || (decide (48 ≤ c.toNat) && decide (c.toNat ≤ 57))
def locX (c : UInt8) : Bool := c == 95 || c == 46 || c == 45 || c == 61
def srvX (c : UInt8) : Bool := c == 46 || c == 45
def locC (c : UInt8) : Bool := letterB c || locX c
def srvC (c : UInt8) : Bool := letterB c || srvX c
def validB (f : UInt8 → Bool) (l : List UInt8) : Bool := decide (1 ≤ l.length) && decide (l.length ≤ 32) && l.all f
def localB (l : List UInt8) : Bool := validB locC l
def serverB (l : List UInt8) : Bool := validB srvC l && l.head?.any letterB && l.getLast?.any letterB
/-- the place of the first colon, or the length -/
def colonAt (l : List UInt8) : Nat := l.findIdx (· == 58)
def parts (l : List UInt8) : Option (List UInt8 × List UInt8) :=
  if (decide (colonAt l < l.length) && localB (l.take (colonAt l)) && serverB (l.drop (colonAt l + 1))) = true then some (l.take (colonAt l), l.drop (colonAt l + 1)) else none
def ident (mark : UInt8) : List UInt8 → Option (List UInt8 × List UInt8)
  | [] => none
  | m :: t => if m = mark then parts t else none
def both (l : List UInt8) : Option (List UInt8 × List UInt8) := match ident 64 l with
  | some x => some x
  | none => ident 33 l
def errOf (b : Bool) : Int := if b then 0 else 3
def userB (l : List UInt8) : Bool := (ident 64 l).isSome
def roomB (l : List UInt8) : Bool := (ident 33 l).isSome
def serverOf (l : List UInt8) : List UInt8 := match both l with
  | some x => x.2
  | none => []
def localOf (l : List UInt8) : List UInt8 := match both l with
  | some x => x.1
  | none => []
def glue (mark : UInt8) (a b : List UInt8) : List UInt8 := mark :: (a ++ 58 :: b)
def makeB (mark : UInt8) (a b : List UInt8) : Bool := (mark == 64 || mark == 33) && localB a && serverB b
def make (mark : UInt8) (a b : List UInt8) : List UInt8 := if makeB mark a b then glue mark a b else []

theorem no_colon_loc {c : UInt8} (h : locC c = true) : c ≠ 58 := by
  rintro rfl; revert h; decide
theorem no_colon_srv {c : UInt8} (h : srvC c = true) : c ≠ 58 := by
  rintro rfl; revert h; decide
theorem validB_all {f : UInt8 → Bool} {l : List UInt8} (h : validB f l = true) : ∀ c ∈ l, f c = true := by
  simp only [validB, Bool.and_eq_true, List.all_eq_true] at h; exact h.2
theorem validB_len {f : UInt8 → Bool} {l : List UInt8} (h : validB f l = true) : 1 ≤ l.length ∧ l.length ≤ 32 := by
  simp only [validB, Bool.and_eq_true, decide_eq_true_eq] at h; exact h.1
theorem serverB_valid {l : List UInt8} (h : serverB l = true) : validB srvC l = true := by
  simp only [serverB, Bool.and_eq_true] at h; exact h.1.1
theorem colonAt_glue {a : List UInt8} (b : List UInt8) (h : ∀ c ∈ a, c ≠ 58) : colonAt (a ++ 58 :: b) = a.length := by
  induction a with
  | nil => simp [colonAt, List.findIdx_cons]
  | cons x a ih =>
    have hx : (x == 58) = false := by simpa using h x (by simp)
    simp only [colonAt, List.cons_append, List.findIdx_cons, hx, cond_false, List.length_cons]
    have := ih (fun c hc => h c (by simp [hc]))
    simp only [colonAt] at this
    omega
theorem colonAt_le (l : List UInt8) : colonAt l ≤ l.length := List.findIdx_le_length
theorem colonAt_get {l : List UInt8} (h : colonAt l < l.length) : l[colonAt l] = 58 := by
  have := List.findIdx_getElem (p := fun c : UInt8 => c == 58) (xs := l) (w := h)
  exact eq_of_beq this
theorem colonAt_not {l : List UInt8} {k : Nat} (h : k < colonAt l) (hl : k < l.length) : l[k] ≠ 58 := by
  have := List.not_of_lt_findIdx (p := fun c : UInt8 => c == 58) (xs := l) h
  simpa using this
theorem colonAt_is {l : List UInt8} {k : Nat} (hk : k < l.length) (h1 : l[k] = 58) (h2 : ∀ j (hj : j < k), l[j]'(by omega) ≠ 58) : colonAt l = k := by
  rw [colonAt, List.findIdx_eq hk]
  exact ⟨by simpa using h1, fun j hj => by simpa using h2 j hj⟩
theorem colonAt_none {l : List UInt8} (h : ∀ c ∈ l, c ≠ 58) : colonAt l = l.length := by
  rw [colonAt]; rw [List.findIdx_eq_length]; intro x hx; simpa using h x hx
theorem parts_glue {a b : List UInt8} (ha : localB a = true) (hb : serverB b = true) : parts (a ++ 58 :: b) = some (a, b) := by
  have hc := colonAt_glue (a := a) b (fun c hc => no_colon_loc (validB_all ha c hc))
  unfold parts
  rw [hc, List.take_left, show (a ++ 58 :: b).drop (a.length + 1) = b from by rw [← List.drop_drop, List.drop_left]; rfl]
  rw [if_pos (by simp [ha, hb])]
theorem parts_some {l a b : List UInt8} (h : parts l = some (a, b)) : l = a ++ 58 :: b ∧ localB a = true ∧ serverB b = true := by
  unfold parts at h
  split at h
  · rename_i hc
    simp only [Bool.and_eq_true, decide_eq_true_eq] at hc
    simp only [Option.some.injEq, Prod.mk.injEq] at h
    obtain ⟨rfl, rfl⟩ := h
    refine ⟨?_, hc.1.2, hc.2⟩
    have h1 := colonAt_get hc.1.1
    conv => lhs; rw [← List.take_append_drop (colonAt l) l, List.drop_eq_getElem_cons hc.1.1, h1]
  · cases h
theorem ident_glue {m : UInt8} {a b : List UInt8} (ha : localB a = true) (hb : serverB b = true) : ident m (glue m a b) = some (a, b) := by
  simp [ident, glue, parts_glue ha hb]
theorem ident_some {m : UInt8} {l a b : List UInt8} (h : ident m l = some (a, b)) : l = glue m a b ∧ localB a = true ∧ serverB b = true := by
  cases l with
  | nil => cases h
  | cons x t =>
    simp only [ident] at h
    split at h
    · rename_i hx
      obtain ⟨h1, h2⟩ := parts_some h
      exact ⟨by rw [h1, hx]; rfl, h2⟩
    · cases h
theorem ident_other {m m' : UInt8} {l : List UInt8} (h : (ident m l).isSome = true) (hm : m ≠ m') : ident m' l = none := by
  cases l with
  | nil => rfl
  | cons x t =>
    simp only [ident] at h ⊢
    split at h
    · rename_i hx; subst hx; rw [if_neg hm]
    · cases h
/-- the reference's way to make: join first, then look -/
theorem made_ident (m : UInt8) (a b : List UInt8) (mk : UInt8) : (ident mk (glue m a b)).isSome = (m == mk && localB a && serverB b) := by
  rw [Bool.eq_iff_iff]
  constructor
  · intro h
    obtain ⟨⟨a', b'⟩, h⟩ := Option.isSome_iff_exists.1 h
    obtain ⟨h1, h2, h3⟩ := ident_some h
    simp only [glue, List.cons.injEq] at h1
    obtain ⟨h0, h1⟩ := h1
    have e1 : a = a' := by
      by_cases hc : ∀ c ∈ a, c ≠ 58
      · have e := congrArg colonAt h1
        rw [colonAt_glue b hc, colonAt_glue b' (fun c hc => no_colon_loc (validB_all h2 c hc))] at e
        have := congrArg (List.take a.length) h1
        rw [List.take_left, e, List.take_left] at this
        exact this
      · exfalso
        obtain ⟨c, hc⟩ := Classical.not_forall.1 hc
        obtain ⟨hc, h6⟩ := Classical.not_imp.1 hc
        obtain rfl := Classical.not_not.1 h6
        obtain ⟨x, y, rfl⟩ := List.append_of_mem hc
        -- the server part would hold a colon
        have hcnt := congrArg (List.count 58) h1
        have h4 : List.count 58 a' = 0 := List.count_eq_zero.2 fun hm => no_colon_loc (validB_all h2 58 hm) rfl
        have h5 : List.count 58 b' = 0 := List.count_eq_zero.2 fun hm => no_colon_srv (validB_all (serverB_valid h3) 58 hm) rfl
        simp only [List.count_append, List.count_cons_self, h4, h5] at hcnt
        omega
    subst e1
    have h1 := List.append_cancel_left h1
    simp only [List.cons.injEq, true_and] at h1
    subst h1
    simp [h0, h2, h3]
  · intro h
    simp only [Bool.and_eq_true, beq_iff_eq] at h
    rw [h.1.1, ident_glue h.1.2 h.2]; rfl
theorem both_glue {m : UInt8} (hm : m = 64 ∨ m = 33) {a b : List UInt8} (ha : localB a = true) (hb : serverB b = true) : both (glue m a b) = some (a, b) := by
  rcases hm with rfl | rfl
  · simp only [both, ident_glue ha hb]
  · have : ident 64 (glue 33 a b) = none := ident_other (m := 33) (by rw [ident_glue ha hb]; rfl) (by decide)
    simp only [both, this, ident_glue ha hb]
theorem both_some {l a b : List UInt8} (h : both l = some (a, b)) : ∃ m, (m = 64 ∨ m = 33) ∧ l = glue m a b ∧ localB a = true ∧ serverB b = true := by
  unfold both at h
  split at h
  · rename_i x hx
    simp only [Option.some.injEq] at h
    subst h
    exact ⟨64, .inl rfl, ident_some hx⟩
  · exact ⟨33, .inr rfl, ident_some h⟩
theorem both_isSome (l : List UInt8) : (both l).isSome = (userB l || roomB l) := by
  unfold both userB roomB
  cases h : ident 64 l <;> simp
theorem serverB_ne {l : List UInt8} (h : serverB l = true) : l ≠ [] := by
  have := (validB_len (serverB_valid h)).1
  intro e; subst e; simp at this
theorem localB_ne {l : List UInt8} (h : localB l = true) : l ≠ [] := by
  have := (validB_len h).1
  intro e; subst e; simp at this
end Go.Proofs.Ytbhkgdfmjkblcaa.I
