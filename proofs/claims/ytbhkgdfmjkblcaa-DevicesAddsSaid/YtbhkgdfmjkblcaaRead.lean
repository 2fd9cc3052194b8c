/-
  How Go's data lies in cells, once for all types of this seat: strings, numbers, bools, structs and slices of whatever elements. No function of the program in sight.
-/
import Derived.Test.YtbhkgdfmjkblcaaBase
import Derived.Deep.Slices
import Derived.ChangeArms
import Derived.OpenShut
import Derived.WideShapes
namespace Go.Proofs.Ytbhkgdfmjkblcaa
open Go.RowKit Go.ChangeShapes Go.WideShapes

/-- how the values of a type lie in cells; 'Ok w x': what x refers to in the world w is as x says -/
structure Rd (α : Type) where
  size : Nat
  cells : α → List Value
  Ok : World → α → Prop
  len : ∀ x, (cells x).length = size
  on : ∀ {w w' : World} {x : α}, Ok w x → Below w.heap.size w w' → Ok w' x
  one : ∀ x, ∀ u ∈ cells x, u.oneCell' = true

/-- a slice: where it lies, its length and capacity, and its elements -/
structure Sl (α : Type) where
  A : Option Addr
  n : Nat
  c : Nat
  l : List α
def Sl.val {α : Type} (s : Sl α) : Value := .slice s.A s.n s.c

section
variable {α β γ : Type} {w w' : World}
def Rd.rows (r : Rd α) (l : List α) : List Value := l.flatMap r.cells
theorem Rd.rows_nil (r : Rd α) : r.rows [] = [] := rfl
theorem Rd.rows_append (r : Rd α) (a b : List α) : r.rows (a ++ b) = r.rows a ++ r.rows b := by simp [Rd.rows]
theorem Rd.rows_one (r : Rd α) (x : α) : r.rows [x] = r.cells x := by simp [Rd.rows]
theorem Rd.rows_length (r : Rd α) : ∀ l : List α, (r.rows l).length = l.length * r.size
  | [] => by simp [Rd.rows]
  | x :: l => by
    have := Rd.rows_length r l
    simp only [Rd.rows, List.flatMap_cons, List.length_append, List.length_cons, r.len] at *
    rw [this, Nat.add_mul, Nat.one_mul, Nat.add_comm]
theorem Rd.rows_one' (r : Rd α) (l : List α) : ∀ u ∈ r.rows l, u.oneCell' = true := by
  intro u hu
  obtain ⟨x, _, hx⟩ := List.mem_flatMap.1 hu
  exact r.one x u hx
theorem Rd.rows_at (r : Rd α) : ∀ {l : List α} {k : Nat} {x : α} {j : Nat} {u : Value}, l[k]? = some x → (r.cells x)[j]? = some u → (r.rows l)[k * r.size + j]? = some u
  | [], k, x, j, u, h, _ => by simp at h
  | y :: l, 0, x, j, u, h, hu => by
    simp at h; subst h
    have hj := (List.getElem?_eq_some_iff.1 hu).1
    simp only [Rd.rows, List.flatMap_cons, Nat.zero_mul, Nat.zero_add]
    rw [List.getElem?_append_left hj, hu]
  | y :: l, k + 1, x, j, u, h, hu => by
    simp only [List.getElem?_cons_succ] at h
    have := Rd.rows_at r h hu
    simp only [Rd.rows, List.flatMap_cons] at *
    rw [List.getElem?_append_right (by rw [r.len, Nat.add_mul]; omega), r.len, ← this]
    congr 1
    rw [Nat.add_mul, Nat.one_mul]; omega
theorem Rd.rows_drop (r : Rd α) (l : List α) (k : Nat) : (r.rows l).drop (k * r.size) = r.rows (l.drop k) := by
  by_cases hk : k ≤ l.length
  · have h : r.rows l = r.rows (l.take k) ++ r.rows (l.drop k) := by rw [← Rd.rows_append, List.take_append_drop]
    rw [h, List.drop_append_of_le_length (by rw [Rd.rows_length, List.length_take, Nat.min_eq_left hk]; exact Nat.le_refl _),
      List.drop_of_length_le (by rw [Rd.rows_length, List.length_take, Nat.min_eq_left hk]; exact Nat.le_refl _), List.nil_append]
  · rw [List.drop_of_length_le (by rw [Rd.rows_length]; exact Nat.mul_le_mul_right _ (by omega)), List.drop_of_length_le (l := l) (by omega)]; rfl
theorem Rd.rows_take (r : Rd α) (l : List α) (k : Nat) : (r.rows l).take (k * r.size) = r.rows (l.take k) := by
  by_cases hk : k ≤ l.length
  · have h : r.rows l = r.rows (l.take k) ++ r.rows (l.drop k) := by rw [← Rd.rows_append, List.take_append_drop]
    rw [h, List.take_append_of_le_length (by rw [Rd.rows_length, List.length_take, Nat.min_eq_left hk]; exact Nat.le_refl _),
      List.take_of_length_le (by rw [Rd.rows_length, List.length_take, Nat.min_eq_left hk]; exact Nat.le_refl _)]
  · rw [List.take_of_length_le (by rw [Rd.rows_length]; exact Nat.mul_le_mul_right _ (by omega)), List.take_of_length_le (l := l) (by omega)]

/-- '.slice A n c' reads as the list l -/
def Rd.Holds (r : Rd α) (w : World) (A : Option Addr) (n : Nat) (l : List α) : Prop :=
  Reads w w.heap.size r.size A n (r.rows l) ∧ l.length = n ∧ ∀ x ∈ l, r.Ok w x
theorem Rd.Holds.length {r : Rd α} {A : Option Addr} {n : Nat} {l : List α} (h : r.Holds w A n l) : l.length = n := h.2.1
theorem Rd.Holds.on {r : Rd α} {A : Option Addr} {n : Nat} {l : List α} (h : r.Holds w A n l) (hb : Below w.heap.size w w') : r.Holds w' A n l :=
  ⟨Reads.on h.1 hb, h.2.1, fun x hx => r.on (h.2.2 x hx) hb⟩
theorem Rd.Holds.drewN {r : Rd α} {A : Option Addr} {n : Nat} {l : List α} (h : r.Holds w A n l) (k : Nat) : r.Holds (w.drewN k) A n l := h.on (below_drewN (Below.refl _ _) k)
theorem Rd.Holds.none_ {r : Rd α} : r.Holds w none 0 [] := ⟨Reads.none_, rfl, by simp⟩
theorem Rd.Holds.at_ {r : Rd α} {A : Option Addr} {n : Nat} {l : List α} (h : r.Holds w A n l) {k : Nat} (hk : k < n) :
    ∃ ad x, A = some ad ∧ ad.block < w.heap.size ∧ l[k]? = some x ∧ x ∈ l ∧ r.Ok w x ∧ ∀ j u, (r.cells x)[j]? = some u → w.cell? (ad.add (k * r.size + j)) = some u := by
  obtain ⟨hr, hl, ho⟩ := h
  obtain ⟨ad, e, hb, hc⟩ := hr.2 (by omega)
  have hkl : k < l.length := by omega
  have hx : l[k]? = some l[k] := List.getElem?_eq_getElem hkl
  exact ⟨ad, l[k], e, hb, hx, List.getElem_mem hkl, ho _ (List.getElem_mem hkl), fun j u hu => hc _ u (r.rows_at hx hu)⟩
theorem Rd.Holds.cut {r : Rd α} {A : Option Addr} {n : Nat} {l : List α} (h : r.Holds w A n l) {k cap : Nat} (hk : k ≤ n) (hc : n ≤ cap) :
    r.Holds w (if cap = k then A else A.map (·.add (k * r.size))) (n - k) (l.drop k) := by
  refine ⟨?_, by rw [List.length_drop, h.2.1], fun x hx => h.2.2 x (List.mem_of_mem_drop hx)⟩
  have := Reads.cut h.1 hk hc
  rwa [Rd.rows_drop] at this
theorem Rd.Holds.front {r : Rd α} {A : Option Addr} {n : Nat} {l : List α} (h : r.Holds w A n l) {k : Nat} (hk : k ≤ n) : r.Holds w A k (l.take k) := by
  refine ⟨?_, by rw [List.length_take, h.2.1, Nat.min_eq_left hk], fun x hx => h.2.2 x (List.mem_of_mem_take hx)⟩
  have := Reads.front h.1 hk
  rwa [Rd.rows_take] at this
/-- a slice literal -/
theorem Rd.Holds.new (r : Rd α) (w : World) (cs : Array Value) (t : TypeId) (l : List α) (n : Nat) (h : cs = (r.rows l).toArray) (hn : n = l.length) (ho : ∀ x ∈ l, r.Ok w x) :
    r.Holds (w.alloc (.cells cs t)) (some ⟨w.heap.size, 0, none⟩) n l := by
  subst h hn
  refine ⟨⟨r.rows_length l, fun _ => ⟨_, rfl, by simp, fun j u hj => ?_⟩⟩, rfl, fun x hx => r.on (ho x hx) (below_alloc (Below.refl _ _) _)⟩
  have : (⟨w.heap.size, 0, none⟩ : Addr).add j = ⟨w.heap.size, j, none⟩ := by unfold Addr.add; split <;> simp_all
  rw [this, World.cell?_alloc_new]
  simpa using hj

/-! ### the types -/
def Rd.str : Rd ByteArray := ⟨1, fun s => [.string s], fun _ s => s.size ≤ maxLen, fun _ => rfl, fun h _ => h, by intro x u hu; simp at hu; subst hu; rfl⟩
def Rd.i64 : Rd Int := ⟨1, fun n => [.int .i64 n], fun _ n => -9223372036854775808 ≤ n ∧ n ≤ 9223372036854775807, fun _ => rfl, fun h _ => h, by intro x u hu; simp at hu; subst hu; rfl⟩
def Rd.bool : Rd Bool := ⟨1, fun b => [.bool b], fun _ _ => True, fun _ => rfl, fun h _ => h, by intro x u hu; simp at hu; subst hu; rfl⟩
def Rd.unit : Rd Unit := ⟨0, fun _ => [], fun _ _ => True, fun _ => rfl, fun h _ => h, by simp⟩
def Rd.pair (a : Rd α) (b : Rd β) : Rd (α × β) :=
  ⟨a.size + b.size, fun x => a.cells x.1 ++ b.cells x.2, fun w x => a.Ok w x.1 ∧ b.Ok w x.2, fun _ => by rw [List.length_append, a.len, b.len], fun h hb => ⟨a.on h.1 hb, b.on h.2 hb⟩,
    fun x u hu => by rcases List.mem_append.1 hu with h | h; exact a.one _ u h; exact b.one _ u h⟩
def Rd.slice (r : Rd α) : Rd (Sl α) :=
  ⟨1, fun s => [s.val], fun w s => r.Holds w s.A s.n s.l ∧ s.n ≤ s.c ∧ s.c ≤ maxLen, fun _ => rfl, fun h hb => ⟨h.1.on hb, h.2⟩, by intro x u hu; simp at hu; subst hu; rfl⟩
/-- the same cells, under another type's name -/
def Rd.as (r : Rd α) (f : β → α) : Rd β := ⟨r.size, fun x => r.cells (f x), fun w x => r.Ok w (f x), fun _ => r.len _, fun h hb => r.on h hb, fun _ u hu => r.one _ u hu⟩

/-- '.slice A n c' as a slice of strings -/
theorem rows_str : ∀ l : List ByteArray, Rd.str.rows l = strs l
  | [] => rfl
  | x :: l => by
    have := rows_str l
    simp only [Rd.rows, strs, List.flatMap_cons, List.map_cons] at *
    rw [this]; rfl
theorem holds_str {A : Option Addr} {n : Nat} {l : List ByteArray} (h : Rd.str.Holds w A n l) : Strs w A n l := by
  rw [Strs, ← rows_str]; exact h.1
end

/-! ### what came in -/
section
variable {α β : Type} {P : Program} {W : World}
/-- whatever reads at the type t lies as r says -/
def Opens (P : Program) (W : World) (r : Rd α) (t : TypeId) : Prop :=
  ∀ (H : Type) (enc : TypeId × Value → H) (sp : Nat → Bool) (fuel : Nat) (cs : List Value) (x : DataW H × List MemPlace), DataW.trod enc P W 0 sp true fuel t cs = some x → ∃ v, cs = r.cells v ∧ r.Ok W v
theorem opens_str {t : TypeId} (ht : P.underlying t = some .string) : Opens P W Rd.str t := by
  intro H enc sp fuel cs x h
  obtain ⟨s, h1, _, h3⟩ := DataW.trod_string ht h
  exact ⟨s, h1, h3⟩
theorem opens_i64 {t : TypeId} (ht : P.underlying t = some (.int .i64)) : Opens P W Rd.i64 t := by
  intro H enc sp fuel cs x h
  obtain ⟨n, h1, _, h3⟩ := DataW.trod_int ht h
  refine ⟨n, h1, ?_⟩
  simp [Lit.wf, IntKind.min, IntKind.max, IntKind.signed, IntKind.bits] at h3
  exact ⟨by omega, by omega⟩
theorem opens_bool {t : TypeId} (ht : P.underlying t = some .bool) : Opens P W Rd.bool t := by
  intro H enc sp fuel cs x h
  obtain ⟨b, h1, _⟩ := DataW.trod_bool ht h
  exact ⟨b, h1, trivial⟩
theorem opens_slice {r : Rd α} {t e : TypeId} (ht : P.underlying t = some (.slice e)) (hc : P.cellsOf e = r.size) (hs : 0 < r.size) (he : Opens P W r e) : Opens P W (Rd.slice r) t := by
  intro H enc sp fuel cs x h
  rcases Go.Deep.open_slice ht h with ⟨rfl, _⟩ | ⟨a, len, cap, m, n, D, Pl, rfl, _, hl, hm, hmm, _, hx⟩
  · exact ⟨⟨none, 0, 0, []⟩, rfl, Rd.Holds.none_, Nat.le_refl _, Nat.zero_le _⟩
  have hlm : len ≤ m := by rw [hmm]; split <;> omega
  have each : ∀ i, i < len → ∃ v, r.Ok W v ∧ ∀ j u, (r.cells v)[j]? = some u → W.cell? ((a.add (i * r.size)).add j) = some u := fun i hi => by
    obtain ⟨cs', h1, h2⟩ := hx i (by omega)
    obtain ⟨v, rfl, hv⟩ := he _ _ _ _ _ _ h2
    obtain ⟨_, hlen, hat⟩ := World.cells?_some h1
    refine ⟨v, hv, fun j u hj => ?_⟩
    have hjl := (List.getElem?_eq_some_iff.1 hj).1
    rw [← hc, hat j (by omega)]; exact hj
  rcases Nat.eq_zero_or_pos len with h0 | h0
  · subst h0
    exact ⟨⟨some a, 0, cap, []⟩, rfl, ⟨⟨by simp [Rd.rows], fun h => absurd (show 0 < 0 from h) (by omega)⟩, rfl, by simp⟩, hl, hm⟩
  obtain ⟨v0, _⟩ := each 0 h0
  haveI : Inhabited α := ⟨v0⟩
  obtain ⟨f, hf⟩ := Go.Deep.choose_lt each
  have hfl : ((List.range len).map f).length = len := by simp
  refine ⟨⟨some a, len, cap, (List.range len).map f⟩, rfl, ⟨⟨by rw [Rd.rows_length, hfl], fun _ => ⟨a, rfl, ?_, fun j u hj => ?_⟩⟩, hfl, fun x hx => ?_⟩, hl, hm⟩
  · have hz : 0 < (r.cells (f 0)).length := by rw [r.len]; exact hs
    have := (hf 0 h0).2 0 _ (List.getElem?_eq_getElem hz)
    have := World.block_lt_of_cell? _ _ this
    rwa [block_of_add, block_of_add] at this
  · have hjl := (List.getElem?_eq_some_iff.1 hj).1
    rw [Rd.rows_length, hfl] at hjl
    have hi : j / r.size < len := by rwa [Nat.div_lt_iff_lt_mul hs]
    have hmod := Nat.mod_lt j hs
    have hjj : j / r.size * r.size + j % r.size = j := by rw [Nat.mul_comm]; exact Nat.div_add_mod j r.size
    have hget : ((List.range len).map f)[j / r.size]? = some (f (j / r.size)) := by simp [hi]
    have hcl : j % r.size < (r.cells (f (j / r.size))).length := by rw [r.len]; exact hmod
    have h1 := r.rows_at hget (List.getElem?_eq_getElem hcl)
    rw [hjj, hj] at h1
    have h2 := (hf _ hi).2 _ _ (List.getElem?_eq_getElem hcl)
    rw [add_of_add, hjj] at h2
    rw [h2, Option.some.inj h1]
  · obtain ⟨i, hi, rfl⟩ := List.mem_map.1 hx
    exact (hf i (List.mem_range.1 hi)).1

/-- the fields of a struct, from the cell 'off' on -/
def OpensFs (P : Program) (W : World) (fs : List Field) (off : Nat) (r : Rd α) : Prop :=
  ∀ (H : Type) (enc : TypeId × Value → H) (sp : Nat → Bool) (n : Nat) (cs : List Value), cs.length = off + r.size →
    (∀ f ∈ fs, ∃ y, DataW.trod enc P W 0 sp true n f.type ((cs.drop f.offset).take (P.cellsOf f.type)) = some y) → ∃ v, cs.drop off = r.cells v ∧ r.Ok W v
theorem opens_nil {off : Nat} : OpensFs P W [] off Rd.unit := by
  intro H enc sp n cs hl _
  refine ⟨(), List.drop_of_length_le (by rw [hl]; exact Nat.le_refl _), trivial⟩
theorem opens_cons {f : Field} {fs : List Field} {off : Nat} {r : Rd α} {q : Rd β} (ho : f.offset = off) (hc : P.cellsOf f.type = r.size) (hf : Opens P W r f.type) (hfs : OpensFs P W fs (off + r.size) q) :
    OpensFs P W (f :: fs) off (Rd.pair r q) := by
  intro H enc sp n cs hl h
  obtain ⟨y, hy⟩ := h f (by simp)
  rw [ho, hc] at hy
  obtain ⟨v, hv, hok⟩ := hf _ _ _ _ _ _ hy
  obtain ⟨u, hu, hok2⟩ := hfs H enc sp n cs (by rw [hl, Nat.add_assoc]; rfl) (fun g hg => h g (by simp [hg]))
  refine ⟨(v, u), ?_, hok, hok2⟩
  show cs.drop off = r.cells v ++ q.cells u
  rw [← hv, ← hu, ← List.drop_drop, List.take_append_drop]
theorem opens_struct {fs : List Field} {r : Rd α} {t : TypeId} (ht : P.underlying t = some (.struct fs.toArray)) (hc : P.cellsOf t = r.size) (h : OpensFs P W fs 0 r) : Opens P W r t := by
  intro H enc sp fuel cs x hx
  obtain ⟨xs, n, _, _, hl, hxl, hf⟩ := DataW.trod_struct ht hx
  refine h H enc sp n cs (by rw [hl, hc, Nat.zero_add]) fun f hfm => ?_
  obtain ⟨i, hi, rfl⟩ := List.mem_iff_getElem.1 hfm
  have := hf i fs[i] (by simp [hi])
  have hxi : i < xs.length := by rw [hxl]; simpa using hi
  exact ⟨xs[i], by rw [this, List.getElem?_eq_getElem hxi]⟩
/-- under another type's name -/
theorem Opens.as {r : Rd α} {t : TypeId} (h : Opens P W r t) (q : Rd β) (g : α → β) (hc : ∀ x, r.cells x = q.cells (g x)) (ho : ∀ x, r.Ok W x → q.Ok W (g x)) : Opens P W q t := by
  intro H enc sp fuel cs x hx
  obtain ⟨v, rfl, hv⟩ := h _ _ _ _ _ _ hx
  exact ⟨g v, hc v, ho v hv⟩

/-- a slice that came in as an argument -/
theorem open_sl {r : Rd α} {t e : TypeId} (hO : Opens P W (Rd.slice r) t) (ht : P.underlying t = some (.slice e)) {H : Type} {enc : TypeId × Value → H} {rc : Reach} {b0 : Nat} {sp : Nat → Bool} {v : Value} {d : DataW H} {ps : List MemPlace}
    (hv : Value.okWide P W rc b0 t v) (h : DataW.Trod enc P W 0 sp true t v d ps) :
    ∃ (A : Option Addr) (n c : Nat) (l : List α), v = .slice A n c ∧ n ≤ c ∧ c ≤ maxLen ∧ r.Holds W A n l := by
  obtain ⟨A, n, c, rfl⟩ := okWide_slice ht hv
  obtain ⟨fuel, hf⟩ := h
  obtain ⟨s, hs, hok⟩ := hO _ _ _ _ _ _ hf
  have : Value.slice A n c = s.val := by simpa [Value.cells, Rd.slice] using hs
  exact ⟨s.A, s.n, s.c, s.l, this, hok.2.1, hok.2.2, hok.1⟩
/-- a struct that came in as an argument -/
theorem open_st {r : Rd α} {t : TypeId} {fs : Array Field} (hO : Opens P W r t) (ht : P.underlying t = some (.struct fs)) {H : Type} {enc : TypeId × Value → H} {rc : Reach} {b0 : Nat} {sp : Nat → Bool} {v : Value} {d : DataW H} {ps : List MemPlace}
    (hv : Value.okWide P W rc b0 t v) (h : DataW.Trod enc P W 0 sp true t v d ps) :
    ∃ x : α, v = .agg (r.cells x).toArray ∧ r.Ok W x := by
  obtain ⟨cs, rfl, hsz⟩ := okWide_struct ht hv
  obtain ⟨fuel, hf⟩ := h
  obtain ⟨x, hx, hok⟩ := hO _ _ _ _ _ _ hf
  refine ⟨x, ?_, hok⟩
  have : cs.toList = r.cells x := by simpa [Value.cells] using hx
  rw [← this]
end
end Go.Proofs.Ytbhkgdfmjkblcaa
