/-
  Whole structs read out of, and laid into, memory: loads from the midst of a block, stores into the block that was made last.
-/
import Derived.Test.YtbhkgdfmjkblcaaRead
import Derived.Deep.MidRow
import Derived.Deep.WholeRow
namespace Go.Proofs.Ytbhkgdfmjkblcaa
open Go.RowKit

/-- an element's address: what 'at_' gives, in the form in which a walk writes it -/
theorem Rd.Holds.mid {α : Type} {r : Rd α} {w : World} {A : Option Addr} {n : Nat} {l : List α} (h : r.Holds w A n l) (hs : 0 < r.size) {k : Nat} (hk : k < n) :
    ∃ b o x, A = some ⟨b, o, none⟩ ∧ b < w.heap.size ∧ l[k]? = some x ∧ x ∈ l ∧ r.Ok w x ∧ w.rangeAt b (o + k * r.size) (r.cells x) := by
  obtain ⟨ad, y, rfl, _, _, _, _, hc0⟩ := h.at_ (show 0 < n by omega)
  obtain ⟨b, o, sp⟩ := ad
  have hsp : sp = none := by
    have hz : 0 < (r.cells y).length := by rw [r.len]; exact hs
    have h0 := hc0 0 _ (List.getElem?_eq_getElem hz)
    cases sp with
    | none => rfl
    | some s =>
      exfalso
      simp only [Addr.add, Nat.zero_mul, Nat.add_zero, if_true] at h0
      unfold World.cell? at h0
      split at h0
      · simp at h0
      · cases h0
  subst hsp
  obtain ⟨_, x, h', hb, hx, hm, hok, hc⟩ := h.at_ hk
  cases h'
  refine ⟨b, o, x, rfl, hb, hx, hm, hok, fun j u hj => ?_⟩
  have := hc j u hj
  rwa [Addr.add_mid, ← Nat.add_assoc] at this

/-! ### a whole struct, read at once -/
/-- n cells are there from o on -/
def hasRow (w : World) (b o n : Nat) : Bool := (List.range n).all fun i => (w.cell? ⟨b, o + i, none⟩).isSome
/-- what they hold -/
def rowAt (w : World) (b o n : Nat) : Value := .agg ((List.range n).map fun i => (w.cell? ⟨b, o + i, none⟩).getD undef).toArray
theorem row_of {w : World} {b o n : Nat} {cs : List Value} (h : w.rangeAt b o cs) (hn : cs.length = n) : hasRow w b o n = true ∧ rowAt w b o n = .agg cs.toArray := by
  subst hn
  refine ⟨?_, ?_⟩
  · unfold hasRow
    rw [List.all_eq_true]
    intro i hi
    rw [h i _ (List.getElem?_eq_getElem (List.mem_range.1 hi))]; rfl
  · unfold rowAt
    have : (List.range cs.length).map (fun i => (w.cell? ⟨b, o + i, none⟩).getD undef) = cs := by
      apply List.ext_getElem (by simp)
      intro i h1 h2
      rw [List.getElem_map, List.getElem_range, h i _ (List.getElem?_eq_getElem h2)]; rfl
    rw [this]
theorem range_of {w : World} {b o n : Nat} (h : hasRow w b o n = true) : w.rangeAt b o ((List.range n).map fun i => (w.cell? ⟨b, o + i, none⟩).getD undef) := by
  intro j v hj
  unfold hasRow at h
  rw [List.all_eq_true] at h
  have hjn : j < n := by have := (List.getElem?_eq_some_iff.1 hj).1; simpa using this
  have := h j (List.mem_range.2 hjn)
  obtain ⟨u, hu⟩ := Option.isSome_iff_exists.1 this
  rw [List.getElem?_map, List.getElem?_range hjn] at hj
  simp only [Option.map_some, hu, Option.getD_some, Option.some.injEq] at hj
  rw [hu, hj]
/-- 'Instr.loadAt', kept whole -/
def ldC (t : TypeId) (v : Value) : Sem Value := Instr.loadAt t v
theorem run_ldC {P : Program} (ty : TypeId) (d : TypeDesc) (n : Nat) (hu : P.underlying ty = some d) (hd : d.isRow = true) (hi : (P.info? ty).map (·.size) = some n) (b o : Nat) (w : World) (h : hasRow w b o n = true) :
    (ldC ty (.pointer (some ⟨b, o, none⟩))).run P w = .ok (rowAt w b o n) w :=
  run_loadAt_mid w b o ty _ d (range_of h) hu hd (by rw [hi]; simp)
/-- 'store', kept whole: into a block of just these cells -/
def stC (t : TypeId) (a v : Value) : Sem Unit := Instr.storeAt t a v
theorem range_on {w w' : World} {b o : Nat} {cs : List Value} (h : w.rangeAt b o cs) (hb : Below w.heap.size w w') (hl : b < w.heap.size) : w'.rangeAt b o cs := fun j v hj => (hb.cell (p := ⟨b, o + j, none⟩) hl).trans (h j v hj)
theorem range_new (w : World) (cs : List Value) (t : TypeId) : (w.alloc (.cells cs.toArray t)).rangeAt w.heap.size 0 cs := fun j v hj => by
  rw [Nat.zero_add, World.cell?_alloc_new]; simpa using hj
theorem range_sub {w : World} {b o : Nat} {cs : List Value} (h : w.rangeAt b o cs) (j n : Nat) : w.rangeAt b (o + j) ((cs.drop j).take n) := fun i v hi => by
  rw [List.getElem?_take] at hi
  split at hi
  · rw [List.getElem?_drop] at hi
    have := h (j + i) v hi
    rwa [← Nat.add_assoc] at this
  · cases hi
/-- a store, kept whole: into the block that was made last -/
theorem run_stC_new {P : Program} (ty : TypeId) (W : World) (g : Nat) (c c' : Array Value) (hg : g = W.heap.size) (hi : (P.info? ty).map (·.size) = some c'.size) (hs : c.size = c'.size) (h1 : c'.all (·.oneCell') = true) :
    (stC ty (.pointer (some ⟨g, 0, none⟩)) (.agg c')).run P (W.alloc (.cells c ty)) = .ok () (W.alloc (.cells c' ty)) := by
  subst hg; exact run_storeAt_new W ty c c' hi hs h1
/-- n cells of block g are there, and may be written -/
def thereB (w : World) (g n : Nat) : Bool := (List.range n).all fun j => (w.cell? ⟨g, j, none⟩).isSome && !w.frozen? ⟨g, j, none⟩
theorem there_of {w : World} {g n : Nat} (h : thereB w g n = true) : w.there g 0 n := fun j hj => by
  unfold thereB at h
  rw [List.all_eq_true] at h
  have := h j (List.mem_range.2 hj)
  simp only [Bool.and_eq_true, Bool.not_eq_true'] at this
  rw [Nat.zero_add]; exact this
theorem thereB_of {w : World} {g n : Nat} (h : w.there g 0 n) : thereB w g n = true := by
  unfold thereB
  rw [List.all_eq_true]
  intro j hj
  have := h j (List.mem_range.1 hj)
  rw [Nat.zero_add] at this
  rw [this.1, this.2]; rfl
theorem thereB_alloc {w : World} {g n : Nat} (h : thereB w g n = true) (o : Obj) : thereB (w.alloc o) g n = true := thereB_of (World.there_alloc (there_of h) o)
theorem thereB_new (w : World) (c : Array Value) (t : TypeId) (n : Nat) (hn : n = c.size) : thereB (w.alloc (.cells c t)) w.heap.size n = true := by
  subst hn
  refine thereB_of fun j hj => ?_
  rw [Nat.zero_add, World.cell?_alloc_new]
  exact ⟨by simp [hj], frozen_of_row _ _ _ _ t (heap_alloc_new w _)⟩
theorem thereB_on {w w' : World} {g n : Nat} (h : thereB w g n = true) (hg : g < w.heap.size) (hb : Below w.heap.size w w') : thereB w' g n = true := by
  refine thereB_of fun j hj => ?_
  rw [hb.cell (p := ⟨g, 0 + j, none⟩) hg, hb.frozen (p := ⟨g, 0 + j, none⟩) hg]
  exact there_of h j hj
/-- the cells cs, laid into block g -/
@[irreducible] def putRow (w : World) (g : Nat) (cs : List Value) : World := w.setCells g 0 cs
theorem run_stC_mid {P : Program} (ty : TypeId) (W : World) (g : Nat) (c' : Array Value) (ht : thereB W g c'.size = true) (hi : (P.info? ty).map (·.size) = some c'.size) (h1 : c'.all (·.oneCell') = true) :
    (stC ty (.pointer (some ⟨g, 0, none⟩)) (.agg c')).run P W = .ok () (putRow W g c'.toList) := by
  unfold putRow; exact run_storeAt_mid W g 0 ty c' (there_of ht) hi h1
theorem below_setCells {B g : Nat} {a : World} (hg : B ≤ g) : ∀ (vs : List Value) (o : Nat) {w : World}, Below B a w → Below B a (w.setCells g o vs)
  | [], _, _, h => h
  | v :: vs, o, _, h => below_setCells hg vs (o + 1) (Below.setCell h (p := ⟨g, o, none⟩) hg v)
theorem range_put {w : World} {g : Nat} {cs : List Value} (h : thereB w g cs.length = true) : (putRow w g cs).rangeAt g 0 cs := by
  unfold putRow; exact World.rangeAt_setCells_same w g 0 cs (there_of h)
theorem below_put {B g : Nat} {a w : World} {cs : List Value} (hg : B ≤ g) (h : Below B a w) : Below B a (putRow w g cs) := by
  unfold putRow; exact below_setCells hg cs 0 h
/-- two results, the first a struct in a cell -/
theorem results_cell_tmp {P : Program} {fn : Func} {p q : Tmp} {ty : TypeId} (h : fn.results = #[.cell p ty, .tmp q]) (tmps : Array Value) (w : World) (g : Nat) (cs : List Value) (d : TypeDesc)
    (hp : tmps.getD p undef = .pointer (some ⟨g, 0, none⟩)) (hr : w.rangeAt g 0 cs) (hu : P.underlying ty = some d) (hd : d.isRow = true) (hi : (P.info? ty).map (·.size) = some cs.length) :
    (results fn tmps).run P w = .ok (.tuple #[.agg cs.toArray, tmps.getD q undef]) w := by
  have hp' : tmps[p]?.getD undef = .pointer (some ⟨g, 0, none⟩) := by simpa using hp
  simp [results, h, hp', asAddr, run_loadVar_mid w g 0 ty cs d hr hu hd hi]
/-- the struct 'cs' lies in block g -/
structure Box (w : World) (g : Nat) (cs : List Value) : Prop where
  lt : g < w.heap.size
  at_ : w.rangeAt g 0 cs
theorem Box.on {w w' : World} {g : Nat} {cs : List Value} (h : Box w g cs) (hb : Below w.heap.size w w') : Box w' g cs := ⟨Nat.lt_of_lt_of_le h.lt hb.size, range_on h.at_ hb h.lt⟩
theorem Box.new (w : World) (cs : List Value) (t : TypeId) : Box (w.alloc (.cells cs.toArray t)) w.heap.size cs := ⟨by simp, range_new w cs t⟩
theorem Box.has {w : World} {g n : Nat} {cs : List Value} (h : Box w g cs) (hn : cs.length = n) : hasRow w g 0 n = true := (row_of h.at_ hn).1
theorem Box.val {w : World} {g n : Nat} {cs : List Value} (h : Box w g cs) (hn : cs.length = n) : rowAt w g 0 n = .agg cs.toArray := (row_of h.at_ hn).2

section
variable {P : Program} {ops : Array Oper} {rest : List Oper} {op : Oper} {a : Act} {w : World} {Q : Exit → Act → World → Prop}
/-- a whole struct laid into the block that was made last -/
theorem wpList_store_new (hgd : op.guard = none) (ty : TypeId) (x y : Operand) (ho : op.op = .store ty x y) (c c' : Array Value) (hx : a.eval x = .pointer (some ⟨w.heap.size, 0, none⟩)) (hy : a.eval y = .agg c')
    (hi : (P.info? ty).map (·.size) = some c'.size) (hs : c.size = c'.size) (h1 : c'.all (·.oneCell') = true)
    (h : wpList P ops Q rest (a.put op.dst undef) (w.alloc (.cells c' ty))) : wpList P ops Q (op :: rest) a (w.alloc (.cells c ty)) :=
  wpList_plain hgd fun _ hK => by
    unfold Oper.wp execOp
    simp only [ho, hx, hy, Sem.run_bind, run_storeAt_new w ty c c' hi hs h1, Result.andThen_ok, Sem.run_pure]
    exact hK _ _ h
end
end Go.Proofs.Ytbhkgdfmjkblcaa
