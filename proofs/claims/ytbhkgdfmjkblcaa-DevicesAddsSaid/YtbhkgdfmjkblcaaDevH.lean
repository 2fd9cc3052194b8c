/-
  Boxes that are written, the entry of a user, and what put hands back.
-/
import Derived.Test.YtbhkgdfmjkblcaaDevI
import Derived.Test.YtbhkgdfmjkblcaaIdsQ
namespace Go.Proofs.Ytbhkgdfmjkblcaa
open Go.RowKit Go.Maps Go.WideMaps

/-! ### a block of the call's own that holds just these cells -/
def OBox (w : World) (g : Nat) (cs : List Value) : Prop := ∃ t, w.heap[g]? = some (.cells cs.toArray t (0, 0))
theorem OBox.new (w : World) (cs : List Value) (t : TypeId) : OBox (w.alloc (.cells cs.toArray t)) w.heap.size cs := ⟨t, heap_alloc_new _ _⟩
theorem OBox.lt {w : World} {g : Nat} {cs : List Value} (h : OBox w g cs) : g < w.heap.size := by obtain ⟨t, h⟩ := h; exact (Array.getElem?_eq_some_iff.1 h).1
theorem OBox.other {w w' : World} {g : Nat} {cs : List Value} (h : OBox w g cs) (he : w'.heap[g]? = w.heap[g]?) : OBox w' g cs := by
  obtain ⟨t, h⟩ := h
  exact ⟨t, he.trans h⟩
theorem OBox.on {w w' : World} {g : Nat} {cs : List Value} (h : OBox w g cs) (hb : Below w.heap.size w w') : OBox w' g cs := h.other (hb.block g h.lt)
theorem OBox.kept {w w' : World} {g : Nat} {cs : List Value} {row : Option Nat} (h : OBox w g cs) (hg : w.grownBy w' row) (hne : some g ≠ row) : OBox w' g cs := h.other (hg.block g h.lt hne)
theorem OBox.cell {w : World} {g : Nat} {cs : List Value} (h : OBox w g cs) {k : Nat} {v : Value} (hv : cs[k]? = some v) : w.cell? ⟨g, k, none⟩ = some v := by
  obtain ⟨t, h⟩ := h
  rw [cell_of_row w g k cs.toArray t (0, 0) h]; simpa using hv
theorem OBox.free {w : World} {g : Nat} {cs : List Value} (h : OBox w g cs) (k : Nat) : w.frozen? ⟨g, k, none⟩ = false := by
  obtain ⟨t, h⟩ := h
  exact frozen_of_row w g k cs.toArray t h
theorem OBox.set {w : World} {g : Nat} {cs : List Value} (h : OBox w g cs) (k : Nat) (v : Value) : OBox (w.setCell ⟨g, k, none⟩ v) g (cs.set k v) := by
  obtain ⟨t, h⟩ := h
  exact ⟨t, by rw [heap_setCell_same w g k cs.toArray t v h]; simp⟩
theorem grown_setCell (w : World) (q k : Nat) (v : Value) : w.grownBy (w.setCell ⟨q, k, none⟩ v) (some q) :=
  ⟨rfl, rfl, rfl, by simp, fun i _ hi => heap_setCell_other w ⟨q, k, none⟩ i v (fun e => hi (by rw [e]))⟩

/-! ### the entry of a user -/
theorem inc_kv {l : List Kys} : Dv.Inc Dv.uk (l.map kv) ↔ Dv.Inc ku l := by unfold Dv.Inc; rw [List.pairwise_map]; rfl
theorem zKys_ok (w : World) : Rd.kys.Ok w zKys := ⟨Nat.zero_le _, ⟨by decide, by decide⟩, ⟨by decide, by decide⟩, ⟨Rd.Holds.none_, Nat.le_refl _, Nat.zero_le _⟩, trivial⟩
/-- the entry of a user, or nothing -/
def kyOf (l : List Kys) (u : ByteArray) : Kys := (Dv.find ku l (bs u)).getD zKys
structure Got (w : World) (l : List Kys) (u : ByteArray) (K : Kys) (s : Bool) : Prop where
  ok : Rd.kys.Ok w K
  inc : Dv.Inc Dv.dk K.devices.l
  few : K.devices.n ≤ 10
  len : K.devices.l.length = K.devices.n
  kv_ : kv K = Dv.getK (l.map kv) u
  some_ : (Dv.get (l.map kv) u).isSome = s
theorem gotten {w : World} {A : Option Addr} {n : Nat} {l : List Kys} (hr : Rd.kys.Holds w A n l) (hV : Dv.Valid (l.map kv)) (u : ByteArray) : ∃ K s, getV (Dv.find ku l (bs u)) = .tuple #[kyA K, .bool s] ∧ Got w l u K s := by
  refine ⟨(Dv.find ku l (bs u)).getD zKys, (Dv.find ku l (bs u)).isSome, rfl, ?_⟩
  have h1 := kv_getK l u
  have h2 := kv_isSome l u
  cases hf : Dv.find ku l (bs u) with
  | none =>
    rw [hf] at h1 h2
    exact ⟨zKys_ok w, List.Pairwise.nil, Nat.zero_le _, rfl, h1, h2.symm⟩
  | some k =>
    rw [hf] at h1 h2
    obtain ⟨hm, _⟩ := (Dv.find_some_iff (inc_kv.1 hV.inc)).1 hf
    have hE := hV.each (kv k) (List.mem_map.2 ⟨k, hm, rfl⟩)
    have hO := hr.2.2 k hm
    have hl := hO.2.2.2.1.1.length
    exact ⟨hO, hE.inc, by rw [Option.getD_some, ← hl]; exact hE.few, hl, h1, h2.symm⟩
theorem Got.devs {w : World} {l : List Kys} {u : ByteArray} {K : Kys} {s : Bool} (h : Got w l u K s) : Rd.dvc.Holds w K.devices.A K.devices.n K.devices.l := h.ok.2.2.2.1.1
/-- what put hands back, as a list -/
theorem putRes_any (A : Option Addr) (n c : Nat) (l : List Kys) (x : Kys) (w : World) (hr : Rd.kys.Holds w A n l) (hn : n ≤ 1000000) (hc : n ≤ c) (hcm : c ≤ maxLen) (hi : Dv.Inc ku l) (hx : Rd.kys.Ok w x) :
    Calls Try.prog 67 #[.slice A n c, kyA x] w fun e w' => ∃ O co xs, e = .returned (.slice O xs.length co) ∧ Below w.heap.size w w' ∧ Rd.kys.Holds w' O xs.length xs ∧ xs.length ≤ co ∧ co ≤ maxLen ∧ xs.map kv = Dv.put Dv.uk (l.map kv) (kv x) := by
  refine (put_any A n c l x w hr hn hc hcm).mono ?_
  rintro e w' ⟨v, rfl, hb, own⟩
  obtain ⟨O, co, rfl, h1, h2, h3⟩ := own.form (fun y hy => by
    rcases (Dv.mem_put hi).1 hy with rfl | ⟨hy, _⟩
    · exact Rd.kys.on hx hb
    · exact Rd.kys.on (hr.2.2 y hy) hb)
  exact ⟨O, co, _, rfl, hb, h1, h2, h3, kv_put l x⟩
theorem withRes_any (A : Option Addr) (n c : Nat) (l : List Kys) (x : Kys) (w : World) (hr : Rd.kys.Holds w A n l) (hn : n ≤ 1000000) (hc : n ≤ c) (hcm : c ≤ maxLen) (hi : Dv.Inc ku l) (hx : Rd.kys.Ok w x) :
    Calls Try.prog 71 #[.slice A n c, kyA x] w fun e w' => ∃ O co xs, e = .returned (.slice O xs.length co) ∧ Below w.heap.size w w' ∧ Rd.kys.Holds w' O xs.length xs ∧ xs.length ≤ co ∧ co ≤ maxLen ∧ xs.map kv = Dv.put Dv.uk (l.map kv) (kv x) := by
  refine (rwith_any A n c l x w hr hn hc hcm).mono ?_
  rintro e w' ⟨v, rfl, hb, own⟩
  obtain ⟨O, co, rfl, h1, h2, h3⟩ := own.form (fun y hy => by
    rcases (Dv.mem_put hi).1 hy with rfl | ⟨hy, _⟩
    · exact Rd.kys.on hx hb
    · exact Rd.kys.on (hr.2.2 y hy) hb)
  exact ⟨O, co, _, rfl, hb, h1, h2, h3, kv_put l x⟩

/-! ### a map of devices at the operations -/
section
variable {w : World} {b n : Nat} {S : List Dvc} {ops : Array Oper} {rest : List Oper} {o : Oper} {a : Act} {Q : Exit → Act → World → Prop}
theorem wpList_del (hg : o.guard = none) (m x : Operand) (hop : o.op = Op.call { callee := Callee.builtin Builtin.delete, args := #[m, x], argTypes := #[73, 9] })
    (hm : a.eval m = .map (some b)) (h : DMap w b n S) (s : ByteArray) (hs : s.size ≤ maxLen) (hx : a.eval x = .string s)
    (hK : ∀ w', DMap w' b n (S.filter fun d => decide (Dv.dk d ≠ bs s)) → w.grownBy w' (some b) → wpList Try.prog ops Q rest (a.put o.dst (.tuple #[])) w') : wpList Try.prog ops Q (o :: rest) a w := by
  obtain ⟨D, h1, h2⟩ := h
  exact wpList_delete_own w hg m x 73 9 hop 47 keyStr Try.underlying73 devR b n D hm h1 (.string s) (.string (bs s)) hx (keyOf_string_mk Try.underlying9 hs) fun w' h3 h4 => hK w' ⟨_, h3, h2.del (bs s)⟩ h4.grown
end
end Go.Proofs.Ytbhkgdfmjkblcaa
