/-
  The walk through Rules.
-/
import Derived.Test.YthcbplameonjlaaPolN
import Derived.Test.YthcbplameonjlaaEvents
namespace Go.Proofs.Ythcbplameonjlaa
open Go.RowKit
attribute [local go_sem ↓] ex_st_pol
attribute [local go_sem] st_pol_new st_pol

/-! ### an event in a block of the call's own -/
def evA (e : Ev) : Array Value := (Rd.ev.cells e).toArray
def evv (e : Ev) : Value := .agg (evA e)
theorem ex_ld_ev (ρ : Operand → Value) (dst : Option Tmp) (x : Operand) (ty : TypeId) (pos : String) (after : Array Edge) (guard : Option (Nat × Bool)) :
    execOp ρ ⟨dst, .load 59 x, ty, pos, after, guard⟩ = (do pure (.value (← ldC 59 (ρ x)))) := rfl
theorem ex_st_ev (ρ : Operand → Value) (dst : Option Tmp) (x y : Operand) (ty : TypeId) (pos : String) (after : Array Edge) (guard : Option (Nat × Bool)) :
    execOp ρ ⟨dst, .store 59 x y, ty, pos, after, guard⟩ = (do stC 59 (ρ x) (ρ y); pure .skip) := rfl
theorem inf_ev : (Try.prog.info? 59).map (·.size) = some 29 := by kernel_rfl
theorem ld_ev (b o : Nat) (w : World) (h : hasRow w b o 29 = true) : (ldC 59 (.pointer (some ⟨b, o, none⟩))).run Try.prog w = .ok (rowAt w b o 29) w :=
  run_ldC _ _ 29 Try.underlying59 rfl inf_ev b o w h
theorem st_ev_new (W : World) (g : Nat) (c : Array Value) (e : Ev) (hg : g = W.heap.size) (hs : c.size = 29) :
    (stC 59 (.pointer (some ⟨g, 0, none⟩)) (evv e)).run Try.prog (W.alloc (.cells c 59)) = .ok () (W.alloc (.cells (evA e) 59)) :=
  run_stC_new _ W g c (evA e) hg (by rw [inf_ev]; rfl) (by rw [hs]; rfl) (all_oneCell_toArray (Rd.ev.one e))
/-- block q is the event e -/
def EvB (w : World) (q : Nat) (e : Ev) : Prop := w.heap[q]? = some (.cells (evA e) 59)
theorem EvB.new (w : World) (e : Ev) : EvB (w.alloc (.cells (evA e) 59)) w.heap.size e := heap_alloc_new w _
theorem EvB.lt {w : World} {q : Nat} {e : Ev} (h : EvB w q e) : q < w.heap.size := lt_of_obj h
theorem EvB.on {w w' : World} {q : Nat} {e : Ev} (h : EvB w q e) (hb : Below w.heap.size w w') : EvB w' q e := below_obj hb h.lt h
theorem EvB.ne {w : World} {q B : Nat} {e : Ev} {v : Value} {l : List Pol} (h : EvB w q e) (ho : OwnPols w B v l) : some q ≠ v.ownBlock := by
  rcases ho.2 with ⟨rfl, _⟩ | ⟨g, cap, cur, rfl, _, hg, _⟩
  · simp [Value.ownBlock]
  · intro e1
    have : q = g := by simpa [Value.ownBlock] using e1
    subst this
    unfold EvB at h
    rw [h] at hg
    simp only [Option.some.injEq, Obj.cells.injEq] at hg
    exact absurd hg.2.1 (by decide)
theorem EvB.grown {w w' : World} {q : Nat} {e : Ev} {row : Option Nat} (h : EvB w q e) (hg : w.grownBy w' row) (hne : some q ≠ row) : EvB w' q e := (hg.block q h.lt hne).trans h
theorem EvB.cell {w : World} {q : Nat} {e : Ev} (h : EvB w q e) {i : Nat} {v : Value} (hi : (Rd.ev.cells e)[i]? = some v) : w.cell? ⟨q, i, none⟩ = some v := by
  have := cell_of_row w q i (evA e) 59 (0, 0) h
  rw [this]
  simpa [evA] using hi
theorem EvB.c3 {w : World} {q : Nat} {e : Ev} (h : EvB w q e) : w.cell? ⟨q, 3, none⟩ = some (.int .i64 e.kind) := h.cell rfl
theorem EvB.c5 {w : World} {q : Nat} {e : Ev} (h : EvB w q e) : w.cell? ⟨q, 5, none⟩ = some (.string e.key) := h.cell rfl
theorem EvB.c10 {w : World} {q : Nat} {e : Ev} (h : EvB w q e) : w.cell? ⟨q, 10, none⟩ = some (.string e.content.text) := h.cell rfl
theorem EvB.c11 {w : World} {q : Nat} {e : Ev} (h : EvB w q e) : w.cell? ⟨q, 11, none⟩ = some (.int .i64 e.content.n) := h.cell rfl

/-! ### the policies of events, as they come -/
def polOf (e : Ev) : Pol := ⟨e.content.n, e.content.text, e.key⟩
def isRule (e : Ev) : Bool := (e.kind == 9) && !e.content.text.toList.isEmpty
def rul (l : List Ev) : List Pol := (l.filter isRule).map polOf
theorem rul_take {l : List Ev} {k : Nat} {x : Ev} {e0 e1 : Bool} (h : l[k]? = some x) (h0 : (x.kind == 9) = e0) (h1 : x.content.text.toList.isEmpty = e1) : rul (l.take (k + 1)) = if e0 && !e1 then rul (l.take k) ++ [polOf x] else rul (l.take k) := by
  obtain ⟨hk, rfl⟩ := List.getElem?_eq_some_iff.1 h
  unfold rul
  rw [List.take_succ_eq_append_getElem hk, List.filter_append, List.map_append]
  have : isRule l[k] = (e0 && !e1) := by unfold isRule; rw [h0, h1]
  cases e0 <;> cases e1 <;> simp [this]
theorem rul_length (l : List Ev) : (rul l).length ≤ l.length := by
  unfold rul
  rw [List.length_map]; exact List.length_filter_le _ _
theorem ev_polOk {w : World} {e : Ev} (h : Rd.ev.Ok w e) : PolOk [polOf e] := fun x hx => by
  simp at hx
  subst hx
  have hc := h.2.2.2.2.2.2.2.2.2.2.1
  exact ⟨hc.2.1, hc.1, h.2.2.2.2.2.1⟩
theorem rul_ok {w : World} {l : List Ev} (h : ∀ e ∈ l, Rd.ev.Ok w e) : PolOk (rul l) := fun x hx => by
  unfold rul at hx
  rw [List.mem_map] at hx
  obtain ⟨e, he, rfl⟩ := hx
  exact ev_polOk (h e (List.mem_filter.1 he).1) _ (by simp)
attribute [local go_sem ↓] ex_ld_ev ex_st_ev
attribute [local go_sem] ld_ev st_ev_new

set_option maxRecDepth 100000 in
set_option maxHeartbeats 4000000 in
theorem prules_any (A : Option Addr) (n c : Nat) (l : List Ev) (w : World) (hr : Rd.ev.Holds w A n l) (hn : n ≤ 20) :
    Calls Try.prog 23 #[.slice A n c] w fun e w' => ∃ v, e = .returned v ∧ Below w.heap.size w w' ∧ OwnPols w' w.heap.size v (Pl.sort (rul l)) := by
  obtain ⟨i0, hi, hz0, hz1, hz2⟩ := info_parts infoPol
  have HI := Lib.hid hi; have HZ0 := Lib.hid hz0; have HZ1 := Lib.hid hz1; have HZ2 := Lib.hid hz2
  clear hi hz0 hz1 hz2
  have HL := Lib.hid hr.length
  have HOK := Lib.hid hr.2.2
  go_enter Try.func23, Try.ntmps23
  go_wp2_with fail
  go_loopw [3, 8] (fun out i wr => ∃ k : Nat, k ≤ n ∧ i = .int .i64 k ∧ Below w.heap.size w wr ∧ OwnPols wr w.heap.size out (rul (l.take k))) (fun _ i _ => n - (intOf i).toNat)
  case atStart => exact ⟨0, by omega, rfl, Below.refl _ _, OwnPols.nil _ _⟩
  case round =>
    obtain ⟨k, hk, rfl, hbw, hown⟩ := hrel
    by_cases hkn : k < n
    · obtain ⟨b, o, x, rfl, hbl, hu, hmem, _, hxa⟩ := (hr.on hbw).mid (by decide) hkn
      obtain ⟨hh, hv⟩ := row_of hxa (Rd.ev.len x)
      have hv' : rowAt wr b (o + k * 29) 29 = evv x := hv
      have hh' : hasRow wr b (o + k * 29) 29 = true := hh
      have hlen : (rul (l.take k)).length ≤ k := Nat.le_trans (rul_length _) (List.length_take_le _ _)
      obtain ⟨e0, h0⟩ : ∃ e, (x.kind == 9) = e := ⟨_, rfl⟩
      obtain ⟨e1, h1⟩ : ∃ e, x.content.text.toList.isEmpty = e := ⟨_, rfl⟩
      have hF := rul_take hu h0 h1
      have HX : Hid (PolOk [polOf x]) := Lib.hid (ev_polOk (HOK.out x hmem))
      generalize rul (l.take k) = L at hown hF hlen
      have HF := Lib.hid hF
      clear hxa hu hF hh hv hmem
      go_upto_region 5 with fail
      have bx := EvB.new wr x
      have hbo := below_alloc (Below.refl wr.heap.size wr) (.cells (evA x) 59)
      have hown2 := hown.on hbo
      generalize wr.alloc (.cells (evA x) 59) = wx at bx hbo hown2 ⊢
      have hbx := below_then hbw hbo
      obtain ⟨q, hq⟩ : ∃ q, wr.heap.size = q := ⟨_, rfl⟩
      rw [hq] at bx ⊢
      clear hq hh' hv' hbo hown hbw
      have p3 := bx.c3
      have p5 := bx.c5
      have p10 := bx.c10
      have p11 := bx.c11
      clear bx
      cases e0 <;> cases e1
      case true.false =>
        have HE : Hid (rul (l.take (k + 1)) = L ++ [polOf x]) := Lib.hid (by rw [HF.out]; rfl)
        have hB3 := hbx.size
        go_wp2_with (at_builtin; refine app_rows rfl (.tmp 21) (.tmp 31) 22 rfl w.heap.size 37 i0 _ 3 40 Try.underlying22 HI.out HZ0.out HZ1.out HZ2.out rfl (by decide) (by decide) _ L.length (Rd.pol.rows L) rfl (owns_on hown2 (below_alloc (Below.refl _ _) _)) _ (some ⟨wx.heap.size, 0, none⟩) 1 1 [.int .i64 x.content.n, .string x.content.text, .string x.key] rfl (pol_new HX.out) ?a2 ?a3 ?a4 ?_)
        case a2 => exact Rd.pol.one (polOf x)
        case a3 => omega
        case a4 => simp; omega
        intro v4 w4 hown4 hg4
        have hb4 : Below w.heap.size w w4 := (below_alloc hbx _).grown hg4 (by simp; omega) (fun j hj => (World.ownsRow.lt hown2 _ hj).1)
        have hfin := own_snoc (x := polOf x) rfl hown4
        rw [← HE.out] at hfin
        clear hown4 hg4 hown2 hbx hB3
        go_wp2_with fail
        exact ⟨⟨k + 1, by omega, by go_num, hb4, hfin⟩, by simp [intOf]; omega⟩
      all_goals
        have HE : Hid (rul (l.take (k + 1)) = L) := Lib.hid (by rw [HF.out]; rfl)
        rw [← HE.out] at hown2
        have HO := Lib.hid hown2
        clear hown2
        go_wp2_with fail
        exact ⟨⟨k + 1, by omega, by go_num, hbx, HO.out⟩, by simp [intOf]; omega⟩
    · have hlk : l.take k = l := List.take_of_length_le (by have := HL.out; omega)
      rw [hlk] at hown
      clear hlk
      have hlen : (rul l).length ≤ 20 := Nat.le_trans (rul_length _) (by have := HL.out; omega)
      obtain ⟨L, hLL⟩ : ∃ L, rul l = L := ⟨_, rfl⟩
      have HU : Hid (Pl.sort (rul l) = Pl.sort L) := Lib.hid (by rw [hLL])
      rw [hLL] at hown hlen
      clear hLL
      have HO := Lib.hid hown
      go_wp2_with fail
      refine (sortStable_any w.heap.size _ L wr HO.out hlen).mono ?_
      rintro e w1 ⟨rfl, own1, g1⟩
      have hfin : Below w.heap.size w w1 := hbw.grown g1 hbw.size (fun j hj => (World.ownsRow.lt HO.out _ hj).1)
      clear g1 hown HO
      go_wp2_with fail
      go_ret
      exact ⟨_, rfl, hfin, by rw [HU.out]; exact own1⟩
end Go.Proofs.Ythcbplameonjlaa
