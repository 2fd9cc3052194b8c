/-
  The walk through the reference's Rules: it puts each policy in its place.
-/
import Derived.Test.YthcbplameonjlaaPolJ
import Derived.Deep.QuietTactic
namespace Go.Proofs.Ythcbplameonjlaa
open Go.RowKit
attribute [local go_sem ↓] ex_st_pol ex_ld_ev ex_st_ev
attribute [local go_sem] ld_ev st_ev_new

/-! ### a list while it is moved on by one place -/
def GapP (l m : List Pol) (j : Nat) : Prop := ∃ g, m = l.take j ++ g :: l.drop j
theorem GapP.start (l : List Pol) (g : Pol) : GapP l (l ++ [g]) l.length := ⟨g, by simp⟩
theorem GapP.step {l m : List Pol} {j : Nat} (h : GapP l m (j + 1)) (hj : j < l.length) : ∃ y, m[j]? = some y ∧ GapP l (m.set (j + 1) y) j := by
  obtain ⟨g, rfl⟩ := h
  refine ⟨l[j], ?_, l[j], ?_⟩
  · rw [List.getElem?_append_left (by simp; omega), List.getElem?_take, if_pos (by omega), List.getElem?_eq_getElem hj]
  · have hl : (l.take (j + 1)).length = j + 1 := by simp; omega
    rw [List.set_append_right _ _ (by omega), hl, Nat.sub_self, List.set_cons_zero, List.take_succ_eq_append_getElem hj, List.append_assoc, List.drop_eq_getElem_cons hj]
    rfl
theorem GapP.fill {l m : List Pol} {k : Nat} (h : GapP l m k) (hk : k ≤ l.length) (x : Pol) : m.set k x = l.take k ++ x :: l.drop k := by
  obtain ⟨g, rfl⟩ := h
  have hl : (l.take k).length = k := by simp; omega
  rw [List.set_append_right _ _ (by omega), hl, Nat.sub_self, List.set_cons_zero]
theorem GapP.length {l m : List Pol} {j : Nat} (h : GapP l m j) : m.length = l.length + 1 := by
  obtain ⟨g, rfl⟩ := h
  simp; omega

/-! ### a policy laid into a row of the call's own -/
theorem rows_set : ∀ (m : List Pol) (j : Nat) (x : Pol), Rd.pol.rows (m.set j x) = (((Rd.pol.rows m).set (j * 3) (.int .i64 x.about)).set (j * 3 + 1) (.string x.pattern)).set (j * 3 + 2) (.string x.reason)
  | [], j, x => by simp [Rd.rows]
  | y :: m, 0, x => by
    show Rd.pol.rows (x :: m) = _
    simp only [Rd.rows, List.flatMap_cons, Nat.zero_mul, Nat.zero_add]
    rfl
  | y :: m, j + 1, x => by
    have ih := rows_set m j x
    simp only [List.set_cons_succ, Rd.rows, List.flatMap_cons] at *
    rw [ih]
    have e : (j + 1) * 3 = j * 3 + 3 := by omega
    rw [e]
    rfl
def thereAt (w : World) (g o n : Nat) : Bool := (List.range n).all fun j => (w.cell? ⟨g, o + j, none⟩).isSome && !w.frozen? ⟨g, o + j, none⟩
theorem there_at {w : World} {g o n : Nat} (h : thereAt w g o n = true) : w.there g o n := fun j hj => by
  unfold thereAt at h
  rw [List.all_eq_true] at h
  have := h j (List.mem_range.2 hj)
  simpa only [Bool.and_eq_true, Bool.not_eq_true'] using this
@[irreducible] def putAt (w : World) (g o : Nat) (cs : List Value) : World := w.setCells g o cs
theorem st_pol_at (W : World) (g o : Nat) (k : Int) (p r : ByteArray) (h : thereAt W g o 3 = true) : (stC 37 (.pointer (some ⟨g, o, none⟩)) (.agg #[.int .i64 k, .string p, .string r])).run Try.prog W = .ok () (putAt W g o [.int .i64 k, .string p, .string r]) := by
  unfold putAt
  exact run_storeAt_mid W g o 37 #[.int .i64 k, .string p, .string r] (there_at h) (by rw [inf_pol]; rfl) (by simp [Value.oneCell'])
theorem below_putAt {B g o : Nat} {a w : World} {cs : List Value} (hg : B ≤ g) (h : Below B a w) : Below B a (putAt w g o cs) := by
  unfold putAt; exact below_setCells hg cs o h
theorem OwnPols.put {w : World} {B g cap n : Nat} {m : List Pol} (h : OwnPols w B (.slice (some ⟨g, 0, none⟩) n cap) m) (hn : n = m.length) (j : Nat) (x : Pol) :
    OwnPols (putAt w g (j * 3) [.int .i64 x.about, .string x.pattern, .string x.reason]) B (.slice (some ⟨g, 0, none⟩) n cap) (m.set j x) := by
  subst hn
  have h1 := (World.ownsRow.stored h (j * 3) (.int .i64 x.about)).1
  have h2 := (World.ownsRow.stored h1 (j * 3 + 1) (.string x.pattern)).1
  have h3 := (World.ownsRow.stored h2 (j * 3 + 2) (.string x.reason)).1
  unfold OwnPols putAt
  rw [List.length_set, rows_set]
  exact h3
theorem OwnPols.at_ {w : World} {B g cap n : Nat} {m : List Pol} (h : OwnPols w B (.slice (some ⟨g, 0, none⟩) n cap) m) (hn : n = m.length) {j : Nat} {y : Pol} (hy : m[j]? = some y) :
    w.cell? ⟨g, j * 3, none⟩ = some (.int .i64 y.about) ∧ w.cell? ⟨g, j * 3 + 1, none⟩ = some (.string y.pattern) ∧ w.cell? ⟨g, j * 3 + 2, none⟩ = some (.string y.reason) := by
  subst hn
  have hj := (List.getElem?_eq_some_iff.1 hy).1
  refine ⟨?_, ?_, ?_⟩
  · rw [World.ownsRow.cellAt h _ (by omega)]; exact Rd.rows_at Rd.pol (j := 0) hy rfl
  · rw [World.ownsRow.cellAt h _ (by omega)]; exact Rd.rows_at Rd.pol (j := 1) hy rfl
  · rw [World.ownsRow.cellAt h _ (by omega)]; exact Rd.rows_at Rd.pol (j := 2) hy rfl
theorem OwnPols.there {w : World} {B g cap n : Nat} {m : List Pol} (h : OwnPols w B (.slice (some ⟨g, 0, none⟩) n cap) m) (hn : n = m.length) {j : Nat} (hj : j < m.length) : thereAt w g (j * 3) 3 = true := by
  subst hn
  unfold thereAt
  rw [List.all_eq_true]
  intro i hi
  have hi3 : i < 3 := List.mem_range.1 hi
  rw [World.ownsRow.cellAt h _ (by omega), World.ownsRow.frozenAt h, List.getElem?_eq_getElem (by rw [Rd.rows_length]; show _ < m.length * 3; omega)]
  rfl
theorem OwnPols.base {w : World} {B g cap n : Nat} {l : List Pol} (h : OwnPols w B (.slice (some ⟨g, 0, none⟩) n cap) l) : B ≤ g := (World.ownsRow.lt h g rfl).1
theorem heap_setCells_other {q g : Nat} (hne : q ≠ g) : ∀ (vs : List Value) (o : Nat) (w : World), (w.setCells g o vs).heap[q]? = w.heap[q]?
  | [], _, _ => rfl
  | v :: vs, o, w => (heap_setCells_other hne vs (o + 1) (w.setCell ⟨g, o, none⟩ v)).trans (heap_setCell_other w ⟨g, o, none⟩ q v hne)
theorem EvB.put {w : World} {q g o : Nat} {e : Ev} {cs : List Value} (h : EvB w q e) (hne : q ≠ g) : EvB (putAt w g o cs) q e := by
  unfold putAt
  exact (heap_setCells_other hne cs o w).trans h
theorem lr_leq {x y : Pol} {e1 e2 : Bool} (h1 : Op.bytesLess y.reason.toList x.reason.toList = e1) (h2 : (y.reason.toList == x.reason.toList) = e2) : Pl.lr x y = !(e1 || e2) := by
  rw [bytesLess_lt] at h1
  rw [streq] at h2
  subst h1 h2
  unfold Pl.lr
  rcases Nm.lt_or (bs y.reason) (bs x.reason) with h | h | h
  · rw [decide_eq_true h, decide_eq_false fun k => Nm.lt_irrefl _ (Nm.lt_trans h k)]; rfl
  · rw [h, decide_eq_false (Nm.lt_irrefl _), decide_eq_true rfl]; rfl
  · rw [decide_eq_true h, decide_eq_false fun k => Nm.lt_irrefl _ (Nm.lt_trans h k), decide_eq_false fun k => by rw [k] at h; exact Nm.lt_irrefl _ h]; rfl
abbrev zP : Pol := ⟨0, ⟨#[]⟩, ⟨#[]⟩⟩
theorem zP_ok : PolOk [zP] := fun x hx => by
  simp at hx
  subst hx
  exact ⟨by decide, by decide, by decide⟩
def KInvP (L : List Pol) (x : Pol) (wo : World) (j : Value) (wq : World) : Prop :=
  ∃ jn t : Nat, j = .int .i64 jn ∧ jn ≤ L.length ∧ (∀ i y, L[i]? = some y → i < jn → Pl.lr x y = false) ∧ Hid (wq = wo.drewN t)
def GapInvP (w : World) (L : List Pol) (e : Ev) (q g cap jn : Nat) (j : Value) (wq : World) : Prop :=
  ∃ (jj : Nat) (m : List Pol), j = .int .i64 jj ∧ jn ≤ jj ∧ jj ≤ L.length ∧ OwnPols wq w.heap.size (.slice (some ⟨g, 0, none⟩) (L.length + 1) cap) m ∧ GapP L m jj ∧ Below w.heap.size w wq ∧ EvB wq q e
def RRulesInv (w : World) (l : List Ev) (out i : Value) (wr : World) : Prop :=
  ∃ k : Nat, k ≤ l.length ∧ i = .int .i64 k ∧ Below w.heap.size w wr ∧ OwnPols wr w.heap.size out (Pl.sort (rul (l.take k)))
attribute [local go_sem] st_pol_at

set_option maxRecDepth 100000 in
set_option maxHeartbeats 8000000 in
theorem rrules_any (A : Option Addr) (n c : Nat) (l : List Ev) (w : World) (hr : Rd.ev.Holds w A n l) (hn : n ≤ 1000000) :
    Calls Try.prog 24 #[.slice A n c] w fun e w' => ∃ v, e = .returned v ∧ Below w.heap.size w w' ∧ OwnPols w' w.heap.size v (Pl.sort (rul l)) := by
  obtain ⟨i0, hi, hz0, hz1, hz2⟩ := info_parts infoPol
  have HI := Lib.hid hi; have HZ0 := Lib.hid hz0; have HZ1 := Lib.hid hz1; have HZ2 := Lib.hid hz2
  clear hi hz0 hz1 hz2
  have HL := Lib.hid hr.length
  have HOK := Lib.hid hr.2.2
  go_enter Try.func24, Try.ntmps24
  go_wp2_with fail
  go_loopw [3, 4] (fun out i wr => RRulesInv w l out i wr) (fun _ i _ => n - (intOf i).toNat)
  case atStart => exact ⟨0, by omega, rfl, Below.refl _ _, by rw [List.take_zero]; exact OwnPols.nil _ _⟩
  case round =>
    obtain ⟨k, hk, rfl, hbw, hown⟩ := hrel
    by_cases hkn : k < n
    · obtain ⟨b, o, x, rfl, hbl, hu, hmem, _, hxa⟩ := (hr.on hbw).mid (by decide) hkn
      obtain ⟨hh, hv⟩ := row_of hxa (Rd.ev.len x)
      have hv' : rowAt wr b (o + k * 29) 29 = evv x := hv
      have hh' : hasRow wr b (o + k * 29) 29 = true := hh
      have hk0 : (k : Int) < n := by omega
      have hk1 : k + 1 ≤ l.length := by have := HL.out; omega
      have hlen : (Pl.sort (rul (l.take k))).length ≤ k := by rw [Pl.sort_length]; exact Nat.le_trans (rul_length _) (List.length_take_le _ _)
      obtain ⟨e0, h0⟩ : ∃ e, (x.kind == 9) = e := ⟨_, rfl⟩
      obtain ⟨e1, h1⟩ : ∃ e, x.content.text.toList.isEmpty = e := ⟨_, rfl⟩
      have hF := rul_take hu h0 h1
      have HX : Hid (PolOk [polOf x]) := Lib.hid (ev_polOk (HOK.out x hmem))
      have hokL : PolOk (Pl.sort (rul (l.take k))) := fun y hy => rul_ok (fun e he => HOK.out e (List.mem_of_mem_take he)) y (Pl.mem_sort.1 hy)
      have HSN := Lib.hid (Pl.sort_snoc (rul (l.take k)) (polOf x))
      have HF := Lib.hid hF
      clear hxa hu hF hh hv hmem
      go_upto_region 6 with fail
      have bx := EvB.new wr x
      have hbo := below_alloc (Below.refl wr.heap.size wr) (.cells (evA x) 59)
      have hown2 := hown.on hbo
      generalize wr.alloc (.cells (evA x) 59) = wx at bx hbo hown2 ⊢
      have hbx := below_then hbw hbo
      obtain ⟨q, hq⟩ : ∃ q, wr.heap.size = q := ⟨_, rfl⟩
      rw [hq] at bx ⊢
      clear hq hh' hv' hbo hown hbw
      have p3 := bx.c3
      have p5 := bx.c5
      have p10 := bx.c10
      cases e0
      case false =>
        have hN : (x.kind != 9) = true := by rw [bne, h0]; rfl
        have HE : Hid (Pl.sort (rul (l.take (k + 1))) = Pl.sort (rul (l.take k))) := Lib.hid (by rw [HF.out]; rfl)
        have HFIN : Hid (RRulesInv w l u3 (.int .i64 ((k : Int) + 1)) wx) := Lib.hid ⟨k + 1, hk1, by go_num, hbx, by rw [HE.out]; exact hown2⟩
        clear hown2 hbx h0 bx
        go_wp2_with fail
        exact ⟨HFIN.out, by simp [intOf]; omega⟩
      have hN : (x.kind != 9) = false := by rw [bne, h0]; rfl
      cases e1
      case true =>
        have HE : Hid (Pl.sort (rul (l.take (k + 1))) = Pl.sort (rul (l.take k))) := Lib.hid (by rw [HF.out]; rfl)
        have HFIN : Hid (RRulesInv w l u3 (.int .i64 ((k : Int) + 1)) wx) := Lib.hid ⟨k + 1, hk1, by go_num, hbx, by rw [HE.out]; exact hown2⟩
        clear hown2 hbx h0 bx
        go_wp2_with fail
        exact ⟨HFIN.out, by simp [intOf]; omega⟩
      have HS : Hid (Pl.sort (rul (l.take (k + 1))) = Pl.put (Pl.sort (rul (l.take k))) (polOf x)) := Lib.hid (by rw [HF.out, ← HSN.out]; rfl)
      clear h0 HSN HF
      generalize Pl.sort (rul (l.take k)) = L at hown2 hlen hokL HS
      obtain ⟨O, cp, rfl, hro, _⟩ := hown2.form hokL
      obtain ⟨wo, rfl⟩ : ∃ wo : World, wo = wx := ⟨_, rfl⟩
      go_wp2_with fail
      clear p3 p10 hN
      go_loopw [6] (fun j wq => KInvP L (polOf x) wo j wq) (fun j _ => L.length - (intOf j).toNat)
      case atStart => exact ⟨0, 0, rfl, by omega, fun i y _ h => by omega, rfl⟩
      case round =>
        obtain ⟨jn, t, rfl, hjn, hless, ht⟩ := hrel
        obtain rfl := ht.out
        clear ht
        by_cases hj : jn < L.length
        · obtain ⟨b2, o2, y, rfl, hbl2, hy, _, _, hya⟩ := hro.mid (by decide) hj
          have z2 : wo.cell? ⟨b2, o2 + jn * 3 + 2, none⟩ = some (.string y.reason) := hya 2 _ rfl
          have y2 : (wo.drewN t).cell? ⟨b2, o2 + jn * 3 + 2, none⟩ = some (.string y.reason) := z2
          have x5 : (wo.drewN t).cell? ⟨q, 5, none⟩ = some (.string x.key) := p5
          have hji : (jn : Int) < L.length := by omega
          obtain ⟨f1, g1⟩ : ∃ e, Op.bytesLess y.reason.toList x.key.toList = e := ⟨_, rfl⟩
          obtain ⟨f2, g2⟩ : ∃ e, (y.reason.toList == x.key.toList) = e := ⟨_, rfl⟩
          have hl := lr_leq (x := polOf x) g1 g2
          cases f1 <;> cases f2
          case false.false =>
            have HPUT := Lib.hid (Pl.put_at hless hjn (fun z hz => by rw [hy] at hz; cases hz; exact hl))
            clear hya hl hy hless
            go_wp2_with fail
            go_quiet (fail)
            clear y2 x5 z2 g1 g2 hji
            have hownW : OwnPols ((wo.drewN t).drewN nq) w.heap.size _ L := hown2
            have hbW : Below w.heap.size w ((wo.drewN t).drewN nq) := below_drewN (below_drewN hbx _) _
            have hEW : EvB ((wo.drewN t).drewN nq) q x := bx
            have HINS : Hid (Pl.sort (rul (l.take (k + 1))) = L.take jn ++ polOf x :: L.drop jn) := Lib.hid (by rw [HS.out, HPUT.out])
            clear hown2 hbx bx hro HPUT HS p5
            generalize (wo.drewN t).drewN nq = W at hownW hbW hEW ⊢
            have hBW := hbW.size
            go_wp2_with (at_builtin; refine app_rows rfl (.tmp 43) (.tmp 45) 22 rfl w.heap.size 37 i0 _ 3 40 Try.underlying22 HI.out HZ0.out HZ1.out HZ2.out rfl (by decide) (by decide) _ L.length (Rd.pol.rows L) rfl (owns_on hownW (below_alloc (Below.refl _ _) _)) _ (some ⟨W.heap.size, 0, none⟩) 1 1 [.int .i64 0, .string ⟨#[]⟩, .string ⟨#[]⟩] rfl (pol_new (x := zP) zP_ok) ?a2 ?a3 ?a4 ?_)
            case a2 => exact Rd.pol.one zP
            case a3 => omega
            case a4 => simp; omega
            intro v' w2 hown2' hgrow
            have hb2 : Below w.heap.size w w2 := (below_alloc hbW _).grown hgrow (by simp; omega) (fun j hj => (World.ownsRow.lt hownW _ hj).1)
            have hown3 := own_snoc (x := zP) rfl hown2'
            have hE2 : EvB w2 q x := (hEW.on (below_alloc (Below.refl _ _) _)).grown hgrow (hEW.ne hownW)
            obtain ⟨g, cap', rfl, hgB, _⟩ := World.ownsRow.form hown2' (by omega)
            clear hown2' hgrow hownW hbW hBW hEW
            go_wp2_with fail
            go_loopw [7] (fun j wq => GapInvP w L x q g cap' jn j wq) (fun j _ => (intOf j).toNat)
            case atStart => exact ⟨L.length, _, by go_num, hjn, Nat.le_refl _, hown3, GapP.start L zP, hb2, hE2⟩
            case round =>
              clear hown3 hb2 hE2
              obtain ⟨jj, m, rfl, hj1, hj2, hom, hgap, hbq, hEq⟩ := hrel
              have hml := hgap.length
              have HML := Lib.hid (show L.length + 1 = m.length by omega); clear hml
              have hqg : q ≠ g := fun e1 => hEq.ne hom (by rw [e1]; rfl)
              by_cases hgt : jn < jj
              · obtain ⟨j', rfl⟩ : ∃ j', jj = j' + 1 := ⟨jj - 1, by omega⟩
                obtain ⟨y, hy, hgap2⟩ := hgap.step (by omega)
                obtain ⟨c0, c1, c2⟩ := hom.at_ HML.out hy
                have hf2 := hom.there HML.out (j := j' + 1) (by have := HML.out; omega)
                have hom2 := hom.put HML.out (j' + 1) y
                have hbq2 : Below w.heap.size w (putAt wr g ((j' + 1) * 3) [.int .i64 y.about, .string y.pattern, .string y.reason]) := below_putAt hom.base hbq
                have HFIN := Lib.hid (show GapInvP w L x q g cap' jn (.int .i64 (j' : Int)) (putAt wr g ((j' + 1) * 3) [.int .i64 y.about, .string y.pattern, .string y.reason]) from ⟨j', _, rfl, by omega, by omega, hom2, hgap2, hbq2, hEq.put hqg⟩)
                clear hy hom hgap hom2 hgap2 hbq2 hEq
                go_wp2_with fail
                exact ⟨HFIN.out, by simp [intOf]⟩
              · obtain rfl : jj = jn := by omega
                have p5 := hEq.c5
                have p10 := hEq.c10
                have p11 := hEq.c11
                have hf2 := hom.there HML.out (j := jj) (by have := HML.out; omega)
                have hom2 := hom.put HML.out jj (polOf x)
                rw [hgap.fill hj2, ← HINS.out] at hom2
                have hbq2 : Below w.heap.size w (putAt wr g (jj * 3) [.int .i64 x.content.n, .string x.content.text, .string x.key]) := below_putAt hom.base hbq
                have HFIN := Lib.hid (show RRulesInv w l (.slice (some ⟨g, 0, none⟩) (L.length + 1) cap') (.int .i64 ((k : Int) + 1)) (putAt wr g (jj * 3) [.int .i64 x.content.n, .string x.content.text, .string x.key]) from ⟨k + 1, hk1, by go_num, hbq2, hom2⟩)
                clear hom hgap hom2 hbq2 hEq
                go_wp2_with fail
                exact ⟨HFIN.out, by simp [intOf]; omega⟩
          all_goals
            have HL2 : Hid (∀ i z, L[i]? = some z → i < jn + 1 → Pl.lr (polOf x) z = false) := Lib.hid fun i z hz hi => by
              rcases Nat.lt_or_ge i jn with h1 | h1
              · exact hless i z hz h1
              · obtain rfl : i = jn := by omega
                rw [hy] at hz; cases hz; exact hl
            clear hya hl hy hless
            go_wp2_with fail
            go_quiet (fail)
            go_wp2_with fail
            exact ⟨⟨jn + 1, t + nq, by go_num, hj, HL2.out, by show _ = _; simp⟩, by simp [intOf]; omega⟩
        · have HPUT := Lib.hid (Pl.put_at hless hjn (fun z hz => by rw [List.getElem?_eq_none (by omega)] at hz; cases hz))
          have hjd : decide ((jn : Int) < (L.length : Int)) = false := by simp; omega
          clear hless
          go_wp2_with fail
          go_quiet (fail)
          clear hjd hj
          have hownW : OwnPols ((wo.drewN t).drewN nq) w.heap.size _ L := hown2
          have hbW : Below w.heap.size w ((wo.drewN t).drewN nq) := below_drewN (below_drewN hbx _) _
          have hEW : EvB ((wo.drewN t).drewN nq) q x := bx
          have HINS : Hid (Pl.sort (rul (l.take (k + 1))) = L.take jn ++ polOf x :: L.drop jn) := Lib.hid (by rw [HS.out, HPUT.out])
          clear hown2 hbx bx hro HPUT HS p5
          generalize (wo.drewN t).drewN nq = W at hownW hbW hEW ⊢
          have hBW := hbW.size
          go_wp2_with (at_builtin; refine app_rows rfl (.tmp 43) (.tmp 45) 22 rfl w.heap.size 37 i0 _ 3 40 Try.underlying22 HI.out HZ0.out HZ1.out HZ2.out rfl (by decide) (by decide) _ L.length (Rd.pol.rows L) rfl (owns_on hownW (below_alloc (Below.refl _ _) _)) _ (some ⟨W.heap.size, 0, none⟩) 1 1 [.int .i64 0, .string ⟨#[]⟩, .string ⟨#[]⟩] rfl (pol_new (x := zP) zP_ok) ?d2 ?d3 ?d4 ?_)
          case d2 => exact Rd.pol.one zP
          case d3 => omega
          case d4 => simp; omega
          intro v' w2 hown2' hgrow
          have hb2 : Below w.heap.size w w2 := (below_alloc hbW _).grown hgrow (by simp; omega) (fun j hj => (World.ownsRow.lt hownW _ hj).1)
          have hown3 := own_snoc (x := zP) rfl hown2'
          have hE2 : EvB w2 q x := (hEW.on (below_alloc (Below.refl _ _) _)).grown hgrow (hEW.ne hownW)
          obtain ⟨g, cap', rfl, hgB, _⟩ := World.ownsRow.form hown2' (by omega)
          clear hown2' hgrow hownW hbW hBW hEW
          go_wp2_with fail
          go_loopw [7] (fun j wq => GapInvP w L x q g cap' jn j wq) (fun j _ => (intOf j).toNat)
          case atStart => exact ⟨L.length, _, by go_num, hjn, Nat.le_refl _, hown3, GapP.start L zP, hb2, hE2⟩
          case round =>
            clear hown3 hb2 hE2
            obtain ⟨jj, m, rfl, hj1, hj2, hom, hgap, hbq, hEq⟩ := hrel
            have hml := hgap.length
            have HML := Lib.hid (show L.length + 1 = m.length by omega); clear hml
            have hqg : q ≠ g := fun e1 => hEq.ne hom (by rw [e1]; rfl)
            by_cases hgt : jn < jj
            · obtain ⟨j', rfl⟩ : ∃ j', jj = j' + 1 := ⟨jj - 1, by omega⟩
              obtain ⟨y, hy, hgap2⟩ := hgap.step (by omega)
              obtain ⟨c0, c1, c2⟩ := hom.at_ HML.out hy
              have hf2 := hom.there HML.out (j := j' + 1) (by have := HML.out; omega)
              have hom2 := hom.put HML.out (j' + 1) y
              have hbq2 : Below w.heap.size w (putAt wr g ((j' + 1) * 3) [.int .i64 y.about, .string y.pattern, .string y.reason]) := below_putAt hom.base hbq
              have HFIN := Lib.hid (show GapInvP w L x q g cap' jn (.int .i64 (j' : Int)) (putAt wr g ((j' + 1) * 3) [.int .i64 y.about, .string y.pattern, .string y.reason]) from ⟨j', _, rfl, by omega, by omega, hom2, hgap2, hbq2, hEq.put hqg⟩)
              clear hy hom hgap hom2 hgap2 hbq2 hEq
              go_wp2_with fail
              exact ⟨HFIN.out, by simp [intOf]⟩
            · obtain rfl : jj = jn := by omega
              have p5 := hEq.c5
              have p10 := hEq.c10
              have p11 := hEq.c11
              have hf2 := hom.there HML.out (j := jj) (by have := HML.out; omega)
              have hom2 := hom.put HML.out jj (polOf x)
              rw [hgap.fill hj2, ← HINS.out] at hom2
              have hbq2 : Below w.heap.size w (putAt wr g (jj * 3) [.int .i64 x.content.n, .string x.content.text, .string x.key]) := below_putAt hom.base hbq
              have HFIN := Lib.hid (show RRulesInv w l (.slice (some ⟨g, 0, none⟩) (L.length + 1) cap') (.int .i64 ((k : Int) + 1)) (putAt wr g (jj * 3) [.int .i64 x.content.n, .string x.content.text, .string x.key]) from ⟨k + 1, hk1, by go_num, hbq2, hom2⟩)
              clear hom hgap hom2 hbq2 hEq
              go_wp2_with fail
              exact ⟨HFIN.out, by simp [intOf]; omega⟩
    · have hlk : l.take k = l := List.take_of_length_le (by have := HL.out; omega)
      rw [hlk] at hown
      clear hlk
      have HO := Lib.hid hown
      clear hown
      go_wp2_with fail
      go_ret
      exact ⟨_, rfl, hbw, HO.out⟩
end Go.Proofs.Ythcbplameonjlaa
