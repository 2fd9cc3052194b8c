/-
  The walk through the reference's Names: it puts each string in its place.
-/
import Derived.Test.YtbhkgdfmjkblcaaNamesU
import Derived.Sort.Walk0
namespace Go.Proofs.Ytbhkgdfmjkblcaa
open Go.RowKit

/-! ### where an element goes -/
theorem ins_at {x : List UInt8} : ∀ {l : List (List UInt8)} {k : Nat}, (∀ j y, l[j]? = some y → j < k → y < x) → k ≤ l.length → (∀ y, l[k]? = some y → ¬ y < x) →
    Nm.ins x l = if l[k]? = some x then l else l.take k ++ x :: l.drop k
  | [], k, _, hk, _ => by
    obtain rfl : k = 0 := by simpa using hk
    simp [Nm.ins]
  | y :: l, 0, _, _, h2 => by
    have h3 := h2 y rfl
    simp only [Nm.ins, if_neg h3]
    by_cases hy : y = x
    · subst hy; simp
    · rw [if_neg hy, if_neg (by simpa using hy)]; simp
  | y :: l, k + 1, h1, hk, h2 => by
    have h3 := h1 0 y rfl (by omega)
    simp only [Nm.ins, if_pos h3]
    rw [ins_at (k := k) (fun j z hz hj => h1 (j + 1) z (by simpa using hz) (by omega)) (by simpa using hk) (fun z hz => h2 z (by simpa using hz))]
    simp only [List.getElem?_cons_succ]
    split <;> simp
theorem bytesLess_lt (a b : ByteArray) : Op.bytesLess a.toList b.toList = decide (bs a < bs b) := by rw [Lib.toList_data, Lib.toList_data, bytesLess_eq]
/-- the row while it is moved on by one place: place j may hold anything -/
def Gap (l m : List (List UInt8)) (j : Nat) : Prop := ∃ g, m = l.take j ++ g :: l.drop j
theorem Gap.start (l : List (List UInt8)) (g : List UInt8) : Gap l (l ++ [g]) l.length := ⟨g, by simp⟩
theorem Gap.step {l m : List (List UInt8)} {j : Nat} (h : Gap l m (j + 1)) (hj : j < l.length) : ∃ y, m[j]? = some y ∧ Gap l (m.set (j + 1) y) j := by
  obtain ⟨g, rfl⟩ := h
  refine ⟨l[j], ?_, l[j], ?_⟩
  · rw [List.getElem?_append_left (by simp; omega), List.getElem?_take, if_pos (by omega), List.getElem?_eq_getElem hj]
  · have hl : (l.take (j + 1)).length = j + 1 := by simp; omega
    rw [List.set_append_right _ _ (by omega), hl, Nat.sub_self, List.set_cons_zero, List.take_succ_eq_append_getElem hj, List.append_assoc, List.drop_eq_getElem_cons hj]
    rfl
theorem Gap.fill {l m : List (List UInt8)} {k : Nat} (h : Gap l m k) (hk : k ≤ l.length) (x : List UInt8) : m.set k x = l.take k ++ x :: l.drop k := by
  obtain ⟨g, rfl⟩ := h
  have hl : (l.take k).length = k := by simp; omega
  rw [List.set_append_right _ _ (by omega), hl, Nat.sub_self, List.set_cons_zero]
theorem Gap.length {l m : List (List UInt8)} {j : Nat} (h : Gap l m j) : m.length = l.length + 1 := by
  obtain ⟨g, rfl⟩ := h
  simp; omega

/-- an element of a row of the call's own, read -/
theorem OwnStrs.at_ {w : World} {B g cap n : Nat} {l : List (List UInt8)} (h : OwnStrs w B (.slice (some ⟨g, 0, none⟩) n cap) l) (hn : n = l.length) {j : Nat} {y : List UInt8} (hy : l[j]? = some y) : w.cell? ⟨g, j, none⟩ = some (.string (mk y)) := by
  obtain rfl : n = l.length := hn
  rw [World.ownsRow.cellAt h j (by have := (List.getElem?_eq_some_iff.1 hy).1; omega)]
  simp [hy]; rfl

theorem OwnStrs.set {w : World} {B g cap n : Nat} {l : List (List UInt8)} (h : OwnStrs w B (.slice (some ⟨g, 0, none⟩) n cap) l) (hn : n = l.length) (j : Nat) (y : List UInt8) :
    OwnStrs (w.setCell ⟨g, j, none⟩ (.string (mk y))) B (.slice (some ⟨g, 0, none⟩) n cap) (l.set j y) := by
  obtain rfl : n = l.length := hn
  have := World.ownsRow.stored h j (.string (mk y))
  unfold OwnStrs
  rw [List.length_set, List.map_set]
  exact this.1
theorem OwnStrs.free {w : World} {B g cap n : Nat} {l : List (List UInt8)} (h : OwnStrs w B (.slice (some ⟨g, 0, none⟩) n cap) l) (hn : n = l.length) (j : Nat) : w.frozen? ⟨g, j, none⟩ = false := by
  obtain rfl : n = l.length := hn
  exact World.ownsRow.frozenAt h j
theorem OwnStrs.base {w : World} {B g cap n : Nat} {l : List (List UInt8)} (h : OwnStrs w B (.slice (some ⟨g, 0, none⟩) n cap) l) : B ≤ g := (World.ownsRow.lt h g rfl).1
def KInv (L : List (List UInt8)) (x : List UInt8) (wo : World) (j : Value) (wq : World) : Prop :=
  ∃ jn t : Nat, j = .int .i64 jn ∧ jn ≤ L.length ∧ (∀ i y, L[i]? = some y → i < jn → y < x) ∧ Hid (wq = wo.drewN t)
def GapInv (w : World) (L : List (List UInt8)) (g cap jn : Nat) (j : Value) (wq : World) : Prop :=
  ∃ (jj : Nat) (m : List (List UInt8)), j = .int .i64 jj ∧ jn ≤ jj ∧ jj ≤ L.length ∧ OwnStrs wq w.heap.size (.slice (some ⟨g, 0, none⟩) (L.length + 1) cap) m ∧ Gap L m jj ∧ Below w.heap.size w wq

def RNamesInv (w : World) (l : List ByteArray) (out i : Value) (wr : World) : Prop :=
  ∃ k : Nat, k ≤ l.length ∧ i = .int .i64 k ∧ Below w.heap.size w wr ∧ OwnStrs wr w.heap.size out (Nm.names ((bss l).take k))

set_option maxRecDepth 100000 in
set_option maxHeartbeats 2000000 in
theorem rnames_any (A : Option Addr) (n c : Nat) (l : List ByteArray) (w : World) (hr : Strs w A n l) (hn : n ≤ 1000000) :
    Calls Try.prog 58 #[.slice A n c] w fun e w' => ∃ v, e = .returned v ∧ Below w.heap.size w w' ∧ OwnStrs w' w.heap.size v (Nm.names (bss l)) := by
  obtain ⟨i0, hi, hz0, hz1, hz2⟩ := info_parts infoStr
  have HL := Lib.hid hr.length
  go_enter Try.func58, Try.ntmps58
  go_wp2_with fail
  go_loopw [3, 4] (fun out i wr => RNamesInv w l out i wr) (fun _ i _ => n - (intOf i).toNat)
  case atStart => exact ⟨0, by omega, rfl, Below.refl _ _, (by rw [List.take_zero, show Nm.names [] = [] from by simp [Nm.names, Nm.firsts, Nm.sorted]]; exact World.ownsRow_nil _ _ _ _)⟩
  case round =>
    obtain ⟨k, hk, rfl, hbw, hown⟩ := hrel
    by_cases hlt : k < n
    · obtain ⟨wo, rfl⟩ : ∃ wo : World, wo = wr := ⟨_, rfl⟩
      obtain ⟨ad, x, rfl, hadb, hu, hc⟩ := (hr.on hbw).at_ hlt
      have hS := Nm.names_snoc ((bss l).take k) (bs x)
      rw [← bss_take hu] at hS
      have HS := Lib.hid hS
      have HU := Lib.hid hu; clear hS hu
      have hk1 : k + 1 ≤ l.length := by have := HL.out; omega
      have hlen : (Nm.names ((bss l).take k)).length ≤ k := Nat.le_trans (Nm.names_length _) (List.length_take_le _ _)
      obtain ⟨O, cp, rfl, hcap, hro⟩ := own_form hown
      generalize Nm.names ((bss l).take k) = L at *
      have hcell : ∀ j y, L[j]? = some y → ∃ od, O = some od ∧ ∀ d, (wo.drewN d).cell? (od.add j) = some (.string (mk y)) := fun j y hy => by
        obtain ⟨od, u, h1, _, h3, h4⟩ := hro.at_ (k := j) (List.getElem?_eq_some_iff.1 hy).1
        have : u = .string (mk y) := by
          simp only [List.getElem?_map, hy, Option.map_some, Option.some.injEq] at h3
          exact h3.symm
        subst this
        exact ⟨od, h1, fun d => h4⟩
      have HCELL := Lib.hid hcell; clear hcell hro
      have hcd : ∀ d, (wo.drewN d).cell? (ad.add k) = some (.string x) := fun d => hc
      have hkn : (k : Int) < n := by omega
      have hLm : L.length ≤ 1000000 := by omega
      go_wp2_with fail
      go_loopw [5] (fun j wq => KInv L (bs x) wo j wq) (fun j _ => L.length - (intOf j).toNat)
      case atStart => exact ⟨0, 0, rfl, by omega, fun i y _ h => by omega, rfl⟩
      case round =>
        obtain ⟨jn, t, rfl, hjn, hless, ht⟩ := hrel
        obtain rfl := ht.out
        clear ht
        by_cases hj : jn < L.length
        · obtain ⟨y, hy⟩ : ∃ y, L[jn]? = some y := ⟨_, List.getElem?_eq_getElem hj⟩
          obtain ⟨od, rfl, hcy⟩ := HCELL.out jn y hy
          have hcy1 := hcy t
          have hcx1 := hcd t
          have hji : (jn : Int) < L.length := by omega
          by_cases hyx : y < bs x
          · have e1 : Op.bytesLess (mk y).toList x.toList = true := by rw [bytesLess_lt, bs_mk]; exact decide_eq_true hyx
            have hl2 : ∀ i z, L[i]? = some z → i < jn + 1 → z < bs x := fun i z hz hi => by
              rcases Nat.lt_or_ge i jn with h1 | h1
              · exact hless i z hz h1
              · obtain rfl : i = jn := by omega
                rw [hy] at hz; cases hz; exact hyx
            have HL2 := Lib.hid hl2; clear hl2 hless hy hyx
            go_wp2_with fail
            go_quiet (fail)
            go_wp2_with fail
            exact ⟨⟨jn + 1, t + nq, by go_num, hj, HL2.out, by show _ = _; simp⟩, by simp [intOf]; omega⟩
          · have e1 : Op.bytesLess (mk y).toList x.toList = false := by rw [bytesLess_lt, bs_mk]; exact decide_eq_false hyx
            by_cases hyx2 : y = bs x
            · have e2 : ((mk y).toList == x.toList) = true := by rw [streq, bs_mk]; exact decide_eq_true hyx2
              have hins := ins_at (x := bs x) (l := L) (k := jn) hless hjn (fun z hz => by rw [hy] at hz; cases hz; exact hyx)
              rw [if_pos (by rw [hy, hyx2]), ← HS.out] at hins
              have HINS := Lib.hid hins; clear hins hless hy hyx hyx2
              go_wp2_with fail
              go_quiet (fail)
              obtain ⟨q1, rfl⟩ : ∃ q1, q1 = nq := ⟨_, rfl⟩
              have hcy2 := hcy (t + q1)
              have hcx2 := hcd (t + q1)
              go_wp2_with fail
              go_quiet (fail)
              go_wp2_with fail
              exact ⟨⟨k + 1, hk1, by go_num, by simpa using below_drewN hbw (t + q1 + nq), by rw [HINS.out]; exact hown⟩, by simp [intOf]; omega⟩
            · have e2 : ((mk y).toList == x.toList) = false := by rw [streq, bs_mk]; exact decide_eq_false hyx2
              have hyx3 : ¬ L[jn]? = some (bs x) := by rw [hy]; intro e; cases e; exact hyx2 rfl
              have hyx4 : ∀ z, L[jn]? = some z → ¬ z < bs x := fun z hz => by rw [hy] at hz; cases hz; exact hyx
              clear hy hyx hyx2
              go_wp2_with fail
              go_quiet (fail)
              obtain ⟨q1, rfl⟩ : ∃ q1, q1 = nq := ⟨_, rfl⟩
              have hcy2 := hcy (t + q1)
              have hcx2 := hcd (t + q1)
              go_wp2_with fail
              go_quiet (fail)
              clear hcy1 hcx1 hcy2 hcx2 hcy e1 e2 hj hji
              have hownW : OwnStrs (((wo.drewN t).drewN q1).drewN nq) w.heap.size _ L := hown
              have hbW : Below w.heap.size w (((wo.drewN t).drewN q1).drewN nq) := below_drewN (below_drewN (below_drewN hbw _) _) _
              have hins := ins_at (x := bs x) (l := L) (k := jn) hless hjn hyx4
              rw [if_neg hyx3, ← HS.out] at hins
              have HINS := Lib.hid hins; clear hins HCELL hcd hless hown hbw
              have hLk : L.length ≤ 1000000 := by omega
              generalize ((wo.drewN t).drewN q1).drewN nq = W at *
              have hBW := hbW.size
              go_wp2_with (at_builtin; refine wpList_append_own _ rfl _ _ 36 rfl w.heap.size 9 i0 (.string .empty) 1 16 Try.underlying36 hi hz0 hz1 hz2 rfl (by decide) _ _ _ rfl (World.ownsRow.alloc hownW _) ⟨W.heap.size, 0, none⟩ 1 1 [.string ⟨#[]⟩] rfl rfl ?c1 ?c2 ?c3 ?c4 ?c5 ?_)
              case c1 => exact cell_one _ _ _
              case c2 => simp [Value.oneCell']
              case c3 => unfold maxLen; omega
              case c4 => omega
              case c5 => simp; omega
              intro v' w2 hown2 hgrow _
              have hb2 : Below w.heap.size w w2 := (hbW.alloc (by omega) _).grown hgrow (by simp; omega) (fun j hj => (World.ownsRow.lt hownW _ hj).1)
              have hown3 : OwnStrs w2 w.heap.size v' (L ++ [[]]) := by
                unfold OwnStrs
                rw [List.length_append, List.map_append]; exact hown2
              obtain ⟨g, cap', rfl, hgB, _⟩ := World.ownsRow.form hown2 (by omega)
              clear hown2 hgrow hownW hbW hBW
              go_wp2_with fail
              go_loopw [6] (fun j wq => GapInv w L g cap' jn j wq) (fun j _ => (intOf j).toNat)
              case atStart => exact ⟨L.length, _, by go_num, hjn, Nat.le_refl _, hown3, Gap.start L [], hb2⟩
              case round =>
                clear hown3 hb2
                obtain ⟨jj, m, rfl, hj1, hj2, hom, hgap, hbq⟩ := hrel
                have hml := hgap.length
                have HML := Lib.hid (show L.length + 1 = m.length by omega); clear hml
                by_cases hgt : jn < jj
                · obtain ⟨j', rfl⟩ : ∃ j', jj = j' + 1 := ⟨jj - 1, by omega⟩
                  obtain ⟨y, hy, hgap2⟩ := hgap.step (by omega)
                  have hc1 := hom.at_ HML.out hy
                  obtain ⟨z, hz⟩ : ∃ z, m[j' + 1]? = some z := ⟨_, List.getElem?_eq_getElem (by have := HML.out; omega)⟩
                  have hc2 := hom.at_ HML.out hz
                  have hf2 := hom.free HML.out (j' + 1)
                  have hom2 := hom.set HML.out (j' + 1) y
                  have hbq2 : Below w.heap.size w (wr.setCell ⟨g, j' + 1, none⟩ (.string (mk y))) := hbq.setCell hom.base _
                  have HFIN := Lib.hid (show GapInv w L g cap' jn (.int .i64 (j' : Int)) (wr.setCell ⟨g, j' + 1, none⟩ (.string (mk y))) from ⟨j', _, rfl, by omega, by omega, hom2, hgap2, hbq2⟩)
                  clear hy hz hom hgap hom2 hgap2 hbq2
                  go_wp2_with fail
                  exact ⟨HFIN.out, by simp [intOf]⟩
                · obtain rfl : jj = jn := by omega
                  have hcx : wr.cell? (ad.add k) = some (.string x) := by
                    obtain ⟨ad', x', h1, _, h3, h4⟩ := (hr.on hbq).at_ hlt
                    cases h1
                    rw [HU.out] at h3; cases h3
                    exact h4
                  obtain ⟨z, hz⟩ : ∃ z, m[jj]? = some z := ⟨_, List.getElem?_eq_getElem (by have := HML.out; omega)⟩
                  have hc2 := hom.at_ HML.out hz
                  have hf2 := hom.free HML.out jj
                  have hom2 := hom.set HML.out jj (bs x)
                  rw [hgap.fill hj2, mk_bs, ← HINS.out] at hom2
                  have hbq2 : Below w.heap.size w (wr.setCell ⟨g, jj, none⟩ (.string x)) := hbq.setCell hom.base _
                  have HFIN := Lib.hid (show RNamesInv w l (.slice (some ⟨g, 0, none⟩) (L.length + 1) cap') (.int .i64 ((k : Int) + 1)) (wr.setCell ⟨g, jj, none⟩ (.string x)) from ⟨k + 1, hk1, by go_num, hbq2, hom2⟩)
                  clear hz hom hgap hom2 hbq2
                  go_wp2_with fail
                  exact ⟨HFIN.out, by simp [intOf]; omega⟩
        · have hyx3 : ¬ L[jn]? = some (bs x) := by rw [List.getElem?_eq_none (by omega)]; intro e; cases e
          have hyx4 : ∀ z, L[jn]? = some z → ¬ z < bs x := fun z hz => by rw [List.getElem?_eq_none (by omega)] at hz; cases hz
          have hjd : decide ((jn : Int) < (L.length : Int)) = false := by simp; omega
          go_wp2_with fail
          go_quiet (fail)
          obtain ⟨q1, rfl⟩ : ∃ q1, q1 = nq := ⟨_, rfl⟩
          go_wp2_with fail
          go_quiet (fail)
          clear hj hjd
          have hownW : OwnStrs (((wo.drewN t).drewN q1).drewN nq) w.heap.size _ L := hown
          have hbW : Below w.heap.size w (((wo.drewN t).drewN q1).drewN nq) := below_drewN (below_drewN (below_drewN hbw _) _) _
          have hins := ins_at (x := bs x) (l := L) (k := jn) hless hjn hyx4
          rw [if_neg hyx3, ← HS.out] at hins
          have HINS := Lib.hid hins; clear hins HCELL hcd hless hown hbw
          have hLk : L.length ≤ 1000000 := by omega
          generalize ((wo.drewN t).drewN q1).drewN nq = W at *
          have hBW := hbW.size
          go_wp2_with (at_builtin; refine wpList_append_own _ rfl _ _ 36 rfl w.heap.size 9 i0 (.string .empty) 1 16 Try.underlying36 hi hz0 hz1 hz2 rfl (by decide) _ _ _ rfl (World.ownsRow.alloc hownW _) ⟨W.heap.size, 0, none⟩ 1 1 [.string ⟨#[]⟩] rfl rfl ?c1 ?c2 ?c3 ?c4 ?c5 ?_)
          case c1 => exact cell_one _ _ _
          case c2 => simp [Value.oneCell']
          case c3 => unfold maxLen; omega
          case c4 => omega
          case c5 => simp; omega
          intro v' w2 hown2 hgrow _
          have hb2 : Below w.heap.size w w2 := (hbW.alloc (by omega) _).grown hgrow (by simp; omega) (fun j hj => (World.ownsRow.lt hownW _ hj).1)
          have hown3 : OwnStrs w2 w.heap.size v' (L ++ [[]]) := by
            unfold OwnStrs
            rw [List.length_append, List.map_append]; exact hown2
          obtain ⟨g, cap', rfl, hgB, _⟩ := World.ownsRow.form hown2 (by omega)
          clear hown2 hgrow hownW hbW hBW
          go_wp2_with fail
          go_loopw [6] (fun j wq => GapInv w L g cap' jn j wq) (fun j _ => (intOf j).toNat)
          case atStart => exact ⟨L.length, _, by go_num, hjn, Nat.le_refl _, hown3, Gap.start L [], hb2⟩
          case round =>
            clear hown3 hb2
            obtain ⟨jj, m, rfl, hj1, hj2, hom, hgap, hbq⟩ := hrel
            have hml := hgap.length
            have HML := Lib.hid (show L.length + 1 = m.length by omega); clear hml
            by_cases hgt : jn < jj
            · obtain ⟨j', rfl⟩ : ∃ j', jj = j' + 1 := ⟨jj - 1, by omega⟩
              obtain ⟨y, hy, hgap2⟩ := hgap.step (by omega)
              have hc1 := hom.at_ HML.out hy
              obtain ⟨z, hz⟩ : ∃ z, m[j' + 1]? = some z := ⟨_, List.getElem?_eq_getElem (by have := HML.out; omega)⟩
              have hc2 := hom.at_ HML.out hz
              have hf2 := hom.free HML.out (j' + 1)
              have hom2 := hom.set HML.out (j' + 1) y
              have hbq2 : Below w.heap.size w (wr.setCell ⟨g, j' + 1, none⟩ (.string (mk y))) := hbq.setCell hom.base _
              have HFIN := Lib.hid (show GapInv w L g cap' jn (.int .i64 (j' : Int)) (wr.setCell ⟨g, j' + 1, none⟩ (.string (mk y))) from ⟨j', _, rfl, by omega, by omega, hom2, hgap2, hbq2⟩)
              clear hy hz hom hgap hom2 hgap2 hbq2
              go_wp2_with fail
              exact ⟨HFIN.out, by simp [intOf]⟩
            · obtain rfl : jj = jn := by omega
              have hcx : wr.cell? (ad.add k) = some (.string x) := by
                obtain ⟨ad', x', h1, _, h3, h4⟩ := (hr.on hbq).at_ hlt
                cases h1
                rw [HU.out] at h3; cases h3
                exact h4
              obtain ⟨z, hz⟩ : ∃ z, m[jj]? = some z := ⟨_, List.getElem?_eq_getElem (by have := HML.out; omega)⟩
              have hc2 := hom.at_ HML.out hz
              have hf2 := hom.free HML.out jj
              have hom2 := hom.set HML.out jj (bs x)
              rw [hgap.fill hj2, mk_bs, ← HINS.out] at hom2
              have hbq2 : Below w.heap.size w (wr.setCell ⟨g, jj, none⟩ (.string x)) := hbq.setCell hom.base _
              have HFIN := Lib.hid (show RNamesInv w l (.slice (some ⟨g, 0, none⟩) (L.length + 1) cap') (.int .i64 ((k : Int) + 1)) (wr.setCell ⟨g, jj, none⟩ (.string x)) from ⟨k + 1, hk1, by go_num, hbq2, hom2⟩)
              clear hz hom hgap hom2 hbq2
              go_wp2_with fail
              exact ⟨HFIN.out, by simp [intOf]; omega⟩
    · have hkn : k = l.length := by have := HL.out; omega
      have hF : Nm.names ((bss l).take k) = Nm.names (bss l) := by rw [hkn, List.take_of_length_le (by simp)]
      rw [hF] at hown
      clear hF hkn
      go_wp2_with fail
      go_ret
      exact ⟨u3, rfl, hbw, hown⟩
end Go.Proofs.Ytbhkgdfmjkblcaa
