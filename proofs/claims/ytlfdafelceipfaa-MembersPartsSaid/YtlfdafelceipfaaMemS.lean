/-
  The walk through InState.
-/
import Derived.Test.YtlfdafelceipfaaMemU
namespace Go.Proofs.Ytlfdafelceipfaa
open Go.RowKit

structure Ent where
  kind : Int
  key : ByteArray
  id : Int
abbrev Rd.ent' := Rd.pair Rd.i64 (Rd.pair Rd.str (Rd.pair Rd.i64 Rd.unit))
def Rd.ent : Rd Ent := Rd.ent'.as fun x => (x.kind, x.key, x.id, ())
section
variable {W : World}
theorem opens_ent : Opens Try.prog W Rd.ent 79 :=
  Opens.as (opens_struct Try.underlying79 (by kernel_rfl) (opens_cons rfl (by kernel_rfl) (opens_i64 Try.underlying50) (opens_cons rfl (by kernel_rfl) (opens_str Try.underlying9) (opens_cons rfl (by kernel_rfl) (opens_i64 Try.underlying3) opens_nil)))) Rd.ent (fun x => ⟨x.1, x.2.1, x.2.2.1⟩) (fun _ => rfl) (fun _ h => h)
theorem opens_state : Opens Try.prog W (Rd.slice Rd.ent) 47 := opens_slice Try.underlying47 (by kernel_rfl) (by decide) opens_ent
end

namespace Mb
def first (l : List Ev) (i : Int) : Option Ev := l.find? fun e => decide (e.id = i)
def NoId (l : List Ev) (i : Int) (k : Nat) : Prop := ∀ (j : Nat) e, l[j]? = some e → j < k → e.id ≠ i
theorem NoId.zero (l : List Ev) (i : Int) : NoId l i 0 := fun j _ _ h => by omega
theorem NoId.succ {l : List Ev} {i : Int} {k : Nat} {x : Ev} (h : NoId l i k) (hx : l[k]? = some x) (hm : x.id ≠ i) : NoId l i (k + 1) := fun j y hy hj => by
  rcases Nat.lt_or_ge j k with h1 | h1
  · exact h j y hy h1
  · obtain rfl : j = k := by omega
    rw [hx] at hy; cases hy; exact hm
theorem first_some {l : List Ev} {i : Int} {k : Nat} {x : Ev} (h : NoId l i k) (hx : l[k]? = some x) (hm : x.id = i) : first l i = some x := by
  unfold first
  obtain ⟨hk, rfl⟩ := List.getElem?_eq_some_iff.1 hx
  rw [List.find?_eq_some_iff_getElem]
  refine ⟨decide_eq_true hm, k, hk, rfl, fun j hj => ?_⟩
  have := h j _ (List.getElem?_eq_getElem (by omega)) hj
  simp only [Bool.not_eq_true', decide_eq_false_iff_not]
  exact this
theorem first_none {l : List Ev} {i : Int} (h : NoId l i l.length) : first l i = none := by
  unfold first
  rw [List.find?_eq_none]
  intro x hx
  obtain ⟨j, hj, rfl⟩ := List.mem_iff_getElem.1 hx
  have := h j _ (List.getElem?_eq_getElem hj) hj
  rw [decide_eq_false this]
  simp
/-- the events with these identifiers -/
def picked (l : List Ev) (ids : List Int) : List Ev := ids.filterMap (first l)
def inState (l : List Ev) (s : List Ent) (u : List UInt8) : Int := of (picked l (s.map fun x => x.id)) u
def Pass (l : List Ev) (s : List Ent) (u : List UInt8) (k : Nat) : Prop := ∀ (j : Nat) x, s[j]? = some x → j < k → ∀ e, first l x.id = some e → ¬ Is e u
theorem Pass.zero (l : List Ev) (s : List Ent) (u : List UInt8) : Pass l s u 0 := fun j _ _ h => by omega
theorem Pass.succ {l : List Ev} {s : List Ent} {u : List UInt8} {k : Nat} {x : Ent} (h : Pass l s u k) (hx : s[k]? = some x) (hm : ∀ e, first l x.id = some e → ¬ Is e u) : Pass l s u (k + 1) := fun j y hy hj => by
  rcases Nat.lt_or_ge j k with h1 | h1
  · exact h j y hy h1
  · obtain rfl : j = k := by omega
    rw [hx] at hy; cases hy; exact hm
theorem of_app {a b : List Ev} {e : Ev} {u : List UInt8} (h : ∀ y ∈ a, ¬ Is y u) (he : Is e u) : of (a ++ e :: b) u = e.content.n := by
  refine of_some (k := a.length) (fun j y hy hj => ?_) (by simp) he
  rw [List.getElem?_append_left hj] at hy
  exact h y (List.mem_of_getElem? hy)
theorem inState_hit {l : List Ev} {s : List Ent} {u : List UInt8} {k : Nat} {x : Ent} {e : Ev} (h : Pass l s u k) (hx : s[k]? = some x) (he : first l x.id = some e) (hm : Is e u) : inState l s u = e.content.n := by
  obtain ⟨hk, rfl⟩ := List.getElem?_eq_some_iff.1 hx
  have hs : s = s.take k ++ s[k] :: s.drop (k + 1) := by rw [← List.drop_eq_getElem_cons hk, List.take_append_drop]
  have hp : picked l (s.map fun x => x.id) = picked l ((s.take k).map fun x => x.id) ++ e :: picked l ((s.drop (k + 1)).map fun x => x.id) := by
    conv => lhs; rw [hs]
    unfold picked
    rw [List.map_append, List.filterMap_append, List.map_cons, List.filterMap_cons, he]
  unfold inState
  rw [hp]
  refine of_app (fun y hy => ?_) hm
  unfold picked at hy
  obtain ⟨i, hi, hf⟩ := List.mem_filterMap.1 hy
  obtain ⟨z, hz, rfl⟩ := List.mem_map.1 hi
  obtain ⟨j, hj, rfl⟩ := List.mem_take_iff_getElem.1 hz
  exact h j _ (List.getElem?_eq_getElem (by omega)) (by omega) y hf
theorem inState_none {l : List Ev} {s : List Ent} {u : List UInt8} (h : Pass l s u s.length) : inState l s u = 0 := by
  unfold inState
  refine of_none fun j y hy _ => ?_
  have hy' := List.mem_of_getElem? hy
  unfold picked at hy'
  obtain ⟨i, hi, hf⟩ := List.mem_filterMap.1 hy'
  obtain ⟨z, hz, rfl⟩ := List.mem_map.1 hi
  obtain ⟨q, hq, rfl⟩ := List.mem_iff_getElem.1 hz
  exact h q _ (List.getElem?_eq_getElem hq) hq y hf
end Mb

set_option maxRecDepth 100000 in
set_option maxHeartbeats 2000000 in
theorem inState_any (A : Option Addr) (n c : Nat) (l : List Ev) (B : Option Addr) (m d : Nat) (s : List Ent) (u : ByteArray) (w : World) (hr : Rd.ev.Holds w A n l) (hn : n ≤ 1000000) (hs : Rd.ent.Holds w B m s) (hm : m ≤ 1000000) :
    Calls Try.prog 44 #[.slice A n c, .slice B m d, .string u] w (Ret w (.int .i64 (Mb.inState l s (bs u)))) := by
  have HL := Lib.hid hr.length
  have HM := Lib.hid hs.length
  go_enter Try.func44, Try.ntmps44
  go_wp2_with fail
  go_loopw [12] (fun i wr => ∃ k : Nat, k ≤ s.length ∧ i = .int .i64 k ∧ Below w.heap.size w wr ∧ Mb.Pass l s (bs u) k) (fun i _ => m - (intOf i).toNat)
  case atStart => exact ⟨0, by omega, rfl, Below.refl _ _, Mb.Pass.zero _ _ _⟩
  case round =>
    obtain ⟨k, hk, rfl, hbw, hpass⟩ := hrel
    obtain ⟨wo, rfl⟩ : ∃ wo : World, wo = wr := ⟨_, rfl⟩
    by_cases hkm : k < m
    · obtain ⟨b, o, x, hB, _, hxs, _, _, hxa⟩ := (hs.on hbw).mid (by decide) hkm
      have x0 : wo.cell? ⟨b, o + k * 3, none⟩ = some (.int .i64 x.kind) := hxa 0 _ rfl
      have x1 : wo.cell? ⟨b, o + k * 3 + 1, none⟩ = some (.string x.key) := hxa 1 _ rfl
      have x2 : wo.cell? ⟨b, o + k * 3 + 2, none⟩ = some (.int .i64 x.id) := hxa 2 _ rfl
      have hk1 : k + 1 ≤ s.length := by have := HM.out; omega
      have HXS := Lib.hid hxs
      have HPASS := Lib.hid hpass
      clear hxa hpass hxs
      subst hB
      go_upto_region 4 with fail
      have bx : Below w.heap.size w (wo.alloc (.cells #[.int .i64 x.kind, .string x.key, .int .i64 x.id] 79)) := below_alloc hbw _
      have cx : (wo.alloc (.cells #[.int .i64 x.kind, .string x.key, .int .i64 x.id] 79)).cell? ⟨wo.heap.size, 2, none⟩ = some (.int .i64 x.id) := by rw [World.cell?_alloc_new]; rfl
      have hlt : wo.heap.size < (wo.alloc (.cells #[.int .i64 x.kind, .string x.key, .int .i64 x.id] 79)).heap.size := by simp
      clear x0 x1 x2
      generalize wo.alloc (.cells #[.int .i64 x.kind, .string x.key, .int .i64 x.id] 79) = wx at bx cx hlt ⊢
      go_wp2_with fail
      go_loopw [18] (fun i wq => ∃ j : Nat, j ≤ l.length ∧ i = .int .i64 j ∧ Below wx.heap.size wx wq ∧ Mb.NoId l x.id j) (fun i _ => n - (intOf i).toNat)
      case atStart => exact ⟨0, by omega, rfl, Below.refl _ _, Mb.NoId.zero _ _⟩
      case round =>
        obtain ⟨j, hj, rfl, hbq, hno⟩ := hrel
        have c2 : wr.cell? ⟨wo.heap.size, 2, none⟩ = some (.int .i64 x.id) := (hbq.cell (p := ⟨wo.heap.size, 2, none⟩) hlt).trans cx
        have b2 := below_then bx hbq
        by_cases hjn : j < n
        · obtain ⟨b', o', y, hA, hbl, hyl, _, _, hya⟩ := hr.mid (by decide) hjn
          change w.rangeAt b' (o' + j * 29) (Rd.ev.cells y) at hya
          have y0 : wr.cell? ⟨b', o' + j * 29, none⟩ = some (.int .i64 y.id) := (b2.cell (p := ⟨b', o' + j * 29, none⟩) hbl).trans (hya 0 _ rfl)
          obtain ⟨y3, y5, y11⟩ := ev_cells_on hya hbl b2
          have hj1 : j + 1 ≤ l.length := by have := HL.out; omega
          subst hA
          by_cases hid : y.id = x.id
          · have e0 : (y.id != x.id) = false := neF hid
            have HF := Lib.hid (Mb.first_some hno hyl hid)
            clear hno hyl hya
            by_cases h2 : y.kind = 2
            · have e2 : (y.kind == 2) = true := eqT h2
              by_cases hu : y.key = u
              · have e5 : (y.key.toList == u.toList) = true := by rw [streq']; exact decide_eq_true hu
                have HV := Lib.hid (Mb.inState_hit HPASS.out HXS.out HF.out ⟨h2, by rw [hu]⟩)
                clear h2 hu hid
                go_wp2_with fail
                go_quiet (fail)
                have c0' : (wr.drewN nq).cell? ⟨b', o' + j * 29 + 3, none⟩ = some (.int .i64 y.kind) := y3
                go_wp2_with fail
                go_ret
                exact ⟨ret_int HV.out.symm, below_drewN b2 nq⟩
              · have e5 : (y.key.toList == u.toList) = false := by rw [streq']; exact decide_eq_false hu
                have HP := Lib.hid (HPASS.out.succ HXS.out fun e he hi => hu (bs_inj (by rw [HF.out] at he; cases he; exact hi.2)))
                clear h2 hu hid
                go_wp2_with fail
                go_quiet (fail)
                go_wp2_with fail
                exact ⟨⟨k + 1, hk1, by go_num, below_drewN b2 nq, HP.out⟩, by simp [intOf]; omega⟩
            · have e2 : (y.kind == 2) = false := eqF h2
              have HP := Lib.hid (HPASS.out.succ HXS.out fun e he hi => h2 (by rw [HF.out] at he; cases he; exact hi.1))
              clear h2 hid
              go_wp2_with fail
              go_quiet (fail)
              go_wp2_with fail
              exact ⟨⟨k + 1, hk1, by go_num, below_drewN b2 nq, HP.out⟩, by simp [intOf]; omega⟩
          · have e0 : (y.id != x.id) = true := neT hid
            have HN := Lib.hid (hno.succ hyl hid)
            clear hno hyl hya hid
            go_wp2_with fail
            go_quiet (fail)
            go_wp2_with fail
            exact ⟨⟨j + 1, hj1, by go_num, below_drewN hbq nq, HN.out⟩, by simp [intOf]; omega⟩
        · have HN := Lib.hid (Mb.first_none (l := l) (i := x.id) (by rwa [show j = l.length by have := HL.out; omega] at hno))
          have HP := Lib.hid (HPASS.out.succ HXS.out fun e he hi => by rw [HN.out] at he; cases he)
          clear hno
          go_wp2_with fail
          exact ⟨⟨k + 1, hk1, by go_num, b2, HP.out⟩, by simp [intOf]; omega⟩
    · have HV := Lib.hid (Mb.inState_none (l := l) (s := s) (u := bs u) (by rwa [show k = s.length by have := HM.out; omega] at hpass))
      clear hpass
      go_wp2_with fail
      go_ret
      exact ⟨ret_int HV.out.symm, hbw⟩
end Go.Proofs.Ytlfdafelceipfaa
