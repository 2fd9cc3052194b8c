/-
  Plain laws of lists that grow by one: what Check's loops keep. No program in sight.
-/
import Derived.Test.YtbhkgdfmjkblcaaDevW
namespace Go.Proofs.Ytbhkgdfmjkblcaa
open Go.RowKit
namespace Dv
section
variable {α : Type} {key : α → Str} {l : List α} {k : Nat} {x y : α}
theorem take_snoc (hx : l[k]? = some x) : l.take (k + 1) = l.take k ++ [x] := by
  obtain ⟨hk, rfl⟩ := List.getElem?_eq_some_iff.1 hx
  rw [List.take_succ_eq_append_getElem hk]
theorem all_take (f : α → Bool) (hx : l[k]? = some x) : (l.take (k + 1)).all f = ((l.take k).all f && f x) := by
  rw [take_snoc hx, List.all_append]; simp
theorem all_false (f : α → Bool) (hx : l[k]? = some x) (h : f x = false) : l.all f = false := by
  cases ha : l.all f
  · rfl
  · rw [List.all_eq_true] at ha
    rw [ha x (List.mem_of_getElem? hx)] at h; cases h
theorem incB_zero (hx : l[0]? = some x) : incB key (l.take 1) = true := by
  rw [take_snoc hx]; rfl
theorem inc_snoc {l : List α} {x : α} : Inc key (l ++ [x]) ↔ Inc key l ∧ ∀ y ∈ l, key y < key x := by
  unfold Inc
  rw [List.pairwise_append]
  constructor
  · rintro ⟨h1, _, h2⟩
    exact ⟨h1, fun y hy => h2 y hy x (by simp)⟩
  · rintro ⟨h1, h2⟩
    exact ⟨h1, List.pairwise_singleton _ _, fun a ha b hb => by simp at hb; subst hb; exact h2 a ha⟩
theorem incB_succ (hy : l[k]? = some y) (hx : l[k + 1]? = some x) : incB key (l.take (k + 2)) = (incB key (l.take (k + 1)) && decide (key y < key x)) := by
  rw [take_snoc hx, Bool.eq_iff_iff, Bool.and_eq_true, incB_iff, incB_iff, inc_snoc, decide_eq_true_eq]
  constructor
  · rintro ⟨h1, h2⟩
    exact ⟨h1, h2 y (by rw [take_snoc hy]; simp)⟩
  · rintro ⟨h1, h2⟩
    refine ⟨h1, fun z hz => ?_⟩
    rw [take_snoc hy] at h1 hz
    rcases List.mem_append.1 hz with hz | hz
    · exact Nm.lt_trans ((inc_snoc.1 h1).2 z hz) h2
    · simp at hz; subst hz; exact h2
theorem incB_not (hy : l[k]? = some y) (hx : l[k + 1]? = some x) (h : decide (key y < key x) = false) : incB key l = false := by
  cases ha : incB key l
  · rfl
  · have := (incB_iff.1 ha).at hy hx (Nat.lt_succ_self k)
    rw [decide_eq_true this] at h; cases h
end
theorem map_at {l : List Kys} {k : Nat} {x : Kys} (hx : l[k]? = some x) : (l.map kv)[k]? = some (kv x) := by rw [List.getElem?_map, hx]; rfl
theorem changed_take {l : List Kv} {k : Nat} {x : Kv} (p : Int) (hx : l[k]? = some x) : changed (l.take (k + 1)) p = changed (l.take k) p ++ (if p ≤ x.pos then [uk x] else []) := by
  unfold changed
  rw [take_snoc hx, List.filter_append, List.map_append]
  congr 1
  by_cases h : p ≤ x.pos <;> simp [h]
theorem changed_inc {l : List Kv} (h : Inc uk l) (p : Int) : Nm.Inc (changed l p) := inc_keys.1 (List.Pairwise.filter _ h)
theorem changed_len (l : List Kv) (p : Int) : (changed l p).length ≤ l.length := by
  unfold changed; rw [List.length_map]; exact List.length_filter_le _ _
/-- the element before, if there is one -/
theorem prev_of {α : Type} {key : α → Str} {l : List α} {k : Nat} {x : α} (hx : l[k]? = some x) :
    ∃ pv : Bool, incB key (l.take (k + 1)) = (incB key (l.take k) && pv) ∧ ((k = 0 ∧ pv = true) ∨ ∃ i y, k = i + 1 ∧ l[i]? = some y ∧ decide (key y < key x) = pv) := by
  cases k with
  | zero => exact ⟨true, by rw [incB_zero hx]; rfl, .inl ⟨rfl, rfl⟩⟩
  | succ k =>
    have hk : k < l.length := by have := (List.getElem?_eq_some_iff.1 hx).1; omega
    exact ⟨_, incB_succ (List.getElem?_eq_getElem hk) hx, .inr ⟨k, _, rfl, List.getElem?_eq_getElem hk, rfl⟩⟩
/-- what Check has met so far -/
structure Acc (m : Nat) (l : List Kv) (c1 c2 c3 c4 c5 : Bool) : Prop where
  names : namesB l = c1
  order : orderB l = c2
  numbers : numbersB l = c3
  full : (decide ((m : Int) ≤ 200) && l.all fun k => decide (k.devs.length ≤ 10)) = c4
  state : stateB l = c5
theorem Acc.nil (m : Nat) : Acc m [] true true true (decide ((m : Int) ≤ 200)) true := ⟨rfl, rfl, rfl, by simp, rfl⟩
theorem Acc.snoc {m k : Nat} {l : List Kv} {x : Kv} {c1 c2 c3 c4 c5 : Bool} (h : Acc m (l.take k) c1 c2 c3 c4 c5) (hx : l[k]? = some x) (pv : Bool) (hp : incB uk (l.take (k + 1)) = (incB uk (l.take k) && pv)) :
    Acc m (l.take (k + 1)) (c1 && I.userB (bs x.user) && x.devs.all fun d => devB d.id) (c2 && pv && incB dk x.devs) (c3 && inR x.master 0 && inR x.pos 0 && x.devs.all fun d => inR d.key 1) (c4 && decide (x.devs.length ≤ 10)) (c5 && x.devs.all fun d => !d.signed || decide (x.master ≠ 0)) := by
  refine ⟨?_, ?_, ?_, ?_, ?_⟩
  · rw [← h.names]; unfold namesB; rw [all_take _ hx]; ac_rfl
  · rw [← h.order]; unfold orderB; rw [all_take _ hx, hp]; ac_rfl
  · rw [← h.numbers]; unfold numbersB; rw [all_take _ hx]; ac_rfl
  · rw [← h.full, all_take _ hx]; ac_rfl
  · rw [← h.state]; unfold stateB; rw [all_take _ hx]
theorem Acc.chk {l : List Kv} {c1 c2 c3 c4 c5 : Bool} (h : Acc l.length l c1 c2 c3 c4 c5) : chk l = if c1 = false then 3 else if c2 = false then 8 else if c3 = false then 2 else if c4 = false then 29 else if c5 = false then 26 else 0 := by
  have hf : fullB l = c4 := by
    rw [← h.full]; unfold fullB
    congr 1
    rw [Bool.eq_iff_iff]; simp; omega
  unfold Dv.chk
  rw [h.names, h.order, h.numbers, hf, h.state]
/-- the like, of an entry's devices -/
structure AccD (mst : Int) (l : List Dvc) (d1 d2 d3 d5 e1 e2 e3 e5 : Bool) : Prop where
  names : (d1 && l.all fun d => devB d.id) = e1
  order : (d2 && incB dk l) = e2
  numbers : (d3 && l.all fun d => inR d.key 1) = e3
  state : (d5 && l.all fun d => !d.signed || decide (mst ≠ 0)) = e5
theorem AccD.nil (mst : Int) (d1 d2 d3 d5 : Bool) : AccD mst [] d1 d2 d3 d5 d1 d2 d3 d5 := ⟨by simp, by simp [incB], by simp, by simp⟩
theorem AccD.snoc {mst : Int} {k : Nat} {l : List Dvc} {d : Dvc} {d1 d2 d3 d5 e1 e2 e3 e5 : Bool} (h : AccD mst (l.take k) d1 d2 d3 d5 e1 e2 e3 e5) (hx : l[k]? = some d) (pv : Bool) (hp : incB dk (l.take (k + 1)) = (incB dk (l.take k) && pv)) :
    AccD mst (l.take (k + 1)) d1 d2 d3 d5 (e1 && devB d.id) (e2 && pv) (e3 && inR d.key 1) (e5 && (!d.signed || decide (mst ≠ 0))) := by
  refine ⟨?_, ?_, ?_, ?_⟩
  · rw [← h.names, all_take _ hx]; ac_rfl
  · rw [← h.order, hp]; ac_rfl
  · rw [← h.numbers, all_take _ hx]; ac_rfl
  · rw [← h.state, all_take _ hx]; ac_rfl
end Dv
theorem sorted_inc_self {l : List (List UInt8)} (h : Nm.Inc l) : Nm.sorted l = l :=
  Nm.Inc.ext (Nm.sorted_inc h.nodup) h fun x => (Nm.sorted_perm l).mem_iff
end Go.Proofs.Ytbhkgdfmjkblcaa
