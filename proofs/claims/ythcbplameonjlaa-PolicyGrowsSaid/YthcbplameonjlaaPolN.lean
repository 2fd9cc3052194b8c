/-
  slices.SortStableFunc at policies: a row of the call's own, between the words of append and those of the sort; the walks through it.
-/
import Derived.Test.YthcbplameonjlaaPolT
import Derived.Test.YthcbplameonjlaaPolR
import Derived.Test.YthcbplameonjlaaPolL
import Derived.Test.YthcbplameonjlaaNamesT
namespace Go.Proofs.Ythcbplameonjlaa
open Go.RowKit Go.Sort
attribute [local go_sem ↓] ex_st_pol
attribute [local go_sem] st_pol_new st_pol

/-! ### rows of three cells, as the sort's kit has them -/
theorem flat_pol (l : List Pol) : (flatK Rd.pol.cells 3 l.toArray).toList = Rd.pol.rows l := by
  have hs : Rd.pol.size = 3 := rfl
  have hl := Rd.rows_length Rd.pol l
  rw [hs] at hl
  apply List.ext_getElem?
  intro t
  by_cases ht : t < l.length * 3
  · have h3 : t / 3 < l.length := by omega
    have hx : l[t / 3]? = some l[t / 3] := List.getElem?_eq_getElem h3
    have hm : t % 3 < (Rd.pol.cells l[t / 3]).length := by rw [Rd.pol.len, hs]; omega
    have h := Rd.pol.rows_at hx (List.getElem?_eq_getElem hm)
    rw [hs, show t / 3 * 3 + t % 3 = t by omega] at h
    rw [h, Array.getElem?_toList]
    have hsz : t < (flatK Rd.pol.cells 3 l.toArray).size := by rw [size_flatK]; simpa using ht
    have := get_flatK Rd.pol.cells 3 l.toArray t (by simpa using ht)
    rw [Array.getElem?_eq_getElem hsz, ← getElem!_pos _ t hsz, this]
    simp [h3, hm]
  · rw [List.getElem?_eq_none (by simp; omega), List.getElem?_eq_none (by omega)]
theorem holds_id {w : World} {g : Nat} {cur : Array Value} {e : TypeId} (F : Array Value) (hb : w.heap[g]? = some (.cells cur e (0, 0))) (ht : cur.toList.take F.size = F.toList) : Holds id w g 0 F := by
  intro j hj
  refine ⟨?_, by simp [World.frozen?, hb]⟩
  have h1 : (cur.toList.take F.size)[j]? = F.toList[j]? := by rw [ht]
  rw [List.getElem?_take_of_lt hj] at h1
  simp only [World.cell?, hb, Nat.zero_add]
  simp only [Option.isSome_none, Bool.false_eq_true, if_false]
  rw [← Array.getElem?_toList, h1, Array.getElem?_toList, getElem!_pos F j hj, Array.getElem?_eq_getElem hj]; rfl
theorem heap_put_id {w : World} {g n : Nat} {os : Array Obj} {cur : Array Value} {e : TypeId} {fr : Nat × Nat} (F : Array Value) (hb : w.heap[g]? = some (.cells cur e fr)) :
    (grow (Sort.putRow id (Sort.ahead w n) g 0 F) os).heap[g]? = some (.cells (putCells id 0 F cur) e fr) := by
  have hg : g < w.heap.size := (Array.getElem?_eq_some_iff.1 hb).1
  rw [heap_grow_old _ _ (by simpa using hg)]
  simp [Sort.putRow, mapBlock, Sort.ahead, Array.getElem?_modify, hb, onCells]
theorem grownBy_put_id {w : World} {g n : Nat} {os : Array Obj} (F : Array Value) : w.grownBy (grow (Sort.putRow id (Sort.ahead w n) g 0 F) os) (some g) := by
  refine ⟨rfl, rfl, rfl, by simp, fun k hk hne => ?_⟩
  rw [heap_grow_old _ _ (by simpa using hk)]
  have : g ≠ k := fun e => hne (by rw [e])
  simp [Sort.putRow, mapBlock, Sort.ahead, Array.getElem?_modify, this]
theorem take_put_id (cur F : Array Value) (h : F.size ≤ cur.size) : (putCells id 0 F cur).toList.take F.size = F.toList := by
  apply List.ext_getElem?
  intro j
  by_cases hj : j < F.size
  · rw [List.getElem?_take_of_lt hj, Array.getElem?_toList, Array.getElem?_toList]
    simp [putCells, hj, show j < cur.size by omega]
  · rw [List.getElem?_take_eq_none (by omega), List.getElem?_eq_none (by simpa using Nat.le_of_not_lt hj)]
/-- a row of policies of the call's own, as the sort's contract asks for it, and what the sort leaves -/
theorem own_holdsK {w : World} {B : Nat} {v : Value} {l : List Pol} (h : OwnPols w B v l) (h0 : 0 < l.length) : ∃ g cap, v = .slice (some ⟨g, 0, none⟩) l.length cap ∧ B ≤ g ∧ g < w.heap.size ∧ HoldsK Rd.pol.cells 3 w g 0 l.toArray ∧
    ∀ n (m : List Pol) os, m.length = l.length → OwnPols (sortWorldK Rd.pol.cells 3 w g 0 n m.toArray os) B v m ∧ w.grownBy (sortWorldK Rd.pol.cells 3 w g 0 n m.toArray os) (some g) := by
  rcases h.2 with ⟨_, hz⟩ | ⟨g, cap, cur, rfl, hB, hg, hn, hm, hs, ht⟩
  · omega
  refine ⟨g, cap, rfl, hB, (Array.getElem?_eq_some_iff.1 hg).1, ?_, fun n m os hl => ⟨?_, grownBy_put_id _⟩⟩
  · refine holds_id _ hg ?_
    rw [flat_pol, size_flatK, ← ht]; simp
  · have hf : (flatK Rd.pol.cells 3 m.toArray).size = l.length * 3 := by rw [size_flatK]; simp [hl]
    have := take_put_id cur (flatK Rd.pol.cells 3 m.toArray) (by rw [hf, hs]; exact Nat.mul_le_mul_right _ hn)
    rw [flat_pol, hf] at this
    unfold OwnPols
    rw [hl]
    refine ⟨?_, .inr ⟨g, cap, _, rfl, hB, heap_put_id _ hg, hn, hm, by simp [putCells, hs], this⟩⟩
    rw [Rd.rows_length, hl]; rfl

/-! ### the comparison -/
def cmpS (x y : ByteArray) : Int := if bs x < bs y then -1 else if bs y < bs x then 1 else 0
theorem cmp_lt {x y : ByteArray} {e1 e2 : Bool} (h1 : Op.bytesLess x.toList y.toList = e1) (h2 : (x.toList == y.toList) = e2) : cmpS x y = if e1 then -1 else if e2 then 0 else 1 := by
  rw [bytesLess_lt] at h1
  rw [streq] at h2
  subst h1 h2
  unfold cmpS
  by_cases ha : bs x < bs y
  · simp [ha]
  · by_cases hb : bs x = bs y
    · rw [if_neg ha, if_neg (by rw [hb]; exact Nm.lt_irrefl _), decide_eq_false ha, decide_eq_true hb]; rfl
    · rcases Nm.lt_or (bs x) (bs y) with h | h | h
      · exact absurd h ha
      · exact absurd h hb
      · rw [if_neg ha, if_pos h, decide_eq_false ha, decide_eq_false hb]; rfl
theorem ltOf_lr : ltOf (fun x y : Pol => cmpS x.reason y.reason) = Pl.lr := by
  funext x y
  unfold ltOf Pl.lr cmpS
  by_cases h1 : bs x.reason < bs y.reason
  · simp [h1]
  · by_cases h2 : bs y.reason < bs x.reason <;> simp [h1, h2]
/-! ### the walks -/
theorem isNaN_any (s : ByteArray) (w : World) : Calls Try.prog 58 #[.string s] w fun e w' => e = .returned (.bool false) ∧ w' = w := by
  go_enter Try.func58, Try.ntmps58
  go_wp2_with fail
  go_ret
  exact ⟨ret_bool (by simp), rfl⟩
set_option maxHeartbeats 1000000 in
theorem cmp_any (x y : ByteArray) (w : World) : Calls Try.prog 41 #[.string x, .string y] w fun e w' => e = .returned (.int .i64 (cmpS x y)) ∧ w' = w := by
  obtain ⟨e1, h1⟩ : ∃ e, Op.bytesLess x.toList y.toList = e := ⟨_, rfl⟩
  obtain ⟨e2, h2⟩ : ∃ e, (x.toList == y.toList) = e := ⟨_, rfl⟩
  have HC := Lib.hid (cmp_lt h1 h2)
  go_enter Try.func41, Try.ntmps41
  cases e1 <;> cases e2
  all_goals
    go_wp2_with (go_at_call 58; refine (isNaN_any _ _).mono ?_; rintro e w' ⟨rfl, rfl⟩)
    try rw [Exit.noGoto_ret]
    go_ret
    exact ⟨by rw [HC.out]; rfl, rfl⟩
set_option maxHeartbeats 1000000 in
theorem cmpP_any (x y : Pol) (W : World) : Calls Try.prog 40 #[polA x, polA y] W fun e w' => e = .returned (.int .i64 (cmpS x.reason y.reason)) ∧ ∃ q os', w' = grow (W.drewN q) os' := by
  have hcon := fun V => cmp_any x.reason y.reason V
  generalize cmpS x.reason y.reason = r at hcon ⊢
  go_enter Try.func40, Try.ntmps40
  go_wp2_with (go_at_call 41; refine (hcon _).mono ?_; rintro e w' ⟨rfl, rfl⟩)
  go_ret
  exact ⟨rfl, 0, _, by rw [alloc_eq_grow, alloc_eq_grow, grow_grow]; rfl⟩
theorem ins_any (g cap a b : Nat) (d : Array Pol) (w : World) (hH : HoldsK Rd.pol.cells 3 w g 0 d) (hg : g < w.heap.size) (hab : a ≤ b) (hb : b ≤ d.size) (hsz : d.size ≤ 1000000) :
    Calls Try.prog 81 #[.slice (some ⟨g, 0, none⟩) d.size cap, .int .i64 a, .int .i64 b, .func (.func 40) #[] #[]] w fun e w' =>
      e = .returned (.tuple #[]) ∧ ∃ n os, w' = sortWorldK Rd.pol.cells 3 w g 0 n (Sort.insertionSort Pl.lr d a b) os := by
  have eg : ∀ args w, (callFunc 40 args).run Try.prog w = .ok (.enter 40 args) w := enters_of Try.func40 (by kernel_rfl) rfl
  have h := AnyQ.insertionSortCmpFunc Try.insPol 3 Try.isAgg37 Try.sizeOf37 Rd.pol.cells Rd.pol.len Rd.pol.one (fun x y => cmpS x.reason y.reason) 40 #[] g 0 cap a b d w eg (fun _ _ _ _ x y => cmpP_any x y _) hH hg hab hb (by omega)
  rw [ltOf_lr] at h
  exact h
theorem ins_nil (A : Option Addr) (cap : Nat) (f : Value) (w : World) :
    Calls Try.prog 81 #[.slice A 0 cap, .int .i64 0, .int .i64 0, f] w fun e w' => e = .returned (.tuple #[]) ∧ w' = w := by
  go_enter Try.func81, Try.ntmps81
  go_wp2_with fail
  refine wp_loop_rounds 1 ?_
  rw [rounds_succ]
  go_wp2_with fail
  go_end0
  exact ⟨rfl, rfl⟩

theorem sort_again {w : World} {g n1 n2 : Nat} {d : Array Pol} {os1 os2 : Array Obj} (hg : g < w.heap.size) : sortWorldK Rd.pol.cells 3 (sortWorldK Rd.pol.cells 3 w g 0 n1 d os1) g 0 n2 d os2 = sortWorldK Rd.pol.cells 3 w g 0 (n1 + n2) d (os1 ++ os2) := by
  unfold sortWorldK
  exact grow_step_growK Rd.pol.cells 3 w os1 os2 n1 n2 g 0 d d hg rfl

set_option maxRecDepth 100000 in
set_option maxHeartbeats 2000000 in
theorem stable_any (g cap : Nat) (l : List Pol) (w : World) (h20 : l.length ≤ 20) (hH : HoldsK Rd.pol.cells 3 w g 0 l.toArray) (hg : g < w.heap.size) :
    Calls Try.prog 57 #[.slice (some ⟨g, 0, none⟩) l.length cap, .int .i64 l.length, .func (.func 40) #[] #[]] w fun e w' =>
      e = .returned (.tuple #[]) ∧ ∃ n os, w' = sortWorldK Rd.pol.cells 3 w g 0 n (Pl.sort l).toArray os := by
  have hS : Sort.insertionSort Pl.lr l.toArray 0 l.length = (Pl.sort l).toArray := by rw [← Pl.insertion_is]
  have H1 : Hid (Calls Try.prog 81 #[.slice (some ⟨g, 0, none⟩) l.length cap, .int .i64 0, .int .i64 l.length, .func (.func 40) #[] #[]] w fun e w' =>
      e = .returned (.tuple #[]) ∧ ∃ n os, w' = sortWorldK Rd.pol.cells 3 w g 0 n (Pl.sort l).toArray os) := Lib.hid (by
    have h := ins_any g cap 0 l.length l.toArray w hH hg (Nat.zero_le _) (by simp) (by simp; omega)
    rw [hS] at h
    simpa using h)
  have H2 : Hid (∀ n os, Calls Try.prog 81 #[.slice (some ⟨g, 0, none⟩) l.length cap, .int .i64 l.length, .int .i64 l.length, .func (.func 40) #[] #[]] (sortWorldK Rd.pol.cells 3 w g 0 n (Pl.sort l).toArray os) fun e w' =>
      e = .returned (.tuple #[]) ∧ ∃ n os, w' = sortWorldK Rd.pol.cells 3 w g 0 n (Pl.sort l).toArray os) := Lib.hid (fun n os => by
    have hs : (Pl.sort l).toArray.size = l.toArray.size := by simp [Pl.sort_length]
    have hz : (Pl.sort l).toArray.size = l.length := by simp [Pl.sort_length]
    have h := ins_any g cap l.length l.length (Pl.sort l).toArray (sortWorldK Rd.pol.cells 3 w g 0 n (Pl.sort l).toArray os) (holdsK_sortWorldK_c _ _ _ _ _ _ _ _ _ hH hg hs) (Nat.lt_of_lt_of_le hg (size_sortWorldK_c _ _ _ _ _ _ _ _)) (Nat.le_refl _) (by rw [hz]; exact Nat.le_refl _) (by rw [hz]; omega)
    rw [Pl.insertion_none, hz] at h
    refine h.mono ?_
    rintro e w' ⟨rfl, n2, os2, rfl⟩
    exact ⟨rfl, _, _, sort_again hg⟩)
  clear hS hH
  go_enter Try.func57, Try.ntmps57
  go_wp2_with fail
  obtain ⟨k, hk⟩ : ∃ k, l.length = k := ⟨_, rfl⟩
  rw [hk] at h20 H1 H2 ⊢
  have HK := Lib.hid hk
  clear hk
  by_cases h : k = 20
  · subst h
    refine wp_loop_rounds 2 ?_
    rw [rounds_succ]
    go_wp2_with fail
    refine H1.out.mono ?_
    rintro e w1 ⟨rfl, n1, os1, hw1⟩
    have H3 : Hid (w1 = sortWorldK Rd.pol.cells 3 w g 0 n1 (Pl.sort l).toArray os1) := Lib.hid hw1
    have H4 := Lib.hid (H2.out n1 os1)
    rw [← hw1] at H4
    clear hw1 H1 H2
    go_wp2_with fail
    rw [rounds_succ]
    go_wp2_with fail
    refine H4.out.mono ?_
    rintro e w2 ⟨rfl, n2, os2, hw2⟩
    have H5 : Hid (w2 = sortWorldK Rd.pol.cells 3 w g 0 n2 (Pl.sort l).toArray os2) := Lib.hid hw2
    clear hw2 H4
    go_wp2_with fail
    refine wp_loop_rounds 1 ?_
    rw [rounds_succ]
    go_wp2_with fail
    go_end0
    exact ⟨rfl, n2, os2, H5.out⟩
  · have hk0 : (k : Int) < 20 := by omega
    refine wp_loop_rounds 1 ?_
    rw [rounds_succ]
    go_wp2_with fail
    refine H1.out.mono ?_
    rintro e w2 ⟨rfl, n2, os2, hw2⟩
    have H5 : Hid (w2 = sortWorldK Rd.pol.cells 3 w g 0 n2 (Pl.sort l).toArray os2) := Lib.hid hw2
    clear hw2 H1 H2
    go_wp2_with fail
    refine wp_loop_rounds 1 ?_
    rw [rounds_succ]
    go_wp2_with fail
    go_end0
    exact ⟨rfl, n2, os2, H5.out⟩
set_option maxRecDepth 100000 in
set_option maxHeartbeats 1000000 in
theorem stable_nil (A : Option Addr) (cap : Nat) (f : Value) (w : World) :
    Calls Try.prog 57 #[.slice A 0 cap, .int .i64 0, f] w fun e w' => e = .returned (.tuple #[]) ∧ w' = w := by
  go_enter Try.func57, Try.ntmps57
  go_wp2_with fail
  refine wp_loop_rounds 1 ?_
  rw [rounds_succ]
  go_wp2_with fail
  refine (ins_nil A cap f w).mono ?_
  rintro e w1 ⟨rfl, rfl⟩
  go_wp2_with fail
  refine wp_loop_rounds 1 ?_
  rw [rounds_succ]
  go_wp2_with fail
  go_end0
  exact ⟨rfl, rfl⟩
/-- slices.SortStableFunc on a row of policies of the call's own -/
theorem sortStable_any (B : Nat) (v : Value) (l : List Pol) (w : World) (h : OwnPols w B v l) (h20 : l.length ≤ 20) :
    Calls Try.prog 39 #[v, .func (.func 40) #[] #[]] w fun e w' => e = .returned (.tuple #[]) ∧ OwnPols w' B v (Pl.sort l) ∧ w.grownBy w' v.ownBlock := by
  rcases Nat.eq_zero_or_pos l.length with h0 | h0
  · obtain rfl : l = [] := List.eq_nil_of_length_eq_zero h0
    obtain ⟨A, c, hv, _⟩ := own_form h
    subst hv
    go_enter Try.func39, Try.ntmps39
    have H := Lib.hid h; clear h
    go_wp2_with fail
    refine (stable_nil A c _ w).mono ?_
    rintro e w1 ⟨rfl, rfl⟩
    go_wp2_with fail
    go_end0
    exact ⟨rfl, H.out, World.grownBy.refl _ _⟩
  · obtain ⟨g, cap, rfl, hB, hg, hH, hfin⟩ := own_holdsK h h0
    have HF := Lib.hid hfin
    clear hfin h
    go_enter Try.func39, Try.ntmps39
    go_wp2_with fail
    refine (stable_any g cap l w h20 hH hg).mono ?_
    rintro e w1 ⟨rfl, n, os, hw⟩
    have h2 := HF.out n (Pl.sort l) os (Pl.sort_length l)
    rw [← hw] at h2
    have H2 := Lib.hid h2
    clear h2 hw
    go_wp2_with fail
    go_end0
    exact ⟨rfl, H2.out.1, H2.out.2⟩
end Go.Proofs.Ythcbplameonjlaa
