/-
  The walks through the reference's New, and Use on both sides.
-/
import Derived.Test.YtnbgcjangoiodaaSesU
import Derived.Test.YtnbgcjangoiodaaIdsQ
namespace Go.Proofs.Ytnbgcjangoiodaa
open Go.RowKit
attribute [local go_sem ↓] ex_st_shr ex_st_own ex_st_ses
attribute [local go_sem] st_shr_new st_shr st_own_new st_ses_new st_ses

set_option maxRecDepth 100000 in
set_option maxHeartbeats 2000000 in
theorem rnew_any (id : Int) (room : ByteArray) (w : World) (hs : room.size ≤ maxLen) :
    Calls Try.prog 12 #[.int .i64 id, .string room] w (Ret w (newV id room)) := by
  go_enter Try.func12, Try.ntmps12
  by_cases hb : id < 1 ∨ 1000000000000 < id
  · have HE := Lib.hid (newV_err (id := id) (room := room) (e := 2) (by unfold Ss.newErr; rw [if_pos hb]) (by decide))
    have hrg := range_new w [.int .i64 0, .string ⟨#[]⟩, .int .i64 0, .slice none 0 0] 24
    have HR := Lib.hid hrg
    have hb2 : (decide (id < 1) = true) ∨ (decide (id < 1) = false ∧ decide (1000000000000 < id) = true) := by
      by_cases h1 : id < 1
      · exact .inl (decide_eq_true h1)
      · exact .inr ⟨decide_eq_false h1, decide_eq_true (by omega)⟩
    clear hb hrg
    rcases hb2 with d1 | ⟨d1, d2⟩
    all_goals
      go_wp2_with fail
      refine bodyPost_ret (v := newV id room) ?_ rfl ⟨rfl, below_alloc (Below.refl _ _) _⟩
      rw [HE.out]
      rw [results_cell_tmp (fn := Try.f12) (p := 4) (q := 5) (ty := 24) rfl _ _ w.heap.size [.int .i64 0, .string ⟨#[]⟩, .int .i64 0, .slice none 0 0] _ ?_ HR.out Try.underlying24 rfl (by rw [inf_ses]; rfl)]
      · rfl
      · rfl
  · have d1 : decide (id < 1) = false := decide_eq_false (by omega)
    have d2 : decide (1000000000000 < id) = false := decide_eq_false (by omega)
    obtain ⟨wa, hwa⟩ : ∃ wa : World, wa = w.alloc (.cells #[.int .i64 0, .string ⟨#[]⟩, .int .i64 0, .slice none 0 0] 24) := ⟨_, rfl⟩
    have hba : Below w.heap.size w wa := by rw [hwa]; exact below_alloc (Below.refl _ _) _
    have hth : thereB wa w.heap.size 4 = true := by rw [hwa]; exact thereB_new w #[.int .i64 0, .string ⟨#[]⟩, .int .i64 0, .slice none 0 0] 24 4 rfl
    have hsz : w.heap.size < wa.heap.size := by rw [hwa]; simp
    go_upto_region 1 with fail
    rw [← hwa]
    have HW := Lib.hid hwa; clear hwa
    go_wp2_with fail
    refine ((rroom_any room wa hs).mono fun _ _ => Same.ret').mono ?_
    rintro e w1 ⟨rfl, b1⟩
    have HT := Lib.hid (thereB_on hth hsz b1)
    have hth1 := HT.out
    have c1 := below_then hba b1
    cases hr : I.roomB (bs room)
    · have HE := Lib.hid (newV_err (id := id) (room := room) (e := 3) (by unfold Ss.newErr; rw [if_neg hb, if_pos hr]) (by decide))
      have HP := Lib.hid (below_put (cs := [.int .i64 0, .string ⟨#[]⟩, .int .i64 0, .slice none 0 0]) (Nat.le_refl _) c1)
      clear hr hb b1 c1
      simp only [I.errOf]
      go_wp2_with fail
      refine bodyPost_ret (v := newV id room) ?_ rfl ⟨rfl, HP.out⟩
      rw [HE.out]
      rw [results_cell_tmp (fn := Try.f12) (p := 4) (q := 5) (ty := 24) rfl _ _ w.heap.size [.int .i64 0, .string ⟨#[]⟩, .int .i64 0, .slice none 0 0] _ ?_ (range_put HT.out) Try.underlying24 rfl (by rw [inf_ses]; rfl)]
      · rfl
      · rfl
    · have HE := Lib.hid (newV_ok (id := id) (room := room) (by unfold Ss.newErr; rw [if_neg hb, if_neg (by rw [hr]; decide)]))
      have HP := Lib.hid (below_put (cs := [.int .i64 id, .string room, .int .i64 0, .slice none 0 0]) (Nat.le_refl _) c1)
      clear hr hb b1 c1
      simp only [I.errOf]
      go_wp2_with fail
      refine bodyPost_ret (v := newV id room) ?_ rfl ⟨rfl, HP.out⟩
      rw [HE.out]
      rw [results_cell_tmp (fn := Try.f12) (p := 4) (q := 5) (ty := 24) rfl _ _ w.heap.size [.int .i64 id, .string room, .int .i64 0, .slice none 0 0] _ ?_ (range_put HT.out) Try.underlying24 rfl (by rw [inf_ses]; rfl)]
      · rfl
      · rfl
/-- a block of just these cells, which may be written -/
def OBox (w : World) (g : Nat) (cs : List Value) : Prop := ∃ t, w.heap[g]? = some (.cells cs.toArray t (0, 0))
theorem OBox.new (w : World) (cs : List Value) (t : TypeId) : OBox (w.alloc (.cells cs.toArray t)) w.heap.size cs := ⟨t, heap_alloc_new _ _⟩
theorem OBox.lt {w : World} {g : Nat} {cs : List Value} (h : OBox w g cs) : g < w.heap.size := by obtain ⟨t, h⟩ := h; exact (Array.getElem?_eq_some_iff.1 h).1
theorem OBox.on {w w' : World} {g : Nat} {cs : List Value} (h : OBox w g cs) (hb : Below w.heap.size w w') : OBox w' g cs := by
  have hl := h.lt
  obtain ⟨t, h⟩ := h
  exact ⟨t, (hb.block g hl).trans h⟩
theorem OBox.cell {w : World} {g : Nat} {cs : List Value} (h : OBox w g cs) {k : Nat} {v : Value} (hv : cs[k]? = some v) : w.cell? ⟨g, k, none⟩ = some v := by
  obtain ⟨t, h⟩ := h
  rw [cell_of_row w g k _ _ _ h]; simpa using hv
theorem OBox.free {w : World} {g : Nat} {cs : List Value} (h : OBox w g cs) (k : Nat) : w.frozen? ⟨g, k, none⟩ = false := by
  obtain ⟨t, h⟩ := h
  exact frozen_of_row w g k _ _ h
theorem OBox.set {w : World} {g : Nat} {cs : List Value} (h : OBox w g cs) (k : Nat) (v : Value) : OBox (w.setCell ⟨g, k, none⟩ v) g (cs.set k v) := by
  obtain ⟨t, h⟩ := h
  exact ⟨t, by have := heap_setCell_same w g k _ _ v h; simpa using this⟩
theorem OBox.there {w : World} {g n : Nat} {cs : List Value} (h : OBox w g cs) (hn : cs.length = n) : thereB w g n = true := by
  refine thereB_of fun j hj => ?_
  rw [Nat.zero_add]
  have hj2 : j < cs.length := by omega
  exact ⟨by rw [h.cell (List.getElem?_eq_getElem hj2)]; rfl, h.free j⟩
theorem setCell_size (w : World) (a : Addr) (v : Value) : w.heap.size ≤ (w.setCell a v).heap.size := by
  unfold World.setCell
  split <;> simp

theorem OBox.other {w w' : World} {g : Nat} {cs : List Value} (h : OBox w g cs) (he : w'.heap[g]? = w.heap[g]?) : OBox w' g cs := by
  obtain ⟨t, h⟩ := h
  exact ⟨t, he.trans h⟩
theorem OBox.apart {w : World} {g g' : Nat} {cs : List Value} (h : OBox w g cs) (hne : g ≠ g') (k : Nat) (v : Value) : OBox (w.setCell ⟨g', k, none⟩ v) g cs := h.other (heap_setCell_other w ⟨g', k, none⟩ g v hne)
theorem heap_setCells_other (g : Nat) : ∀ (cs : List Value) (o : Nat) (w : World) (k : Nat), k ≠ g → (w.setCells g o cs).heap[k]? = w.heap[k]?
  | [], _, _, _, _ => rfl
  | v :: cs, o, w, k, h => (heap_setCells_other g cs (o + 1) (w.setCell ⟨g, o, none⟩ v) k h).trans (heap_setCell_other w ⟨g, o, none⟩ k v h)
theorem heap_putRow_other (w : World) (g : Nat) (cs : List Value) (k : Nat) (h : k ≠ g) : (putRow w g cs).heap[k]? = w.heap[k]? := by
  unfold putRow; exact heap_setCells_other g cs 0 w k h
theorem owns_away {w w' : World} {base size n : Nat} {e : TypeId} {v : Value} {xs : List Value} (h : w.ownsRow base e size v n xs) (ha : ∀ k, base ≤ k → w'.heap[k]? = w.heap[k]?) : w'.ownsRow base e size v n xs := by
  refine ⟨h.1, ?_⟩
  rcases h.2 with hn | ⟨g, cap, cur, rfl, hb', hgg, rest⟩
  · exact .inl hn
  · exact .inr ⟨g, cap, cur, rfl, hb', (ha g hb').trans hgg, rest⟩
theorem owns_set {w : World} {base size n g k : Nat} {e : TypeId} {v u : Value} {xs : List Value} (h : w.ownsRow base e size v n xs) (hg : g < base) : (w.setCell ⟨g, k, none⟩ u).ownsRow base e size v n xs :=
  owns_away h fun j hj => heap_setCell_other w ⟨g, k, none⟩ j u (by show j ≠ g; omega)
theorem owns_put {w : World} {base size n g : Nat} {e : TypeId} {v : Value} {xs cs : List Value} (h : w.ownsRow base e size v n xs) (hg : g < base) : (putRow w g cs).ownsRow base e size v n xs :=
  owns_away h fun j hj => heap_putRow_other w g cs j (by omega)
def OwnShrs (w : World) (B : Nat) (v : Value) (l : List Shr) : Prop := w.ownsRow B 56 3 v l.length (Rd.shr.rows l)
def ShrOk (l : List Shr) : Prop := ∀ x ∈ l, x.user.size ≤ maxLen ∧ x.dev.size ≤ maxLen ∧ (-9223372036854775808 ≤ x.index ∧ x.index ≤ 9223372036854775807)
theorem shr_ok {w : World} {A : Option Addr} {n : Nat} {l : List Shr} (h : Rd.shr.Holds w A n l) : ShrOk l := fun x hx => ⟨(h.2.2 x hx).1, (h.2.2 x hx).2.1, (h.2.2 x hx).2.2.1⟩
theorem ShrOk.ok {l : List Shr} (h : ShrOk l) {w : World} : ∀ x ∈ l, Rd.shr.Ok w x := fun x hx => ⟨(h x hx).1, (h x hx).2.1, (h x hx).2.2, trivial⟩
theorem OwnShrs.form {w : World} {B : Nat} {v : Value} {l : List Shr} (h : OwnShrs w B v l) (hok : ShrOk l) : ∃ A c, v = .slice A l.length c ∧ Rd.shr.Holds w A l.length l ∧ l.length ≤ c := by
  obtain ⟨A, c, rfl, hc, hr⟩ := own_form h
  exact ⟨A, c, rfl, ⟨hr, rfl, hok.ok⟩, hc⟩

namespace Ss
def useErr (most next : Int) : Int := if most < 1 ∨ 10000 < most ∨ next < 0 then 2 else if most ≤ next then 26 else 0
end Ss
/-- what Use leaves -/
def UseP (w : World) (id : Int) (room : ByteArray) (next : Int) (l : List Shr) (most : Int) (e : Ending) (w' : World) : Prop :=
  Below w.heap.size w w' ∧ ((Ss.useErr most next ≠ 0 ∧ e = .returned (.tuple #[sesA 0 ⟨#[]⟩ 0 none 0 0, .int .i64 0, .int .i64 (Ss.useErr most next)])) ∨
    (Ss.useErr most next = 0 ∧ ∃ A c, e = .returned (.tuple #[sesA id room (next + 1) A l.length c, .int .i64 next, .int .i64 0]) ∧ Rd.shr.Holds w' A l.length l ∧ l.length ≤ c))
theorem UseP.err {w w' : World} {id : Int} {room : ByteArray} {next : Int} {l : List Shr} {most r : Int} (h : Ss.useErr most next = r) (h0 : r ≠ 0) (hb : Below w.heap.size w w') :
    UseP w id room next l most (.returned (.tuple #[sesA 0 ⟨#[]⟩ 0 none 0 0, .int .i64 0, .int .i64 r])) w' := by
  subst h; exact ⟨hb, .inl ⟨h0, rfl⟩⟩
set_option maxRecDepth 100000 in
set_option maxHeartbeats 4000000 in
theorem use_any (id : Int) (room : ByteArray) (next : Int) (A : Option Addr) (n c : Nat) (l : List Shr) (most : Int) (w : World) (hr : Rd.shr.Holds w A n l) (hn : n ≤ 900000) :
    Calls Try.prog 17 #[sesA id room next A n c, .int .i64 most] w (UseP w id room next l most) := by
  obtain ⟨i0, hi, hz0, hz1, hz2⟩ := info_parts infoShr
  have HI := Lib.hid hi; have HZ0 := Lib.hid hz0; have HZ1 := Lib.hid hz1; have HZ2 := Lib.hid hz2
  clear hi hz0 hz1 hz2
  have HL := Lib.hid hr.length
  have HOK := Lib.hid (shr_ok hr)
  obtain ⟨wa, hwa⟩ : ∃ wa : World, wa = (w.alloc (.cells #[.int .i64 id, .string room, .int .i64 next, .slice A n c] 24)).alloc (.cells #[.int .i64 0, .string ⟨#[]⟩, .int .i64 0, .slice none 0 0] 24) := ⟨_, rfl⟩
  have hba : Below w.heap.size w wa := by rw [hwa]; exact below_alloc (below_alloc (Below.refl _ _) _) _
  have b0 : OBox wa w.heap.size [.int .i64 id, .string room, .int .i64 next, .slice A n c] := by rw [hwa]; exact (OBox.new w [.int .i64 id, .string room, .int .i64 next, .slice A n c] _).on (below_alloc (Below.refl _ _) _)
  have b1 : OBox wa (w.heap.size + 1) [.int .i64 0, .string ⟨#[]⟩, .int .i64 0, .slice none 0 0] := by rw [hwa]; simpa using OBox.new (w.alloc (.cells #[.int .i64 id, .string room, .int .i64 next, .slice A n c] 24)) [.int .i64 0, .string ⟨#[]⟩, .int .i64 0, .slice none 0 0] 24
  have hsz : wa.heap.size = w.heap.size + 2 := by rw [hwa]; simp
  go_enter Try.func17, Try.ntmps17
  go_upto_region 1 with fail
  rw [← hwa]
  have HW := Lib.hid hwa; clear hwa
  obtain ⟨g, hg⟩ : ∃ g, w.heap.size = g := ⟨_, rfl⟩
  rw [hg] at b0 b1 hsz ⊢
  have HG := Lib.hid hg
  clear hg
  have k0 : wa.cell? ⟨g, 0, none⟩ = some (.int .i64 id) := b0.cell rfl
  have k1 : wa.cell? ⟨g, 1, none⟩ = some (.string room) := b0.cell rfl
  have k2 : wa.cell? ⟨g, 2, none⟩ = some (.int .i64 next) := b0.cell rfl
  have k3 : wa.cell? ⟨g, 3, none⟩ = some (.slice A n c) := b0.cell rfl
  have hth : thereB wa (g + 1) 4 = true := b1.there rfl
  have hra := hr.on hba
  by_cases hbad : most < 1 ∨ 10000 < most ∨ next < 0
  · have HE : Hid (Ss.useErr most next = 2) := by show _ = _; unfold Ss.useErr; rw [if_pos hbad]
    have hb2 : (decide (most < 1) = true) ∨ (decide (most < 1) = false ∧ decide (10000 < most) = true) ∨ (decide (most < 1) = false ∧ decide (10000 < most) = false ∧ decide (next < 0) = true) := by
      by_cases h1 : most < 1
      · exact .inl (decide_eq_true h1)
      · by_cases h2 : 10000 < most
        · exact .inr (.inl ⟨decide_eq_false h1, decide_eq_true h2⟩)
        · exact .inr (.inr ⟨decide_eq_false h1, decide_eq_false h2, decide_eq_true (by omega)⟩)
    have HP := Lib.hid (below_put (cs := [.int .i64 0, .string ⟨#[]⟩, .int .i64 0, .slice none 0 0]) (g := g + 1) (by have := HG.out; omega) hba)
    have HT := Lib.hid hth
    clear hbad hra hba
    rcases hb2 with d1 | ⟨d1, d2⟩ | ⟨d1, d2, d3⟩
    all_goals
      go_wp2_with fail
      refine bodyPost_ret (v := .tuple #[sesA 0 ⟨#[]⟩ 0 none 0 0, .int .i64 0, .int .i64 2]) ?_ rfl (UseP.err HE.out (by decide) HP.out)
      rw [results_cell_tmp2 (fn := Try.f17) (p := 4) (q := 5) (r := 6) (ty := 24) rfl _ _ (g + 1) [.int .i64 0, .string ⟨#[]⟩, .int .i64 0, .slice none 0 0] _ ?_ (range_put HT.out) Try.underlying24 rfl (by rw [inf_ses]; rfl)]
      · rfl
      · rfl
  have d1 : decide (most < 1) = false := decide_eq_false (by omega)
  have d2 : decide (10000 < most) = false := decide_eq_false (by omega)
  have d3 : decide (next < 0) = false := decide_eq_false (by omega)
  by_cases hfull : most ≤ next
  · have HE : Hid (Ss.useErr most next = 26) := by show _ = _; unfold Ss.useErr; rw [if_neg hbad, if_pos hfull]
    have HP := Lib.hid (below_put (cs := [.int .i64 0, .string ⟨#[]⟩, .int .i64 0, .slice none 0 0]) (g := g + 1) (by have := HG.out; omega) hba)
    have HT := Lib.hid hth
    clear hbad hra hba
    go_wp2_with fail
    refine bodyPost_ret (v := .tuple #[sesA 0 ⟨#[]⟩ 0 none 0 0, .int .i64 0, .int .i64 26]) ?_ rfl (UseP.err HE.out (by decide) HP.out)
    rw [results_cell_tmp2 (fn := Try.f17) (p := 4) (q := 5) (r := 6) (ty := 24) rfl _ _ (g + 1) [.int .i64 0, .string ⟨#[]⟩, .int .i64 0, .slice none 0 0] _ ?_ (range_put HT.out) Try.underlying24 rfl (by rw [inf_ses]; rfl)]
    · rfl
    · rfl
  have HE : Hid (Ss.useErr most next = 0) := by show _ = _; unfold Ss.useErr; rw [if_neg hbad, if_neg hfull]
  have hnx : 0 ≤ next ∧ next + 1 ≤ 10000 := by omega
  have hw1 : IntKind.i64.wrap (next + 1) = next + 1 := IntWalk.i64_in _ (by omega)
  obtain ⟨hn0, hn1⟩ := hnx
  have hfull2 : ¬ most ≤ next := hfull
  have f2 := b0.free 2
  have f3 := b0.free 3
  clear hbad hfull
  go_upto_region 7 with fail
  have b2 := b0.set 2 (.int .i64 (next + 1))
  have hb2 : Below w.heap.size w (wa.setCell ⟨g, 2, none⟩ (.int .i64 (next + 1))) := Below.setCell hba (p := ⟨g, 2, none⟩) (by show _ ≤ g; have := HG.out; omega) _
  have b1' := b1.apart (g' := g) (by omega) 2 (.int .i64 (next + 1))
  have hr2 : Rd.shr.Holds (wa.setCell ⟨g, 2, none⟩ (.int .i64 (next + 1))) A n l := hr.on hb2
  change OBox _ g [.int .i64 id, .string room, .int .i64 (next + 1), .slice A n c] at b2
  generalize wa.setCell ⟨g, 2, none⟩ (.int .i64 (next + 1)) = W at b2 hb2 b1' hr2 ⊢
  clear k0 k1 k2 k3 hth hra hba f2 f3 b0 b1
  have hsW := b1'.lt
  have k3 : W.cell? ⟨g, 3, none⟩ = some (.slice A n c) := b2.cell rfl
  have f3 := b2.free 3
  have HRD := Lib.hid hr2.1
  go_wp2_with (at_builtin; refine app_rows rfl (.const (.slice none 0 0)) (.tmp 33) 22 rfl W.heap.size 56 i0 _ 3 40 Try.underlying22 HI.out HZ0.out HZ1.out HZ2.out rfl (by decide) (by decide) _ 0 [] rfl (World.ownsRow_nil _ _ _ _) W.heap.size A n c (Rd.shr.rows l) rfl HRD.out ?a2 ?a3 ?a4 ?_)
  case a2 => exact Rd.shr.rows_one' l
  case a3 => omega
  intro v1 W1 hown1 hg1
  have hb1 : Below W.heap.size W W1 := (Below.refl _ _).grown hg1 (Nat.le_refl _) (fun j hj => by simp [Value.ownBlock] at hj)
  have hown : OwnShrs W1 W.heap.size v1 l := by
    unfold OwnShrs
    rw [HL.out]
    simpa using hown1
  obtain ⟨A1, c1, rfl, _, _⟩ := hown.form HOK.out
  have b3 := b2.on hb1
  have r3 := b1'.on hb1
  have hbW1 := below_then hb2 hb1
  clear k3 f3 hown1 hg1 hb1
  have k3 : W1.cell? ⟨g, 3, none⟩ = some (.slice A n c) := b3.cell rfl
  have f3 := b3.free 3
  go_upto_region 8 with fail
  have b4 := b3.set 3 (.slice A1 l.length c1)
  have r4 := r3.apart (g' := g) (by omega) 3 (.slice A1 l.length c1)
  have own4 : OwnShrs (W1.setCell ⟨g, 3, none⟩ (.slice A1 l.length c1)) W.heap.size (.slice A1 l.length c1) l := owns_set hown (by omega)
  have hb4 : Below w.heap.size w (W1.setCell ⟨g, 3, none⟩ (.slice A1 l.length c1)) := Below.setCell hbW1 (p := ⟨g, 3, none⟩) (by show _ ≤ g; have := HG.out; omega) _
  change OBox _ g [.int .i64 id, .string room, .int .i64 (next + 1), .slice A1 l.length c1] at b4
  generalize W1.setCell ⟨g, 3, none⟩ (.slice A1 l.length c1) = W2 at b4 r4 own4 hb4 ⊢
  clear b3 r3 hbW1 hown k3 f3
  obtain ⟨A2, c2, h2, _, hc2⟩ := own4.form HOK.out
  cases h2
  have hc1 := hc2
  have k0 : W2.cell? ⟨g, 0, none⟩ = some (.int .i64 id) := b4.cell rfl
  have k1 : W2.cell? ⟨g, 1, none⟩ = some (.string room) := b4.cell rfl
  have k2 : W2.cell? ⟨g, 2, none⟩ = some (.int .i64 (next + 1)) := b4.cell rfl
  have k3 : W2.cell? ⟨g, 3, none⟩ = some (.slice A1 l.length c1) := b4.cell rfl
  have hth := r4.there (n := 4) rfl
  have HT := Lib.hid hth
  have hfin : OwnShrs (putRow W2 (g + 1) [.int .i64 id, .string room, .int .i64 (next + 1), .slice A1 l.length c1]) W.heap.size (.slice A1 l.length c1) l := owns_put own4 (by omega)
  obtain ⟨A9, c9, he9, hH, _⟩ := hfin.form HOK.out
  cases he9
  have HH := Lib.hid hH
  have HP := Lib.hid (below_put (cs := [.int .i64 id, .string room, .int .i64 (next + 1), .slice A1 l.length c1]) (g := g + 1) (by have := HG.out; omega) hb4)
  clear hH hfin
  go_wp2_with fail
  refine bodyPost_ret (v := .tuple #[sesA id room (next + 1) A1 l.length c1, .int .i64 next, .int .i64 0]) ?_ rfl ⟨HP.out, .inr ⟨HE.out, A1, c1, rfl, HH.out, hc1⟩⟩
  rw [results_cell_tmp2 (fn := Try.f17) (p := 4) (q := 5) (r := 6) (ty := 24) rfl _ _ (g + 1) [.int .i64 id, .string room, .int .i64 (next + 1), .slice A1 l.length c1] _ ?_ (range_put HT.out) Try.underlying24 rfl (by rw [inf_ses]; rfl)]
  · rfl
  · rfl

set_option maxRecDepth 100000 in
set_option maxHeartbeats 4000000 in
theorem ruse_any (id : Int) (room : ByteArray) (next : Int) (A : Option Addr) (n c : Nat) (l : List Shr) (most : Int) (w : World) (hr : Rd.shr.Holds w A n l) (hn : n ≤ 900000) :
    Calls Try.prog 18 #[sesA id room next A n c, .int .i64 most] w (UseP w id room next l most) := by
  obtain ⟨i0, hi, hz0, hz1, hz2⟩ := info_parts infoShr
  have HI := Lib.hid hi; have HZ0 := Lib.hid hz0; have HZ1 := Lib.hid hz1; have HZ2 := Lib.hid hz2
  clear hi hz0 hz1 hz2
  have HL := Lib.hid hr.length
  have HOK := Lib.hid (shr_ok hr)
  obtain ⟨wa, hwa⟩ : ∃ wa : World, wa = (w.alloc (.cells #[.int .i64 id, .string room, .int .i64 next, .slice A n c] 24)).alloc (.cells #[.int .i64 0, .string ⟨#[]⟩, .int .i64 0, .slice none 0 0] 24) := ⟨_, rfl⟩
  have hba : Below w.heap.size w wa := by rw [hwa]; exact below_alloc (below_alloc (Below.refl _ _) _) _
  have b0 : OBox wa w.heap.size [.int .i64 id, .string room, .int .i64 next, .slice A n c] := by rw [hwa]; exact (OBox.new w [.int .i64 id, .string room, .int .i64 next, .slice A n c] _).on (below_alloc (Below.refl _ _) _)
  have b1 : OBox wa (w.heap.size + 1) [.int .i64 0, .string ⟨#[]⟩, .int .i64 0, .slice none 0 0] := by rw [hwa]; simpa using OBox.new (w.alloc (.cells #[.int .i64 id, .string room, .int .i64 next, .slice A n c] 24)) [.int .i64 0, .string ⟨#[]⟩, .int .i64 0, .slice none 0 0] 24
  have hsz : wa.heap.size = w.heap.size + 2 := by rw [hwa]; simp
  go_enter Try.func18, Try.ntmps18
  go_upto_region 1 with fail
  rw [← hwa]
  have HW := Lib.hid hwa; clear hwa
  obtain ⟨g, hg⟩ : ∃ g, w.heap.size = g := ⟨_, rfl⟩
  rw [hg] at b0 b1 hsz ⊢
  have HG := Lib.hid hg
  clear hg
  have k0 : wa.cell? ⟨g, 0, none⟩ = some (.int .i64 id) := b0.cell rfl
  have k1 : wa.cell? ⟨g, 1, none⟩ = some (.string room) := b0.cell rfl
  have k2 : wa.cell? ⟨g, 2, none⟩ = some (.int .i64 next) := b0.cell rfl
  have k3 : wa.cell? ⟨g, 3, none⟩ = some (.slice A n c) := b0.cell rfl
  have hth : thereB wa (g + 1) 4 = true := b1.there rfl
  have hra := hr.on hba
  by_cases hbad : most < 1 ∨ 10000 < most ∨ next < 0
  · have HE : Hid (Ss.useErr most next = 2) := by show _ = _; unfold Ss.useErr; rw [if_pos hbad]
    have hb2 : (decide (most < 1) = true) ∨ (decide (most < 1) = false ∧ decide (10000 < most) = true) ∨ (decide (most < 1) = false ∧ decide (10000 < most) = false ∧ decide (next < 0) = true) := by
      by_cases h1 : most < 1
      · exact .inl (decide_eq_true h1)
      · by_cases h2 : 10000 < most
        · exact .inr (.inl ⟨decide_eq_false h1, decide_eq_true h2⟩)
        · exact .inr (.inr ⟨decide_eq_false h1, decide_eq_false h2, decide_eq_true (by omega)⟩)
    have HP := Lib.hid (below_put (cs := [.int .i64 0, .string ⟨#[]⟩, .int .i64 0, .slice none 0 0]) (g := g + 1) (by have := HG.out; omega) hba)
    have HT := Lib.hid hth
    clear hbad hra hba
    rcases hb2 with d1 | ⟨d1, d2⟩ | ⟨d1, d2, d3⟩
    all_goals
      go_wp2_with fail
      refine bodyPost_ret (v := .tuple #[sesA 0 ⟨#[]⟩ 0 none 0 0, .int .i64 0, .int .i64 2]) ?_ rfl (UseP.err HE.out (by decide) HP.out)
      rw [results_cell_tmp2 (fn := Try.f18) (p := 4) (q := 5) (r := 6) (ty := 24) rfl _ _ (g + 1) [.int .i64 0, .string ⟨#[]⟩, .int .i64 0, .slice none 0 0] _ ?_ (range_put HT.out) Try.underlying24 rfl (by rw [inf_ses]; rfl)]
      · rfl
      · rfl
  have d1 : decide (most < 1) = false := decide_eq_false (by omega)
  have d2 : decide (10000 < most) = false := decide_eq_false (by omega)
  have d3 : decide (next < 0) = false := decide_eq_false (by omega)
  by_cases hfull : most ≤ next
  · have HE : Hid (Ss.useErr most next = 26) := by show _ = _; unfold Ss.useErr; rw [if_neg hbad, if_pos hfull]
    have HP := Lib.hid (below_put (cs := [.int .i64 0, .string ⟨#[]⟩, .int .i64 0, .slice none 0 0]) (g := g + 1) (by have := HG.out; omega) hba)
    have HT := Lib.hid hth
    clear hbad hra hba
    go_wp2_with fail
    refine bodyPost_ret (v := .tuple #[sesA 0 ⟨#[]⟩ 0 none 0 0, .int .i64 0, .int .i64 26]) ?_ rfl (UseP.err HE.out (by decide) HP.out)
    rw [results_cell_tmp2 (fn := Try.f18) (p := 4) (q := 5) (r := 6) (ty := 24) rfl _ _ (g + 1) [.int .i64 0, .string ⟨#[]⟩, .int .i64 0, .slice none 0 0] _ ?_ (range_put HT.out) Try.underlying24 rfl (by rw [inf_ses]; rfl)]
    · rfl
    · rfl
  have HE : Hid (Ss.useErr most next = 0) := by show _ = _; unfold Ss.useErr; rw [if_neg hbad, if_neg hfull]
  have hnx : 0 ≤ next ∧ next + 1 ≤ 10000 := by omega
  have hw1 : IntKind.i64.wrap (next + 1) = next + 1 := IntWalk.i64_in _ (by omega)
  obtain ⟨hn0, hn1⟩ := hnx
  have hfull2 : ¬ most ≤ next := hfull
  have f2 := b0.free 2
  have f3 := b0.free 3
  clear hbad hfull
  have HSZ := Lib.hid hsz
  clear hsz
  have hown0 : (wa.alloc (.cells #[] 56)).ownsRow wa.heap.size 56 3 (.slice (some ⟨wa.heap.size, 0, none⟩) 0 0) 0 [] := World.ownsRow_made wa _ 0 (Nat.le_refl _) (by unfold maxLen; omega) (by simp)
  have HRD := Lib.hid hra.1
  have hk3 : (wa.alloc (.cells #[] 56)).cell? ⟨g, 3, none⟩ = some (.slice A n c) := (b0.on (below_alloc (Below.refl _ _) _)).cell rfl
  go_wp2_with (at_builtin; refine app_rows rfl (.tmp 27) (.tmp 29) 22 rfl wa.heap.size 56 i0 _ 3 40 Try.underlying22 HI.out HZ0.out HZ1.out HZ2.out rfl (by decide) (by decide) _ 0 [] rfl hown0 wa.heap.size A n c (Rd.shr.rows l) rfl ?a1 ?a2 ?a3 ?a4 ?_)
  case a1 => exact HRD.out.below (below_alloc (Below.refl _ _) _)
  case a2 => exact Rd.shr.rows_one' l
  case a3 => omega
  intro v1 W1 hown1 hg1
  have hb1 : Below wa.heap.size wa W1 := (below_alloc (Below.refl _ _) _).grown hg1 (by simp) (fun j hj => (World.ownsRow.lt hown0 _ hj).1)
  have hown : OwnShrs W1 wa.heap.size v1 l := by
    unfold OwnShrs
    rw [HL.out]
    simpa using hown1
  obtain ⟨A1, c1, rfl, _, _⟩ := hown.form HOK.out
  have b3 := b0.on hb1
  have r3 := b1.on hb1
  have hbW1 := below_then hba hb1
  clear k0 k1 k2 k3 hk3 f2 f3 hown1 hg1 hb1 hown0 hth hra b0 b1 hba
  have k3 : W1.cell? ⟨g, 3, none⟩ = some (.slice A n c) := b3.cell rfl
  have f3 := b3.free 3
  go_upto_region 7 with fail
  have b4 := b3.set 3 (.slice A1 l.length c1)
  have r4 := r3.apart (g' := g) (by omega) 3 (.slice A1 l.length c1)
  have own4 : OwnShrs (W1.setCell ⟨g, 3, none⟩ (.slice A1 l.length c1)) wa.heap.size (.slice A1 l.length c1) l := owns_set hown (by have := HSZ.out; omega)
  have hb4 : Below w.heap.size w (W1.setCell ⟨g, 3, none⟩ (.slice A1 l.length c1)) := Below.setCell hbW1 (p := ⟨g, 3, none⟩) (by show _ ≤ g; have := HG.out; omega) _
  change OBox _ g [.int .i64 id, .string room, .int .i64 next, .slice A1 l.length c1] at b4
  generalize W1.setCell ⟨g, 3, none⟩ (.slice A1 l.length c1) = W3 at b4 r4 own4 hb4 ⊢
  clear b3 r3 hbW1 hown k3 f3
  have k2 : W3.cell? ⟨g, 2, none⟩ = some (.int .i64 next) := b4.cell rfl
  have f2 := b4.free 2
  go_upto_region 8 with fail
  have b5 := b4.set 2 (.int .i64 (next + 1))
  have r5 := r4.apart (g' := g) (by omega) 2 (.int .i64 (next + 1))
  have own5 : OwnShrs (W3.setCell ⟨g, 2, none⟩ (.int .i64 (next + 1))) wa.heap.size (.slice A1 l.length c1) l := owns_set own4 (by have := HSZ.out; omega)
  have hb5 : Below w.heap.size w (W3.setCell ⟨g, 2, none⟩ (.int .i64 (next + 1))) := Below.setCell hb4 (p := ⟨g, 2, none⟩) (by show _ ≤ g; have := HG.out; omega) _
  change OBox _ g [.int .i64 id, .string room, .int .i64 (next + 1), .slice A1 l.length c1] at b5
  generalize W3.setCell ⟨g, 2, none⟩ (.int .i64 (next + 1)) = W2 at b5 r5 own5 hb5 ⊢
  clear b4 r4 own4 hb4 k2 f2
  obtain ⟨A2, c2, h2, _, hc2⟩ := own5.form HOK.out
  cases h2
  have hc1 := hc2
  have k0 : W2.cell? ⟨g, 0, none⟩ = some (.int .i64 id) := b5.cell rfl
  have k1 : W2.cell? ⟨g, 1, none⟩ = some (.string room) := b5.cell rfl
  have k2 : W2.cell? ⟨g, 2, none⟩ = some (.int .i64 (next + 1)) := b5.cell rfl
  have k3 : W2.cell? ⟨g, 3, none⟩ = some (.slice A1 l.length c1) := b5.cell rfl
  have hth := r5.there (n := 4) rfl
  have HT := Lib.hid hth
  have hfin : OwnShrs (putRow W2 (g + 1) [.int .i64 id, .string room, .int .i64 (next + 1), .slice A1 l.length c1]) wa.heap.size (.slice A1 l.length c1) l := owns_put own5 (by have := HSZ.out; omega)
  obtain ⟨A9, c9, he9, hH, _⟩ := hfin.form HOK.out
  cases he9
  have HH := Lib.hid hH
  have HP := Lib.hid (below_put (cs := [.int .i64 id, .string room, .int .i64 (next + 1), .slice A1 l.length c1]) (g := g + 1) (by have := HG.out; omega) hb5)
  clear hH hfin
  go_wp2_with fail
  refine bodyPost_ret (v := .tuple #[sesA id room (next + 1) A1 l.length c1, .int .i64 next, .int .i64 0]) ?_ rfl ⟨HP.out, .inr ⟨HE.out, A1, c1, rfl, HH.out, hc1⟩⟩
  rw [results_cell_tmp2 (fn := Try.f18) (p := 4) (q := 5) (r := 6) (ty := 24) rfl _ _ (g + 1) [.int .i64 id, .string room, .int .i64 (next + 1), .slice A1 l.length c1] _ ?_ (range_put HT.out) Try.underlying24 rfl (by rw [inf_ses]; rfl)]
  · rfl
  · rfl

end Go.Proofs.Ytnbgcjangoiodaa
