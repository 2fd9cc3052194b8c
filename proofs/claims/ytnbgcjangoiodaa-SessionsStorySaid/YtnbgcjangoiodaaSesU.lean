/-
  The walks through the reference's tests of size and equality, and through New and Use on both sides.
-/
import Derived.Test.YtnbgcjangoiodaaSesV
namespace Go.Proofs.Ytnbgcjangoiodaa
open Go.RowKit
attribute [local go_sem ↓] ex_st_shr ex_st_own ex_st_ses
attribute [local go_sem] st_shr_new st_shr st_own_new st_ses_new st_ses

set_option maxRecDepth 100000 in
set_option maxHeartbeats 2000000 in
theorem sameShares_any (A B : Option Addr) (n c d : Nat) (l : List Shr) (w : World) (ha : Rd.shr.Holds w A n l) (hb : Rd.shr.Holds w B n l) (hn : n ≤ 1000000) :
    Calls Try.prog 22 #[.slice A n c, .slice B n d] w (Ret w (.bool true)) := by
  go_enter Try.func22, Try.ntmps22
  go_wp2_with fail
  go_loopw [5] (fun i wr => ∃ k : Nat, k ≤ n ∧ i = .int .i64 k ∧ Below w.heap.size w wr) (fun i _ => n - (intOf i).toNat)
  case atStart => exact ⟨0, by omega, rfl, Below.refl _ _⟩
  case round =>
    obtain ⟨k, hk, rfl, hbw⟩ := hrel
    by_cases hlt : k < n
    · obtain ⟨b1, o1, x, rfl, _, hu, _, _, hxa⟩ := (ha.on hbw).mid (by decide) hlt
      obtain ⟨b2, o2, y, rfl, _, hv, _, _, hya⟩ := (hb.on hbw).mid (by decide) hlt
      obtain rfl : x = y := by rw [hu] at hv; cases hv; rfl
      have x0 : wr.cell? ⟨b1, o1 + k * 3, none⟩ = some (.string x.user) := hxa 0 _ rfl
      have x1 : wr.cell? ⟨b1, o1 + k * 3 + 1, none⟩ = some (.string x.dev) := hxa 1 _ rfl
      have x2 : wr.cell? ⟨b1, o1 + k * 3 + 2, none⟩ = some (.int .i64 x.index) := hxa 2 _ rfl
      have y0 : wr.cell? ⟨b2, o2 + k * 3, none⟩ = some (.string x.user) := hya 0 _ rfl
      have y1 : wr.cell? ⟨b2, o2 + k * 3 + 1, none⟩ = some (.string x.dev) := hya 1 _ rfl
      have y2 : wr.cell? ⟨b2, o2 + k * 3 + 2, none⟩ = some (.int .i64 x.index) := hya 2 _ rfl
      have hk0 : (k : Int) < n := by omega
      clear hu hv hxa hya
      go_wp2_with fail
      go_quiet (fail)
      go_wp2_with fail
      exact ⟨⟨k + 1, by omega, by go_num, below_drewN hbw _⟩, by simp [intOf]; omega⟩
    · go_wp2_with fail
      go_ret
      exact ⟨rfl, hbw⟩

set_option maxRecDepth 100000 in
set_option maxHeartbeats 2000000 in
theorem sameSes_any (id : Int) (room : ByteArray) (next : Int) (A B : Option Addr) (n c d : Nat) (l : List Shr) (w : World) (ha : Rd.shr.Holds w A n l) (hb : Rd.shr.Holds w B n l) (hn : n ≤ 1000000) :
    Calls Try.prog 15 #[sesA id room next A n c, sesA id room next B n d] w (Ret w (.bool true)) := by
  obtain ⟨wa, hwa⟩ : ∃ wa : World, wa = (w.alloc (.cells #[.int .i64 id, .string room, .int .i64 next, .slice A n c] 24)).alloc (.cells #[.int .i64 id, .string room, .int .i64 next, .slice B n d] 24) := ⟨_, rfl⟩
  have hba : Below w.heap.size w wa := by rw [hwa]; exact below_alloc (below_alloc (Below.refl _ _) _) _
  have b0 : Box wa w.heap.size [.int .i64 id, .string room, .int .i64 next, .slice A n c] := by rw [hwa]; exact (Box.new w [.int .i64 id, .string room, .int .i64 next, .slice A n c] _).on (below_alloc (Below.refl _ _) _)
  have b1 : Box wa (w.heap.size + 1) [.int .i64 id, .string room, .int .i64 next, .slice B n d] := by rw [hwa]; simpa using Box.new (w.alloc (.cells #[.int .i64 id, .string room, .int .i64 next, .slice A n c] 24)) [.int .i64 id, .string room, .int .i64 next, .slice B n d] 24
  have k0 : wa.cell? ⟨w.heap.size, 0, none⟩ = some (.int .i64 id) := b0.at_ 0 _ rfl
  have k1 : wa.cell? ⟨w.heap.size, 1, none⟩ = some (.string room) := b0.at_ 1 _ rfl
  have k2 : wa.cell? ⟨w.heap.size, 2, none⟩ = some (.int .i64 next) := b0.at_ 2 _ rfl
  have k3 : wa.cell? ⟨w.heap.size, 3, none⟩ = some (.slice A n c) := b0.at_ 3 _ rfl
  have j0 : wa.cell? ⟨w.heap.size + 1, 0, none⟩ = some (.int .i64 id) := b1.at_ 0 _ rfl
  have j1 : wa.cell? ⟨w.heap.size + 1, 1, none⟩ = some (.string room) := b1.at_ 1 _ rfl
  have j2 : wa.cell? ⟨w.heap.size + 1, 2, none⟩ = some (.int .i64 next) := b1.at_ 2 _ rfl
  have j3 : wa.cell? ⟨w.heap.size + 1, 3, none⟩ = some (.slice B n d) := b1.at_ 3 _ rfl
  go_enter Try.func15, Try.ntmps15
  go_upto_region 1 with fail
  rw [← hwa]
  have HW := Lib.hid hwa; clear hwa b0 b1
  have ha2 := ha.on hba
  have hb2 := hb.on hba
  go_wp2_with fail
  refine (sameShares_any A B n c d l wa ha2 hb2 hn).mono ?_
  rintro e w1 ⟨rfl, b1⟩
  go_wp2_with fail
  go_ret
  exact ⟨rfl, below_then hba b1⟩

/-- it returns some bool b of which P b holds -/
def SomeS (P : Bool → Prop) (w : World) (e : Ending) (w' : World) : Prop := ∃ b, e = .returned (.bool b) ∧ P b ∧ Below w.heap.size w w'
set_option maxRecDepth 100000 in
set_option maxHeartbeats 2000000 in
theorem rgreat45_any (id : Int) (room : ByteArray) (next : Int) (A : Option Addr) (n c : Nat) (l : List Shr) (w : World) (hr : Rd.shr.Holds w A n l) (hn : n ≤ maxLen) :
    Calls Try.prog 10 #[sesA id room next A n c, .int .i64 40] w (SomeS (fun b => b = false → n ≤ 40) w) := by
  unfold maxLen at hn
  obtain ⟨wa, hwa⟩ : ∃ wa : World, wa = w.alloc (.cells #[.int .i64 id, .string room, .int .i64 next, .slice A n c] 24) := ⟨_, rfl⟩
  have hba : Below w.heap.size w wa := by rw [hwa]; exact below_alloc (Below.refl _ _) _
  have b0 : Box wa w.heap.size [.int .i64 id, .string room, .int .i64 next, .slice A n c] := by rw [hwa]; exact Box.new w [.int .i64 id, .string room, .int .i64 next, .slice A n c] _
  have k1 : wa.cell? ⟨w.heap.size, 1, none⟩ = some (.string room) := b0.at_ 1 _ rfl
  have k3 : wa.cell? ⟨w.heap.size, 3, none⟩ = some (.slice A n c) := b0.at_ 3 _ rfl
  go_enter Try.func10, Try.ntmps10
  go_upto_region 1 with fail
  rw [← hwa]
  have HW := Lib.hid hwa; clear hwa b0
  have hra := hr.on hba
  by_cases h40 : (40 : Int) < n
  · have d1 : decide ((40 : Int) < n) = true := decide_eq_true h40
    go_wp2_with fail
    go_ret
    exact ⟨true, rfl, by simp, hba⟩
  have d1 : decide ((40 : Int) < n) = false := decide_eq_false h40
  by_cases h200 : (200 : Int) < (room.size : Nat)
  · have d2 : decide ((200 : Int) < (room.size : Nat)) = true := decide_eq_true h200
    go_wp2_with fail
    go_ret
    exact ⟨true, rfl, by simp, hba⟩
  have d2 : decide ((200 : Int) < (room.size : Nat)) = false := decide_eq_false h200
  go_wp2_with fail
  go_loop [5] (fun i => ∃ k : Nat, k ≤ n ∧ i = .int .i64 k) (fun i => n - (intOf i).toNat)
  case atStart => exact ⟨0, by omega, rfl⟩
  case round =>
    obtain ⟨k, hk, rfl⟩ := hrel
    by_cases hlt : k < n
    · obtain ⟨b, o, x, rfl, hbl, hu, _, _, hxa⟩ := hra.mid (by decide) hlt
      have x0 : wa.cell? ⟨b, o + k * 3, none⟩ = some (.string x.user) := hxa 0 _ rfl
      have x1 : wa.cell? ⟨b, o + k * 3 + 1, none⟩ = some (.string x.dev) := hxa 1 _ rfl
      clear hxa hu
      obtain ⟨e1, h1⟩ : ∃ e, decide ((200 : Int) < (x.user.size : Nat)) = e := ⟨_, rfl⟩
      obtain ⟨e2, h2⟩ : ∃ e, decide ((200 : Int) < (x.dev.size : Nat)) = e := ⟨_, rfl⟩
      cases e1 <;> cases e2
      case false.false =>
        go_wp2_with fail
        exact ⟨⟨k + 1, by omega, by go_num⟩, by simp [intOf]; omega⟩
      all_goals
        go_wp2_with fail
        go_ret
        exact ⟨true, rfl, by simp, hba⟩
    · go_wp2_with fail
      go_ret
      exact ⟨false, rfl, fun _ => by omega, hba⟩

/-- what New returns -/
def newV (id : Int) (room : ByteArray) : Value :=
  if Ss.newErr id (bs room) 1000000000000 = 0 then .tuple #[sesA id room 0 none 0 0, .int .i64 0] else .tuple #[sesA 0 ⟨#[]⟩ 0 none 0 0, .int .i64 (Ss.newErr id (bs room) 1000000000000)]
theorem newV_err {id : Int} {room : ByteArray} {e : Int} (h : Ss.newErr id (bs room) 1000000000000 = e) (h0 : e ≠ 0) : newV id room = .tuple #[sesA 0 ⟨#[]⟩ 0 none 0 0, .int .i64 e] := by
  unfold newV; rw [h, if_neg h0]
theorem newV_ok {id : Int} {room : ByteArray} (h : Ss.newErr id (bs room) 1000000000000 = 0) : newV id room = .tuple #[sesA id room 0 none 0 0, .int .i64 0] := by
  unfold newV; rw [h, if_pos rfl]
set_option maxRecDepth 100000 in
set_option maxHeartbeats 2000000 in
theorem new_any (id : Int) (room : ByteArray) (w : World) (hs : room.size ≤ maxLen) :
    Calls Try.prog 11 #[.int .i64 id, .string room] w (Ret w (newV id room)) := by
  go_enter Try.func11, Try.ntmps11
  by_cases hb : id < 1 ∨ 1000000000000 < id
  · have HE := Lib.hid (newV_err (id := id) (room := room) (e := 2) (by unfold Ss.newErr; rw [if_pos hb]) (by decide))
    have hrg := range_new w [.int .i64 0, .string ⟨#[]⟩, .int .i64 0, .slice none 0 0] 24
    have HR := Lib.hid hrg
    have hb2 : (decide (id < 1) = true) ∨ (decide (id < 1) = false ∧ decide (1000000000000 < id) = true) := by
      by_cases h1 : id < 1
      · exact .inl (decide_eq_true h1)
      · exact .inr ⟨decide_eq_false h1, decide_eq_true (by omega)⟩
    clear hb hrg
    rcases hb2 with d1 | ⟨d1, d2⟩
    all_goals
      go_wp2_with fail
      refine bodyPost_ret (v := newV id room) ?_ rfl ⟨rfl, below_alloc (Below.refl _ _) _⟩
      rw [HE.out]
      rw [results_cell_tmp (fn := Try.f11) (p := 4) (q := 5) (ty := 24) rfl _ _ w.heap.size [.int .i64 0, .string ⟨#[]⟩, .int .i64 0, .slice none 0 0] _ ?_ HR.out Try.underlying24 rfl (by rw [inf_ses]; rfl)]
      · rfl
      · rfl
  · have d1 : decide (id < 1) = false := decide_eq_false (by omega)
    have d2 : decide (1000000000000 < id) = false := decide_eq_false (by omega)
    obtain ⟨wa, hwa⟩ : ∃ wa : World, wa = w.alloc (.cells #[.int .i64 0, .string ⟨#[]⟩, .int .i64 0, .slice none 0 0] 24) := ⟨_, rfl⟩
    have hba : Below w.heap.size w wa := by rw [hwa]; exact below_alloc (Below.refl _ _) _
    have hth : thereB wa w.heap.size 4 = true := by rw [hwa]; exact thereB_new w #[.int .i64 0, .string ⟨#[]⟩, .int .i64 0, .slice none 0 0] 24 4 rfl
    have hsz : w.heap.size < wa.heap.size := by rw [hwa]; simp
    go_upto_region 1 with fail
    rw [← hwa]
    have HW := Lib.hid hwa; clear hwa
    go_wp2_with fail
    refine ((room_any room wa hs).mono fun _ _ => Quiet.ret').mono ?_
    rintro e w1 ⟨rfl, b1⟩
    have HT := Lib.hid (thereB_on hth hsz b1)
    have hth1 := HT.out
    have c1 := below_then hba b1
    cases hr : I.roomB (bs room)
    · have HE := Lib.hid (newV_err (id := id) (room := room) (e := 3) (by unfold Ss.newErr; rw [if_neg hb, if_pos hr]) (by decide))
      have HP := Lib.hid (below_put (cs := [.int .i64 0, .string ⟨#[]⟩, .int .i64 0, .slice none 0 0]) (Nat.le_refl _) c1)
      clear hr hb b1 c1
      simp only [I.errOf]
      go_wp2_with fail
      refine bodyPost_ret (v := newV id room) ?_ rfl ⟨rfl, HP.out⟩
      rw [HE.out]
      rw [results_cell_tmp (fn := Try.f11) (p := 4) (q := 5) (ty := 24) rfl _ _ w.heap.size [.int .i64 0, .string ⟨#[]⟩, .int .i64 0, .slice none 0 0] _ ?_ (range_put HT.out) Try.underlying24 rfl (by rw [inf_ses]; rfl)]
      · rfl
      · rfl
    · have HE := Lib.hid (newV_ok (id := id) (room := room) (by unfold Ss.newErr; rw [if_neg hb, if_neg (by rw [hr]; decide)]))
      have HP := Lib.hid (below_put (cs := [.int .i64 id, .string room, .int .i64 0, .slice none 0 0]) (Nat.le_refl _) c1)
      clear hr hb b1 c1
      simp only [I.errOf]
      go_wp2_with fail
      refine bodyPost_ret (v := newV id room) ?_ rfl ⟨rfl, HP.out⟩
      rw [HE.out]
      rw [results_cell_tmp (fn := Try.f11) (p := 4) (q := 5) (ty := 24) rfl _ _ w.heap.size [.int .i64 id, .string room, .int .i64 0, .slice none 0 0] _ ?_ (range_put HT.out) Try.underlying24 rfl (by rw [inf_ses]; rfl)]
      · rfl
      · rfl
end Go.Proofs.Ytnbgcjangoiodaa
