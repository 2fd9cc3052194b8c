/-
  The walks through the reference's share, ahead, and Reads on both sides.
-/
import Derived.Test.YtnbgcjangoiodaaSesW
namespace Go.Proofs.Ytnbgcjangoiodaa
open Go.RowKit
attribute [local go_sem ↓] ex_st_shr ex_st_own ex_st_ses
attribute [local go_sem] st_shr_new st_shr st_own_new st_ses_new st_ses

set_option maxRecDepth 100000 in
set_option maxHeartbeats 2000000 in
theorem rshare_any (id : Int) (room : ByteArray) (next : Int) (A : Option Addr) (n c : Nat) (l : List Shr) (u d : ByteArray) (w : World) (hr : Rd.shr.Holds w A n l) (hn : n ≤ 1000000) :
    Calls Try.prog 37 #[sesA id room next A n c, .string u, .string d] w (Ret w (fndV (Ss.find l (bs u, bs d)))) := by
  have HL := Lib.hid hr.length
  obtain ⟨wa, hwa⟩ : ∃ wa : World, wa = (w.alloc (.cells #[.int .i64 id, .string room, .int .i64 next, .slice A n c] 24)).alloc (.cells #[.string ⟨#[]⟩, .string ⟨#[]⟩, .int .i64 0] 56) := ⟨_, rfl⟩
  have hba : Below w.heap.size w wa := by rw [hwa]; exact below_alloc (below_alloc (Below.refl _ _) _) _
  have bs0 : Box wa w.heap.size [.int .i64 id, .string room, .int .i64 next, .slice A n c] := by rw [hwa]; exact (Box.new w [.int .i64 id, .string room, .int .i64 next, .slice A n c] _).on (below_alloc (Below.refl _ _) _)
  have kS : wa.cell? ⟨w.heap.size, 3, none⟩ = some (.slice A n c) := bs0.at_ 3 _ rfl
  have hth : thereB wa (w.heap.size + 1) 3 = true := by rw [hwa]; simpa using thereB_new (w.alloc (.cells #[.int .i64 id, .string room, .int .i64 next, .slice A n c] 24)) #[.string ⟨#[]⟩, .string ⟨#[]⟩, .int .i64 0] 56 3 rfl
  have hsz : wa.heap.size = w.heap.size + 2 := by rw [hwa]; simp
  go_enter Try.func37, Try.ntmps37
  go_upto_region 1 with fail
  rw [← hwa]
  have HW := Lib.hid hwa; clear hwa
  obtain ⟨g, hg⟩ : ∃ g, w.heap.size = g := ⟨_, rfl⟩
  rw [hg] at bs0 kS hth hsz ⊢
  have HG := Lib.hid hg
  clear hg
  have hra := hr.on hba
  have HB := Lib.hid hba
  go_wp2_with fail
  go_loop [8] (fun i => ∃ k : Nat, k ≤ n ∧ i = .int .i64 k ∧ Ss.NoW l (bs u, bs d) k) (fun i => n - (intOf i).toNat)
  case atStart => exact ⟨0, by omega, rfl, Ss.NoW.zero _ _⟩
  case round =>
    obtain ⟨k, hk, rfl, hno⟩ := hrel
    by_cases hkn : k < n
    · obtain ⟨b, o, x, rfl, hbl, hu, _, _, hxa⟩ := hra.mid (by decide) hkn
      have x0 : wa.cell? ⟨b, o + k * 3, none⟩ = some (.string x.user) := hxa 0 _ rfl
      have x1 : wa.cell? ⟨b, o + k * 3 + 1, none⟩ = some (.string x.dev) := hxa 1 _ rfl
      have x2 : wa.cell? ⟨b, o + k * 3 + 2, none⟩ = some (.int .i64 x.index) := hxa 2 _ rfl
      clear hxa
      obtain ⟨e1, he1⟩ : ∃ e, (x.user.toList == u.toList) = e := ⟨_, rfl⟩
      obtain ⟨e2, he2⟩ : ∃ e, (x.dev.toList == d.toList) = e := ⟨_, rfl⟩
      have hd := who_dec he1 he2
      cases e1 <;> cases e2
      case true.true =>
        have HF := Lib.hid (Ss.find_some hno hu (of_decide_eq_true hd))
        have HP := Lib.hid (below_put (cs := [.string x.user, .string x.dev, .int .i64 x.index]) (g := g + 1) (by have := HG.out; omega) HB.out)
        have HT := Lib.hid hth
        clear hno hu hd
        go_wp2_with fail
        refine bodyPost_ret (v := fndV (Ss.find l (bs u, bs d))) ?_ rfl ⟨rfl, HP.out⟩
        rw [HF.out]
        rw [results_cell_tmp (fn := Try.f37) (p := 6) (q := 7) (ty := 56) rfl _ _ (g + 1) [.string x.user, .string x.dev, .int .i64 x.index] _ ?_ (range_put HT.out) Try.underlying56 rfl (by rw [inf_shr]; rfl)]
        · rfl
        · rfl
      all_goals
        have HN := Lib.hid (hno.succ hu (of_decide_eq_false hd))
        clear hno hu hd
        go_wp2_with fail
        exact ⟨⟨k + 1, by omega, by go_num, HN.out⟩, by simp [intOf]; omega⟩
    · have HF := Lib.hid (Ss.find_none (l := l) (a := (bs u, bs d)) (by have := HL.out; rwa [show l.length = k by omega]))
      have HP := Lib.hid (below_put (cs := [.string ⟨#[]⟩, .string ⟨#[]⟩, .int .i64 0]) (g := g + 1) (by have := HG.out; omega) HB.out)
      have HT := Lib.hid hth
      clear hno
      go_wp2_with fail
      refine bodyPost_ret (v := fndV (Ss.find l (bs u, bs d))) ?_ rfl ⟨rfl, HP.out⟩
      rw [HF.out]
      rw [results_cell_tmp (fn := Try.f37) (p := 6) (q := 7) (ty := 56) rfl _ _ (g + 1) [.string ⟨#[]⟩, .string ⟨#[]⟩, .int .i64 0] _ ?_ (range_put HT.out) Try.underlying56 rfl (by rw [inf_shr]; rfl)]
      · rfl
      · rfl

theorem ahead_dec {u d u' d' : ByteArray} {e1 e2 e3 : Bool} (h1 : Op.bytesLess u.toList u'.toList = e1) (h2 : (u.toList == u'.toList) = e2) (h3 : Op.bytesLess d.toList d'.toList = e3) :
    decide (Ss.ahead (bs u, bs d) (bs u', bs d')) = (e1 || (e2 && e3)) := by
  subst h1 h2 h3
  rw [streq, bytesLess_lt, bytesLess_lt, Bool.eq_iff_iff]
  simp [Ss.ahead]
set_option maxHeartbeats 1000000 in
theorem ahead_any (u d u' d' : ByteArray) (w : World) : Calls Try.prog 34 #[.agg #[.string u, .string d], .agg #[.string u', .string d']] w (Ret w (.bool (decide (Ss.ahead (bs u, bs d) (bs u', bs d'))))) := by
  obtain ⟨e1, h1⟩ : ∃ e, Op.bytesLess u.toList u'.toList = e := ⟨_, rfl⟩
  obtain ⟨e2, h2⟩ : ∃ e, (u.toList == u'.toList) = e := ⟨_, rfl⟩
  obtain ⟨e3, h3⟩ : ∃ e, Op.bytesLess d.toList d'.toList = e := ⟨_, rfl⟩
  have HD := Lib.hid (ahead_dec h1 h2 h3)
  obtain ⟨wa, hwa⟩ : ∃ wa : World, wa = (w.alloc (.cells #[.string u, .string d] 61)).alloc (.cells #[.string u', .string d'] 61) := ⟨_, rfl⟩
  have hba : Below w.heap.size w wa := by rw [hwa]; exact below_alloc (below_alloc (Below.refl _ _) _) _
  have b0 : Box wa w.heap.size [.string u, .string d] := by rw [hwa]; exact (Box.new w [.string u, .string d] _).on (below_alloc (Below.refl _ _) _)
  have b1 : Box wa (w.heap.size + 1) [.string u', .string d'] := by rw [hwa]; simpa using Box.new (w.alloc (.cells #[.string u, .string d] 61)) [.string u', .string d'] 61
  have k0 : wa.cell? ⟨w.heap.size, 0, none⟩ = some (.string u) := b0.at_ 0 _ rfl
  have k1 : wa.cell? ⟨w.heap.size, 1, none⟩ = some (.string d) := b0.at_ 1 _ rfl
  have k2 : wa.cell? ⟨w.heap.size + 1, 0, none⟩ = some (.string u') := b1.at_ 0 _ rfl
  have k3 : wa.cell? ⟨w.heap.size + 1, 1, none⟩ = some (.string d') := b1.at_ 1 _ rfl
  go_enter Try.func34, Try.ntmps34
  go_upto_region 1 with fail
  rw [← hwa]
  have HW := Lib.hid hwa; clear hwa b0 b1
  cases e1 <;> cases e2 <;> cases e3
  all_goals
    go_wp2_with fail
    go_ret
    exact ⟨by rw [HD.out]; rfl, hba⟩

namespace Ss
/-- whether a device can read a message -/
def reads (l : List Shr) (next : Int) (a : D) (i : Int) : Bool := match find l a with
  | some x => decide (0 ≤ i) && decide (x.index ≤ i) && decide (i < next)
  | none => false
end Ss
set_option maxRecDepth 100000 in
set_option maxHeartbeats 2000000 in
theorem reads_any (id : Int) (room : ByteArray) (next : Int) (A : Option Addr) (n c : Nat) (l : List Shr) (u d : ByteArray) (i : Int) (w : World) (hr : Rd.shr.Holds w A n l) (hn : n ≤ 1000000) :
    Calls Try.prog 19 #[sesA id room next A n c, .string u, .string d, .int .i64 i] w (Ret w (.bool (Ss.reads l next (bs u, bs d) i))) := by
  obtain ⟨wa, hwa⟩ : ∃ wa : World, wa = w.alloc (.cells #[.int .i64 id, .string room, .int .i64 next, .slice A n c] 24) := ⟨_, rfl⟩
  have hba : Below w.heap.size w wa := by rw [hwa]; exact below_alloc (Below.refl _ _) _
  have b0 : Box wa w.heap.size [.int .i64 id, .string room, .int .i64 next, .slice A n c] := by rw [hwa]; exact Box.new w [.int .i64 id, .string room, .int .i64 next, .slice A n c] _
  have k0 : wa.cell? ⟨w.heap.size, 0, none⟩ = some (.int .i64 id) := b0.at_ 0 _ rfl
  have k1 : wa.cell? ⟨w.heap.size, 1, none⟩ = some (.string room) := b0.at_ 1 _ rfl
  have k2 : wa.cell? ⟨w.heap.size, 2, none⟩ = some (.int .i64 next) := b0.at_ 2 _ rfl
  have k3 : wa.cell? ⟨w.heap.size, 3, none⟩ = some (.slice A n c) := b0.at_ 3 _ rfl
  go_enter Try.func19, Try.ntmps19
  go_upto_region 1 with fail
  rw [← hwa]
  have HW := Lib.hid hwa; clear hwa
  obtain ⟨g, hg⟩ : ∃ g, w.heap.size = g := ⟨_, rfl⟩
  rw [hg] at b0 k0 k1 k2 k3 ⊢
  have HG := Lib.hid hg
  clear hg
  go_wp2_with fail
  refine (share_any id room next A n c l u d wa (hr.on hba) hn).mono ?_
  rintro e w1 ⟨rfl, b1⟩
  have c1 := below_then hba b1
  have bx1 := b0.on b1
  clear k0 k1 k2 k3 b0 b1
  cases hf : Ss.find l (bs u, bs d) with
  | none =>
    have HR : Hid (Ss.reads l next (bs u, bs d) i = false) := by show _ = _; unfold Ss.reads; rw [hf]
    clear hf
    simp only [fndV]
    go_wp2_with fail
    go_ret
    exact ⟨by rw [HR.out]; rfl, below_alloc c1 _⟩
  | some x =>
    have HR : Hid (Ss.reads l next (bs u, bs d) i = (decide (0 ≤ i) && decide (x.index ≤ i) && decide (i < next))) := by show _ = _; unfold Ss.reads; rw [hf]
    clear hf
    simp only [fndV]
    go_upto_region 2 with fail
    have bx2 := bx1.on (below_alloc (Below.refl _ _) (.cells #[.string x.user, .string x.dev, .int .i64 x.index] 56))
    have bs2 := Box.new w1 [.string x.user, .string x.dev, .int .i64 x.index] 56
    have c2 := below_alloc c1 (.cells #[.string x.user, .string x.dev, .int .i64 x.index] 56)
    change Box (w1.alloc (.cells #[.string x.user, .string x.dev, .int .i64 x.index] 56)) _ _ at bs2
    generalize w1.alloc (.cells #[.string x.user, .string x.dev, .int .i64 x.index] 56) = w2 at bx2 bs2 c2 ⊢
    have y2 : w2.cell? ⟨w1.heap.size, 2, none⟩ = some (.int .i64 x.index) := bs2.at_ 2 _ rfl
    have z2 : w2.cell? ⟨g, 2, none⟩ = some (.int .i64 next) := bx2.at_ 2 _ rfl
    clear bx1 bx2 bs2 c1
    obtain ⟨e1, h1⟩ : ∃ e, decide (0 ≤ i) = e := ⟨_, rfl⟩
    obtain ⟨e2, h2⟩ : ∃ e, decide (x.index ≤ i) = e := ⟨_, rfl⟩
    obtain ⟨e3, h3⟩ : ∃ e, decide (i < next) = e := ⟨_, rfl⟩
    have HD : Hid ((decide (0 ≤ i) && decide (x.index ≤ i) && decide (i < next)) = (e1 && e2 && e3)) := by show _ = _; rw [h1, h2, h3]
    cases e1 <;> cases e2 <;> cases e3
    all_goals
      go_wp2_with fail
      go_ret
      exact ⟨by rw [HR.out, HD.out]; rfl, c2⟩
set_option maxRecDepth 100000 in
set_option maxHeartbeats 2000000 in
theorem rreads_any (id : Int) (room : ByteArray) (next : Int) (A : Option Addr) (n c : Nat) (l : List Shr) (u d : ByteArray) (i : Int) (w : World) (hr : Rd.shr.Holds w A n l) (hn : n ≤ 1000000) :
    Calls Try.prog 20 #[sesA id room next A n c, .string u, .string d, .int .i64 i] w (Ret w (.bool (Ss.reads l next (bs u, bs d) i))) := by
  obtain ⟨wa, hwa⟩ : ∃ wa : World, wa = w.alloc (.cells #[.int .i64 id, .string room, .int .i64 next, .slice A n c] 24) := ⟨_, rfl⟩
  have hba : Below w.heap.size w wa := by rw [hwa]; exact below_alloc (Below.refl _ _) _
  have b0 : Box wa w.heap.size [.int .i64 id, .string room, .int .i64 next, .slice A n c] := by rw [hwa]; exact Box.new w [.int .i64 id, .string room, .int .i64 next, .slice A n c] _
  have k0 : wa.cell? ⟨w.heap.size, 0, none⟩ = some (.int .i64 id) := b0.at_ 0 _ rfl
  have k1 : wa.cell? ⟨w.heap.size, 1, none⟩ = some (.string room) := b0.at_ 1 _ rfl
  have k2 : wa.cell? ⟨w.heap.size, 2, none⟩ = some (.int .i64 next) := b0.at_ 2 _ rfl
  have k3 : wa.cell? ⟨w.heap.size, 3, none⟩ = some (.slice A n c) := b0.at_ 3 _ rfl
  go_enter Try.func20, Try.ntmps20
  go_upto_region 1 with fail
  rw [← hwa]
  have HW := Lib.hid hwa; clear hwa
  obtain ⟨g, hg⟩ : ∃ g, w.heap.size = g := ⟨_, rfl⟩
  rw [hg] at b0 k0 k1 k2 k3 ⊢
  have HG := Lib.hid hg
  clear hg
  go_wp2_with fail
  refine (rshare_any id room next A n c l u d wa (hr.on hba) hn).mono ?_
  rintro e w1 ⟨rfl, b1⟩
  have c1 := below_then hba b1
  have bx1 := b0.on b1
  clear k0 k1 k2 k3 b0 b1
  cases hf : Ss.find l (bs u, bs d) with
  | none =>
    have HR : Hid (Ss.reads l next (bs u, bs d) i = false) := by show _ = _; unfold Ss.reads; rw [hf]
    clear hf
    simp only [fndV]
    go_wp2_with fail
    go_ret
    exact ⟨by rw [HR.out]; rfl, below_alloc c1 _⟩
  | some x =>
    have HR : Hid (Ss.reads l next (bs u, bs d) i = (decide (0 ≤ i) && decide (x.index ≤ i) && decide (i < next))) := by show _ = _; unfold Ss.reads; rw [hf]
    clear hf
    simp only [fndV]
    go_upto_region 2 with fail
    have bx2 := bx1.on (below_alloc (Below.refl _ _) (.cells #[.string x.user, .string x.dev, .int .i64 x.index] 56))
    have bs2 := Box.new w1 [.string x.user, .string x.dev, .int .i64 x.index] 56
    have c2 := below_alloc c1 (.cells #[.string x.user, .string x.dev, .int .i64 x.index] 56)
    change Box (w1.alloc (.cells #[.string x.user, .string x.dev, .int .i64 x.index] 56)) _ _ at bs2
    generalize w1.alloc (.cells #[.string x.user, .string x.dev, .int .i64 x.index] 56) = w2 at bx2 bs2 c2 ⊢
    have y2 : w2.cell? ⟨w1.heap.size, 2, none⟩ = some (.int .i64 x.index) := bs2.at_ 2 _ rfl
    have z2 : w2.cell? ⟨g, 2, none⟩ = some (.int .i64 next) := bx2.at_ 2 _ rfl
    clear bx1 bx2 bs2 c1
    obtain ⟨e1, h1⟩ : ∃ e, decide (0 ≤ i) = e := ⟨_, rfl⟩
    obtain ⟨e2, h2⟩ : ∃ e, decide (x.index ≤ i) = e := ⟨_, rfl⟩
    obtain ⟨e3, h3⟩ : ∃ e, decide (i < next) = e := ⟨_, rfl⟩
    have HD : Hid ((decide (0 ≤ i) && decide (x.index ≤ i) && decide (i < next)) = (e1 && e2 && e3)) := by show _ = _; rw [h1, h2, h3]
    cases e1 <;> cases e2 <;> cases e3
    all_goals
      go_wp2_with fail
      go_ret
      exact ⟨by rw [HR.out, HD.out]; rfl, c2⟩
end Go.Proofs.Ytnbgcjangoiodaa
