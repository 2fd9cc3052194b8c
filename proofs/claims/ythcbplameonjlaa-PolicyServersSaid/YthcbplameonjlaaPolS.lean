/-
  The walks through slices.Concat and Merge, and the reference's Merge.
-/
import Derived.Test.YthcbplameonjlaaPolT
import Derived.Deep.RegionHeld3
namespace Go.Proofs.Ythcbplameonjlaa
open Go.RowKit
attribute [local go_sem ↓] ex_st_pol
attribute [local go_sem] st_pol_new st_pol

/-- slices.Grow of nothing: room for n more -/
theorem grow_any (n : Nat) (w : World) (hn : n ≤ 1000000) :
    Calls Try.prog 45 #[.slice none 0 0, .int .i64 n] w fun e w' => ∃ v, e = .returned v ∧ Below w.heap.size w w' ∧ OwnPols w' w.heap.size v [] := by
  rcases Nat.eq_zero_or_pos n with h0 | h0
  · subst h0
    have h := Any8.slices_Grow_room Try.growPol none 0 0 0 w (Nat.le_refl _) (by omega) (by omega) (Nat.le_refl _)
    change Calls Try.prog 45 _ _ _ at h
    refine h.mono ?_
    rintro e w' ⟨rfl, rfl⟩
    exact ⟨_, rfl, Below.refl _ _, OwnPols.nil _ _⟩
  · obtain ⟨i0, hi, hz0, hz1, hz2⟩ := info_parts infoPol
    have h := Any8.slices_Grow_grow Try.growPol i0 _ hi hz0 (by rw [hz1]; decide) none 0 0 n [] w (Nat.le_refl _) (by omega) (by rw [hz2]; omega) (by omega) (by simp) (fun _ => rfl) (fun a ha => by cases ha)
    change Calls Try.prog 45 _ _ _ at h
    refine h.mono ?_
    rintro e w' ⟨rfl, rfl⟩
    have hG := grownCap_ge w (0 + n) 0 37
    have hM := grownCap_le_maxLen w (0 + n) 0 37 (by unfold maxLen; omega)
    refine ⟨_, rfl, below_alloc (Below.drew (Below.refl _ _)) _, ?_⟩
    exact World.ownsRow_made w.drew _ _ (Nat.le_refl _) hM (by
      simp only [Array.size_append, size_zeroCells]
      show _ + (0 + n - 0) * 3 + (grownCap w (0 + n) 0 37 - (0 + n)) * 3 = grownCap w (0 + n) 0 37 * 3
      generalize grownCap w (0 + n) 0 37 = G at hG hM ⊢
      simp
      omega)

def catN (n m : Nat) : Nat → Nat
  | 0 => 0
  | 1 => n
  | _ => n + m
def catL (a b : List Pol) : Nat → List Pol
  | 0 => []
  | 1 => a
  | _ => a ++ b

set_option maxRecDepth 100000 in
set_option maxHeartbeats 4000000 in
theorem concat_any (g : Nat) (A B : Option Addr) (n m c d : Nat) (a b : List Pol) (w : World) (hb0 : Box w g [.slice A n c, .slice B m d]) (ha : Rd.pol.Holds w A n a) (hb : Rd.pol.Holds w B m b) (hn : n ≤ 400000) (hm : m ≤ 400000) :
    Calls Try.prog 31 #[.slice (some ⟨g, 0, none⟩) 2 2] w fun e w' => ∃ v, e = .returned v ∧ Below w.heap.size w w' ∧ OwnPols w' w.heap.size v (a ++ b) := by
  obtain ⟨i0, hi, hz0, hz1, hz2⟩ := info_parts infoPol
  have HI := Lib.hid hi; have HZ0 := Lib.hid hz0; have HZ1 := Lib.hid hz1; have HZ2 := Lib.hid hz2
  clear hi hz0 hz1 hz2
  have HLA := Lib.hid ha.length
  have HLB := Lib.hid hb.length
  go_enter Try.func31, Try.ntmps31
  have q0 : w.cell? ⟨g, 0, none⟩ = some (.slice A n c) := hb0.at_ 0 _ rfl
  have q1 : w.cell? ⟨g, 1, none⟩ = some (.slice B m d) := hb0.at_ 1 _ rfl
  go_wp2_with fail
  go_loop [3, 11] (fun s i => ∃ k : Nat, k ≤ 2 ∧ i = .int .i64 k ∧ s = .int .i64 (catN n m k)) (fun _ i => 2 - (intOf i).toNat)
  case atStart => exact ⟨0, by omega, rfl, rfl⟩
  case round =>
    obtain ⟨k, hk, rfl, rfl⟩ := hrel
    obtain rfl | rfl | rfl : k = 0 ∨ k = 1 ∨ k = 2 := by omega
    · simp only [catN]
      go_wp2_with fail
      exact ⟨⟨1, by omega, by go_num, by first | rfl | go_num⟩, by simp [intOf]⟩
    · simp only [catN]
      go_wp2_with fail
      exact ⟨⟨2, by omega, by go_num, by first | rfl | go_num⟩, by simp [intOf]⟩
    · simp only [catN]
      rw [show ((n + m : Nat) : Int) = (n : Int) + m by omega]
      go_wp2_with fail
      have hg := grow_any (n + m) w (by omega)
      rw [show ((n + m : Nat) : Int) = (n : Int) + m by omega] at hg
      refine hg.mono ?_
      rintro e w1 ⟨v1, rfl, b1, own1⟩
      clear hg q0 q1
      go_wp2_with fail
      go_loopw [6, 27] (fun out i wr => ∃ k : Nat, k ≤ 2 ∧ i = .int .i64 k ∧ Below w.heap.size w wr ∧ OwnPols wr w.heap.size out (catL a b k)) (fun _ i _ => 2 - (intOf i).toNat)
      case atStart => exact ⟨0, by omega, rfl, b1, own1⟩
      case round =>
        clear b1 own1
        obtain ⟨k, hk, rfl, hbw, hown⟩ := hrel
        have bR := hb0.on hbw
        have q0 : wr.cell? ⟨g, 0, none⟩ = some (.slice A n c) := bR.at_ 0 _ rfl
        have q1 : wr.cell? ⟨g, 1, none⟩ = some (.slice B m d) := bR.at_ 1 _ rfl
        have hRA := (ha.on hbw).1
        have hRB := (hb.on hbw).1
        have hBW := hbw.size
        clear bR
        obtain rfl | rfl | rfl : k = 0 ∨ k = 1 ∨ k = 2 := by omega
        · simp only [catL] at hown
          go_wp2_with (at_builtin; refine app_rows rfl (.tmp 31) (.tmp 32) 22 rfl w.heap.size 37 i0 _ 3 40 Try.underlying22 HI.out HZ0.out HZ1.out HZ2.out rfl (by decide) (by decide) _ 0 [] rfl hown _ A n c (Rd.pol.rows a) rfl hRA ?a2 ?a3 ?a4 ?_)
          case a2 => exact Rd.pol.rows_one' a
          case a3 => omega
          case a4 => omega
          intro v4 w4 hown4 hg4
          have hb4 : Below w.heap.size w w4 := hbw.grown hg4 hBW (fun j hj => (World.ownsRow.lt hown _ hj).1)
          have hfin : OwnPols w4 w.heap.size v4 (catL a b 1) := by
            simp only [catL]
            unfold OwnPols
            rw [HLA.out]; simpa using hown4
          clear hown4 hg4 hown hbw
          go_wp2_with fail
          exact ⟨⟨1, by omega, by go_num, hb4, hfin⟩, by simp [intOf]⟩
        · simp only [catL] at hown
          go_wp2_with (at_builtin; refine app_rows rfl (.tmp 31) (.tmp 32) 22 rfl w.heap.size 37 i0 _ 3 40 Try.underlying22 HI.out HZ0.out HZ1.out HZ2.out rfl (by decide) (by decide) _ a.length (Rd.pol.rows a) rfl hown _ B m d (Rd.pol.rows b) rfl hRB ?d2 ?d3 ?d4 ?_)
          case d2 => exact Rd.pol.rows_one' b
          case d3 => have := HLA.out; omega
          case d4 => omega
          intro v4 w4 hown4 hg4
          have hb4 : Below w.heap.size w w4 := hbw.grown hg4 hBW (fun j hj => (World.ownsRow.lt hown _ hj).1)
          have hfin : OwnPols w4 w.heap.size v4 (catL a b 2) := by
            simp only [catL]
            unfold OwnPols
            rw [List.length_append, Rd.rows_append, HLB.out]; exact hown4
          clear hown4 hg4 hown hbw
          go_wp2_with fail
          exact ⟨⟨2, by omega, by go_num, hb4, hfin⟩, by simp [intOf]⟩
        · simp only [catL] at hown
          go_wp2_with fail
          go_ret
          exact ⟨_, rfl, hbw, hown⟩

set_option maxRecDepth 100000 in
set_option maxHeartbeats 2000000 in
theorem pmerge_any (A B : Option Addr) (n m c d : Nat) (a b : List Pol) (w : World) (ha : Rd.pol.Holds w A n a) (hb : Rd.pol.Holds w B m b) (hn : n ≤ 400000) (hm : m ≤ 400000) :
    Calls Try.prog 12 #[.slice A n c, .slice B m d] w fun e w' => ∃ v, e = .returned v ∧ Below w.heap.size w w' ∧ OwnPols w' w.heap.size v (Pl.once (a ++ b)) := by
  have HLA := Lib.hid ha.length
  have HLB := Lib.hid hb.length
  have HOK := Lib.hid ((pol_ok ha).app (pol_ok hb))
  go_enter Try.func12, Try.ntmps12
  have bx := Box.new w [.slice A n c, .slice B m d] 22
  have hbo := below_alloc (Below.refl w.heap.size w) (.cells #[.slice A n c, .slice B m d] 22)
  change Box (w.alloc (.cells #[.slice A n c, .slice B m d] 22)) _ _ at bx
  go_wp2_with fail
  refine (concat_any w.heap.size A B n m c d a b _ bx (ha.on hbo) (hb.on hbo) hn hm).mono ?_
  rintro e w1 ⟨v1, rfl, b1, own1⟩
  have c1 := below_then hbo b1
  have hll : (a ++ b).length ≤ 1000000 := by rw [List.length_append]; have := HLA.out; have := HLB.out; omega
  obtain ⟨l, hl⟩ : ∃ l, a ++ b = l := ⟨_, rfl⟩
  rw [hl] at own1 HOK hll
  have HE := Lib.hid hl
  clear hl
  obtain ⟨A1, c1', rfl, hr1, _⟩ := own1.form HOK.out
  go_wp2_with fail
  refine (once_any A1 _ c1' l w1 hr1 hll).mono ?_
  rintro e w2 ⟨v2, rfl, b2, own2⟩
  go_wp2_with fail
  go_ret
  exact ⟨_, rfl, below_then c1 b2, by rw [HE.out]; exact World.ownsRow.mono own2 c1.size⟩
end Go.Proofs.Ythcbplameonjlaa
