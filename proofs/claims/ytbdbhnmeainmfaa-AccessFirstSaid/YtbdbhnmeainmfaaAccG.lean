/-
  The walks through the reference's SameLevels and Same, of one content and itself; and Great of chapter 14. (Printed by wip/gen/gen_accg.py.)
-/
import Derived.Test.YtbdbhnmeainmfaaOfW
import Derived.Test.YtbdbhnmeainmfaaSameT
import Derived.Test.YtbdbhnmeainmfaaGreat
namespace Go.Proofs.Ytbdbhnmeainmfaa
open Go.RowKit

def lv (x : Lvs) : Value := .agg (Rd.lvs.cells x).toArray
theorem execOp_ld_lvs (ρ : Operand → Value) (dst : Option Tmp) (x : Operand) (ty : TypeId) (pos : String) (after : Array Edge) (guard : Option (Nat × Bool)) :
    execOp ρ ⟨dst, .load 26 x, ty, pos, after, guard⟩ = (do pure (.value (← ldC 26 (ρ x)))) := rfl
theorem info_lvs : (Try.prog.info? 26).map (·.size) = some 9 := by kernel_rfl
theorem run_ld_lvs (b o : Nat) (w : World) (h : hasRow w b o 9 = true) : (ldC 26 (.pointer (some ⟨b, o, none⟩))).run Try.prog w = .ok (rowAt w b o 9) w :=
  run_ldC _ _ 9 Try.underlying26 rfl info_lvs b o w h
attribute [local go_sem ↓] execOp_ld_lvs
attribute [local go_sem] run_ld_lvs

theorem lvs_ok {w : World} {x : Lvs} (h : Rd.lvs.Ok w x) : Rd.lvl.Holds w x.users.A x.users.n x.users.l ∧ Rd.klv.Holds w x.kinds.A x.kinds.n x.kinds.l ∧ x.users.n ≤ maxLen ∧ x.kinds.n ≤ maxLen :=
  ⟨h.1.1, h.2.1.1, Nat.le_trans h.1.2.1 h.1.2.2, Nat.le_trans h.2.1.2.1 h.2.1.2.2⟩
theorem cnt_ok {w : World} {c : Cnt} (h : Rd.cnt.Ok w c) : (Strs w c.allow.A c.allow.n c.allow.l ∧ c.allow.n ≤ maxLen) ∧ (Strs w c.deny.A c.deny.n c.deny.l ∧ c.deny.n ≤ maxLen) ∧ Rd.lvs.Ok w c.levels :=
  ⟨⟨holds_str h.2.2.2.2.2.1.1, Nat.le_trans h.2.2.2.2.2.1.2.1 h.2.2.2.2.2.1.2.2⟩, ⟨holds_str h.2.2.2.2.2.2.1.1, Nat.le_trans h.2.2.2.2.2.2.1.2.1 h.2.2.2.2.2.2.1.2.2⟩, h.2.2.2.2.2.2.2.1⟩

set_option maxRecDepth 100000 in
set_option maxHeartbeats 2000000 in
theorem sameLevels_refl (x : Lvs) (w : World) (h : Rd.lvs.Ok w x) : Calls Try.prog 23 #[lv x, lv x] w (Ret w (.bool true)) := by
  obtain ⟨hu, hk, nu, nk⟩ := lvs_ok h
  unfold maxLen at nu nk
  obtain ⟨wa, hwa⟩ : ∃ wa : World, wa = (w.alloc (.cells (Rd.lvs.cells x).toArray 26)).alloc (.cells (Rd.lvs.cells x).toArray 26) := ⟨_, rfl⟩
  have hba : Below w.heap.size w wa := by rw [hwa]; exact below_alloc (below_alloc (Below.refl _ _) _) _
  have b1 : Box wa w.heap.size (Rd.lvs.cells x) := by rw [hwa]; exact (Box.new w _ _).on (below_alloc (Below.refl _ _) _)
  have b2 : Box wa (w.heap.size + 1) (Rd.lvs.cells x) := by rw [hwa]; simpa using Box.new (w.alloc (.cells (Rd.lvs.cells x).toArray 26)) (Rd.lvs.cells x) 26
  have hua := hu.on hba; have hka := hk.on hba
  clear hu hk h
  unfold lv
  generalize (Rd.lvs.cells x).toArray = xs at hwa ⊢
  have HW := Lib.hid hwa; clear hwa
  go_enter Try.func23, Try.ntmps23
  go_upto_region 1 with fail
  rw [← HW.out]
  clear HW
  have f0 : wa.cell? ⟨w.heap.size, 0, none⟩ = some (.slice x.users.A x.users.n x.users.c) := (b1).at_ 0 _ rfl
  have g0 : wa.cell? ⟨w.heap.size + 1, 0, none⟩ = some (.slice x.users.A x.users.n x.users.c) := (b2).at_ 0 _ rfl
  have f1 : wa.cell? ⟨w.heap.size, 1, none⟩ = some (.slice x.kinds.A x.kinds.n x.kinds.c) := (b1).at_ 1 _ rfl
  have g1 : wa.cell? ⟨w.heap.size + 1, 1, none⟩ = some (.slice x.kinds.A x.kinds.n x.kinds.c) := (b2).at_ 1 _ rfl
  go_wp2_with fail
  clear f0 f1 g0 g1
  go_loopw [5] (fun i wr => ∃ k : Nat, k ≤ x.users.n ∧ i = .int .i64 k ∧ Below wa.heap.size wa wr) (fun i _ => x.users.n - (intOf i).toNat)
  case atStart => exact ⟨0, by omega, rfl, Below.refl _ _⟩
  case round =>
    obtain ⟨k, hk, rfl, hbw⟩ := hrel
    have f0 : wr.cell? ⟨w.heap.size, 0, none⟩ = some (.slice x.users.A x.users.n x.users.c) := (b1.on hbw).at_ 0 _ rfl
    have g0 : wr.cell? ⟨w.heap.size + 1, 0, none⟩ = some (.slice x.users.A x.users.n x.users.c) := (b2.on hbw).at_ 0 _ rfl
    by_cases hlt : k < x.users.n
    · obtain ⟨b, o, y, hA, hbb, _, _, _, hy⟩ := (hua.on hbw).mid (by decide) hlt
      have y0 : wr.cell? ⟨b, o + k * 2, none⟩ = some (.string y.user) := hy 0 _ rfl
      have y1 : wr.cell? ⟨b, o + k * 2 + 1, none⟩ = some (.int .i64 y.n) := hy 1 _ rfl
      rw [hA] at f0 g0
      have HA := Lib.hid hA; clear hA hy
      have hk0 : (k : Int) < x.users.n := by omega
      go_wp2_with fail
      go_quiet (fail)
      go_wp2_with fail
      exact ⟨⟨k + 1, by omega, by go_num, below_drewN hbw nq⟩, by simp [intOf]; omega⟩
    · go_wp2_with fail
      go_loopw [6] (fun i wr => ∃ k : Nat, k ≤ x.kinds.n ∧ i = .int .i64 k ∧ Below wa.heap.size wa wr) (fun i _ => x.kinds.n - (intOf i).toNat)
      case atStart => exact ⟨0, by omega, rfl, by assumption⟩
      case round =>
        clear hbw hlt
        obtain ⟨k, hk, rfl, hbw⟩ := hrel
        have f1 : wr.cell? ⟨w.heap.size, 1, none⟩ = some (.slice x.kinds.A x.kinds.n x.kinds.c) := (b1.on hbw).at_ 1 _ rfl
        have g1 : wr.cell? ⟨w.heap.size + 1, 1, none⟩ = some (.slice x.kinds.A x.kinds.n x.kinds.c) := (b2.on hbw).at_ 1 _ rfl
        by_cases hlt : k < x.kinds.n
        · obtain ⟨b, o, y, hA, hbb, _, _, _, hy⟩ := (hka.on hbw).mid (by decide) hlt
          have y0 : wr.cell? ⟨b, o + k * 2, none⟩ = some (.int .i64 y.kind) := hy 0 _ rfl
          have y1 : wr.cell? ⟨b, o + k * 2 + 1, none⟩ = some (.int .i64 y.n) := hy 1 _ rfl
          rw [hA] at f1 g1
          have HA := Lib.hid hA; clear hA hy
          have hk0 : (k : Int) < x.kinds.n := by omega
          go_wp2_with fail
          go_quiet (fail)
          go_wp2_with fail
          exact ⟨⟨k + 1, by omega, by go_num, below_drewN hbw nq⟩, by simp [intOf]; omega⟩
        · have hlt' := hlt
          have f2 : wr.cell? ⟨w.heap.size, 2, none⟩ = some (.int .i64 x.user) := (b1.on hbw).at_ 2 _ rfl
          have g2 : wr.cell? ⟨w.heap.size + 1, 2, none⟩ = some (.int .i64 x.user) := (b2.on hbw).at_ 2 _ rfl
          have f3 : wr.cell? ⟨w.heap.size, 3, none⟩ = some (.int .i64 x.message) := (b1.on hbw).at_ 3 _ rfl
          have g3 : wr.cell? ⟨w.heap.size + 1, 3, none⟩ = some (.int .i64 x.message) := (b2.on hbw).at_ 3 _ rfl
          have f4 : wr.cell? ⟨w.heap.size, 4, none⟩ = some (.int .i64 x.state) := (b1.on hbw).at_ 4 _ rfl
          have g4 : wr.cell? ⟨w.heap.size + 1, 4, none⟩ = some (.int .i64 x.state) := (b2.on hbw).at_ 4 _ rfl
          have f5 : wr.cell? ⟨w.heap.size, 5, none⟩ = some (.int .i64 x.invite) := (b1.on hbw).at_ 5 _ rfl
          have g5 : wr.cell? ⟨w.heap.size + 1, 5, none⟩ = some (.int .i64 x.invite) := (b2.on hbw).at_ 5 _ rfl
          have f6 : wr.cell? ⟨w.heap.size, 6, none⟩ = some (.int .i64 x.kick) := (b1.on hbw).at_ 6 _ rfl
          have g6 : wr.cell? ⟨w.heap.size + 1, 6, none⟩ = some (.int .i64 x.kick) := (b2.on hbw).at_ 6 _ rfl
          have f7 : wr.cell? ⟨w.heap.size, 7, none⟩ = some (.int .i64 x.ban) := (b1.on hbw).at_ 7 _ rfl
          have g7 : wr.cell? ⟨w.heap.size + 1, 7, none⟩ = some (.int .i64 x.ban) := (b2.on hbw).at_ 7 _ rfl
          have f8 : wr.cell? ⟨w.heap.size, 8, none⟩ = some (.int .i64 x.redact) := (b1.on hbw).at_ 8 _ rfl
          have g8 : wr.cell? ⟨w.heap.size + 1, 8, none⟩ = some (.int .i64 x.redact) := (b2.on hbw).at_ 8 _ rfl
          go_wp2_with fail
          go_ret
          exact ⟨rfl, below_then hba hbw⟩

set_option maxRecDepth 100000 in
set_option maxHeartbeats 2000000 in
theorem same_refl (c : Cnt) (w : World) (h : Rd.cnt.Ok w c) : Calls Try.prog 16 #[cv c, cv c] w (Ret w (.bool true)) := by
  obtain ⟨⟨ha, na⟩, ⟨hd, nd⟩, hl⟩ := cnt_ok h
  obtain ⟨wa, hwa⟩ : ∃ wa : World, wa = (w.alloc (.cells (Rd.cnt.cells c).toArray 28)).alloc (.cells (Rd.cnt.cells c).toArray 28) := ⟨_, rfl⟩
  have hba : Below w.heap.size w wa := by rw [hwa]; exact below_alloc (below_alloc (Below.refl _ _) _) _
  have b1 : Box wa w.heap.size (Rd.cnt.cells c) := by rw [hwa]; exact (Box.new w _ _).on (below_alloc (Below.refl _ _) _)
  have b2 : Box wa (w.heap.size + 1) (Rd.cnt.cells c) := by rw [hwa]; simpa using Box.new (w.alloc (.cells (Rd.cnt.cells c).toArray 28)) (Rd.cnt.cells c) 28
  have haa := ha.on hba; have hda := hd.on hba; have hla := Rd.lvs.on hl hba
  clear ha hd hl h
  unfold cv
  generalize (Rd.cnt.cells c).toArray = xs at hwa ⊢
  have HW := Lib.hid hwa; clear hwa
  go_enter Try.func16, Try.ntmps16
  go_upto_region 1 with fail
  rw [← HW.out]
  clear HW
  have f0 : wa.cell? ⟨w.heap.size, 0, none⟩ = some (.string c.text) := (b1).at_ 0 _ rfl
  have g0 : wa.cell? ⟨w.heap.size + 1, 0, none⟩ = some (.string c.text) := (b2).at_ 0 _ rfl
  have f1 : wa.cell? ⟨w.heap.size, 1, none⟩ = some (.int .i64 c.n) := (b1).at_ 1 _ rfl
  have g1 : wa.cell? ⟨w.heap.size + 1, 1, none⟩ = some (.int .i64 c.n) := (b2).at_ 1 _ rfl
  have f2 : wa.cell? ⟨w.heap.size, 2, none⟩ = some (.int .i64 c.target) := (b1).at_ 2 _ rfl
  have g2 : wa.cell? ⟨w.heap.size + 1, 2, none⟩ = some (.int .i64 c.target) := (b2).at_ 2 _ rfl
  have f3 : wa.cell? ⟨w.heap.size, 3, none⟩ = some (.bool c.thread) := (b1).at_ 3 _ rfl
  have g3 : wa.cell? ⟨w.heap.size + 1, 3, none⟩ = some (.bool c.thread) := (b2).at_ 3 _ rfl
  have f4 : wa.cell? ⟨w.heap.size, 4, none⟩ = some (.string c.via) := (b1).at_ 4 _ rfl
  have g4 : wa.cell? ⟨w.heap.size + 1, 4, none⟩ = some (.string c.via) := (b2).at_ 4 _ rfl
  have f5 : wa.cell? ⟨w.heap.size, 5, none⟩ = some (.slice c.allow.A c.allow.n c.allow.c) := (b1).at_ 5 _ rfl
  have g5 : wa.cell? ⟨w.heap.size + 1, 5, none⟩ = some (.slice c.allow.A c.allow.n c.allow.c) := (b2).at_ 5 _ rfl
  go_wp2_with fail
  clear f0 f1 f2 f3 f4 f5 g0 g1 g2 g3 g4 g5
  refine ((sameTexts_any _ _ _ _ _ _ _ _ wa haa haa na).mono fun _ _ => TxQ.ret).mono ?_
  rintro e w1 ⟨rfl, c1⟩
  rw [decide_eq_true rfl]
  have f6 : w1.cell? ⟨w.heap.size, 6, none⟩ = some (.slice c.deny.A c.deny.n c.deny.c) := (b1.on c1).at_ 6 _ rfl
  have g6 : w1.cell? ⟨w.heap.size + 1, 6, none⟩ = some (.slice c.deny.A c.deny.n c.deny.c) := (b2.on c1).at_ 6 _ rfl
  go_wp2_with fail
  clear f6 g6
  refine ((sameTexts_any _ _ _ _ _ _ _ _ w1 (hda.on c1) (hda.on c1) nd).mono fun _ _ => TxQ.ret).mono ?_
  rintro e w2 ⟨rfl, b2'⟩
  rw [decide_eq_true rfl]
  have c2 := below_then c1 b2'
  obtain ⟨l1, l2⟩ : hasRow w2 w.heap.size 7 9 = true ∧ rowAt w2 w.heap.size 7 9 = lv c.levels := row_of (range_sub (b1.on c2).at_ 7 9) rfl
  obtain ⟨l3, l4⟩ : hasRow w2 (w.heap.size + 1) 7 9 = true ∧ rowAt w2 (w.heap.size + 1) 7 9 = lv c.levels := row_of (range_sub (b2.on c2).at_ 7 9) rfl
  go_wp2_with fail
  refine (sameLevels_refl c.levels w2 (Rd.lvs.on hla c2)).mono ?_
  rintro e w3 ⟨rfl, b3⟩
  have c3 := below_then c2 b3
  go_wp2_with fail
  go_ret
  exact ⟨rfl, below_then hba c3⟩

/-- small enough for chapter 14 -/
structure Small (c : Cnt) (s : ByteArray) : Prop where
  na : c.allow.n ≤ 20
  nd : c.deny.n ≤ 20
  s : s.size ≤ 80
  a : ∀ x ∈ c.allow.l, x.size ≤ 80
  d : ∀ x ∈ c.deny.l, x.size ≤ 80
def LeTo (l : List ByteArray) (k : Nat) : Prop := ∀ (j : Nat) x, l[j]? = some x → j < k → x.size ≤ 80
theorem LeTo.zero (l : List ByteArray) : LeTo l 0 := fun j _ _ h => by omega
theorem LeTo.succ {l : List ByteArray} {k : Nat} {x : ByteArray} (h : LeTo l k) (hx : l[k]? = some x) (hm : ¬ (80 : Int) < (x.size : Nat)) : LeTo l (k + 1) := fun j y hy hj => by
  rcases Nat.lt_or_ge j k with h1 | h1
  · exact h j y hy h1
  · obtain rfl : j = k := by omega
    rw [hx] at hy; cases hy; omega
theorem LeTo.all {l : List ByteArray} {k : Nat} (h : LeTo l k) (hk : l.length ≤ k) : ∀ x ∈ l, x.size ≤ 80 := fun x hx => by
  obtain ⟨j, hj, rfl⟩ := List.mem_iff_getElem.1 hx
  exact h j _ (List.getElem?_eq_getElem hj) (by omega)

set_option maxRecDepth 100000 in
set_option maxHeartbeats 2000000 in
theorem rgreat14_any (c : Cnt) (s : ByteArray) (w : World) (h : Rd.cnt.Ok w c) (hs : s.size ≤ maxLen) : Calls Try.prog 7 #[cv c, .string s] w (SomeB (fun b => b = false → Small c s) w) := by
  obtain ⟨⟨ha, na⟩, ⟨hd, nd⟩, _⟩ := cnt_ok h
  unfold maxLen at hs na nd
  obtain ⟨wa, hwa⟩ : ∃ wa : World, wa = w.alloc (.cells (Rd.cnt.cells c).toArray 28) := ⟨_, rfl⟩
  have hba : Below w.heap.size w wa := by rw [hwa]; exact below_alloc (Below.refl _ _) _
  have b1 : Box wa w.heap.size (Rd.cnt.cells c) := by rw [hwa]; exact Box.new w _ _
  have haa := ha.on hba; have hda := hd.on hba
  clear ha hd h
  unfold cv
  generalize (Rd.cnt.cells c).toArray = xs at hwa ⊢
  have HW := Lib.hid hwa; clear hwa
  have c5 : wa.cell? ⟨w.heap.size, 5, none⟩ = some (.slice c.allow.A c.allow.n c.allow.c) := b1.at_ 5 _ rfl
  have c6 : wa.cell? ⟨w.heap.size, 6, none⟩ = some (.slice c.deny.A c.deny.n c.deny.c) := b1.at_ 6 _ rfl
  go_enter Try.func7, Try.ntmps7
  go_upto_region 1 with fail
  rw [← HW.out]
  clear HW
  by_cases p0 : (20 : Int) < (c.allow.n : Nat)
  · go_wp2_with fail
    go_ret
    exact ⟨true, rfl, by simp, hba⟩
  by_cases p1 : (20 : Int) < (c.deny.n : Nat)
  · go_wp2_with fail
    go_ret
    exact ⟨true, rfl, by simp, hba⟩
  by_cases p2 : (80 : Int) < (s.size : Nat)
  · go_wp2_with fail
    go_ret
    exact ⟨true, rfl, by simp, hba⟩
  go_wp2_with fail
  have LA := Lib.hid haa.length
  have LD := Lib.hid hda.length
  go_loop [5] (fun i => ∃ k : Nat, k ≤ c.allow.n ∧ i = .int .i64 k ∧ LeTo c.allow.l k) (fun i => c.allow.n - (intOf i).toNat)
  case atStart => exact ⟨0, by omega, rfl, LeTo.zero _⟩
  case round =>
    obtain ⟨k, hk, rfl, hle⟩ := hrel
    by_cases hlt : k < c.allow.n
    · obtain ⟨ad, x, hA, _, hu, hx0⟩ := haa.at_ hlt
      have HA := Lib.hid hA; clear hA
      rw [HA.out] at c5
      by_cases hz : (80 : Int) < (x.size : Nat)
      · clear hle hu
        go_wp2_with fail
        go_ret
        exact ⟨true, rfl, by simp, hba⟩
      · have HL := Lib.hid (hle.succ hu hz)
        clear hle hu
        go_wp2_with fail
        exact ⟨⟨k + 1, by omega, by go_num, HL.out⟩, by simp [intOf]; omega⟩
    · have HAL := Lib.hid (hle.all (by have := LA.out; omega))
      clear hle
      go_wp2_with fail
      go_loop [6] (fun i => ∃ k : Nat, k ≤ c.deny.n ∧ i = .int .i64 k ∧ LeTo c.deny.l k) (fun i => c.deny.n - (intOf i).toNat)
      case atStart => exact ⟨0, by omega, rfl, LeTo.zero _⟩
      case round =>
        clear hlt
        obtain ⟨k, hk, rfl, hle⟩ := hrel
        by_cases hlt : k < c.deny.n
        · obtain ⟨ad, x, hA, _, hu, hx0⟩ := hda.at_ hlt
          have HA := Lib.hid hA; clear hA
          rw [HA.out] at c6
          by_cases hz : (80 : Int) < (x.size : Nat)
          · clear hle hu
            go_wp2_with fail
            go_ret
            exact ⟨true, rfl, by simp, hba⟩
          · have HL := Lib.hid (hle.succ hu hz)
            clear hle hu
            go_wp2_with fail
            exact ⟨⟨k + 1, by omega, by go_num, HL.out⟩, by simp [intOf]; omega⟩
        · have HDL := Lib.hid (hle.all (by have := LD.out; omega))
          clear hle
          go_wp2_with fail
          go_ret
          exact ⟨false, rfl, fun _ => ⟨by omega, by omega, by omega, HAL.out, HDL.out⟩, hba⟩
end Go.Proofs.Ytbdbhnmeainmfaa
