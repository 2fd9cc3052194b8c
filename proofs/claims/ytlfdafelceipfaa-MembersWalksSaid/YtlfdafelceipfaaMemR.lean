/-
  The walk through the examples of chapter 12 (live).
-/
import Derived.Test.YtlfdafelceipfaaMemT
import Derived.Test.YtlfdafelceipfaaMemS
import Derived.Test.YtlfdafelceipfaaSameT
namespace Go.Proofs.Ytlfdafelceipfaa
open Go.RowKit

def lvC (n : Int) : Cnt := ⟨⟨#[]⟩, n, 0, false, ⟨#[]⟩, ⟨none, 0, 0, []⟩, ⟨none, 0, 0, []⟩, ⟨⟨none, 0, 0, []⟩, ⟨none, 0, 0, []⟩, 0, 0, 0, 0, 0, 0, 0⟩⟩
def lvE (i : Int) (k : ByteArray) (n : Int) : Ev := ⟨i, ⟨#[]⟩, ⟨#[]⟩, 2, false, k, 0, 0, ⟨none, 0, 0, []⟩, ⟨none, 0, 0, []⟩, lvC n, 0, ⟨⟨#[]⟩, 0⟩⟩
def lvL : List Ev := [lvE 3 ⟨#[64, 98, 58, 121]⟩ 3, lvE 2 ⟨#[64, 97, 58, 120]⟩ 4, lvE 1 ⟨#[64, 97, 58, 120]⟩ 3]
def lvS : List Ent := [⟨2, ⟨#[64, 97, 58, 120]⟩, 1⟩]
theorem lv_of1 : Mb.of lvL (bs ⟨#[64, 97, 58, 120]⟩) = 4 := by decide
theorem lv_of2 : Mb.of lvL (bs ⟨#[64, 99, 58, 122]⟩) = 0 := by decide
theorem lv_outs3 : Mb.outs lvL 3 lvL.length = [[64, 98, 58, 121]] := by decide
theorem lv_outs0 : Mb.outs lvL 0 lvL.length = [] := by decide
theorem inc_one (x : List UInt8) : Nm.Inc [x] := List.pairwise_singleton _ _
theorem lv_with3 : Mb.withL lvL 3 = [[64, 98, 58, 121]] := by unfold Mb.withL; rw [lv_outs3, Nm.names_of_inc (inc_one _)]
theorem lv_with0 : Mb.withL lvL 0 = [] := by unfold Mb.withL; rw [lv_outs0, Nm.names_of_inc List.Pairwise.nil]
theorem lv_servers : Mb.serversL lvL = [[121]] := by
  unfold Mb.serversL
  rw [lv_with3, show Mb.srvs [[64, 98, 58, 121]] ([[64, 98, 58, 121]] : List (List UInt8)).length = [[121]] from by decide, Nm.names_of_inc (inc_one _)]
theorem lv_in1 : Mb.inState lvL lvS (bs ⟨#[64, 97, 58, 120]⟩) = 3 := by decide
theorem lv_in2 : Mb.inState lvL lvS (bs ⟨#[64, 98, 58, 121]⟩) = 0 := by decide
theorem lv_same1 : decide ([mk [64, 98, 58, 121]] = [⟨#[64, 98, 58, 121]⟩]) = true := by decide
theorem lv_same2 : decide ([mk [121]] = [(⟨#[121]⟩ : ByteArray)]) = true := by decide
theorem lv_m1 : moveB 4 0 false = true := by decide
theorem lv_m2 : moveB 4 0 true = false := by decide
theorem lv_m3 : moveB 0 0 true = false := by decide
theorem lv_m4 : moveB 1 2 true = false := by decide
theorem lv_i (i : Int) (h : 0 ≤ i ∧ i ≤ 1000) : -9223372036854775808 ≤ i ∧ i ≤ 9223372036854775807 := ⟨by omega, by omega⟩
theorem lv_z {s : ByteArray} (h : s.size ≤ 1000) : s.size ≤ maxLen := by unfold maxLen; omega
theorem lv_sl {α : Type} {r : Rd α} {w : World} : (Rd.slice r).Ok w ⟨none, 0, 0, []⟩ := ⟨Rd.Holds.none_, Nat.le_refl _, Nat.zero_le _⟩
theorem lvE_ok {w : World} {i : Int} {k : ByteArray} {n : Int} (hi : 0 ≤ i ∧ i ≤ 1000) (hk : k.size ≤ 1000) (hn : 0 ≤ n ∧ n ≤ 1000) : Rd.ev.Ok w (lvE i k n) :=
  have z : -9223372036854775808 ≤ (0 : Int) ∧ (0 : Int) ≤ 9223372036854775807 := ⟨by omega, by omega⟩
  have s0 : (⟨#[]⟩ : ByteArray).size ≤ maxLen := Nat.zero_le _
  have lv : Rd.lvs.Ok w ⟨⟨none, 0, 0, []⟩, ⟨none, 0, 0, []⟩, 0, 0, 0, 0, 0, 0, 0⟩ := ⟨lv_sl, lv_sl, z, z, z, z, z, z, z, trivial⟩
  have cn : Rd.cnt.Ok w (lvC n) := ⟨s0, lv_i n hn, z, trivial, s0, lv_sl, lv_sl, lv, trivial⟩
  ⟨lv_i i hi, s0, s0, lv_i 2 (by omega), trivial, lv_z hk, z, z, lv_sl, lv_sl, cn, z, ⟨s0, z, trivial⟩, trivial⟩
theorem lvL_ok {w : World} : ∀ x ∈ lvL, Rd.ev.Ok w x := by
  intro x hx
  simp only [lvL, List.mem_cons, List.not_mem_nil, or_false] at hx
  rcases hx with rfl | rfl | rfl
  · exact lvE_ok (by omega) (by decide) (by omega)
  · exact lvE_ok (by omega) (by decide) (by omega)
  · exact lvE_ok (by omega) (by decide) (by omega)
theorem lvS_ok {w : World} : ∀ x ∈ lvS, Rd.ent.Ok w x := by
  intro x hx
  simp only [lvS, List.mem_cons, List.not_mem_nil, or_false] at hx
  subst hx
  exact ⟨lv_i 2 (by omega), lv_z (by decide), lv_i 1 (by omega), trivial⟩
/-- a row of the call's own, its strings known -/
theorem own_lit {w : World} {B : Nat} {v : Value} {l m : List (List UInt8)} (h : OwnStrs w B v l) (hm : l = m) : ∃ A c, v = .slice A m.length c ∧ Strs w A m.length (m.map mk) := by
  subst hm; exact h.form

set_option maxRecDepth 100000 in
set_option maxHeartbeats 4000000 in
theorem mlive_any (w : World) : Calls Try.prog 39 #[] w (Ret w (.bool true)) := by
  go_enter Try.func39, Try.ntmps39
  go_upto_region 2 with fail
  obtain ⟨wa, hwa⟩ : ∃ wa : World, wa = w.alloc (.cells #[.int .i64 3, .string ⟨#[]⟩, .string ⟨#[]⟩, .int .i64 2, .bool false, .string ⟨#[64, 98, 58, 121]⟩, .int .i64 0, .int .i64 0, .slice none 0 0, .slice none 0 0, .string ⟨#[]⟩, .int .i64 3, .int .i64 0, .bool false, .string ⟨#[]⟩, .slice none 0 0, .slice none 0 0, .slice none 0 0, .slice none 0 0, .int .i64 0, .int .i64 0, .int .i64 0, .int .i64 0, .int .i64 0, .int .i64 0, .int .i64 0, .int .i64 0, .string ⟨#[]⟩, .int .i64 0, .int .i64 2, .string ⟨#[]⟩, .string ⟨#[]⟩, .int .i64 2, .bool false, .string ⟨#[64, 97, 58, 120]⟩, .int .i64 0, .int .i64 0, .slice none 0 0, .slice none 0 0, .string ⟨#[]⟩, .int .i64 4, .int .i64 0, .bool false, .string ⟨#[]⟩, .slice none 0 0, .slice none 0 0, .slice none 0 0, .slice none 0 0, .int .i64 0, .int .i64 0, .int .i64 0, .int .i64 0, .int .i64 0, .int .i64 0, .int .i64 0, .int .i64 0, .string ⟨#[]⟩, .int .i64 0, .int .i64 1, .string ⟨#[]⟩, .string ⟨#[]⟩, .int .i64 2, .bool false, .string ⟨#[64, 97, 58, 120]⟩, .int .i64 0, .int .i64 0, .slice none 0 0, .slice none 0 0, .string ⟨#[]⟩, .int .i64 3, .int .i64 0, .bool false, .string ⟨#[]⟩, .slice none 0 0, .slice none 0 0, .slice none 0 0, .slice none 0 0, .int .i64 0, .int .i64 0, .int .i64 0, .int .i64 0, .int .i64 0, .int .i64 0, .int .i64 0, .int .i64 0, .string ⟨#[]⟩, .int .i64 0] 61) := ⟨_, rfl⟩
  rw [← hwa]
  have ba : Below w.heap.size w wa := by rw [hwa]; exact below_alloc (Below.refl _ _) _
  have hr : Rd.ev.Holds wa (some ⟨w.heap.size, 0, none⟩) 3 lvL := by rw [hwa]; exact Rd.Holds.new Rd.ev w _ _ lvL 3 rfl rfl lvL_ok
  clear hwa
  go_upto_region 3 with fail
  obtain ⟨wb, hwb⟩ : ∃ wb : World, wb = wa.alloc (.cells #[.int .i64 2, .string ⟨#[64, 97, 58, 120]⟩, .int .i64 1] 79) := ⟨_, rfl⟩
  rw [← hwb]
  have bb : Below w.heap.size w wb := by rw [hwb]; exact below_alloc ba _
  have hrb : Rd.ev.Holds wb (some ⟨w.heap.size, 0, none⟩) 3 lvL := by rw [hwb]; exact hr.on (below_alloc (Below.refl _ _) _)
  have hsb : Rd.ent.Holds wb (some ⟨wa.heap.size, 0, none⟩) 1 lvS := by rw [hwb]; exact Rd.Holds.new Rd.ent wa _ _ lvS 1 rfl rfl lvS_ok
  clear hwb hr ba
  go_wp2_with fail
  refine (mof_any (some ⟨w.heap.size, 0, none⟩) 3 _ lvL ⟨#[64, 97, 58, 120]⟩ wb hrb (by omega)).mono ?_
  rintro e w1 ⟨rfl, rfl⟩
  rw [lv_of1]
  go_wp2_with fail
  refine (mof_any (some ⟨w.heap.size, 0, none⟩) 3 _ lvL ⟨#[64, 99, 58, 122]⟩ wb hrb (by omega)).mono ?_
  rintro e w1 ⟨rfl, rfl⟩
  rw [lv_of2]
  go_wp2_with fail
  refine (mwith_any (some ⟨w.heap.size, 0, none⟩) 3 _ lvL 3 wb hrb (by omega)).mono ?_
  rintro e w3 ⟨v3, rfl, b3, hown3⟩
  obtain ⟨A3, c3, rfl, hS3⟩ := own_lit hown3 lv_with3
  simp only [List.length_singleton, List.map_cons, List.map_nil] at hS3
  clear hown3
  go_wp2_with fail
  refine ((sameTexts_any _ _ _ _ _ _ [mk [64, 98, 58, 121]] [⟨#[64, 98, 58, 121]⟩] _ (hS3.on (below_alloc (Below.refl _ _) _)) (Strs.new _ _ _ _ _ rfl rfl) (by unfold maxLen; simp)).mono fun _ _ => TxQ.ret).mono ?_
  rintro e w4 ⟨rfl, b4⟩
  rw [lv_same1]
  have d4 := below_then (below_alloc b3 _) b4
  have h4 := hrb.on d4
  clear b3 b4 hS3
  go_wp2_with fail
  refine (mservers_any (some ⟨w.heap.size, 0, none⟩) 3 _ lvL w4 h4 (by omega)).mono ?_
  rintro e w5 ⟨v5, rfl, b5, hown5⟩
  obtain ⟨A5, c5, rfl, hS5⟩ := own_lit hown5 lv_servers
  simp only [List.length_singleton, List.map_cons, List.map_nil] at hS5
  clear hown5
  go_wp2_with fail
  refine ((sameTexts_any _ _ _ _ _ _ [mk [121]] [(⟨#[121]⟩ : ByteArray)] _ (hS5.on (below_alloc (Below.refl _ _) _)) (Strs.new _ _ _ _ _ rfl rfl) (by unfold maxLen; simp)).mono fun _ _ => TxQ.ret).mono ?_
  rintro e w6 ⟨rfl, b6⟩
  rw [lv_same2]
  have d6 := below_then d4 (below_then (below_alloc b5 _) b6)
  have h6 := hrb.on d6
  clear b5 b6 hS5 h4 d4
  go_wp2_with fail
  refine (mwith_any (some ⟨w.heap.size, 0, none⟩) 3 _ lvL 0 w6 h6 (by omega)).mono ?_
  rintro e w7 ⟨v7, rfl, b7, hown7⟩
  obtain ⟨A7, c7, rfl, hS7⟩ := own_lit hown7 lv_with0
  have d7 := below_then d6 b7
  clear hown7 hS7 b7 h6 d6
  go_wp2_with fail
  refine (move_any 4 0 false w7).mono ?_
  rintro e w8 ⟨rfl, b8⟩
  rw [lv_m1]
  have d8 := below_then d7 b8
  clear b8 d7
  go_wp2_with fail
  refine (move_any 4 0 true w8).mono ?_
  rintro e w9 ⟨rfl, b9⟩
  rw [lv_m2]
  have d9 := below_then d8 b9
  clear b9 d8
  go_wp2_with fail
  refine (move_any 0 0 true w9).mono ?_
  rintro e w10 ⟨rfl, b10⟩
  rw [lv_m3]
  have d10 := below_then d9 b10
  clear b10 d9
  go_wp2_with fail
  refine (move_any 1 2 true w10).mono ?_
  rintro e w11 ⟨rfl, b11⟩
  rw [lv_m4]
  have d11 := below_then d10 b11
  clear b11 d10
  go_wp2_with fail
  refine (inState_any (some ⟨w.heap.size, 0, none⟩) 3 _ lvL (some ⟨wa.heap.size, 0, none⟩) 1 _ lvS ⟨#[64, 97, 58, 120]⟩ w11 (hrb.on d11) (by omega) (hsb.on d11) (by omega)).mono ?_
  rintro e w12 ⟨rfl, b12⟩
  rw [lv_in1]
  have d12 := below_then d11 b12
  clear b12 d11
  go_wp2_with fail
  refine (inState_any (some ⟨w.heap.size, 0, none⟩) 3 _ lvL (some ⟨wa.heap.size, 0, none⟩) 1 _ lvS ⟨#[64, 98, 58, 121]⟩ w12 (hrb.on d12) (by omega) (hsb.on d12) (by omega)).mono ?_
  rintro e w13 ⟨rfl, b13⟩
  rw [lv_in2]
  have d13 := below_then d12 b13
  go_wp2_with fail
  go_ret
  exact ⟨rfl, below_then bb d13⟩
end Go.Proofs.Ytlfdafelceipfaa
