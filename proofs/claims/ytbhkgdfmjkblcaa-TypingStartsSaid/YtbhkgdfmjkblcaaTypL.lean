/-
  The walk through the examples of chapter 38.
-/
import Derived.Test.YtbhkgdfmjkblcaaTypT
import Derived.Test.YtbhkgdfmjkblcaaSameT
namespace Go.Proofs.Ytbhkgdfmjkblcaa
open Go.RowKit

def axS : ByteArray := ⟨#[64, 97, 58, 120]⟩
theorem start_lit {A : Option Addr} {n c : Nat} {l : List Typ} {u : ByteArray} {now span : Int} {w : World} (err : Int) (m : List Typ) (he : startErr (bs u) now span = err) (hm : startL l u now span = m)
    (hr : Typs w A n l) (hn : n ≤ 1000000) (hcap : n ≤ c) (hu : u.size ≤ maxLen) :
    Calls Try.prog 19 #[.slice A n c, .string u, .int .i64 now, .int .i64 span] w fun e w' => ∃ A' c', e = .returned (.tuple #[.slice A' m.length c', .int .i64 err]) ∧ Typs w' A' m.length m ∧ m.length ≤ c' ∧ Below w.heap.size w w' := by
  subst he hm
  exact (tstart_any A n c l u now span w hr hn hcap hu).mono fun _ _ h => h
theorem ax_user : I.userB (bs axS) = true := by decide
theorem ax_err (now span : Int) (h : ¬ (now < 0 ∨ 1000000000 < now ∨ span < 1 ∨ 30000 < span)) : startErr (bs axS) now span = 0 := by unfold startErr; rw [ax_user, if_neg (by decide), if_neg h]
theorem ax_err2 : startErr (bs axS) 120 0 = 2 := by unfold startErr; rw [ax_user, if_neg (by decide), if_pos (by omega)]
theorem ax_l1 : startL [] axS 100 50 = [⟨axS, 150⟩] := by unfold startL; rw [ax_err _ _ (by omega), if_pos rfl]; rfl
theorem ax_l2 : startL [⟨axS, 150⟩] axS 120 10 = [⟨axS, 130⟩] := by
  unfold startL
  rw [ax_err _ _ (by omega), if_pos rfl]
  have h : T.hit [⟨axS, 150⟩] (bs axS) = some 0 := by simp [T.hit, List.findIdx?_cons]
  unfold T.start
  rw [show T.nm ⟨axS, 120 + 10⟩ = bs axS from rfl, h]; rfl
theorem ax_l3 : startL [⟨axS, 150⟩] axS 120 0 = [] := by unfold startL; rw [ax_err2, if_neg (by decide)]
theorem ax_now1 : T.now [⟨axS, 150⟩] 149 = [bs axS] := by
  have : T.clean [⟨axS, 150⟩] 149 = [⟨axS, 150⟩] := by simp [T.clean]
  unfold T.now; rw [this]
  exact Nm.names_of_inc (by unfold Nm.Inc; simp)
theorem ax_now2 : T.now [⟨axS, 150⟩] 150 = [] := by
  have : T.clean [⟨axS, 150⟩] 150 = [] := by simp [T.clean]
  unfold T.now; rw [this]
  simp [Nm.names, Nm.firsts, Nm.sorted]
theorem ax_chk : T.chk none [⟨axS, 150⟩] = 0 := by
  rw [T.chk_zero]
  refine ⟨fun x hx => ?_, by unfold Nm.Inc; simp⟩
  simp at hx; subst hx
  exact ⟨ax_user, by simp, by simp⟩
theorem ax_small : axS.size ≤ maxLen := by unfold maxLen; decide
theorem ax_stop : ([⟨axS, 150⟩] : List Typ).filter (fun y => decide (T.nm y ≠ bs axS)) = [] := by simp [T.nm]
theorem ax_clean : ([⟨axS, 150⟩] : List Typ).filter (fun y => decide ((149 : Int) < y.til)) = [⟨axS, 150⟩] := by simp
theorem ax_same : decide ([mk (bs axS)] = [axS]) = true := by rw [mk_bs]; simp

set_option maxRecDepth 100000 in
set_option maxHeartbeats 4000000 in
theorem tlive_any (w : World) : Calls Try.prog 18 #[] w (Ret w (.bool true)) := by
  go_enter Try.func18, Try.ntmps18
  go_wp2_with fail
  refine (start_lit (u := axS) 0 _ (ax_err _ _ (by omega)) ax_l1 Rd.Holds.none_ (by omega) (by omega) ax_small).mono ?_
  rintro e w1 ⟨A1, c1, rfl, hT1, hc1, b1⟩
  simp only [List.length_singleton] at hT1 hc1
  have hc1i : (1 : Int) ≤ c1 := by omega
  go_wp2_with fail
  refine (start_lit (u := axS) 0 _ (ax_err _ _ (by omega)) ax_l2 hT1 (by simp) (by simpa using hc1) ax_small).mono ?_
  rintro e w2 ⟨A2, c2, rfl, hT2, hc2, b2⟩
  have d2 := below_then b1 b2
  go_wp2_with fail
  refine (start_lit (u := axS) 2 _ ax_err2 ax_l3 (hT1.on b2) (by simp) (by simpa using hc1) ax_small).mono ?_
  rintro e w3 ⟨A3, c3, rfl, hT3, hc3, b3⟩
  have d3 := below_then d2 b3
  have hU1 := (hT1.on b2).on b3
  have hU2 := hT2.on b3
  obtain ⟨p1, o1, x1, rfl, _, hx1, _, _, q0, q1⟩ := hU1.at_ (k := 0) (by simp)
  obtain ⟨p2, o2, x2, rfl, _, hx2, _, _, r0, r1⟩ := hU2.at_ (k := 0) (by simp)
  simp only [List.getElem?_cons_zero, Option.some.injEq] at hx1 hx2
  subst hx1 hx2
  simp only [Nat.zero_mul, Nat.add_zero] at q0 q1 r0 r1
  clear b1 b2 b3 d2 hT3 hc3 q0 r0
  go_wp2_with fail
  refine (tnow_any _ _ _ _ 149 w3 hU1 (by simp)).mono ?_
  rintro e w4 ⟨v4, rfl, b4, hown4⟩
  rw [ax_now1] at hown4
  obtain ⟨A4, c4, rfl, hS4⟩ := hown4.form'
  simp only [List.length_singleton, List.map_cons, List.map_nil] at hS4
  have d4 := below_then d3 b4
  have hU4 := hU1.on b4
  clear hown4 b4 d3 q1 r1
  go_wp2_with fail
  refine ((sameTexts_any _ _ _ _ _ _ [mk (bs axS)] [axS] _ (hS4.on (below_alloc (Below.refl _ _) _)) (Strs.new _ _ _ _ _ rfl rfl) (by unfold maxLen; simp)).mono fun _ _ => TxQ.ret).mono ?_
  rintro e w5 ⟨rfl, b5⟩
  rw [ax_same]
  have b5' := below_then (below_alloc (Below.refl _ _) _) b5
  have d5 := below_then d4 b5'
  have hU5 := hU4.on b5'
  clear b5 b5' d4 hU4 hS4
  go_wp2_with fail
  refine (tnow_any _ _ _ _ 150 w5 hU5 (by simp)).mono ?_
  rintro e w6 ⟨v6, rfl, b6, hown6⟩
  rw [ax_now2] at hown6
  obtain ⟨A6, c6, rfl, _⟩ := hown6.form'
  have d6 := below_then d5 b6
  have hU6 := hU5.on b6
  clear hown6 b6 d5
  go_wp2_with fail
  refine (tstop_any _ _ _ _ axS w6 hU6 (by simp)).mono ?_
  rintro e w7 ⟨v7, rfl, b7, hown7⟩
  rw [ax_stop] at hown7
  obtain ⟨A7, c7, rfl, _⟩ := hown7.form (by intro x hx; simp at hx)
  have d7 := below_then d6 b7
  have hU7 := hU6.on b7
  clear hown7 b7 d6
  go_wp2_with fail
  refine (tcheck_any _ _ _ _ w7 hU7 (by unfold maxLen; simp)).mono ?_
  rintro e w8 ⟨rfl, b8⟩
  rw [ax_chk]
  have d8 := below_then d7 b8
  have hU8 := hU7.on b8
  clear b8 d7
  go_wp2_with fail
  refine (tclean_any _ _ _ _ 149 w8 hU8 (by simp)).mono ?_
  rintro e w9 ⟨v9, rfl, b9, hown9⟩
  rw [ax_clean] at hown9
  obtain ⟨A9, c9, rfl, _⟩ := hown9.form hU8.ok
  have d9 := below_then d8 b9
  clear hown9 b9 d8
  go_wp2_with fail
  go_ret
  exact ⟨rfl, d9⟩
end Go.Proofs.Ytbhkgdfmjkblcaa
