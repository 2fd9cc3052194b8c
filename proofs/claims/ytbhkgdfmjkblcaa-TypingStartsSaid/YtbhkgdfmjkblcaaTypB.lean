/-
  The walks through the laws TypingCleans and TypingStops.
-/
import Derived.Test.YtbhkgdfmjkblcaaTypL
namespace Go.Proofs.Ytbhkgdfmjkblcaa
open Go.RowKit

theorem sameTexts_eq (A B : Option Addr) (n c d : Nat) (a : List ByteArray) (w : World) (ha : Strs w A n a) (hb : Strs w B n a) (hn : n ≤ maxLen) :
    Calls Try.prog 26 #[.slice A n c, .slice B n d] w (Ret w (.bool true)) := (sameTexts_any A B n n c d a a w ha hb hn).mono fun _ _ h => by simpa using TxQ.ret h
theorem now_form {w : World} {B : Nat} {v : Value} {l : List (List UInt8)} {L : List ByteArray} (hL : l.map mk = L) (h : OwnStrs w B v l) : ∃ A c, v = .slice A L.length c ∧ Strs w A L.length L := by
  subst hL
  simpa using h.form'
theorem filt_len {l : List Typ} {n : Nat} (f : Typ → Bool) (h : l.length = n) (hn : n ≤ 40) : (l.filter f).length ≤ 40 := by
  have := List.length_filter_le f l
  omega
theorem now_len {l : List Typ} {n : Nat} {now : Int} {L : List ByteArray} (h : l.length = n) (hn : n ≤ 40) (hL : (T.now l now).map mk = L) : L.length ≤ maxLen := by
  have h1 : (T.now l now).length ≤ (T.clean l now).length := by
    have h := Nm.names_length ((T.clean l now).map T.nm)
    rw [List.length_map] at h
    exact h
  have h2 : (T.clean l now).length ≤ l.length := List.length_filter_le _ _
  subst hL
  simp only [List.length_map]
  unfold maxLen
  omega

set_option maxRecDepth 100000 in
set_option maxHeartbeats 4000000 in
theorem typingCleans_any (x : Sl Typ) (t1 t2 : Int) (w : World) (hx : (Typs w x.A x.n x.l ∧ x.n ≤ x.c) ∧ x.n ≤ maxLen) :
    Calls Try.prog 8 #[x.val, .int .i64 t1, .int .i64 t2] w (Ret w (.bool true)) := by
  obtain ⟨A, n, c, l⟩ := x
  obtain ⟨⟨hr, hc⟩, hn⟩ := hx
  change Calls _ _ #[.slice A n c, _, _] _ _
  replace hr : Typs w A n l := hr
  replace hn : n ≤ maxLen := hn
  have HL := Lib.hid (Rd.Holds.length hr)
  have c0 := tgreat_any A n c l w hr hn
  go_enter Try.func8, Try.ntmps8
  go_wp2_with fail
  refine c0.mono ?_
  rintro e w1 ⟨g, rfl, hg, rfl⟩
  cases g
  · have hn40 := hg rfl
    clear hg c0
    by_cases hlt : t2 < t1
    · clear hr HL
      go_wp2_with fail
      refine (tlive_any _).mono ?_
      rintro e w3 ⟨rfl, b3⟩
      go_wp2_with fail
      go_ret
      exact ⟨rfl, b3⟩
    · have hle : t1 ≤ t2 := by omega
      obtain ⟨m, hm⟩ : ∃ m, l.filter (fun y => decide (t1 < y.til)) = m := ⟨_, rfl⟩
      obtain ⟨L2, hL2⟩ : ∃ L2, (T.now l t2).map mk = L2 := ⟨_, rfl⟩
      obtain ⟨L1, hL1⟩ : ∃ L1, (T.now l t1).map mk = L1 := ⟨_, rfl⟩
      have hm2 : (T.now m t2).map mk = L2 := by rw [← hL2, ← hm]; exact congrArg _ (T.now_clean l hle)
      have hm1 : (T.now m t1).map mk = L1 := by rw [← hL1, ← hm]; exact congrArg _ (T.now_clean l (Int.le_refl _))
      have hml : m.length ≤ 40 := hm ▸ filt_len _ HL.out hn40
      have k1 : L1.length ≤ maxLen := now_len HL.out hn40 hL1
      have k2 : L2.length ≤ maxLen := now_len HL.out hn40 hL2
      have M := Lib.hid hm; have N2 := Lib.hid hL2; have N1 := Lib.hid hL1; have M2 := Lib.hid hm2; have M1 := Lib.hid hm1
      clear hm hL2 hL1 hm2 hm1
      have hok : TypOk m := fun y hy => hr.ok y (List.mem_filter.1 (by rw [M.out]; exact hy : y ∈ l.filter fun y => decide (t1 < y.til))).1
      go_wp2_with fail
      refine (tclean_any A n c l t1 w hr (by omega)).mono ?_
      rintro e w1 ⟨v1, rfl, b1, o1⟩
      rw [M.out] at o1
      obtain ⟨A1, c1, rfl, hT1⟩ := o1.form hok
      have hr1 := hr.on b1
      clear o1
      go_wp2_with fail
      refine (tnow_any _ _ _ _ t2 w1 hT1 (by omega)).mono ?_
      rintro e w2 ⟨v2, rfl, b2, o2⟩
      obtain ⟨A2, c2, rfl, hS2⟩ := now_form M2.out o2
      have hr2 := hr1.on b2
      have d2 := below_then b1 b2
      clear o2 hT1 hr1 b1 b2
      go_wp2_with fail
      refine (tnow_any _ _ _ _ t2 w2 hr2 (by omega)).mono ?_
      rintro e w3 ⟨v3, rfl, b3, o3⟩
      obtain ⟨A3, c3, rfl, hS3⟩ := now_form N2.out o3
      have hr3 := hr2.on b3
      have hS2' := hS2.on b3
      have d3 := below_then d2 b3
      clear o3 hr2 hS2 b3 d2
      go_wp2_with fail
      refine (sameTexts_eq _ _ _ _ _ L2 _ hS2' hS3 k2).mono ?_
      rintro e w4 ⟨rfl, b4⟩
      have hr4 := hr3.on b4
      have d4 := below_then d3 b4
      clear hr3 hS2' hS3 b4 d3
      go_wp2_with fail
      refine (tclean_any _ _ _ _ t1 w4 hr4 (by omega)).mono ?_
      rintro e w5 ⟨v5, rfl, b5, o5⟩
      rw [M.out] at o5
      obtain ⟨A5, c5, rfl, hT5⟩ := o5.form hok
      have hr5 := hr4.on b5
      have d5 := below_then d4 b5
      clear o5 hr4 b5 d4
      go_wp2_with fail
      refine (tnow_any _ _ _ _ t1 w5 hT5 (by omega)).mono ?_
      rintro e w6 ⟨v6, rfl, b6, o6⟩
      obtain ⟨A6, c6, rfl, hS6⟩ := now_form M1.out o6
      have hr6 := hr5.on b6
      have d6 := below_then d5 b6
      clear o6 hT5 hr5 b6 d5
      go_wp2_with fail
      refine (tnow_any _ _ _ _ t1 w6 hr6 (by omega)).mono ?_
      rintro e w7 ⟨v7, rfl, b7, o7⟩
      obtain ⟨A7, c7, rfl, hS7⟩ := now_form N1.out o7
      have hS6' := hS6.on b7
      have d7 := below_then d6 b7
      clear o7 hr6 hS6 b7 d6
      go_wp2_with fail
      refine (sameTexts_eq _ _ _ _ _ L1 _ hS6' hS7 k1).mono ?_
      rintro e w8 ⟨rfl, b8⟩
      have d8 := below_then d7 b8
      clear hS6' hS7 b8 d7
      go_wp2_with fail
      refine (tlive_any _).mono ?_
      rintro e w9 ⟨rfl, b9⟩
      go_wp2_with fail
      go_ret
      exact ⟨rfl, below_then d8 b9⟩
  · clear hr HL c0 hg
    go_wp2_with fail
    refine (tlive_any _).mono ?_
    rintro e w3 ⟨rfl, b3⟩
    go_wp2_with fail
    go_ret
    exact ⟨rfl, b3⟩

set_option maxRecDepth 100000 in
set_option maxHeartbeats 4000000 in
theorem typingStops_any (x : Sl Typ) (u : ByteArray) (t : Int) (w : World) (hx : (Typs w x.A x.n x.l ∧ x.n ≤ x.c) ∧ x.n ≤ maxLen) (_ : u.size ≤ maxLen) :
    Calls Try.prog 5 #[x.val, .string u, .int .i64 t] w (Ret w (.bool true)) := by
  obtain ⟨A, n, c, l⟩ := x
  obtain ⟨⟨hr, hc⟩, hn⟩ := hx
  change Calls _ _ #[.slice A n c, _, _] _ _
  replace hr : Typs w A n l := hr
  replace hn : n ≤ maxLen := hn
  have HL := Lib.hid (Rd.Holds.length hr)
  have c0 := tgreat_any A n c l w hr hn
  go_enter Try.func5, Try.ntmps5
  go_wp2_with fail
  refine c0.mono ?_
  rintro e w1 ⟨g, rfl, hg, rfl⟩
  cases g
  · have hn40 := hg rfl
    clear hg c0
    by_cases hlt : (200 : Int) < (u.size : Nat)
    · clear hr HL
      go_wp2_with fail
      go_ret
      exact ⟨rfl, Below.refl _ _⟩
    · obtain ⟨ms, hms⟩ : ∃ m, l.filter (fun y => decide (T.nm y ≠ bs u)) = m := ⟨_, rfl⟩
      obtain ⟨mc, hmc⟩ : ∃ m, l.filter (fun y => decide (t < y.til)) = m := ⟨_, rfl⟩
      obtain ⟨L1, hL1⟩ : ∃ L1, (T.now l t).map mk = L1 := ⟨_, rfl⟩
      have hsl : ms.length ≤ 40 := hms ▸ filt_len _ HL.out hn40
      have hcl : mc.length ≤ 40 := hmc ▸ filt_len _ HL.out hn40
      have k1 : L1.length ≤ maxLen := now_len HL.out hn40 hL1
      have MS := Lib.hid hms; have MC := Lib.hid hmc; have N1 := Lib.hid hL1
      clear hms hmc hL1
      have hoks : TypOk ms := fun y hy => hr.ok y (List.mem_filter.1 (by rw [MS.out]; exact hy : y ∈ l.filter fun y => decide (T.nm y ≠ bs u))).1
      have hokc : TypOk mc := fun y hy => hr.ok y (List.mem_filter.1 (by rw [MC.out]; exact hy : y ∈ l.filter fun y => decide (t < y.til))).1
      go_wp2_with fail
      refine (tstop_any A n c l u w hr (by omega)).mono ?_
      rintro e w1 ⟨v1, rfl, b1, o1⟩
      rw [MS.out] at o1
      obtain ⟨A1, c1, rfl, hT1⟩ := o1.form hoks
      have hr1 := hr.on b1
      clear o1
      go_wp2_with fail
      refine (rstop_any _ _ _ _ u w1 hr1 (by omega)).mono ?_
      rintro e w2 ⟨v2, rfl, b2, o2⟩
      rw [MS.out] at o2
      obtain ⟨A2, c2, rfl, hT2⟩ := o2.form hoks
      have hr2 := hr1.on b2
      have hT1' := hT1.on b2
      have d2 := below_then b1 b2
      clear o2 hT1 hr1 b1 b2
      go_wp2_with fail
      refine (tsame_any _ _ _ _ _ ms w2 hT1' hT2 (by omega)).mono ?_
      rintro e w3 ⟨rfl, b3⟩
      have hr3 := hr2.on b3
      have d3 := below_then d2 b3
      clear hT1' hT2 hr2 d2 b3
      go_wp2_with fail
      refine (tclean_any _ _ _ _ t w3 hr3 (by omega)).mono ?_
      rintro e w4 ⟨v4, rfl, b4, o4⟩
      rw [MC.out] at o4
      obtain ⟨A4, c4, rfl, hT4⟩ := o4.form hokc
      have hr4 := hr3.on b4
      have d4 := below_then d3 b4
      clear o4 hr3 d3 b4
      go_wp2_with fail
      refine (rclean_any _ _ _ _ t w4 hr4 (by omega)).mono ?_
      rintro e w5 ⟨v5, rfl, b5, o5⟩
      rw [MC.out] at o5
      obtain ⟨A5, c5, rfl, hT5⟩ := o5.form hokc
      have hr5 := hr4.on b5
      have hT4' := hT4.on b5
      have d5 := below_then d4 b5
      clear o5 hT4 hr4 d4 b5
      go_wp2_with fail
      refine (tsame_any _ _ _ _ _ mc w5 hT4' hT5 (by omega)).mono ?_
      rintro e w6 ⟨rfl, b6⟩
      have hr6 := hr5.on b6
      have d6 := below_then d5 b6
      clear hT4' hT5 hr5 d5 b6
      go_wp2_with fail
      refine (tnow_any _ _ _ _ t w6 hr6 (by omega)).mono ?_
      rintro e w7 ⟨v7, rfl, b7, o7⟩
      obtain ⟨A7, c7, rfl, hS7⟩ := now_form N1.out o7
      have hr7 := hr6.on b7
      have d7 := below_then d6 b7
      clear o7 hr6 d6 b7
      go_wp2_with fail
      refine (rnow_any _ _ _ _ t w7 hr7 (by omega)).mono ?_
      rintro e w8 ⟨v8, rfl, b8, o8⟩
      obtain ⟨A8, c8, rfl, hS8⟩ := now_form N1.out o8
      have hS7' := hS7.on b8
      have d8 := below_then d7 b8
      clear o8 hr7 hS7 d7 b8
      go_wp2_with fail
      refine (sameTexts_eq _ _ _ _ _ L1 _ hS7' hS8 k1).mono ?_
      rintro e w9 ⟨rfl, b9⟩
      have d9 := below_then d8 b9
      clear hS7' hS8 d8 b9
      go_wp2_with fail
      refine (tlive_any _).mono ?_
      rintro e w10 ⟨rfl, b10⟩
      go_wp2_with fail
      go_ret
      exact ⟨rfl, below_then d9 b10⟩
  · clear hr HL c0 hg
    go_wp2_with fail
    go_ret
    exact ⟨rfl, Below.refl _ _⟩
end Go.Proofs.Ytbhkgdfmjkblcaa
