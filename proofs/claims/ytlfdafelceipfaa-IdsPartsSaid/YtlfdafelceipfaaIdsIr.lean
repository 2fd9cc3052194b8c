/-
  The walk through the law IdsParts: a user's identifier, a room's, and a string that is neither. (Printed by wip/gen/gen_idsI.py.)
-/
import Derived.Test.YtlfdafelceipfaaIdsJ
import Derived.Test.YtlfdafelceipfaaIdsK
import Derived.Deep.RegionHeld3
import Derived.BigQuiet
import Derived.Deep.DeepCutAuto
namespace Go.Proofs.Ytlfdafelceipfaa
open Go.RowKit



set_option maxRecDepth 100000 in
set_option maxHeartbeats 4000000 in
theorem idsParts_room (s : ByteArray) (m : UInt8) (a b : ByteArray) (w : World) (hs : s.size ≤ maxLen) (ha : a.size ≤ maxLen) (hb : b.size ≤ maxLen) {la lb : List UInt8} (hl : bs s = I.glue 33 la lb) (h1 : I.localB la = true) (h2 : I.serverB lb = true) :
    Calls Try.prog 7 #[.string s, .int .u8 m.toNat, .agg #[.string a, .string b]] w (Ret w (.bool true)) := by
  have hm := m.toNat_lt
  obtain ⟨k1, k2, k3, k4⟩ := I.of_glue33 h1 h2
  rw [← hl] at k1 k2 k3 k4
  have hsz : 0 < s.size := by rw [← size_list, show s.data.toList = bs s from rfl, hl]; simp [I.glue]
  have hszi : (0 : Int) < (s.size : Int) := by omega
  have hs0 : s[0] = 33 := by
    have h := byte_at s 0 hsz
    have h' : s.data.toList = I.glue 33 la lb := hl
    rw [← h]; simp only [h']; rfl
  have hsn : (s[0].toNat : Int) = 33 := by rw [hs0]; rfl
  have hu : ((s[0].toNat : Int) == 64) = false := by rw [hsn]; decide
  clear hsn
  have es : s = mk (I.glue 33 la lb) := by rw [← hl, mk_bs]
  have hmake := MakeV_yes (I.make_glue33 h1 h2)
  rw [← es] at hmake
  have n1 : (mk la).toList.isEmpty = false := by rw [isEmpty_list]; rw [show (mk la).data.toList = bs (mk la) from rfl, bs_mk]; simpa using I.localB_ne h1
  have n2 : (mk lb).toList.isEmpty = false := by rw [isEmpty_list]; rw [show (mk lb).data.toList = bs (mk lb) from rfl, bs_mk]; simpa using I.serverB_ne h2
  have z1 : (mk la).size ≤ 32 := by rw [mk_size]; exact (I.validB_len h1).2
  have z2 : (mk lb).size ≤ 32 := by rw [mk_size]; exact (I.validB_len (I.serverB_valid h2)).2
  have z1i : ((mk la).size : Int) ≤ 32 := by omega
  have h2' : I.serverB (bs (mk lb)) = true := by rw [bs_mk]; exact h2
  have k5 : MakeV s[0] (bs (mk la)) (bs (mk lb)) = .tuple #[.string s, .int .i64 0] := by rw [bs_mk, bs_mk, hs0]; exact hmake
  generalize hxa : mk la = xa at *
  generalize hxb : mk lb = xb at *
  have k3' : mk (I.serverOf (bs s)) = xb := by rw [k3, hxb]
  have k4' : mk (I.localOf (bs s)) = xa := by rw [k4, hxa]
  clear k3 k4 hxa hxb hl h1 h2 hs0 hmake es
  have K1 := Lib.hid k1; have K2 := Lib.hid k2; have K3 := Lib.hid k3'; have K4 := Lib.hid k4'; have K5 := Lib.hid k5; have K6 := Lib.hid h2'
  clear k1 k2 k3' k4' k5 h2'
  go_enter Try.func7, Try.ntmps7
  obtain ⟨wa, hwa⟩ : ∃ wa : World, wa = w.alloc (.cells #[.string a, .string b] 35) := ⟨_, rfl⟩
  have hba : Below w.heap.size w wa := by rw [hwa]; exact below_alloc (Below.refl _ _) _
  have hst : Strs wa (some ⟨w.heap.size, 0, none⟩) 2 [a, b] := by rw [hwa]; exact Strs.new _ _ _ _ _ rfl rfl
  go_wp2_with fail
  rw [← hwa]
  clear hwa

  refine (user_lit s wa _ K1.out hs).mono ?_
  rintro e w1 ⟨rfl, b1⟩
  simp only [I.errOf]
  go_wp2_with fail
  refine (room_lit s w1 _ K2.out hs).mono ?_
  rintro e w2 ⟨rfl, b2⟩
  have c2 := below_then b1 b2; clear b1 b2
  simp only [I.errOf]
  go_wp2_with fail
  refine (serverOf_lit s w2 _ K3.out hs).mono ?_
  rintro e w3 ⟨rfl, b3⟩
  have c3 := below_then c2 b3; clear c2 b3
  go_wp2_with fail
  refine (localOf_lit s w3 _ K4.out hs).mono ?_
  rintro e w4 ⟨rfl, b4⟩
  have c4 := below_then c3 b4; clear c3 b4
  have cs : ∀ w1 : World, Below wa.heap.size wa w1 → Calls Try.prog 22 #[.string s] w1 fun e w' => e = .returned (.string xb) ∧ Below wa.heap.size wa w' := fun w1 h => (serverOf_lit s w1 _ K3.out hs).mono fun e w' ⟨h1, h2⟩ => ⟨h1, below_then h h2⟩
  have cl : ∀ w1 : World, Below wa.heap.size wa w1 → Calls Try.prog 24 #[.string s] w1 fun e w' => e = .returned (.string xa) ∧ Below wa.heap.size wa w' := fun w1 h => (localOf_lit s w1 _ K4.out hs).mono fun e w' ⟨h1, h2⟩ => ⟨h1, below_then h h2⟩
  have cm : ∀ w1 : World, Below wa.heap.size wa w1 → Calls Try.prog 26 #[.int .u8 (s[0].toNat : Int), .string xa, .string xb] w1 fun e w' => e = .returned (.tuple #[.string s, .int .i64 0]) ∧ Below wa.heap.size wa w' := fun w1 h => (make_lit s[0] xa xb w1 _ K5.out (by unfold maxLen; omega) (by unfold maxLen; omega)).mono fun e w' ⟨h1, h2⟩ => ⟨h1, below_then h h2⟩
  have CS := Lib.hid cs; have CL := Lib.hid cl; have CM := Lib.hid cm; clear cs cl cm
  go_upto_region 5 with fail
  go_cut [9, 10] (fun s9 s10 wx => s9 = .string s ∧ s10 = .int .i64 0 ∧ Below wa.heap.size wa wx)
  case first =>
    go_region_held3 (fun w' => Below wa.heap.size wa w') (first | assumption | exact Below.drew (by assumption))
      (first
      | (go_at_call 24; refine (CL.out _ (by assumption)).mono ?_; rintro e wx ⟨rfl, bx⟩)
      | (go_at_call 22; refine (CS.out _ (by assumption)).mono ?_; rintro e wx ⟨rfl, bx⟩)
      | (go_at_call 26; refine (CM.out _ (by assumption)).mono ?_; rintro e wx ⟨rfl, bx⟩)
      )
    all_goals (go_wp2_with fail; go_meet; exact ⟨rfl, rfl, by assumption⟩)
  case rest =>
    obtain ⟨rfl, rfl, c5⟩ := hcut
    go_wp2_with fail
    refine (serverOf_lit s _ _ K3.out hs).mono ?_
    rintro e w6 ⟨rfl, b6⟩
    have c6 : Below wa.heap.size wa w6 := below_then c5 b6
    clear c5 b6
    go_wp2_with fail
    refine (server_lit xb _ _ K6.out (by unfold maxLen; omega)).mono ?_
    rintro e w7 ⟨rfl, b7⟩
    have c7 : Below wa.heap.size wa w7 := below_then c6 b7
    clear c6 b7
    simp only [I.errOf]
    go_wp2_with fail
    refine (localOf_lit s _ _ K4.out hs).mono ?_
    rintro e w8 ⟨rfl, b8⟩
    have c8 : Below wa.heap.size wa w8 := below_then c7 b8
    clear c7 b8
    obtain ⟨p1, p2⟩ := pair_cells (hst.on c8)
    go_wp2_with fail
    refine (make_any m a b _ ha hb).mono ?_
    rintro e w5 ⟨rfl, b5⟩
    have c5 := below_then c8 b5; clear c8 b5 p1 p2
    obtain ⟨p1, p2⟩ := pair_cells (hst.on c5)
    cases hmk : I.makeB m (bs a) (bs b)
    · rw [MakeV_no hmk]
      clear hmk
      go_wp2_with fail
      refine (iawake_any w5).mono ?_
      rintro e w6 ⟨rfl, b6⟩
      have c6 := below_then c5 b6; clear c5 b6
      go_wp2_with fail
      go_ret
      exact ⟨rfl, below_then hba c6⟩
    · obtain ⟨hm1, hm2, hm3⟩ := I.make_yes hmk
      rw [MakeV_yes hmk]
      clear hmk
      have c5' : Below wa.heap.size wa w5.drew := Below.drew c5
      have hzz : (mk (I.glue m (bs a) (bs b))).size ≤ maxLen := glue_size hm2 hm3
      obtain ⟨z, hz⟩ : ∃ z : ByteArray, z = mk (I.glue m (bs a) (bs b)) := ⟨_, rfl⟩
      rw [← hz] at hzz ⊢
      rcases hm1 with rfl | rfl
      · have hk := I.of_glue64 hm2 hm3
        rw [← bs_mk (I.glue 64 (bs a) (bs b)), ← hz] at hk
        clear hz hm2 hm3
        obtain ⟨k1, k2, k3, k4⟩ := hk
        have cu : ∀ w1 : World, Below wa.heap.size wa w1 → Calls Try.prog 18 #[.string z] w1 fun e w' => e = .returned (.int .i64 0) ∧ Below wa.heap.size wa w' := fun w1 h => (user_lit z w1 _ k1 hzz).mono fun e w' ⟨h1, h2⟩ => ⟨h1, below_then h h2⟩
        have cr : ∀ w1 : World, Below wa.heap.size wa w1 → Calls Try.prog 20 #[.string z] w1 fun e w' => e = .returned (.int .i64 3) ∧ Below wa.heap.size wa w' := fun w1 h => (room_lit z w1 _ k2 hzz).mono fun e w' ⟨h1, h2⟩ => ⟨h1, below_then h h2⟩
        have cs : ∀ w1 : World, Below wa.heap.size wa w1 → Calls Try.prog 22 #[.string z] w1 fun e w' => e = .returned (.string b) ∧ Below wa.heap.size wa w' := fun w1 h => (serverOf_lit z w1 _ (by rw [k3, mk_bs]) hzz).mono fun e w' ⟨h1, h2⟩ => ⟨h1, below_then h h2⟩
        have cl : ∀ w1 : World, Below wa.heap.size wa w1 → Calls Try.prog 24 #[.string z] w1 fun e w' => e = .returned (.string a) ∧ Below wa.heap.size wa w' := fun w1 h => (localOf_lit z w1 _ (by rw [k4, mk_bs]) hzz).mono fun e w' ⟨h1, h2⟩ => ⟨h1, below_then h h2⟩
        have ca : ∀ w1 : World, Below wa.heap.size wa w1 → Calls Try.prog 17 #[] w1 fun e w' => e = .returned (.bool true) ∧ Below wa.heap.size wa w' := fun w1 h => (iawake_any w1).mono fun e w' ⟨h1, h2⟩ => ⟨h1, below_then h h2⟩
        clear k1 k2 k3 k4 hzz
        have CU := Lib.hid cu; have CR := Lib.hid cr; have CS := Lib.hid cs; have CL := Lib.hid cl; have CA := Lib.hid ca
        clear cu cr cs cl ca
        go_wp2_with fail
        go_region_held3 (fun w' => Below wa.heap.size wa w' ∧ w'.cell? ⟨w.heap.size, 0, none⟩ = some (.string a) ∧ w'.cell? ⟨w.heap.size, 1, none⟩ = some (.string b)) (first | (exact ⟨by assumption, by assumption, by assumption⟩) | (exact ⟨Below.drew (by assumption), by simpa using (by assumption), by simpa using (by assumption)⟩))
          (first
          | (go_at_call 24; refine (CL.out _ (by assumption)).mono ?_; rintro e wx ⟨rfl, bx⟩; obtain ⟨q1, q2⟩ := pair_cells (hst.on bx))
          | (go_at_call 22; refine (CS.out _ (by assumption)).mono ?_; rintro e wx ⟨rfl, bx⟩; obtain ⟨q1, q2⟩ := pair_cells (hst.on bx))
          | (go_at_call 18; refine (CU.out _ (by assumption)).mono ?_; rintro e wx ⟨rfl, bx⟩; obtain ⟨q1, q2⟩ := pair_cells (hst.on bx))
          | (go_at_call 20; refine (CR.out _ (by assumption)).mono ?_; rintro e wx ⟨rfl, bx⟩; obtain ⟨q1, q2⟩ := pair_cells (hst.on bx))
          | (go_at_call 17; refine (CA.out _ (by assumption)).mono ?_; rintro e wx ⟨rfl, bx⟩; obtain ⟨q1, q2⟩ := pair_cells (hst.on bx)))
        all_goals go_wp2_with fail
        all_goals go_ret
        all_goals exact ⟨rfl, below_then hba (by assumption)⟩
      · have hk := I.of_glue33 hm2 hm3
        rw [← bs_mk (I.glue 33 (bs a) (bs b)), ← hz] at hk
        clear hz hm2 hm3
        obtain ⟨k1, k2, k3, k4⟩ := hk
        have cu : ∀ w1 : World, Below wa.heap.size wa w1 → Calls Try.prog 18 #[.string z] w1 fun e w' => e = .returned (.int .i64 3) ∧ Below wa.heap.size wa w' := fun w1 h => (user_lit z w1 _ k1 hzz).mono fun e w' ⟨h1, h2⟩ => ⟨h1, below_then h h2⟩
        have cr : ∀ w1 : World, Below wa.heap.size wa w1 → Calls Try.prog 20 #[.string z] w1 fun e w' => e = .returned (.int .i64 0) ∧ Below wa.heap.size wa w' := fun w1 h => (room_lit z w1 _ k2 hzz).mono fun e w' ⟨h1, h2⟩ => ⟨h1, below_then h h2⟩
        have cs : ∀ w1 : World, Below wa.heap.size wa w1 → Calls Try.prog 22 #[.string z] w1 fun e w' => e = .returned (.string b) ∧ Below wa.heap.size wa w' := fun w1 h => (serverOf_lit z w1 _ (by rw [k3, mk_bs]) hzz).mono fun e w' ⟨h1, h2⟩ => ⟨h1, below_then h h2⟩
        have cl : ∀ w1 : World, Below wa.heap.size wa w1 → Calls Try.prog 24 #[.string z] w1 fun e w' => e = .returned (.string a) ∧ Below wa.heap.size wa w' := fun w1 h => (localOf_lit z w1 _ (by rw [k4, mk_bs]) hzz).mono fun e w' ⟨h1, h2⟩ => ⟨h1, below_then h h2⟩
        have ca : ∀ w1 : World, Below wa.heap.size wa w1 → Calls Try.prog 17 #[] w1 fun e w' => e = .returned (.bool true) ∧ Below wa.heap.size wa w' := fun w1 h => (iawake_any w1).mono fun e w' ⟨h1, h2⟩ => ⟨h1, below_then h h2⟩
        clear k1 k2 k3 k4 hzz
        have CU := Lib.hid cu; have CR := Lib.hid cr; have CS := Lib.hid cs; have CL := Lib.hid cl; have CA := Lib.hid ca
        clear cu cr cs cl ca
        go_wp2_with fail
        go_region_held3 (fun w' => Below wa.heap.size wa w' ∧ w'.cell? ⟨w.heap.size, 0, none⟩ = some (.string a) ∧ w'.cell? ⟨w.heap.size, 1, none⟩ = some (.string b)) (first | (exact ⟨by assumption, by assumption, by assumption⟩) | (exact ⟨Below.drew (by assumption), by simpa using (by assumption), by simpa using (by assumption)⟩))
          (first
          | (go_at_call 24; refine (CL.out _ (by assumption)).mono ?_; rintro e wx ⟨rfl, bx⟩; obtain ⟨q1, q2⟩ := pair_cells (hst.on bx))
          | (go_at_call 22; refine (CS.out _ (by assumption)).mono ?_; rintro e wx ⟨rfl, bx⟩; obtain ⟨q1, q2⟩ := pair_cells (hst.on bx))
          | (go_at_call 18; refine (CU.out _ (by assumption)).mono ?_; rintro e wx ⟨rfl, bx⟩; obtain ⟨q1, q2⟩ := pair_cells (hst.on bx))
          | (go_at_call 20; refine (CR.out _ (by assumption)).mono ?_; rintro e wx ⟨rfl, bx⟩; obtain ⟨q1, q2⟩ := pair_cells (hst.on bx))
          | (go_at_call 17; refine (CA.out _ (by assumption)).mono ?_; rintro e wx ⟨rfl, bx⟩; obtain ⟨q1, q2⟩ := pair_cells (hst.on bx)))
        all_goals go_wp2_with fail
        all_goals go_ret
        all_goals exact ⟨rfl, below_then hba (by assumption)⟩
end Go.Proofs.Ytlfdafelceipfaa
