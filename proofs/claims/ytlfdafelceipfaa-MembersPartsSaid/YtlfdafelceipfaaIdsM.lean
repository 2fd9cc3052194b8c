/-
  The walks through ids.Make and the reference's Make.
-/
import Derived.Test.YtlfdafelceipfaaIdsQ
import Derived.Laws.BytesArg
namespace Go.Proofs.Ytlfdafelceipfaa
open Go.RowKit

def MakeV (m : UInt8) (a b : List UInt8) : Value := .tuple #[.string (mk (I.make m a b)), .int .i64 (I.errOf (I.makeB m a b))]
theorem MakeV_yes {m : UInt8} {a b : List UInt8} (h : I.makeB m a b = true) : MakeV m a b = .tuple #[.string (mk (I.glue m a b)), .int .i64 0] := by unfold MakeV I.make; rw [h]; rfl
theorem MakeV_no {m : UInt8} {a b : List UInt8} (h : I.makeB m a b = false) : MakeV m a b = .tuple #[.string ⟨#[]⟩, .int .i64 3] := by unfold MakeV I.make; rw [h]; rfl
/-- string([]byte{m}) -/
theorem conv_one (m : UInt8) (W : World) : (convert 72 9 (.slice (some ⟨W.heap.size, 0, none⟩) 1 1)).run Try.prog (W.alloc (.cells #[.int .u8 (m.toNat : Int)] 5)) =
    .ok (.string (mk [m])) (W.alloc (.cells #[.int .u8 (m.toNat : Int)] 5)) := by
  have h := run_convert_bytes_arg (P := Try.prog) (W.alloc (.cells #[.int .u8 (m.toNat : Int)] 5)) 72 5 Try.underlying72 Try.underlying5 W.heap.size 0 1 1 [(m.toNat : Int)] rfl (fun i hi => by
    obtain rfl : i = 0 := by omega
    rw [Nat.add_zero, World.cell?_alloc_new]; rfl) 9 Try.underlying9
  rw [h]
  simp [strOfNums, mk]
theorem mk_append (a b : List UInt8) : mk a ++ mk b = mk (a ++ b) := by
  apply bs_inj
  rw [bs_mk]
  simp [bs, mk]
theorem glue_str (m : UInt8) (a b : ByteArray) : mk [m] ++ a ++ mk [58] ++ b = mk (I.glue m (bs a) (bs b)) := by
  conv => lhs; rw [← mk_bs a, ← mk_bs b]
  rw [mk_append, mk_append, mk_append]
  simp [I.glue]

set_option maxRecDepth 100000 in
set_option maxHeartbeats 1000000 in
theorem make_any (m : UInt8) (a b : ByteArray) (w : World) (ha : a.size ≤ maxLen) (hb : b.size ≤ maxLen) :
    Calls Try.prog 26 #[.int .u8 m.toNat, .string a, .string b] w (Ret w (MakeV m (bs a) (bs b))) := by
  have hm := m.toNat_lt
  by_cases h64 : (m.toNat : Int) = 64
  · have e1 := neF h64
    have HM := Lib.hid (u8_is (c := m) 64 h64)
    clear h64
    go_enter Try.func26, Try.ntmps26
    go_wp2_with fail
    refine (local_any a w ha).mono ?_
    rintro e w1 ⟨rfl, rfl⟩
    cases hl : I.localB (bs a)
    · have HN := Lib.hid (MakeV_no (m := m) (a := bs a) (b := bs b) (by unfold I.makeB; rw [hl, Bool.and_false, Bool.false_and]))
      clear hl
      go_wp2_with fail
      go_ret2
      exact ⟨by rw [HN.out]; rfl, Below.refl _ _⟩
    · have hza := (I.validB_len hl)
      have HL := Lib.hid hl; clear hl
      go_wp2_with fail
      refine (server_any b w hb).mono ?_
      rintro e w1 ⟨rfl, rfl⟩
      cases hv : I.serverB (bs b)
      · have HN := Lib.hid (MakeV_no (m := m) (a := bs a) (b := bs b) (by unfold I.makeB; rw [hv, Bool.and_false]))
        clear hv
        go_wp2_with fail
        go_ret2
        exact ⟨by rw [HN.out]; rfl, Below.refl _ _⟩
      · have hzb := (I.validB_len (I.serverB_valid hv))
        have HY := Lib.hid (MakeV_yes (m := m) (a := bs a) (b := bs b) (by unfold I.makeB; rw [hv, HL.out, HM.out]; rfl))
        clear hv
        rw [size_list] at hza hzb
        have hz1 : (mk [m]).size = 1 := rfl
        have hcv := conv_one m
        go_wp2_with fail
        go_ret2
        exact ⟨by rw [HY.out, ← glue_str]; rfl, below_alloc (Below.refl _ _) _⟩
  have e1 := neT h64
  by_cases h33 : (m.toNat : Int) = 33
  · have e2 := neF h33
    clear h64
    have HM := Lib.hid (u8_is (c := m) 33 h33)
    clear h33
    go_enter Try.func26, Try.ntmps26
    go_wp2_with fail
    refine (local_any a w ha).mono ?_
    rintro e w1 ⟨rfl, rfl⟩
    cases hl : I.localB (bs a)
    · have HN := Lib.hid (MakeV_no (m := m) (a := bs a) (b := bs b) (by unfold I.makeB; rw [hl, Bool.and_false, Bool.false_and]))
      clear hl
      go_wp2_with fail
      go_ret2
      exact ⟨by rw [HN.out]; rfl, Below.refl _ _⟩
    · have hza := (I.validB_len hl)
      have HL := Lib.hid hl; clear hl
      go_wp2_with fail
      refine (server_any b w hb).mono ?_
      rintro e w1 ⟨rfl, rfl⟩
      cases hv : I.serverB (bs b)
      · have HN := Lib.hid (MakeV_no (m := m) (a := bs a) (b := bs b) (by unfold I.makeB; rw [hv, Bool.and_false]))
        clear hv
        go_wp2_with fail
        go_ret2
        exact ⟨by rw [HN.out]; rfl, Below.refl _ _⟩
      · have hzb := (I.validB_len (I.serverB_valid hv))
        have HY := Lib.hid (MakeV_yes (m := m) (a := bs a) (b := bs b) (by unfold I.makeB; rw [hv, HL.out, HM.out]; rfl))
        clear hv
        rw [size_list] at hza hzb
        have hz1 : (mk [m]).size = 1 := rfl
        have hcv := conv_one m
        go_wp2_with fail
        go_ret2
        exact ⟨by rw [HY.out, ← glue_str]; rfl, below_alloc (Below.refl _ _) _⟩
  have e2 := neT h33
  have HN := Lib.hid (MakeV_no (m := m) (a := bs a) (b := bs b) (by unfold I.makeB; simp [u8_isnt 64 h64, u8_isnt 33 h33]))
  go_enter Try.func26, Try.ntmps26
  go_wp2_with fail
  go_ret2
  exact ⟨by rw [HN.out]; rfl, Below.refl _ _⟩

set_option maxRecDepth 100000 in
set_option maxHeartbeats 1000000 in
theorem rmake_any (m : UInt8) (a b : ByteArray) (w : World) (ha : a.size ≤ 1000000000000000) (hb : b.size ≤ 1000000000000000) :
    Calls Try.prog 27 #[.int .u8 m.toNat, .string a, .string b] w (Ret w (MakeV m (bs a) (bs b))) := by
  have hm := m.toNat_lt
  have hz1 : (mk [m]).size = 1 := rfl
  have hcv := conv_one m
  have HG := Lib.hid (glue_str m a b)
  have hzg : (mk (I.glue m (bs a) (bs b))).size ≤ maxLen := by
    rw [size_mk]; simp only [I.glue, List.length_cons, List.length_append, size_list]; unfold maxLen; omega
  have hs := @marked_any (mk (I.glue m (bs a) (bs b)))
  rw [bs_mk] at hs
  have HMK := Lib.hid hs; clear hs
  cases hu : (I.ident 64 (I.glue m (bs a) (bs b))).isSome
  · cases hr : (I.ident 33 (I.glue m (bs a) (bs b))).isSome
    · have HN := Lib.hid (MakeV_no (m := m) (a := bs a) (b := bs b) (by
        rw [I.made_ident] at hu hr
        unfold I.makeB
        cases h1 : m == 64 <;> cases h2 : m == 33 <;> rw [h1] at hu <;> rw [h2] at hr <;> simp_all))
      have HU := Lib.hid hu; clear hu
      have HR := Lib.hid hr; clear hr
      go_enter Try.func27, Try.ntmps27
      go_wp2_with fail
      rw [show mk [m] ++ a ++ ⟨#[58]⟩ ++ b = _ from HG.out]
      refine (HMK.out 64 _ hzg (by decide)).mono ?_
      rintro e w1 ⟨rfl, rfl⟩
      rw [HU.out]
      go_wp2_with fail
      refine (HMK.out 33 _ hzg (by decide)).mono ?_
      rintro e w1 ⟨rfl, rfl⟩
      rw [HR.out]
      go_wp2_with fail
      go_ret2
      exact ⟨by rw [HN.out]; rfl, below_alloc (Below.refl _ _) _⟩
    · have HY := Lib.hid (MakeV_yes (m := m) (a := bs a) (b := bs b) (by
        rw [I.made_ident] at hr
        unfold I.makeB
        simp only [Bool.and_eq_true] at hr ⊢
        exact ⟨⟨by simp [hr.1.1], hr.1.2⟩, hr.2⟩))
      have HU := Lib.hid hu; clear hu
      have HR := Lib.hid hr; clear hr
      go_enter Try.func27, Try.ntmps27
      go_wp2_with fail
      rw [show mk [m] ++ a ++ ⟨#[58]⟩ ++ b = _ from HG.out]
      refine (HMK.out 64 _ hzg (by decide)).mono ?_
      rintro e w1 ⟨rfl, rfl⟩
      rw [HU.out]
      go_wp2_with fail
      refine (HMK.out 33 _ hzg (by decide)).mono ?_
      rintro e w1 ⟨rfl, rfl⟩
      rw [HR.out]
      go_wp2_with fail
      go_ret2
      exact ⟨by rw [HY.out]; rfl, below_alloc (Below.refl _ _) _⟩
  · have HY := Lib.hid (MakeV_yes (m := m) (a := bs a) (b := bs b) (by
      rw [I.made_ident] at hu
      unfold I.makeB
      simp only [Bool.and_eq_true] at hu ⊢
      exact ⟨⟨by simp [hu.1.1], hu.1.2⟩, hu.2⟩))
    have HU := Lib.hid hu; clear hu
    go_enter Try.func27, Try.ntmps27
    go_wp2_with fail
    rw [show mk [m] ++ a ++ ⟨#[58]⟩ ++ b = _ from HG.out]
    refine (HMK.out 64 _ hzg (by decide)).mono ?_
    rintro e w1 ⟨rfl, rfl⟩
    rw [HU.out]
    go_wp2_with fail
    go_ret2
    exact ⟨by rw [HY.out]; rfl, below_alloc (Below.refl _ _) _⟩
end Go.Proofs.Ytlfdafelceipfaa
