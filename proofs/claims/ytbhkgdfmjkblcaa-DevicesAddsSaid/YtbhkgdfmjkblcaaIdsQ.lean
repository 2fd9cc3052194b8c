/-
  The walks through the reference's marked, User, Room, ServerOf, LocalOf.
-/
import Derived.Test.YtbhkgdfmjkblcaaIdsR
namespace Go.Proofs.Ytbhkgdfmjkblcaa
open Go.RowKit

theorem colonAt_cons {m : UInt8} (hm : m ≠ 58) (t : List UInt8) : I.colonAt (m :: t) = I.colonAt t + 1 := by
  have : (m == 58) = false := by simpa using hm
  simp only [I.colonAt, List.findIdx_cons, this, cond_false]
/-- the parts of an identifier, cut out of the whole -/
theorem ident_cut {s : ByteArray} {m : UInt8} (h0 : 0 < s.size) (hm : s[0] = m) (h58 : m ≠ 58) (hk : I.colonAt (bs s) < s.size) :
    1 ≤ I.colonAt (bs s) ∧ I.ident m (bs s) = if (I.localB (bs (s.extract 1 (I.colonAt (bs s)))) && I.serverB (bs (s.extract (I.colonAt (bs s) + 1) s.size))) = true then
      some (bs (s.extract 1 (I.colonAt (bs s))), bs (s.extract (I.colonAt (bs s) + 1) s.size)) else none := by
  have hc := bs_cons s h0
  have hz : (bs (s.extract 1 s.size)).length = s.size - 1 := by rw [bs_tail, List.length_tail, size_list]
  have hd : ∀ k, (bs s).drop (k + 1) = (bs (s.extract 1 s.size)).drop k := fun k => by rw [bs_tail, List.drop_tail]
  have hk' : I.colonAt (bs s) = I.colonAt (bs (s.extract 1 s.size)) + 1 := by rw [hc, hm, colonAt_cons h58]
  have e1 : bs (s.extract 1 (I.colonAt (bs s))) = (bs (s.extract 1 s.size)).take (I.colonAt (bs (s.extract 1 s.size))) := by
    rw [bs_extract, hk', hd 0, List.drop_zero, Nat.add_sub_cancel]
  have e2 : bs (s.extract (I.colonAt (bs s) + 1) s.size) = (bs (s.extract 1 s.size)).drop (I.colonAt (bs (s.extract 1 s.size)) + 1) := by
    rw [bs_extract, hd, hk', List.take_of_length_le]
    rw [List.length_drop, hz]; omega
  rw [e1, e2]
  have hi : I.ident m (bs s) = I.parts (bs (s.extract 1 s.size)) := by rw [hc, hm]; simp [I.ident]
  rw [hi]
  refine ⟨by omega, ?_⟩
  unfold I.parts
  rw [hz, decide_eq_true (by omega), Bool.true_and]
theorem ident_nocolon {s : ByteArray} {m : UInt8} (h0 : 0 < s.size) (hm : s[0] = m) (h58 : m ≠ 58) (hk : ¬ I.colonAt (bs s) < s.size) : I.ident m (bs s) = none := by
  have hc := bs_cons s h0
  have hz : (bs (s.extract 1 s.size)).length = s.size - 1 := by rw [bs_tail, List.length_tail, size_list]
  have hk' : I.colonAt (bs s) = I.colonAt (bs (s.extract 1 s.size)) + 1 := by rw [hc, hm, colonAt_cons h58]
  rw [hc, hm]
  simp only [I.ident, if_true]
  unfold I.parts
  rw [hz, decide_eq_false (by omega)]; rfl

set_option maxHeartbeats 1000000 in
theorem marked_any (s : ByteArray) (m : UInt8) (w : World) (hs : s.size ≤ maxLen) (h58 : m ≠ 58) : Calls Try.prog 75 #[.string s, .int .u8 m.toNat] w (Same w (.bool (I.ident m (bs s)).isSome)) := by
  unfold maxLen at hs
  by_cases h0 : s.size < 1
  · have HN : Hid ((I.ident m (bs s)).isSome = false) := by show _ = _; rw [size_zero.1 (by omega : s.size = 0)]; rfl
    have h0' : (s.size : Int) < 1 := by omega
    go_enter Try.func75, Try.ntmps75
    go_wp2_with fail
    go_ret
    exact ⟨by rw [HN.out]; rfl, rfl⟩
  have h0' : ¬ (s.size : Int) < 1 := by omega
  have d0 : decide ((s.size : Int) < 1) = false := decide_eq_false h0'
  have h1 : 0 < s.size := by omega
  have h1' : 1 ≤ s.size := by omega
  by_cases hm : (s[0].toNat : Int) = (m.toNat : Int)
  · have HM := Lib.hid (u8_is m hm)
    have em := neF hm
    clear hm
    by_cases hk : I.colonAt (bs s) < s.size
    · obtain ⟨hk1, hid⟩ := ident_cut h1 HM.out h58 hk
      have HID := Lib.hid hid; clear hid
      have hk' : (I.colonAt (bs s) : Int) < s.size := by omega
      have hk2 : (1 : Int) ≤ I.colonAt (bs s) := by omega
      have hk3 : (I.colonAt (bs s) : Int) ≤ s.size := by omega
      have hk4 : (I.colonAt (bs s) : Int) + 1 ≤ s.size := by omega
      go_enter Try.func75, Try.ntmps75
      go_wp2_with fail
      refine (colon_any s w (by unfold maxLen; omega)).mono ?_
      rintro e w1 ⟨rfl, rfl⟩
      have hza : (s.extract 1 (I.colonAt (bs s))).size ≤ maxLen := by unfold maxLen; simp; omega
      have hzb : (s.extract (I.colonAt (bs s) + 1) s.size).size ≤ maxLen := by unfold maxLen; simp; omega
      generalize I.colonAt (bs s) = k at *
      go_wp2_with fail
      refine (rlocal_any _ w hza).mono ?_
      rintro e w1 ⟨rfl, rfl⟩
      cases hl : I.localB (bs (s.extract 1 k))
      · have HL := Lib.hid hl; clear hl
        go_wp2_with fail
        go_ret
        exact ⟨by rw [HID.out, HL.out]; rfl, rfl⟩
      · have HL := Lib.hid hl; clear hl
        go_wp2_with fail
        refine (rserver_any _ w hzb).mono ?_
        rintro e w1 ⟨rfl, rfl⟩
        cases hv : I.serverB (bs (s.extract (k + 1) s.size))
        · have HV := Lib.hid hv; clear hv
          simp only [I.errOf]
          go_wp2_with fail
          go_ret
          exact ⟨by rw [HID.out, HL.out, HV.out]; rfl, rfl⟩
        · have HV := Lib.hid hv; clear hv
          simp only [I.errOf]
          go_wp2_with fail
          go_ret
          exact ⟨by rw [HID.out, HL.out, HV.out]; rfl, rfl⟩
    · have HN : Hid ((I.ident m (bs s)).isSome = false) := by show _ = _; rw [ident_nocolon h1 HM.out h58 hk]; rfl
      have hk' : ¬ (I.colonAt (bs s) : Int) < s.size := by omega
      go_enter Try.func75, Try.ntmps75
      go_wp2_with fail
      refine (colon_any s w (by unfold maxLen; omega)).mono ?_
      rintro e w1 ⟨rfl, rfl⟩
      generalize I.colonAt (bs s) = k at *
      go_wp2_with fail
      go_ret
      exact ⟨by rw [HN.out]; rfl, rfl⟩
  · have HN : Hid ((I.ident m (bs s)).isSome = false) := by show _ = _; rw [bs_cons s h1]; simp only [I.ident]; rw [if_neg (u8_isnt m hm)]; rfl
    have em := neT hm
    go_enter Try.func75, Try.ntmps75
    go_wp2_with fail
    go_ret
    exact ⟨by rw [HN.out]; rfl, rfl⟩

set_option maxHeartbeats 400000 in
theorem ruser_any (s : ByteArray) (w : World) (hs : s.size ≤ maxLen) : Calls Try.prog 56 #[.string s] w (Same w (.int .i64 (I.errOf (I.userB (bs s))))) := by
  cases hv : I.userB (bs s)
  all_goals
    have HV := Lib.hid hv; clear hv
    go_enter Try.func56, Try.ntmps56
    go_wp2_with fail
    refine (marked_any s 64 w hs (by decide)).mono ?_
    rintro e w1 ⟨rfl, rfl⟩
    rw [show (I.ident 64 (bs s)).isSome = _ from HV.out]
    go_wp2_with fail
    go_ret
    exact ⟨rfl, rfl⟩

theorem both_of_user {l : List UInt8} (h : (I.ident 64 l).isSome = true) : I.both l = I.ident 64 l := by
  unfold I.both; cases hx : I.ident 64 l
  · rw [hx] at h; cases h
  · rfl
theorem both_of_other {l : List UInt8} (h : (I.ident 64 l).isSome = false) : I.both l = I.ident 33 l := by
  unfold I.both; cases hx : I.ident 64 l
  · rfl
  · rw [hx] at h; cases h
/-- what a marked text's parts are -/
theorem ident_parts {s : ByteArray} {m : UInt8} (h58 : m ≠ 58) (h : (I.ident m (bs s)).isSome = true) : 1 ≤ I.colonAt (bs s) ∧ I.colonAt (bs s) < s.size ∧
    I.ident m (bs s) = some (bs (s.extract 1 (I.colonAt (bs s))), bs (s.extract (I.colonAt (bs s) + 1) s.size)) := by
  have h0 : 0 < s.size := by
    rcases Nat.eq_zero_or_pos s.size with e | e
    · rw [size_zero.1 e] at h; cases h
    · exact e
  have hm : s[0] = m := by
    rw [bs_cons s h0] at h
    simp only [I.ident] at h
    split at h
    · assumption
    · cases h
  by_cases hk : I.colonAt (bs s) < s.size
  · obtain ⟨h1, h2⟩ := ident_cut h0 hm h58 hk
    refine ⟨h1, hk, ?_⟩
    rw [h2] at h ⊢
    split at h
    · rename_i hc; rw [if_pos hc]
    · cases h
  · rw [ident_nocolon h0 hm h58 hk] at h; cases h