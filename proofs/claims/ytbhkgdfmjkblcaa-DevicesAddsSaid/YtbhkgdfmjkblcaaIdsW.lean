/-
  The walks through package ids: letters, local parts, server names. What is not changed: the world is as it was.
-/
import Derived.Test.YtbhkgdfmjkblcaaProg
import Derived.Test.YtbhkgdfmjkblcaaBase
import Derived.Test.YtbhkgdfmjkblcaaIdsP
namespace Go.Proofs.Ytbhkgdfmjkblcaa
open Go.RowKit

/-- a callee that only computes -/
def Same (w : World) (v : Value) (e : Ending) (w' : World) : Prop := e = .returned v ∧ w = w'

theorem letterB_eq (c : UInt8) : I.letterB c = ((decide ((97 : Int) ≤ c.toNat) && decide ((c.toNat : Int) ≤ 122)) || (decide ((48 : Int) ≤ c.toNat) && decide ((c.toNat : Int) ≤ 57))) := by
  unfold I.letterB
  congr 1 <;> congr 1 <;> (rw [decide_eq_decide]; omega)

set_option maxHeartbeats 400000 in
theorem letter_any (c : UInt8) (w : World) : Calls Try.prog 109 #[.int .u8 c.toNat] w (Same w (.bool (I.letterB c))) := by
  have hb := c.toNat_lt
  rw [letterB_eq]
  by_cases h1 : (97 : Int) ≤ c.toNat <;> by_cases h2 : (c.toNat : Int) ≤ 122 <;> by_cases h3 : (48 : Int) ≤ c.toNat <;> by_cases h4 : (c.toNat : Int) ≤ 57
  all_goals first
    | (exfalso; omega)
    | (simp only [h1, h2, h3, h4, decide_true, decide_false, Bool.and_true, Bool.and_false, Bool.or_true, Bool.or_false]
       go_enter Try.func109, Try.ntmps109
       go_wp2
       go_ret
       exact ⟨rfl, rfl⟩)

set_option maxHeartbeats 400000 in
theorem rletter_any (c : UInt8) (w : World) : Calls Try.prog 97 #[.int .u8 c.toNat] w (Same w (.bool (I.letterB c))) := by
  have hb := c.toNat_lt
  rw [letterB_eq]
  by_cases h1 : (97 : Int) ≤ c.toNat <;> by_cases h2 : (c.toNat : Int) ≤ 122 <;> by_cases h3 : (48 : Int) ≤ c.toNat <;> by_cases h4 : (c.toNat : Int) ≤ 57
  all_goals first
    | (exfalso; omega)
    | (simp only [h1, h2, h3, h4, decide_true, decide_false, Bool.and_true, Bool.and_false, Bool.or_true, Bool.or_false]
       go_enter Try.func97, Try.ntmps97
       go_wp2
       go_ret
       exact ⟨rfl, rfl⟩)

set_option maxHeartbeats 400000 in
theorem local1_any (c : UInt8) (w : World) : Calls Try.prog 107 #[.int .u8 c.toNat] w (Same w (.bool (I.locX c))) := by
  by_cases h95 : (c.toNat : Int) = 95
  · have e95 := eqT h95
    have hx : I.locX c = true := by rw [u8_is 95 h95]; rfl
    go_enter Try.func107, Try.ntmps107
    go_wp2
    go_ret
    exact ⟨ret_bool hx.symm, rfl⟩
  have e95 := eqF h95
  by_cases h46 : (c.toNat : Int) = 46
  · have e46 := eqT h46
    have hx : I.locX c = true := by rw [u8_is 46 h46]; rfl
    go_enter Try.func107, Try.ntmps107
    go_wp2
    go_ret
    exact ⟨ret_bool hx.symm, rfl⟩
  have e46 := eqF h46
  by_cases h45 : (c.toNat : Int) = 45
  · have e45 := eqT h45
    have hx : I.locX c = true := by rw [u8_is 45 h45]; rfl
    go_enter Try.func107, Try.ntmps107
    go_wp2
    go_ret
    exact ⟨ret_bool hx.symm, rfl⟩
  have e45 := eqF h45
  by_cases h61 : (c.toNat : Int) = 61
  · have e61 := eqT h61
    have hx : I.locX c = true := by rw [u8_is 61 h61]; rfl
    go_enter Try.func107, Try.ntmps107
    go_wp2
    go_ret
    exact ⟨ret_bool hx.symm, rfl⟩
  have e61 := eqF h61
  have hx : I.locX c = false := by simp [I.locX, u8_isnt 95 h95, u8_isnt 46 h46, u8_isnt 45 h45, u8_isnt 61 h61]
  go_enter Try.func107, Try.ntmps107
  go_wp2
  go_ret
  exact ⟨ret_bool hx.symm, rfl⟩

set_option maxHeartbeats 400000 in
theorem server1_any (c : UInt8) (w : World) : Calls Try.prog 108 #[.int .u8 c.toNat] w (Same w (.bool (I.srvX c))) := by
  by_cases h46 : (c.toNat : Int) = 46
  · have e46 := eqT h46
    have hx : I.srvX c = true := by rw [u8_is 46 h46]; rfl
    go_enter Try.func108, Try.ntmps108
    go_wp2
    go_ret
    exact ⟨ret_bool hx.symm, rfl⟩
  have e46 := eqF h46
  by_cases h45 : (c.toNat : Int) = 45
  · have e45 := eqT h45
    have hx : I.srvX c = true := by rw [u8_is 45 h45]; rfl
    go_enter Try.func108, Try.ntmps108
    go_wp2
    go_ret
    exact ⟨ret_bool hx.symm, rfl⟩
  have e45 := eqF h45
  have hx : I.srvX c = false := by simp [I.srvX, u8_isnt 46 h46, u8_isnt 45 h45]
  go_enter Try.func108, Try.ntmps108
  go_wp2
  go_ret
  exact ⟨ret_bool hx.symm, rfl⟩

def LocTo (s : ByteArray) (k : Nat) : Prop := ((bs s).take k).all I.locC = true
theorem LocTo.step {s : ByteArray} {k : Nat} (h : LocTo s k) (hk : k < s.size) (hc : I.locC s[k] = true) : LocTo s (k + 1) := by
  unfold LocTo at *; rw [take_succ s k hk]; simp only [List.all_append, h, List.all_cons, hc, List.all_nil, Bool.and_self]
theorem LocTo.zero (s : ByteArray) : LocTo s 0 := rfl
theorem LocTo.yes {s : ByteArray} (h : LocTo s s.size) (h1 : ¬ s.size < 1) (h2 : ¬ 32 < s.size) : I.validB I.locC (bs s) = true := by
  unfold LocTo at h; rw [take_all] at h
  simp only [I.validB, size_list, h, Bool.and_true, Bool.and_eq_true, decide_eq_true_eq]; omega
theorem LocTo.no {s : ByteArray} {k : Nat} (hk : k < s.size) (hc : I.locC s[k] = false) : I.validB I.locC (bs s) = false := by
  rw [Bool.eq_false_iff]; intro h
  have := I.validB_all h s[k] (mem_at s k hk)
  rw [hc] at this; cases this
theorem LocTo.len {s : ByteArray} (h : s.size < 1 ∨ 32 < s.size) : I.validB I.locC (bs s) = false := by
  rw [Bool.eq_false_iff]; intro hv
  have := I.validB_len hv
  rw [size_list] at this; omega

set_option maxHeartbeats 400000 in
theorem valid_local (s : ByteArray) (w : World) (hs : s.size ≤ maxLen) :
    Calls Try.prog 106 #[.string s, .func (.func 107) #[] #[]] w (Same w (.bool (I.validB I.locC (bs s)))) := by
  unfold maxLen at hs
  by_cases h1 : s.size < 1
  · have HV := Lib.hid (LocTo.len (.inl h1))
    have h1' : (s.size : Int) < 1 := by omega
    go_enter Try.func106, Try.ntmps106
    go_wp2_with fail
    go_ret
    exact ⟨ret_bool HV.out.symm, rfl⟩
  have h1' : ¬ (s.size : Int) < 1 := by omega
  by_cases h2 : 32 < s.size
  · have HV := Lib.hid (LocTo.len (.inr h2))
    have h2' : (32 : Int) < s.size := by omega
    go_enter Try.func106, Try.ntmps106
    go_wp2_with fail
    go_ret
    exact ⟨ret_bool HV.out.symm, rfl⟩
  have h2' : ¬ (32 : Int) < s.size := by omega
  have d1 : decide ((s.size : Int) < 1) = false := by simpa using h1'
  have d2 : decide ((32 : Int) < (s.size : Int)) = false := by simpa using h2'
  go_enter Try.func106, Try.ntmps106
  go_wp2_with fail
  go_loop [16] (fun i => ∃ k : Nat, k ≤ s.size ∧ i = .int .i64 k ∧ LocTo s k) (fun i => s.size - (intOf i).toNat)
  case atStart => exact ⟨0, by omega, rfl, LocTo.zero s⟩
  case round =>
    obtain ⟨k, hk, rfl, hb⟩ := hrel
    by_cases hlt : k < s.size
    · go_wp2_with fail
      refine (letter_any s[k] w).mono ?_
      rintro e w1 ⟨rfl, rfl⟩
      cases hl : I.letterB s[k]
      · have HL := Lib.hid hl; clear hl
        go_wp2_with fail
        refine (local1_any s[k] w).mono ?_
        rintro e w1 ⟨rfl, rfl⟩
        cases hx : I.locX s[k]
        · have HX := Lib.hid hx; clear hx
          go_wp2_with fail
          go_ret
          exact ⟨ret_bool (LocTo.no hlt (by unfold I.locC; rw [HL.out, HX.out]; rfl)).symm, rfl⟩
        · have HX := Lib.hid hx; clear hx
          go_wp2_with fail
          exact ⟨⟨k + 1, hlt, by go_num, hb.step hlt (by unfold I.locC; rw [HL.out, HX.out]; rfl)⟩, by simp [intOf]; omega⟩
      · have HL := Lib.hid hl; clear hl
        go_wp2_with fail
        exact ⟨⟨k + 1, hlt, by go_num, hb.step hlt (by unfold I.locC; rw [HL.out]; rfl)⟩, by simp [intOf]; omega⟩
    · have hv : k = s.size → I.validB I.locC (bs s) = true := fun e => by subst e; exact hb.yes h1 h2
      have hv := hv (by omega)
      have HV := Lib.hid hv; clear hv hb
      go_wp2_with fail
      go_ret
      exact ⟨ret_bool HV.out.symm, rfl⟩

def SrvTo (s : ByteArray) (k : Nat) : Prop := ((bs s).take k).all I.srvC = true
theorem SrvTo.step {s : ByteArray} {k : Nat} (h : SrvTo s k) (hk : k < s.size) (hc : I.srvC s[k] = true) : SrvTo s (k + 1) := by
  unfold SrvTo at *; rw [take_succ s k hk]; simp only [List.all_append, h, List.all_cons, hc, List.all_nil, Bool.and_self]
theorem SrvTo.zero (s : ByteArray) : SrvTo s 0 := rfl
theorem SrvTo.yes {s : ByteArray} (h : SrvTo s s.size) (h1 : ¬ s.size < 1) (h2 : ¬ 32 < s.size) : I.validB I.srvC (bs s) = true := by
  unfold SrvTo at h; rw [take_all] at h
  simp only [I.validB, size_list, h, Bool.and_true, Bool.and_eq_true, decide_eq_true_eq]; omega
theorem SrvTo.no {s : ByteArray} {k : Nat} (hk : k < s.size) (hc : I.srvC s[k] = false) : I.validB I.srvC (bs s) = false := by
  rw [Bool.eq_false_iff]; intro h
  have := I.validB_all h s[k] (mem_at s k hk)
  rw [hc] at this; cases this
theorem SrvTo.len {s : ByteArray} (h : s.size < 1 ∨ 32 < s.size) : I.validB I.srvC (bs s) = false := by
  rw [Bool.eq_false_iff]; intro hv
  have := I.validB_len hv
  rw [size_list] at this; omega

set_option maxHeartbeats 400000 in
theorem valid_server (s : ByteArray) (w : World) (hs : s.size ≤ maxLen) :
    Calls Try.prog 106 #[.string s, .func (.func 108) #[] #[]] w (Same w (.bool (I.validB I.srvC (bs s)))) := by
  unfold maxLen at hs
  by_cases h1 : s.size < 1
  · have HV := Lib.hid (SrvTo.len (.inl h1))
    have h1' : (s.size : Int) < 1 := by omega
    go_enter Try.func106, Try.ntmps106
    go_wp2_with fail
    go_ret
    exact ⟨ret_bool HV.out.symm, rfl⟩
  have h1' : ¬ (s.size : Int) < 1 := by omega
  by_cases h2 : 32 < s.size
  · have HV := Lib.hid (SrvTo.len (.inr h2))
    have h2' : (32 : Int) < s.size := by omega
    go_enter Try.func106, Try.ntmps106
    go_wp2_with fail
    go_ret
    exact ⟨ret_bool HV.out.symm, rfl⟩
  have h2' : ¬ (32 : Int) < s.size := by omega
  have d1 : decide ((s.size : Int) < 1) = false := by simpa using h1'
  have d2 : decide ((32 : Int) < (s.size : Int)) = false := by simpa using h2'
  go_enter Try.func106, Try.ntmps106
  go_wp2_with fail
  go_loop [16] (fun i => ∃ k : Nat, k ≤ s.size ∧ i = .int .i64 k ∧ SrvTo s k) (fun i => s.size - (intOf i).toNat)
  case atStart => exact ⟨0, by omega, rfl, SrvTo.zero s⟩
  case round =>
    obtain ⟨k, hk, rfl, hb⟩ := hrel
    by_cases hlt : k < s.size
    · go_wp2_with fail
      refine (letter_any s[k] w).mono ?_
      rintro e w1 ⟨rfl, rfl⟩
      cases hl : I.letterB s[k]
      · have HL := Lib.hid hl; clear hl
        go_wp2_with fail
        refine (server1_any s[k] w).mono ?_
        rintro e w1 ⟨rfl, rfl⟩
        cases hx : I.srvX s[k]
        · have HX := Lib.hid hx; clear hx
          go_wp2_with fail
          go_ret
          exact ⟨ret_bool (SrvTo.no hlt (by unfold I.srvC; rw [HL.out, HX.out]; rfl)).symm, rfl⟩
        · have HX := Lib.hid hx; clear hx
          go_wp2_with fail
          exact ⟨⟨k + 1, hlt, by go_num, hb.step hlt (by unfold I.srvC; rw [HL.out, HX.out]; rfl)⟩, by simp [intOf]; omega⟩
      · have HL := Lib.hid hl; clear hl
        go_wp2_with fail
        exact ⟨⟨k + 1, hlt, by go_num, hb.step hlt (by unfold I.srvC; rw [HL.out]; rfl)⟩, by simp [intOf]; omega⟩
    · have hv : k = s.size → I.validB I.srvC (bs s) = true := fun e => by subst e; exact hb.yes h1 h2
      have hv := hv (by omega)
      have HV := Lib.hid hv; clear hv hb
      go_wp2_with fail
      go_ret
      exact ⟨ret_bool HV.out.symm, rfl⟩
end Go.Proofs.Ytbhkgdfmjkblcaa
