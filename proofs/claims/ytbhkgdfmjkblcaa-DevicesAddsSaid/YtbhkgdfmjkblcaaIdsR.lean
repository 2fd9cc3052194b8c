/-
  The walks through the reference of identifiers: Local, Server, colon, marked, User, Room, ServerOf, LocalOf.
-/
import Derived.Test.YtbhkgdfmjkblcaaIdsT
namespace Go.Proofs.Ytbhkgdfmjkblcaa
open Go.RowKit

theorem all_not {f : UInt8 → Bool} {s : ByteArray} {k : Nat} (hk : k < s.size) (hc : f s[k] = false) : (bs s).all f = false := by
  rw [Bool.eq_false_iff]; intro h
  rw [List.all_eq_true] at h
  have := h s[k] (mem_at s k hk)
  rw [hc] at this; cases this

set_option maxHeartbeats 1000000 in
theorem rlocal_any (s : ByteArray) (w : World) (hs : s.size ≤ maxLen) : Calls Try.prog 80 #[.string s] w (Same w (.bool (I.localB (bs s)))) := by
  unfold maxLen at hs
  go_enter Try.func80, Try.ntmps80
  go_wp2_with fail
  go_loop [3] (fun i => ∃ k : Nat, k ≤ s.size ∧ i = .int .i64 k ∧ LocTo s k) (fun i => s.size - (intOf i).toNat)
  case atStart => exact ⟨0, by omega, rfl, LocTo.zero s⟩
  case round =>
    obtain ⟨k, hk, rfl, hb⟩ := hrel
    by_cases hlt : k < s.size
    · have hb' : I.locC s[k] = true → LocTo s (k + 1) := fun h => hb.step hlt h
      have HB := Lib.hid hb'; clear hb' hb
      cases hc : I.locC s[k]
      · have HN : Hid (I.localB (bs s) = false) := by
          show _ = _; unfold I.localB I.validB; rw [all_not hlt hc]; simp
        obtain ⟨hl, h1, h2, h3, h4⟩ := loc_no hc
        have e1 := neT h1; have e2 := neT h2; have e3 := neT h3; have e4 := neT h4
        have HL := Lib.hid hl; clear hl hc
        go_wp2_with fail
        refine (rletter_any s[k] w).mono ?_
        rintro e w1 ⟨rfl, rfl⟩
        rw [HL.out]
        go_wp2_with fail
        go_ret
        exact ⟨ret_bool HN.out.symm, rfl⟩
      · have hgo := HB.out hc
        have HGO := Lib.hid hgo; clear hgo HB
        have hw := loc_ways hc
        clear hc
        rcases hw with hl | ⟨hl, h1⟩ | ⟨hl, h1, h2⟩ | ⟨hl, h1, h2, h3⟩ | ⟨hl, h1, h2, h3, h4⟩
        · have HL := Lib.hid hl; clear hl
          go_wp2_with fail
          refine (rletter_any s[k] w).mono ?_
          rintro e w1 ⟨rfl, rfl⟩
          rw [HL.out]
          go_wp2_with fail
          exact ⟨⟨k + 1, hlt, by go_num, HGO.out⟩, by simp [intOf]; omega⟩
        · have e1 := neF h1; clear h1
          have HL := Lib.hid hl; clear hl
          go_wp2_with fail
          refine (rletter_any s[k] w).mono ?_
          rintro e w1 ⟨rfl, rfl⟩
          rw [HL.out]
          go_wp2_with fail
          exact ⟨⟨k + 1, hlt, by go_num, HGO.out⟩, by simp [intOf]; omega⟩
        · have e1 := neT h1; have e2 := neF h2; clear h2
          have HL := Lib.hid hl; clear hl
          go_wp2_with fail
          refine (rletter_any s[k] w).mono ?_
          rintro e w1 ⟨rfl, rfl⟩
          rw [HL.out]
          go_wp2_with fail
          exact ⟨⟨k + 1, hlt, by go_num, HGO.out⟩, by simp [intOf]; omega⟩
        · have e1 := neT h1; have e2 := neT h2; have e3 := neF h3; clear h3
          have HL := Lib.hid hl; clear hl
          go_wp2_with fail
          refine (rletter_any s[k] w).mono ?_
          rintro e w1 ⟨rfl, rfl⟩
          rw [HL.out]
          go_wp2_with fail
          exact ⟨⟨k + 1, hlt, by go_num, HGO.out⟩, by simp [intOf]; omega⟩
        · have e1 := neT h1; have e2 := neT h2; have e3 := neT h3; have e4 := neF h4; clear h4
          have HL := Lib.hid hl; clear hl
          go_wp2_with fail
          refine (rletter_any s[k] w).mono ?_
          rintro e w1 ⟨rfl, rfl⟩
          rw [HL.out]
          go_wp2_with fail
          exact ⟨⟨k + 1, hlt, by go_num, HGO.out⟩, by simp [intOf]; omega⟩
    · have hv : k = s.size → I.localB (bs s) = (decide ((1 : Int) ≤ s.size) && decide ((s.size : Int) ≤ 32)) := fun e => by
        subst e
        have h := hb; unfold LocTo at h; rw [take_all] at h
        simp only [I.localB, I.validB, size_list, h, Bool.and_true]
        congr 1 <;> (rw [decide_eq_decide]; omega)
      have HV := Lib.hid (hv (by omega)); clear hv hb
      by_cases h1 : (1 : Int) ≤ s.size
      · by_cases h2 : (s.size : Int) ≤ 32
        · have d1 : decide ((1 : Int) ≤ s.size) = true := decide_eq_true h1
          have d2 : decide ((s.size : Int) ≤ 32) = true := decide_eq_true h2
          go_wp2_with fail
          go_ret
          exact ⟨ret_bool (by rw [HV.out, d1, d2]; rfl), rfl⟩
        · have d1 : decide ((1 : Int) ≤ s.size) = true := decide_eq_true h1
          have d2 : decide ((s.size : Int) ≤ 32) = false := decide_eq_false h2
          go_wp2_with fail
          go_ret
          exact ⟨ret_bool (by rw [HV.out, d1, d2]; rfl), rfl⟩
      · have d1 : decide ((1 : Int) ≤ s.size) = false := decide_eq_false h1
        go_wp2_with fail
        go_ret
        exact ⟨ret_bool (by rw [HV.out, d1]; rfl), rfl⟩

set_option maxHeartbeats 1000000 in
theorem rserver_any (s : ByteArray) (w : World) (hs : s.size ≤ maxLen) : Calls Try.prog 81 #[.string s] w (Same w (.int .i64 (I.errOf (I.serverB (bs s))))) := by
  unfold maxLen at hs
  by_cases h1 : s.size < 1
  · have HN : Hid (I.serverB (bs s) = false) := by show _ = _; unfold I.serverB; rw [SrvTo.len (.inl h1)]; rfl
    have h1' : (s.size : Int) < 1 := by omega
    go_enter Try.func81, Try.ntmps81
    go_wp2_with fail
    go_ret
    exact ⟨by rw [HN.out]; rfl, rfl⟩
  have h1' : ¬ (s.size : Int) < 1 := by omega
  have d1 : decide ((s.size : Int) < 1) = false := decide_eq_false h1'
  by_cases h2 : 32 < s.size
  · have HN : Hid (I.serverB (bs s) = false) := by show _ = _; unfold I.serverB; rw [SrvTo.len (.inr h2)]; rfl
    have h2' : (32 : Int) < s.size := by omega
    go_enter Try.func81, Try.ntmps81
    go_wp2_with fail
    go_ret
    exact ⟨by rw [HN.out]; rfl, rfl⟩
  have h2' : ¬ (32 : Int) < s.size := by omega
  have d2 : decide ((32 : Int) < (s.size : Int)) = false := decide_eq_false h2'
  have h0 : 0 < s.size := by omega
  have h01 : 1 ≤ s.size := by omega
  have hi : (s.size : Int) - 1 < s.size := by omega
  have hz : s.size - 1 < s.size := by omega
  have HS := Lib.hid (serverB_eq s h0)
  cases hl0 : I.letterB s[0]
  · have HL0 := Lib.hid hl0; clear hl0
    go_enter Try.func81, Try.ntmps81
    go_wp2_with fail
    refine (rletter_any s[0] w).mono ?_
    rintro e w1 ⟨rfl, rfl⟩
    rw [HL0.out]
    go_wp2_with fail
    go_ret
    exact ⟨by rw [HS.out, HL0.out, Bool.and_false, Bool.false_and]; rfl, rfl⟩
  have HL0 := Lib.hid hl0; clear hl0
  cases hl1 : I.letterB s[s.size - 1]
  · have HL1 := Lib.hid hl1; clear hl1
    go_enter Try.func81, Try.ntmps81
    go_wp2_with fail
    refine (rletter_any s[0] w).mono ?_
    rintro e w1 ⟨rfl, rfl⟩
    rw [HL0.out]
    go_wp2_with fail
    refine (rletter_any s[s.size - 1] w).mono ?_
    rintro e w1 ⟨rfl, rfl⟩
    rw [HL1.out]
    go_wp2_with fail
    go_ret
    exact ⟨by rw [HS.out, HL1.out, Bool.and_false]; rfl, rfl⟩
  have HL1 := Lib.hid hl1; clear hl1
  go_enter Try.func81, Try.ntmps81
  go_wp2_with fail
  refine (rletter_any s[0] w).mono ?_
  rintro e w1 ⟨rfl, rfl⟩
  rw [HL0.out]
  go_wp2_with fail
  refine (rletter_any s[s.size - 1] w).mono ?_
  rintro e w1 ⟨rfl, rfl⟩
  rw [HL1.out]
  go_wp2_with fail
  go_loop [3] (fun i => ∃ k : Nat, k ≤ s.size ∧ i = .int .i64 k ∧ SrvTo s k) (fun i => s.size - (intOf i).toNat)
  case atStart => exact ⟨0, by omega, rfl, SrvTo.zero s⟩
  case round =>
    obtain ⟨k, hk, rfl, hb⟩ := hrel
    by_cases hlt : k < s.size
    · have hb' : I.srvC s[k] = true → SrvTo s (k + 1) := fun h => hb.step hlt h
      have HB := Lib.hid hb'; clear hb' hb
      cases hc : I.srvC s[k]
      · have HN : Hid (I.serverB (bs s) = false) := by
          show _ = _; unfold I.serverB; rw [SrvTo.no hlt hc]; rfl
        obtain ⟨hl, h1, h2⟩ := srv_no hc
        have e1 := neT h1; have e2 := neT h2
        have HL := Lib.hid hl; clear hl hc
        go_wp2_with fail
        refine (rletter_any s[k] w).mono ?_
        rintro e w1 ⟨rfl, rfl⟩
        rw [HL.out]
        go_wp2_with fail
        go_ret
        exact ⟨by rw [HN.out]; rfl, rfl⟩
      · have hgo := HB.out hc
        have HGO := Lib.hid hgo; clear hgo HB
        have hw := srv_ways hc
        clear hc
        rcases hw with hl | ⟨hl, h1⟩ | ⟨hl, h1, h2⟩
        · have HL := Lib.hid hl; clear hl
          go_wp2_with fail
          refine (rletter_any s[k] w).mono ?_
          rintro e w1 ⟨rfl, rfl⟩
          rw [HL.out]
          go_wp2_with fail
          exact ⟨⟨k + 1, hlt, by go_num, HGO.out⟩, by simp [intOf]; omega⟩
        · have e1 := neF h1; clear h1
          have HL := Lib.hid hl; clear hl
          go_wp2_with fail
          refine (rletter_any s[k] w).mono ?_
          rintro e w1 ⟨rfl, rfl⟩
          rw [HL.out]
          go_wp2_with fail
          exact ⟨⟨k + 1, hlt, by go_num, HGO.out⟩, by simp [intOf]; omega⟩
        · have e1 := neT h1; have e2 := neF h2; clear h2
          have HL := Lib.hid hl; clear hl
          go_wp2_with fail
          refine (rletter_any s[k] w).mono ?_
          rintro e w1 ⟨rfl, rfl⟩
          rw [HL.out]
          go_wp2_with fail
          exact ⟨⟨k + 1, hlt, by go_num, HGO.out⟩, by simp [intOf]; omega⟩
    · have hv : k = s.size → I.serverB (bs s) = true := fun e => by
        subst e
        rw [HS.out, HL0.out, HL1.out, hb.yes h1 h2]; rfl
      have HV := Lib.hid (hv (by omega)); clear hv hb
      go_wp2_with fail
      go_ret
      exact ⟨by rw [HV.out]; rfl, rfl⟩

def ColTo (s : ByteArray) (k : Nat) : Prop := ∀ j (h : j < s.size), j < k → s[j] ≠ 58
theorem colon_here {s : ByteArray} {k : Nat} (h : ColTo s k) (hk : k < s.size) (h1 : s[k] = 58) : I.colonAt (bs s) = k :=
  I.colonAt_is (by rw [size_list]; exact hk) (by rw [byte_at s k hk]; exact h1) (fun j hj => by rw [byte_at s j (by omega)]; exact h j (by omega) hj)
theorem colon_end {s : ByteArray} (h : ColTo s s.size) : I.colonAt (bs s) = s.size := by
  rw [I.colonAt_none, size_list]
  intro c hc
  obtain ⟨j, hj, rfl⟩ := List.mem_iff_getElem.1 hc
  rw [size_list] at hj
  rw [byte_at s j hj]; exact h j hj hj
set_option maxHeartbeats 400000 in
theorem colon_any (s : ByteArray) (w : World) (hs : s.size ≤ maxLen) : Calls Try.prog 79 #[.string s] w (Same w (.int .i64 (I.colonAt (bs s)))) := by
  unfold maxLen at hs
  go_enter Try.func79, Try.ntmps79
  go_wp2_with fail
  go_loop [3] (fun i => ∃ k : Nat, k ≤ s.size ∧ i = .int .i64 k ∧ ColTo s k) (fun i => s.size - (intOf i).toNat)
  case atStart => exact ⟨0, by omega, rfl, fun j _ h => by omega⟩
  case round =>
    obtain ⟨k, hk, rfl, hb⟩ := hrel
    by_cases hlt : k < s.size
    · by_cases h58 : (s[k].toNat : Int) = 58
      · have e58 := neF h58
        have HC := Lib.hid (colon_here hb hlt (u8_is 58 h58))
        clear hb
        go_wp2_with fail
        go_ret
        exact ⟨ret_int (by rw [HC.out]), rfl⟩
      · have e58 := neT h58
        have hn : ColTo s (k + 1) := fun j hj h => by
          rcases Nat.lt_or_ge j k with h1 | h1
          · exact hb j hj h1
          · obtain rfl : j = k := by omega
            exact u8_isnt 58 h58
        clear hb
        go_wp2_with fail
        exact ⟨⟨k + 1, hlt, by go_num, hn⟩, by simp [intOf]; omega⟩
    · have hc : k = s.size → I.colonAt (bs s) = k := fun e => by subst e; exact colon_end hb
      have HC := Lib.hid (hc (by omega)); clear hc hb
      go_wp2_with fail
      go_ret
      exact ⟨ret_int (by rw [HC.out]), rfl⟩
end Go.Proofs.Ytbhkgdfmjkblcaa
