/-
  The walks through ids.split, identifies, User, Room, Server, ServerOf, LocalOf.
-/
import Derived.Test.YtbhkgdfmjkblcaaIdsV
namespace Go.Proofs.Ytbhkgdfmjkblcaa
open Go.RowKit

/-- split, on lists: one of the marks, then the two parts -/
def spl (ms : List UInt8) : List UInt8 → Option (List UInt8 × List UInt8)
  | [] => none
  | m :: t => if m ∈ ms then I.parts t else none
theorem spl_one (m : UInt8) (l : List UInt8) : spl [m] l = I.ident m l := by
  cases l with
  | nil => rfl
  | cons x t => simp [spl, I.ident]
theorem spl_two (l : List UInt8) : spl [64, 33] l = I.both l := by
  cases l with
  | nil => rfl
  | cons x t =>
    simp only [spl, I.both, I.ident, List.mem_cons, List.not_mem_nil, or_false]
    by_cases h1 : x = 64
    · subst h1
      rw [if_pos (.inl rfl), if_pos rfl]
      cases I.parts t
      · simp
      · rfl
    · rw [if_neg h1]
      by_cases h2 : x = 33
      · rw [if_pos (.inr h2), if_pos h2]
      · rw [if_neg (by rintro (h | h) <;> contradiction), if_neg h2]
def SplV : Option (List UInt8 × List UInt8) → Value
  | some x => .tuple #[.string (mk x.1), .string (mk x.2), .bool true]
  | none => .tuple #[.string ⟨#[]⟩, .string ⟨#[]⟩, .bool false]

theorem indexByte_mem (l : List UInt8) (c : UInt8) : (Lib.indexByte l c < 0 ↔ c ∉ l) := by
  have hg := Lib.indexByte_ge l c
  constructor
  · intro h hm
    have := Lib.indexByte_none (show Lib.indexByte l c = -1 by omega)
    obtain ⟨j, hj, e⟩ := List.mem_iff_getElem.1 hm
    exact this j (by rw [List.getElem?_eq_getElem hj, e])
  · intro h
    rcases Int.lt_or_le (Lib.indexByte l c) 0 with h1 | h1
    · exact h1
    · obtain ⟨o, ho⟩ := Int.eq_ofNat_of_zero_le h1
      obtain ⟨h2, _⟩ := Lib.indexByte_some ho
      exact absurd (List.mem_of_getElem? h2) h
theorem bs_tail (s : ByteArray) : bs (s.extract 1 s.size) = (bs s).tail := by
  rw [bs_extract, ← List.drop_one, List.take_of_length_le (by rw [List.length_drop, size_list]; exact Nat.le_refl _)]
theorem bs_cons (s : ByteArray) (h : 0 < s.size) : bs s = s[0] :: bs (s.extract 1 s.size) := by
  have := drop_at s 0 h
  rw [List.drop_zero] at this
  rw [bs_tail]
  show s.data.toList = s[0] :: s.data.toList.tail
  rw [this]; rfl
theorem u8_round (c : UInt8) : ((c.toNat : Int).toNat).toUInt8 = c := by simp

set_option maxHeartbeats 1000000 in
theorem split_any (s ms : ByteArray) (w : World) (hs : s.size ≤ maxLen) : Calls Try.prog 78 #[.string s, .string ms] w (Quiet w (SplV (spl (bs ms) (bs s)))) := by
  by_cases h0 : s.size = 0
  · have HV : Hid (SplV (spl (bs ms) (bs s)) = .tuple #[.string ⟨#[]⟩, .string ⟨#[]⟩, .bool false]) := by show _ = _; rw [size_zero.1 h0]; rfl
    have he : s.toList.isEmpty = true := by rw [isEmpty_size]; simpa using h0
    go_enter Try.func78, Try.ntmps78
    go_wp2_with fail
    go_ret3
    exact ⟨by rw [HV.out]; rfl, 0, rfl⟩
  have he : s.toList.isEmpty = false := by rw [isEmpty_size]; simpa using h0
  have h1 : 0 < s.size := by omega
  have h1' : 1 ≤ s.size := by omega
  have HC := Lib.hid (bs_cons s h1)
  by_cases hm : s[0] ∈ bs ms
  · have hlt : ¬ Lib.indexByte ms.data.toList s[0] < 0 := by rw [indexByte_mem]; exact fun h => h hm
    have HP : Hid (spl (bs ms) (bs s) = I.parts (bs (s.extract 1 s.size))) := by show _ = _; rw [HC.out]; simp only [spl, if_pos hm]
    have hs1 : (s.extract 1 s.size).size = s.size - 1 := by simp
    have hs2 : (s.extract 1 s.size).size ≤ maxLen := by omega
    have HS1 := Lib.hid hs1; clear hs1 hm
    go_enter Try.func78, Try.ntmps78
    go_wp2_with fail
    refine (Try.strings_IndexByte ms s[0].toNat w).mono ?_
    rintro e w1 ⟨rfl, rfl⟩
    rw [u8_round]
    go_wp2_with fail
    generalize s.extract 1 s.size = t at *
    refine (cut_any t w1 hs2).mono ?_
    rintro e w2 ⟨rfl, n, rfl⟩
    by_cases hk : I.colonAt (bs t) < t.size
    · have HCU : Hid (CutS t = .tuple #[.string (t.extract 0 (I.colonAt (bs t))), .string (t.extract (I.colonAt (bs t) + 1) t.size), .bool true]) := by show _ = _; unfold CutS; rw [if_pos hk]
      rw [HCU.out]
      have HA : Hid (bs (t.extract 0 (I.colonAt (bs t))) = (bs t).take (I.colonAt (bs t))) := by show _ = _; rw [bs_extract]; simp
      have HB : Hid (bs (t.extract (I.colonAt (bs t) + 1) t.size) = (bs t).drop (I.colonAt (bs t) + 1)) := by
        show _ = _; rw [bs_extract, List.take_of_length_le (by rw [List.length_drop, size_list]; exact Nat.le_refl _)]
      have hza : (t.extract 0 (I.colonAt (bs t))).size ≤ maxLen := by simp; omega
      have hzb : (t.extract (I.colonAt (bs t) + 1) t.size).size ≤ maxLen := by simp; omega
      have HK := Lib.hid hk; clear hk HCU
      have HPA : Hid (I.parts (bs t) = if (I.localB (bs (t.extract 0 (I.colonAt (bs t)))) && I.serverB (bs (t.extract (I.colonAt (bs t) + 1) t.size))) = true then some (bs (t.extract 0 (I.colonAt (bs t))), bs (t.extract (I.colonAt (bs t) + 1) t.size)) else none) := by
        show _ = _; rw [HA.out, HB.out]; unfold I.parts; rw [size_list, decide_eq_true HK.out, Bool.true_and]
      clear HA HB
      generalize t.extract 0 (I.colonAt (bs t)) = a at *
      generalize t.extract (I.colonAt (bs t) + 1) t.size = b at *
      go_wp2_with fail
      refine (local_any a _ hza).mono ?_
      rintro e w2 ⟨rfl, rfl⟩
      cases hl : I.localB (bs a)
      · have HL := Lib.hid hl; clear hl
        go_wp2_with fail
        go_ret3
        exact ⟨by rw [HP.out, HPA.out, HL.out]; rfl, n, rfl⟩
      · have HL := Lib.hid hl; clear hl
        go_wp2_with fail
        refine (server_any b _ hzb).mono ?_
        rintro e w2 ⟨rfl, rfl⟩
        cases hv : I.serverB (bs b)
        · have HV := Lib.hid hv; clear hv
          go_wp2_with fail
          go_ret3
          exact ⟨by rw [HP.out, HPA.out, HL.out, HV.out]; rfl, n, rfl⟩
        · have HV := Lib.hid hv; clear hv
          go_wp2_with fail
          go_ret3
          exact ⟨by rw [HP.out, HPA.out, HL.out, HV.out]; simp only [Bool.and_self, if_true, SplV, mk_bs]; rfl, n, rfl⟩
    · have HCU : Hid (CutS t = .tuple #[.string t, .string ⟨#[]⟩, .bool false]) := by show _ = _; unfold CutS; rw [if_neg hk]
      rw [HCU.out]
      have HPA : Hid (I.parts (bs t) = none) := by show _ = _; unfold I.parts; rw [size_list, decide_eq_false hk]; rfl
      clear hk HCU
      go_wp2_with fail
      go_ret3
      exact ⟨by rw [HP.out, HPA.out]; rfl, n, rfl⟩
  · have hlt : Lib.indexByte ms.data.toList s[0] < 0 := by rw [indexByte_mem]; exact hm
    have HP : Hid (SplV (spl (bs ms) (bs s)) = .tuple #[.string ⟨#[]⟩, .string ⟨#[]⟩, .bool false]) := by show _ = _; rw [HC.out]; simp only [spl, if_neg hm]; rfl
    clear hm
    go_enter Try.func78, Try.ntmps78
    go_wp2_with fail
    refine (Try.strings_IndexByte ms s[0].toNat w).mono ?_
    rintro e w1 ⟨rfl, rfl⟩
    rw [u8_round]
    go_wp2_with fail
    go_ret3
    exact ⟨by rw [HP.out]; rfl, 0, rfl⟩
end Go.Proofs.Ytbhkgdfmjkblcaa
