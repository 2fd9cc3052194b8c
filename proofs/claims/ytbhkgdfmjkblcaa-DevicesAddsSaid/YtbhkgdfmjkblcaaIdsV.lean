/-
  The walks through package ids: split, the four questions, Make.
-/
import Derived.Test.YtbhkgdfmjkblcaaIdsW
import Derived.Test.YtbhkgdfmjkblcaaShelf
import Derived.Lib.IndexLaws
namespace Go.Proofs.Ytbhkgdfmjkblcaa
open Go.RowKit

def mk (l : List UInt8) : ByteArray := ⟨l.toArray⟩
theorem bs_mk (l : List UInt8) : bs (mk l) = l := by simp [mk]
theorem mk_bs (s : ByteArray) : mk (bs s) = s := by simp [mk]
theorem mk_inj {a b : List UInt8} (h : mk a = mk b) : a = b := by rw [← bs_mk a, h, bs_mk]
theorem size_mk (l : List UInt8) : (mk l).size = l.length := by rw [← size_list]; exact congrArg List.length (bs_mk l)

theorem serverB_eq (s : ByteArray) (h : 0 < s.size) : I.serverB (bs s) = (I.validB I.srvC (bs s) && I.letterB s[0] && I.letterB (s[s.size - 1]'(by omega))) := by
  have hl : bs s ≠ [] := fun e => by rw [← size_zero] at e; omega
  unfold I.serverB
  rw [List.head?_eq_getElem?, List.getLast?_eq_getElem?, size_list]
  have e0 : (bs s)[0]? = some s[0] := by rw [List.getElem?_eq_getElem (by rw [size_list]; exact h), byte_at s 0 h]
  have e1 : (bs s)[s.size - 1]? = some (s[s.size - 1]'(by omega)) := by rw [List.getElem?_eq_getElem (by rw [size_list]; omega), byte_at s _ (by omega)]
  rw [e0, e1]; rfl

set_option maxHeartbeats 400000 in
theorem local_any (s : ByteArray) (w : World) (hs : s.size ≤ maxLen) : Calls Try.prog 95 #[.string s] w (Same w (.bool (I.localB (bs s)))) := by
  go_enter Try.func95, Try.ntmps95
  go_wp2_with fail
  refine (valid_local s w hs).mono ?_
  rintro e w1 ⟨rfl, rfl⟩
  go_wp2_with fail
  go_ret
  exact ⟨rfl, rfl⟩

set_option maxHeartbeats 400000 in
theorem server_any (s : ByteArray) (w : World) (hs : s.size ≤ maxLen) : Calls Try.prog 96 #[.string s] w (Same w (.bool (I.serverB (bs s)))) := by
  cases hv : I.validB I.srvC (bs s)
  · have HS : Hid (I.serverB (bs s) = false) := by show _ = _; unfold I.serverB; rw [hv]; rfl
    have HV := Lib.hid hv; clear hv
    go_enter Try.func96, Try.ntmps96
    go_wp2_with fail
    refine (valid_server s w hs).mono ?_
    rintro e w1 ⟨rfl, rfl⟩
    rw [HV.out]
    go_wp2_with fail
    go_ret
    exact ⟨ret_bool HS.out.symm, rfl⟩
  · have hl := I.validB_len hv
    rw [size_list] at hl
    have h0 : 0 < s.size := by omega
    have h1 : 1 ≤ s.size := by omega
    have hi : (s.size : Int) - 1 < s.size := by omega
    have hz : s.size - 1 < s.size := by omega
    have HS := Lib.hid (serverB_eq s h0)
    have HV := Lib.hid hv; clear hv
    unfold maxLen at hs
    go_enter Try.func96, Try.ntmps96
    go_wp2_with fail
    refine (valid_server s w (by unfold maxLen; omega)).mono ?_
    rintro e w1 ⟨rfl, rfl⟩
    rw [HV.out]
    go_wp2_with fail
    refine (letter_any s[0] w).mono ?_
    rintro e w1 ⟨rfl, rfl⟩
    cases h2 : I.letterB s[0]
    · have H2 := Lib.hid h2; clear h2
      go_wp2_with fail
      go_ret
      exact ⟨ret_bool (by rw [HS.out, HV.out, H2.out]; rfl), rfl⟩
    · have H2 := Lib.hid h2; clear h2
      go_wp2_with fail
      refine (letter_any s[s.size - 1] w).mono ?_
      rintro e w1 ⟨rfl, rfl⟩
      go_wp2_with fail
      go_ret
      exact ⟨ret_bool (by rw [HS.out, HV.out, H2.out]; rfl), rfl⟩

/-! ### strings.Cut at a colon -/
theorem indexByte_colon (l : List UInt8) : Lib.indexByte l 58 = if I.colonAt l < l.length then (I.colonAt l : Int) else -1 := by
  have hg := Lib.indexByte_ge l 58
  rcases Int.lt_or_le (Lib.indexByte l 58) 0 with h | h
  · have hn : Lib.indexByte l 58 = -1 := by omega
    have := Lib.indexByte_none hn
    rw [hn, if_neg]
    rw [I.colonAt_none]; · omega
    rintro c hc rfl
    obtain ⟨j, hj, e⟩ := List.mem_iff_getElem.1 hc
    exact this j (by rw [List.getElem?_eq_getElem hj, e])
  · obtain ⟨o, ho⟩ := Int.eq_ofNat_of_zero_le h
    obtain ⟨h1, h2⟩ := Lib.indexByte_some ho
    obtain ⟨hl, he⟩ := List.getElem?_eq_some_iff.1 h1
    have hk : I.colonAt l = o := I.colonAt_is hl he (fun j hj e => h2 j hj (by rw [List.getElem?_eq_getElem (by omega), e]))
    rw [ho, hk, if_pos hl]
def CutS (s : ByteArray) : Value := if I.colonAt (bs s) < s.size then .tuple #[.string (s.extract 0 (I.colonAt (bs s))), .string (s.extract (I.colonAt (bs s) + 1) s.size), .bool true] else .tuple #[.string s, .string ⟨#[]⟩, .bool false]
/-- what it leaves: only the tape's place has moved -/
def Quiet (w : World) (v : Value) (e : Ending) (w' : World) : Prop := e = .returned v ∧ ∃ n, w' = w.drewN n

set_option maxHeartbeats 400000 in
theorem lcut_any (s : ByteArray) (w : World) (hs : s.size ≤ maxLen) : Calls Try.prog 105 #[.string s, .string ⟨#[58]⟩] w (Quiet w (CutS s)) := by
  unfold maxLen at hs
  have hi := indexByte_colon (bs s)
  rw [size_list] at hi
  by_cases hk : I.colonAt (bs s) < s.size
  · have HC : Hid (CutS s = .tuple #[.string (s.extract 0 (I.colonAt (bs s))), .string (s.extract (I.colonAt (bs s) + 1) s.size), .bool true]) := by show _ = _; unfold CutS; rw [if_pos hk]
    rw [if_pos hk] at hi
    have HI := Lib.hid hi; clear hi
    generalize I.colonAt (bs s) = k at *
    go_enter Try.func105, Try.ntmps105
    go_wp2_with fail
    refine (Try.stringslite_Index_one s 58 w).mono ?_
    rintro e w1 ⟨rfl, rfl⟩
    rw [HI.out]
    have h0 : (0 : Int) ≤ k := by omega
    have h1 : (k : Int) ≤ s.size := by omega
    have h2 : (k : Int) + 1 ≤ s.size := by omega
    have h3 : (0 : Int) ≤ (k : Int) + 1 := by omega
    have h4 : IntKind.i64.wrap ((k : Int) + 1) = (k : Int) + 1 := IntWalk.i64_in _ (by omega)
    go_wp2_with fail
    go_quiet (fail)
    go_wp2_with fail
    go_ret3
    exact ⟨by rw [HC.out]; rfl, nq, rfl⟩
  · have HC : Hid (CutS s = .tuple #[.string s, .string ⟨#[]⟩, .bool false]) := by show _ = _; unfold CutS; rw [if_neg hk]
    rw [if_neg hk] at hi
    have HI := Lib.hid hi; clear hi
    go_enter Try.func105, Try.ntmps105
    go_wp2_with fail
    refine (Try.stringslite_Index_one s 58 w).mono ?_
    rintro e w1 ⟨rfl, rfl⟩
    rw [HI.out]
    go_wp2_with fail
    go_ret3
    exact ⟨by rw [HC.out]; rfl, 0, rfl⟩
set_option maxHeartbeats 400000 in
theorem cut_any (s : ByteArray) (w : World) (hs : s.size ≤ maxLen) : Calls Try.prog 94 #[.string s, .string ⟨#[58]⟩] w (Quiet w (CutS s)) := by
  by_cases hk : I.colonAt (bs s) < s.size
  · have HC : Hid (CutS s = .tuple #[.string (s.extract 0 (I.colonAt (bs s))), .string (s.extract (I.colonAt (bs s) + 1) s.size), .bool true]) := by show _ = _; unfold CutS; rw [if_pos hk]
    clear hk
    go_enter Try.func94, Try.ntmps94
    go_wp2_with fail
    refine (lcut_any s w hs).mono ?_
    rintro e w1 ⟨rfl, n, rfl⟩
    rw [HC.out]
    go_wp2_with fail
    go_ret3
    exact ⟨by rw [HC.out]; rfl, n, rfl⟩
  · have HC : Hid (CutS s = .tuple #[.string s, .string ⟨#[]⟩, .bool false]) := by show _ = _; unfold CutS; rw [if_neg hk]
    clear hk
    go_enter Try.func94, Try.ntmps94
    go_wp2_with fail
    refine (lcut_any s w hs).mono ?_
    rintro e w1 ⟨rfl, n, rfl⟩
    rw [HC.out]
    go_wp2_with fail
    go_ret3
    exact ⟨by rw [HC.out]; rfl, n, rfl⟩
end Go.Proofs.Ytbhkgdfmjkblcaa
