/-
  The laws IdsServers, IdsParses, IdsMakes, IdsLists.
-/
import Derived.Test.YtlfdafelceipfaaIdsL
namespace Go.Proofs.Ytlfdafelceipfaa
open Go.RowKit

set_option maxHeartbeats 1000000 in
theorem idsServers_any (s : ByteArray) (w : World) (hs : s.size ≤ maxLen) : Calls Try.prog 3 #[.string s] w (Ret w (.bool true)) := by
  go_enter Try.func3, Try.ntmps3
  go_wp2_with fail
  refine (idsServer_any s w hs).mono ?_
  rintro e w1 ⟨rfl, rfl⟩
  go_wp2_with fail
  refine (rserver_any s w hs).mono ?_
  rintro e w1 ⟨rfl, rfl⟩
  go_wp2_with fail
  refine (iawake_any w).mono ?_
  rintro e w1 ⟨rfl, b1⟩
  go_wp2_with fail
  go_ret
  exact ⟨rfl, b1⟩

set_option maxHeartbeats 1000000 in
theorem idsParses_any (s : ByteArray) (w : World) (hs : s.size ≤ maxLen) : Calls Try.prog 4 #[.string s] w (Ret w (.bool true)) := by
  go_enter Try.func4, Try.ntmps4
  go_wp2_with fail
  refine (user_any s w hs).mono fun _ _ => ?_
  intro h; obtain ⟨rfl, b1⟩ := Quiet.ret h; clear h
  go_wp2_with fail
  refine (ruser_any s _ hs).mono ?_
  rintro e w2 ⟨rfl, rfl⟩
  go_wp2_with fail
  refine (room_any s _ hs).mono fun _ _ => ?_
  intro h; obtain ⟨rfl, b2⟩ := Quiet.ret h; clear h
  have c2 := below_then b1 b2; clear b1 b2
  go_wp2_with fail
  refine (rroom_any s _ hs).mono ?_
  rintro e w2 ⟨rfl, rfl⟩
  go_wp2_with fail
  refine (serverOf_any s _ hs).mono fun _ _ => ?_
  intro h; obtain ⟨rfl, b3⟩ := Quiet.ret h; clear h
  have c3 := below_then c2 b3; clear c2 b3
  go_wp2_with fail
  refine (rserverOf_any s _ hs).mono ?_
  rintro e w2 ⟨rfl, rfl⟩
  go_wp2_with fail
  refine (localOf_any s _ hs).mono fun _ _ => ?_
  intro h; obtain ⟨rfl, b4⟩ := Quiet.ret h; clear h
  have c4 := below_then c3 b4; clear c3 b4
  go_wp2_with fail
  refine (rlocalOf_any s _ hs).mono ?_
  rintro e w2 ⟨rfl, rfl⟩
  go_wp2_with fail
  refine (iawake_any _).mono ?_
  rintro e w5 ⟨rfl, b5⟩
  have c5 := below_then c4 b5; clear c4 b5
  go_wp2_with fail
  go_ret
  exact ⟨rfl, c5⟩

set_option maxHeartbeats 1000000 in
theorem idsMakes_any (m : UInt8) (a b : ByteArray) (w : World) (ha : a.size ≤ 1000000000000000) (hb : b.size ≤ 1000000000000000) :
    Calls Try.prog 5 #[.int .u8 m.toNat, .string a, .string b] w (Ret w (.bool true)) := by
  go_enter Try.func5, Try.ntmps5
  go_wp2_with fail
  refine (make_any m a b w (by unfold maxLen; omega) (by unfold maxLen; omega)).mono ?_
  rintro e w1 ⟨rfl, b1⟩
  unfold MakeV
  go_wp2_with fail
  refine (rmake_any m a b w1 ha hb).mono ?_
  rintro e w2 ⟨rfl, b2⟩
  have c2 := below_then b1 b2; clear b1 b2
  unfold MakeV
  go_wp2_with fail
  refine (iawake_any _).mono ?_
  rintro e w3 ⟨rfl, b3⟩
  have c3 := below_then c2 b3; clear c2 b3
  go_wp2_with fail
  go_ret
  exact ⟨rfl, c3⟩

set_option maxHeartbeats 1000000 in
theorem idsLists_any (A : Option Addr) (n c : Nat) (l : List ByteArray) (s : ByteArray) (w : World) (hr : Strs w A n l) (hn : n ≤ maxLen) (hx : ∀ x ∈ l, x.size ≤ maxLen) (_hs : s.size ≤ maxLen) :
    Calls Try.prog 6 #[.slice A n c, .string s] w (Ret w (.bool true)) := by
  unfold maxLen at hn
  by_cases h100 : 100 < n
  · have h100' : (100 : Int) < n := by omega
    go_enter Try.func6, Try.ntmps6
    go_wp2_with fail
    refine (iawake_any _).mono ?_
    rintro e w3 ⟨rfl, b3⟩
    go_wp2_with fail
    go_ret
    exact ⟨rfl, b3⟩
  have h100' : ¬ (100 : Int) < n := by omega
  have HL := Lib.hid hr.length
  have hzl : (Nm.names (bss l)).length ≤ 1000000 := by
    have h1 := Nm.names_length (bss l)
    have h2 : (bss l).length = l.length := by simp
    have := HL.out; omega
  go_enter Try.func6, Try.ntmps6
  go_wp2_with fail
  refine (names_any A n c l w hr (by omega) hx).mono ?_
  rintro e w1 ⟨v1, rfl, b1, hown1⟩
  obtain ⟨A1, c1, rfl, hS1⟩ := hown1.form
  go_wp2_with fail
  refine (rnames_any A n c l w1 (hr.on b1) (by omega)).mono ?_
  rintro e w2 ⟨v2, rfl, b2, hown2⟩
  obtain ⟨A2, c2', rfl, hS2⟩ := hown2.form
  have c2 := below_then b1 b2
  go_wp2_with fail
  refine (same_call _ _ _ _ _ _ _ _ _ true (by simp) (hS1.on b2) hS2 hzl).mono ?_
  rintro e w3 ⟨rfl, b3⟩
  have c3 := below_then c2 b3; clear b1 b2 b3 hown1 hown2 hS1 hS2
  go_wp2_with fail
  refine (find_any A n c l s w3 (hr.on c3) (by omega)).mono ?_
  rintro e w4 ⟨rfl, rfl⟩
  go_wp2_with fail
  refine (rfind_any A n c l s w3 (hr.on c3) (by omega)).mono ?_
  rintro e w4 ⟨rfl, rfl⟩
  go_wp2_with fail
  refine (iawake_any _).mono ?_
  rintro e w5 ⟨rfl, b5⟩
  have c5 := below_then c3 b5
  go_wp2_with fail
  go_ret
  exact ⟨rfl, c5⟩
end Go.Proofs.Ytlfdafelceipfaa
