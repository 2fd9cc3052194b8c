/-
  The laws MembersOf, MembersServers and MembersMoves.
-/
import Derived.Test.YtlfdafelceipfaaMemR
import Derived.Test.YtlfdafelceipfaaGreat
namespace Go.Proofs.Ytlfdafelceipfaa
open Go.RowKit

set_option maxRecDepth 100000 in
set_option maxHeartbeats 2000000 in
theorem membersOf_any (x : Sl Ev) (u : ByteArray) (m : Int) (w : World) (hx : Rd.ev.Holds w x.A x.n x.l ∧ x.n ≤ maxLen) (_hu : u.size ≤ maxLen) :
    Calls Try.prog 9 #[x.val, .string u, .int .i64 m] w (Ret w (.bool true)) := by
  obtain ⟨A, n, c, l⟩ := x
  obtain ⟨hr, hn⟩ := hx
  simp only [Sl.val] at hr hn ⊢
  have HL := Lib.hid hr.length
  go_enter Try.func9, Try.ntmps9
  go_wp2_with fail
  refine (rgreat8_any A n c l w hr hn).mono ?_
  rintro e w1 ⟨g1, rfl, hg1, b1⟩
  cases g1
  · have hn20 : n ≤ 20 := hg1 rfl
    have hlen : (Mb.withL l m).length ≤ maxLen := by have := Mb.with_length l m; have := HL.out; unfold maxLen; omega
    have h1 := hr.on b1
    clear hg1 hn
    generalize hv : Mb.of l (bs u) = v
    have HV := Lib.hid hv; clear hv
    go_wp2_with fail
    refine (mof_any A n c l u w1 h1 (by omega)).mono ?_
    rintro e w2 ⟨rfl, rfl⟩
    rw [HV.out]
    go_wp2_with fail
    refine (rmof_any A n c l u w1 h1 (by omega)).mono ?_
    rintro e w2 ⟨rfl, rfl⟩
    rw [HV.out]
    go_wp2_with fail
    refine (mwith_any A n c l m w1 h1 (by omega)).mono ?_
    rintro e w3 ⟨v3, rfl, b3, hown3⟩
    obtain ⟨A3, c3, rfl, hS3⟩ := hown3.form
    clear hown3
    go_wp2_with fail
    refine (rmwith_any A n c l m w3 (h1.on b3) (by omega)).mono ?_
    rintro e w4 ⟨v4, rfl, b4, A4, c4, rfl, hc4, hS4⟩
    go_wp2_with fail
    refine ((sameTexts_any _ _ _ _ _ _ _ _ _ (hS3.on b4) hS4 hlen).mono fun _ _ => TxQ.ret).mono ?_
    rintro e w5 ⟨rfl, b5⟩
    rw [decide_eq_true rfl]
    have b6 := below_then b1 (below_then b3 (below_then b4 b5))
    clear b3 b4 b5 hS3 hS4
    go_wp2_with fail
    refine (mlive_any _).mono ?_
    rintro e w6 ⟨rfl, b7⟩
    go_wp2_with fail
    go_ret
    exact ⟨rfl, below_then b6 b7⟩
  · clear hg1
    go_wp2_with fail
    go_ret
    exact ⟨rfl, b1⟩

set_option maxRecDepth 100000 in
set_option maxHeartbeats 2000000 in
theorem membersServers_any (x : Sl Ev) (w : World) (hx : Rd.ev.Holds w x.A x.n x.l ∧ x.n ≤ maxLen) :
    Calls Try.prog 10 #[x.val] w (Ret w (.bool true)) := by
  obtain ⟨A, n, c, l⟩ := x
  obtain ⟨hr, hn⟩ := hx
  simp only [Sl.val] at hr hn ⊢
  have HL := Lib.hid hr.length
  go_enter Try.func10, Try.ntmps10
  go_wp2_with fail
  refine (rgreat8_any A n c l w hr hn).mono ?_
  rintro e w1 ⟨g1, rfl, hg1, b1⟩
  cases g1
  · have hn20 : n ≤ 20 := hg1 rfl
    have hlen : (Mb.serversL l).length ≤ maxLen := by
      have h1 := Mb.with_length l 3
      have h2 : (Mb.serversL l).length ≤ (Mb.withL l 3).length := Nat.le_trans (Nm.names_length _) (Mb.srvs_length _ _)
      have := HL.out; unfold maxLen; omega
    have h1 := hr.on b1
    clear hg1 hn
    go_wp2_with fail
    refine (mservers_any A n c l w1 h1 (by omega)).mono ?_
    rintro e w3 ⟨v3, rfl, b3, hown3⟩
    obtain ⟨A3, c3, rfl, hS3⟩ := hown3.form
    clear hown3
    go_wp2_with fail
    refine (rmservers_any A n c l w3 (h1.on b3) (by omega)).mono ?_
    rintro e w4 ⟨v4, rfl, b4, A4, c4, rfl, hc4, hS4⟩
    go_wp2_with fail
    refine ((sameTexts_any _ _ _ _ _ _ _ _ _ (hS3.on b4) hS4 hlen).mono fun _ _ => TxQ.ret).mono ?_
    rintro e w5 ⟨rfl, b5⟩
    rw [decide_eq_true rfl]
    have b6 := below_then b1 (below_then b3 (below_then b4 b5))
    clear b3 b4 b5 hS3 hS4
    go_wp2_with fail
    refine (mlive_any _).mono ?_
    rintro e w6 ⟨rfl, b7⟩
    go_wp2_with fail
    go_ret
    exact ⟨rfl, below_then b6 b7⟩
  · clear hg1
    go_wp2_with fail
    go_ret
    exact ⟨rfl, b1⟩

set_option maxRecDepth 100000 in
set_option maxHeartbeats 2000000 in
theorem membersMoves_any (f t : Int) (b : Bool) (w : World) : Calls Try.prog 11 #[.int .i64 f, .int .i64 t, .bool b] w (Ret w (.bool true)) := by
  go_enter Try.func11, Try.ntmps11
  go_wp2_with fail
  refine (move_any f t b w).mono ?_
  rintro e w1 ⟨rfl, b1⟩
  generalize hv : moveB f t b = v
  have HV := Lib.hid hv; clear hv
  go_wp2_with fail
  refine (rmove_any f t b w1).mono ?_
  rintro e w2 ⟨rfl, rfl⟩
  rw [HV.out]
  go_wp2_with fail
  refine (mlive_any _).mono ?_
  rintro e w3 ⟨rfl, b3⟩
  go_wp2_with fail
  go_ret
  exact ⟨rfl, below_then b1 b3⟩
end Go.Proofs.Ytlfdafelceipfaa
