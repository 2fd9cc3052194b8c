/-
  The walk through the examples of chapter 3 (live), and through the law GlobChecks.
-/
import Derived.Test.YtjlgaicdognknaaGlobF
namespace Go.Proofs.Ytjlgaicdognknaa
open Go.RowKit

theorem match_lit (p s : ByteArray) (w : World) (b : Bool) (h : G.mt (bs p) (bs s) = b) (hp : p.size ≤ 1000000) (hs : s.size ≤ 1000000) :
    Calls Try.prog 21 #[.string p, .string s] w (Ret w (.bool b)) := h ▸ match_any p s w hp hs
theorem check_lit (p : ByteArray) (w : World) (b : Int) (h : G.chk (bs p) = b) (hp : p.size ≤ 1000000) :
    Calls Try.prog 14 #[.string p] w (Ret w (.int .i64 b)) := h ▸ check_any p w (by unfold maxLen; omega)
theorem plain_lit (p : ByteArray) (w : World) (b : Bool) (h : G.plain (bs p) = b) (hp : p.size ≤ 1000000) :
    Calls Try.prog 16 #[.string p] w (Ret w (.bool b)) := h ▸ plain_any p w (by unfold maxLen; omega)
theorem least_lit (p : ByteArray) (w : World) (b : Nat) (h : G.least (bs p) = b) (hp : p.size ≤ 1000000) :
    Calls Try.prog 18 #[.string p] w (Ret w (.int .i64 b)) := h ▸ least_any p w (by unfold maxLen; omega)

set_option maxHeartbeats 1000000 in
theorem glive_any (w : World) : Calls Try.prog 20 #[] w (Ret w (.bool true)) := by
  go_enter Try.func20, Try.ntmps20
  go_wp2_with fail
  refine (match_lit _ _ _ true (by decide) (by decide) (by decide)).mono ?_
  rintro e w1 ⟨rfl, b1⟩
  go_wp2_with fail
  refine (match_lit _ _ _ false (by decide) (by decide) (by decide)).mono ?_
  rintro e w2 ⟨rfl, b2⟩
  have c2 := below_then b1 b2; clear b1 b2
  go_wp2_with fail
  refine (match_lit _ _ _ false (by decide) (by decide) (by decide)).mono ?_
  rintro e w3 ⟨rfl, b3⟩
  have c3 := below_then c2 b3; clear c2 b3
  go_wp2_with fail
  refine (match_lit _ _ _ true (by decide) (by decide) (by decide)).mono ?_
  rintro e w4 ⟨rfl, b4⟩
  have c4 := below_then c3 b4; clear c3 b4
  go_wp2_with fail
  refine (first_any _ _ _ [⟨#[98, 42]⟩, ⟨#[42, 99]⟩] _ _ (Strs.new _ _ _ _ _ rfl rfl) (by decide) (by decide) (by unfold Short; decide)).mono ?_
  rw [show firstI [⟨#[98, 42]⟩, ⟨#[42, 99]⟩] ⟨#[97, 98, 99]⟩ = 1 from by decide]
  rintro e w5 ⟨rfl, b5⟩
  have c5 := below_then (below_alloc c4 _) b5; clear c4 b5
  go_wp2_with fail
  refine (any_any _ _ _ [⟨#[42]⟩] _ _ (Strs.new _ _ _ _ _ rfl rfl) (by decide) (by decide) (by unfold Short; decide)).mono ?_
  rw [show anyI [⟨#[42]⟩] ⟨#[]⟩ = true from by decide]
  rintro e w6 ⟨rfl, b6⟩
  have c6 := below_then (below_alloc c5 _) b6; clear c5 b6
  go_wp2_with fail
  refine (check_lit _ _ 3 (by decide) (by decide)).mono ?_
  rintro e w7 ⟨rfl, b7⟩
  have c7 := below_then c6 b7; clear c6 b7
  go_wp2_with fail
  refine (check_lit _ _ 9 (by decide) (by decide)).mono ?_
  rintro e w8 ⟨rfl, b8⟩
  have c8 := below_then c7 b8; clear c7 b8
  go_wp2_with fail
  refine (least_lit _ _ 2 (by decide) (by decide)).mono ?_
  rintro e w9 ⟨rfl, b9⟩
  have c9 := below_then c8 b9; clear c8 b9
  go_wp2_with fail
  refine (plain_lit _ _ false (by decide) (by decide)).mono ?_
  rintro e w10 ⟨rfl, b10⟩
  have c10 := below_then c9 b10; clear c9 b10
  go_wp2_with fail
  refine (plain_lit _ _ true (by decide) (by decide)).mono ?_
  rintro e w11 ⟨rfl, b11⟩
  have c11 := below_then c10 b11; clear c10 b11
  go_wp2_with fail
  go_ret
  exact ⟨rfl, c11⟩

set_option maxHeartbeats 1000000 in
theorem globChecks_any (s : ByteArray) (w : World) (hs : s.size ≤ maxLen) : Calls Try.prog 3 #[.string s] w (Ret w (.bool true)) := by
  by_cases hl : 2000 < s.size
  · have hl' : (2000 : Int) < s.size := by omega
    unfold maxLen at hs
    go_enter Try.func3, Try.ntmps3
    go_wp2_with fail
    go_ret
    exact ⟨rfl, Below.refl _ _⟩
  have hl : s.size ≤ 2000 := by omega
  go_enter Try.func3, Try.ntmps3
  go_wp2_with fail
  refine (check_any s w hs).mono ?_
  rintro e w1 ⟨rfl, b1⟩
  go_wp2_with fail
  refine (rcheck_any s _ hs).mono ?_
  rintro e w2 ⟨rfl, b2⟩
  have c2 := below_then b1 b2; clear b1 b2
  go_wp2_with fail
  refine (plain_any s _ hs).mono ?_
  rintro e w3 ⟨rfl, b3⟩
  have c3 := below_then c2 b3; clear c2 b3
  go_wp2_with fail
  refine (rplain_any s _ hs).mono ?_
  rintro e w4 ⟨rfl, b4⟩
  have c4 := below_then c3 b4; clear c3 b4
  go_wp2_with fail
  refine (least_any s _ hs).mono ?_
  rintro e w5 ⟨rfl, b5⟩
  have c5 := below_then c4 b5; clear c4 b5
  go_wp2_with fail
  refine (rleast_any s _ hs).mono ?_
  rintro e w6 ⟨rfl, b6⟩
  have c6 := below_then c5 b6; clear c5 b6
  go_wp2_with fail
  refine (glive_any _).mono ?_
  rintro e w7 ⟨rfl, b7⟩
  have c7 := below_then c6 b7; clear c6 b7
  go_wp2_with fail
  go_ret
  exact ⟨rfl, c7⟩
end Go.Proofs.Ytjlgaicdognknaa
