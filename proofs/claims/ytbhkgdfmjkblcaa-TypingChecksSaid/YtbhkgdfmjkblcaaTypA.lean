/-
  The walk through the law TypingChecks.
-/
import Derived.Test.YtbhkgdfmjkblcaaTypL
namespace Go.Proofs.Ytbhkgdfmjkblcaa
open Go.RowKit

set_option maxRecDepth 100000 in
set_option maxHeartbeats 2000000 in
theorem typingChecks_any (x : Sl Typ) (w : World) (hx : (Typs w x.A x.n x.l ∧ x.n ≤ x.c) ∧ x.n ≤ maxLen) :
    Calls Try.prog 3 #[x.val] w (Ret w (.bool true)) := by
  obtain ⟨A, n, c, l⟩ := x
  obtain ⟨⟨hr, hc⟩, hn⟩ := hx
  change Calls _ _ #[.slice A n c] _ _
  replace hr : Typs w A n l := hr
  replace hn : n ≤ maxLen := hn
  have c1 := tcheck_any A n c l w hr hn
  have c2 := fun w1 (b : Below w.heap.size w w1) => rtcheck_any A n c l w1 (hr.on b) hn
  have c0 := tgreat_any A n c l w hr hn
  generalize T.chk none l = err at c1 c2
  clear hr hn hc
  go_enter Try.func3, Try.ntmps3
  go_wp2_with fail
  refine c0.mono ?_
  rintro e w1 ⟨g, rfl, hg, rfl⟩
  cases g
  · clear hg
    go_wp2_with fail
    refine c1.mono ?_
    rintro e w1 ⟨rfl, b1⟩
    go_wp2_with fail
    refine (c2 _ b1).mono ?_
    rintro e w2 ⟨rfl, b2⟩
    have d2 := below_then b1 b2
    clear b1 b2 c1 c2
    go_wp2_with fail
    refine (tlive_any w2).mono ?_
    rintro e w3 ⟨rfl, b3⟩
    go_wp2_with fail
    go_ret
    exact ⟨rfl, below_then d2 b3⟩
  · go_wp2_with fail
    go_ret
    exact ⟨rfl, Below.refl _ _⟩
end Go.Proofs.Ytbhkgdfmjkblcaa
