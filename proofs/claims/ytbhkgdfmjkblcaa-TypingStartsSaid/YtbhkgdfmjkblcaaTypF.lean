/-
  The law TypingStarts.
-/
import Derived.Test.YtbhkgdfmjkblcaaTypU
import Derived.Test.YtbhkgdfmjkblcaaTypD
namespace Go.Proofs.Ytbhkgdfmjkblcaa
open Go.RowKit

theorem rstart_of {A : Option Addr} {n c : Nat} {l m : List Typ} {u : ByteArray} {now span err : Int} {w : World} (he : startErr (bs u) now span = err) (hm : startL l u now span = m)
    (hr : Typs w A n l) (hn : n ≤ 900000) (hcap : n ≤ c) (hu : u.size ≤ maxLen) :
    Calls Try.prog 20 #[.slice A n c, .string u, .int .i64 now, .int .i64 span] w fun e w' => ∃ A' c', e = .returned (.tuple #[.slice A' m.length c', .int .i64 err]) ∧ Typs w' A' m.length m ∧ m.length ≤ c' ∧ Below w.heap.size w w' := by
  subst he hm
  exact rstart_any A n c l u now span w hr hn hcap hu

set_option maxRecDepth 100000 in
set_option maxHeartbeats 2000000 in
theorem typingStarts_any (x : Sl Typ) (y : Cl) (w : World) (hx : (Typs w x.A x.n x.l ∧ x.n ≤ x.c) ∧ x.n ≤ maxLen) (hy : Rd.cl.Ok w y) :
    Calls Try.prog 4 #[x.val, .agg (Rd.cl.cells y).toArray] w (Ret w (.bool true)) := by
  obtain ⟨A, n, c, l⟩ := x
  obtain ⟨⟨hr, hc⟩, hn⟩ := hx
  obtain ⟨u, now, span⟩ := y
  change Calls _ _ #[.slice A n c, .agg #[.string u, .int .i64 now, .int .i64 span]] _ _
  replace hr : Typs w A n l := hr
  replace hn : n ≤ maxLen := hn
  replace hc : n ≤ c := hc
  have hu : u.size ≤ maxLen := hy.1
  have HL := Lib.hid (Rd.Holds.length hr)
  go_enter Try.func4, Try.ntmps4
  obtain ⟨wa, hwa⟩ : ∃ wa : World, wa = w.alloc (.cells #[.string u, .int .i64 now, .int .i64 span] 28) := ⟨_, rfl⟩
  have hba : Below w.heap.size w wa := by rw [hwa]; exact below_alloc (Below.refl _ _) _
  have hbx : CBox wa w.heap.size ⟨u, now, span⟩ := by rw [hwa]; exact Rd.Holds.new Rd.cl _ _ _ _ _ rfl rfl (by intro z hz; simp only [List.mem_singleton] at hz; subst hz; exact hy)
  replace hr := hr.on hba
  go_wp2_with fail
  rw [← hwa]
  clear hwa hy
  refine (tgreat_any A n c l wa hr hn).mono ?_
  rintro e w1 ⟨g, rfl, hg, rfl⟩
  obtain ⟨p0, p1, p2⟩ := hbx.cells
  cases g
  · have hn40 := hg rfl
    clear hg
    by_cases hlt : (200 : Int) < (u.size : Nat)
    · clear hr HL
      go_wp2_with fail
      go_ret
      exact ⟨rfl, hba⟩
    · obtain ⟨ms, hms⟩ : ∃ m, startL l u now span = m := ⟨_, rfl⟩
      obtain ⟨er, her⟩ : ∃ er, startErr (bs u) now span = er := ⟨_, rfl⟩
      have q1 : ms.length ≤ 41 := startL_len hms HL.out hn40
      have MS := Lib.hid hms; have ER := Lib.hid her
      clear hms her
      go_wp2_with fail
      refine (start_of ER.out MS.out hr (by omega) hc hu).mono ?_
      rintro e w2 ⟨A2, c2, rfl, hT2, hc2, b2⟩
      have hr2 := hr.on b2
      have hbx2 := hbx.on b2
      have d2 := below_then hba b2
      clear p0 p1 p2
      obtain ⟨p0, p1, p2⟩ := hbx2.cells
      go_wp2_with fail
      refine (rstart_of ER.out MS.out hr2 (by omega) hc hu).mono ?_
      rintro e w3 ⟨A3, c3, rfl, hT3, hc3, b3⟩
      have d3 := below_then d2 b3
      have hT2' := hT2.on b3
      clear p0 p1 p2 hT2
      go_wp2_with fail
      refine (tsame_any A2 A3 _ c2 c3 ms w3 hT2' hT3 (by omega)).mono ?_
      rintro e w4 ⟨rfl, b4⟩
      have d4 := below_then d3 b4
      go_wp2_with fail
      refine (tlive_any _).mono ?_
      rintro e w5 ⟨rfl, b5⟩
      go_wp2_with fail
      go_ret
      exact ⟨rfl, below_then d4 b5⟩
  · clear hr HL hg
    go_wp2_with fail
    go_ret
    exact ⟨rfl, hba⟩
end Go.Proofs.Ytbhkgdfmjkblcaa
