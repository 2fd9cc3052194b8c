/-
  The walks through the reference's search for events by identifiers, and its InState.
-/
import Derived.Test.YtlfdafelceipfaaMemS
import Derived.Test.YtlfdafelceipfaaGreat
import Derived.Test.YtlfdafelceipfaaAppW
namespace Go.Proofs.Ytlfdafelceipfaa
open Go.RowKit

theorem d_st_ev (ρ : Operand → Value) (dst : Option Tmp) (x y : Operand) (ty : TypeId) (pos : String) (after : Array Edge) (guard : Option (Nat × Bool)) :
    execOp ρ ⟨dst, .store 61 x y, ty, pos, after, guard⟩ = (do stC 61 (ρ x) (ρ y); pure .skip) := rfl
theorem d_run_st_ev (W : World) (g : Nat) (c0 : Array Value) (e : Ev) (hg : g = W.heap.size) (hs : c0.size = 29) : (stC 61 (.pointer (some ⟨g, 0, none⟩)) (gEv e)).run Try.prog (W.alloc (.cells c0 61)) = .ok () (W.alloc (.cells (gEvA e) 61)) :=
  run_stC_new _ W g c0 (Rd.ev.cells e).toArray hg (by rw [g_info_ev]; rfl) (by rw [hs]; rfl) (all_oneCell_toArray (Rd.ev.one e))
def zEv : Ev := ⟨0, ⟨#[]⟩, ⟨#[]⟩, 0, false, ⟨#[]⟩, 0, 0, ⟨none, 0, 0, []⟩, ⟨none, 0, 0, []⟩, ⟨⟨#[]⟩, 0, 0, false, ⟨#[]⟩, ⟨none, 0, 0, []⟩, ⟨none, 0, 0, []⟩, ⟨⟨none, 0, 0, []⟩, ⟨none, 0, 0, []⟩, 0, 0, 0, 0, 0, 0, 0⟩⟩, 0, ⟨⟨#[]⟩, 0⟩⟩
theorem d_run_st_zero (W : World) (g : Nat) (c0 : Array Value) (hg : g = W.heap.size) (hs : c0.size = 29) : (stC 61 (.pointer (some ⟨g, 0, none⟩)) (.agg #[.int .i64 0, .string ⟨#[]⟩, .string ⟨#[]⟩, .int .i64 0, .bool false, .string ⟨#[]⟩, .int .i64 0, .int .i64 0, .slice none 0 0, .slice none 0 0,
    .string ⟨#[]⟩, .int .i64 0, .int .i64 0, .bool false, .string ⟨#[]⟩, .slice none 0 0, .slice none 0 0, .slice none 0 0, .slice none 0 0,
    .int .i64 0, .int .i64 0, .int .i64 0, .int .i64 0, .int .i64 0, .int .i64 0, .int .i64 0, .int .i64 0, .string ⟨#[]⟩, .int .i64 0])).run Try.prog (W.alloc (.cells c0 61)) = .ok () (W.alloc (.cells (gEvA zEv) 61)) :=
  d_run_st_ev W g c0 zEv hg hs
attribute [local go_sem ↓] g_ld_ev d_st_ev
attribute [local go_sem] g_run_ld_ev d_run_st_ev d_run_st_zero

set_option maxRecDepth 100000 in
set_option maxHeartbeats 1000000 in
theorem rplace_any (A : Option Addr) (n c : Nat) (l : List Ev) (i : Int) (w : World) (hr : Rd.ev.Holds w A n l) (hn : n ≤ 1000000) :
    Calls Try.prog 81 #[.slice A n c, .int .i64 i] w fun e w' => w = w' ∧ ((∃ (k : Nat) (x : Ev), e = .returned (.int .i64 (k : Int)) ∧ l[k]? = some x ∧ Mb.first l i = some x) ∨ (e = .returned (.int .i64 (-1)) ∧ Mb.first l i = none)) := by
  have HL := Lib.hid hr.length
  go_enter Try.func81, Try.ntmps81
  go_wp2_with fail
  go_loop [5] (fun j => ∃ k : Nat, k ≤ l.length ∧ j = .int .i64 k ∧ Mb.NoId l i k) (fun j => n - (intOf j).toNat)
  case atStart => exact ⟨0, by omega, rfl, Mb.NoId.zero _ _⟩
  case round =>
    obtain ⟨k, hk, rfl, hb⟩ := hrel
    by_cases hkn : k < n
    · obtain ⟨b, o, x, rfl, hbl, hu, _, _, hra⟩ := hr.mid (by decide) hkn
      have y0 : w.cell? ⟨b, o + k * 29, none⟩ = some (.int .i64 x.id) := hra 0 _ rfl
      have hk1 : k + 1 ≤ l.length := by have := HL.out; omega
      clear hra
      by_cases h2 : x.id = i
      · have e2 : (x.id == i) = true := eqT h2
        have HF := Lib.hid (Mb.first_some hb hu h2)
        have HU := Lib.hid hu
        clear hb hu h2
        go_wp2_with fail
        go_ret
        exact ⟨rfl, .inl (by first | exact ⟨k, x, rfl, HU.out, HF.out⟩ | exact ⟨k, rfl, x, HU.out, HF.out⟩)⟩
      · have e2 : (x.id == i) = false := eqF h2
        have HN := Lib.hid (hb.succ hu h2)
        clear hb hu h2
        go_wp2_with fail
        exact ⟨⟨k + 1, hk1, by go_num, HN.out⟩, by simp [intOf]; omega⟩
    · have HF := Lib.hid (Mb.first_none (l := l) (i := i) (by have := HL.out; rwa [show l.length = k from by omega]))
      clear hb
      go_wp2_with fail
      go_ret
      exact ⟨rfl, .inr ⟨rfl, HF.out⟩⟩

def getV (o : Option Ev) : Value := .tuple #[gEv (o.getD zEv), .bool o.isSome]
set_option maxRecDepth 100000 in
set_option maxHeartbeats 1000000 in
theorem rget_any (A : Option Addr) (n c : Nat) (l : List Ev) (i : Int) (w : World) (hr : Rd.ev.Holds w A n l) (hn : n ≤ 1000000) :
    Calls Try.prog 67 #[.slice A n c, .int .i64 i] w (Ret w (getV (Mb.first l i))) := by
  have HL := Lib.hid hr.length
  go_enter Try.func67, Try.ntmps67
  go_wp2_with fail
  refine (rplace_any A n c l i _ (hr.on (below_alloc (Below.refl _ _) _)) hn).mono ?_
  rintro e w1 ⟨rfl, h⟩
  rcases h with ⟨k, x, rfl, hu, hf⟩ | ⟨rfl, hf⟩
  · have hkn : k < n := by have := HL.out; have := (List.getElem?_eq_some_iff.1 hu).1; omega
    have hng : ¬ ((k : Int) < 0) := by omega
    obtain ⟨b, o, y, rfl, hbl, hv, _, _, hra⟩ := hr.mid (by decide) hkn
    rw [hu] at hv
    cases hv
    have hra2 := World.rangeAt_alloc hra (.cells #[.int .i64 0, .string ⟨#[]⟩, .string ⟨#[]⟩, .int .i64 0, .bool false, .string ⟨#[]⟩, .int .i64 0, .int .i64 0, .slice none 0 0, .slice none 0 0,
    .string ⟨#[]⟩, .int .i64 0, .int .i64 0, .bool false, .string ⟨#[]⟩, .slice none 0 0, .slice none 0 0, .slice none 0 0, .slice none 0 0,
    .int .i64 0, .int .i64 0, .int .i64 0, .int .i64 0, .int .i64 0, .int .i64 0, .int .i64 0, .int .i64 0, .string ⟨#[]⟩, .int .i64 0] 61)
    obtain ⟨hh, hvv⟩ := row_of hra2 (Rd.ev.len x)
    change hasRow _ b (o + k * 29) 29 = true at hh
    change rowAt _ b (o + k * 29) 29 = gEv x at hvv
    have HF := Lib.hid hf
    have hrg : (w.alloc (.cells (gEvA x) 61)).rangeAt w.heap.size 0 (Rd.ev.cells x) := range_new w _ _
    have HRG := Lib.hid hrg
    clear hra hra2 hu hf hrg
    go_wp2_with fail
    refine bodyPost_ret (v := getV (Mb.first l i)) ?_ rfl ⟨rfl, below_alloc (Below.refl _ _) _⟩
    rw [HF.out]
    rw [results_cell_tmp (fn := Try.f67) (p := 4) (q := 5) (ty := 61) rfl _ _ w.heap.size (Rd.ev.cells x) _ ?_ HRG.out Try.underlying61 rfl (by rw [g_info_ev]; rfl)]
    · rfl
    · rfl
  · have HF := Lib.hid hf
    have hrg : (w.alloc (.cells (gEvA zEv) 61)).rangeAt w.heap.size 0 (Rd.ev.cells zEv) := range_new w _ _
    have HRG := Lib.hid hrg
    clear hf hrg
    go_wp2_with fail
    refine bodyPost_ret (v := getV (Mb.first l i)) ?_ rfl ⟨rfl, below_alloc (Below.refl _ _) _⟩
    rw [HF.out]
    rw [results_cell_tmp (fn := Try.f67) (p := 4) (q := 5) (ty := 61) rfl _ _ w.heap.size (Rd.ev.cells zEv) _ ?_ HRG.out Try.underlying61 rfl (by rw [g_info_ev]; rfl)]
    · rfl
    · rfl
end Go.Proofs.Ytlfdafelceipfaa
