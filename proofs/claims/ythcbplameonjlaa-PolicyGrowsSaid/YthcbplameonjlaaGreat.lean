/-
  The walks through the tests of size: the reference's Great and Long of chapter 8.
-/
import Derived.Test.YthcbplameonjlaaEvents
import Derived.Test.YthcbplameonjlaaRow
import Derived.Deep.DeepCutAuto
namespace Go.Proofs.Ythcbplameonjlaa
open Go.RowKit

/-- it returns some bool b of which P b holds -/
def SomeB (P : Bool → Prop) (w : World) (e : Ending) (w' : World) : Prop := ∃ b, e = .returned (.bool b) ∧ P b ∧ Below w.heap.size w w'

def gEvA (e : Ev) : Array Value := (Rd.ev.cells e).toArray
def gEv (e : Ev) : Value := .agg (gEvA e)
def gCntA (c : Cnt) : Array Value := (Rd.cnt.cells c).toArray
def gCnt (c : Cnt) : Value := .agg (gCntA c)
theorem g_ld_cnt (ρ : Operand → Value) (dst : Option Tmp) (x : Operand) (ty : TypeId) (pos : String) (after : Array Edge) (guard : Option (Nat × Bool)) :
    execOp ρ ⟨dst, .load 54 x, ty, pos, after, guard⟩ = (do pure (.value (← ldC 54 (ρ x)))) := rfl
theorem g_ld_ev (ρ : Operand → Value) (dst : Option Tmp) (x : Operand) (ty : TypeId) (pos : String) (after : Array Edge) (guard : Option (Nat × Bool)) :
    execOp ρ ⟨dst, .load 59 x, ty, pos, after, guard⟩ = (do pure (.value (← ldC 59 (ρ x)))) := rfl
theorem g_st_cnt (ρ : Operand → Value) (dst : Option Tmp) (x y : Operand) (ty : TypeId) (pos : String) (after : Array Edge) (guard : Option (Nat × Bool)) :
    execOp ρ ⟨dst, .store 54 x y, ty, pos, after, guard⟩ = (do stC 54 (ρ x) (ρ y); pure .skip) := rfl
theorem g_info_cnt : (Try.prog.info? 54).map (·.size) = some 16 := by kernel_rfl
theorem g_info_ev : (Try.prog.info? 59).map (·.size) = some 29 := by kernel_rfl
theorem g_run_ld_cnt (b o : Nat) (w : World) (h : hasRow w b o 16 = true) : (ldC 54 (.pointer (some ⟨b, o, none⟩))).run Try.prog w = .ok (rowAt w b o 16) w :=
  run_ldC _ _ 16 Try.underlying54 rfl g_info_cnt b o w h
theorem g_run_ld_ev (b o : Nat) (w : World) (h : hasRow w b o 29 = true) : (ldC 59 (.pointer (some ⟨b, o, none⟩))).run Try.prog w = .ok (rowAt w b o 29) w :=
  run_ldC _ _ 29 Try.underlying59 rfl g_info_ev b o w h
theorem g_run_st_new (W : World) (g : Nat) (c0 : Array Value) (c : Cnt) (hg : g = W.heap.size) (hs : c0.size = 16) : (stC 54 (.pointer (some ⟨g, 0, none⟩)) (gCnt c)).run Try.prog (W.alloc (.cells c0 54)) = .ok () (W.alloc (.cells (gCntA c) 54)) :=
  run_stC_new _ W g c0 (Rd.cnt.cells c).toArray hg (by rw [g_info_cnt]; rfl) (by rw [hs]; rfl) (all_oneCell_toArray (Rd.cnt.one c))
attribute [local go_sem ↓] g_ld_cnt g_ld_ev g_st_cnt
attribute [local go_sem] g_run_ld_cnt g_run_ld_ev g_run_st_new

theorem range_ev_cnt' {w : World} {b o : Nat} {e : Ev} (h : w.rangeAt b o (Rd.ev.cells e)) : hasRow w b (o + 10) 16 = true ∧ rowAt w b (o + 10) 16 = gCnt e.content := row_of (range_sub h 10 16) rfl
/-- the facts on an event's lists that the walk reads -/
theorem ev_ok {w : World} {e : Ev} (h : Rd.ev.Ok w e) : Rd.str.Holds w e.content.allow.A e.content.allow.n e.content.allow.l ∧ Rd.str.Holds w e.content.deny.A e.content.deny.n e.content.deny.l ∧
    Rd.lvl.Holds w e.content.levels.users.A e.content.levels.users.n e.content.levels.users.l :=
  ⟨h.2.2.2.2.2.2.2.2.2.2.1.2.2.2.2.2.1.1, h.2.2.2.2.2.2.2.2.2.2.1.2.2.2.2.2.2.1.1, h.2.2.2.2.2.2.2.2.2.2.1.2.2.2.2.2.2.2.1.1.1⟩

set_option maxRecDepth 100000 in
set_option maxHeartbeats 2000000 in
theorem long_any (e : Ev) (w : World) (h : Rd.ev.Ok w e) : Calls Try.prog 38 #[gEv e] w (SomeB (fun _ => True) w) := by
  obtain ⟨wa, hwa⟩ : ∃ wa : World, wa = w.alloc (.cells (gEvA e) 59) := ⟨_, rfl⟩
  have hra : wa.rangeAt w.heap.size 0 (Rd.ev.cells e) := by rw [hwa]; exact range_new w _ _
  have hba : Below w.heap.size w wa := by rw [hwa]; exact below_alloc (Below.refl _ _) _
  have hsz : w.heap.size < wa.heap.size := by rw [hwa]; simp
  obtain ⟨hc1, hc2⟩ := range_ev_cnt' hra
  rw [Nat.zero_add] at hc1 hc2
  have HW := Lib.hid hwa; clear hwa
  unfold gEv
  go_enter Try.func38, Try.ntmps38
  go_upto_region 1 with fail
  rw [← HW.out]
  go_upto_region 2 with fail
  obtain ⟨wb, hwb⟩ : ∃ wb : World, wb = wa.alloc (.cells (gCntA e.content) 54) := ⟨_, rfl⟩
  have hbb : Below w.heap.size w wb := by rw [hwb]; exact below_alloc hba _
  have hre : wb.rangeAt w.heap.size 0 (Rd.ev.cells e) := by rw [hwb]; exact World.rangeAt_alloc hra _
  have hrc : wb.rangeAt wa.heap.size 0 (Rd.cnt.cells e.content) := by rw [hwb]; exact range_new wa _ _
  obtain ⟨ha, hd, hu⟩ := ev_ok (Rd.ev.on h hbb)
  rw [← hwb]
  clear hwb HW hc1 hc2 hra
  have e1 : wb.cell? ⟨w.heap.size, 1, none⟩ = some (.string e.room) := hre 1 _ rfl
  have e2 : wb.cell? ⟨w.heap.size, 2, none⟩ = some (.string e.sender) := hre 2 _ rfl
  have e5 : wb.cell? ⟨w.heap.size, 5, none⟩ = some (.string e.key) := hre 5 _ rfl
  have e8 : wb.cell? ⟨w.heap.size, 8, none⟩ = some (.slice e.prev.A e.prev.n e.prev.c) := hre 8 _ rfl
  have e9 : wb.cell? ⟨w.heap.size, 9, none⟩ = some (.slice e.auth.A e.auth.n e.auth.c) := hre 9 _ rfl
  have e27 : wb.cell? ⟨w.heap.size, 27, none⟩ = some (.string e.sig.server) := hre 27 _ rfl
  have c0 : wb.cell? ⟨wa.heap.size, 0, none⟩ = some (.string e.content.text) := hrc 0 _ rfl
  have c4 : wb.cell? ⟨wa.heap.size, 4, none⟩ = some (.string e.content.via) := hrc 4 _ rfl
  have c5 : wb.cell? ⟨wa.heap.size, 5, none⟩ = some (.slice e.content.allow.A e.content.allow.n e.content.allow.c) := hrc 5 _ rfl
  have c6 : wb.cell? ⟨wa.heap.size, 6, none⟩ = some (.slice e.content.deny.A e.content.deny.n e.content.deny.c) := hrc 6 _ rfl
  have c7 : wb.cell? ⟨wa.heap.size, 7, none⟩ = some (.slice e.content.levels.users.A e.content.levels.users.n e.content.levels.users.c) := hrc 7 _ rfl
  have c8 : wb.cell? ⟨wa.heap.size, 8, none⟩ = some (.slice e.content.levels.kinds.A e.content.levels.kinds.n e.content.levels.kinds.c) := hrc 8 _ rfl
  clear hre hrc
  by_cases p0 : (40 : Int) < (e.prev.n : Nat)
  · go_wp2_with fail
    go_ret
    exact ⟨true, rfl, trivial, hbb⟩
  by_cases p1 : (40 : Int) < (e.auth.n : Nat)
  · go_wp2_with fail
    go_ret
    exact ⟨true, rfl, trivial, hbb⟩
  by_cases p2 : (40 : Int) < (e.content.allow.n : Nat)
  · go_wp2_with fail
    go_ret
    exact ⟨true, rfl, trivial, hbb⟩
  by_cases p3 : (40 : Int) < (e.content.deny.n : Nat)
  · go_wp2_with fail
    go_ret
    exact ⟨true, rfl, trivial, hbb⟩
  by_cases p4 : (40 : Int) < (e.content.levels.users.n : Nat)
  · go_wp2_with fail
    go_ret
    exact ⟨true, rfl, trivial, hbb⟩
  by_cases p5 : (40 : Int) < (e.content.levels.kinds.n : Nat)
  · go_wp2_with fail
    go_ret
    exact ⟨true, rfl, trivial, hbb⟩
  go_upto_region 4 with fail
  by_cases q0 : (2000 : Int) < (e.room.size : Nat)
  · go_wp2_with fail
    go_ret
    exact ⟨true, rfl, trivial, hbb⟩
  by_cases q1 : (2000 : Int) < (e.sender.size : Nat)
  · go_wp2_with fail
    go_ret
    exact ⟨true, rfl, trivial, hbb⟩
  by_cases q2 : (2000 : Int) < (e.key.size : Nat)
  · go_wp2_with fail
    go_ret
    exact ⟨true, rfl, trivial, hbb⟩
  by_cases q3 : (2000 : Int) < (e.content.text.size : Nat)
  · go_wp2_with fail
    go_ret
    exact ⟨true, rfl, trivial, hbb⟩
  by_cases q4 : (2000 : Int) < (e.content.via.size : Nat)
  · go_wp2_with fail
    go_ret
    exact ⟨true, rfl, trivial, hbb⟩
  by_cases q5 : (2000 : Int) < (e.sig.server.size : Nat)
  · go_wp2_with fail
    go_ret
    exact ⟨true, rfl, trivial, hbb⟩
  go_wp2_with fail
  go_loop [4] (fun i => ∃ k : Nat, k ≤ e.content.allow.n ∧ i = .int .i64 k) (fun i => e.content.allow.n - (intOf i).toNat)
  case atStart => exact ⟨0, by omega, rfl⟩
  case round =>
    obtain ⟨k, hk, rfl⟩ := hrel
    by_cases hlt : k < e.content.allow.n
    · obtain ⟨ad, x, hA, _, _, _, _, hx⟩ := ha.at_ hlt
      have hx0 : wb.cell? (ad.add k) = some (.string x) := by have := hx 0 _ rfl; rwa [show k * Rd.str.size + 0 = k from Nat.mul_one k] at this
      have HA := Lib.hid hA; clear hA
      have c5' := c5
      rw [HA.out] at c5'
      clear c5
      by_cases hs : (2000 : Int) < (x.size : Nat)
      · go_wp2_with fail
        go_ret
        exact ⟨true, rfl, trivial, hbb⟩
      · go_wp2_with fail
        exact ⟨⟨k + 1, by omega, by go_num⟩, by simp [intOf]; omega⟩
    · go_wp2_with fail
      go_loop [5] (fun i => ∃ k : Nat, k ≤ e.content.deny.n ∧ i = .int .i64 k) (fun i => e.content.deny.n - (intOf i).toNat)
      case atStart => exact ⟨0, by omega, rfl⟩
      case round =>
        obtain ⟨k, hk, rfl⟩ := hrel
        by_cases hlt : k < e.content.deny.n
        · obtain ⟨ad, x, hA, _, _, _, _, hx⟩ := hd.at_ hlt
          have hx0 : wb.cell? (ad.add k) = some (.string x) := by have := hx 0 _ rfl; rwa [show k * Rd.str.size + 0 = k from Nat.mul_one k] at this
          have HA := Lib.hid hA; clear hA
          have c6' := c6
          rw [HA.out] at c6'
          clear c6
          by_cases hs : (2000 : Int) < (x.size : Nat)
          · go_wp2_with fail
            go_ret
            exact ⟨true, rfl, trivial, hbb⟩
          · go_wp2_with fail
            exact ⟨⟨k + 1, by omega, by go_num⟩, by simp [intOf]; omega⟩
        · go_wp2_with fail
          go_loop [6] (fun i => ∃ k : Nat, k ≤ e.content.levels.users.n ∧ i = .int .i64 k) (fun i => e.content.levels.users.n - (intOf i).toNat)
          case atStart => exact ⟨0, by omega, rfl⟩
          case round =>
            obtain ⟨k, hk, rfl⟩ := hrel
            by_cases hlt : k < e.content.levels.users.n
            · obtain ⟨b, o, x, hA, _, _, _, _, hx⟩ := hu.mid (by decide) hlt
              have hx0 : wb.cell? ⟨b, o + k * 2, none⟩ = some (.string x.user) := hx 0 _ rfl
              have hx1 : wb.cell? ⟨b, o + k * 2 + 0, none⟩ = some (.string x.user) := hx 0 _ rfl
              have HA := Lib.hid hA; clear hA
              have c7' := c7
              rw [HA.out] at c7'
              clear c7
              by_cases hs : (2000 : Int) < (x.user.size : Nat)
              · go_wp2_with fail
                go_ret
                exact ⟨true, rfl, trivial, hbb⟩
              · go_wp2_with fail
                exact ⟨⟨k + 1, by omega, by go_num⟩, by simp [intOf]; omega⟩
            · go_wp2_with fail
              go_ret
              exact ⟨false, rfl, trivial, hbb⟩

theorem lt_int {a b : Nat} (h : ¬ a < b) : ¬ (a : Int) < (b : Int) := by omega
set_option maxRecDepth 100000 in
set_option maxHeartbeats 1000000 in
theorem rgreat8_any (A : Option Addr) (n c : Nat) (l : List Ev) (w : World) (hr : Rd.ev.Holds w A n l) (hn : n ≤ maxLen) :
    Calls Try.prog 22 #[.slice A n c, .int .i64 20] w (SomeB (fun b => b = false → n ≤ 20) w) := by
  unfold maxLen at hn
  by_cases h20 : (20 : Int) < n
  · go_enter Try.func22, Try.ntmps22
    go_wp2_with fail
    go_ret
    exact ⟨true, rfl, by simp, Below.refl _ _⟩
  · go_enter Try.func22, Try.ntmps22
    go_wp2_with fail
    go_loopw [5] (fun i wr => ∃ k : Nat, k ≤ n ∧ i = .int .i64 k ∧ Below w.heap.size w wr) (fun i _ => n - (intOf i).toNat)
    case atStart => exact ⟨0, by omega, rfl, Below.refl _ _⟩
    case round =>
      obtain ⟨k, hk, rfl, hbw⟩ := hrel
      by_cases hlt : k < n
      · obtain ⟨b, o, x, rfl, _, _, _, hok, hra⟩ := (hr.on hbw).mid (by decide) hlt
        obtain ⟨hh, hv⟩ := row_of hra (Rd.ev.len x)
        have hv' : rowAt wr b (o + k * 29) 29 = gEv x := hv
        have hh' : hasRow wr b (o + k * 29) 29 = true := hh
        clear hh hv hra
        go_wp2_with fail
        refine (long_any x wr hok).mono ?_
        rintro e w1 ⟨r, rfl, _, hb1⟩
        have hb2 := below_then hbw hb1
        cases r
        · go_wp2_with fail
          exact ⟨⟨k + 1, by omega, by go_num, hb2⟩, by simp [intOf]; omega⟩
        · go_wp2_with fail
          go_ret
          exact ⟨true, rfl, by simp, hb2⟩
      · go_wp2_with fail
        go_ret
        exact ⟨false, rfl, fun _ => by omega, hbw⟩
end Go.Proofs.Ythcbplameonjlaa
