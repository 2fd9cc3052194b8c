/-
  The walks through access.Of and May, and the reference's.
-/
import Derived.Test.YtbdbhnmeainmfaaAccW
namespace Go.Proofs.Ytbdbhnmeainmfaa
open Go.RowKit

def evA (e : Ev) : Array Value := (Rd.ev.cells e).toArray
def evv (e : Ev) : Value := .agg (evA e)
theorem evA_get (e : Ev) (i : Nat) : (evA e)[i]? = (Rd.ev.cells e)[i]? := by simp [evA]
theorem evA_3 (e : Ev) : (evA e)[3]? = some (.int .i64 e.kind) := rfl
theorem execOp_ld_ev (ρ : Operand → Value) (dst : Option Tmp) (x : Operand) (ty : TypeId) (pos : String) (after : Array Edge) (guard : Option (Nat × Bool)) :
    execOp ρ ⟨dst, .load 39 x, ty, pos, after, guard⟩ = (do pure (.value (← ldC 39 (ρ x)))) := rfl
theorem execOp_st_ev (ρ : Operand → Value) (dst : Option Tmp) (x y : Operand) (ty : TypeId) (pos : String) (after : Array Edge) (guard : Option (Nat × Bool)) :
    execOp ρ ⟨dst, .store 39 x y, ty, pos, after, guard⟩ = (do stC 39 (ρ x) (ρ y); pure .skip) := rfl
theorem info_ev : (Try.prog.info? 39).map (·.size) = some 29 := by kernel_rfl
theorem run_ld_ev (b o : Nat) (w : World) (h : hasRow w b o 29 = true) : (ldC 39 (.pointer (some ⟨b, o, none⟩))).run Try.prog w = .ok (rowAt w b o 29) w :=
  run_ldC _ _ 29 Try.underlying39 rfl info_ev b o w h
theorem run_st_ev (W : World) (g : Nat) (c : Array Value) (e : Ev) (hg : g = W.heap.size) (hs : c.size = 29) :
    (stC 39 (.pointer (some ⟨g, 0, none⟩)) (evv e)).run Try.prog (W.alloc (.cells c 39)) = .ok () (W.alloc (.cells (evA e) 39)) :=
  run_stC_new _ W g c (evA e) hg (by rw [info_ev]; rfl) (by rw [hs]; rfl) (all_oneCell_toArray (Rd.ev.one e))
theorem execOp_st_cnt (ρ : Operand → Value) (dst : Option Tmp) (x y : Operand) (ty : TypeId) (pos : String) (after : Array Edge) (guard : Option (Nat × Bool)) :
    execOp ρ ⟨dst, .store 28 x y, ty, pos, after, guard⟩ = (do stC 28 (ρ x) (ρ y); pure .skip) := rfl
def cntL (c : Cnt) : List Value := Rd.cnt.cells c
theorem run_st_cnt (W : World) (g : Nat) (c : Cnt) (h : thereB W g 16 = true) : (stC 28 (.pointer (some ⟨g, 0, none⟩)) (cv c)).run Try.prog W = .ok () (putRow W g (cntL c)) :=
  run_stC_mid _ W g (Rd.cnt.cells c).toArray h (by rw [info_cnt]; rfl) (all_oneCell_toArray (Rd.cnt.one c))
def cntA (c : Cnt) : Array Value := (Rd.cnt.cells c).toArray
theorem run_st_cnt_new (W : World) (g : Nat) (c0 : Array Value) (c : Cnt) (hg : g = W.heap.size) (hs : c0.size = 16) : (stC 28 (.pointer (some ⟨g, 0, none⟩)) (cv c)).run Try.prog (W.alloc (.cells c0 28)) = .ok () (W.alloc (.cells (cntA c) 28)) :=
  run_stC_new _ W g c0 (Rd.cnt.cells c).toArray hg (by rw [info_cnt]; rfl) (by rw [hs]; rfl) (all_oneCell_toArray (Rd.cnt.one c))

def zCnt : Cnt := ⟨⟨#[]⟩, 0, 0, false, ⟨#[]⟩, ⟨none, 0, 0, []⟩, ⟨none, 0, 0, []⟩, ⟨⟨none, 0, 0, []⟩, ⟨none, 0, 0, []⟩, 0, 0, 0, 0, 0, 0, 0⟩⟩
theorem run_st_zero (W : World) (g : Nat) (h : thereB W g 16 = true) : (stC 28 (.pointer (some ⟨g, 0, none⟩)) (.agg #[.string ⟨#[]⟩, .int .i64 0, .int .i64 0, .bool false, .string ⟨#[]⟩, .slice none 0 0, .slice none 0 0, .slice none 0 0, .slice none 0 0,
    .int .i64 0, .int .i64 0, .int .i64 0, .int .i64 0, .int .i64 0, .int .i64 0, .int .i64 0])).run Try.prog W = .ok () (putRow W g (cntL zCnt)) := run_st_cnt W g zCnt h
attribute [local go_sem ↓] execOp_ld_cnt execOp_ld_ev execOp_st_ev execOp_st_cnt
attribute [local go_sem] run_ld_cnt run_ld_ev run_st_ev evA_3 run_st_cnt run_st_cnt_new run_st_zero
/-- the content of an event that lies in a block of its own -/
theorem ev_cnt (w : World) (e : Ev) (t : TypeId) : hasRow (w.alloc (.cells (evA e) t)) w.heap.size 10 16 = true ∧ rowAt (w.alloc (.cells (evA e) t)) w.heap.size 10 16 = cv e.content :=
  row_of (range_sub (range_new w (Rd.ev.cells e) t) 10 16) rfl
def ofC (l : List Ev) : Option Cnt := (l.find? fun e => decide (e.kind = 6)).map (·.content)
def ofV (o : Option Cnt) : Value := .tuple #[cv (o.getD zCnt), .bool o.isSome]
def NoAcc (l : List Ev) (k : Nat) : Prop := ∀ j e, l[j]? = some e → j < k → e.kind ≠ 6
theorem NoAcc.zero (l : List Ev) : NoAcc l 0 := fun j _ _ h => by omega
theorem NoAcc.succ {l : List Ev} {k : Nat} {x : Ev} (h : NoAcc l k) (hx : l[k]? = some x) (hm : x.kind ≠ 6) : NoAcc l (k + 1) := fun j y hy hj => by
  rcases Nat.lt_or_ge j k with h1 | h1
  · exact h j y hy h1
  · obtain rfl : j = k := by omega
    rw [hx] at hy; cases hy; exact hm
theorem ofC_some {l : List Ev} {k : Nat} {x : Ev} (h : NoAcc l k) (hx : l[k]? = some x) (hm : x.kind = 6) : ofC l = some x.content := by
  unfold ofC
  have : l.find? (fun e => decide (e.kind = 6)) = some x := by
    obtain ⟨hk, rfl⟩ := List.getElem?_eq_some_iff.1 hx
    rw [List.find?_eq_some_iff_getElem]
    exact ⟨by simpa using hm, k, hk, rfl, fun j hj => by simpa using h j _ (List.getElem?_eq_getElem (by omega)) hj⟩
  rw [this]; rfl
theorem ofC_none {l : List Ev} (h : NoAcc l l.length) : ofC l = none := by
  unfold ofC
  have : l.find? (fun e => decide (e.kind = 6)) = none := by
    rw [List.find?_eq_none]
    intro x hx
    obtain ⟨j, hj, rfl⟩ := List.mem_iff_getElem.1 hx
    simpa using h j _ (List.getElem?_eq_getElem hj) hj
  rw [this]; rfl

set_option maxRecDepth 100000 in
set_option maxHeartbeats 1000000 in
theorem of_any (A : Option Addr) (n c : Nat) (l : List Ev) (w : World) (hr : Rd.ev.Holds w A n l) (hn : n ≤ 1000000) :
    Calls Try.prog 14 #[.slice A n c] w (Ret w (ofV (ofC l))) := by
  have HL := Lib.hid hr.length
  go_enter Try.func14, Try.ntmps14
  go_wp2_with fail
  go_loopw [8] (fun i wr => ∃ k : Nat, k ≤ l.length ∧ i = .int .i64 k ∧ NoAcc l k ∧ Below w.heap.size w wr ∧ thereB wr w.heap.size 16 = true) (fun i _ => n - (intOf i).toNat)
  case atStart => exact ⟨0, by omega, rfl, NoAcc.zero l, below_alloc (Below.refl _ _) _, thereB_new _ _ _ _ rfl⟩
  case round =>
    obtain ⟨k, hk, rfl, hb, hbw, hth⟩ := hrel
    by_cases hkn : k < n
    · obtain ⟨b, o, x, rfl, hbl, hu, _, _, hra⟩ := (hr.on hbw).mid (by decide) hkn
      obtain ⟨hh, hv⟩ := row_of hra (Rd.ev.len x)
      have hv' : rowAt wr b (o + k * 29) 29 = evv x := hv
      have hh' : hasRow wr b (o + k * 29) 29 = true := hh
      have hk1 : k + 1 ≤ l.length := by have := HL.out; omega
      have hth2 := thereB_alloc hth (.cells (evA x) 39)
      have hbw2 := hbw.alloc hbw.size (.cells (evA x) 39)
      by_cases h6 : x.kind = 6
      · have e6 : (x.kind == 6) = true := eqT h6
        obtain ⟨hc1, hc2⟩ := ev_cnt wr x 39
        have HO := Lib.hid (ofC_some hb hu h6)
        clear hu hb hv hh hra h6 hth
        have HB := Lib.hid hbw2; have HT := Lib.hid hth2
        go_wp2_with fail
        refine bodyPost_ret (v := ofV (ofC l)) ?_ rfl ⟨rfl, below_put (Nat.le_refl _) HB.out⟩
        rw [HO.out]
        rw [results_cell_tmp (fn := Try.f14) (p := 2) (q := 3) (ty := 28) rfl _ _ w.heap.size (cntL x.content) _ ?_ (range_put (cs := cntL x.content) HT.out) Try.underlying28 rfl (by rw [info_cnt]; rfl)]
        · rfl
        · rfl
      · have e6 : (x.kind == 6) = false := eqF h6
        have HNO := Lib.hid (hb.succ hu h6)
        clear hu hb hv hh hra h6 hth
        have HB := Lib.hid hbw2; have HT := Lib.hid hth2
        clear hbw2 hth2
        go_wp2_with fail
        exact ⟨⟨k + 1, hk1, by go_num, HNO.out, HB.out, HT.out⟩, by simp [intOf]; omega⟩
    · have HO := Lib.hid (ofC_none (l := l) (by have := HL.out; rwa [show l.length = k from by omega]))
      have HB := Lib.hid hbw; have HT := Lib.hid hth
      clear hb hbw
      go_wp2_with fail
      refine bodyPost_ret (v := ofV (ofC l)) ?_ rfl ⟨rfl, below_put (Nat.le_refl _) HB.out⟩
      rw [HO.out]
      rw [results_cell_tmp (fn := Try.f14) (p := 2) (q := 3) (ty := 28) rfl _ _ w.heap.size (cntL zCnt) _ ?_ (range_put (cs := cntL zCnt) HT.out) Try.underlying28 rfl (by rw [info_cnt]; rfl)]
      · rfl
      · rfl

theorem range_ev_cnt {w : World} {b o : Nat} {e : Ev} (h : w.rangeAt b o (Rd.ev.cells e)) : hasRow w b (o + 10) 16 = true ∧ rowAt w b (o + 10) 16 = cv e.content := row_of (range_sub h 10 16) rfl
set_option maxRecDepth 100000 in
set_option maxHeartbeats 1000000 in
theorem rof_any (A : Option Addr) (n c : Nat) (l : List Ev) (w : World) (hr : Rd.ev.Holds w A n l) (hn : n ≤ 1000000) :
    Calls Try.prog 15 #[.slice A n c] w (Ret w (ofV (ofC l))) := by
  have HL := Lib.hid hr.length
  go_enter Try.func15, Try.ntmps15
  go_wp2_with fail
  go_loopw [4] (fun i wr => ∃ k : Nat, k ≤ l.length ∧ i = .int .i64 k ∧ NoAcc l k ∧ Below w.heap.size w wr ∧ thereB wr w.heap.size 16 = true) (fun i _ => n - (intOf i).toNat)
  case atStart => exact ⟨0, by omega, rfl, NoAcc.zero l, below_alloc (Below.refl _ _) _, thereB_new _ _ _ _ rfl⟩
  case round =>
    obtain ⟨k, hk, rfl, hb, hbw, hth⟩ := hrel
    by_cases hkn : k < n
    · obtain ⟨b, o, x, rfl, hbl, hu, _, _, hra⟩ := (hr.on hbw).mid (by decide) hkn
      obtain ⟨hc1, hc2⟩ := range_ev_cnt hra
      have hc3 : wr.cell? ⟨b, o + k * 29 + 3, none⟩ = some (.int .i64 x.kind) := hra 3 _ rfl
      change hasRow wr b (o + k * 29 + 10) 16 = true at hc1
      change rowAt wr b (o + k * 29 + 10) 16 = cv x.content at hc2
      have hk1 : k + 1 ≤ l.length := by have := HL.out; omega
      by_cases h6 : x.kind = 6
      · have e6 : (x.kind == 6) = true := eqT h6
        have HO := Lib.hid (ofC_some hb hu h6)
        clear hu hb hra h6
        have HB := Lib.hid hbw; have HT := Lib.hid hth
        go_wp2_with fail
        refine bodyPost_ret (v := ofV (ofC l)) ?_ rfl ⟨rfl, below_put (Nat.le_refl _) HB.out⟩
        rw [HO.out]
        rw [results_cell_tmp (fn := Try.f15) (p := 2) (q := 3) (ty := 28) rfl _ _ w.heap.size (cntL x.content) _ ?_ (range_put (cs := cntL x.content) HT.out) Try.underlying28 rfl (by rw [info_cnt]; rfl)]
        · rfl
        · rfl
      · have e6 : (x.kind == 6) = false := eqF h6
        have HNO := Lib.hid (hb.succ hu h6)
        clear hu hb hra h6
        have HB := Lib.hid hbw; have HT := Lib.hid hth
        clear hbw hth
        go_wp2_with fail
        exact ⟨⟨k + 1, hk1, by go_num, HNO.out, HB.out, HT.out⟩, by simp [intOf]; omega⟩
    · have HO := Lib.hid (ofC_none (l := l) (by have := HL.out; rwa [show l.length = k from by omega]))
      have HB := Lib.hid hbw; have HT := Lib.hid hth
      clear hb hbw
      go_wp2_with fail
      refine bodyPost_ret (v := ofV (ofC l)) ?_ rfl ⟨rfl, below_put (Nat.le_refl _) HB.out⟩
      rw [HO.out]
      rw [results_cell_tmp (fn := Try.f15) (p := 2) (q := 3) (ty := 28) rfl _ _ w.heap.size (cntL zCnt) _ ?_ (range_put (cs := cntL zCnt) HT.out) Try.underlying28 rfl (by rw [info_cnt]; rfl)]
      · rfl
      · rfl

/-- 0, or ErrAccess -/
def mayI (l : List Ev) (s : ByteArray) : Int := match ofC l with
  | some c => if okB c s then 0 else 22
  | none => 0
theorem box_cnt (w : World) (c : Cnt) (t : TypeId) : hasRow (w.alloc (.cells (cntA c) t)) w.heap.size 0 16 = true ∧ rowAt (w.alloc (.cells (cntA c) t)) w.heap.size 0 16 = cv c :=
  row_of (range_new w (Rd.cnt.cells c) t) rfl
set_option maxRecDepth 100000 in
set_option maxHeartbeats 1000000 in
theorem may_any (A : Option Addr) (n c : Nat) (l : List Ev) (s : ByteArray) (w : World) (hr : Rd.ev.Holds w A n l) (hn : n ≤ 1000000) (hl : ∀ c, ofC l = some c → Lists w c ∧ s.size ≤ 1000000) :
    Calls Try.prog 17 #[.slice A n c, .string s] w (Ret w (.int .i64 (mayI l s))) := by
  have HLL := Lib.hid hl; clear hl
  go_enter Try.func17, Try.ntmps17
  go_wp2_with fail
  refine (of_any A n c l w hr hn).mono ?_
  rintro e w1 ⟨rfl, b1⟩
  unfold ofV
  cases ho : ofC l with
  | none =>
    have HO := Lib.hid ho; clear ho
    simp only [Option.getD_none, Option.isSome_none]
    go_wp2_with fail
    go_ret
    exact ⟨ret_int (by unfold mayI; rw [HO.out]), below_alloc b1 _⟩
  | some x =>
    have HO := Lib.hid ho
    have hL := (HLL.out x ho).1.on b1
    have hs := (HLL.out x ho).2
    clear ho
    simp only [Option.getD_some, Option.isSome_some]
    obtain ⟨hc1, hc2⟩ := box_cnt w1 x 28
    have b2 := below_alloc b1 (.cells (cntA x) 28)
    have hL2 := hL.on (below_alloc (Below.refl _ _) (.cells (cntA x) 28))
    go_wp2_with fail
    refine (allowed_any x s _ hL2 hs).mono ?_
    rintro e w3 ⟨rfl, b3⟩
    have c3 := below_then b2 b3
    cases hok : okB x s
    · have HK := Lib.hid hok; clear hok
      go_wp2_with fail
      go_ret
      exact ⟨ret_int (by unfold mayI; rw [HO.out]; simp [HK.out]), c3⟩
    · have HK := Lib.hid hok; clear hok
      go_wp2_with fail
      go_ret
      exact ⟨ret_int (by unfold mayI; rw [HO.out]; simp [HK.out]), c3⟩

set_option maxRecDepth 100000 in
set_option maxHeartbeats 1000000 in
theorem rmay_any (A : Option Addr) (n c : Nat) (l : List Ev) (s : ByteArray) (w : World) (hr : Rd.ev.Holds w A n l) (hn : n ≤ 1000000) (hl : ∀ c, ofC l = some c → Lists w c ∧ s.size ≤ 1000000) :
    Calls Try.prog 18 #[.slice A n c, .string s] w (Ret w (.int .i64 (mayI l s))) := by
  have HLL := Lib.hid hl; clear hl
  go_enter Try.func18, Try.ntmps18
  go_wp2_with fail
  refine (rof_any A n c l w hr hn).mono ?_
  rintro e w1 ⟨rfl, b1⟩
  unfold ofV
  cases ho : ofC l with
  | none =>
    have HO := Lib.hid ho; clear ho
    simp only [Option.getD_none, Option.isSome_none]
    go_wp2_with fail
    go_ret
    exact ⟨ret_int (by unfold mayI; rw [HO.out]), below_alloc b1 _⟩
  | some x =>
    have HO := Lib.hid ho
    have hL := (HLL.out x ho).1.on b1
    have hs := (HLL.out x ho).2
    clear ho
    simp only [Option.getD_some, Option.isSome_some]
    obtain ⟨hc1, hc2⟩ := box_cnt w1 x 28
    have b2 := below_alloc b1 (.cells (cntA x) 28)
    have hL2 := hL.on (below_alloc (Below.refl _ _) (.cells (cntA x) 28))
    go_wp2_with fail
    refine (rallowed_any x s _ hL2 hs).mono ?_
    rintro e w3 ⟨rfl, b3⟩
    have c3 := below_then b2 b3
    cases hok : okB x s
    · have HK := Lib.hid hok; clear hok
      go_wp2_with fail
      go_ret
      exact ⟨ret_int (by unfold mayI; rw [HO.out]; simp [HK.out]), c3⟩
    · have HK := Lib.hid hok; clear hok
      go_wp2_with fail
      go_ret
      exact ⟨ret_int (by unfold mayI; rw [HO.out]; simp [HK.out]), c3⟩
end Go.Proofs.Ytbdbhnmeainmfaa
