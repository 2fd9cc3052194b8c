/-
  The walk through the law AccessRooms.
-/
import Derived.Test.YtbdbhnmeainmfaaAccL
namespace Go.Proofs.Ytbdbhnmeainmfaa
open Go.RowKit

attribute [local go_sem ↓] execOp_ld_cnt execOp_st_cnt
attribute [local go_sem] run_ld_cnt run_st_cnt_new

theorem ev_cnt_ok {w : World} {e : Ev} (h : Rd.ev.Ok w e) : Rd.cnt.Ok w e.content := h.2.2.2.2.2.2.2.2.2.2.1
theorem ofC_mem {l : List Ev} {c : Cnt} (h : ofC l = some c) : ∃ e ∈ l, e.content = c := by
  unfold ofC at h
  obtain ⟨e, he, hc⟩ := Option.map_eq_some_iff.1 h
  exact ⟨e, List.mem_of_find?_eq_some he, hc⟩
/-- the first k events are small -/
def SmallTo (l : List Ev) (s : ByteArray) (k : Nat) : Prop := ∀ (j : Nat) e, l[j]? = some e → j < k → Small e.content s
theorem SmallTo.zero (l : List Ev) (s : ByteArray) : SmallTo l s 0 := fun j _ _ h => by omega
theorem SmallTo.succ {l : List Ev} {s : ByteArray} {k : Nat} {x : Ev} (h : SmallTo l s k) (hx : l[k]? = some x) (hm : Small x.content s) : SmallTo l s (k + 1) := fun j y hy hj => by
  rcases Nat.lt_or_ge j k with h1 | h1
  · exact h j y hy h1
  · obtain rfl : j = k := by omega
    rw [hx] at hy; cases hy; exact hm
theorem SmallTo.of {l : List Ev} {s : ByteArray} {k : Nat} (h : SmallTo l s k) (hk : l.length ≤ k) {e : Ev} (he : e ∈ l) : Small e.content s := by
  obtain ⟨j, hj, rfl⟩ := List.mem_iff_getElem.1 he
  exact h j _ (List.getElem?_eq_getElem hj) (by omega)
theorem of_ok {w : World} {A : Option Addr} {n : Nat} {l : List Ev} (h : Rd.ev.Holds w A n l) : Rd.cnt.Ok w ((ofC l).getD zCnt) := by
  cases ho : ofC l with
  | none => exact zC_ok
  | some c =>
    obtain ⟨e, he, rfl⟩ := ofC_mem ho
    exact ev_cnt_ok (h.2.2 e he)
theorem of_lists {w : World} {A : Option Addr} {n : Nat} {l : List Ev} {s : ByteArray} (h : Rd.ev.Holds w A n l) (hs : ∀ e ∈ l, Small e.content s) : ∀ c, ofC l = some c → Lists w c ∧ s.size ≤ 1000000 := fun c hc => by
  obtain ⟨e, he, rfl⟩ := ofC_mem hc
  exact ⟨(hs e he).lists (ev_cnt_ok (h.2.2 e he)), by have := (hs e he).s; omega⟩

set_option maxRecDepth 100000 in
set_option maxHeartbeats 4000000 in
theorem accessRooms_any (x : Sl Ev) (s : ByteArray) (w : World) (hx : Rd.ev.Holds w x.A x.n x.l ∧ x.n ≤ maxLen) (hs : s.size ≤ maxLen) :
    Calls Try.prog 4 #[x.val, .string s] w (Ret w (.bool true)) := by
  obtain ⟨A, n, c, l⟩ := x
  obtain ⟨hr, hn⟩ := hx
  simp only [Sl.val] at hr hn ⊢
  have HL := Lib.hid hr.length
  go_enter Try.func4, Try.ntmps4
  go_wp2_with fail
  refine (rgreat8_any A n c l w hr hn).mono ?_
  rintro e w1 ⟨g1, rfl, hg1, b1⟩
  cases g1
  · have hn20 : n ≤ 20 := hg1 rfl
    clear hg1 hn
    go_wp2_with fail
    go_loopw [5] (fun i wr => ∃ k : Nat, k ≤ n ∧ i = .int .i64 k ∧ Below w.heap.size w wr ∧ SmallTo l s k) (fun i _ => n - (intOf i).toNat)
    case atStart => exact ⟨0, by omega, rfl, b1, SmallTo.zero l s⟩
    case round =>
      clear b1
      obtain ⟨k, hk, rfl, hbw, hsm⟩ := hrel
      by_cases hlt : k < n
      · obtain ⟨b, o, y, rfl, _, hu, _, hok, hra⟩ := (hr.on hbw).mid (by decide) hlt
        obtain ⟨hc1, hc2⟩ := range_ev_cnt hra
        change hasRow wr b (o + k * 29 + 10) 16 = true at hc1
        change rowAt wr b (o + k * 29 + 10) 16 = cv y.content at hc2
        have HU := Lib.hid hu; have HSM := Lib.hid hsm
        clear hu hsm hra
        go_wp2_with fail
        refine (rgreat14_any y.content s wr (ev_cnt_ok hok) hs).mono ?_
        rintro e w2 ⟨g2, rfl, hg2, b2⟩
        have c2 := below_then hbw b2
        clear hc1 hc2
        cases g2
        · have HS := Lib.hid (HSM.out.succ HU.out (hg2 rfl))
          clear hg2
          go_wp2_with fail
          exact ⟨⟨k + 1, by omega, by go_num, c2, HS.out⟩, by simp [intOf]; omega⟩
        · clear hg2
          go_wp2_with fail
          refine (awake14_any _).mono ?_
          rintro e w3 ⟨rfl, b3⟩
          go_wp2_with fail
          go_ret
          exact ⟨rfl, below_then c2 b3⟩
      · have hsa : ∀ e ∈ l, Small e.content s := fun e he => hsm.of (by have := HL.out; omega) he
        have HSA := Lib.hid hsa
        clear hsm hsa
        go_wp2_with fail
        refine (of_any A n c l wr (hr.on hbw) (by omega)).mono ?_
        rintro e w3 ⟨rfl, b3⟩
        have c3 := below_then hbw b3
        have hok3 := of_ok (hr.on c3)
        obtain ⟨d, hd⟩ : ∃ d, d = (ofC l).getD zCnt := ⟨_, rfl⟩
        obtain ⟨is, his⟩ : ∃ is, is = (ofC l).isSome := ⟨_, rfl⟩
        rw [← hd] at hok3
        have HV : Hid (ofV (ofC l) = .tuple #[cv d, .bool is]) := by show _ = _; rw [hd, his]; rfl
        rw [HV.out]
        clear hd his
        have bx : Box (w3.alloc (.cells (cntA d) 28)) w3.heap.size (Rd.cnt.cells d) := Box.new w3 (Rd.cnt.cells d) _
        have c4 := below_alloc c3 (.cells (cntA d) 28)
        have hok4 := Rd.cnt.on hok3 (below_alloc (Below.refl _ _) (.cells (cntA d) 28))
        clear hok3 c3
        go_upto_region 9 with fail
        generalize w3.alloc (.cells (cntA d) 28) = w4 at bx c4 hok4 ⊢
        have HOK := Lib.hid hok4; clear hok4
        go_wp2_with fail
        refine (rof_any A n c l w4 (hr.on c4) (by omega)).mono ?_
        rintro e w5 ⟨rfl, b5⟩
        rw [HV.out]
        have c5 := below_then c4 b5
        have bx5 := bx.on b5
        have by5 : Box (w5.alloc (.cells (cntA d) 28)) w5.heap.size (Rd.cnt.cells d) := Box.new w5 (Rd.cnt.cells d) _
        have c6 := below_alloc c5 (.cells (cntA d) 28)
        have bx6 := bx5.on (below_alloc (Below.refl _ _) (.cells (cntA d) 28))
        have hok6 := Rd.cnt.on (Rd.cnt.on HOK.out b5) (below_alloc (Below.refl _ _) (.cells (cntA d) 28))
        clear bx bx5 c4 c5 b5
        go_upto_region 10 with fail
        generalize w5.alloc (.cells (cntA d) 28) = w6 at by5 bx6 c6 hok6 ⊢
        obtain ⟨h1, v1⟩ := box_lit bx6
        obtain ⟨h2, v2⟩ := box_lit by5
        clear bx6 by5
        go_wp2_with fail
        refine (same_refl d w6 hok6).mono ?_
        rintro e w7 ⟨rfl, b7⟩
        have c7 := below_then c6 b7
        clear h1 v1 h2 v2 hok6 c6 b7
        generalize hm : mayI l s = m
        have HM := Lib.hid hm; clear hm
        go_wp2_with fail
        refine (may_any A n c l s w7 (hr.on c7) (by omega) (of_lists (hr.on c7) HSA.out)).mono ?_
        rintro e w8 ⟨rfl, b8⟩
        rw [HM.out]
        have c8 := below_then c7 b8
        clear c7 b8
        go_wp2_with fail
        refine (rmay_any A n c l s w8 (hr.on c8) (by omega) (of_lists (hr.on c8) HSA.out)).mono ?_
        rintro e w9 ⟨rfl, b9⟩
        rw [HM.out]
        have c9 := below_then c8 b9
        clear c8 b9
        go_wp2_with fail
        refine (awake14_any _).mono ?_
        rintro e w10 ⟨rfl, b10⟩
        go_wp2_with fail
        go_ret
        exact ⟨rfl, below_then c9 b10⟩
  · clear hg1
    go_wp2_with fail
    refine (awake14_any _).mono ?_
    rintro e w3 ⟨rfl, b3⟩
    go_wp2_with fail
    go_ret
    exact ⟨rfl, below_then b1 b3⟩
end Go.Proofs.Ytbdbhnmeainmfaa
