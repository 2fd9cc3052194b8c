/-
  The walks through members.Of and With, and the reference's Of, put and With.
-/
import Derived.Test.YtlfdafelceipfaaMemP
import Derived.Test.YtlfdafelceipfaaRow
import Derived.Test.YtlfdafelceipfaaIdsL
namespace Go.Proofs.Ytlfdafelceipfaa
open Go.RowKit

set_option maxRecDepth 100000 in
set_option maxHeartbeats 1000000 in
theorem mof_any (A : Option Addr) (n c : Nat) (l : List Ev) (u : ByteArray) (w : World) (hr : Rd.ev.Holds w A n l) (hn : n ≤ 1000000) :
    Calls Try.prog 34 #[.slice A n c, .string u] w (Same w (.int .i64 (Mb.of l (bs u)))) := by
  have HL := Lib.hid hr.length
  go_enter Try.func34, Try.ntmps34
  go_wp2_with fail
  go_loop [8] (fun i => ∃ k : Nat, k ≤ l.length ∧ i = .int .i64 k ∧ Mb.No l (bs u) k) (fun i => n - (intOf i).toNat)
  case atStart => exact ⟨0, by omega, rfl, Mb.No.zero _ _⟩
  case round =>
    obtain ⟨k, hk, rfl, hb⟩ := hrel
    by_cases hkn : k < n
    · obtain ⟨b, o, x, rfl, hbl, hu, _, _, hra⟩ := hr.mid (by decide) hkn
      have y3 : w.cell? ⟨b, o + k * 29 + 3, none⟩ = some (.int .i64 x.kind) := hra 3 _ rfl
      have y5 : w.cell? ⟨b, o + k * 29 + 5, none⟩ = some (.string x.key) := hra 5 _ rfl
      have y11 : w.cell? ⟨b, o + k * 29 + 10 + 1, none⟩ = some (.int .i64 x.content.n) := hra 11 _ rfl
      have hk1 : k + 1 ≤ l.length := by have := HL.out; omega
      clear hra
      by_cases h2 : x.kind = 2
      · have e2 : (x.kind == 2) = true := eqT h2
        by_cases hx : x.key = u
        · have e5 : (x.key.toList == u.toList) = true := by rw [streq']; exact decide_eq_true hx
          have HO := Lib.hid (Mb.of_some hb hu ⟨h2, by rw [hx]⟩)
          clear hb hu h2 hx
          go_wp2_with fail
          go_ret
          exact ⟨ret_int HO.out.symm, rfl⟩
        · have e5 : (x.key.toList == u.toList) = false := by rw [streq']; exact decide_eq_false hx
          have HNO := Lib.hid (hb.succ hu (fun h => hx (bs_inj h.2)))
          clear hb hu h2 hx
          go_wp2_with fail
          exact ⟨⟨k + 1, hk1, by go_num, HNO.out⟩, by simp [intOf]; omega⟩
      · have e2 : (x.kind == 2) = false := eqF h2
        have HNO := Lib.hid (hb.succ hu (fun h => h2 h.1))
        clear hb hu h2
        go_wp2_with fail
        exact ⟨⟨k + 1, hk1, by go_num, HNO.out⟩, by simp [intOf]; omega⟩
    · have HO := Lib.hid (Mb.of_none (l := l) (u := bs u) (by have := HL.out; rwa [show l.length = k from by omega]))
      clear hb
      go_wp2_with fail
      go_ret
      exact ⟨ret_int HO.out.symm, rfl⟩

set_option maxRecDepth 100000 in
set_option maxHeartbeats 1000000 in
theorem rmof_any (A : Option Addr) (n c : Nat) (l : List Ev) (u : ByteArray) (w : World) (hr : Rd.ev.Holds w A n l) (hn : n ≤ 1000000) :
    Calls Try.prog 35 #[.slice A n c, .string u] w (Same w (.int .i64 (Mb.of l (bs u)))) := by
  have HL := Lib.hid hr.length
  go_enter Try.func35, Try.ntmps35
  go_wp2_with fail
  go_loop [5] (fun i => ∃ k : Nat, k ≤ l.length ∧ i = .int .i64 k ∧ Mb.No l (bs u) k) (fun i => n - (intOf i).toNat)
  case atStart => exact ⟨0, by omega, rfl, Mb.No.zero _ _⟩
  case round =>
    obtain ⟨k, hk, rfl, hb⟩ := hrel
    by_cases hkn : k < n
    · obtain ⟨b, o, x, rfl, hbl, hu, _, _, hra⟩ := hr.mid (by decide) hkn
      have y3 : w.cell? ⟨b, o + k * 29 + 3, none⟩ = some (.int .i64 x.kind) := hra 3 _ rfl
      have y5 : w.cell? ⟨b, o + k * 29 + 5, none⟩ = some (.string x.key) := hra 5 _ rfl
      have y11 : w.cell? ⟨b, o + k * 29 + 10 + 1, none⟩ = some (.int .i64 x.content.n) := hra 11 _ rfl
      have hk1 : k + 1 ≤ l.length := by have := HL.out; omega
      clear hra
      by_cases h2 : x.kind = 2
      · have e2 : (x.kind == 2) = true := eqT h2
        by_cases hx : x.key = u
        · have e5 : (x.key.toList == u.toList) = true := by rw [streq']; exact decide_eq_true hx
          have HO := Lib.hid (Mb.of_some hb hu ⟨h2, by rw [hx]⟩)
          clear hb hu h2 hx
          go_wp2_with fail
          go_ret
          exact ⟨ret_int HO.out.symm, rfl⟩
        · have e5 : (x.key.toList == u.toList) = false := by rw [streq']; exact decide_eq_false hx
          have HNO := Lib.hid (hb.succ hu (fun h => hx (bs_inj h.2)))
          clear hb hu h2 hx
          go_wp2_with fail
          exact ⟨⟨k + 1, hk1, by go_num, HNO.out⟩, by simp [intOf]; omega⟩
      · have e2 : (x.kind == 2) = false := eqF h2
        have HNO := Lib.hid (hb.succ hu (fun h => h2 h.1))
        clear hb hu h2
        go_wp2_with fail
        exact ⟨⟨k + 1, hk1, by go_num, HNO.out⟩, by simp [intOf]; omega⟩
    · have HO := Lib.hid (Mb.of_none (l := l) (u := bs u) (by have := HL.out; rwa [show l.length = k from by omega]))
      clear hb
      go_wp2_with fail
      go_ret
      exact ⟨ret_int HO.out.symm, rfl⟩

theorem ev_key {w : World} {e : Ev} (h : Rd.ev.Ok w e) : e.key.size ≤ maxLen := h.2.2.2.2.2.1
theorem mem_small {l : List Ev} {u : List UInt8} (hs : ∀ e ∈ l, e.key.size ≤ maxLen) (h : u ∈ Mb.mems l) : u.length ≤ maxLen := by
  obtain ⟨e, he, _, rfl⟩ := Mb.mem_mems.1 h
  rw [size_list]; exact hs e he
theorem run_makeMap_none {P : Program} (t : TypeId) (w : World) : (Instr.makeMap t none).run P w = .ok (.map (some w.heap.size)) (w.alloc (.map #[] 0)) := by
  simp [Instr.makeMap]
theorem ev_cells_on {w w' : World} {b o : Nat} {x : Ev} (hra : w.rangeAt b o (Rd.ev.cells x)) (hbl : b < w.heap.size) (hb : Below w.heap.size w w') :
    w'.cell? ⟨b, o + 3, none⟩ = some (.int .i64 x.kind) ∧ w'.cell? ⟨b, o + 5, none⟩ = some (.string x.key) ∧ w'.cell? ⟨b, o + 10 + 1, none⟩ = some (.int .i64 x.content.n) :=
  ⟨(hb.cell (p := ⟨b, o + 3, none⟩) hbl).trans (hra 3 _ rfl), (hb.cell (p := ⟨b, o + 5, none⟩) hbl).trans (hra 5 _ rfl), (hb.cell (p := ⟨b, o + 10 + 1, none⟩) hbl).trans (hra 11 _ rfl)⟩
def MInv (w : World) (l : List Ev) (m : Int) (out i : Value) (wr : World) : Prop :=
  ∃ k : Nat, k ≤ l.length ∧ i = .int .i64 k ∧ Below w.heap.size w wr ∧ OwnStrs wr (w.heap.size + 1) out (Mb.outs l m k) ∧ SetAt wr w.heap.size k (Mb.seen l k)

set_option maxRecDepth 100000 in
set_option maxHeartbeats 1000000 in
theorem mwith_any (A : Option Addr) (n c : Nat) (l : List Ev) (m : Int) (w : World) (hr : Rd.ev.Holds w A n l) (hn : n ≤ 1000000) :
    Calls Try.prog 37 #[.slice A n c, .int .i64 m] w fun e w' => ∃ v, e = .returned v ∧ Below w.heap.size w w' ∧ OwnStrs w' w.heap.size v (Mb.withL l m) := by
  obtain ⟨i0, hi, hz0, hz1, hz2⟩ := info_parts infoStr
  have HL := Lib.hid hr.length
  have HK := Lib.hid (fun e he => ev_key (hr.2.2 e he))
  have hmm := run_makeMap_none (P := Try.prog) 73
  go_enter Try.func37, Try.ntmps37
  go_wp2_with fail
  go_loopw [6, 12] (fun out i wr => MInv w l m out i wr) (fun _ i _ => n - (intOf i).toNat)
  case atStart =>
    exact ⟨0, by omega, rfl, below_alloc (Below.refl _ _) _, World.ownsRow_nil _ _ _ _, SetIn.made w⟩
  case round =>
    obtain ⟨k, hk, rfl, hbw, hown, hset⟩ := hrel
    have hBw : w.heap.size + 1 ≤ wr.heap.size := SetIn.lt hset
    by_cases hkn : k < n
    · obtain ⟨b, o, x, rfl, hbl, hu, hxl, _, hra⟩ := hr.mid (by decide) hkn
      change w.rangeAt b (o + k * 29) (Rd.ev.cells x) at hra
      have hxm := HK.out x hxl
      obtain ⟨y3, y5, y11⟩ := ev_cells_on hra hbl hbw
      have hk1 : k + 1 ≤ l.length := by have := HL.out; omega
      by_cases h2 : x.kind = 2
      · have e2 : (x.kind != 2) = false := neF h2
        have hlook := hset.look x.key hxm
        by_cases hs : bs x.key ∈ Mb.seen l k
        · rw [decide_eq_true hs] at hlook
          have HF := Lib.hid (show MInv w l m u6 (.int .i64 ((k : Int) + 1)) wr from ⟨k + 1, hk1, by go_num, hbw, by rw [Mb.outs_old hu h2 hs]; exact hown, by rw [Mb.seen_old hu h2 hs]; exact SetIn.mono hset (by omega)⟩)
          clear hown hset hra hu hs h2
          go_wp2_with fail
          exact ⟨HF.out, by simp [intOf]; omega⟩
        · rw [decide_eq_false hs] at hlook
          obtain ⟨w1, hput, hset1, hg1⟩ := hset.put x.key hxm (by unfold maxLen; omega)
          rw [← Mb.seen_new hu h2 hs] at hset1
          have hbw1 : Below w.heap.size w w1 := hbw.grown hg1 hbw.size (fun j hj => by cases hj; exact Nat.le_refl _)
          have hown1 : OwnStrs w1 (w.heap.size + 1) u6 (Mb.outs l m k) := hown.kept hg1 (.inr fun e => by have := (hown.lt _ e).1; omega)
          have hlen := Mb.outs_length l m k
          have hs1 : wr.heap.size ≤ w1.heap.size := hg1.size
          have hlt1 := SetIn.lt hset1
          obtain ⟨z3, z5, z11⟩ := ev_cells_on hra hbl hbw1
          by_cases hm : x.content.n = m
          · have em : (x.content.n == m) = true := eqT hm
            have HO := Lib.hid (Mb.outs_new hu h2 hs hm)
            clear hown hset hra hu hs h2 hm z3
            go_wp2_with (at_builtin; refine wpList_append_own _ rfl _ _ 30 rfl (w.heap.size + 1) 9 i0 (.string .empty) 1 16 Try.underlying30 hi hz0 hz1 hz2 rfl (by decide) _ _ _ rfl (World.ownsRow.alloc hown1 _) ⟨w1.heap.size, 0, none⟩ 1 1 [.string x.key] rfl rfl ?c1 ?c2 ?c3 ?c4 ?c5 ?_)
            case c1 => exact cell_one _ _ _
            case c2 => simp [Value.oneCell']
            case c3 => unfold maxLen; omega
            case c4 => omega
            case c5 => simp; omega
            intro v' w' hown' hgrow _
            have hbw3 : Below w.heap.size w w' := (hbw1.alloc (by omega) _).grown hgrow (by simp; omega) (fun j hj => by have := (World.ownsRow.lt hown1 _ hj).1; omega)
            have hset3 : SetAt w' w.heap.size (k + 1) (Mb.seen l (k + 1)) := SetIn.kept (SetIn.alloc hset1 _) hgrow (fun e => by have := (World.ownsRow.lt hown1 _ e.symm).1; omega)
            have hown3 : OwnStrs w' (w.heap.size + 1) v' (Mb.outs l m (k + 1)) := by
              rw [HO.out]
              unfold OwnStrs
              rw [List.length_append, List.map_append]
              have : ([bs x.key].map encStr) = [Value.string x.key] := by simp [encStr]
              rw [this]; exact hown'
            clear hown' hgrow
            have HF := Lib.hid (show MInv w l m v' (.int .i64 ((k : Int) + 1)) w' from ⟨k + 1, hk1, by go_num, hbw3, hown3, hset3⟩)
            clear hown1 hset1 hown3 hset3
            go_wp2_with fail
            exact ⟨HF.out, by simp [intOf]; omega⟩
          · have em : (x.content.n == m) = false := eqF hm
            have HF := Lib.hid (show MInv w l m u6 (.int .i64 ((k : Int) + 1)) w1 from ⟨k + 1, hk1, by go_num, hbw1, by rw [Mb.outs_not hu h2 hs hm]; exact hown1, hset1⟩)
            clear hown hset hra hu hs h2 hm z3 hown1 hset1
            go_wp2_with fail
            exact ⟨HF.out, by simp [intOf]; omega⟩
      · have e2 : (x.kind != 2) = true := neT h2
        have HF := Lib.hid (show MInv w l m u6 (.int .i64 ((k : Int) + 1)) wr from ⟨k + 1, hk1, by go_num, hbw, by rw [Mb.outs_skip hu h2]; exact hown, by rw [Mb.seen_skip hu h2]; exact SetIn.mono hset (by omega)⟩)
        clear hown hset hra hu h2
        go_wp2_with fail
        exact ⟨HF.out, by simp [intOf]; omega⟩
    · have hkn : k = l.length := by have := HL.out; omega
      have hlen := Mb.outs_length l m k
      rw [hkn] at hown
      obtain ⟨O, cp, hO, hS⟩ := hown.form
      have hsm : ∀ x ∈ (Mb.outs l m l.length).map mk, x.size ≤ maxLen := fun x hx => by
        obtain ⟨u, hu, rfl⟩ := List.mem_map.1 hx
        rw [size_mk]
        refine mem_small HK.out ?_
        have := Mb.mem_seen.1 (List.mem_filter.1 hu).1
        rwa [List.take_of_length_le (Nat.le_refl _)] at this
      have HSM := Lib.hid hsm
      have hlen2 : (Mb.outs l m l.length).length ≤ 1000000 := by have := Mb.outs_length l m l.length; have := HL.out; omega
      have HKN := Lib.hid hkn
      clear hkn hsm hown hset hlen
      subst hO
      go_wp2_with fail
      refine (names_any O _ cp _ wr hS hlen2 HSM.out).mono ?_
      rintro e w1 ⟨v, rfl, hb1, hown1⟩
      have hbw1 := below_then hbw hb1
      go_wp2_with fail
      go_ret
      refine ⟨v, rfl, hbw1, ?_⟩
      have := World.ownsRow.mono (base' := w.heap.size) hown1 (by omega)
      rw [show bss ((Mb.outs l m l.length).map mk) = Mb.outs l m l.length from map_bs_mk _] at this
      exact this
end Go.Proofs.Ytlfdafelceipfaa
