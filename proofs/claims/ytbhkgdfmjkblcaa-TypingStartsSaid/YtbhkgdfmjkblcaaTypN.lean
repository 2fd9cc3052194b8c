/-
  The walks through typing.Now and the reference's; Check, Same, Great of chapter 38; has, without. (Printed by wip/gen/gen_typn.py.)
-/
import Derived.Test.YtbhkgdfmjkblcaaTypS
import Derived.Test.YtbhkgdfmjkblcaaIdsQ
namespace Go.Proofs.Ytbhkgdfmjkblcaa
open Go.RowKit

theorem take_snoc' {α : Type} {l : List α} {k : Nat} {x : α} (h : l[k]? = some x) : l.take (k + 1) = l.take k ++ [x] := by
  obtain ⟨hk, rfl⟩ := List.getElem?_eq_some_iff.1 h
  exact List.take_succ_eq_append_getElem hk
theorem own_snoc {w : World} {B : Nat} {v : Value} {n : Nat} {l : List (List UInt8)} {x : ByteArray} (hn : n = (l ++ [bs x]).length) (h : w.ownsRow B 9 1 v n (l.map encStr ++ [Value.string x])) : OwnStrs w B v (l ++ [bs x]) := by
  unfold OwnStrs
  rw [List.map_append, ← hn]
  have : ([bs x].map encStr) = [Value.string x] := by simp [encStr]
  rw [this]; exact h
def NInv (w : World) (l : List Typ) (f : Typ → Bool) (out i : Value) (wr : World) : Prop :=
  ∃ k : Nat, k ≤ l.length ∧ i = .int .i64 k ∧ Below w.heap.size w wr ∧ OwnStrs wr w.heap.size out (((l.take k).filter f).map T.nm)

set_option maxRecDepth 100000 in
set_option maxHeartbeats 2000000 in
theorem tnow_any (A : Option Addr) (n c : Nat) (l0 : List Typ) (now : Int) (w0 : World) (hr0 : Typs w0 A n l0) (hn : n ≤ 1000000) :
    Calls Try.prog 27 #[.slice A n c, .int .i64 now] w0 fun e w' => ∃ v, e = .returned v ∧ Below w0.heap.size w0 w' ∧ OwnStrs w' w0.heap.size v (T.now l0 now) := by
  obtain ⟨i0, hi, hz0, hz1, hz2⟩ := info_parts infoStr
  have HI := Lib.hid hi; have HZ0 := Lib.hid hz0; have HZ1 := Lib.hid hz1; have HZ2 := Lib.hid hz2
  clear hi hz0 hz1 hz2
  have hok := hr0.ok
  have HL0 := Lib.hid (Rd.Holds.length hr0)
  go_enter Try.func27, Try.ntmps27
  go_wp2_with fail
  refine (tclean_any A n c l0 now w0 hr0 hn).mono ?_
  rintro e w ⟨v0, rfl, hb0, hown0⟩
  have hokl : TypOk (l0.filter fun y => decide (now < y.til)) := fun x hx => hok x (List.mem_filter.1 hx).1
  have hll : (l0.filter fun y => decide (now < y.til)).length ≤ n := by
    have h1 := List.length_filter_le (fun y : Typ => decide (now < y.til)) l0
    have := HL0.out; omega
  obtain ⟨A1, c1, rfl, hr⟩ := hown0.form hokl
  have HT : Hid (Nm.names ((l0.filter fun y => decide (now < y.til)).map T.nm) = T.now l0 now) := by show _ = _; rfl
  generalize (l0.filter fun y => decide (now < y.til)) = l at *
  have HOK := Lib.hid hokl
  clear hown0 hok hokl
  go_wp2_with fail
  go_loopw [5, 12] (fun out i wr => NInv w l (fun _ => true) out i wr) (fun _ i _ => l.length - (intOf i).toNat)
  case atStart => exact ⟨0, by omega, rfl, Below.refl _ _, World.ownsRow_nil _ _ _ _⟩
  case round =>
    obtain ⟨k, hk, rfl, hbw, hown⟩ := hrel
    have htt : (l.take k).filter (fun _ => true) = l.take k := List.filter_eq_self.2 (by simp)
    rw [htt] at hown
    obtain ⟨L, hL⟩ : ∃ L, L = (l.take k).map T.nm := ⟨_, rfl⟩
    rw [← hL] at hown
    clear htt
    by_cases hlt : k < l.length
    · obtain ⟨b, o, x, rfl, hbb, hu, hz, hti, h0, h1⟩ := (hr.on hbw).at_ hlt
      have HT2 : Hid (((l.take (k + 1)).filter (fun _ => true)).map T.nm = L ++ [bs x.user]) := by
        show _ = _
        rw [hL, List.filter_eq_self.2 (by simp), take_snoc' hu, List.map_append]; rfl
      have hlen : L.length ≤ k := by rw [hL, List.length_map]; exact List.length_take_le _ _
      have hsz := hbw.size
      clear hu hL
      go_wp2_with (at_builtin; refine wpList_append_own _ rfl _ _ 36 rfl w.heap.size 9 i0 (.string .empty) 1 16 Try.underlying36 HI.out HZ0.out HZ1.out HZ2.out rfl (by decide) _ _ _ rfl (World.ownsRow.alloc (World.ownsRow.alloc hown _) _) ⟨wr.heap.size + 1, 0, none⟩ 1 1 [.string x.user] rfl rfl ?c1 ?c2 ?c3 ?c4 ?c5 ?_)
      case c1 => exact World.news_of_block (cs := #[.string x.user]) (t := 9) (fr := (0, 0)) (by first | exact heap_alloc_new _ _ | (simpa using heap_alloc_new (wr.alloc (.cells #[.string x.user, .int .i64 x.til] 68)) _))
      case c2 => simp [Value.oneCell']
      case c3 => unfold maxLen; omega
      case c4 => omega
      case c5 => simp; omega
      intro v' w' hown' hgrow _
      have hbw3 : Below w.heap.size w w' := (Below.alloc (hbw.alloc (by omega) _) (by first | omega | (simp; omega)) _).grown hgrow (by simp; omega) (fun j hj => by have := (World.ownsRow.lt hown _ hj).1; omega)
      have hown3 : OwnStrs w' w.heap.size v' (((l.take (k + 1)).filter (fun _ => true)).map T.nm) := by
        rw [HT2.out]; exact own_snoc (by simp) hown'
      clear hown' hgrow
      go_wp2_with fail
      exact ⟨⟨k + 1, by omega, by go_num, hbw3, hown3⟩, by simp [intOf]; omega⟩
    · have hF : l.take k = l := List.take_of_length_le (by omega)
      rw [hF] at hL
      have hLl : L.length = l.length := by rw [hL, List.length_map]
      obtain ⟨A2, c2, rfl, hS⟩ := hown.form'
      have hxs : ∀ x ∈ L.map mk, x.size ≤ maxLen := fun x hx => by
        obtain ⟨z, hz, rfl⟩ := List.mem_map.1 hx
        rw [hL] at hz
        obtain ⟨y, hy, rfl⟩ := List.mem_map.1 hz
        rw [mk_bs]; exact (HOK.out y hy).1
      have HXS := Lib.hid hxs; have HLL := Lib.hid hL
      have hl2 : L.length ≤ 1000000 := by omega
      clear hF hown hxs hL hLl
      go_wp2_with fail
      refine (names_any A2 L.length c2 (L.map mk) wr hS hl2 HXS.out).mono ?_
      rintro e w5 ⟨v5, rfl, b5, hown5⟩
      go_wp2_with fail
      go_ret
      refine ⟨v5, rfl, below_then hb0 (below_then hbw b5), ?_⟩
      rw [show bss (L.map mk) = L from map_bs_mk _, HLL.out, HT.out] at hown5
      exact World.ownsRow.mono (base' := w0.heap.size) hown5 (Nat.le_trans hb0.size hbw.size)

set_option maxRecDepth 100000 in
set_option maxHeartbeats 2000000 in
theorem rnow_any (A : Option Addr) (n c : Nat) (l : List Typ) (now : Int) (w : World) (hr : Typs w A n l) (hn : n ≤ 1000000) :
    Calls Try.prog 28 #[.slice A n c, .int .i64 now] w fun e w' => ∃ v, e = .returned v ∧ Below w.heap.size w w' ∧ OwnStrs w' w.heap.size v (T.now l now) := by
  obtain ⟨i0, hi, hz0, hz1, hz2⟩ := info_parts infoStr
  have HI := Lib.hid hi; have HZ0 := Lib.hid hz0; have HZ1 := Lib.hid hz1; have HZ2 := Lib.hid hz2
  clear hi hz0 hz1 hz2
  have HL := Lib.hid (Rd.Holds.length hr)
  obtain ⟨f, hf⟩ : ∃ f : Typ → Bool, f = fun y => decide (now < y.til) := ⟨_, rfl⟩
  have HNOW : Hid (T.now l now = Nm.names ((l.filter f).map T.nm)) := by show _ = _; rw [hf]; rfl
  have hfx : ∀ y, f y = decide (now < y.til) := fun y => by rw [hf]
  have HFX := Lib.hid hfx; clear hf hfx
  go_enter Try.func28, Try.ntmps28
  go_wp2_with fail
  go_loopw [5, 6] (fun out i wr => NInv w l f out i wr) (fun _ i _ => n - (intOf i).toNat)
  case atStart => exact ⟨0, by omega, rfl, Below.refl _ _, World.ownsRow_nil _ _ _ _⟩
  case round =>
    obtain ⟨k, hk, rfl, hbw, hown⟩ := hrel
    obtain ⟨L, hL⟩ : ∃ L, L = ((l.take k).filter f).map T.nm := ⟨_, rfl⟩
    rw [← hL] at hown
    by_cases hlt : k < n
    · obtain ⟨b, o, x, rfl, hbb, hu, hz, hti, h0, h1⟩ := (hr.on hbw).at_ hlt
      have HT := Lib.hid (take_filter f hu)
      have hk1 : k + 1 ≤ l.length := by have := HL.out; omega
      have hlen : L.length ≤ k := by rw [hL, List.length_map]; exact Nat.le_trans (List.length_filter_le _ _) (List.length_take_le _ _)
      have hsz := hbw.size
      have HLL := Lib.hid hL
      clear hu hL
      by_cases ht : now < x.til
      · have HF : Hid (((l.take (k + 1)).filter f).map T.nm = L ++ [bs x.user]) := by
          show _ = _
          rw [HT.out, if_pos (by rw [HFX.out]; simpa using ht), List.map_append, HLL.out]; rfl
        have hnt : now < x.til := by assumption
        go_wp2_with (at_builtin; refine wpList_append_own _ rfl _ _ 36 rfl w.heap.size 9 i0 (.string .empty) 1 16 Try.underlying36 HI.out HZ0.out HZ1.out HZ2.out rfl (by decide) _ _ _ rfl (World.ownsRow.alloc hown _) ⟨wr.heap.size, 0, none⟩ 1 1 [.string x.user] rfl rfl ?c1 ?c2 ?c3 ?c4 ?c5 ?_)
        case c1 => exact World.news_of_block (cs := #[.string x.user]) (t := 9) (fr := (0, 0)) (by first | exact heap_alloc_new _ _ | (simpa using heap_alloc_new (wr.alloc (.cells #[.string x.user, .int .i64 x.til] 68)) _))
        case c2 => simp [Value.oneCell']
        case c3 => unfold maxLen; omega
        case c4 => omega
        case c5 => simp; omega
        intro v' w' hown' hgrow _
        have hbw3 : Below w.heap.size w w' := (Below.alloc hbw (by first | omega | (simp; omega)) _).grown hgrow (by simp; omega) (fun j hj => by have := (World.ownsRow.lt hown _ hj).1; omega)
        have hown3 : OwnStrs w' w.heap.size v' (((l.take (k + 1)).filter f).map T.nm) := by
          rw [HF.out]; exact own_snoc (by simp) hown'
        clear hown' hgrow
        go_wp2_with fail
        exact ⟨⟨k + 1, hk1, by go_num, hbw3, hown3⟩, by simp [intOf]; omega⟩
      · have HF : Hid ((l.take (k + 1)).filter f = (l.take k).filter f) := by
          show _ = _
          rw [HT.out, if_neg (by rw [HFX.out]; simpa using ht), List.append_nil]
        go_wp2_with fail
        exact ⟨⟨k + 1, hk1, by go_num, hbw, by rw [HF.out, ← HLL.out]; exact hown⟩, by simp [intOf]; omega⟩
    · have hF : l.take k = l := List.take_of_length_le (by have := HL.out; omega)
      rw [hF] at hL
      have hlen2 : L.length ≤ n := by
        rw [hL, List.length_map]
        have h1 := List.length_filter_le f l
        have := HL.out; omega
      obtain ⟨A2, c2, rfl, hS⟩ := hown.form'
      have HLL := Lib.hid hL
      clear hF hown hL
      go_wp2_with fail
      refine (rnames_any A2 L.length c2 (L.map mk) wr hS (by omega)).mono ?_
      rintro e w5 ⟨v5, rfl, b5, hown5⟩
      go_wp2_with fail
      go_ret
      refine ⟨v5, rfl, below_then hbw b5, ?_⟩
      rw [show bss (L.map mk) = L from map_bs_mk _, HLL.out, ← HNOW.out] at hown5
      exact World.ownsRow.mono (base' := w.heap.size) hown5 hbw.size

def hasB (l : List (List UInt8)) (u : List UInt8) : Bool := decide (u ∈ l)
def HasNot (l : List ByteArray) (s : ByteArray) (k : Nat) : Prop := ∀ (j : Nat) x, l[j]? = some x → j < k → x ≠ s
theorem hasNot_all {l : List ByteArray} {s : ByteArray} {k : Nat} (h : HasNot l s k) (hk : l.length ≤ k) : hasB (bss l) (bs s) = false := by
  unfold hasB
  rw [decide_eq_false_iff_not]
  intro hm
  obtain ⟨x, hx, e⟩ := List.mem_map.1 hm
  obtain ⟨j, hj, rfl⟩ := List.mem_iff_getElem.1 hx
  exact h j _ (List.getElem?_eq_getElem hj) (by omega) (bs_inj e)
theorem has_yes {l : List ByteArray} {s : ByteArray} {k : Nat} (h : l[k]? = some s) : hasB (bss l) (bs s) = true := by
  unfold hasB
  rw [decide_eq_true_eq]; exact List.mem_map_of_mem (List.mem_of_getElem? h)

set_option maxRecDepth 100000 in
set_option maxHeartbeats 1000000 in
theorem thas_any (A : Option Addr) (n c : Nat) (l : List ByteArray) (s : ByteArray) (w : World) (hr : Strs w A n l) (hn : n ≤ 1000000) :
    Calls Try.prog 29 #[.slice A n c, .string s] w (Same w (.bool (hasB (bss l) (bs s)))) := by
  have HL := Lib.hid hr.length
  go_enter Try.func29, Try.ntmps29
  go_wp2
  go_loop [5] (fun i => ∃ k : Nat, k ≤ l.length ∧ i = .int .i64 k ∧ HasNot l s k) (fun i => n - (intOf i).toNat)
  case atStart => exact ⟨0, by omega, rfl, fun j _ _ h => by omega⟩
  case round =>
    obtain ⟨k, hk, rfl, hb⟩ := hrel
    by_cases hlt : k < n
    · obtain ⟨ad, x, rfl, hadb, hu, hc⟩ := hr.at_ hlt
      have hk1 : k + 1 ≤ l.length := by have := HL.out; omega
      by_cases hxs : x = s
      · subst hxs
        have HF := Lib.hid (has_yes hu)
        clear hu hb
        go_wp2_with fail
        go_ret
        exact ⟨by rw [HF.out]; rfl, rfl⟩
      · have es : (x.toList == s.toList) = false := by rw [streq']; simpa using hxs
        have HB : Hid (HasNot l s (k + 1)) := fun j y hy hj => by
          rcases Nat.lt_or_ge j k with h1 | h1
          · exact hb j y hy h1
          · obtain rfl : j = k := by omega
            rw [hu] at hy; cases hy; exact hxs
        clear hu hb
        go_wp2_with fail
        exact ⟨⟨k + 1, hk1, by go_num, HB⟩, by simp [intOf]; omega⟩
    · have HF := Lib.hid (hasNot_all hb (by have := HL.out; omega))
      clear hb
      go_wp2_with fail
      go_ret
      exact ⟨by rw [HF.out]; rfl, rfl⟩

def WInv (w : World) (l : List (List UInt8)) (u : List UInt8) (out i : Value) (wr : World) : Prop :=
  ∃ k : Nat, k ≤ l.length ∧ i = .int .i64 k ∧ Below w.heap.size w wr ∧ OwnStrs wr w.heap.size out (T.without (l.take k) u)
theorem without_snoc {l : List (List UInt8)} {u x : List UInt8} {k : Nat} (h : l[k]? = some x) : T.without (l.take (k + 1)) u = T.without (l.take k) u ++ if x = u then [] else [x] := by
  unfold T.without
  rw [take_snoc' h, List.filter_append]
  congr 1
  by_cases hx : x = u <;> simp [hx]
set_option maxRecDepth 100000 in
set_option maxHeartbeats 2000000 in
theorem twithout_any (A : Option Addr) (n c : Nat) (l : List ByteArray) (u : ByteArray) (w : World) (hr : Strs w A n l) (hn : n ≤ 1000000) :
    Calls Try.prog 30 #[.slice A n c, .string u] w fun e w' => ∃ v, e = .returned v ∧ Below w.heap.size w w' ∧ OwnStrs w' w.heap.size v (T.without (bss l) (bs u)) := by
  obtain ⟨i0, hi, hz0, hz1, hz2⟩ := info_parts infoStr
  have HI := Lib.hid hi; have HZ0 := Lib.hid hz0; have HZ1 := Lib.hid hz1; have HZ2 := Lib.hid hz2
  clear hi hz0 hz1 hz2
  have HL := Lib.hid (show n = (bss l).length by rw [List.length_map]; exact hr.length.symm)
  go_enter Try.func30, Try.ntmps30
  go_wp2_with fail
  go_loopw [5, 6] (fun out i wr => WInv w (bss l) (bs u) out i wr) (fun _ i _ => n - (intOf i).toNat)
  case atStart => exact ⟨0, by omega, rfl, Below.refl _ _, World.ownsRow_nil _ _ _ _⟩
  case round =>
    obtain ⟨k, hk, rfl, hbw, hown⟩ := hrel
    obtain ⟨L, hL⟩ : ∃ L, L = T.without ((bss l).take k) (bs u) := ⟨_, rfl⟩
    rw [← hL] at hown
    by_cases hlt : k < n
    · obtain ⟨ad, x, rfl, hadb, hu, hc⟩ := (hr.on hbw).at_ hlt
      have HT := Lib.hid (without_snoc (u := bs u) (show (bss l)[k]? = some (bs x) by simp [hu]))
      have hk1 : k + 1 ≤ (bss l).length := by have := HL.out; omega
      have hlen : L.length ≤ k := by rw [hL]; exact Nat.le_trans (List.length_filter_le _ _) (List.length_take_le _ _)
      have hsz := hbw.size
      have HLL := Lib.hid hL
      clear hu hL
      by_cases ht : x = u
      · have es : (x.toList == u.toList) = true := by rw [streq']; simpa using ht
        have HF : Hid (T.without ((bss l).take (k + 1)) (bs u) = L) := by
          show _ = _
          rw [HT.out, if_pos (by rw [ht]), List.append_nil, HLL.out]
        clear ht
        go_wp2_with fail
        exact ⟨⟨k + 1, hk1, by go_num, hbw, by rw [HF.out]; exact hown⟩, by simp [intOf]; omega⟩
      · have es : (x.toList == u.toList) = false := by rw [streq']; simpa using ht
        have HF : Hid (T.without ((bss l).take (k + 1)) (bs u) = L ++ [bs x]) := by
          show _ = _
          rw [HT.out, if_neg (fun e => ht (bs_inj e)), HLL.out]
        clear ht
        go_wp2_with (at_builtin; refine wpList_append_own _ rfl _ _ 36 rfl w.heap.size 9 i0 (.string .empty) 1 16 Try.underlying36 HI.out HZ0.out HZ1.out HZ2.out rfl (by decide) _ _ _ rfl (World.ownsRow.alloc hown _) ⟨wr.heap.size, 0, none⟩ 1 1 [.string x] rfl rfl ?c1 ?c2 ?c3 ?c4 ?c5 ?_)
        case c1 => exact World.news_of_block (cs := #[.string x]) (t := 9) (fr := (0, 0)) (by first | exact heap_alloc_new _ _ | (simpa using heap_alloc_new (wr.alloc (.cells #[.string x.user, .int .i64 x.til] 68)) _))
        case c2 => simp [Value.oneCell']
        case c3 => unfold maxLen; omega
        case c4 => omega
        case c5 => simp; omega
        intro v' w' hown' hgrow _
        have hbw3 : Below w.heap.size w w' := (Below.alloc hbw (by first | omega | (simp; omega)) _).grown hgrow (by simp; omega) (fun j hj => by have := (World.ownsRow.lt hown _ hj).1; omega)
        have hown3 : OwnStrs w' w.heap.size v' (T.without ((bss l).take (k + 1)) (bs u)) := by
          rw [HF.out]; exact own_snoc (by simp) hown'
        clear hown' hgrow
        go_wp2_with fail
        exact ⟨⟨k + 1, hk1, by go_num, hbw3, hown3⟩, by simp [intOf]; omega⟩
    · have hF : (bss l).take k = bss l := List.take_of_length_le (by have := HL.out; omega)
      rw [hF] at hL
      have HLL := Lib.hid hL
      clear hF hL
      go_wp2_with fail
      go_ret
      exact ⟨u5, rfl, hbw, by rw [← HLL.out]; exact hown⟩

/-! ### Same, of equal lists; Great; the reference's Check -/
set_option maxRecDepth 100000 in
set_option maxHeartbeats 1000000 in
theorem tsame_any (A B : Option Addr) (n c d : Nat) (l : List Typ) (w : World) (ha : Typs w A n l) (hb : Typs w B n l) (hn : n ≤ 1000000) :
    Calls Try.prog 21 #[.slice A n c, .slice B n d] w (Ret w (.bool true)) := by
  go_enter Try.func21, Try.ntmps21
  go_wp2_with fail
  go_loopw [5] (fun i wr => ∃ k : Nat, k ≤ n ∧ i = .int .i64 k ∧ Below w.heap.size w wr) (fun i _ => n - (intOf i).toNat)
  case atStart => exact ⟨0, by omega, rfl, Below.refl _ _⟩
  case round =>
    obtain ⟨k, hk, rfl, hbw⟩ := hrel
    by_cases hlt : k < n
    · obtain ⟨b1, o1, x, rfl, _, hu, _, _, p0, p1⟩ := (ha.on hbw).at_ hlt
      obtain ⟨b2, o2, y, rfl, _, hv, _, _, q0, q1⟩ := (hb.on hbw).at_ hlt
      obtain rfl : x = y := by rw [hu] at hv; cases hv; rfl
      have hk0 : (k : Int) < n := by omega
      clear hu hv
      go_wp2_with fail
      go_quiet (fail)
      go_wp2_with fail
      exact ⟨⟨k + 1, by omega, by go_num, below_drewN hbw _⟩, by simp [intOf]; omega⟩
    · go_wp2_with fail
      go_ret
      exact ⟨rfl, hbw⟩

/-- it returns some bool b of which P b holds -/
def SomeT (P : Bool → Prop) (w : World) (e : Ending) (w' : World) : Prop := ∃ b, e = .returned (.bool b) ∧ P b ∧ w = w'
set_option maxRecDepth 100000 in
set_option maxHeartbeats 1000000 in
theorem tgreat_any (A : Option Addr) (n c : Nat) (l : List Typ) (w : World) (hr : Typs w A n l) (hn : n ≤ maxLen) :
    Calls Try.prog 15 #[.slice A n c] w (SomeT (fun b => b = false → n ≤ 40) w) := by
  unfold maxLen at hn
  by_cases h40 : (40 : Int) < n
  · go_enter Try.func15, Try.ntmps15
    go_wp2_with fail
    go_ret
    exact ⟨true, rfl, by simp, rfl⟩
  · go_enter Try.func15, Try.ntmps15
    go_wp2_with fail
    go_loop [3] (fun i => ∃ k : Nat, k ≤ n ∧ i = .int .i64 k) (fun i => n - (intOf i).toNat)
    case atStart => exact ⟨0, by omega, rfl⟩
    case round =>
      obtain ⟨k, hk, rfl⟩ := hrel
      by_cases hlt : k < n
      · obtain ⟨b, o, x, rfl, _, _, _, _, p0, p1⟩ := hr.at_ hlt
        by_cases hz : (200 : Int) < (x.user.size : Nat)
        · go_wp2_with fail
          go_ret
          exact ⟨true, rfl, by simp, rfl⟩
        · go_wp2_with fail
          exact ⟨⟨k + 1, by omega, by go_num⟩, by simp [intOf]; omega⟩
      · go_wp2_with fail
        go_ret
        exact ⟨false, rfl, fun _ => by omega, rfl⟩

set_option maxRecDepth 100000 in
set_option maxHeartbeats 2000000 in
theorem rtcheck_any (A : Option Addr) (n c : Nat) (l : List Typ) (w : World) (hr : Typs w A n l) (hn : n ≤ maxLen) :
    Calls Try.prog 17 #[.slice A n c] w (TypErr w (T.chk none l)) := by
  unfold maxLen at hn
  have HL := Lib.hid (Rd.Holds.length hr)
  go_enter Try.func17, Try.ntmps17
  go_wp2_with fail
  go_loopw [3] (fun i wr => ∃ k : Nat, k ≤ l.length ∧ i = .int .i64 k ∧ Below w.heap.size w wr ∧ T.At l k = T.chk none l) (fun i _ => n - (intOf i).toNat)
  case atStart => exact ⟨0, by omega, rfl, Below.refl _ _, T.at_zero l⟩
  case round =>
    obtain ⟨k, hk, rfl, hb1, hat⟩ := hrel
    by_cases hlt : k < n
    · obtain ⟨b, o, x, rfl, hbb, hu, hz, hti, h0, h1⟩ := (hr.on hb1).at_ hlt
      have HAT := Lib.hid hat; have HU := Lib.hid hu
      have hk1 : k + 1 ≤ l.length := by have := HL.out; omega
      have hkn : (k : Int) < n := by omega
      clear hat hu
      have HC := Lib.hid (ruser_any x.user wr hz)
      cases hub : I.userB (bs x.user)
      · have HF := Lib.hid ((HAT.out.symm).trans (T.at_user HU.out hub))
        have HC2 := HC.out
        rw [hub] at HC2
        have HC3 := Lib.hid HC2
        clear hub HC HC2
        go_wp2_with fail
        refine HC3.out.mono ?_
        rintro e W1 ⟨rfl, rfl⟩
        simp only [I.errOf]
        go_wp2_with fail
        go_ret
        exact ⟨ret_int HF.out.symm, hb1⟩
      · have HC2 := HC.out
        rw [hub] at HC2
        have HC3 := Lib.hid HC2
        have HUB := Lib.hid hub
        clear hub HC HC2
        by_cases hr1 : x.til < 1
        · have HF := Lib.hid ((HAT.out.symm).trans (T.at_range HU.out HUB.out (.inl hr1)))
          go_wp2_with fail
          refine HC3.out.mono ?_
          rintro e W1 ⟨rfl, rfl⟩
          simp only [I.errOf]
          go_wp2_with fail
          go_ret
          exact ⟨ret_int HF.out.symm, hb1⟩
        by_cases hr2 : 1000030000 < x.til
        · have HF := Lib.hid ((HAT.out.symm).trans (T.at_range HU.out HUB.out (.inr hr2)))
          go_wp2_with fail
          refine HC3.out.mono ?_
          rintro e W1 ⟨rfl, rfl⟩
          simp only [I.errOf]
          go_wp2_with fail
          go_ret
          exact ⟨ret_int HF.out.symm, hb1⟩
        have hrr : ¬ (x.til < 1 ∨ 1000030000 < x.til) := by omega
        rcases Nat.eq_zero_or_pos k with hk0 | hk0
        · have hd : decide (0 < k) = false := by simp; omega
          have HN : Hid (T.At l (k + 1) = T.chk none l) := by
            subst hk0
            exact (T.at_next0 HU.out HUB.out hrr).symm.trans HAT.out
          have HK0 := Lib.hid hk0; clear hk0 hrr
          go_wp2_with fail
          refine HC3.out.mono ?_
          rintro e W1 ⟨rfl, rfl⟩
          simp only [I.errOf]
          go_wp2_with fail
          go_quiet (fail)
          go_wp2_with fail
          exact ⟨⟨k + 1, hk1, by go_num, below_drewN hb1 _, HN.out⟩, by simp [intOf]; omega⟩
        · obtain ⟨j, hkj⟩ : ∃ j, k = j + 1 := ⟨k - 1, by omega⟩
          obtain ⟨b', o', y, h', _, hv, _, _, p0, _⟩ := (hr.on hb1).at_ (show j < n by omega)
          cases h'
          have hd : decide (0 < k) = true := by simp; omega
          have hw1 : IntKind.i64.wrap ((k : Int) - 1) = (j : Int) := by rw [show (k : Int) - 1 = (j : Int) by omega]; exact IntWalk.i64_in _ (by omega)
          have hjn : (j : Int) < n := by omega
          by_cases hlt2 : bs y.user < bs x.user
          · obtain ⟨e1, e2⟩ := not_less hlt2
            have HN : Hid (T.At l (k + 1) = T.chk none l) := by
              subst hkj
              exact (T.at_next hv HU.out HUB.out hrr hlt2).symm.trans HAT.out
            have HKJ := Lib.hid hkj; clear hkj hrr hv hlt2 hk0
            go_wp2_with fail
            refine HC3.out.mono ?_
            rintro e W1 ⟨rfl, rfl⟩
            simp only [I.errOf]
            go_wp2_with fail
            go_quiet (fail)
            go_wp2_with fail
            exact ⟨⟨k + 1, hk1, by go_num, below_drewN hb1 _, HN.out⟩, by simp [intOf]; omega⟩
          · have HF : Hid (T.chk none l = 8) := by
              subst hkj
              exact HAT.out.symm.trans (T.at_order hv HU.out HUB.out hrr hlt2)
            have HKJ := Lib.hid hkj; clear hkj hrr hv hk0
            rcases Nm.lt_or (bs x.user) (bs y.user) with h | h | h
            · have e1 : Op.bytesLess x.user.toList y.user.toList = true := by rw [bytesLess_lt]; exact decide_eq_true h
              clear h hlt2
              go_wp2_with fail
              refine HC3.out.mono ?_
              rintro e W1 ⟨rfl, rfl⟩
              simp only [I.errOf]
              go_wp2_with fail
              go_quiet (fail)
              go_wp2_with fail
              go_ret
              exact ⟨ret_int HF.out.symm, below_drewN hb1 _⟩
            · have e1 : (x.user.toList == y.user.toList) = true := by rw [streq]; exact decide_eq_true h
              clear h hlt2
              go_wp2_with fail
              refine HC3.out.mono ?_
              rintro e W1 ⟨rfl, rfl⟩
              simp only [I.errOf]
              go_wp2_with fail
              go_quiet (fail)
              go_wp2_with fail
              go_ret
              exact ⟨ret_int HF.out.symm, below_drewN hb1 _⟩
            · exact absurd h hlt2
    · have hf : T.chk none l = 0 := by rw [← hat]; exact T.at_end (by have := HL.out; omega)
      have HF := Lib.hid hf; clear hf hat
      go_wp2_with fail
      go_ret
      exact ⟨ret_int HF.out.symm, hb1⟩
end Go.Proofs.Ytbhkgdfmjkblcaa
