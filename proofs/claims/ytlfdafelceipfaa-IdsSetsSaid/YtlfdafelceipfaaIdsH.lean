/-
  The walk through the law IdsSets.
-/
import Derived.Test.YtlfdafelceipfaaSetsP
import Derived.Deep.RegionHeld3
import Derived.Deep.RegionLaw
import Derived.BigQuiet
import Derived.IntWalk
namespace Go.Proofs.Ytlfdafelceipfaa
open Go.RowKit

theorem qsame {P : Program} {f : FuncId} {args : Array Value} {w : World} {n : Nat} {v : Value}
    (h : ∀ W : World, Below w.heap.size w W → Calls P f args W (Same W v)) : Calls P f args (w.drewN n) fun e w'' => e = .returned v ∧ ∃ m, w'' = w.drewN m :=
  (h _ (below_drewN (Below.refl _ _) n)).mono fun _ _ ⟨he, hm⟩ => ⟨he, n, hm.symm⟩
theorem bss_mk (l : List (List UInt8)) : bss (l.map mk) = l := map_bs_mk l

def Sets1 (w : World) (N : List (List UInt8)) (i : Value) (wr : World) : Prop := ∃ k : Nat, k ≤ N.length ∧ i = .int .i64 k ∧ Below w.heap.size w wr
def Sets2 (w : World) (l : List ByteArray) (m i : Value) (wr : World) : Prop :=
  ∃ (k : Nat) (M : List (List UInt8)), k ≤ l.length ∧ i = .int .i64 k ∧ Below w.heap.size w wr ∧ OwnStrs wr w.heap.size m M ∧ Mixed l k M

set_option maxRecDepth 100000 in
set_option maxHeartbeats 4000000 in
theorem idsSets_any (A : Option Addr) (n c : Nat) (l : List ByteArray) (t : UInt8) (w : World) (hr : Strs w A n l) (hn : n ≤ maxLen) (hx : ∀ x ∈ l, x.size ≤ maxLen) :
    Calls Try.prog 8 #[.slice A n c, .int .u8 t.toNat] w (Ret w (.bool true)) := by
  unfold maxLen at hn
  by_cases h60 : 60 < n
  · have h60' : (60 : Int) < n := by omega
    go_enter Try.func8, Try.ntmps8
    go_wp2_with fail
    refine (iawake_any _).mono ?_
    rintro e w3 ⟨rfl, b3⟩
    go_wp2_with fail
    go_ret
    exact ⟨rfl, b3⟩
  have h60' : ¬ (60 : Int) < n := by omega
  have htn : t.toNat < 256 := t.toNat_lt
  have htn2 : (t.toNat : Int) < 256 := by omega
  have HL := Lib.hid hr.length
  have HX := Lib.hid hx; clear hx
  obtain ⟨i0, hi, hz0, hz1, hz2⟩ := info_parts infoStr
  have HI := Lib.hid hi; have HZ0 := Lib.hid hz0; have HZ1 := Lib.hid hz1; have HZ2 := Lib.hid hz2
  clear hi hz0 hz1 hz2
  go_enter Try.func8, Try.ntmps8
  go_wp2_with fail
  refine (names_any A n c l w hr (by omega) HX.out).mono ?_
  rintro e w1 ⟨v1, rfl, b1, hown1⟩
  obtain ⟨A1, c1, rfl, hS1⟩ := hown1.form
  have hinc := Nm.names_inc (bss l)
  have hmem := Nm.mem_names (bss l)
  have hNl : (Nm.names (bss l)).length ≤ n := by
    have h1 := Nm.names_length (bss l)
    have h2 : (bss l).length = l.length := by simp
    have := HL.out; omega
  have HN : Hid (Nm.names (bss l) = Nm.names (bss l)) := Lib.hid rfl
  obtain ⟨N, hN⟩ : ∃ N, N = Nm.names (bss l) := ⟨_, rfl⟩
  rw [← hN] at hinc hmem hNl hS1 ⊢
  clear HN hown1
  have HN := Lib.hid hN; clear hN
  have HINC := Lib.hid hinc; have HMEM := Lib.hid hmem; clear hinc hmem
  have hS0 := hr.on b1
  have b1' := b1
  go_wp2_with fail
  go_loopw [6] (fun i wr => Sets1 w1 N i wr) (fun i _ => N.length - (intOf i).toNat)
  case atStart => exact ⟨0, by omega, rfl, Below.refl _ _⟩
  case round =>
    obtain ⟨k, hk, rfl, hbw⟩ := hrel
    by_cases hlt : k < N.length
    · obtain ⟨y, hy⟩ : ∃ y, N[k]? = some y := ⟨_, List.getElem?_eq_getElem hlt⟩
      obtain ⟨ad, x, rfl, hadb, hu, hc⟩ := (hS1.on hbw).at_ hlt
      obtain rfl : mk y = x := by simpa [hy] using hu
      clear hu
      have hyl : y ∈ bss l := (HMEM.out y).1 (List.mem_of_getElem? hy)
      obtain ⟨k1, hk1, hk1d⟩ : ∃ k1 : Int, findI (bss l) y = k1 ∧ decide (k1 < 0) = false := by
        obtain ⟨q, hq, _⟩ := findI_mem hyl
        exact ⟨q, hq, by simp⟩
      have hf1 : ∀ W : World, Below wr.heap.size wr W → Calls Try.prog 31 #[.slice A n c, .string (mk y)] W (Same W (.int .i64 k1)) := fun W hW => by
        have := find_any A n c l (mk y) W ((hS0.on hbw).on hW) (by omega)
        rwa [bs_mk, hk1] at this
      have hf2 : ∀ W : World, Below wr.heap.size wr W → Calls Try.prog 31 #[.slice (some ad) N.length c1, .string (mk y)] W (Same W (.int .i64 k)) := fun W hW => by
        have := find_any (some ad) N.length c1 (N.map mk) (mk y) W ((hS1.on hbw).on hW) (by omega)
        rwa [bs_mk, bss_mk, findI_nodup HINC.out.nodup hy] at this
      have H1 := Lib.hid hf1; have H2 := Lib.hid hf2; clear hf1 hf2 hk1 hyl
      have hk0 : (0 : Int) ≤ k := by omega
      have hkn : (k : Int) < N.length := by omega
      rcases Nat.eq_zero_or_pos k with h0 | h0
      · subst h0
        have hc0 : wr.cell? ad = some (.string (mk y)) := by simpa [Addr.add] using hc
        clear hy hk0 hkn
        rw [show ((0 : Nat) : Int) = 0 from rfl] at H2 ⊢
        have hkn : (0 : Int) < N.length := by omega
        have hkn' : 0 < N.length := by omega
        go_wp2_with fail
        go_quiet ((first | (go_at_call_of 31 (Value.slice A n c); exact qsame H1.out) | (go_at_call 31; exact qsame H2.out)))
        go_wp2_with fail
        exact ⟨⟨1, by omega, by go_num, below_drewN hbw _⟩, by simp [intOf]; omega⟩
      · obtain ⟨j, hkj⟩ : ∃ j, k = j + 1 := ⟨k - 1, by omega⟩
        obtain ⟨z, hz⟩ : ∃ z, N[j]? = some z := ⟨_, List.getElem?_eq_getElem (by omega)⟩
        obtain ⟨ad', x', h', _, hu', hc'⟩ := (hS1.on hbw).at_ (show j < N.length by omega)
        cases h'
        obtain rfl : mk z = x' := by simpa [hz] using hu'
        have hzy : z < y := inc_at HINC.out (show j < k by omega) hz hy
        have hless : Op.bytesLess (mk z).toList (mk y).toList = true := by rw [bytesLess_lt, bs_mk, bs_mk]; simpa using hzy
        clear hu' hy hz hzy
        have hjn : (j : Int) < N.length := by omega
        have hw1 : IntKind.i64.wrap ((k : Int) - 1) = (j : Int) := by rw [show (k : Int) - 1 = (j : Int) by omega]; exact IntWalk.i64_in _ (by omega)
        have hd : decide (0 < k) = true := by simp; omega
        have HKJ := Lib.hid hkj; clear hkj h0
        go_wp2_with fail
        go_quiet ((first | (go_at_call_of 31 (Value.slice A n c); exact qsame H1.out) | (go_at_call 31; exact qsame H2.out)))
        go_wp2_with fail
        exact ⟨⟨k + 1, by omega, by go_num, below_drewN hbw _⟩, by simp [intOf]; omega⟩
    · have hb2 := below_then b1 hbw
      obtain ⟨w2, rfl⟩ : ∃ w2 : World, w2 = wr := ⟨_, rfl⟩
      have hS2 := hS1.on hbw
      go_wp2_with fail
      go_loopw [7, 8] (fun m i wr => Sets2 w2 l m i wr) (fun _ i _ => n - (intOf i).toNat)
      case atStart => exact ⟨0, [], by omega, rfl, Below.refl _ _, World.ownsRow_nil _ _ _ _, Mixed.zero l⟩
      case round =>
        clear hbw
        obtain ⟨k, M, hk, rfl, hbw, hown, hmix⟩ := hrel
        have hml : M.length = k + k := hmix.1
        by_cases hlt2 : k < n
        · obtain ⟨ad, x, rfl, hadb, hu, hc⟩ := ((hr.on hb2).on hbw).at_ hlt2
          have hxm : bs x ∈ N := (HMEM.out _).2 (List.mem_map_of_mem (List.mem_of_getElem? hu))
          obtain ⟨q, hq, hqN⟩ := findI_mem hxm
          obtain ⟨bd, x', rfl, hbdb, hu', hc'⟩ := (hS2.on hbw).at_ (k := q) (by have := (List.getElem?_eq_some_iff.1 hqN).1; omega)
          obtain rfl : x = x' := by
            have : some x' = some (mk (bs x)) := by rw [← hu']; simp [hqN]
            rw [mk_bs] at this; cases this; rfl
          have hf := find_any (some bd) N.length c1 (N.map mk) x wr (hS2.on hbw) (by omega)
          rw [bss_mk, hq] at hf
          have HF := Lib.hid hf; clear hf
          have hqn : (q : Int) < N.length := by have := (List.getElem?_eq_some_iff.1 hqN).1; omega
          have HU := Lib.hid hu; have HMIX := Lib.hid hmix
          have HML := Lib.hid hml
          have hk1 : k + 1 ≤ l.length := by have := HL.out; omega
          have hkn : (k : Int) < n := by omega
          clear hu hu' hq hqN hxm hmix hml
          have es : (x.toList != x.toList) = false := by simp
          have hqd : decide ((q : Int) < 0) = false := by simp
          have hqd2 : decide ((N.length : Int) ≤ (q : Int)) = false := by simp; omega
          have hqd3 : decide (N.length ≤ q) = false := by simp; omega
          go_wp2_with fail
          refine HF.out.mono ?_
          rintro e wf ⟨rfl, rfl⟩
          go_wp2_with fail
          go_quiet (fail)
          have hbq : Below w2.heap.size w2 (wr.drewN nq) := below_drewN hbw nq
          have hownq : OwnStrs (wr.drewN nq) w2.heap.size u7 M := hown
          generalize wr.drewN nq = wq at hbq hownq ⊢
          clear hc hc' hbw hown es hqd hqd2 hqd3 hqn hadb hbdb
          obtain ⟨ad', x', h', hadb, hu', hc⟩ := ((hr.on hb2).on hbq).at_ hlt2
          cases h'
          obtain rfl : x = x' := by rw [HU.out] at hu'; cases hu'; rfl
          obtain ⟨i2, hi2⟩ : ∃ i2, i2 = (n - 1 - k + t.toNat) % n := ⟨_, rfl⟩
          have hi2n : i2 < n := by rw [hi2]; exact Nat.mod_lt _ (by omega)
          obtain ⟨ad', y, h', _, hv, hcy⟩ := ((hr.on hb2).on hbq).at_ hi2n
          cases h'
          obtain ⟨a1, ha1⟩ : ∃ a1, a1 = n - 1 := ⟨_, rfl⟩
          obtain ⟨a2, ha2⟩ : ∃ a2, a2 = a1 - k := ⟨_, rfl⟩
          obtain ⟨a3, ha3⟩ : ∃ a3, a3 = a2 + t.toNat := ⟨_, rfl⟩
          have e1 : IntKind.i64.wrap ((n : Int) - 1) = (a1 : Int) := by rw [show (n : Int) - 1 = (a1 : Int) by omega]; exact IntWalk.i64_in _ (by omega)
          have e2 : IntKind.i64.wrap ((a1 : Int) - (k : Int)) = (a2 : Int) := by rw [show (a1 : Int) - (k : Int) = (a2 : Int) by omega]; exact IntWalk.i64_in _ (by omega)
          have e3 : IntKind.i64.wrap ((a2 : Int) + (t.toNat : Int)) = (a3 : Int) := by rw [show (a2 : Int) + (t.toNat : Int) = (a3 : Int) by omega]; exact IntWalk.i64_in _ (by omega)
          have e4 : IntKind.i64.wrap (t.toNat : Int) = (t.toNat : Int) := IntWalk.i64_in _ (by omega)
          have e5 : Int.tmod (a3 : Int) (n : Int) = (i2 : Int) := by rw [hi2, ha3, ha2, ha1]; rfl
          have e6 : IntKind.i64.wrap (i2 : Int) = (i2 : Int) := IntWalk.i64_in _ (by omega)
          have hn0 : ((n : Int) == 0) = false := by simp; omega
          have hn1 : ¬ (n : Int) = 0 := by omega
          have hn2 : ¬ n = 0 := by omega
          have hn3 : (n == 0) = false := by simp; omega
          have hadw : ad.block < w2.heap.size := by
            obtain ⟨_, _, h', hb', _, _⟩ := (hr.on hb2).at_ hlt2
            cases h'; exact hb'
          have hne : u7.ownBlock ≠ some ad.block := fun e => by have := (World.ownsRow.lt hownq _ e).1; omega
          have HNE := Lib.hid hne; clear hne
          have hi2i : (i2 : Int) < n := by omega
          have hi20 : (0 : Int) ≤ i2 := by omega
          have hlenM : M.length ≤ 120 := by have := HML.out; omega
          have hsz := hbq.size
          have HV := Lib.hid hv
          have HFACT := Lib.hid (hc.trans rfl)
          clear hv hu' hi2 ha1 ha2 ha3
          go_wp2_with fail
          go_region_held3 (fun w' => w'.cell? (ad.add k) = some (.string x) ∧ w'.cell? (ad.add i2) = some (.string y)) (first | go_keep | (go_split_ands; refine ⟨?_, ?_⟩ <;> (rw [hgrow.cell_far _ (by rw [block_of_add]; simp; omega) (by rw [block_of_add]; exact Ne.symm HNE.out)]; assumption)))
            ((refine step_append_lies _ (by rfl) _ _ _ (by rfl) w2.heap.size 9 i0 (.string .empty) 1 16 Try.underlying30 HI.out HZ0.out HZ1.out HZ2.out rfl (by decide) u7 M.length (M.map encStr) (by rfl) (World.ownsRow.drew (World.ownsRow.alloc hownq _)) ⟨wq.heap.size, 0, none⟩ 2 2 [.string y, .string x] (by rfl) (by rfl) (World.news_of_block (cs := #[.string y, .string x]) (t := 9) (fr := (0, 0)) (heap_alloc_new wq _)) (by simp [Value.oneCell']) (by omega) (by unfold maxLen; omega) (by omega) (by simp; omega) (wq.heap.size + 1) (by simp) ?_; intro gg cap w5 hown5 hgrow hat hlt5))
          have hb5 : Below w2.heap.size w2 w5 := (Below.drew (hbq.alloc (by omega) _)).grown hgrow (by simp; omega) (fun j hj => by have := (World.ownsRow.lt hownq _ hj).1; omega)
          have hM5 := Mixed.succ HMIX.out HV.out HU.out
          have hown6 : OwnStrs w5 w2.heap.size (.slice (some ⟨gg, 0, none⟩) (M.length + 2) cap) (M ++ [bs y, bs x]) := by
            unfold OwnStrs
            rw [List.length_append, List.map_append]
            have : ([bs y, bs x].map encStr) = [Value.string y, Value.string x] := by simp [encStr]
            rw [this]; exact hown5
          have HFIN := Lib.hid (show Sets2 w2 l (.slice (some ⟨gg, 0, none⟩) (M.length + 2) cap) (.int .i64 ((k : Int) + 1)) w5 from ⟨k + 1, _, hk1, by go_num, hb5, hown6, hM5⟩)
          clear hb5 hM5 hown6 hown5 hgrow hat hlt5 hc hcy e1 e2 e3 e4 e5 e6
          go_wp2_with fail
          exact ⟨HFIN.out, by simp [intOf]; omega⟩
        · have hkl : k = l.length := by have := HL.out; omega
          subst hkl
          have hnm := hmix.names
          rw [← HN.out] at hnm
          obtain ⟨Am, cm, rfl, hSm⟩ := hown.form
          have HNM := Lib.hid hnm
          have HML := Lib.hid hml
          have hm120 : M.length ≤ 120 := by have := HL.out; omega
          have hxm : ∀ x ∈ M.map mk, x.size ≤ maxLen := fun x hx => by
            obtain ⟨z, hz, rfl⟩ := List.mem_map.1 hx
            obtain ⟨u, hu, rfl⟩ := List.mem_map.1 (hmix.2.1 z hz)
            rw [mk_bs]; exact HX.out u hu
          have hxn : ∀ x ∈ N.map mk, x.size ≤ maxLen := fun x hx => by
            obtain ⟨z, hz, rfl⟩ := List.mem_map.1 hx
            obtain ⟨u, hu, rfl⟩ := List.mem_map.1 ((HMEM.out z).1 hz)
            rw [mk_bs]; exact HX.out u hu
          have HXM := Lib.hid hxm; have HXN := Lib.hid hxn
          have hS3 := hS2.on hbw
          have c0 := below_then hb2 hbw
          clear hnm hml hxm hxn hmix hown hbw hb2
          go_wp2_with fail
          refine (names_any Am M.length cm (M.map mk) wr hSm (by omega) HXM.out).mono ?_
          rintro e w6 ⟨v6, rfl, b6, hown6⟩
          rw [bss_mk, HNM.out] at hown6
          obtain ⟨A6, c6, rfl, hS6⟩ := hown6.form
          have c1' := below_then c0 b6
          go_wp2_with fail
          have hn6 : (Nm.names N).length ≤ 1000000 := by have := Nm.names_length N; omega
          rw [Nm.names_of_inc HINC.out] at hn6
          refine (same_call _ _ _ _ _ _ _ _ _ true (by simp) hS6 (hS3.on b6) (by omega)).mono ?_
          rintro e w7 ⟨rfl, b7⟩
          have c7 := below_then c1' b7
          have hS7 := (hS3.on b6).on b7
          clear hown6 hS6 c1' b6 b7 hS3
          go_wp2_with fail
          refine (names_any A1 N.length c1 (N.map mk) w7 hS7 (by omega) HXN.out).mono ?_
          rintro e w8 ⟨v8, rfl, b8, hown8⟩
          rw [bss_mk, Nm.names_of_inc HINC.out] at hown8
          obtain ⟨A8, c8, rfl, hS8⟩ := hown8.form
          have c8' := below_then c7 b8
          go_wp2_with fail
          refine (same_call _ _ _ _ _ _ _ _ _ true (by simp) hS8 (hS7.on b8) (by omega)).mono ?_
          rintro e w9 ⟨rfl, b9⟩
          have c9 := below_then c8' b9
          clear hown8 hS8 c8' b8 b9 hS7
          go_wp2_with fail
          refine (iawake_any _).mono ?_
          rintro e w10 ⟨rfl, b10⟩
          have c10 := below_then c9 b10
          go_wp2_with fail
          go_ret
          exact ⟨rfl, c10⟩
end Go.Proofs.Ytlfdafelceipfaa
