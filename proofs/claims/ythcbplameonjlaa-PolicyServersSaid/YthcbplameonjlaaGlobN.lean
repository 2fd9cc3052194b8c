/-
  The walk through glob.Match: it computes G.mt.
-/
import Derived.Test.YthcbplameonjlaaGlobM
namespace Go.Proofs.Ythcbplameonjlaa
open Go.RowKit

theorem chk_zero {p : List UInt8} (h : G.chk p = 0) : p ≠ [] ∧ p.length ≤ 64 ∧ ∀ c ∈ p, 33 ≤ c.toNat ∧ c.toNat ≤ 126 := by
  unfold G.chk at h
  split at h
  · cases h
  · split at h
    · cases h
    · split at h
      · cases h
      · rename_i h1 h2 h3
        refine ⟨h1, by omega, fun c hc => ?_⟩
        simp only [List.any_eq_true, not_exists, not_and] at h3
        have := h3 c hc
        simp [G.bad] at this
        omega
theorem chk_ascii {p : ByteArray} (h : G.chk (bs p) = 0) : ascii p := fun c hc => by have := (chk_zero h).2.2 c hc; omega
theorem chk_size {p : ByteArray} (h : G.chk (bs p) = 0) : p.size ≤ 64 := by have := (chk_zero h).2.1; rwa [size_list] at this
theorem split_ascii {p x : ByteArray} {xs : List ByteArray} (hx : xs.map bs = G.split (bs p)) (ha : ascii p) (hm : x ∈ xs) : ascii x := fun c hc =>
  ha c ((G.split_free (bs p) (bs x) (by rw [← hx]; exact List.mem_map_of_mem hm)).2 c hc)

theorem way_cons (h t p s : List UInt8) (ms : List (List UInt8)) : G.way (h :: (ms ++ [t])) p s =
    (decide (h.length + t.length ≤ s.length) && G.fit h (s.take h.length) && G.fit t (s.drop (s.length - t.length)) && G.greedy ms ((s.take (s.length - t.length)).drop h.length)) := by
  cases ms with
  | nil => rfl
  | cons b r =>
    have e : (b :: (r ++ [t])).dropLast = b :: r := by rw [← List.cons_append, List.dropLast_concat]
    have e2 : ∀ hh, (b :: (r ++ [t])).getLast hh = t := fun hh => by rw [List.getLast_cons (by simp), List.getLast_append]; simp
    simp only [List.cons_append, G.way, e, e2]

theorem split_size {p x : ByteArray} {xs : List ByteArray} (hx : xs.map bs = G.split (bs p)) (hm : x ∈ xs) : x.size ≤ p.size := by
  have := G.split_len (bs p) (bs x) (by rw [← hx]; exact List.mem_map_of_mem hm)
  rwa [size_list, size_list] at this

/-- the search's loop: what is left of the text, and of the pieces -/
def MatchInv (w w5 : World) (s : ByteArray) (ms : List ByteArray) (r0 : ByteArray) (r i : Value) (wr : World) : Prop :=
  ∃ (k : Nat) (rb : ByteArray), r = .string rb ∧ i = .int .i64 k ∧ k ≤ ms.length ∧ rb.size ≤ s.size ∧ Below w.heap.size w wr ∧ Below w5.heap.size w5 wr ∧
    G.greedy (ms.map bs) (bs r0) = G.greedy ((ms.drop k).map bs) (bs rb)

set_option maxHeartbeats 1000000 in
theorem match_any (p s : ByteArray) (w : World) (hp : p.size ≤ 1000000) (hs : s.size ≤ 1000000) :
    Calls Try.prog 36 #[.string p, .string s] w (Ret w (.bool (G.mt (bs p) (bs s)))) := by
  by_cases hc : G.chk (bs p) = 0
  · have ha := chk_ascii hc
    have hz := chk_size hc
    have HG : Hid (G.mt (bs p) (bs s) = G.gm (bs p) (bs s)) := by show _ = _; simp [G.mt, hc]
    have HC := Lib.hid hc; clear hc
    go_enter Try.func36, Try.ntmps36
    go_wp2_with fail
    refine (check_any p w (by unfold maxLen; omega)).mono ?_
    rintro e w1 ⟨rfl, hb1⟩
    rw [HC.out]
    go_wp2_with fail
    refine (pieces_any p w1 hp ha).mono ?_
    rintro e w2 ⟨v, xs, rfl, hb2, hown, hxs, hxl⟩
    obtain ⟨A, cp, rfl, hcap, hr⟩ := own_form hown
    have hb12 := below_then hb1 hb2
    have HX := Lib.hid hxs; clear hxs
    have hne : xs ≠ [] := fun e => G.split_ne (bs p) (by rw [← HX.out, e]; rfl)
    obtain ⟨hd, l, rfl⟩ : ∃ hd l, xs = hd :: l := by cases xs with
      | nil => exact absurd rfl hne
      | cons hd l => exact ⟨hd, l, rfl⟩
    rcases List.eq_nil_or_concat l with rfl | ⟨ms, t, rfl⟩
    · go_wp2_with fail
      refine (fits_any p s w2 hp ha).mono ?_
      rintro e w3 ⟨rfl, hb3⟩
      go_wp2_with fail
      go_ret
      refine ⟨ret_bool ?_, below_then hb12 hb3⟩
      rw [HG.out, ← G.way_gm, ← HX.out]; rfl
    · rw [List.concat_eq_append] at *
      have hway := way_cons (bs hd) (bs t) (bs p) (bs s) (ms.map bs)
      have hX2 := HX.out
      rw [List.map_cons, List.map_append, List.map_cons, List.map_nil] at hX2
      rw [hX2, G.way_gm, ← HG.out] at hway
      have HW := Lib.hid hway; clear hway hX2 HG
      have hah := split_ascii (x := hd) HX.out ha (by simp)
      have hat := split_ascii (x := t) HX.out ha (by simp)
      have hams : ∀ x ∈ ms, ascii x := fun x hx => split_ascii (x := x) HX.out ha (by simp [hx])
      have hcells : ∀ k x, (hd :: (ms ++ [t]))[k]? = some x → ∃ ad, A = some ad ∧ ad.block < w2.heap.size ∧ w2.cell? (ad.add k) = some (.string x) := fun k x hx => by
        obtain ⟨ad, u, h1, h2, h3, h4⟩ := hr.at_ (k := k) (List.getElem?_eq_some_iff.1 hx).1
        obtain ⟨x', hx', rfl⟩ := strs_at h3
        rw [hx] at hx'; cases hx'
        exact ⟨ad, h1, h2, h4⟩
      obtain ⟨ad, rfl, hadb, c0⟩ := hcells 0 hd rfl
      obtain ⟨_, hA, _, ct⟩ := hcells (ms.length + 1) t (by simp)
      obtain rfl := Option.some.inj hA
      have cm : ∀ k x, ms[k]? = some x → w2.cell? (ad.add (k + 1)) = some (.string x) := fun k x hx => by
        obtain ⟨_, hA, _, hh⟩ := hcells (k + 1) x (by simp only [List.getElem?_cons_succ]; rw [List.getElem?_append_left (List.getElem?_eq_some_iff.1 hx).1]; exact hx)
        obtain rfl := Option.some.inj hA
        exact hh
      have CM := Lib.hid cm
      clear cm hcells hA
      have hL : (hd :: (ms ++ [t])).length = ms.length + 2 := by simp
      rw [hL] at hown hcap hxl ⊢
      have hN : ms.length + 1 = ms.length + 2 - 1 := by omega
      rw [hN] at ct
      clear hL hN hr hown
      obtain ⟨n, hn⟩ : ∃ n, n = ms.length + 2 := ⟨_, rfl⟩
      rw [← hn] at ct hcap hxl ⊢
      have hn2 : 2 ≤ n := by omega
      have HN := Lib.hid hn; clear hn
      have c0' : w2.cell? ad = some (.string hd) := by have := c0; simpa [Addr.add] using this
      have hm0 : ((n : Int) - 1 == 0) = false := eqF (by omega)
      have hn0 : 0 < n := by omega
      have hn1 : 1 ≤ n := by omega
      have hni : (0 : Int) < (n : Int) := by omega
      have hnl : (n : Int) - 1 < (n : Int) := by omega
      have hnn : (0 : Int) ≤ (n : Int) - 1 := by omega
      have hzh := split_size (x := hd) HX.out (by simp)
      have hzt := split_size (x := t) HX.out (by simp)
      have hzm : Hid (∀ x ∈ ms, x.size ≤ 64) := fun x hx => by have := split_size (x := x) HX.out (by simp [hx]); omega
      by_cases hlen : s.size < hd.size + t.size
      · have hl' : (s.size : Int) < (hd.size : Int) + (t.size : Int) := by omega
        go_wp2_with fail
        go_quiet (fail)
        go_wp2_with fail
        go_ret
        exact ⟨ret_bool (by rw [HW.out, size_list, size_list, size_list, decide_eq_false (by omega)]; rfl), below_drewN hb12 nq⟩
      · have hl' : ¬ (s.size : Int) < (hd.size : Int) + (t.size : Int) := by omega
        have hld : decide ((bs hd).length + (bs t).length ≤ (bs s).length) = true := by rw [size_list, size_list, size_list]; simp; omega
        go_wp2_with fail
        go_quiet (fail)
        have hb3 := below_drewN hb12 nq
        have CM3 : Hid (∀ (k : Nat) (x : ByteArray), ms[k]? = some x → (w2.drewN nq).cell? (ad.add (k + 1)) = some (.string x)) := CM.out
        have hadb3 : ad.block < (w2.drewN nq).heap.size := hadb
        clear CM c0 c0' ct hadb hb12 hb1 hb2
        generalize w2.drewN nq = w3 at *
        have HA : Hid (G.fit (bs hd) ((bs s).take (bs hd).length) = G.fit (bs hd) (bs (s.extract 0 hd.size))) := by show _ = _; rw [bs_extract, size_list]; simp
        have HB : Hid (G.fit (bs t) ((bs s).drop ((bs s).length - (bs t).length)) = G.fit (bs t) (bs (s.extract (s.size - t.size) s.size))) := by
          show _ = _; rw [bs_extract, size_list, size_list, List.take_of_length_le (by rw [List.length_drop, size_list]; exact Nat.le_refl _)]
        go_wp2_with fail
        refine (fits_any hd _ w3 (by omega) hah).mono ?_
        rintro e w4 ⟨rfl, hb4⟩
        have hbw4 := below_then hb3 hb4
        cases hf1 : G.fit (bs hd) (bs (s.extract 0 hd.size))
        · have HF1 := Lib.hid hf1; clear hf1
          go_wp2_with fail
          go_ret
          exact ⟨ret_bool (by rw [HW.out, hld, HA.out, HF1.out]; rfl), hbw4⟩
        have HF1 := Lib.hid hf1; clear hf1
        go_wp2_with fail
        refine (fits_any t _ w4 (by omega) hat).mono ?_
        rintro e w5 ⟨rfl, hb5⟩
        have hbw5 := below_then hbw4 hb5
        cases hf2 : G.fit (bs t) (bs (s.extract (s.size - t.size) s.size))
        · have HF2 := Lib.hid hf2; clear hf2
          go_wp2_with fail
          go_ret
          exact ⟨ret_bool (by rw [HW.out, hld, HA.out, HF1.out, HB.out, HF2.out]; rfl), hbw5⟩
        have HF2 := Lib.hid hf2; clear hf2
        have CM5 : Hid (∀ (k : Nat) (x : ByteArray), ms[k]? = some x → w5.cell? (ad.add (k + 1)) = some (.string x)) := fun k x hx => by
          rw [hb5.cell (by rw [block_of_add]; exact Nat.lt_of_lt_of_le hadb3 hb4.size), hb4.cell (by rw [block_of_add]; exact hadb3)]; exact CM3.out k x hx
        have hadb5 : ad.block < w5.heap.size := Nat.lt_of_lt_of_le hadb3 (Nat.le_trans hb4.size hb5.size)
        have HW2 : Hid (G.mt (bs p) (bs s) = G.greedy (ms.map bs) (bs (s.extract hd.size (s.size - t.size)))) := by
          show _ = _
          rw [HW.out, hld, HA.out, HF1.out, HB.out, HF2.out, bs_extract, size_list, size_list, size_list, List.drop_take]; rfl
        clear hb5 hb4 hb3 hbw4 CM3 HA HB HF1 HF2 HW hadb3 hld HX
        go_wp2_with fail
        · have hn2' : n = 2 := by assumption
          have hms : ms = [] := by have := HN.out; cases ms with
            | nil => rfl
            | cons a r => simp at this; omega
          have HMS := Lib.hid hms; clear hms
          go_rounds 1
          go_ret
          exact ⟨ret_bool (by rw [HW2.out, HMS.out]; rfl), hbw5⟩
        · have hn3 : ¬ n = 2 := by assumption
          go_loopw [9, 76] (fun r i wr => MatchInv w w5 s ms (s.extract hd.size (s.size - t.size)) r i wr) (fun _ i _ => n - (intOf i).toNat)
          case atStart => exact ⟨0, _, rfl, rfl, by omega, by simp; omega, hbw5, Below.refl _ _, rfl⟩
          case round =>
            obtain ⟨k, rb, rfl, rfl, hk, hrb, hbw, hbw', hg⟩ := hrel
            have HGr := Lib.hid hg; clear hg
            by_cases hlt : k < ms.length
            · obtain ⟨x, hx⟩ : ∃ x, ms[k]? = some x := ⟨_, List.getElem?_eq_getElem hlt⟩
              have hcx := CM5.out k x hx
              rw [← hbw'.cell (by rw [block_of_add]; exact hadb5)] at hcx
              have HXk := Lib.hid hx; clear hx
              rw [show ad.add (k + 1) = ⟨ad.block, ad.off + 1 + k, none⟩ from by simp [Addr.add]; omega] at hcx
              have hkn : (k : Int) + 2 < n := by have := HN.out; omega
              have hlt' : k < n - 1 - 1 := by omega
              have hzx := hzm.out x (List.mem_of_getElem? HXk.out)
              have hax := hams x (List.mem_of_getElem? HXk.out)
              have hdk : Hid (ms.drop k = x :: ms.drop (k + 1)) := by show _ = _; rw [List.drop_eq_getElem_cons hlt, (List.getElem?_eq_some_iff.1 HXk.out).2]
              go_wp2_with fail
              refine (gfind_any x rb wr (by omega) (by omega) hax).mono ?_
              rintro e w6 ⟨rfl, hb6⟩
              have hbw6 := below_then hbw hb6
              have hbw6' := below_then hbw' hb6
              cases hfi : G.find (bs x) (bs rb) with
              | none =>
                have HFI := Lib.hid hfi; clear hfi
                have hI : gfindI (bs x) (bs rb) = -1 := by simp only [gfindI]; rw [HFI.out]
                rw [hI]; clear hI
                go_wp2_with fail
                go_ret
                exact ⟨ret_bool (by rw [HW2.out, HGr.out, hdk.out, List.map_cons, G.greedy, HFI.out]), hbw6⟩
              | some j =>
                have hjl : j + x.size ≤ rb.size := by
                  have := (G.findFrom_some hfi).1
                  simp only [G.at_, Bool.and_eq_true, decide_eq_true_eq, size_list] at this
                  exact this.1
                have HFI := Lib.hid hfi; clear hfi
                have hI : gfindI (bs x) (bs rb) = (j : Int) := by simp only [gfindI]; rw [HFI.out]
                rw [hI]; clear hI
                go_wp2_with fail
                refine ⟨⟨k + 1, rb.extract (j + x.size) rb.size, rfl, by go_num, by omega, by simp; omega, hbw6, hbw6', ?_⟩, by simp [intOf]; omega⟩
                rw [HGr.out, hdk.out, List.map_cons, G.greedy, HFI.out, bs_extract, size_list, List.take_of_length_le (by rw [List.length_drop, size_list]; exact Nat.le_refl _)]
            · have hkm : k = ms.length := by omega
              have HK := Lib.hid hkm; clear hkm
              have hkn : ¬ k < n - 1 - 1 := by have := HN.out; have := HK.out; omega
              go_wp2_with fail
              go_ret
              exact ⟨ret_bool (by rw [HW2.out, HGr.out, HK.out, List.drop_length]; rfl), hbw⟩
  · have HM : Hid (G.mt (bs p) (bs s) = false) := by show _ = _; simp [G.mt, hc]
    have hc' := neT hc
    go_enter Try.func36, Try.ntmps36
    go_wp2_with fail
    refine (check_any p w (by unfold maxLen; omega)).mono ?_
    rintro e w1 ⟨rfl, hb1⟩
    go_wp2_with fail
    go_ret
    exact ⟨ret_bool HM.out.symm, hb1⟩
end Go.Proofs.Ythcbplameonjlaa
