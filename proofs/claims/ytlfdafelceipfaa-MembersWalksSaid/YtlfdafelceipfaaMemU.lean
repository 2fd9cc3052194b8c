/-
  The walks through the reference's With, and through Servers of the program and of the reference.
-/
import Derived.Test.YtlfdafelceipfaaMemV
namespace Go.Proofs.Ytlfdafelceipfaa
open Go.RowKit

namespace Mb
theorem parts_len {l : List UInt8} {x : List UInt8 × List UInt8} (h : I.parts l = some x) : x.2.length ≤ l.length := by
  unfold I.parts at h
  split at h
  · cases h; simp
  · cases h
theorem ident_len {m : UInt8} {l : List UInt8} {x : List UInt8 × List UInt8} (h : I.ident m l = some x) : x.2.length ≤ l.length := by
  cases l with
  | nil => simp [I.ident] at h
  | cons c t =>
    simp only [I.ident] at h
    split at h
    · have := parts_len h; simp; omega
    · cases h
theorem serverOf_len (l : List UInt8) : (I.serverOf l).length ≤ l.length := by
  unfold I.serverOf I.both
  cases h1 : I.ident 64 l with
  | some x => exact ident_len h1
  | none =>
    simp only
    cases h2 : I.ident 33 l with
    | some x => exact ident_len h2
    | none => simp
/-- the servers of the users among the first k names -/
def srvs (L : List (List UInt8)) (k : Nat) : List (List UInt8) := ((L.take k).filter I.userB).map I.serverOf
theorem srvs_take {L : List (List UInt8)} {k : Nat} {x : List UInt8} (h : L[k]? = some x) : srvs L (k + 1) = srvs L k ++ (if I.userB x then [I.serverOf x] else []) := by
  obtain ⟨hk, rfl⟩ := List.getElem?_eq_some_iff.1 h
  unfold srvs
  rw [List.take_succ_eq_append_getElem hk, List.filter_append, List.map_append]
  congr 1
  cases hu : I.userB L[k] <;> simp [hu]
theorem srvs_yes {L : List (List UInt8)} {k : Nat} {x : List UInt8} (h : L[k]? = some x) (hu : I.userB x = true) : srvs L (k + 1) = srvs L k ++ [I.serverOf x] := by rw [srvs_take h, hu]; rfl
theorem srvs_no {L : List (List UInt8)} {k : Nat} {x : List UInt8} (h : L[k]? = some x) (hu : I.userB x = false) : srvs L (k + 1) = srvs L k := by rw [srvs_take h, hu]; simp
theorem srvs_length (L : List (List UInt8)) (k : Nat) : (srvs L k).length ≤ k := by
  unfold srvs
  rw [List.length_map]
  exact Nat.le_trans (List.length_filter_le _ _) (List.length_take_le k L)
theorem mem_srvs {L : List (List UInt8)} {k : Nat} {s : List UInt8} (h : s ∈ srvs L k) : ∃ x ∈ L, s = I.serverOf x := by
  unfold srvs at h
  obtain ⟨x, hx, rfl⟩ := List.mem_map.1 h
  exact ⟨x, List.mem_of_mem_take (List.mem_filter.1 hx).1, rfl⟩
def serversL (l : List Ev) : List (List UInt8) := Nm.names (srvs (withL l 3) (withL l 3).length)
end Mb

theorem owns_on {w w' : World} {base size n : Nat} {e : TypeId} {v : Value} {xs : List Value} (h : w.ownsRow base e size v n xs) (hb : Below w.heap.size w w') : w'.ownsRow base e size v n xs := by
  refine ⟨h.1, ?_⟩
  rcases h.2 with hn | ⟨g, cap, cur, rfl, hb', hgg, rest⟩
  · exact .inl hn
  · exact .inr ⟨g, cap, cur, rfl, hb', (hb.block g (Array.getElem?_eq_some_iff.1 hgg).1).trans hgg, rest⟩
theorem srvs_nil (L : List (List UInt8)) : Nm.names (Mb.srvs L 0) = [] := by simp [Mb.srvs, Nm.names, Nm.firsts, Nm.sorted]
def WInv (w : World) (l : List Ev) (m : Int) (out i : Value) (wr : World) : Prop :=
  ∃ k : Nat, k ≤ l.length ∧ i = .int .i64 k ∧ Below w.heap.size w wr ∧ IsStrs wr out (Mb.withR l m k)

set_option maxRecDepth 100000 in
set_option maxHeartbeats 1000000 in
theorem rmwith_any (A : Option Addr) (n c : Nat) (l : List Ev) (m : Int) (w : World) (hr : Rd.ev.Holds w A n l) (hn : n ≤ 900000) :
    Calls Try.prog 38 #[.slice A n c, .int .i64 m] w fun e w' => ∃ v, e = .returned v ∧ Below w.heap.size w w' ∧ IsStrs w' v (Mb.withL l m) := by
  have HL := Lib.hid hr.length
  go_enter Try.func38, Try.ntmps38
  go_wp2_with fail
  go_loopw [5, 6] (fun out i wr => WInv w l m out i wr) (fun _ i _ => n - (intOf i).toNat)
  case atStart => exact ⟨0, by omega, rfl, below_alloc (Below.refl _ _) _, by rw [Mb.withR_zero]; exact ⟨_, 0, rfl, Nat.le_refl _, ⟨rfl, fun h => absurd h (by simp)⟩⟩⟩
  case round =>
    obtain ⟨k, hk, rfl, hbw, hown⟩ := hrel
    obtain ⟨O, cp, rfl, hcp, hS⟩ := hown
    have hlen := Mb.withR_length l m k
    by_cases hkn : k < n
    · obtain ⟨b, o, x, rfl, hbl, hu, hxl, _, hra⟩ := hr.mid (by decide) hkn
      change w.rangeAt b (o + k * 29) (Rd.ev.cells x) at hra
      obtain ⟨y3, y5, _⟩ := ev_cells_on hra hbl hbw
      have hk1 : k + 1 ≤ l.length := by have := HL.out; omega
      by_cases h2 : x.kind = 2
      · have e2 : (x.kind == 2) = true := eqT h2
        by_cases hm : Mb.of l (bs x.key) = m
        · have em : (Mb.of l (bs x.key) == m) = true := eqT hm
          have HP := Lib.hid (Mb.withR_put hu h2 hm)
          clear hra hu h2 hm
          go_wp2_with fail
          refine (rmof_any _ n c l x.key wr (hr.on hbw) (by omega)).mono ?_
          rintro e w1 ⟨rfl, rfl⟩
          go_wp2_with fail
          refine (rput_any O _ cp (Mb.withR l m k) x.key wr hS (by have := HL.out; omega) hcp).mono ?_
          rintro e w2 ⟨v, rfl, b2, hI⟩
          rw [← HP.out] at hI
          have HF := Lib.hid (show WInv w l m v (.int .i64 ((k : Int) + 1)) w2 from ⟨k + 1, hk1, by go_num, below_then hbw b2, hI⟩)
          clear hI hS y3 y5
          go_wp2_with fail
          exact ⟨HF.out, by simp [intOf]; omega⟩
        · have em : (Mb.of l (bs x.key) == m) = false := eqF hm
          have HF := Lib.hid (show WInv w l m (.slice O (Mb.withR l m k).length cp) (.int .i64 ((k : Int) + 1)) wr from ⟨k + 1, hk1, by go_num, hbw, by rw [Mb.withR_not hu hm]; exact ⟨O, cp, rfl, hcp, hS⟩⟩)
          clear hra hu h2 hm
          go_wp2_with fail
          refine (rmof_any _ n c l x.key wr (hr.on hbw) (by omega)).mono ?_
          rintro e w1 ⟨rfl, rfl⟩
          go_wp2_with fail
          exact ⟨HF.out, by simp [intOf]; omega⟩
      · have e2 : (x.kind == 2) = false := eqF h2
        have HF := Lib.hid (show WInv w l m (.slice O (Mb.withR l m k).length cp) (.int .i64 ((k : Int) + 1)) wr from ⟨k + 1, hk1, by go_num, hbw, by rw [Mb.withR_skip hu h2]; exact ⟨O, cp, rfl, hcp, hS⟩⟩)
        clear hra hu h2
        go_wp2_with fail
        exact ⟨HF.out, by simp [intOf]; omega⟩
    · have hE : Mb.withR l m k = Mb.withL l m := by rw [show k = l.length by have := HL.out; omega]; exact Mb.withR_all l m
      have HF := Lib.hid (show IsStrs wr (.slice O (Mb.withR l m k).length cp) (Mb.withL l m) from by rw [← hE]; exact ⟨O, cp, rfl, hcp, hS⟩)
      clear hE hS
      go_wp2_with fail
      go_ret
      exact ⟨_, rfl, hbw, HF.out⟩

theorem with_key {l : List Ev} {m : Int} (hs : ∀ e ∈ l, e.key.size ≤ maxLen) {y : List UInt8} (h : y ∈ Mb.withL l m) : (mk y).size ≤ maxLen := by
  rw [size_mk]; exact mem_small hs (Mb.mem_with.1 h).1
theorem mk_at {L : List (List UInt8)} {k : Nat} {x : ByteArray} (h : (L.map mk)[k]? = some x) : ∃ y, L[k]? = some y ∧ mk y = x := by
  rw [List.getElem?_map] at h
  exact Option.map_eq_some_iff.1 h
def SInv (w : World) (L : List (List UInt8)) (out i : Value) (wr : World) : Prop :=
  ∃ k : Nat, k ≤ L.length ∧ i = .int .i64 k ∧ Below w.heap.size w wr ∧ OwnStrs wr w.heap.size out (Mb.srvs L k)
def SRInv (w : World) (L : List (List UInt8)) (out i : Value) (wr : World) : Prop :=
  ∃ k : Nat, k ≤ L.length ∧ i = .int .i64 k ∧ Below w.heap.size w wr ∧ IsStrs wr out (Nm.names (Mb.srvs L k))

set_option maxRecDepth 100000 in
set_option maxHeartbeats 1000000 in
theorem mservers_any (A : Option Addr) (n c : Nat) (l : List Ev) (w : World) (hr : Rd.ev.Holds w A n l) (hn : n ≤ 900000) :
    Calls Try.prog 40 #[.slice A n c] w fun e w' => ∃ v, e = .returned v ∧ Below w.heap.size w w' ∧ OwnStrs w' w.heap.size v (Mb.serversL l) := by
  obtain ⟨i0, hi, hz0, hz1, hz2⟩ := info_parts infoStr
  have HL := Lib.hid hr.length
  have HK := Lib.hid (fun e he => ev_key (hr.2.2 e he))
  go_enter Try.func40, Try.ntmps40
  go_wp2_with fail
  refine (mwith_any A n c l 3 w hr (by omega)).mono ?_
  rintro e w1 ⟨v, rfl, b1, hown1⟩
  obtain ⟨A1, c1, rfl, hS⟩ := hown1.form
  clear hown1
  obtain ⟨L, hL⟩ : ∃ L, L = Mb.withL l 3 := ⟨_, rfl⟩
  have hLn : L.length ≤ 900000 := by rw [hL]; have := Mb.with_length l 3; have := HL.out; omega
  have hLs : ∀ y ∈ L, (mk y).size ≤ maxLen := fun y hy => with_key HK.out (by rw [← hL]; exact hy)
  rw [← hL] at hS ⊢
  have HE : Hid (Mb.serversL l = Nm.names (Mb.srvs L L.length)) := by show _ = _; rw [hL]; rfl
  have HLS := Lib.hid hLs
  clear hL hLs
  go_wp2_with fail
  go_loopw [3, 9] (fun out i wr => SInv w1 L out i wr) (fun _ i _ => L.length - (intOf i).toNat)
  case atStart => exact ⟨0, by omega, rfl, Below.refl _ _, World.ownsRow_nil _ _ _ _⟩
  case round =>
    obtain ⟨k, hk, rfl, hbw, hown⟩ := hrel
    have hle := hbw.size
    by_cases hkn : k < L.length
    · obtain ⟨ad, x, rfl, _, hu, hcx⟩ := (hS.on hbw).at_ hkn
      obtain ⟨y, hy, rfl⟩ := mk_at hu
      have hsz := HLS.out y (List.mem_of_getElem? hy)
      have hk1 : k + 1 ≤ L.length := hkn
      clear hu
      cases hub : I.userB y
      · have HN := Lib.hid (Mb.srvs_no hy hub)
        have HU := Lib.hid hub
        clear hub hy
        go_wp2_with fail
        refine ((user_any _ _ hsz).mono fun _ _ => Quiet.ret).mono ?_
        rw [bs_mk, HU.out]
        rintro e w2 ⟨rfl, b2⟩
        simp only [I.errOf]
        have HF := Lib.hid (show SInv w1 L u3 (.int .i64 ((k : Int) + 1)) w2 from ⟨k + 1, hk1, by go_num, below_then hbw b2, by rw [HN.out]; exact owns_on hown b2⟩)
        clear hown hcx
        go_wp2_with fail
        exact ⟨HF.out, by simp [intOf]; omega⟩
      · have HN := Lib.hid (Mb.srvs_yes hy hub)
        have HU := Lib.hid hub
        clear hub hy
        go_wp2_with fail
        refine ((user_any _ _ hsz).mono fun _ _ => Quiet.ret).mono ?_
        rw [bs_mk, HU.out]
        rintro e w2 ⟨rfl, b2⟩
        simp only [I.errOf]
        go_wp2_with fail
        refine ((serverOf_any _ _ hsz).mono fun _ _ => Quiet.ret).mono ?_
        rw [bs_mk]
        rintro e w3 ⟨rfl, b3⟩
        have b4 := below_then b2 b3
        have b5 := below_then hbw b4
        have hown3 := owns_on hown b4
        have hlen := Mb.srvs_length L k
        have hle3 := b5.size
        clear hown hcx b2 b3
        obtain ⟨z, hz⟩ : ∃ z, z = I.serverOf y := ⟨_, rfl⟩
        rw [← hz] at HN ⊢
        clear hz
        go_wp2_with (at_builtin; refine wpList_append_own _ rfl _ _ 30 rfl w1.heap.size 9 i0 (.string .empty) 1 16 Try.underlying30 hi hz0 hz1 hz2 rfl (by decide) _ _ _ rfl (World.ownsRow.alloc hown3 _) ⟨w3.heap.size, 0, none⟩ 1 1 [.string (mk z)] rfl rfl ?c1 ?c2 ?c3 ?c4 ?c5 ?_)
        case c1 => exact cell_one _ _ _
        case c2 => simp [Value.oneCell']
        case c3 => unfold maxLen; omega
        case c4 => omega
        case c5 => simp; omega
        intro v' w' hown' hgrow _
        have hbw3 : Below w1.heap.size w1 w' := (below_alloc b5 _).grown hgrow (by simp; omega) (fun j hj => (World.ownsRow.lt hown3 _ hj).1)
        have hown4 : OwnStrs w' w1.heap.size v' (Mb.srvs L (k + 1)) := by
          rw [HN.out]
          unfold OwnStrs
          rw [List.length_append, List.map_append]; exact hown'
        have HF := Lib.hid (show SInv w1 L v' (.int .i64 ((k : Int) + 1)) w' from ⟨k + 1, hk1, by go_num, hbw3, hown4⟩)
        clear hown' hgrow hown4 hown3
        go_wp2_with fail
        exact ⟨HF.out, by simp [intOf]; omega⟩
    · have hkL : k = L.length := by omega
      have hlen := Mb.srvs_length L L.length
      rw [hkL] at hown
      obtain ⟨O, cp, hO, hSo⟩ := hown.form
      have hsm : ∀ x ∈ (Mb.srvs L L.length).map mk, x.size ≤ maxLen := fun x hx => by
        obtain ⟨s, hs, rfl⟩ := List.mem_map.1 hx
        obtain ⟨y, hy, rfl⟩ := Mb.mem_srvs hs
        rw [size_mk]
        have := HLS.out y hy
        rw [size_mk] at this
        exact Nat.le_trans (Mb.serverOf_len y) this
      have HSM := Lib.hid hsm
      have hkL' : ¬ (k : Int) < L.length := by omega
      clear hkL hsm hown
      subst hO
      go_wp2_with fail
      refine (names_any O _ cp _ wr hSo (by omega) HSM.out).mono ?_
      rintro e w2 ⟨v, rfl, b2, hown2⟩
      have b3 := below_then hbw b2
      go_wp2_with fail
      go_ret
      refine ⟨v, rfl, below_then b1 b3, ?_⟩
      have := World.ownsRow.mono (base' := w.heap.size) hown2 (by have := b1.size; omega)
      rw [show bss ((Mb.srvs L L.length).map mk) = Mb.srvs L L.length from map_bs_mk _] at this
      rw [HE.out]
      exact this

set_option maxRecDepth 100000 in
set_option maxHeartbeats 1000000 in
theorem rmservers_any (A : Option Addr) (n c : Nat) (l : List Ev) (w : World) (hr : Rd.ev.Holds w A n l) (hn : n ≤ 900000) :
    Calls Try.prog 41 #[.slice A n c] w fun e w' => ∃ v, e = .returned v ∧ Below w.heap.size w w' ∧ IsStrs w' v (Mb.serversL l) := by
  have HL := Lib.hid hr.length
  have HK := Lib.hid (fun e he => ev_key (hr.2.2 e he))
  go_enter Try.func41, Try.ntmps41
  go_wp2_with fail
  refine (rmwith_any A n c l 3 w hr hn).mono ?_
  rintro e w1 ⟨v, rfl, b1, hI⟩
  obtain ⟨A1, c1, rfl, hc1, hS⟩ := hI
  obtain ⟨L, hL⟩ : ∃ L, L = Mb.withL l 3 := ⟨_, rfl⟩
  have hLn : L.length ≤ 900000 := by rw [hL]; have := Mb.with_length l 3; have := HL.out; omega
  have hLs : ∀ y ∈ L, (mk y).size ≤ maxLen := fun y hy => with_key HK.out (by rw [← hL]; exact hy)
  rw [← hL] at hS hc1 ⊢
  have HE : Hid (Mb.serversL l = Nm.names (Mb.srvs L L.length)) := by show _ = _; rw [hL]; rfl
  have HLS := Lib.hid hLs
  clear hL hLs
  go_wp2_with fail
  go_loopw [4, 5] (fun out i wr => SRInv w1 L out i wr) (fun _ i _ => L.length - (intOf i).toNat)
  case atStart => exact ⟨0, by omega, rfl, below_alloc (Below.refl _ _) _, by rw [srvs_nil]; exact ⟨_, 0, rfl, Nat.le_refl _, ⟨rfl, fun h => absurd h (by simp)⟩⟩⟩
  case round =>
    obtain ⟨k, hk, rfl, hbw, hI⟩ := hrel
    by_cases hkn : k < L.length
    · obtain ⟨ad, x, rfl, hbl, hu, hcx⟩ := (hS.on hbw).at_ hkn
      obtain ⟨y, hy, rfl⟩ := mk_at hu
      have hsz := HLS.out y (List.mem_of_getElem? hy)
      have hk1 : k + 1 ≤ L.length := hkn
      clear hu
      cases hub : I.userB y
      · have HF := Lib.hid (show SRInv w1 L u4 (.int .i64 ((k : Int) + 1)) wr from ⟨k + 1, hk1, by go_num, hbw, by rw [Mb.srvs_no hy hub]; exact hI⟩)
        have HU := Lib.hid hub
        clear hub hy hI
        go_wp2_with fail
        refine (ruser_any _ _ hsz).mono ?_
        rw [bs_mk, HU.out]
        rintro e w2 ⟨rfl, rfl⟩
        simp only [I.errOf]
        go_wp2_with fail
        exact ⟨HF.out, by simp [intOf]; omega⟩
      · have HN := Lib.hid (Nm.names_snoc (Mb.srvs L k) (I.serverOf y))
        have HY := Lib.hid (Mb.srvs_yes hy hub)
        have HU := Lib.hid hub
        clear hub hy
        obtain ⟨O, cp, rfl, hcp, hSo⟩ := hI
        have hlen := Nat.le_trans (Nm.names_length (Mb.srvs L k)) (Mb.srvs_length L k)
        go_wp2_with fail
        refine (ruser_any _ _ hsz).mono ?_
        rw [bs_mk, HU.out]
        rintro e w2 ⟨rfl, rfl⟩
        simp only [I.errOf]
        go_wp2_with fail
        refine (rserverOf_any _ _ hsz).mono ?_
        rw [bs_mk]
        rintro e w2 ⟨rfl, rfl⟩
        go_wp2_with fail
        refine (rput_any O _ cp _ (mk (I.serverOf y)) wr hSo (by omega) hcp).mono ?_
        rw [bs_mk, ← HN.out, ← HY.out]
        rintro e w2 ⟨v, rfl, b2, hI2⟩
        have HF := Lib.hid (show SRInv w1 L v (.int .i64 ((k : Int) + 1)) w2 from ⟨k + 1, hk1, by go_num, below_then hbw b2, hI2⟩)
        clear hI2 hSo hcx
        go_wp2_with fail
        exact ⟨HF.out, by simp [intOf]; omega⟩
    · have hkL : k = L.length := by omega
      have HF := Lib.hid (show IsStrs wr u4 (Mb.serversL l) from by rw [HE.out, ← hkL]; exact hI)
      have hkL' : ¬ (k : Int) < L.length := by omega
      clear hkL hI
      go_wp2_with fail
      go_ret
      exact ⟨_, rfl, below_then b1 hbw, HF.out⟩
end Go.Proofs.Ytlfdafelceipfaa
