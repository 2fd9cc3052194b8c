/-
  The walks through once at strings, Users and Deny.
-/
import Derived.Test.YthcbplameonjlaaPolT
import Derived.Test.YthcbplameonjlaaIdsQ
import Derived.Test.YthcbplameonjlaaShelf
namespace Go.Proofs.Ythcbplameonjlaa
open Go.RowKit
attribute [local go_sem ↓] ex_st_pol
attribute [local go_sem] st_pol_new st_pol

theorem bss_mk' (l : List (List UInt8)) : bss (l.map mk) = l := by
  unfold bss
  rw [List.map_map]
  conv => rhs; rw [← List.map_id l]
  exact List.map_congr_left fun x _ => bs_mk x
theorem OwnStrs.on {w w' : World} {B : Nat} {v : Value} {l : List (List UInt8)} (h : OwnStrs w B v l) (hb : Below w.heap.size w w') : OwnStrs w' B v l := owns_on h hb
theorem OwnStrs.nil (w : World) (B : Nat) : OwnStrs w B (.slice none 0 0) [] := World.ownsRow_nil _ _ _ _
theorem mem_bss {l : List ByteArray} {x : ByteArray} : bs x ∈ bss l ↔ x ∈ l := by
  unfold bss
  rw [List.mem_map]
  exact ⟨fun ⟨y, hy, e⟩ => bs_inj e ▸ hy, fun h => ⟨x, h, rfl⟩⟩
/-- where a list of strings lies, in the form in which the shelf asks it -/
theorem strs_mid {w : World} {A : Option Addr} {n : Nat} {l : List ByteArray} (hr : Strs w A n l) (h0 : 0 < n) : ∃ b o, A = some ⟨b, o, none⟩ ∧ ∀ j x, l[j]? = some x → w.cell? ⟨b, o + j, none⟩ = some (.string x) := by
  have hl := hr.length
  obtain ⟨ad, rfl, _, hc⟩ := hr.2 h0
  obtain ⟨b, o, sp⟩ := ad
  have hsp : sp = none := by
    obtain ⟨x, hx⟩ : ∃ x, l[0]? = some x := ⟨_, List.getElem?_eq_getElem (by omega)⟩
    have h0 := hc 0 (.string x) (by simp [strs, hx])
    cases sp with
    | none => rfl
    | some s =>
      exfalso
      simp only [Addr.add, if_true] at h0
      unfold World.cell? at h0
      split at h0
      · simp at h0
      · cases h0
  subst hsp
  refine ⟨b, o, rfl, fun j x hx => ?_⟩
  have := hc j (.string x) (by simp [strs, hx])
  unfold Addr.add at this
  split at this
  · rename_i h1; subst h1; exact this
  · exact this
theorem scontains_any (A : Option Addr) (n c : Nat) (l : List ByteArray) (x : ByteArray) (w : World) (hr : Strs w A n l) (hn : n ≤ 1000000) :
    Calls Try.prog 46 #[.slice A n c, .string x] w (Ret w (.bool (decide (bs x ∈ bss l)))) := by
  have hl := hr.length
  rcases Nat.eq_zero_or_pos n with h0 | h0
  · subst h0
    obtain rfl : l = [] := List.eq_nil_of_length_eq_zero hl
    refine (Try.slices_Contains_string_empty A c x w).mono ?_
    rintro e w' ⟨rfl, rfl⟩
    exact ⟨rfl, Below.refl _ _⟩
  · obtain ⟨b, o, rfl, hc⟩ := strs_mid hr h0
    refine (Try.slices_Contains_string b o n c l x w (by omega) (by omega) (fun j hj => ?_)).mono ?_
    · rw [hc j l[j] (List.getElem?_eq_getElem hj)]; simp [List.getD, List.getElem?_eq_getElem hj]
    · rintro e w' ⟨rfl, rfl⟩
      refine ⟨?_, Below.refl _ _⟩
      rw [show l.take n = l from List.take_of_length_le (by omega)]
      exact ret_bool (by rw [Bool.eq_iff_iff, Lib.containsS_iff, decide_eq_true_eq, mem_bss])
theorem sown_snoc {w : World} {B n : Nat} {v : Value} {l : List (List UInt8)} {x : ByteArray} (hn : n = l.length) (h : w.ownsRow B 9 1 v (n + 1) (l.map encStr ++ [.string x])) : OwnStrs w B v (l ++ [bs x]) := by
  unfold OwnStrs
  rw [List.length_append, List.map_append]
  subst hn
  have : ([bs x].map encStr) = [Value.string x] := by simp [encStr]
  rw [this]; exact h
theorem OwnStrs.form {w : World} {B : Nat} {v : Value} {l : List (List UInt8)} (h : OwnStrs w B v l) : ∃ A c, v = .slice A l.length c ∧ Strs w A l.length (l.map mk) ∧ l.length ≤ c := by
  obtain ⟨A, c, rfl, hc, hr⟩ := own_form h
  exact ⟨A, c, rfl, by unfold Strs; rw [strs_mk]; exact hr, hc⟩

set_option maxRecDepth 100000 in
set_option maxHeartbeats 2000000 in
theorem sonce_any (A : Option Addr) (n c : Nat) (l : List ByteArray) (w : World) (hr : Strs w A n l) (hn : n ≤ 1000000) :
    Calls Try.prog 33 #[.slice A n c] w fun e w' => ∃ v, e = .returned v ∧ Below w.heap.size w w' ∧ OwnStrs w' w.heap.size v (Nm.firsts (bss l)) := by
  obtain ⟨i0, hi, hz0, hz1, hz2⟩ := info_parts infoStr
  have hmk := make_strs (P := Try.prog) 23 9 i0 Try.underlying23 hi hz0 hz1 hz2 n hn
  have HL := Lib.hid hr.length
  go_enter Try.func33, Try.ntmps33
  go_wp2_with fail
  go_loopw [3, 11] (fun out i wr => ∃ k : Nat, k ≤ n ∧ i = .int .i64 k ∧ Below w.heap.size w wr ∧ OwnStrs wr w.heap.size out (Nm.firsts ((bss l).take k))) (fun _ i _ => n - (intOf i).toNat)
  case atStart => exact ⟨0, by omega, rfl, below_alloc (Below.refl _ _) _, owns_made w n rfl (Nat.le_refl _) hn⟩
  case round =>
    obtain ⟨k, hk, rfl, hbw, hown⟩ := hrel
    by_cases hkn : k < n
    · obtain ⟨ad, x, rfl, hadb, hu, hc⟩ := (hr.on hbw).at_ hkn
      have hlen := Nat.le_trans (Nm.firsts_length ((bss l).take k)) (List.length_take_le _ _)
      have hF := Nm.firsts_snoc ((bss l).take k) (bs x)
      rw [← bss_take hu] at hF
      obtain ⟨m, hm⟩ : ∃ m, Nm.firsts ((bss l).take k) = m := ⟨_, rfl⟩
      rw [hm] at hown hlen hF
      have HF := Lib.hid hF
      clear hm hF hu
      obtain ⟨A2, c2, rfl, hrs, _⟩ := hown.form
      obtain ⟨e0, h0⟩ : ∃ e, decide (bs x ∈ m) = e := ⟨_, rfl⟩
      have CM : Hid (Calls Try.prog 46 #[.slice A2 m.length c2, .string x] wr (Ret wr (.bool e0))) := Lib.hid (by
        have := scontains_any A2 m.length c2 (m.map mk) x wr hrs (by omega)
        rwa [bss_mk', h0] at this)
      have H0 := Lib.hid h0
      clear h0 hrs
      go_wp2_with fail
      refine CM.out.mono ?_
      rintro e w3 ⟨rfl, bb3⟩
      have hb3 := below_then hbw bb3
      have hown3 := hown.on bb3
      clear CM bb3 hown
      cases e0
      · have HE : Hid (Nm.firsts ((bss l).take (k + 1)) = m ++ [bs x]) := Lib.hid (by rw [HF.out, if_neg (of_decide_eq_false H0.out)])
        have hB3 := hb3.size
        go_wp2_with (at_builtin; refine wpList_append_own _ rfl _ _ 23 rfl w.heap.size 9 i0 (.string .empty) 1 16 Try.underlying23 hi hz0 hz1 hz2 rfl (by decide) _ _ _ rfl (World.ownsRow.alloc hown3 _) ⟨w3.heap.size, 0, none⟩ 1 1 [.string x] rfl rfl ?c1 ?c2 ?c3 ?c4 ?c5 ?_)
        case c1 => exact cell_one _ _ _
        case c2 => simp [Value.oneCell']
        case c3 => unfold maxLen; omega
        case c4 => omega
        case c5 => simp; omega
        intro v' w' hown' hgrow _
        have hb4 : Below w.heap.size w w' := (hb3.alloc (by omega) _).grown hgrow (by simp; omega) (fun j hj => (World.ownsRow.lt hown3 _ hj).1)
        have hfin := sown_snoc rfl hown'
        rw [← HE.out] at hfin
        clear hown' hgrow hown3
        go_wp2_with fail
        exact ⟨⟨k + 1, by omega, by go_num, hb4, hfin⟩, by simp [intOf]; omega⟩
      · have HE : Hid (Nm.firsts ((bss l).take (k + 1)) = m) := Lib.hid (by rw [HF.out, if_pos (of_decide_eq_true H0.out)])
        rw [← HE.out] at hown3
        have HO := Lib.hid hown3
        have hml : m.length = (Nm.firsts ((bss l).take (k + 1))).length := by rw [HE.out]
        rw [← hml] at HO
        clear hown3 hml
        go_wp2_with fail
        exact ⟨⟨k + 1, by omega, by go_num, hb3, HO.out⟩, by simp [intOf]; omega⟩
    · have hlk : (bss l).take k = bss l := List.take_of_length_le (by have := HL.out; simp; omega)
      rw [hlk] at hown
      clear hlk
      go_wp2_with fail
      go_ret
      exact ⟨_, rfl, hbw, hown⟩

/-! ### a list, and what is kept of it -/
theorem filter_take {us : List ByteArray} {k : Nat} {x : ByteArray} (f : List UInt8 → Bool) (h : us[k]? = some x) : ((bss us).take (k + 1)).filter f = if f (bs x) then ((bss us).take k).filter f ++ [bs x] else ((bss us).take k).filter f := by
  rw [bss_take h, List.filter_append]
  cases hf : f (bs x) <;> simp [hf]
/-- once, then sorted: the tail of Users and Deny -/
theorem names_tail {w w1 w2 : World} {v : Value} {L : List (List UInt8)} (b1 : Below w.heap.size w w1) (own : OwnStrs w1 w.heap.size v (Nm.firsts L))
    (hs : w2.ownsRow w.heap.size 9 1 v (Nm.firsts L).length ((Nm.sorted (Nm.firsts L)).map encStr)) (hg : w1.grownBy w2 v.ownBlock) : Below w.heap.size w w2 ∧ OwnStrs w2 w.heap.size v (Nm.names L) := by
  refine ⟨b1.grown hg b1.size (fun j hj => (World.ownsRow.lt own _ hj).1), ?_⟩
  unfold OwnStrs Nm.names
  rw [(Nm.sorted_perm _).length_eq]; exact hs

set_option maxRecDepth 100000 in
set_option maxHeartbeats 4000000 in
theorem pusers_any (A : Option Addr) (n c : Nat) (l : List Pol) (U : Option Addr) (m d : Nat) (us : List ByteArray) (w : World) (hr : Rd.pol.Holds w A n l) (hn : n ≤ 1000000) (hp : PolsS l) (hu : Strs w U m us) (hm : m ≤ 1000000) (hs : ∀ x ∈ us, x.size ≤ 1000000) :
    Calls Try.prog 13 #[.slice A n c, .slice U m d] w fun e w' => ∃ v, e = .returned v ∧ Below w.heap.size w w' ∧ OwnStrs w' w.heap.size v (Pl.users 2 6 l (bss us)) := by
  obtain ⟨i0, hi, hz0, hz1, hz2⟩ := info_parts infoStr
  have HL := Lib.hid hu.length
  have HS := Lib.hid hs
  have HP := Lib.hid hp
  clear hs hp
  go_enter Try.func13, Try.ntmps13
  go_wp2_with fail
  go_loopw [5, 10] (fun out i wr => ∃ k : Nat, k ≤ m ∧ i = .int .i64 k ∧ Below w.heap.size w wr ∧ OwnStrs wr w.heap.size out (((bss us).take k).filter (Pl.met 2 6 l))) (fun _ i _ => m - (intOf i).toNat)
  case atStart => exact ⟨0, by omega, rfl, Below.refl _ _, OwnStrs.nil _ _⟩
  case round =>
    obtain ⟨k, hk, rfl, hbw, hown⟩ := hrel
    by_cases hkm : k < m
    · obtain ⟨ad, x, rfl, hadb, hux, hc⟩ := (hu.on hbw).at_ hkm
      have hF := filter_take (Pl.met 2 6 l) hux
      have hx := HS.out x (List.mem_of_getElem? hux)
      have hlen : (((bss us).take k).filter (Pl.met 2 6 l)).length ≤ k := Nat.le_trans (List.length_filter_le _ _) (List.length_take_le _ _)
      generalize ((bss us).take k).filter (Pl.met 2 6 l) = L at hown hF hlen
      obtain ⟨e0, h0⟩ : ∃ e, Pl.met 2 6 l (bs x) = e := ⟨_, rfl⟩
      have CM : Hid (Calls Try.prog 32 #[.slice A n c, .string x] wr (Ret wr (.bool e0))) := Lib.hid (by
        rw [← h0]; exact met_any A n c l x wr (hr.on hbw) hn HP.out hx)
      rw [h0] at hF
      have HF := Lib.hid hF
      clear h0 hF hux
      go_wp2_with fail
      refine CM.out.mono ?_
      rintro e w3 ⟨rfl, bb3⟩
      have hb3 := below_then hbw bb3
      have hown3 := hown.on bb3
      clear CM bb3 hown
      cases e0
      · have HE : Hid (((bss us).take (k + 1)).filter (Pl.met 2 6 l) = L) := Lib.hid (by rw [HF.out]; rfl)
        rw [← HE.out] at hown3
        go_wp2_with fail
        exact ⟨⟨k + 1, by omega, by go_num, hb3, hown3⟩, by simp [intOf]; omega⟩
      · have HE : Hid (((bss us).take (k + 1)).filter (Pl.met 2 6 l) = L ++ [bs x]) := Lib.hid (by rw [HF.out]; rfl)
        have hB3 := hb3.size
        go_wp2_with (at_builtin; refine wpList_append_own _ rfl _ _ 23 rfl w.heap.size 9 i0 (.string .empty) 1 16 Try.underlying23 hi hz0 hz1 hz2 rfl (by decide) _ _ _ rfl (World.ownsRow.alloc hown3 _) ⟨w3.heap.size, 0, none⟩ 1 1 [.string x] rfl rfl ?c1 ?c2 ?c3 ?c4 ?c5 ?_)
        case c1 => exact cell_one _ _ _
        case c2 => simp [Value.oneCell']
        case c3 => unfold maxLen; omega
        case c4 => omega
        case c5 => simp; omega
        intro v' w' hown' hgrow _
        have hb4 : Below w.heap.size w w' := (hb3.alloc (by omega) _).grown hgrow (by simp; omega) (fun j hj => (World.ownsRow.lt hown3 _ hj).1)
        have hfin := sown_snoc rfl hown'
        rw [← HE.out] at hfin
        clear hown' hgrow hown3
        go_wp2_with fail
        exact ⟨⟨k + 1, by omega, by go_num, hb4, hfin⟩, by simp [intOf]; omega⟩
    · have hlk : (bss us).take k = bss us := List.take_of_length_le (by have := HL.out; simp; omega)
      rw [hlk] at hown
      have hlen : ((bss us).filter (Pl.met 2 6 l)).length ≤ 1000000 := Nat.le_trans (List.length_filter_le _ _) (by simp; have := HL.out; omega)
      obtain ⟨L, hLL⟩ : ∃ L, (bss us).filter (Pl.met 2 6 l) = L := ⟨_, rfl⟩
      have HU : Hid (Pl.users 2 6 l (bss us) = Nm.names L) := Lib.hid (by unfold Pl.users; rw [hLL])
      rw [hLL] at hown hlen
      clear hlk hLL
      obtain ⟨A2, c2, rfl, hrs, _⟩ := hown.form
      go_wp2_with fail
      refine (sonce_any A2 _ c2 (L.map mk) wr hrs hlen).mono ?_
      rintro e w1 ⟨v1, rfl, b1, own1⟩
      rw [bss_mk'] at own1
      have c1 := below_then hbw b1
      have own2 : OwnStrs w1 w.heap.size v1 (Nm.firsts L) := World.ownsRow.mono own1 hbw.size
      have hfl := Nm.firsts_length L
      clear own1 b1 hown hrs
      go_wp2_with fail
      refine (sort_any w.heap.size v1 (Nm.firsts L) w1 own2 (by omega)).mono ?_
      rintro e w2 ⟨rfl, own3, g3⟩
      have hfin := names_tail c1 own2 own3 g3
      clear own2 own3 g3 c1
      go_wp2_with fail
      go_ret
      exact ⟨v1, rfl, hfin.1, by rw [HU.out]; exact hfin.2⟩
/-! ### the patterns of servers -/
def den (l : List Pol) : List (List UInt8) := (l.filter fun p => decide (p.about = 6)).map fun p => bs p.pattern
theorem deny_den (l : List Pol) : Pl.deny 6 l = Nm.names (den l) := rfl
theorem den_take {l : List Pol} {k : Nat} {x : Pol} {e : Bool} (h : l[k]? = some x) (he : (x.about == 6) = e) : den (l.take (k + 1)) = if e then den (l.take k) ++ [bs x.pattern] else den (l.take k) := by
  obtain ⟨hk, rfl⟩ := List.getElem?_eq_some_iff.1 h
  unfold den
  rw [List.take_succ_eq_append_getElem hk, List.filter_append, List.map_append]
  have : decide (l[k].about = 6) = e := by rw [← he]; rfl
  cases e <;> simp [this]
theorem den_length (l : List Pol) : (den l).length ≤ l.length := by
  unfold den
  rw [List.length_map]; exact List.length_filter_le _ _

set_option maxRecDepth 100000 in
set_option maxHeartbeats 4000000 in
theorem pdeny_any (A : Option Addr) (n c : Nat) (l : List Pol) (w : World) (hr : Rd.pol.Holds w A n l) (hn : n ≤ 1000000) :
    Calls Try.prog 17 #[.slice A n c] w fun e w' => ∃ v, e = .returned v ∧ Below w.heap.size w w' ∧ OwnStrs w' w.heap.size v (Pl.deny 6 l) := by
  obtain ⟨i0, hi, hz0, hz1, hz2⟩ := info_parts infoStr
  have HL := Lib.hid hr.length
  go_enter Try.func17, Try.ntmps17
  go_wp2_with fail
  go_loopw [3, 8] (fun out i wr => ∃ k : Nat, k ≤ n ∧ i = .int .i64 k ∧ Below w.heap.size w wr ∧ OwnStrs wr w.heap.size out (den (l.take k))) (fun _ i _ => n - (intOf i).toNat)
  case atStart => exact ⟨0, by omega, rfl, Below.refl _ _, OwnStrs.nil _ _⟩
  case round =>
    obtain ⟨k, hk, rfl, hbw, hown⟩ := hrel
    by_cases hkn : k < n
    · obtain ⟨b, o, x, rfl, hbl, hu, _, _, hxa⟩ := (hr.on hbw).mid (by decide) hkn
      have x0 : wr.cell? ⟨b, o + k * 3, none⟩ = some (.int .i64 x.about) := hxa 0 _ rfl
      have x1 : wr.cell? ⟨b, o + k * 3 + 1, none⟩ = some (.string x.pattern) := hxa 1 _ rfl
      have x2 : wr.cell? ⟨b, o + k * 3 + 2, none⟩ = some (.string x.reason) := hxa 2 _ rfl
      have hlen : (den (l.take k)).length ≤ k := Nat.le_trans (den_length _) (List.length_take_le _ _)
      obtain ⟨e0, h0⟩ : ∃ e, (x.about == 6) = e := ⟨_, rfl⟩
      have hF := den_take hu h0
      generalize den (l.take k) = L at hown hF hlen
      have HF := Lib.hid hF
      clear hxa hu hF
      go_upto_region 5 with fail
      have bx := Box.new wr [.int .i64 x.about, .string x.pattern, .string x.reason] 37
      have hbo := below_alloc (Below.refl wr.heap.size wr) (.cells #[.int .i64 x.about, .string x.pattern, .string x.reason] 37)
      have hown2 := hown.on hbo
      change Box (wr.alloc (.cells #[.int .i64 x.about, .string x.pattern, .string x.reason] 37)) _ _ at bx
      generalize wr.alloc (.cells #[.int .i64 x.about, .string x.pattern, .string x.reason] 37) = wx at bx hbo hown2 ⊢
      have hbx := below_then hbw hbo
      obtain ⟨q, hq⟩ : ∃ q, wr.heap.size = q := ⟨_, rfl⟩
      rw [hq] at bx ⊢
      clear hq x0 x1 x2 hbo hown hbw
      have p0 : wx.cell? ⟨q, 0, none⟩ = some (.int .i64 x.about) := bx.at_ 0 _ rfl
      have p1 : wx.cell? ⟨q, 1, none⟩ = some (.string x.pattern) := bx.at_ 1 _ rfl
      cases e0
      · have HE : Hid (den (l.take (k + 1)) = L) := Lib.hid (by rw [HF.out]; rfl)
        rw [← HE.out] at hown2
        go_wp2_with fail
        exact ⟨⟨k + 1, by omega, by go_num, hbx, hown2⟩, by simp [intOf]; omega⟩
      · have HE : Hid (den (l.take (k + 1)) = L ++ [bs x.pattern]) := Lib.hid (by rw [HF.out]; rfl)
        have hB3 := hbx.size
        go_wp2_with (at_builtin; refine wpList_append_own _ rfl _ _ 23 rfl w.heap.size 9 i0 (.string .empty) 1 16 Try.underlying23 hi hz0 hz1 hz2 rfl (by decide) _ _ _ rfl (World.ownsRow.alloc hown2 _) ⟨wx.heap.size, 0, none⟩ 1 1 [.string x.pattern] rfl rfl ?dn1 ?dn2 ?dn3 ?dn4 ?dn5 ?_)
        try case dn1 => exact cell_one _ _ _
        case dn2 => simp [Value.oneCell']
        case dn3 => unfold maxLen; omega
        case dn4 => omega
        case dn5 => first | omega | (simp; omega)
        intro v' w' hown' hgrow _
        have hb4 : Below w.heap.size w w' := (hbx.alloc (by omega) _).grown hgrow (by simp; omega) (fun j hj => (World.ownsRow.lt hown2 _ hj).1)
        have hfin := sown_snoc rfl hown'
        rw [← HE.out] at hfin
        clear hown' hgrow hown2
        go_wp2_with fail
        exact ⟨⟨k + 1, by omega, by go_num, hb4, hfin⟩, by simp [intOf]; omega⟩
    · have hlk : l.take k = l := List.take_of_length_le (by have := HL.out; omega)
      rw [hlk] at hown
      have hlen : (den l).length ≤ 1000000 := Nat.le_trans (den_length _) (by have := HL.out; omega)
      obtain ⟨L, hLL⟩ : ∃ L, den l = L := ⟨_, rfl⟩
      have HU : Hid (Pl.deny 6 l = Nm.names L) := Lib.hid (by rw [deny_den, hLL])
      rw [hLL] at hown hlen
      clear hlk hLL
      obtain ⟨A2, c2, rfl, hrs, _⟩ := hown.form
      go_wp2_with fail
      refine (sonce_any A2 _ c2 (L.map mk) wr hrs hlen).mono ?_
      rintro e w1 ⟨v1, rfl, b1, own1⟩
      rw [bss_mk'] at own1
      have c1 := below_then hbw b1
      have own2 : OwnStrs w1 w.heap.size v1 (Nm.firsts L) := World.ownsRow.mono own1 hbw.size
      have hfl := Nm.firsts_length L
      clear own1 b1 hown hrs
      go_wp2_with fail
      refine (sort_any w.heap.size v1 (Nm.firsts L) w1 own2 (by omega)).mono ?_
      rintro e w2 ⟨rfl, own3, g3⟩
      have hfin := names_tail c1 own2 own3 g3
      clear own2 own3 g3 c1
      go_wp2_with fail
      go_ret
      exact ⟨v1, rfl, hfin.1, by rw [HU.out]; exact hfin.2⟩
end Go.Proofs.Ythcbplameonjlaa
