/-
  The walks through the reference's Users and Deny.
-/
import Derived.Test.YthcbplameonjlaaPolO
namespace Go.Proofs.Ythcbplameonjlaa
open Go.RowKit
attribute [local go_sem ↓] ex_st_pol
attribute [local go_sem] st_pol_new st_pol

theorem cell_on {w w' : World} {ad : Addr} {k : Nat} {v : Value} (h : w.cell? (ad.add k) = some v) (hl : ad.block < w.heap.size) (hb : Below w.heap.size w w') : w'.cell? (ad.add k) = some v :=
  (hb.cell (p := ad.add k) (by rw [block_of_add]; exact hl)).trans h

set_option maxRecDepth 100000 in
set_option maxHeartbeats 4000000 in
theorem rpusers_any (A : Option Addr) (n c : Nat) (l : List Pol) (U : Option Addr) (m d : Nat) (us : List ByteArray) (w : World) (hr : Rd.pol.Holds w A n l) (hn : n ≤ 1000000) (hp : PolsS l) (hu : Strs w U m us) (hm : m ≤ 1000000) (hs : ∀ x ∈ us, x.size ≤ 1000000) :
    Calls Try.prog 27 #[.slice A n c, .slice U m d] w fun e w' => ∃ v, e = .returned v ∧ Below w.heap.size w w' ∧ OwnStrs w' w.heap.size v (Pl.users 2 6 l (bss us)) := by
  obtain ⟨i0, hi, hz0, hz1, hz2⟩ := info_parts infoStr
  have HL := Lib.hid hu.length
  have HS := Lib.hid hs
  have HP := Lib.hid hp
  clear hs hp
  go_enter Try.func27, Try.ntmps27
  go_wp2_with fail
  go_loopw [5, 6] (fun out i wr => ∃ k : Nat, k ≤ m ∧ i = .int .i64 k ∧ Below w.heap.size w wr ∧ OwnStrs wr w.heap.size out (((bss us).take k).filter (Pl.met 2 6 l))) (fun _ i _ => m - (intOf i).toNat)
  case atStart => exact ⟨0, by omega, rfl, Below.refl _ _, OwnStrs.nil _ _⟩
  case round =>
    obtain ⟨k, hk, rfl, hbw, hown⟩ := hrel
    by_cases hkm : k < m
    · obtain ⟨ad, x, rfl, hadb, hux, hc⟩ := (hu.on hbw).at_ hkm
      have hk0 : (k : Int) < m := by omega
      have hF := filter_take (Pl.met 2 6 l) hux
      have hx := HS.out x (List.mem_of_getElem? hux)
      have hlen : (((bss us).take k).filter (Pl.met 2 6 l)).length ≤ k := Nat.le_trans (List.length_filter_le _ _) (List.length_take_le _ _)
      generalize ((bss us).take k).filter (Pl.met 2 6 l) = L at hown hF hlen
      obtain ⟨a1, p1, r1, hm1⟩ := matchV_form (Pl.find l 2 (bs x))
      obtain ⟨a2, p2, r2, hm2⟩ := matchV_form (Pl.find l 6 (I.serverOf (bs x)))
      obtain ⟨b1, hb1⟩ : ∃ b, (Pl.find l 2 (bs x)).isSome = b := ⟨_, rfl⟩
      obtain ⟨b2, hb2⟩ : ∃ b, (Pl.find l 6 (I.serverOf (bs x))).isSome = b := ⟨_, rfl⟩
      obtain ⟨b3, hb3⟩ : ∃ b, (I.serverOf (bs x)).isEmpty = b := ⟨_, rfl⟩
      have hM : Pl.met 2 6 l (bs x) = (b1 || (!b3 && b2)) := by unfold Pl.met; rw [hb1, hb2, hb3]
      rw [hM] at hF
      have HF := Lib.hid hF
      have hs2 := srv_size x
      have C1 := fun V (h : Rd.pol.Holds V (A) n l) => rpmatch_any A n c l 2 x V h hn HP.out hx
      have C2 := fun V (h : Rd.pol.Holds V A n l) => rpmatch_any A n c l 6 (mk (I.serverOf (bs x))) V h hn HP.out (by omega)
      rw [bs_mk] at C2
      have C3 := fun V => rserverOf_any x V (by unfold maxLen; omega)
      have he := empty_dec (I.serverOf (bs x))
      rw [hb3] at he
      obtain ⟨s2, hs2'⟩ : ∃ s2, mk (I.serverOf (bs x)) = s2 := ⟨_, rfl⟩
      rw [hs2'] at C2 C3 he
      rw [hm1, hb1] at C1
      rw [hm2, hb2] at C2
      have D1 := Lib.hid C1; have D2 := Lib.hid C2; have D3 := Lib.hid C3
      clear C1 C2 C3 hb1 hb2 hb3 hm1 hm2 hs2' hs2 hM hF hux
      go_wp2_with fail
      refine (D1.out wr (hr.on hbw)).mono ?_
      rintro e w1 ⟨rfl, bb1⟩
      go_upto_region 6 with fail
      obtain ⟨wx, hwx⟩ : ∃ W : World, W = w1.alloc (.cells #[.int .i64 a1, .string p1, .string r1] 37) := ⟨_, rfl⟩
      have hbx : Below wr.heap.size wr wx := by rw [hwx]; exact below_alloc bb1 _
      rw [← hwx]
      have hcx := cell_on hc hadb hbx
      clear hwx bb1
      cases b1
      · cases b3
        · go_wp2_with fail
          refine (D3.out _).mono ?_
          rintro e w2 ⟨rfl, rfl⟩
          go_wp2_with fail
          refine (D2.out wx (hr.on (below_then hbw hbx))).mono ?_
          rintro e w3 ⟨rfl, bb3⟩
          have hb3 := below_then hbw (below_then hbx bb3)
          have hown3 := hown.on (below_then hbx bb3)
          have hcy := cell_on hc hadb (below_then hbx bb3)
          clear hcx hc hown bb3
          cases b2
          · have HE : Hid (((bss us).take (k + 1)).filter (Pl.met 2 6 l) = L) := Lib.hid (by rw [HF.out]; rfl)
            rw [← HE.out] at hown3
            go_wp2_with fail
            exact ⟨⟨k + 1, by omega, by go_num, hb3, hown3⟩, by simp [intOf]; omega⟩
          · have HE : Hid (((bss us).take (k + 1)).filter (Pl.met 2 6 l) = L ++ [bs x]) := Lib.hid (by rw [HF.out]; rfl)
            have hB3 := hb3.size
            go_wp2_with (at_builtin; refine wpList_append_own _ rfl _ _ 23 rfl w.heap.size 9 i0 (.string .empty) 1 16 Try.underlying23 hi hz0 hz1 hz2 rfl (by decide) _ _ _ rfl (World.ownsRow.alloc hown3 _) ⟨w3.heap.size, 0, none⟩ 1 1 [.string x] rfl rfl ?a1 ?a2 ?a3 ?a4 ?a5 ?_)
            try case a1 => exact cell_one _ _ _
            case a2 => simp [Value.oneCell']
            case a3 => unfold maxLen; omega
            case a4 => omega
            case a5 => first | omega | (simp; omega)
            intro v' w' hown' hgrow _
            have hb4 : Below w.heap.size w w' := (hb3.alloc (by omega) _).grown hgrow (by simp; omega) (fun j hj => (World.ownsRow.lt hown3 _ hj).1)
            have hfin := sown_snoc rfl hown'
            rw [← HE.out] at hfin
            clear hown' hgrow hown3
            go_wp2_with fail
            exact ⟨⟨k + 1, by omega, by go_num, hb4, hfin⟩, by simp [intOf]; omega⟩
        · go_wp2_with fail
          refine (D3.out _).mono ?_
          rintro e w3 ⟨rfl, rfl⟩
          have hb3 := below_then hbw hbx
          have hown3 := hown.on hbx
          clear hc hown
          have HE : Hid (((bss us).take (k + 1)).filter (Pl.met 2 6 l) = L) := Lib.hid (by rw [HF.out]; rfl)
          rw [← HE.out] at hown3
          go_wp2_with fail
          exact ⟨⟨k + 1, by omega, by go_num, hb3, hown3⟩, by simp [intOf]; omega⟩
      · go_wp2_with fail
        refine (D3.out _).mono ?_
        rintro e w3 ⟨rfl, rfl⟩
        have hb3 := below_then hbw hbx
        have hown3 := hown.on hbx
        clear hc hown
        have HE : Hid (((bss us).take (k + 1)).filter (Pl.met 2 6 l) = L ++ [bs x]) := Lib.hid (by rw [HF.out]; rfl)
        have hB3 := hb3.size
        go_wp2_with (at_builtin; refine wpList_append_own _ rfl _ _ 23 rfl w.heap.size 9 i0 (.string .empty) 1 16 Try.underlying23 hi hz0 hz1 hz2 rfl (by decide) _ _ _ rfl (World.ownsRow.alloc hown3 _) ⟨wx.heap.size, 0, none⟩ 1 1 [.string x] rfl rfl ?d1 ?d2 ?d3 ?d4 ?d5 ?_)
        try case d1 => exact cell_one _ _ _
        case d2 => simp [Value.oneCell']
        case d3 => unfold maxLen; omega
        case d4 => omega
        case d5 => first | omega | (simp; omega)
        intro v' w' hown' hgrow _
        have hb4 : Below w.heap.size w w' := (hb3.alloc (by omega) _).grown hgrow (by simp; omega) (fun j hj => (World.ownsRow.lt hown3 _ hj).1)
        have hfin := sown_snoc rfl hown'
        rw [← HE.out] at hfin
        clear hown' hgrow hown3
        go_wp2_with fail
        exact ⟨⟨k + 1, by omega, by go_num, hb4, hfin⟩, by simp [intOf]; omega⟩
    · have hlk : (bss us).take k = bss us := List.take_of_length_le (by have := HL.out; simp; omega)
      rw [hlk] at hown
      have hlen : ((bss us).filter (Pl.met 2 6 l)).length ≤ 1000000 := Nat.le_trans (List.length_filter_le _ _) (by simp; have := HL.out; omega)
      obtain ⟨L, hLL⟩ : ∃ L, (bss us).filter (Pl.met 2 6 l) = L := ⟨_, rfl⟩
      have HU : Hid (Pl.users 2 6 l (bss us) = Nm.names L) := Lib.hid (by unfold Pl.users; rw [hLL])
      rw [hLL] at hown hlen
      clear hlk hLL
      obtain ⟨A2, c2, rfl, hrs, _⟩ := hown.form
      go_wp2_with fail
      refine (rnames_any A2 _ c2 (L.map mk) wr hrs hlen).mono ?_
      rintro e w1 ⟨v1, rfl, b1, own1⟩
      rw [bss_mk'] at own1
      have c1 := below_then hbw b1
      have own2 : OwnStrs w1 w.heap.size v1 (Nm.names L) := World.ownsRow.mono own1 hbw.size
      clear own1 b1 hown hrs
      go_wp2_with fail
      go_ret
      exact ⟨v1, rfl, c1, by rw [HU.out]; exact own2⟩

set_option maxRecDepth 100000 in
set_option maxHeartbeats 4000000 in
theorem rpdeny_any (A : Option Addr) (n c : Nat) (l : List Pol) (w : World) (hr : Rd.pol.Holds w A n l) (hn : n ≤ 1000000) :
    Calls Try.prog 28 #[.slice A n c] w fun e w' => ∃ v, e = .returned v ∧ Below w.heap.size w w' ∧ OwnStrs w' w.heap.size v (Pl.deny 6 l) := by
  obtain ⟨i0, hi, hz0, hz1, hz2⟩ := info_parts infoStr
  have HL := Lib.hid hr.length
  go_enter Try.func28, Try.ntmps28
  go_wp2_with fail
  go_loopw [3, 4] (fun out i wr => ∃ k : Nat, k ≤ n ∧ i = .int .i64 k ∧ Below w.heap.size w wr ∧ OwnStrs wr w.heap.size out (den (l.take k))) (fun _ i _ => n - (intOf i).toNat)
  case atStart => exact ⟨0, by omega, rfl, Below.refl _ _, OwnStrs.nil _ _⟩
  case round =>
    obtain ⟨k, hk, rfl, hbw, hown⟩ := hrel
    by_cases hkn : k < n
    · obtain ⟨b, o, x, rfl, hbl, hu, _, _, hxa⟩ := (hr.on hbw).mid (by decide) hkn
      have x0 : wr.cell? ⟨b, o + k * 3, none⟩ = some (.int .i64 x.about) := hxa 0 _ rfl
      have x1 : wr.cell? ⟨b, o + k * 3 + 1, none⟩ = some (.string x.pattern) := hxa 1 _ rfl
      have hk0 : (k : Int) < n := by omega
      have hlen : (den (l.take k)).length ≤ k := Nat.le_trans (den_length _) (List.length_take_le _ _)
      obtain ⟨e0, h0⟩ : ∃ e, (x.about == 6) = e := ⟨_, rfl⟩
      have hF := den_take hu h0
      generalize den (l.take k) = L at hown hF hlen
      have HF := Lib.hid hF
      clear hxa hu hF
      cases e0
      · have HE : Hid (den (l.take (k + 1)) = L) := Lib.hid (by rw [HF.out]; rfl)
        rw [← HE.out] at hown
        go_wp2_with fail
        exact ⟨⟨k + 1, by omega, by go_num, hbw, hown⟩, by simp [intOf]; omega⟩
      · have HE : Hid (den (l.take (k + 1)) = L ++ [bs x.pattern]) := Lib.hid (by rw [HF.out]; rfl)
        have hB3 := hbw.size
        go_wp2_with (at_builtin; refine wpList_append_own _ rfl _ _ 23 rfl w.heap.size 9 i0 (.string .empty) 1 16 Try.underlying23 hi hz0 hz1 hz2 rfl (by decide) _ _ _ rfl (World.ownsRow.alloc hown _) ⟨wr.heap.size, 0, none⟩ 1 1 [.string x.pattern] rfl rfl ?c1 ?c2 ?c3 ?c4 ?c5 ?_)
        try case c1 => exact cell_one _ _ _
        case c2 => simp [Value.oneCell']
        case c3 => unfold maxLen; omega
        case c4 => omega
        case c5 => first | omega | (simp; omega)
        intro v' w' hown' hgrow _
        have hb4 : Below w.heap.size w w' := (hbw.alloc (by omega) _).grown hgrow (by simp; omega) (fun j hj => (World.ownsRow.lt hown _ hj).1)
        have hfin := sown_snoc rfl hown'
        rw [← HE.out] at hfin
        clear hown' hgrow hown
        go_wp2_with fail
        exact ⟨⟨k + 1, by omega, by go_num, hb4, hfin⟩, by simp [intOf]; omega⟩
    · have hlk : l.take k = l := List.take_of_length_le (by have := HL.out; omega)
      rw [hlk] at hown
      have hlen : (den l).length ≤ 1000000 := Nat.le_trans (den_length _) (by have := HL.out; omega)
      obtain ⟨L, hLL⟩ : ∃ L, den l = L := ⟨_, rfl⟩
      have HU : Hid (Pl.deny 6 l = Nm.names L) := Lib.hid (by rw [deny_den, hLL])
      rw [hLL] at hown hlen
      clear hlk hLL
      obtain ⟨A2, c2, rfl, hrs, _⟩ := hown.form
      go_wp2_with fail
      refine (rnames_any A2 _ c2 (L.map mk) wr hrs hlen).mono ?_
      rintro e w1 ⟨v1, rfl, b1, own1⟩
      rw [bss_mk'] at own1
      have c1 := below_then hbw b1
      have own2 : OwnStrs w1 w.heap.size v1 (Nm.names L) := World.ownsRow.mono own1 hbw.size
      clear own1 b1 hown hrs
      go_wp2_with fail
      go_ret
      exact ⟨v1, rfl, c1, by rw [HU.out]; exact own2⟩
end Go.Proofs.Ythcbplameonjlaa
