/-
  The law PolicyServers.
-/
import Derived.Test.YthcbplameonjlaaPolC
import Derived.Test.YthcbplameonjlaaGlobF
import Derived.Test.YthcbplameonjlaaNamesU
namespace Go.Proofs.Ythcbplameonjlaa
open Go.RowKit
attribute [local go_sem ↓] ex_st_pol
attribute [local go_sem] st_pol_new st_pol

theorem anyI_any (D : List (List UInt8)) (s : ByteArray) : anyI (D.map mk) s = D.any fun p => G.mt p (bs s) := by
  have h : ((D.map mk).findIdx? fun x => G.mt (bs x) (bs s)).isSome = D.any fun p => G.mt p (bs s) := by
    rw [List.findIdx?_isSome, List.any_map]
    congr 1
  unfold anyI firstI
  rw [← h]
  cases (D.map mk).findIdx? fun x => G.mt (bs x) (bs s)
  · rfl
  · simp
theorem find_mem (l : List ByteArray) (s : ByteArray) : decide (0 ≤ findI (bss l) (bs s)) = decide (bs s ∈ bss l) := by
  unfold findI
  cases h : (bss l).findIdx? fun x => decide (x = bs s) with
  | none =>
    rw [List.findIdx?_eq_none_iff] at h
    have : bs s ∉ bss l := fun hm => by have := h _ hm; simp at this
    rw [decide_eq_false this]; rfl
  | some i =>
    obtain ⟨hi, hm, _⟩ := List.findIdx?_eq_some_iff_getElem.1 h
    have : bs s ∈ bss l := by rw [← of_decide_eq_true hm]; exact List.getElem_mem hi
    rw [decide_eq_true this]
    simp
theorem deny_short {l : List Pol} (hp : PolsS l) : Short ((Pl.deny 6 l).map mk) := fun x hx => by
  obtain ⟨y, hy, rfl⟩ := List.mem_map.1 hx
  rw [deny_den, Nm.mem_names] at hy
  unfold den at hy
  obtain ⟨p, hp1, rfl⟩ := List.mem_map.1 hy
  have := (hp p (List.mem_filter.1 hp1).1).1
  rw [mk_bs]; omega

set_option maxRecDepth 100000 in
set_option maxHeartbeats 8000000 in
theorem policyServers_any (x : Sl Pol) (U : Option Addr) (m d : Nat) (us : List ByteArray) (w : World) (hx : Rd.pol.Holds w x.A x.n x.l ∧ x.n ≤ maxLen) (hu : Strs w U m us) (hm0 : m ≤ maxLen) (_ : ∀ x ∈ us, x.size ≤ maxLen) :
    Calls Try.prog 4 #[x.val, .slice U m d] w (Ret w (.bool true)) := by
  obtain ⟨A, n, c, l⟩ := x
  obtain ⟨hx, hxn⟩ := hx
  show Calls _ _ #[.slice A n c, .slice U m d] w _
  change Rd.pol.Holds w A n l at hx
  change n ≤ maxLen at hxn
  go_enter Try.func4, Try.ntmps4
  go_wp2_with fail
  refine (rgreat47_any A n c l w hx hxn).mono ?_
  rintro e w1 ⟨b, rfl, hg, b1⟩
  cases b
  case true =>
    clear hg
    go_wp2_with fail
    refine (awake_any _).mono ?_
    rintro e wz ⟨rfl, bz⟩
    go_wp2_with fail
    go_ret
    exact ⟨rfl, below_then b1 bz⟩
  obtain ⟨hn, hp⟩ := hg rfl
  clear hg
  go_wp2_with fail
  refine (rgreatNames_any U m d us w1 (hu.on b1) hm0).mono ?_
  rintro e w2 ⟨b, rfl, hg, b2⟩
  have c2 := below_then b1 b2
  cases b
  case true =>
    clear hg
    go_wp2_with fail
    refine (awake_any _).mono ?_
    rintro e wz ⟨rfl, bz⟩
    go_wp2_with fail
    go_ret
    exact ⟨rfl, below_then c2 bz⟩
  obtain ⟨hm, hs⟩ := hg rfl
  have hs' : ∀ x ∈ us, x.size ≤ 1000000 := fun x hx => by have := hs x hx; omega
  clear hg b1 b2
  have hus := hu.length
  have hLl : (Pl.users 2 6 l (bss us)).length ≤ 1000000 := Nat.le_trans (Nm.names_length _) (Nat.le_trans (List.length_filter_le _ _) (by simp [hus]; omega))
  have hDl : (Pl.deny 6 l).length ≤ 1000000 := Nat.le_trans (Nm.names_length _) (Nat.le_trans (den_length l) (by rw [hx.length]; omega))
  have C1 := Lib.hid (pusers_any A n c l U m d us w2 (hx.on c2) (by omega) hp (hu.on c2) (by omega) hs')
  have C2 := Lib.hid (fun V (h : Below w.heap.size w V) => pdeny_any A n c l V (hx.on h) (by omega))
  have HMEM := Lib.hid (fun (u : List UInt8) => Pl.mem_users (km := 2) (ka := 6) (l := l) (us := bss us) (u := u))
  have HANY := Lib.hid (fun (s : List UInt8) => Pl.any_deny 6 l s)
  have HSH := Lib.hid (deny_short hp)
  obtain ⟨L, hL⟩ : ∃ L, Pl.users 2 6 l (bss us) = L := ⟨_, rfl⟩
  obtain ⟨D, hD⟩ : ∃ D, Pl.deny 6 l = D := ⟨_, rfl⟩
  rw [hL] at hLl C1 HMEM
  rw [hD] at hDl C2 HANY HSH
  have HS := Lib.hid hs'
  have HP := Lib.hid hp
  clear hL hD hs' hs hp
  go_wp2_with fail
  refine C1.out.mono ?_
  rintro e w3 ⟨v3, rfl, b3, own3⟩
  have c3 := below_then c2 b3
  obtain ⟨A3, c3', rfl, h3, _⟩ := own3.form
  clear own3 b3 C1
  go_wp2_with fail
  refine (C2.out w3 c3).mono ?_
  rintro e w4 ⟨v4, rfl, b4, own4⟩
  have c4 := below_then c3 b4
  obtain ⟨A4, c4', rfl, h4, _⟩ := own4.form
  have h3' := h3.on b4
  have hx4 := hx.on c4
  have hu4 := hu.on c4
  have C5 := Lib.hid (fun V (h : Below w4.heap.size w4 V) (z : ByteArray) => find_any A3 L.length c3' (L.map mk) z V (h3'.on h) hLl)
  have C6 := Lib.hid (fun V (h : Below w4.heap.size w4 V) (z : ByteArray) => find_any U m d us z V (hu4.on h) (by omega))
  rw [bss_mk'] at C5
  clear own4 b4 C2 h3 c3
  go_wp2_with fail
  go_loopw [7] (fun i wr => ∃ k : Nat, k ≤ m ∧ i = .int .i64 k ∧ Below w4.heap.size w4 wr) (fun i _ => m - (intOf i).toNat)
  case atStart => exact ⟨0, by omega, rfl, Below.refl _ _⟩
  case round =>
    obtain ⟨k, hk, rfl, hbw⟩ := hrel
    by_cases hkm : k < m
    · obtain ⟨ad, x, rfl, hadb, hux, hc⟩ := (hu4.on hbw).at_ hkm
      have hk0 : (k : Int) < m := by omega
      have hx8 := HS.out x (List.mem_of_getElem? hux)
      obtain ⟨a1, p1, r1, hm1⟩ := matchV_form (Pl.find l 2 (bs x))
      obtain ⟨b1, hb1⟩ : ∃ b, (Pl.find l 2 (bs x)).isSome = b := ⟨_, rfl⟩
      obtain ⟨b2, hb2⟩ : ∃ b, (Pl.find l 6 (I.serverOf (bs x))).isSome = b := ⟨_, rfl⟩
      obtain ⟨b3, hb3⟩ : ∃ b, (I.serverOf (bs x)).isEmpty = b := ⟨_, rfl⟩
      have hM : Pl.met 2 6 l (bs x) = (b1 || (!b3 && b2)) := by unfold Pl.met; rw [hb1, hb2, hb3]
      have hI : decide (0 ≤ findI L (bs x)) = (b1 || (!b3 && b2)) := by
        have h1 := find_mem (L.map mk) x
        rw [bss_mk'] at h1
        rw [h1, ← hM, Bool.eq_iff_iff, decide_eq_true_eq, HMEM.out]
        exact ⟨fun h => h.2, fun h => ⟨mem_bss.2 (List.mem_of_getElem? hux), h⟩⟩
      have hs2 := srv_size x
      have E1 := fun V (h : Below w4.heap.size w4 V) => pmatch_any A n c l 2 x V (hx4.on h) (by omega) HP.out hx8
      have E3 := fun V => (serverOf_any x V (by unfold maxLen; omega)).mono fun _ _ => Quiet.ret'
      have E4 := fun V (h : Below w4.heap.size w4 V) => any_any A4 D.length c4' (D.map mk) (mk (I.serverOf (bs x))) V (h4.on h) hDl (by omega) HSH.out
      rw [anyI_any, bs_mk, HANY.out, hb2] at E4
      have he := empty_dec (I.serverOf (bs x))
      rw [hb3] at he
      obtain ⟨s2, hs2'⟩ : ∃ s2, mk (I.serverOf (bs x)) = s2 := ⟨_, rfl⟩
      rw [hs2'] at E3 E4 he
      rw [hm1, hb1] at E1
      obtain ⟨fi, hfi⟩ : ∃ fi, findI L (bs x) = fi := ⟨_, rfl⟩
      have E5 := fun V (h : Below w4.heap.size w4 V) => C5.out V h x
      rw [hfi] at hI E5
      have D1 := Lib.hid E1; have D3 := Lib.hid E3; have D4 := Lib.hid E4; have D5 := Lib.hid E5; have HI2 := Lib.hid hI
      clear E1 E3 E4 E5 hI hb1 hb2 hb3 hm1 hs2' hs2 hM hux hfi
      go_wp2_with fail
      refine (D3.out _).mono ?_
      rintro e wq ⟨rfl, bq⟩
      have cq := below_then hbw bq
      have hcq := cell_on hc hadb bq
      have hadq : ad.block < wq.heap.size := Nat.lt_of_lt_of_le hadb bq.size
      clear bq hc hadb
      go_wp2_with fail
      refine (D1.out wq cq).mono ?_
      rintro e w5 ⟨rfl, b5⟩
      go_upto_region 9 with fail
      obtain ⟨wx, hwx⟩ : ∃ W : World, W = w5.alloc (.cells #[.int .i64 a1, .string p1, .string r1] 37) := ⟨_, rfl⟩
      have hbx : Below wq.heap.size wq wx := by rw [hwx]; exact below_alloc b5 _
      rw [← hwx]
      have hcx := cell_on hcq hadq hbx
      have hadx : ad.block < wx.heap.size := Nat.lt_of_lt_of_le hadq hbx.size
      have cx := below_then cq hbx
      clear hwx b5 hcq hadq hbx
      cases b3
      · go_wp2_with fail
        refine (D4.out wx cx).mono ?_
        rintro e w6 ⟨rfl, b6⟩
        have hcy := cell_on hcx hadx b6
        have cy := below_then cx b6
        clear hcx b6
        cases b1 <;> cases b2
        all_goals
          first
            | have hI2 : decide ((0 : Int) ≤ fi) = true := HI2.out
            | have hI2 : decide ((0 : Int) ≤ fi) = false := HI2.out
          go_wp2_with fail
          refine (D5.out w6 cy).mono ?_
          rintro e w7 ⟨rfl, rfl⟩
          go_wp2_with fail
          exact ⟨⟨k + 1, by omega, by go_num, cy⟩, by simp [intOf]; omega⟩
      · cases b1
        all_goals
          first
            | have hI2 : decide ((0 : Int) ≤ fi) = true := HI2.out
            | have hI2 : decide ((0 : Int) ≤ fi) = false := HI2.out
          go_wp2_with fail
          refine (D5.out wx cx).mono ?_
          rintro e w7 ⟨rfl, rfl⟩
          go_wp2_with fail
          exact ⟨⟨k + 1, by omega, by go_num, cx⟩, by simp [intOf]; omega⟩
    · go_wp2_with fail
      have hbw0 := hbw
      obtain ⟨w5, rfl⟩ : ∃ w5 : World, w5 = wr := ⟨_, rfl⟩
      go_loopw [11] (fun i wr => ∃ k : Nat, k ≤ L.length ∧ i = .int .i64 k ∧ Below w4.heap.size w4 wr) (fun i _ => L.length - (intOf i).toNat)
      case atStart => exact ⟨0, by omega, rfl, hbw0⟩
      case round =>
        clear hbw0
        obtain ⟨k, hk, rfl, hbw⟩ := hrel
        by_cases hkm : k < L.length
        · obtain ⟨ad, x, rfl, hadb, hux, hc⟩ := (h3'.on hbw).at_ hkm
          have hk0 : (k : Int) < L.length := by omega
          obtain ⟨fi, hfi⟩ : ∃ fi, findI (bss us) (bs x) = fi := ⟨_, rfl⟩
          have hI : decide (0 ≤ fi) = true := by
            rw [← hfi, find_mem]
            refine decide_eq_true ?_
            have h1 : x ∈ L.map mk := List.mem_of_getElem? hux
            obtain ⟨y, hy, rfl⟩ := List.mem_map.1 h1
            rw [bs_mk]
            exact ((HMEM.out y).1 hy).1
          have hI2 : decide (fi < 0) = false := by
            have := of_decide_eq_true hI
            simp; omega
          have E6 := fun V (h : Below w4.heap.size w4 V) => C6.out V h x
          rw [hfi] at E6
          have D6 := Lib.hid E6
          clear E6 hfi hI hux
          go_wp2_with fail
          refine (D6.out wr hbw).mono ?_
          rintro e w7 ⟨rfl, rfl⟩
          go_wp2_with fail
          exact ⟨⟨k + 1, by omega, by go_num, hbw⟩, by simp [intOf]; omega⟩
        · go_wp2_with fail
          refine (awake_any _).mono ?_
          rintro e wz ⟨rfl, bz⟩
          go_wp2_with fail
          go_ret
          exact ⟨rfl, below_then (below_then c4 hbw) bz⟩
end Go.Proofs.Ythcbplameonjlaa
