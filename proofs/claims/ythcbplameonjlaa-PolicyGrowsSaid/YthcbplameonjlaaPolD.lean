/-
  The law PolicyGrows.
-/
import Derived.Test.YthcbplameonjlaaPolC
import Derived.Test.YthcbplameonjlaaAppW
namespace Go.Proofs.Ythcbplameonjlaa
open Go.RowKit
attribute [local go_sem ↓] ex_st_pol
attribute [local go_sem] st_pol_new st_pol

theorem names_bss_mk (a b : List (List UInt8)) : bss ((a ++ b).map mk) = a ++ b := bss_mk' _
set_option maxRecDepth 100000 in
set_option maxHeartbeats 8000000 in
theorem policyGrows_any (x y : Sl Pol) (U : Option Addr) (m2 d2 : Nat) (us : List ByteArray) (w : World) (hx : Rd.pol.Holds w x.A x.n x.l ∧ x.n ≤ maxLen) (hy : Rd.pol.Holds w y.A y.n y.l ∧ y.n ≤ maxLen) (hu : Strs w U m2 us) (hu0 : m2 ≤ maxLen) (_ : ∀ x ∈ us, x.size ≤ maxLen) :
    Calls Try.prog 3 #[x.val, y.val, .slice U m2 d2] w (Ret w (.bool true)) := by
  obtain ⟨A, n, c, l⟩ := x
  obtain ⟨B, m, d, l2⟩ := y
  obtain ⟨hx, hxn⟩ := hx
  obtain ⟨hy, hym⟩ := hy
  show Calls _ _ #[.slice A n c, .slice B m d, .slice U m2 d2] w _
  change Rd.pol.Holds w A n l at hx
  change Rd.pol.Holds w B m l2 at hy
  change n ≤ maxLen at hxn
  change m ≤ maxLen at hym
  obtain ⟨i0, hi, hz0, hz1, hz2⟩ := info_parts infoStr
  have HI := Lib.hid hi; have HZ0 := Lib.hid hz0; have HZ1 := Lib.hid hz1; have HZ2 := Lib.hid hz2
  clear hi hz0 hz1 hz2
  go_enter Try.func3, Try.ntmps3
  by_cases h1 : (10 : Int) < n
  · have e1 : decide ((10 : Int) < (n : Nat)) = true := decide_eq_true h1
    go_wp2_with fail
    refine (awake_any _).mono ?_
    rintro e wz ⟨rfl, bz⟩
    go_wp2_with fail
    go_ret
    exact ⟨rfl, bz⟩
  have e1 : decide ((10 : Int) < (n : Nat)) = false := decide_eq_false h1
  by_cases h2 : (10 : Int) < m
  · have e2 : decide ((10 : Int) < (m : Nat)) = true := decide_eq_true h2
    go_wp2_with fail
    refine (awake_any _).mono ?_
    rintro e wz ⟨rfl, bz⟩
    go_wp2_with fail
    go_ret
    exact ⟨rfl, bz⟩
  have e2 : decide ((10 : Int) < (m : Nat)) = false := decide_eq_false h2
  go_wp2_with fail
  refine (rgreat47_any A n c l w hx hxn).mono ?_
  rintro e w1 ⟨b, rfl, hg, b1⟩
  cases b
  case true =>
    clear hg
    go_wp2_with fail
    refine (awake_any _).mono ?_
    rintro e wz ⟨rfl, bz⟩
    go_wp2_with fail
    go_ret
    exact ⟨rfl, below_then b1 bz⟩
  obtain ⟨hn, hp⟩ := hg rfl
  clear hg
  go_wp2_with fail
  refine (rgreat47_any B m d l2 w1 (hy.on b1) hym).mono ?_
  rintro e w2 ⟨b, rfl, hg, b2⟩
  have c2 := below_then b1 b2
  cases b
  case true =>
    clear hg
    go_wp2_with fail
    refine (awake_any _).mono ?_
    rintro e wz ⟨rfl, bz⟩
    go_wp2_with fail
    go_ret
    exact ⟨rfl, below_then c2 bz⟩
  obtain ⟨hm, hq⟩ := hg rfl
  clear hg b1 b2
  go_wp2_with fail
  refine (rgreatNames_any U m2 d2 us w2 (hu.on c2) hu0).mono ?_
  rintro e w3 ⟨b, rfl, hg, b3⟩
  have c3 := below_then c2 b3
  cases b
  case true =>
    clear hg
    go_wp2_with fail
    refine (awake_any _).mono ?_
    rintro e wz ⟨rfl, bz⟩
    go_wp2_with fail
    go_ret
    exact ⟨rfl, below_then c3 bz⟩
  obtain ⟨hm2, hs⟩ := hg rfl
  have hs' : ∀ x ∈ us, x.size ≤ 1000000 := fun x hx => by have := hs x hx; omega
  clear hg b3 c2 hs
  -- the plain facts, and the contracts of the calls that follow
  have hok1 := pol_ok hx
  have hok2 := pol_ok hy
  have hlen1 := hx.length
  have hlen2 := hy.length
  have hus := hu.length
  have hML : (Pl.once (l ++ l2)).length ≤ n + m := Nat.le_trans (Pl.once_length _) (by rw [List.length_append]; omega)
  have hMok : PolOk (Pl.once (l ++ l2)) := (hok1.app hok2).sub fun z hz => (Pl.mem_once _ _).1 hz
  have hMs : PolsS (Pl.once (l ++ l2)) := fun z hz => by
    rcases List.mem_append.1 ((Pl.mem_once _ _).1 hz) with h | h
    · exact hp z h
    · exact hq z h
  have hu1 : (Pl.users 2 6 l (bss us)).length ≤ 1000 := Nat.le_trans (Nm.names_length _) (Nat.le_trans (List.length_filter_le _ _) (by simp [hus]; omega))
  have hu2 : (Pl.users 2 6 l2 (bss us)).length ≤ 1000 := Nat.le_trans (Nm.names_length _) (Nat.le_trans (List.length_filter_le _ _) (by simp [hus]; omega))
  have HUM := Lib.hid (Pl.users_merge 2 6 l l2 (bss us))
  have HMR := Lib.hid (Pl.merge_right l l2)
  have HML := Lib.hid (Pl.merge_left l l2)
  have C1 := Lib.hid (fun V (h : Below w.heap.size w V) => pmerge_any A B n m c d l l2 V (hx.on h) (hy.on h) (by omega) (by omega))
  have C2 := Lib.hid (fun V (h : Below w.heap.size w V) => pusers_any A n c l U m2 d2 us V (hx.on h) (by omega) hp (hu.on h) (by omega) hs')
  have C3 := Lib.hid (fun V (h : Below w.heap.size w V) => pusers_any B m d l2 U m2 d2 us V (hy.on h) (by omega) hq (hu.on h) (by omega) hs')
  have C5 := Lib.hid (fun V (h : Below w.heap.size w V) => pmerge_any A A n n c c l l V (hx.on h) (hx.on h) (by omega) (by omega))
  have C6 := Lib.hid (fun V (h : Below w.heap.size w V) => pmerge_any A none n 0 c 0 l [] V (hx.on h) Rd.Holds.none_ (by omega) (by omega))
  obtain ⟨L, hL⟩ : ∃ L, Pl.once (l ++ l2) = L := ⟨_, rfl⟩
  obtain ⟨P1, hP1⟩ : ∃ L, Pl.users 2 6 l (bss us) = L := ⟨_, rfl⟩
  obtain ⟨P2, hP2⟩ : ∃ L, Pl.users 2 6 l2 (bss us) = L := ⟨_, rfl⟩
  obtain ⟨Z, hZ⟩ : ∃ Z, Pl.once (l ++ []) = Z := ⟨_, rfl⟩
  have hZl : Z.length ≤ 1000000 := by rw [← hZ]; exact Nat.le_trans (Pl.once_length _) (by simp; omega)
  have hZok : PolOk Z := by rw [← hZ]; exact hok1.sub fun z hz => by simpa using (Pl.mem_once _ _).1 hz
  rw [Pl.merge_self, hZ] at C5
  rw [hZ] at C6
  rw [hL] at hML hMok hMs C1 HUM HMR HML
  rw [hP1] at hu1 C2 HUM
  rw [hP2] at hu2 C3 HUM
  have C4 := Lib.hid (fun (O : Option Addr) (co : Nat) V (hm : Rd.pol.Holds V O L.length L) (h : Below w.heap.size w V) => pusers_any O L.length co L U m2 d2 us V hm (by omega) hMs (hu.on h) (by omega) hs')
  rw [HUM.out] at C4
  have C7 := Lib.hid (fun (O : Option Addr) (co : Nat) V (hm : Rd.pol.Holds V O L.length L) (h : Below w.heap.size w V) => pmerge_any O B L.length m co d L l2 V hm (hy.on h) (by omega) (by omega))
  rw [HMR.out] at C7
  have C8 := Lib.hid (fun (O : Option Addr) (co : Nat) V (hm : Rd.pol.Holds V O L.length L) (h : Below w.heap.size w V) => pmerge_any O A L.length n co c L l V hm (hx.on h) (by omega) (by omega))
  rw [HML.out] at C8
  clear hL hP1 hP2 hZ HUM HMR HML hs' hp hq hok1 hok2 hMs
  go_wp2_with fail
  refine (C1.out w3 c3).mono ?_
  rintro e w4 ⟨v4, rfl, b4, own4⟩
  have c4 := below_then c3 b4
  obtain ⟨O, co, rfl, hM, _⟩ := own4.form hMok
  clear own4 b4 C1 c3
  go_wp2_with fail
  obtain ⟨w5, hw5⟩ : ∃ W : World, W = w4.alloc (.cells #[] 9) := ⟨_, rfl⟩
  rw [← hw5]
  have b5 : Below w4.heap.size w4 w5 := by rw [hw5]; exact below_alloc (Below.refl _ _) _
  have own5 : OwnStrs w5 w4.heap.size (.slice (some ⟨w4.heap.size, 0, none⟩) 0 0) [] := by rw [hw5]; exact World.ownsRow_made w4 #[] 0 (Nat.le_refl _) (by unfold maxLen; omega) rfl
  clear hw5
  refine (C2.out w5 (below_then c4 b5)).mono ?_
  rintro e w6 ⟨v6, rfl, b6, own6⟩
  have own5' := own5.on b6
  have c6 : Below w4.heap.size w4 w6 := below_then b5 b6
  obtain ⟨A6, c6', rfl, h6, _⟩ := own6.form
  have hr6 : Reads w6 w6.heap.size 1 A6 P1.length (P1.map encStr) := by have := h6; unfold Strs at this; rwa [strs_mk] at this
  clear own6 b6 own5 b5 C2 h6
  have hB6 := c6.size
  go_wp2_with (at_builtin; refine app_rows rfl (.tmp 33) (.tmp 36) 23 rfl w4.heap.size 9 i0 (.string .empty) 1 16 Try.underlying23 HI.out HZ0.out HZ1.out HZ2.out rfl (by decide) (by decide) _ 0 [] rfl own5' _ A6 P1.length c6' (P1.map encStr) rfl hr6 ?a2 ?a3 ?a4 ?_)
  case a2 => exact fun u hu => by obtain ⟨y, _, rfl⟩ := List.mem_map.1 hu; rfl
  case a3 => omega
  case a4 => omega
  intro v7 w7 own7 g7
  have c7 : Below w4.heap.size w4 w7 := c6.grown g7 hB6 (fun j hj => (World.ownsRow.lt own5' _ hj).1)
  have own7' : OwnStrs w7 w4.heap.size v7 P1 := by unfold OwnStrs; simpa using own7
  clear own7 g7 own5' hr6 c6 hB6
  go_wp2_with fail
  refine (C3.out w7 (below_then c4 c7)).mono ?_
  rintro e w8 ⟨v8, rfl, b8, own8⟩
  have own7 := own7'.on b8
  have c8 : Below w4.heap.size w4 w8 := below_then c7 b8
  obtain ⟨A8, c8', rfl, h8, _⟩ := own8.form
  have hr8 : Reads w8 w8.heap.size 1 A8 P2.length (P2.map encStr) := by have := h8; unfold Strs at this; rwa [strs_mk] at this
  clear own8 b8 own7' C3 h8 c7
  have hB8 := c8.size
  go_wp2_with (at_builtin; refine app_rows rfl (.tmp 37) (.tmp 40) 23 rfl w4.heap.size 9 i0 (.string .empty) 1 16 Try.underlying23 HI.out HZ0.out HZ1.out HZ2.out rfl (by decide) (by decide) _ P1.length (P1.map encStr) rfl own7 _ A8 P2.length c8' (P2.map encStr) rfl hr8 ?d2 ?d3 ?d4 ?_)
  case d2 => exact fun u hu => by obtain ⟨y, _, rfl⟩ := List.mem_map.1 hu; rfl
  case d3 => omega
  case d4 => omega
  intro v9 w9 own9 g9
  have c9 : Below w4.heap.size w4 w9 := c8.grown g9 hB8 (fun j hj => (World.ownsRow.lt own7 _ hj).1)
  have own9' : OwnStrs w9 w4.heap.size v9 (P1 ++ P2) := by unfold OwnStrs; rw [List.length_append, List.map_append]; exact own9
  have hPP : (P1 ++ P2).length ≤ 10000 := by rw [List.length_append]; omega
  obtain ⟨PP, hPPe⟩ : ∃ PP, P1 ++ P2 = PP := ⟨_, rfl⟩
  rw [hPPe] at own9' hPP C4
  obtain ⟨A9, c9', rfl, h9, _⟩ := own9'.form
  clear own9 own9' g9 own7 hr8 c8 hB8 hPPe
  go_wp2_with fail
  refine (C4.out O co w9 (hM.on c9) (below_then c4 c9)).mono ?_
  rintro e w10 ⟨v10, rfl, b10, own10⟩
  have c10 : Below w4.heap.size w4 w10 := below_then c9 b10
  have h9' := h9.on b10
  obtain ⟨A10, c10', rfl, h10, _⟩ := own10.form
  clear own10 b10 C4 c9 h9
  go_wp2_with fail
  refine (rnames_any A9 PP.length _ (PP.map mk) w10 h9' (by omega)).mono ?_
  rintro e w11 ⟨v11, rfl, b11, own11⟩
  rw [bss_mk'] at own11
  have c11 : Below w4.heap.size w4 w11 := below_then c10 b11
  have h10' := h10.on b11
  have hNl : (Nm.names PP).length ≤ 1000000 := Nat.le_trans (Nm.names_length _) (by omega)
  obtain ⟨N, hN⟩ : ∃ N, Nm.names PP = N := ⟨_, rfl⟩
  rw [hN] at own11 h10' hNl ⊢
  obtain ⟨A11, c11', rfl, h11, _⟩ := own11.form
  clear own11 b11 c10 h9' h10 hN
  go_wp2_with fail
  refine ((rsame_any A10 A11 N.length N.length _ _ (N.map mk) (N.map mk) w11 h10' h11 hNl).mono fun _ _ => Quiet.ret').mono ?_
  rintro e w12 ⟨rfl, b12⟩
  rw [decide_eq_true rfl]
  have c12 : Below w4.heap.size w4 w12 := below_then c11 b12
  clear c11 b12 h10' h11 hNl
  go_wp2_with fail
  refine (C5.out w12 (below_then c4 c12)).mono ?_
  rintro e w13 ⟨v13, rfl, b13, own13⟩
  have c13 : Below w4.heap.size w4 w13 := below_then c12 b13
  obtain ⟨A13, c13', rfl, h13, _⟩ := own13.form hZok
  clear own13 b13 C5 c12
  go_wp2_with fail
  refine (C6.out w13 (below_then c4 c13)).mono ?_
  rintro e w14 ⟨v14, rfl, b14, own14⟩
  have c14 : Below w4.heap.size w4 w14 := below_then c13 b14
  have h13' := h13.on b14
  obtain ⟨A14, c14', rfl, h14, _⟩ := own14.form hZok
  clear own14 b14 C6 c13 h13
  go_wp2_with fail
  refine (samePols_any A13 A14 Z.length _ _ Z w14 h13' h14 hZl).mono ?_
  rintro e w15 ⟨rfl, b15⟩
  have c15 : Below w4.heap.size w4 w15 := below_then c14 b15
  clear h13' h14 b15 c14
  go_wp2_with fail
  refine (C7.out O co w15 (hM.on c15) (below_then c4 c15)).mono ?_
  rintro e w16 ⟨v16, rfl, b16, own16⟩
  have c16 : Below w4.heap.size w4 w16 := below_then c15 b16
  obtain ⟨A16, c16', rfl, h16, _⟩ := own16.form hMok
  clear own16 b16 C7 c15
  go_wp2_with fail
  refine (samePols_any A16 O L.length _ _ L w16 h16 (hM.on c16) (by omega)).mono ?_
  rintro e w17 ⟨rfl, b17⟩
  have c17 : Below w4.heap.size w4 w17 := below_then c16 b17
  clear b17 c16 h16
  go_wp2_with fail
  refine (C8.out O co w17 (hM.on c17) (below_then c4 c17)).mono ?_
  rintro e w18 ⟨v18, rfl, b18, own18⟩
  have c18 : Below w4.heap.size w4 w18 := below_then c17 b18
  obtain ⟨A18, c18', rfl, h18, _⟩ := own18.form hMok
  clear own18 b18 C8 c17
  go_wp2_with fail
  refine (samePols_any A18 O L.length _ _ L w18 h18 (hM.on c18) (by omega)).mono ?_
  rintro e w19 ⟨rfl, b19⟩
  have c19 := below_then c4 (below_then c18 b19)
  have hML2 : decide ((L.length : Int) ≤ (n : Int) + m) = true := by simp; omega
  go_wp2_with fail
  refine (awake_any _).mono ?_
  rintro e wz ⟨rfl, bz⟩
  go_wp2_with fail
  go_ret
  exact ⟨rfl, below_then c19 bz⟩
end Go.Proofs.Ythcbplameonjlaa
