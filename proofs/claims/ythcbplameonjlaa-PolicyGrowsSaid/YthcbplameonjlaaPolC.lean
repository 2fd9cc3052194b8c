/-
  The laws PolicyMerges, PolicyUsers, PolicyMatches and PolicyRules.
-/
import Derived.Test.YthcbplameonjlaaPolB
import Derived.Test.YthcbplameonjlaaPolK
import Derived.Test.YthcbplameonjlaaPolQ
import Derived.Test.YthcbplameonjlaaGreat
namespace Go.Proofs.Ythcbplameonjlaa
open Go.RowKit
attribute [local go_sem ↓] ex_st_pol
attribute [local go_sem] st_pol_new st_pol

set_option maxRecDepth 100000 in
set_option maxHeartbeats 4000000 in
theorem policyMerges_any (x y : Sl Pol) (w : World) (hx : Rd.pol.Holds w x.A x.n x.l ∧ x.n ≤ maxLen) (hy : Rd.pol.Holds w y.A y.n y.l ∧ y.n ≤ maxLen) :
    Calls Try.prog 8 #[x.val, y.val] w (Ret w (.bool true)) := by
  obtain ⟨A, n, c, l⟩ := x
  obtain ⟨B, m, d, l2⟩ := y
  obtain ⟨hx, hxn⟩ := hx
  obtain ⟨hy, hym⟩ := hy
  show Calls _ _ #[.slice A n c, .slice B m d] w _
  change Rd.pol.Holds w A n l at hx
  change Rd.pol.Holds w B m l2 at hy
  change n ≤ maxLen at hxn
  change m ≤ maxLen at hym
  go_enter Try.func8, Try.ntmps8
  go_wp2_with fail
  refine (rgreat47_any A n c l w hx hxn).mono ?_
  rintro e w1 ⟨b, rfl, hg, b1⟩
  cases b
  · obtain ⟨hn, _⟩ := hg rfl
    clear hg
    go_wp2_with fail
    refine (rgreat47_any B m d l2 w1 (hy.on b1) hym).mono ?_
    rintro e w2 ⟨b, rfl, hg, b2⟩
    have c2 := below_then b1 b2
    cases b
    · obtain ⟨hm, _⟩ := hg rfl
      clear hg
      have hll : (Pl.once (l ++ l2)).length ≤ 1000000 := Nat.le_trans (Pl.once_length _) (by rw [List.length_append, hx.length, hy.length]; omega)
      have hok : PolOk (Pl.once (l ++ l2)) := ((pol_ok hx).app (pol_ok hy)).sub fun z hz => (Pl.mem_once _ _).1 hz
      obtain ⟨L, hL⟩ : ∃ L, Pl.once (l ++ l2) = L := ⟨_, rfl⟩
      have C1 := Lib.hid (pmerge_any A B n m c d l l2 w2 (hx.on c2) (hy.on c2) (by omega) (by omega))
      have C2 := Lib.hid (fun V (h : Below w.heap.size w V) => rpmerge_any A B n m c d l l2 V (hx.on h) (hy.on h) (by omega) (by omega))
      rw [hL] at hll hok C1 C2
      clear hL
      go_wp2_with fail
      refine C1.out.mono ?_
      rintro e w3 ⟨v3, rfl, b3, own3⟩
      have c3 := below_then c2 b3
      obtain ⟨A3, c3', rfl, h3, _⟩ := own3.form hok
      clear own3 b3 C1
      go_wp2_with fail
      refine (C2.out w3 c3).mono ?_
      rintro e w4 ⟨v4, rfl, b4, own4⟩
      obtain ⟨A4, c4', rfl, h4, _⟩ := own4.form hok
      have h3' := h3.on b4
      have c4 := below_then c3 b4
      clear own4 C2 b4
      go_wp2_with fail
      refine (samePols_any A3 A4 L.length _ _ L w4 h3' h4 hll).mono ?_
      rintro e w5 ⟨rfl, b5⟩
      have c5 := below_then c4 b5
      go_wp2_with fail
      refine (awake_any _).mono ?_
      rintro e wz ⟨rfl, bz⟩
      go_wp2_with fail
      go_ret
      exact ⟨rfl, below_then c5 bz⟩
    · clear hg
      go_wp2_with fail
      refine (awake_any _).mono ?_
      rintro e wz ⟨rfl, bz⟩
      go_wp2_with fail
      go_ret
      exact ⟨rfl, below_then c2 bz⟩
  · clear hg
    go_wp2_with fail
    refine (awake_any _).mono ?_
    rintro e wz ⟨rfl, bz⟩
    go_wp2_with fail
    go_ret
    exact ⟨rfl, below_then b1 bz⟩

set_option maxRecDepth 100000 in
set_option maxHeartbeats 4000000 in
theorem policyUsers_any (x : Sl Pol) (U : Option Addr) (m d : Nat) (us : List ByteArray) (w : World) (hx : Rd.pol.Holds w x.A x.n x.l ∧ x.n ≤ maxLen) (hu : Strs w U m us) (hm0 : m ≤ maxLen) (_ : ∀ x ∈ us, x.size ≤ maxLen) :
    Calls Try.prog 7 #[x.val, .slice U m d] w (Ret w (.bool true)) := by
  obtain ⟨A, n, c, l⟩ := x
  obtain ⟨hx, hxn⟩ := hx
  show Calls _ _ #[.slice A n c, .slice U m d] w _
  change Rd.pol.Holds w A n l at hx
  change n ≤ maxLen at hxn
  go_enter Try.func7, Try.ntmps7
  go_wp2_with fail
  refine (rgreat47_any A n c l w hx hxn).mono ?_
  rintro e w1 ⟨b, rfl, hg, b1⟩
  cases b
  · obtain ⟨hn, hp⟩ := hg rfl
    clear hg
    go_wp2_with fail
    refine (rgreatNames_any U m d us w1 (hu.on b1) hm0).mono ?_
    rintro e w2 ⟨b, rfl, hg, b2⟩
    have c2 := below_then b1 b2
    cases b
    · obtain ⟨hm, hs⟩ := hg rfl
      have hs' : ∀ x ∈ us, x.size ≤ 1000000 := fun x hx => by have := hs x hx; omega
      clear hg
      have hll : (Pl.users 2 6 l (bss us)).length ≤ 1000000 := Nat.le_trans (Nm.names_length _) (Nat.le_trans (List.length_filter_le _ _) (by simp [hu.length]; omega))
      have hdl : (Pl.deny 6 l).length ≤ 1000000 := Nat.le_trans (Nm.names_length _) (Nat.le_trans (den_length l) (by rw [hx.length]; omega))
      obtain ⟨L, hL⟩ : ∃ L, Pl.users 2 6 l (bss us) = L := ⟨_, rfl⟩
      obtain ⟨D, hD⟩ : ∃ D, Pl.deny 6 l = D := ⟨_, rfl⟩
      have C1 := Lib.hid (pusers_any A n c l U m d us w2 (hx.on c2) (by omega) hp (hu.on c2) (by omega) hs')
      have C2 := Lib.hid (fun V (h : Below w.heap.size w V) => rpusers_any A n c l U m d us V (hx.on h) (by omega) hp (hu.on h) (by omega) hs')
      have C3 := Lib.hid (fun V (h : Below w.heap.size w V) => pdeny_any A n c l V (hx.on h) (by omega))
      have C4 := Lib.hid (fun V (h : Below w.heap.size w V) => rpdeny_any A n c l V (hx.on h) (by omega))
      rw [hL] at hll C1 C2
      rw [hD] at hdl C3 C4
      clear hL hD
      go_wp2_with fail
      refine C1.out.mono ?_
      rintro e w3 ⟨v3, rfl, b3, own3⟩
      have c3 := below_then c2 b3
      obtain ⟨A3, c3', rfl, h3, _⟩ := own3.form
      clear own3 b3 C1
      go_wp2_with fail
      refine (C2.out w3 c3).mono ?_
      rintro e w4 ⟨v4, rfl, b4, own4⟩
      obtain ⟨A4, c4', rfl, h4, _⟩ := own4.form
      have h3' := h3.on b4
      have c4 := below_then c3 b4
      clear own4 C2 b4
      go_wp2_with fail
      refine ((rsame_any A3 A4 L.length L.length _ _ (L.map mk) (L.map mk) w4 h3' h4 hll).mono fun _ _ => Quiet.ret').mono ?_
      rintro e w5 ⟨rfl, b5⟩
      rw [decide_eq_true rfl]
      have c5 := below_then c4 b5
      clear h3 h3' h4 b5 c4 c3
      go_wp2_with fail
      refine (C3.out w5 c5).mono ?_
      rintro e w6 ⟨v6, rfl, b6, own6⟩
      have c6 := below_then c5 b6
      obtain ⟨A6, c6', rfl, h6, _⟩ := own6.form
      clear own6 b6 C3
      go_wp2_with fail
      refine (C4.out w6 c6).mono ?_
      rintro e w7 ⟨v7, rfl, b7, own7⟩
      obtain ⟨A7, c7', rfl, h7, _⟩ := own7.form
      have h6' := h6.on b7
      have c7 := below_then c6 b7
      clear own7 C4 b7
      go_wp2_with fail
      refine ((rsame_any A6 A7 D.length D.length _ _ (D.map mk) (D.map mk) w7 h6' h7 hdl).mono fun _ _ => Quiet.ret').mono ?_
      rintro e w8 ⟨rfl, b8⟩
      rw [decide_eq_true rfl]
      have c8 := below_then c7 b8
      go_wp2_with fail
      refine (awake_any _).mono ?_
      rintro e wz ⟨rfl, bz⟩
      go_wp2_with fail
      go_ret
      exact ⟨rfl, below_then c8 bz⟩
    · clear hg
      go_wp2_with fail
      refine (awake_any _).mono ?_
      rintro e wz ⟨rfl, bz⟩
      go_wp2_with fail
      go_ret
      exact ⟨rfl, below_then c2 bz⟩
  · clear hg
    go_wp2_with fail
    refine (awake_any _).mono ?_
    rintro e wz ⟨rfl, bz⟩
    go_wp2_with fail
    go_ret
    exact ⟨rfl, below_then b1 bz⟩

set_option maxRecDepth 100000 in
set_option maxHeartbeats 4000000 in
theorem policyRules_any (x : Sl Ev) (w : World) (hx : Rd.ev.Holds w x.A x.n x.l ∧ x.n ≤ maxLen) :
    Calls Try.prog 5 #[x.val] w (Ret w (.bool true)) := by
  obtain ⟨A, n, c, l⟩ := x
  obtain ⟨hx, hxn⟩ := hx
  show Calls _ _ #[.slice A n c] w _
  change Rd.ev.Holds w A n l at hx
  change n ≤ maxLen at hxn
  go_enter Try.func5, Try.ntmps5
  go_wp2_with fail
  refine (rgreat8_any A n c l w hx hxn).mono ?_
  rintro e w1 ⟨b, rfl, hg, b1⟩
  cases b
  · have hn := hg rfl
    clear hg
    have hll : (Pl.sort (rul l)).length ≤ 1000000 := by rw [Pl.sort_length]; exact Nat.le_trans (rul_length _) (by rw [hx.length]; omega)
    have hok : PolOk (Pl.sort (rul l)) := fun z hz => rul_ok hx.2.2 z (Pl.mem_sort.1 hz)
    obtain ⟨L, hL⟩ : ∃ L, Pl.sort (rul l) = L := ⟨_, rfl⟩
    have C1 := Lib.hid (prules_any A n c l w1 (hx.on b1) hn)
    have C2 := Lib.hid (fun V (h : Below w.heap.size w V) => rrules_any A n c l V (hx.on h) (by omega))
    rw [hL] at hll hok C1 C2
    clear hL
    go_wp2_with fail
    refine C1.out.mono ?_
    rintro e w3 ⟨v3, rfl, b3, own3⟩
    have c3 := below_then b1 b3
    obtain ⟨A3, c3', rfl, h3, _⟩ := own3.form hok
    clear own3 b3 C1
    go_wp2_with fail
    refine (C2.out w3 c3).mono ?_
    rintro e w4 ⟨v4, rfl, b4, own4⟩
    obtain ⟨A4, c4', rfl, h4, _⟩ := own4.form hok
    have h3' := h3.on b4
    have c4 := below_then c3 b4
    clear own4 C2 b4
    go_wp2_with fail
    refine (samePols_any A3 A4 L.length _ _ L w4 h3' h4 hll).mono ?_
    rintro e w5 ⟨rfl, b5⟩
    have c5 := below_then c4 b5
    go_wp2_with fail
    refine (awake_any _).mono ?_
    rintro e wz ⟨rfl, bz⟩
    go_wp2_with fail
    go_ret
    exact ⟨rfl, below_then c5 bz⟩
  · clear hg
    go_wp2_with fail
    refine (awake_any _).mono ?_
    rintro e wz ⟨rfl, bz⟩
    go_wp2_with fail
    go_ret
    exact ⟨rfl, below_then b1 bz⟩

set_option maxRecDepth 100000 in
set_option maxHeartbeats 4000000 in
theorem policyMatches_any (x : Sl Pol) (k : Int) (s : ByteArray) (w : World) (hx : Rd.pol.Holds w x.A x.n x.l ∧ x.n ≤ maxLen) (hs : s.size ≤ maxLen) :
    Calls Try.prog 6 #[x.val, .int .i64 k, .string s] w (Ret w (.bool true)) := by
  obtain ⟨A, n, c, l⟩ := x
  obtain ⟨hx, hxn⟩ := hx
  show Calls _ _ #[.slice A n c, .int .i64 k, .string s] w _
  change Rd.pol.Holds w A n l at hx
  change n ≤ maxLen at hxn
  unfold maxLen at hs
  go_enter Try.func6, Try.ntmps6
  go_wp2_with fail
  refine (rgreat47_any A n c l w hx hxn).mono ?_
  rintro e w1 ⟨b, rfl, hg, b1⟩
  cases b
  · obtain ⟨hn, hp⟩ := hg rfl
    clear hg
    by_cases h80 : (80 : Int) < (s.size : Nat)
    · have e1 : decide ((80 : Int) < (s.size : Nat)) = true := decide_eq_true h80
      go_wp2_with fail
      refine (awake_any _).mono ?_
      rintro e wz ⟨rfl, bz⟩
      go_wp2_with fail
      go_ret
      exact ⟨rfl, below_then b1 bz⟩
    · have e1 : decide ((80 : Int) < (s.size : Nat)) = false := decide_eq_false h80
      have hs8 : s.size ≤ 1000000 := by omega
      obtain ⟨a1, p1, r1, hm1⟩ := matchV_form (Pl.find l k (bs s))
      obtain ⟨b0, hb0⟩ : ∃ b, (Pl.find l k (bs s)).isSome = b := ⟨_, rfl⟩
      have C1 := fun V (h : Below w.heap.size w V) => pmatch_any A n c l k s V (hx.on h) (by omega) hp hs8
      have C2 := fun V (h : Below w.heap.size w V) => rpmatch_any A n c l k s V (hx.on h) (by omega) hp hs8
      rw [hm1, hb0] at C1 C2
      have D1 := Lib.hid C1; have D2 := Lib.hid C2
      clear C1 C2 hm1 hb0
      go_wp2_with fail
      refine (D1.out w1 b1).mono ?_
      rintro e w2 ⟨rfl, b2⟩
      have c2 := below_then b1 b2
      go_upto_region 4 with fail
      have bx := Box.new w2 [.int .i64 a1, .string p1, .string r1] 37
      have c3 := below_alloc c2 (.cells #[.int .i64 a1, .string p1, .string r1] 37)
      change Box (w2.alloc (.cells #[.int .i64 a1, .string p1, .string r1] 37)) _ _ at bx
      generalize w2.alloc (.cells #[.int .i64 a1, .string p1, .string r1] 37) = w3 at bx c3 ⊢
      obtain ⟨q, hq⟩ : ∃ q, w2.heap.size = q := ⟨_, rfl⟩
      rw [hq] at bx ⊢
      clear hq b2 c2 D1
      go_wp2_with fail
      refine (D2.out w3 c3).mono ?_
      rintro e w4 ⟨rfl, b4⟩
      have c4 := below_then c3 b4
      have bx4 := bx.on b4
      go_upto_region 5 with fail
      have by5 := Box.new w4 [.int .i64 a1, .string p1, .string r1] 37
      have c5 := below_alloc c4 (.cells #[.int .i64 a1, .string p1, .string r1] 37)
      have bx5 := bx4.on (below_alloc (Below.refl w4.heap.size w4) (.cells #[.int .i64 a1, .string p1, .string r1] 37))
      change Box (w4.alloc (.cells #[.int .i64 a1, .string p1, .string r1] 37)) _ _ at by5
      generalize w4.alloc (.cells #[.int .i64 a1, .string p1, .string r1] 37) = w5 at by5 bx5 c5 ⊢
      obtain ⟨q2, hq⟩ : ∃ q, w4.heap.size = q := ⟨_, rfl⟩
      rw [hq] at by5 ⊢
      clear hq b4 c4 bx bx4 D2
      have k0 : w5.cell? ⟨q, 0, none⟩ = some (.int .i64 a1) := bx5.at_ 0 _ rfl
      have k1 : w5.cell? ⟨q, 1, none⟩ = some (.string p1) := bx5.at_ 1 _ rfl
      have k2 : w5.cell? ⟨q, 2, none⟩ = some (.string r1) := bx5.at_ 2 _ rfl
      have j0 : w5.cell? ⟨q2, 0, none⟩ = some (.int .i64 a1) := by5.at_ 0 _ rfl
      have j1 : w5.cell? ⟨q2, 1, none⟩ = some (.string p1) := by5.at_ 1 _ rfl
      have j2 : w5.cell? ⟨q2, 2, none⟩ = some (.string r1) := by5.at_ 2 _ rfl
      clear bx5 by5
      go_wp2_with fail
      have hsp := samePol_any ⟨a1, p1, r1⟩ ⟨a1, p1, r1⟩ w5
      rw [decide_eq_true rfl] at hsp
      refine hsp.mono ?_
      rintro e w6 ⟨rfl, b6⟩
      have c6 := below_then c5 b6
      clear hsp k0 k1 k2 j0 j1 j2
      cases b0
      all_goals
        go_wp2_with fail
        refine (awake_any _).mono ?_
        rintro e wz ⟨rfl, bz⟩
        go_wp2_with fail
        go_ret
        exact ⟨rfl, below_then c6 bz⟩
  · clear hg
    go_wp2_with fail
    refine (awake_any _).mono ?_
    rintro e wz ⟨rfl, bz⟩
    go_wp2_with fail
    go_ret
    exact ⟨rfl, below_then b1 bz⟩
end Go.Proofs.Ythcbplameonjlaa
