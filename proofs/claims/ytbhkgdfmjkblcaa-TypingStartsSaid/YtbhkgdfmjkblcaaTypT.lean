/-
  The walk through typing.Start.
-/
import Derived.Test.YtbhkgdfmjkblcaaTypN
import Derived.Test.YtbhkgdfmjkblcaaCopyW
import Derived.Deep.RegionLaw
import Derived.Deep.RegionHeld3
import Derived.Deep.DeepCutAuto
namespace Go.Proofs.Ytbhkgdfmjkblcaa
open Go.RowKit

theorem run_make_rowN {P : Program} (t e : TypeId) (i : TypeInfo) (z : Value) (ht : P.underlying t = some (.slice e)) (hi : P.info? e = some i) (hz : i.zero = some z)
    (kl kc : IntKind) (n c : Nat) (hnc : n ≤ c) (hbytes : i.bytes * c ≤ 281474976710656) (h63 : c ≤ 9223372036854775807) (w : World) :
    (Instr.makeSlice t (.int kl (n : Int)) (.int kc (c : Int))).run P w = .ok (.slice (some ⟨w.heap.size, 0, none⟩) n c) (w.alloc (.cells (madeCells z.cells (c * i.size)) e)) := by
  have hb : (i.bytes : Int) * (c : Int) ≤ 281474976710656 := by
    have h : ((i.bytes * c : Nat) : Int) ≤ 281474976710656 := by omega
    rwa [Int.natCast_mul] at h
  have hr := run_make (P := P) w t e i z ht hi hz kl kc n c (by omega) (by omega) hb (by omega)
  simp only [Int.toNat_natCast] at hr
  exact hr
/-- a row of n records, made: Z what it holds -/
theorem make_typs (n : Nat) (hn : n ≤ 1000001) : ∃ Z : List Value, Z.length = n * 2 ∧ ∀ w : World, (Instr.makeSlice 22 (.int .i64 (n : Int)) (.int .i64 (n : Int))).run Try.prog w =
    .ok (.slice (some ⟨w.heap.size, 0, none⟩) n n) (w.alloc (.cells Z.toArray 68)) := by
  obtain ⟨i0, hi, hz0, hz1, hz2⟩ := info_parts infoTyp
  refine ⟨(madeCells (Value.agg #[.string .empty, .int .i64 0]).cells (n * 2)).toList, by rw [Array.length_toList, size_madeCells], fun w => ?_⟩
  rw [run_make_rowN _ _ i0 _ Try.underlying22 hi hz0 _ _ n n (Nat.le_refl _) (by rw [hz2]; omega) (by omega) w, hz1, Array.toArray_toList]

theorem own_of_block {w : World} {g B n : Nat} {l : List Typ} (hg : w.heap[g]? = some (.cells (Rd.typ.rows l).toArray 68 (0, 0))) (hB : B ≤ g) (hl : n = l.length) (hn : n ≤ 1000001) : OwnTyps w B (.slice (some ⟨g, 0, none⟩) n n) l := by
  subst hl
  have hr : (Rd.typ.rows l).length = l.length * 2 := Rd.typ.rows_length l
  refine ⟨hr, .inr ⟨g, l.length, _, rfl, hB, hg, Nat.le_refl _, by unfold maxLen; omega, by simpa using hr, ?_⟩⟩
  simp [← hr]
theorem OwnTyps.form2 {w : World} {B : Nat} {v : Value} {l : List Typ} (h : OwnTyps w B v l) (hok : TypOk l) : ∃ A c, v = .slice A l.length c ∧ Typs w A l.length l ∧ l.length ≤ c := by
  obtain ⟨A, c, rfl, hc, hr⟩ := own_form h
  exact ⟨A, c, rfl, ⟨hr, rfl, fun x hx => ⟨(hok x hx).1, (hok x hx).2, trivial⟩⟩, hc⟩
theorem rows_set : ∀ (l : List Typ) (k : Nat) (x : Typ), k < l.length → Rd.typ.rows (l.set k x) = ((Rd.typ.rows l).set (k * 2) (.string x.user)).set (k * 2 + 1) (.int .i64 x.til)
  | [], k, x, h => by simp at h
  | y :: l, 0, x, _ => rfl
  | y :: l, k + 1, x, h => by
    have ih := rows_set l k x (by simpa using h)
    show Rd.typ.rows (y :: l.set k x) = _
    have e : ∀ (z : Typ) (m : List Typ), Rd.typ.rows (z :: m) = .string z.user :: .int .i64 z.til :: Rd.typ.rows m := fun _ _ => rfl
    rw [e, e, ih, show (k + 1) * 2 = k * 2 + 1 + 1 by omega]
    simp
theorem OwnTyps.put {w : World} {B g cap n : Nat} {l : List Typ} (h : OwnTyps w B (.slice (some ⟨g, 0, none⟩) n cap) l) (hn : n = l.length) {k : Nat} (hk : k < l.length) (x : Typ) :
    OwnTyps ((w.setCell ⟨g, k * 2, none⟩ (.string x.user)).setCell ⟨g, k * 2 + 1, none⟩ (.int .i64 x.til)) B (.slice (some ⟨g, 0, none⟩) n cap) (l.set k x) := by
  subst hn
  have h1 := (World.ownsRow.stored h (k * 2) (.string x.user)).1
  have h2 := (World.ownsRow.stored h1 (k * 2 + 1) (.int .i64 x.til)).1
  unfold OwnTyps
  rw [List.length_set, rows_set l k x hk]; exact h2
theorem OwnTyps.cell {w : World} {B g cap n : Nat} {l : List Typ} (h : OwnTyps w B (.slice (some ⟨g, 0, none⟩) n cap) l) (hn : n = l.length) {j : Nat} (hj : j < n * 2) :
    (∃ v, w.cell? ⟨g, j, none⟩ = some v) ∧ w.frozen? ⟨g, j, none⟩ = false := by
  subst hn
  have hr : (Rd.typ.rows l).length = l.length * 2 := Rd.typ.rows_length l
  exact ⟨⟨_, (World.ownsRow.cellAt h j hj).trans (List.getElem?_eq_getElem (by omega))⟩, World.ownsRow.frozenAt h j⟩
theorem splice_all {L cs : List Value} (h : L.length = cs.length) : splice L 0 cs = cs := by
  unfold splice
  rw [List.take_zero, List.nil_append, Nat.zero_add, ← h, List.drop_length, List.append_nil]

theorem splice_insert {Z T D : List Value} {a b : Value} {q n : Nat} (hZ : Z.length = (n + 1) * 2) (hT : T.length = q * 2) (hD : D.length = (n - q) * 2) (hq : q ≤ n) :
    splice (((splice Z 0 T).set (q * 2) a).set (q * 2 + 1) b) ((q + 1) * 2) D = T ++ a :: b :: D := by
  have h1 : splice Z 0 T = T ++ Z.drop (q * 2) := by unfold splice; rw [List.take_zero, List.nil_append, Nat.zero_add, hT]
  rw [h1]
  obtain ⟨x, y, Y, hY⟩ : ∃ x y Y, Z.drop (q * 2) = x :: y :: Y := by
    have hl : (Z.drop (q * 2)).length = (n + 1 - q) * 2 := by rw [List.length_drop, hZ]; omega
    match h : Z.drop (q * 2), hl with
    | [], hl => simp at hl; omega
    | [x], hl => simp at hl; omega
    | x :: y :: Y, _ => exact ⟨x, y, Y, rfl⟩
  have hYl : Y.length = D.length := by
    have hl : (Z.drop (q * 2)).length = (n + 1 - q) * 2 := by rw [List.length_drop, hZ]; omega
    rw [hY] at hl; simp at hl; omega
  rw [hY, List.set_append_right _ _ (by omega), hT, Nat.sub_self, List.set_cons_zero, List.set_append_right _ _ (by omega), hT, show q * 2 + 1 - q * 2 = 1 by omega]
  show splice (T ++ a :: b :: Y) ((q + 1) * 2) D = _
  unfold splice
  have e1 : (T ++ a :: b :: Y).take ((q + 1) * 2) = T ++ [a, b] := by
    rw [List.take_append, List.take_of_length_le (by omega), hT, show (q + 1) * 2 - q * 2 = 2 by omega]; rfl
  have e2 : (T ++ a :: b :: Y).drop ((q + 1) * 2 + D.length) = [] := List.drop_of_length_le (by simp; omega)
  rw [e1, e2]; simp
theorem ins_ok {l : List Typ} (h : TypOk l) {u : ByteArray} {t : Int} (hu : u.size ≤ maxLen) (ht : -9223372036854775808 ≤ t ∧ t ≤ 9223372036854775807) (q : Nat) : TypOk (l.take q ++ ⟨u, t⟩ :: l.drop q) := fun z hz => by
  rcases List.mem_append.1 hz with h1 | h1
  · exact h z (List.mem_of_mem_take h1)
  · rcases List.mem_cons.1 h1 with rfl | h1
    · exact ⟨hu, ht⟩
    · exact h z (List.mem_of_mem_drop h1)
def startErr (u : List UInt8) (now span : Int) : Int := if I.userB u = false then 3 else if now < 0 ∨ 1000000000 < now ∨ span < 1 ∨ 30000 < span then 2 else 0
def startL (l : List Typ) (u : ByteArray) (now span : Int) : List Typ := if startErr (bs u) now span = 0 then T.start l ⟨u, now + span⟩ else []
def StartPost (w : World) (l : List Typ) (u : ByteArray) (now span : Int) (e : Ending) (w' : World) : Prop :=
  ∃ A c, e = .returned (.tuple #[.slice A (startL l u now span).length c, .int .i64 (startErr (bs u) now span)]) ∧ Typs w' A (startL l u now span).length (startL l u now span) ∧ (startL l u now span).length ≤ c ∧ Below w.heap.size w w'
theorem start_err {w w' : World} {l : List Typ} {u : ByteArray} {now span : Int} {r : Int} (h : startErr (bs u) now span = r) (hr : r ≠ 0) (hb : Below w.heap.size w w') :
    StartPost w l u now span (.returned (.tuple #[.slice none 0 0, .int .i64 r])) w' := by
  have hl : startL l u now span = [] := by unfold startL; rw [h, if_neg hr]
  unfold StartPost
  rw [hl, h]
  exact ⟨none, 0, rfl, Rd.Holds.none_, Nat.le_refl _, hb⟩
theorem start_own {w w' : World} {l m : List Typ} {u : ByteArray} {now span : Int} {v : Value} {B : Nat} (h : startErr (bs u) now span = 0) (hm : T.start l ⟨u, now + span⟩ = m) (hown : OwnTyps w' B v m) (hok : TypOk m) (hb : Below w.heap.size w w') :
    StartPost w l u now span (.returned (.tuple #[v, .int .i64 0])) w' := by
  have hl : startL l u now span = m := by unfold startL; rw [h, if_pos rfl, hm]
  unfold StartPost
  rw [hl, h]
  obtain ⟨A, c, rfl, hT, hc⟩ := hown.form2 hok
  exact ⟨A, c, rfl, hT, hc, hb⟩
def At1 (l : List Typ) (u : List UInt8) (n : Nat) (at_ i : Value) : Prop := ∃ (iv : Int) (q : Nat), -1 ≤ iv ∧ iv < n ∧ i = .int .i64 iv ∧ at_ = .int .i64 (q : Int) ∧ Hid (q = T.spotAt l u (iv + 1).toNat)
def NotU (l : List Typ) (u : List UInt8) (k : Nat) : Prop := ∀ (j : Nat) z, l[j]? = some z → j < k → T.nm z ≠ u

set_option maxRecDepth 100000 in
set_option maxHeartbeats 4000000 in
theorem tstart_any (A : Option Addr) (n c : Nat) (l : List Typ) (u : ByteArray) (now span : Int) (w : World) (hr : Typs w A n l) (hn : n ≤ 1000000) (hcap : n ≤ c) (hu : u.size ≤ maxLen) :
    Calls Try.prog 19 #[.slice A n c, .string u, .int .i64 now, .int .i64 span] w (StartPost w l u now span) := by
  have HOK := Lib.hid hr.ok
  have HL := Lib.hid (Rd.Holds.length hr)
  obtain ⟨Z1, hZ1, hmk1⟩ := make_typs n (by omega)
  obtain ⟨Z2, hZ2, hmk2⟩ := make_typs (n + 1) (by omega)
  rw [show ((n + 1 : Nat) : Int) = (n : Int) + 1 by omega] at hmk2
  have HZ1 := Lib.hid hZ1; have HZ2 := Lib.hid hZ2
  clear hZ1 hZ2
  go_enter Try.func19, Try.ntmps19
  go_wp2_with fail
  refine ((user_any u w hu).mono fun _ _ => Quiet.ret').mono ?_
  rintro e w1 ⟨rfl, b1⟩
  cases hub : I.userB (bs u)
  · have HE : Hid (startErr (bs u) now span = 3) := by show _ = _; unfold startErr; rw [if_pos hub]
    clear hub
    simp only [I.errOf]
    go_wp2_with fail
    go_ret2
    exact start_err HE.out (by decide) b1
  have HUB := Lib.hid hub; clear hub
  simp only [I.errOf]
  by_cases hbad : now < 0 ∨ 1000000000 < now ∨ span < 1 ∨ 30000 < span
  · have HE : Hid (startErr (bs u) now span = 2) := by show _ = _; unfold startErr; rw [if_neg (by rw [HUB.out]; decide), if_pos hbad]
    by_cases c1 : now < 0
    · clear hbad
      go_wp2_with fail
      go_ret2
      exact start_err HE.out (by decide) b1
    by_cases c2 : 1000000000 < now
    · clear hbad
      go_wp2_with fail
      go_ret2
      exact start_err HE.out (by decide) b1
    by_cases c3 : span < 1
    · clear hbad
      go_wp2_with fail
      go_ret2
      exact start_err HE.out (by decide) b1
    have c4 : 30000 < span := by omega
    clear hbad
    go_wp2_with fail
    go_ret2
    exact start_err HE.out (by decide) b1
  have HE : Hid (startErr (bs u) now span = 0) := by show _ = _; unfold startErr; rw [if_neg (by rw [HUB.out]; decide), if_neg hbad]
  have c1 : ¬ now < 0 := by omega
  have c1' : 0 ≤ now := by omega
  have c2 : ¬ 1000000000 < now := by omega
  have c2' : now ≤ 1000000000 := by omega
  have c3 : ¬ span < 1 := by omega
  have c3' : 1 ≤ span := by omega
  have c4 : ¬ 30000 < span := by omega
  have c4' : span ≤ 30000 := by omega
  clear hbad
  go_upto_region 7 with fail
  obtain ⟨t, ht⟩ : ∃ t : Int, t = now + span := ⟨_, rfl⟩
  have htb : -9223372036854775808 ≤ t ∧ t ≤ 9223372036854775807 := by omega
  rw [← ht]
  have HTT := Lib.hid ht; have HTB := Lib.hid htb; clear ht htb
  have x0 : (w1.alloc (.cells #[.string u, .int .i64 t] 68)).cell? ⟨w1.heap.size, 0, none⟩ = some (.string u) := by simp
  have x1 : (w1.alloc (.cells #[.string u, .int .i64 t] 68)).cell? ⟨w1.heap.size, 1, none⟩ = some (.int .i64 t) := by simp
  have hbW : Below w.heap.size w (w1.alloc (.cells #[.string u, .int .i64 t] 68)) := below_alloc b1 _
  have hpW : w1.heap.size < (w1.alloc (.cells #[.string u, .int .i64 t] 68)).heap.size := by simp
  generalize w1.alloc (.cells #[.string u, .int .i64 t] 68) = W at x0 x1 hbW hpW ⊢
  obtain ⟨p, hp⟩ : ∃ p, p = w1.heap.size := ⟨_, rfl⟩
  rw [← hp] at x0 x1 hpW ⊢
  clear hp b1 c1 c2 c3 c4 c1' c2' c3' c4'
  have hrW := hr.on hbW
  have HZS := hbW.size
  go_wp2_with fail
  go_loop [11, 12] (fun at_ i => At1 l (bs u) n at_ i) (fun _ i => (intOf i + 1).toNat)
  case atStart => exact ⟨(n : Int) - 1, n, by omega, by omega, rfl, rfl, by show _ = _; rw [show ((n : Int) - 1 + 1).toNat = l.length by have := HL.out; omega, T.spotAt_end]; exact HL.out.symm⟩
  case round =>
    obtain ⟨iv, q, hv1, hv2, rfl, rfl, HQ⟩ := hrel
    by_cases h0 : 0 ≤ iv
    · obtain ⟨k, rfl⟩ : ∃ k : Nat, iv = k := ⟨iv.toNat, by omega⟩
      obtain ⟨b, o, y, rfl, _, huy, _, _, p0, _⟩ := hrW.at_ (show k < n by omega)
      by_cases hgt : bs u < T.nm y
      · obtain ⟨e1, e2⟩ := not_less (a := y.user) (b := u) hgt
        have HF : Hid (k = T.spotAt l (bs u) ((k : Int) - 1 + 1).toNat) := by show _ = _; rw [show ((k : Int) - 1 + 1).toNat = k by omega, T.spotAt_yes huy hgt]
        clear hgt huy
        go_wp2_with fail
        exact ⟨⟨(k : Int) - 1, k, by omega, by omega, rfl, rfl, HF⟩, by simp [intOf]⟩
      · have e1 : (Op.bytesLess y.user.toList u.toList = true) ∨ (y.user.toList == u.toList) = true := by
          rcases Nm.lt_or (bs y.user) (bs u) with h | h | h
          · exact .inl (by rw [bytesLess_lt]; exact decide_eq_true h)
          · exact .inr (by rw [streq]; exact decide_eq_true h)
          · exact absurd h hgt
        have HF : Hid (q = T.spotAt l (bs u) ((k : Int) - 1 + 1).toNat) := by
          show _ = _
          rw [show ((k : Int) - 1 + 1).toNat = k by omega, T.spotAt_no huy hgt, HQ.out]; rfl
        clear hgt huy
        rcases e1 with e1 | e1
        · go_wp2_with fail
          exact ⟨⟨(k : Int) - 1, q, by omega, by omega, rfl, rfl, HF⟩, by simp [intOf]⟩
        · go_wp2_with fail
          exact ⟨⟨(k : Int) - 1, q, by omega, by omega, rfl, rfl, HF⟩, by simp [intOf]⟩
    · have hq : q = T.spot l (bs u) := by rw [HQ.out, show (iv + 1).toNat = 0 by omega, T.spotAt_zero]
      have hqn : q ≤ n := by rw [hq]; have := T.spot_le l (bs u); have := HL.out; omega
      have HQ2 := Lib.hid hq
      clear hq HQ
      go_wp2_with fail
      go_loop [57] (fun i => ∃ k : Nat, k ≤ n ∧ i = .int .i64 k ∧ NotU l (bs u) k) (fun i => n - (intOf i).toNat)
      case atStart => exact ⟨0, by omega, rfl, fun j _ _ h => by omega⟩
      case round =>
        clear h0 hv1 hv2
        obtain ⟨k, hk, rfl, hnu⟩ := hrel
        by_cases hlt : k < n
        · obtain ⟨b, o, y, rfl, _, huy, _, _, p0, _⟩ := hrW.at_ hlt
          by_cases hyu : y.user = u
          · have es : (y.user.toList == u.toList) = true := by rw [streq']; simpa using hyu
            have hit : T.hit l (bs u) = some k := T.hit_some huy (by show bs y.user = _; rw [hyu]) hnu
            have HM : Hid (T.start l ⟨u, now + span⟩ = l.set k ⟨u, t⟩) := by
              show _ = _
              unfold T.start
              rw [show T.nm ⟨u, now + span⟩ = bs u from rfl, hit, HTT.out]
            clear hit hyu huy hnu
            go_upto_region 18 with fail
            have hgW : (W.alloc (.cells Z1.toArray 68)).heap[W.heap.size]? = some (.cells Z1.toArray 68 (0, 0)) := heap_alloc_new _ _
            have hb2 : Below W.heap.size W (W.alloc (.cells Z1.toArray 68)) := below_alloc (Below.refl _ _) _
            have hrS := (hrW.on hb2).1
            generalize W.alloc (.cells Z1.toArray 68) = W2 at hgW hb2 hrS ⊢
            obtain ⟨g, hg⟩ : ∃ g, g = W.heap.size := ⟨_, rfl⟩
            rw [← hg] at hgW ⊢
            have hRl : (Rd.typ.rows l).length = n * 2 := by rw [Rd.rows_length]; show l.length * 2 = _; rw [HL.out]
            obtain ⟨R, hR⟩ : ∃ R, R = Rd.typ.rows l := ⟨_, rfl⟩
            rw [← hR] at hRl hrS
            have HR := Lib.hid hR; have HRS := Lib.hid hrS
            have hone : ∀ v ∈ R, v.oneCell' = true := by rw [hR]; exact Rd.typ.rows_one' l
            have HONE := Lib.hid hone; have HRL := Lib.hid hRl; have HGW := Lib.hid hgW
            have hBg : W.heap.size ≤ g := by omega
            have hpg : p ≠ g := by omega
            clear hR hrS hone hRl hgW hg
            go_wp2_with (with_reducible refine wpList_copyN rfl (.tmp 70) (.tmp 71) 22 22 rfl 68 Try.underlying22 2 n (by kernel_rfl) (by decide) (some ⟨g, 0, none⟩) (some ⟨b, o, none⟩) n n n c rfl rfl g 0 Z1 68 HGW.out R (Nat.min_self n) HRL.out ?p1 ?p2 HONE.out W.heap.size W hb2 hBg ?_)
            case p1 =>
              intro h0
              obtain ⟨ad, h', _, hc⟩ := HRS.out.2 h0
              cases h'
              simp only [Addr.add_mid] at hc
              first | exact ⟨_, rfl, hc⟩ | exact hc
            case p2 => first | (rw [HRL.out, HZ1.out]; exact Nat.le_refl _) | (rw [Nat.zero_add, HRL.out, HZ1.out]; exact Nat.le_refl _)
            intro W3 HG3 hb3
            have hg3 := HG3.out
            rw [splice_all (by rw [HZ1.out, HRL.out]), HR.out] at hg3
            have own3 := own_of_block (B := W.heap.size) (n := n) hg3 hBg HL.out.symm (by omega)
            clear hg3 HG3
            have hkl : k < l.length := by have := HL.out; omega
            have own4 := own3.put HL.out.symm hkl ⟨u, t⟩
            obtain ⟨⟨v0, hv0⟩, hf0⟩ := own3.cell HL.out.symm (j := k * 2) (by omega)
            obtain ⟨⟨v1, hv1⟩, hf1⟩ := own3.cell HL.out.symm (j := k * 2 + 1) (by omega)
            have y0 : W3.cell? ⟨p, 0, none⟩ = some (.string u) := (hb3.cell (p := ⟨p, 0, none⟩) hpW).trans x0
            have y1 : W3.cell? ⟨p, 1, none⟩ = some (.int .i64 t) := (hb3.cell (p := ⟨p, 1, none⟩) hpW).trans x1
            have HOWN : Hid (OwnTyps ((W3.setCell ⟨g, k * 2, none⟩ (.string u)).setCell ⟨g, k * 2 + 1, none⟩ (.int .i64 t)) W.heap.size (.slice (some ⟨g, 0, none⟩) n n) (l.set k ⟨u, t⟩)) := own4
            have hb5 : Below w.heap.size w ((W3.setCell ⟨g, k * 2, none⟩ (.string u)).setCell ⟨g, k * 2 + 1, none⟩ (.int .i64 t)) := Below.setCell (Below.setCell (below_then hbW hb3) (p := ⟨g, k * 2, none⟩) (by show _ ≤ g; omega) _) (p := ⟨g, k * 2 + 1, none⟩) (by show _ ≤ g; omega) _
            have HB5 := Lib.hid hb5
            clear own3 own4 hb5
            go_wp2_with fail
            go_ret2
            exact start_own HE.out HM.out HOWN.out (fun z hz => by
              rcases List.mem_or_eq_of_mem_set hz with h | h
              · exact HOK.out z h
              · subst h; exact ⟨hu, HTB.out⟩) HB5.out
          · have es : (y.user.toList == u.toList) = false := by rw [streq']; simpa using hyu
            have HB : Hid (NotU l (bs u) (k + 1)) := fun j z hz hj => by
              rcases Nat.lt_or_ge j k with h1 | h1
              · exact hnu j z hz h1
              · obtain rfl : j = k := by omega
                rw [huy] at hz; cases hz; exact fun e => hyu (bs_inj e)
            clear huy hnu hyu
            go_wp2_with fail
            exact ⟨⟨k + 1, by omega, by go_num, HB⟩, by simp [intOf]; omega⟩
        · have hnone : T.hit l (bs u) = none := T.hit_none fun j z hz => hnu j z hz (by have := (List.getElem?_eq_some_iff.1 hz).1; have := HL.out; omega)
          have HM : Hid (T.start l ⟨u, now + span⟩ = l.take q ++ ⟨u, t⟩ :: l.drop q) := by
            show _ = _
            unfold T.start
            rw [show T.nm ⟨u, now + span⟩ = bs u from rfl, hnone, HTT.out, HQ2.out]
          clear hnone hnu
          go_upto_region 23 with fail
          have hgW : (W.alloc (.cells Z2.toArray 68)).heap[W.heap.size]? = some (.cells Z2.toArray 68 (0, 0)) := heap_alloc_new _ _
          have hb2 : Below W.heap.size W (W.alloc (.cells Z2.toArray 68)) := below_alloc (Below.refl _ _) _
          have hrF := (Rd.Holds.front (hrW.on hb2) hqn).1
          generalize W.alloc (.cells Z2.toArray 68) = W2 at hgW hb2 hrF ⊢
          obtain ⟨g, hg⟩ : ∃ g, g = W.heap.size := ⟨_, rfl⟩
          rw [← hg] at hgW ⊢
          have hTl : (Rd.typ.rows (l.take q)).length = q * 2 := by rw [Rd.rows_length, List.length_take, Nat.min_eq_left (by have := HL.out; omega)]; rfl
          obtain ⟨R, hR⟩ : ∃ R, R = Rd.typ.rows (l.take q) := ⟨_, rfl⟩
          rw [← hR] at hTl hrF
          have HR := Lib.hid hR; have HRS := Lib.hid hrF
          have hone : ∀ v ∈ R, v.oneCell' = true := by rw [hR]; exact Rd.typ.rows_one' _
          have HONE := Lib.hid hone; have HRL := Lib.hid hTl; have HGW := Lib.hid hgW
          have hBg : W.heap.size ≤ g := by omega
          have hpg : p ≠ g := by omega
          have hqc : (q : Int) ≤ c := by omega
          have hqi : (0 : Int) ≤ q := by omega
          clear hR hrF hone hTl hgW hg
          go_wp2_with (with_reducible refine wpList_copyN rfl (.tmp 83) (.tmp 86) 22 22 rfl 68 Try.underlying22 2 q (by kernel_rfl) (by decide) (some ⟨g, 0, none⟩) A (n + 1) (n + 1) q c rfl rfl g 0 Z2 68 HGW.out R (Nat.min_eq_left (by omega)) HRL.out ?p3 ?p4 HONE.out W.heap.size W hb2 hBg ?_)
          case p3 =>
            intro h0
            obtain ⟨ad, h', _, hc⟩ := HRS.out.2 h0
            first | exact ⟨rfl, ad, h', hc⟩ | exact ⟨ad, h', hc⟩
          case p4 => first | (rw [HRL.out, HZ2.out]; omega) | (rw [Nat.zero_add, HRL.out, HZ2.out]; omega)
          intro W3 HG3 hb3
          have hS1 : (splice Z2 0 R).length = (n + 1) * 2 := by rw [length_splice _ _ _ (by rw [HRL.out, HZ2.out]; omega), HZ2.out]
          have HS1 := Lib.hid hS1
          obtain ⟨v0, hv0⟩ : ∃ v, W3.cell? ⟨g, q * 2, none⟩ = some v := ⟨_, (cell_of_row W3 g (q * 2) _ _ _ HG3.out).trans (by rw [List.getElem?_toArray]; exact List.getElem?_eq_getElem (by omega))⟩
          obtain ⟨v1, hv1⟩ : ∃ v, W3.cell? ⟨g, q * 2 + 1, none⟩ = some v := ⟨_, (cell_of_row W3 g (q * 2 + 1) _ _ _ HG3.out).trans (by rw [List.getElem?_toArray]; exact List.getElem?_eq_getElem (by omega))⟩
          have hf0 := frozen_of_row W3 g (q * 2) _ _ HG3.out
          have hf1 := frozen_of_row W3 g (q * 2 + 1) _ _ HG3.out
          have y0 : W3.cell? ⟨p, 0, none⟩ = some (.string u) := (hb3.cell (p := ⟨p, 0, none⟩) hpW).trans x0
          have y1 : W3.cell? ⟨p, 1, none⟩ = some (.int .i64 t) := (hb3.cell (p := ⟨p, 1, none⟩) hpW).trans x1
          have hqn1 : (q : Int) < n + 1 := by omega
          have hg4 : ((W3.setCell ⟨g, q * 2, none⟩ (.string u)).setCell ⟨g, q * 2 + 1, none⟩ (.int .i64 t)).heap[g]? = some (.cells ((((splice Z2 0 R).set (q * 2) (.string u)).set (q * 2 + 1) (.int .i64 t))).toArray 68 (0, 0)) := by
            have h1 := heap_setCell_same W3 g (q * 2) _ _ (.string u) HG3.out
            have h2 := heap_setCell_same _ g (q * 2 + 1) _ _ (.int .i64 t) h1
            simpa using h2
          have HG4 := Lib.hid hg4
          have hb4 : Below W.heap.size W ((W3.setCell ⟨g, q * 2, none⟩ (.string u)).setCell ⟨g, q * 2 + 1, none⟩ (.int .i64 t)) := Below.setCell (Below.setCell hb3 (p := ⟨g, q * 2, none⟩) (by show _ ≤ g; omega) _) (p := ⟨g, q * 2 + 1, none⟩) (by show _ ≤ g; omega) _
          clear hg4 hS1
          go_upto_region 25 with fail
          generalize (W3.setCell ⟨g, q * 2, none⟩ (.string u)).setCell ⟨g, q * 2 + 1, none⟩ (.int .i64 t) = W4 at HG4 hb4 ⊢
          have hrD : Reads W4 W.heap.size 2 (if c = q then A else A.map (·.add (q * 2))) (n - q) (Rd.typ.rows (l.drop q)) := by
            have h1 := (Rd.Holds.cut (hrW) (k := q) (cap := c) hqn hcap).1
            exact Reads.below h1 hb4
          have hDl : (Rd.typ.rows (l.drop q)).length = (n - q) * 2 := by rw [Rd.rows_length, List.length_drop, HL.out]; rfl
          obtain ⟨D, hD⟩ : ∃ D, D = Rd.typ.rows (l.drop q) := ⟨_, rfl⟩
          rw [← hD] at hrD hDl
          have HD := Lib.hid hD; have HRD := Lib.hid hrD; have HDL := Lib.hid hDl
          have hone : ∀ v ∈ D, v.oneCell' = true := by rw [hD]; exact Rd.typ.rows_one' _
          have HDO := Lib.hid hone
          clear hD hrD hDl hone
          obtain ⟨S, hS⟩ : ∃ S, S = ((splice Z2 0 R).set (q * 2) (.string u)).set (q * 2 + 1) (.int .i64 t) := ⟨_, rfl⟩
          rw [← hS] at HG4
          have hSl : S.length = (n + 1) * 2 := by rw [hS, List.length_set, List.length_set, HS1.out]
          have HS := Lib.hid hS; have HSL := Lib.hid hSl
          clear hS hSl
          have e1 : IntKind.i64.wrap ((q : Int) + 1) = (q : Int) + 1 := IntWalk.i64_in _ (by omega)
          have e2 : (0 : Int) ≤ (q : Int) + 1 := by omega
          have e3 : (q : Int) + 1 ≤ (n : Int) + 1 := by omega
          have e4 : ((q : Int) + 1).toNat = q + 1 := by omega
          have e5 : (q : Int) ≤ n := by omega
          clear hv0 hv1 hf0 hf1 y0 y1
          by_cases hqlt : q < n
          · have f1 : ¬ n = q := by omega
            have f2 : ¬ c = q := by omega
            have f3 : ¬ n + 1 = q + 1 := by omega
            have hp5 : 0 < n - q → (some (⟨g, (q + 1) * 2, none⟩ : Addr)) = some ⟨g, (q + 1) * 2, none⟩ ∧ ∃ ad, A.map (·.add (q * 2)) = some ad ∧ ∀ j v, D[j]? = some v → W4.drew.cell? (ad.add j) = some v := fun h0 => by
              have h1 := HRD.out
              rw [if_neg f2] at h1
              obtain ⟨ad, h', _, hc⟩ := h1.2 h0
              exact ⟨rfl, ad, h', hc⟩
            have hp6 : (q + 1) * 2 + D.length ≤ S.length := by rw [HDL.out, HSL.out]; omega
            have HP5 := Lib.hid hp5; have HP6 := Lib.hid hp6
            clear hp5 hp6
            go_region_held3 (fun w' => Below W.heap.size W w') (first | assumption | exact Below.drew (by assumption)) ((refine step_copyN (by rfl) (.tmp 95) (.tmp 98) 22 22 (by rfl) 68 Try.underlying22 2 (n - q) (by kernel_rfl) (by decide) (some ⟨g, (q + 1) * 2, none⟩) (A.map (·.add (q * 2))) (n - q) (n - q) (n - q) (c - q) (by rfl) (by rfl) g ((q + 1) * 2) S 68 HG4.out D (Nat.min_self _) HDL.out HP5.out HP6.out HDO.out W.heap.size W (by first | assumption | exact Below.drew (by assumption)) hBg ?_; intro W5 HG5 hb5))
            have HOWN : Hid (OwnTyps W5 W.heap.size (.slice (some ⟨g, 0, none⟩) (n + 1) (n + 1)) (l.take q ++ ⟨u, t⟩ :: l.drop q)) := by
              have h5 := HG5.out
              rw [HS.out, HR.out, HD.out, splice_insert (Z := Z2) (T := Rd.typ.rows (l.take q)) (D := Rd.typ.rows (l.drop q)) (q := q) (n := n) (by rw [HZ2.out]) (by rw [← HR.out, HRL.out]) (by rw [← HD.out, HDL.out]) hqn] at h5
              exact own_of_block (by rw [h5, Rd.rows_append]; rfl) hBg (by rw [List.length_append, List.length_cons, List.length_take, List.length_drop, HL.out]; omega) (by omega)
            have HB5 := Lib.hid (below_then hbW hb5)
            clear hb5 HG5
            go_wp2_with fail
            go_ret2
            exact start_own HE.out HM.out HOWN.out (ins_ok HOK.out hu HTB.out q) HB5.out
          · have hqe : q = n := by omega
            have HQE := Lib.hid hqe
            have hDn : D = [] := List.eq_nil_of_length_eq_zero (by rw [HDL.out]; omega)
            have HDN := Lib.hid hDn
            have HOWN0 : Hid (OwnTyps W4 W.heap.size (.slice (some ⟨g, 0, none⟩) (n + 1) (n + 1)) (l.take q ++ ⟨u, t⟩ :: l.drop q)) := by
              have h5 := HG4.out
              have h6 := splice_insert (Z := Z2) (T := Rd.typ.rows (l.take q)) (D := Rd.typ.rows (l.drop q)) (a := .string u) (b := .int .i64 t) (q := q) (n := n) (by rw [HZ2.out]) (by rw [← HR.out, HRL.out]) (by rw [← HD.out, HDL.out]) hqn
              rw [← HR.out, ← HS.out, ← HD.out, hDn] at h6
              have h7 : splice S ((q + 1) * 2) ([] : List Value) = S := by unfold splice; simp
              rw [h7] at h6
              rw [h6, HR.out] at h5
              exact own_of_block (by rw [h5, Rd.rows_append, show Rd.typ.rows (⟨u, t⟩ :: l.drop q) = .string u :: .int .i64 t :: Rd.typ.rows (l.drop q) from rfl, ← HD.out, hDn]) hBg (by rw [List.length_append, List.length_cons, List.length_take, List.length_drop, HL.out]; omega) (by omega)
            have HB4 := Lib.hid (below_then hbW hb4)
            have hnil : ([] : List Value).length = 0 * 2 := rfl
            have hone0 : ∀ v ∈ ([] : List Value), v.oneCell' = true := by simp
            have hp6 : (q + 1) * 2 + ([] : List Value).length ≤ S.length := by rw [HSL.out]; simp; omega
            have HP6 := Lib.hid hp6; have HO0 := Lib.hid hone0
            clear hDn hp6 hone0 hnil
            subst hqe
            have hcp : ∀ (sp : Option Addr) (k : Nat) (W' : World), (Builtin.copy_ #[22, 22] 3 #[.slice (some ⟨g, 0, none⟩) 0 0, .slice sp 0 k]).run Try.prog W' = .ok (goInt 0) W' :=
              fun sp k W' => run_copy_noneN W' _ _ _ 68 _ _ _ _ _ _ 2 Try.underlying22 (by kernel_rfl) rfl
            by_cases hcq : c = q
            · subst hcq
              go_region_held3 (fun w' => Below W.heap.size W w') (first | assumption | exact Below.drew (by assumption)) (fail)
              all_goals go_wp2_with fail
              all_goals go_ret2
              all_goals exact start_own HE.out HM.out (World.ownsRow.drew HOWN0.out) (ins_ok HOK.out hu HTB.out _) (Below.drew HB4.out)
            · go_region_held3 (fun w' => Below W.heap.size W w') (first | assumption | exact Below.drew (by assumption)) (fail)
              all_goals go_wp2_with fail
              all_goals go_ret2
              all_goals exact start_own HE.out HM.out (World.ownsRow.drew HOWN0.out) (ins_ok HOK.out hu HTB.out _) (Below.drew HB4.out)
end Go.Proofs.Ytbhkgdfmjkblcaa
