/-
  The walk through the reference's Start of chapter 38.
-/
import Derived.Test.YtbhkgdfmjkblcaaTypT
import Derived.Test.YtbhkgdfmjkblcaaAppD
namespace Go.Proofs.Ytbhkgdfmjkblcaa
open Go.RowKit

theorem owns_on {w w' : World} {base size n : Nat} {e : TypeId} {v : Value} {xs : List Value} (h : w.ownsRow base e size v n xs) (hb : Below w.heap.size w w') : w'.ownsRow base e size v n xs := by
  refine ⟨h.1, ?_⟩
  rcases h.2 with hn | ⟨g, cap, cur, rfl, hb', hgg, rest⟩
  · exact .inl hn
  · exact .inr ⟨g, cap, cur, rfl, hb', (hb.block g (Array.getElem?_eq_some_iff.1 hgg).1).trans hgg, rest⟩
abbrev TyT : TypeId := 68
theorem alloc_sz (W : World) (o : Obj) : (W.alloc o).heap.size = W.heap.size + 1 := by simp
theorem ownA (B : Nat) (W : World) (hB : B ≤ W.heap.size) : (W.alloc (.cells #[] TyT)).drew.ownsRow B TyT 2 (.slice (some ⟨W.heap.size, 0, none⟩) 0 0) 0 [] :=
  owns_on (World.ownsRow_made W _ 0 hB (by unfold maxLen; omega) (by simp)) (Below.drew (Below.refl _ _))
theorem ownB (B : Nat) (W : World) (hB : B ≤ W.heap.size) (o : Obj) : ((W.alloc (.cells #[] TyT)).alloc o).drew.ownsRow B TyT 2 (.slice (some ⟨W.heap.size, 0, none⟩) 0 0) 0 [] :=
  owns_on (World.ownsRow_made W _ 0 hB (by unfold maxLen; omega) (by simp)) (Below.drew (below_alloc (Below.refl _ _) _))
theorem ownC (B : Nat) (W : World) (hB : B ≤ W.heap.size) (o : Obj) : ((W.alloc o).alloc (.cells #[] TyT)).drew.ownsRow B TyT 2 (.slice (some ⟨W.heap.size + 1, 0, none⟩) 0 0) 0 [] := by
  have h := World.ownsRow_made (base := B) (e := TyT) (size := 2) (W.alloc o) #[] 0 (by simp; omega) (by unfold maxLen; omega) (by simp)
  have h2 := owns_on h (Below.drew (Below.refl _ _))
  simp only [alloc_sz] at h2
  exact h2
theorem one_new (W : World) (u : ByteArray) (t : Int) : Reads (W.alloc (.cells #[.string u, .int .i64 t] TyT)) (W.alloc (.cells #[.string u, .int .i64 t] TyT)).heap.size 2 (some ⟨W.heap.size, 0, none⟩) 1 [.string u, .int .i64 t] := by
  refine ⟨rfl, fun _ => ⟨_, rfl, by simp, ?_⟩⟩
  exact World.news_of_block (cs := #[.string u, .int .i64 t]) (t := TyT) (fr := (0, 0)) (heap_alloc_new _ _)
theorem one_newB (W : World) (u : ByteArray) (t : Int) : Reads ((W.alloc (.cells #[] TyT)).alloc (.cells #[.string u, .int .i64 t] TyT)).drew (W.heap.size + 2) 2 (some ⟨W.heap.size + 1, 0, none⟩) 1 [.string u, .int .i64 t] := by
  have h := one_new (W.alloc (.cells #[] TyT)) u t
  simp only [alloc_sz] at h
  exact h.drew
theorem one_newC (W : World) (u : ByteArray) (t : Int) : Reads ((W.alloc (.cells #[.string u, .int .i64 t] TyT)).alloc (.cells #[] TyT)).drew (W.heap.size + 1) 2 (some ⟨W.heap.size, 0, none⟩) 1 [.string u, .int .i64 t] := by
  have h := (one_new W u t).alloc (Nat.le_refl _) (.cells #[] TyT)
  simp only [alloc_sz] at h
  exact h.drew
theorem reads_kept {w w' : World} {B g size : Nat} {xs : List Value} {row : Option Nat} (h : Reads w B size (some ⟨g, 0, none⟩) 1 xs) (hg : w.grownBy w' row) (hne : row ≠ some g) (hB : B ≤ w.heap.size) : Reads w' B size (some ⟨g, 0, none⟩) 1 xs := by
  refine ⟨h.1, fun hp => ?_⟩
  obtain ⟨ad, he, hl, hc⟩ := h.2 hp
  refine ⟨ad, he, hl, fun j u hj => ?_⟩
  cases he
  rw [← hc j u hj]
  refine World.cell?_of_block ?_
  rw [block_of_add]
  exact hg.block g (Nat.lt_of_lt_of_le hl hB) (fun e => hne e.symm)
theorem own_block {w : World} {B n c : Nat} {A : Option Addr} {l : List Typ} (h : OwnTyps w B (.slice A n c) l) (hn : n = l.length) (h0 : 0 < n) : ∃ g, A = some ⟨g, 0, none⟩ ∧ B ≤ g ∧ g < w.heap.size := by
  subst hn
  rcases h.2 with ⟨h1, _⟩ | ⟨g, cap, cur, h1, hb, hgg, _⟩
  · simp only [Value.slice.injEq] at h1; omega
  · simp only [Value.slice.injEq] at h1
    obtain ⟨rfl, -, -⟩ := h1
    exact ⟨g, rfl, hb, (Array.getElem?_eq_some_iff.1 hgg).1⟩
theorem own_last {w : World} {B n : Nat} {v : Value} {l : List Typ} {u : ByteArray} {t : Int} (hl : l.length = n) (h : w.ownsRow B TyT 2 v (n + 1) (Rd.typ.rows (l.take n) ++ .string u :: .int .i64 t :: Rd.typ.rows [])) :
    OwnTyps w B v (l.take n ++ ⟨u, t⟩ :: []) := by
  unfold OwnTyps
  rw [typ_rows_snoc]
  have e : (l.take n ++ [(⟨u, t⟩ : Typ)]).length = n + 1 := by simp [hl]
  rw [e]
  simpa [Rd.rows] using h
theorem own_ins {w : World} {B n k : Nat} {v : Value} {l : List Typ} {u : ByteArray} {t : Int} (hl : l.length = n) (hk : k ≤ n) (h : w.ownsRow B TyT 2 v (k + 1 + (n - k)) (Rd.typ.rows (l.take k) ++ .string u :: .int .i64 t :: Rd.typ.rows (l.drop k))) :
    OwnTyps w B v (l.take k ++ ⟨u, t⟩ :: l.drop k) := by
  unfold OwnTyps
  have e : (l.take k ++ (⟨u, t⟩ : Typ) :: l.drop k).length = k + 1 + (n - k) := by simp [hl]; omega
  have e2 : Rd.typ.rows (l.take k ++ (⟨u, t⟩ : Typ) :: l.drop k) = Rd.typ.rows (l.take k) ++ .string u :: .int .i64 t :: Rd.typ.rows (l.drop k) := by
    rw [Rd.rows_append]; rfl
  rw [e, e2]; exact h
def RSp (l : List Typ) (u : List UInt8) (n : Nat) (i : Value) : Prop := ∃ k : Nat, k ≤ n ∧ i = .int .i64 k ∧ Hid (T.spotAt l u k = T.spot l u)

set_option maxRecDepth 100000 in
set_option maxHeartbeats 8000000 in
theorem rstart_any (A : Option Addr) (n c : Nat) (l : List Typ) (u : ByteArray) (now span : Int) (w : World) (hr : Typs w A n l) (hn : n ≤ 900000) (hcap : n ≤ c) (hu : u.size ≤ maxLen) :
    Calls Try.prog 20 #[.slice A n c, .string u, .int .i64 now, .int .i64 span] w (StartPost w l u now span) := by
  obtain ⟨i0, hi, hz0, hz1, hz2⟩ := info_parts infoTyp
  have HI := Lib.hid hi; have HZ0 := Lib.hid hz0; have HZ1 := Lib.hid hz1; have HZ2 := Lib.hid hz2
  clear hi hz0 hz1 hz2
  have HOK := Lib.hid hr.ok
  have HL := Lib.hid (Rd.Holds.length hr)
  go_enter Try.func20, Try.ntmps20
  go_wp2_with fail
  refine ((ruser_any u w hu).mono fun _ _ => Same.ret').mono ?_
  rintro e w1 ⟨rfl, b1⟩
  cases hub : I.userB (bs u)
  · have HE : Hid (startErr (bs u) now span = 3) := by show _ = _; unfold startErr; rw [if_pos hub]
    clear hub
    simp only [I.errOf]
    go_wp2_with fail
    go_ret2
    exact start_err HE.out (by decide) b1
  have HUB := Lib.hid hub; clear hub
  simp only [I.errOf]
  by_cases hbad : now < 0 ∨ 1000000000 < now ∨ span < 1 ∨ 30000 < span
  · have HE : Hid (startErr (bs u) now span = 2) := by show _ = _; unfold startErr; rw [if_neg (by rw [HUB.out]; decide), if_pos hbad]
    by_cases c1 : now < 0
    · have d1 : decide (now < 0) = true := decide_eq_true c1
      clear hbad
      go_wp2_with fail
      go_ret2
      exact start_err HE.out (by decide) b1
    have d1 : decide (now < 0) = false := decide_eq_false c1
    by_cases c2 : 1000000000 < now
    · have d2 : decide (1000000000 < now) = true := decide_eq_true c2
      clear hbad
      go_wp2_with fail
      go_ret2
      exact start_err HE.out (by decide) b1
    have d2 : decide (1000000000 < now) = false := decide_eq_false c2
    by_cases c3 : span < 1
    · have d3 : decide (span < 1) = true := decide_eq_true c3
      clear hbad
      go_wp2_with fail
      go_ret2
      exact start_err HE.out (by decide) b1
    have d3 : decide (span < 1) = false := decide_eq_false c3
    have c4 : 30000 < span := by omega
    have d4 : decide (30000 < span) = true := decide_eq_true c4
    clear hbad
    go_wp2_with fail
    go_ret2
    exact start_err HE.out (by decide) b1
  have HE : Hid (startErr (bs u) now span = 0) := by show _ = _; unfold startErr; rw [if_neg (by rw [HUB.out]; decide), if_neg hbad]
  have d1 : decide (now < 0) = false := decide_eq_false (by omega)
  have d2 : decide (1000000000 < now) = false := decide_eq_false (by omega)
  have d3 : decide (span < 1) = false := decide_eq_false (by omega)
  have d4 : decide (30000 < span) = false := decide_eq_false (by omega)
  have c1 : ¬ now < 0 := by omega
  have c1' : 0 ≤ now := by omega
  have c2 : ¬ 1000000000 < now := by omega
  have c2' : now ≤ 1000000000 := by omega
  have c3 : ¬ span < 1 := by omega
  have c3' : 1 ≤ span := by omega
  have c4 : ¬ 30000 < span := by omega
  have c4' : span ≤ 30000 := by omega
  clear hbad
  go_upto_region 6 with fail
  obtain ⟨t, ht⟩ : ∃ t : Int, t = now + span := ⟨_, rfl⟩
  have htb : -9223372036854775808 ≤ t ∧ t ≤ 9223372036854775807 := by omega
  rw [← ht]
  have HTT := Lib.hid ht; have HTB := Lib.hid htb; clear ht htb
  have x0 : (w1.alloc (.cells #[.string u, .int .i64 t] 68)).cell? ⟨w1.heap.size, 0, none⟩ = some (.string u) := by simp
  have x1 : (w1.alloc (.cells #[.string u, .int .i64 t] 68)).cell? ⟨w1.heap.size, 1, none⟩ = some (.int .i64 t) := by simp
  have hbW : Below w.heap.size w (w1.alloc (.cells #[.string u, .int .i64 t] 68)) := below_alloc b1 _
  have hpW : w1.heap.size < (w1.alloc (.cells #[.string u, .int .i64 t] 68)).heap.size := by simp
  generalize w1.alloc (.cells #[.string u, .int .i64 t] 68) = W at x0 x1 hbW hpW ⊢
  obtain ⟨p, hp⟩ : ∃ p, p = w1.heap.size := ⟨_, rfl⟩
  rw [← hp] at x0 x1 hpW ⊢
  clear hp b1 c1 c2 c3 c4 c1' c2' c3' c4' d1 d2 d3 d4
  have hrW := hr.on hbW
  have hown0 : (W.alloc (.cells #[] 68)).ownsRow W.heap.size 68 2 (.slice (some ⟨W.heap.size, 0, none⟩) 0 0) 0 [] := World.ownsRow_made W _ 0 (Nat.le_refl _) (by unfold maxLen; omega) (by simp)
  have HRD := Lib.hid hrW.1
  go_wp2_with (at_builtin; refine app_rows rfl (.tmp 36) (.tmp 37) 22 rfl W.heap.size 68 i0 _ 2 24 Try.underlying22 HI.out HZ0.out HZ1.out HZ2.out rfl (by decide) (by decide) _ 0 [] rfl hown0 W.heap.size A n c (Rd.typ.rows l) rfl ?a1 ?a2 ?a3 ?a4 ?_)
  case a1 => exact HRD.out.below (below_alloc (Below.refl _ _) _)
  case a2 => exact Rd.typ.rows_one' l
  case a3 => omega
  case a4 => simp
  intro v1 W1 hown1 hg1
  have hb1 : Below W.heap.size W W1 := (below_alloc (Below.refl _ _) _).grown hg1 (by simp) (fun j hj => (World.ownsRow.lt hown0 _ hj).1)
  have hown : OwnTyps W1 W.heap.size v1 l := by
    unfold OwnTyps
    rw [HL.out]
    simpa using hown1
  obtain ⟨A1, c1, rfl, hT1, _⟩ := hown.form2 HOK.out
  have hbW1 := below_then hbW hb1
  have hrW1 := hrW.on hb1
  have x0 : W1.cell? ⟨p, 0, none⟩ = some (.string u) := (hb1.cell (p := ⟨p, 0, none⟩) hpW).trans x0
  have x1 : W1.cell? ⟨p, 1, none⟩ = some (.int .i64 t) := (hb1.cell (p := ⟨p, 1, none⟩) hpW).trans x1
  have hszW := hbW.size
  have hszW1 := hb1.size
  have HOWN1 := Lib.hid hown
  clear hown hown1 hown0 hg1 hrW
  go_wp2_with fail
  go_loop [12] (fun i => ∃ k : Nat, k ≤ n ∧ i = .int .i64 k ∧ NotU l (bs u) k) (fun i => n - (intOf i).toNat)
  case atStart => exact ⟨0, by omega, rfl, fun j _ _ h => by omega⟩
  case round =>
    obtain ⟨k, hk, rfl, hnu⟩ := hrel
    by_cases hlt : k < n
    · have hkl : k < l.length := by have := HL.out; omega
      obtain ⟨b, o, y, hA1, _, huy, _, _, p0, _⟩ := hT1.at_ hkl
      by_cases hyu : y.user = u
      · have es : (y.user.toList == u.toList) = true := by rw [streq']; simpa using hyu
        have hit : T.hit l (bs u) = some k := T.hit_some huy (by show bs y.user = _; rw [hyu]) hnu
        have HM : Hid (T.start l ⟨u, now + span⟩ = l.set k ⟨u, t⟩) := by
          show _ = _
          unfold T.start
          rw [show T.nm ⟨u, now + span⟩ = bs u from rfl, hit, HTT.out]
        obtain ⟨g, hA, hBg, hgl⟩ := own_block HOWN1.out rfl (by omega)
        rw [hA] at hA1
        obtain ⟨hbg, ho0⟩ : g = b ∧ o = 0 := by cases hA1; exact ⟨rfl, rfl⟩
        subst hbg ho0
        clear hA1
        subst hA
        have own3 := HOWN1.out
        have own4 := own3.put rfl hkl ⟨u, t⟩
        obtain ⟨⟨v0, hv0⟩, hf0⟩ := own3.cell rfl (j := k * 2) (by omega)
        obtain ⟨⟨v1, hv1⟩, hf1⟩ := own3.cell rfl (j := k * 2 + 1) (by omega)
        have HOWN : Hid (OwnTyps ((W1.setCell ⟨g, k * 2, none⟩ (.string u)).setCell ⟨g, k * 2 + 1, none⟩ (.int .i64 t)) W.heap.size (.slice (some ⟨g, 0, none⟩) l.length c1) (l.set k ⟨u, t⟩)) := own4
        have hb5 : Below w.heap.size w ((W1.setCell ⟨g, k * 2, none⟩ (.string u)).setCell ⟨g, k * 2 + 1, none⟩ (.int .i64 t)) := Below.setCell (Below.setCell hbW1 (p := ⟨g, k * 2, none⟩) (by show _ ≤ g; omega) _) (p := ⟨g, k * 2 + 1, none⟩) (by show _ ≤ g; omega) _
        have HB5 := Lib.hid hb5
        rw [Nat.zero_add] at p0
        clear own3 own4 hb5 hit hyu huy hnu hT1 hBg
        go_wp2_with fail
        go_ret2
        exact start_own HE.out HM.out HOWN.out (fun z hz => by
          rcases List.mem_or_eq_of_mem_set hz with h | h
          · exact HOK.out z h
          · subst h; exact ⟨hu, HTB.out⟩) HB5.out
      · have es : (y.user.toList == u.toList) = false := by rw [streq']; simpa using hyu
        have HB : Hid (NotU l (bs u) (k + 1)) := fun j z hz hj => by
          rcases Nat.lt_or_ge j k with h1 | h1
          · exact hnu j z hz h1
          · obtain rfl : j = k := by omega
            rw [huy] at hz; cases hz; exact fun e => hyu (bs_inj e)
        subst hA1
        clear huy hnu hyu
        go_wp2_with fail
        exact ⟨⟨k + 1, by omega, by go_num, HB⟩, by simp [intOf]; omega⟩
    · have hnone : T.hit l (bs u) = none := T.hit_none fun j z hz => hnu j z hz (by have := (List.getElem?_eq_some_iff.1 hz).1; have := HL.out; omega)
      have HM0 : Hid (T.start l ⟨u, now + span⟩ = l.take (T.spot l (bs u)) ++ ⟨u, t⟩ :: l.drop (T.spot l (bs u))) := by
        show _ = _
        unfold T.start
        rw [show T.nm ⟨u, now + span⟩ = bs u from rfl, hnone, HTT.out]
      have hln : ¬ k < l.length := by have := HL.out; omega
      clear hnone hnu
      go_wp2_with fail
      go_loop [13] (fun i => RSp l (bs u) n i) (fun i => n - (intOf i).toNat)
      case atStart => exact ⟨0, by omega, rfl, T.spotAt_zero _ _⟩
      case round =>
        obtain ⟨k, hk, rfl, HQ⟩ := hrel
        by_cases hlt2 : k < n
        · obtain ⟨b, o, y, rfl, _, huy, _, _, p0, _⟩ := hrW1.at_ hlt2
          by_cases hgt : bs u < T.nm y
          · obtain ⟨e1, e2⟩ := not_less (a := y.user) (b := u) hgt
            have hq : T.spot l (bs u) = k := by rw [← HQ.out, T.spotAt_yes huy hgt]
            have HM : Hid (T.start l ⟨u, now + span⟩ = l.take k ++ ⟨u, t⟩ :: l.drop k) := by show _ = _; rw [HM0.out, hq]
            clear hgt huy hq
            have hkc : (k : Int) ≤ c := by omega
            have hk0 : (0 : Int) ≤ k := by omega
            have HLR : Hid (Reads W1 W1.heap.size 2 (some ⟨b, o, none⟩) k (Rd.typ.rows (l.take k))) := Lib.hid (Rd.Holds.front hrW1 hk).1
            have HLD : Hid (Reads W1 W1.heap.size 2 (if c = k then (some ⟨b, o, none⟩) else ((some ⟨b, o, none⟩) : Option Addr).map (·.add (k * 2))) (n - k) (Rd.typ.rows (l.drop k))) := Lib.hid (Rd.Holds.cut hrW1 (k := k) (cap := c) hk hcap).1
            go_upto_region 16 with fail
            go_cut [11] (fun v wx => Below W1.heap.size W1 wx ∧ wx.ownsRow W1.heap.size 68 2 v (0 + k + 1) (([] ++ Rd.typ.rows (l.take k)) ++ [.string u, .int .i64 t]))
            case rest =>
              obtain ⟨hbx, hownx⟩ := hcut
              have hszx := hbx.size
              by_cases hck : c = k
              · have h1 := HLD.out
                rw [if_pos hck] at h1
                have hnk : n = k := by omega
                have hR := Reads.below h1 hbx
                have HR := Lib.hid hR
                have hn0 : n - k = 0 := by omega
                rw [hn0] at HR
                have hd : l.drop k = [] := List.drop_of_length_le (by have := HL.out; omega)
                rw [hd] at HR
                have HM2 : Hid (T.start l ⟨u, now + span⟩ = l.take k ++ ⟨u, t⟩ :: []) := by show _ = _; rw [HM.out, hd]
                clear h1 hd hR hn0
                subst hck
                subst hnk
                go_wp2_with (at_builtin; refine app_rows rfl (.tmp 80) (.tmp 83) 22 rfl W1.heap.size 68 i0 _ 2 24 Try.underlying22 HI.out HZ0.out HZ1.out HZ2.out rfl (by decide) (by decide) _ _ _ rfl hownx W1.heap.size (some ⟨b, o, none⟩) 0 0 (Rd.typ.rows []) rfl HR.out ?f1x ?f2x ?f3x ?_)
                case f1x => exact Rd.typ.rows_one' _
                case f2x => omega
                intro v4 w4 hown4 hg4
                have hb4 : Below W1.heap.size W1 w4 := hbx.grown hg4 hbx.size (fun j hj => (World.ownsRow.lt hownx _ hj).1)
                have HOWN : Hid (OwnTyps w4 W1.heap.size v4 (l.take n ++ ⟨u, t⟩ :: [])) := own_last HL.out hown4
                have HB5 := Lib.hid (below_then hbW1 hb4)
                clear hown4 hb4 hg4
                go_wp2_with fail
                go_ret2
                exact start_own HE.out HM2.out HOWN.out (by have h := ins_ok HOK.out hu HTB.out n; rwa [List.drop_of_length_le (by have := HL.out; omega)] at h) HB5.out
              · have h1 := HLD.out
                rw [if_neg hck] at h1
                have HR := Lib.hid (Reads.below h1 hbx)
                clear h1
                go_wp2_with (at_builtin; refine app_rows rfl (.tmp 80) (.tmp 83) 22 rfl W1.heap.size 68 i0 _ 2 24 Try.underlying22 HI.out HZ0.out HZ1.out HZ2.out rfl (by decide) (by decide) _ _ _ rfl hownx W1.heap.size (((some ⟨b, o, none⟩) : Option Addr).map (·.add (k * 2))) (n - k) (c - k) (Rd.typ.rows (l.drop k)) ?e0x HR.out ?e1x ?e2x ?e3x ?_)
                case e1x => exact Rd.typ.rows_one' _
                case e2x => omega
                intro v4 w4 hown4 hg4
                have hb4 : Below W1.heap.size W1 w4 := hbx.grown hg4 hbx.size (fun j hj => (World.ownsRow.lt hownx _ hj).1)
                have HOWN : Hid (OwnTyps w4 W1.heap.size v4 (l.take k ++ ⟨u, t⟩ :: l.drop k)) := own_ins HL.out hk hown4
                have HB5 := Lib.hid (below_then hbW1 hb4)
                clear hown4 hb4 hg4
                go_wp2_with fail
                go_ret2
                exact start_own HE.out HM.out HOWN.out (ins_ok HOK.out hu HTB.out k) HB5.out
            have OA : (W1.alloc (.cells #[] 68)).drew.ownsRow W1.heap.size 68 2 (.slice (some ⟨W1.heap.size, 0, none⟩) 0 0) 0 [] := ownA _ W1 (Nat.le_refl _)
            have OB : ((W1.alloc (.cells #[] 68)).alloc (.cells #[.string u, .int .i64 t] 68)).drew.ownsRow W1.heap.size 68 2 (.slice (some ⟨W1.heap.size, 0, none⟩) 0 0) 0 [] := ownB _ W1 (Nat.le_refl _) _
            have OC : ((W1.alloc (.cells #[.string u, .int .i64 t] 68)).alloc (.cells #[] 68)).drew.ownsRow W1.heap.size 68 2 (.slice (some ⟨W1.heap.size + 1, 0, none⟩) 0 0) 0 [] := ownC _ W1 (Nat.le_refl _) _
            have RB : Reads ((W1.alloc (.cells #[] 68)).alloc (.cells #[.string u, .int .i64 t] 68)).drew (W1.heap.size + 2) 2 (some ⟨W1.heap.size + 1, 0, none⟩) 1 [.string u, .int .i64 t] := one_newB W1 u t
            have RC : Reads ((W1.alloc (.cells #[.string u, .int .i64 t] 68)).alloc (.cells #[] 68)).drew (W1.heap.size + 1) 2 (some ⟨W1.heap.size, 0, none⟩) 1 [.string u, .int .i64 t] := one_newC W1 u t
            have SS := Lib.hid (fun W' (h : Below W1.heap.size W1 W') => (⟨h, (h.cell (p := ⟨p, 0, none⟩) (by show p < _; omega)).trans x0, (h.cell (p := ⟨p, 1, none⟩) (by show p < _; omega)).trans x1⟩ : Below W1.heap.size W1 W' ∧ W'.cell? ⟨p, 0, none⟩ = some (.string u) ∧ W'.cell? ⟨p, 1, none⟩ = some (.int .i64 t)))
            clear hrW1 hT1
            go_region_held3 (fun w' => Below W1.heap.size W1 w' ∧ w'.cell? ⟨p, 0, none⟩ = some (.string u) ∧ w'.cell? ⟨p, 1, none⟩ = some (.int .i64 t)) ((refine SS.out _ ?_; repeat (first | assumption | exact Below.refl _ _ | exact And.left ‹Below W1.heap.size W1 _ ∧ _› | refine Below.drew ?_ | refine below_alloc ?_ _)))
              (first
              | (refine step_app_rows rfl (.tmp 72) (.tmp 75) 22 rfl W1.heap.size 68 i0 (.agg #[.string .empty, .int .i64 0]) 2 24 Try.underlying22 HI.out HZ0.out HZ1.out HZ2.out rfl (by decide) (by decide) (.slice (some ⟨_, 0, none⟩) 0 0) 0 [] rfl (by with_reducible assumption) W1.heap.size (some ⟨b, o, none⟩) k c (Rd.typ.rows (l.take k)) rfl (HLR.out.below (by with_reducible (repeat (first | assumption | exact Below.refl _ _ | refine Below.drew ?_ | refine below_alloc ?_ _)))) (Rd.typ.rows_one' _) (by omega) (by first | (simp; done) | (simp; omega)) ?_; intro v2 w2 hown2 hg2; have hb2 : Below W1.heap.size W1 w2 := Below.grown (by with_reducible (repeat (first | assumption | exact Below.refl _ _ | refine Below.drew ?_ | refine below_alloc ?_ _))) hg2 (by first | (simp; done) | (simp; omega)) (fun j hj => (World.ownsRow.lt (by with_reducible assumption) _ hj).1); first | (with_reducible have hrd := reads_kept RB hg2 (by simp [Value.ownBlock]) (by simp)) | (with_reducible have hrd := reads_kept RC hg2 (by simp [Value.ownBlock]) (by simp)) | skip)
              | (refine step_app_rows rfl (.tmp 76) (.tmp 78) 22 rfl W1.heap.size 68 i0 (.agg #[.string .empty, .int .i64 0]) 2 24 Try.underlying22 HI.out HZ0.out HZ1.out HZ2.out rfl (by decide) (by decide) v2 _ _ rfl (by first | with_reducible exact hown2 | with_reducible exact World.ownsRow.alloc hown2 _) _ (some _) 1 1 [.string u, .int .i64 t] rfl (by first | with_reducible exact hrd | with_reducible exact one_new _ u t) (by simp [Value.oneCell']) (by omega) (by have := hb2.size; simp; omega) ?_; intro v3 w3 hown3 hg3; have hb3 : Below W1.heap.size W1 w3 := Below.grown (by with_reducible (repeat (first | assumption | exact Below.refl _ _ | refine Below.drew ?_ | refine below_alloc ?_ _))) hg3 (by have := hb2.size; simp; omega) (fun j hj => (World.ownsRow.lt hown2 _ hj).1)))
            all_goals go_wp2_with fail
            all_goals go_meet
            all_goals exact ⟨hb3, hown3⟩
          · have e1 : (Op.bytesLess y.user.toList u.toList = true) ∨ (y.user.toList == u.toList) = true := by
              rcases Nm.lt_or (bs y.user) (bs u) with h | h | h
              · exact .inl (by rw [bytesLess_lt]; exact decide_eq_true h)
              · exact .inr (by rw [streq]; exact decide_eq_true h)
              · exact absurd h hgt
            have HF : Hid (T.spotAt l (bs u) (k + 1) = T.spot l (bs u)) := by
              show _ = _
              rw [← T.spotAt_no huy hgt, HQ.out]
            clear hgt huy
            rcases e1 with e1 | e1
            · go_wp2_with fail
              exact ⟨⟨k + 1, by omega, by go_num, HF⟩, by simp [intOf]; omega⟩
            · go_wp2_with fail
              exact ⟨⟨k + 1, by omega, by go_num, HF⟩, by simp [intOf]; omega⟩
        · have hkn : k = n := by omega
          have hq : T.spot l (bs u) = k := by rw [← HQ.out, hkn, ← HL.out, T.spotAt_end]
          have HM : Hid (T.start l ⟨u, now + span⟩ = l.take k ++ ⟨u, t⟩ :: l.drop k) := by show _ = _; rw [HM0.out, hq]
          have HKN := Lib.hid hkn
          clear hq hkn
          rcases A with _ | ad
          · have hkc : (k : Int) ≤ c := by omega
            have hk0 : (0 : Int) ≤ k := by omega
            have HLR : Hid (Reads W1 W1.heap.size 2 (none : Option Addr) k (Rd.typ.rows (l.take k))) := Lib.hid (Rd.Holds.front hrW1 hk).1
            have HLD : Hid (Reads W1 W1.heap.size 2 (if c = k then (none : Option Addr) else ((none : Option Addr) : Option Addr).map (·.add (k * 2))) (n - k) (Rd.typ.rows (l.drop k))) := Lib.hid (Rd.Holds.cut hrW1 (k := k) (cap := c) hk hcap).1
            go_upto_region 16 with fail
            go_cut [11] (fun v wx => Below W1.heap.size W1 wx ∧ wx.ownsRow W1.heap.size 68 2 v (0 + k + 1) (([] ++ Rd.typ.rows (l.take k)) ++ [.string u, .int .i64 t]))
            case rest =>
              obtain ⟨hbx, hownx⟩ := hcut
              have hszx := hbx.size
              by_cases hck : c = k
              · have h1 := HLD.out
                rw [if_pos hck] at h1
                have hnk : n = k := by omega
                have hR := Reads.below h1 hbx
                have HR := Lib.hid hR
                have hn0 : n - k = 0 := by omega
                rw [hn0] at HR
                have hd : l.drop k = [] := List.drop_of_length_le (by have := HL.out; omega)
                rw [hd] at HR
                have HM2 : Hid (T.start l ⟨u, now + span⟩ = l.take k ++ ⟨u, t⟩ :: []) := by show _ = _; rw [HM.out, hd]
                clear h1 hd hR hn0
                subst hck
                subst hnk
                go_wp2_with (at_builtin; refine app_rows rfl (.tmp 80) (.tmp 83) 22 rfl W1.heap.size 68 i0 _ 2 24 Try.underlying22 HI.out HZ0.out HZ1.out HZ2.out rfl (by decide) (by decide) _ _ _ rfl hownx W1.heap.size (none : Option Addr) 0 0 (Rd.typ.rows []) rfl HR.out ?f1y ?f2y ?f3y ?_)
                case f1y => exact Rd.typ.rows_one' _
                case f2y => omega
                intro v4 w4 hown4 hg4
                have hb4 : Below W1.heap.size W1 w4 := hbx.grown hg4 hbx.size (fun j hj => (World.ownsRow.lt hownx _ hj).1)
                have HOWN : Hid (OwnTyps w4 W1.heap.size v4 (l.take n ++ ⟨u, t⟩ :: [])) := own_last HL.out hown4
                have HB5 := Lib.hid (below_then hbW1 hb4)
                clear hown4 hb4 hg4
                go_wp2_with fail
                go_ret2
                exact start_own HE.out HM2.out HOWN.out (by have h := ins_ok HOK.out hu HTB.out n; rwa [List.drop_of_length_le (by have := HL.out; omega)] at h) HB5.out
              · have h1 := HLD.out
                rw [if_neg hck] at h1
                have HR := Lib.hid (Reads.below h1 hbx)
                clear h1
                go_wp2_with (at_builtin; refine app_rows rfl (.tmp 80) (.tmp 83) 22 rfl W1.heap.size 68 i0 _ 2 24 Try.underlying22 HI.out HZ0.out HZ1.out HZ2.out rfl (by decide) (by decide) _ _ _ rfl hownx W1.heap.size (((none : Option Addr) : Option Addr).map (·.add (k * 2))) (n - k) (c - k) (Rd.typ.rows (l.drop k)) ?e0y HR.out ?e1y ?e2y ?e3y ?_)
                case e1y => exact Rd.typ.rows_one' _
                case e2y => omega
                intro v4 w4 hown4 hg4
                have hb4 : Below W1.heap.size W1 w4 := hbx.grown hg4 hbx.size (fun j hj => (World.ownsRow.lt hownx _ hj).1)
                have HOWN : Hid (OwnTyps w4 W1.heap.size v4 (l.take k ++ ⟨u, t⟩ :: l.drop k)) := own_ins HL.out hk hown4
                have HB5 := Lib.hid (below_then hbW1 hb4)
                clear hown4 hb4 hg4
                go_wp2_with fail
                go_ret2
                exact start_own HE.out HM.out HOWN.out (ins_ok HOK.out hu HTB.out k) HB5.out
            have OA : (W1.alloc (.cells #[] 68)).drew.ownsRow W1.heap.size 68 2 (.slice (some ⟨W1.heap.size, 0, none⟩) 0 0) 0 [] := ownA _ W1 (Nat.le_refl _)
            have OB : ((W1.alloc (.cells #[] 68)).alloc (.cells #[.string u, .int .i64 t] 68)).drew.ownsRow W1.heap.size 68 2 (.slice (some ⟨W1.heap.size, 0, none⟩) 0 0) 0 [] := ownB _ W1 (Nat.le_refl _) _
            have OC : ((W1.alloc (.cells #[.string u, .int .i64 t] 68)).alloc (.cells #[] 68)).drew.ownsRow W1.heap.size 68 2 (.slice (some ⟨W1.heap.size + 1, 0, none⟩) 0 0) 0 [] := ownC _ W1 (Nat.le_refl _) _
            have RB : Reads ((W1.alloc (.cells #[] 68)).alloc (.cells #[.string u, .int .i64 t] 68)).drew (W1.heap.size + 2) 2 (some ⟨W1.heap.size + 1, 0, none⟩) 1 [.string u, .int .i64 t] := one_newB W1 u t
            have RC : Reads ((W1.alloc (.cells #[.string u, .int .i64 t] 68)).alloc (.cells #[] 68)).drew (W1.heap.size + 1) 2 (some ⟨W1.heap.size, 0, none⟩) 1 [.string u, .int .i64 t] := one_newC W1 u t
            have SS := Lib.hid (fun W' (h : Below W1.heap.size W1 W') => (⟨h, (h.cell (p := ⟨p, 0, none⟩) (by show p < _; omega)).trans x0, (h.cell (p := ⟨p, 1, none⟩) (by show p < _; omega)).trans x1⟩ : Below W1.heap.size W1 W' ∧ W'.cell? ⟨p, 0, none⟩ = some (.string u) ∧ W'.cell? ⟨p, 1, none⟩ = some (.int .i64 t)))
            clear hrW1 hT1
            go_region_held3 (fun w' => Below W1.heap.size W1 w' ∧ w'.cell? ⟨p, 0, none⟩ = some (.string u) ∧ w'.cell? ⟨p, 1, none⟩ = some (.int .i64 t)) ((refine SS.out _ ?_; repeat (first | assumption | exact Below.refl _ _ | exact And.left ‹Below W1.heap.size W1 _ ∧ _› | refine Below.drew ?_ | refine below_alloc ?_ _)))
              (first
              | (refine step_app_rows rfl (.tmp 72) (.tmp 75) 22 rfl W1.heap.size 68 i0 (.agg #[.string .empty, .int .i64 0]) 2 24 Try.underlying22 HI.out HZ0.out HZ1.out HZ2.out rfl (by decide) (by decide) (.slice (some ⟨_, 0, none⟩) 0 0) 0 [] rfl (by with_reducible assumption) W1.heap.size (none : Option Addr) k c (Rd.typ.rows (l.take k)) rfl (HLR.out.below (by with_reducible (repeat (first | assumption | exact Below.refl _ _ | refine Below.drew ?_ | refine below_alloc ?_ _)))) (Rd.typ.rows_one' _) (by omega) (by first | (simp; done) | (simp; omega)) ?_; intro v2 w2 hown2 hg2; have hb2 : Below W1.heap.size W1 w2 := Below.grown (by with_reducible (repeat (first | assumption | exact Below.refl _ _ | refine Below.drew ?_ | refine below_alloc ?_ _))) hg2 (by first | (simp; done) | (simp; omega)) (fun j hj => (World.ownsRow.lt (by with_reducible assumption) _ hj).1); first | (with_reducible have hrd := reads_kept RB hg2 (by simp [Value.ownBlock]) (by simp)) | (with_reducible have hrd := reads_kept RC hg2 (by simp [Value.ownBlock]) (by simp)) | skip)
              | (refine step_app_rows rfl (.tmp 76) (.tmp 78) 22 rfl W1.heap.size 68 i0 (.agg #[.string .empty, .int .i64 0]) 2 24 Try.underlying22 HI.out HZ0.out HZ1.out HZ2.out rfl (by decide) (by decide) v2 _ _ rfl (by first | with_reducible exact hown2 | with_reducible exact World.ownsRow.alloc hown2 _) _ (some _) 1 1 [.string u, .int .i64 t] rfl (by first | with_reducible exact hrd | with_reducible exact one_new _ u t) (by simp [Value.oneCell']) (by omega) (by have := hb2.size; simp; omega) ?_; intro v3 w3 hown3 hg3; have hb3 : Below W1.heap.size W1 w3 := Below.grown (by with_reducible (repeat (first | assumption | exact Below.refl _ _ | refine Below.drew ?_ | refine below_alloc ?_ _))) hg3 (by have := hb2.size; simp; omega) (fun j hj => (World.ownsRow.lt hown2 _ hj).1)))
            all_goals go_wp2_with fail
            all_goals go_meet
            all_goals exact ⟨hb3, hown3⟩
          · have hkc : (k : Int) ≤ c := by omega
            have hk0 : (0 : Int) ≤ k := by omega
            have HLR : Hid (Reads W1 W1.heap.size 2 (some ad) k (Rd.typ.rows (l.take k))) := Lib.hid (Rd.Holds.front hrW1 hk).1
            have HLD : Hid (Reads W1 W1.heap.size 2 (if c = k then (some ad) else ((some ad) : Option Addr).map (·.add (k * 2))) (n - k) (Rd.typ.rows (l.drop k))) := Lib.hid (Rd.Holds.cut hrW1 (k := k) (cap := c) hk hcap).1
            go_upto_region 16 with fail
            go_cut [11] (fun v wx => Below W1.heap.size W1 wx ∧ wx.ownsRow W1.heap.size 68 2 v (0 + k + 1) (([] ++ Rd.typ.rows (l.take k)) ++ [.string u, .int .i64 t]))
            case rest =>
              obtain ⟨hbx, hownx⟩ := hcut
              have hszx := hbx.size
              by_cases hck : c = k
              · have h1 := HLD.out
                rw [if_pos hck] at h1
                have hnk : n = k := by omega
                have hR := Reads.below h1 hbx
                have HR := Lib.hid hR
                have hn0 : n - k = 0 := by omega
                rw [hn0] at HR
                have hd : l.drop k = [] := List.drop_of_length_le (by have := HL.out; omega)
                rw [hd] at HR
                have HM2 : Hid (T.start l ⟨u, now + span⟩ = l.take k ++ ⟨u, t⟩ :: []) := by show _ = _; rw [HM.out, hd]
                clear h1 hd hR hn0
                subst hck
                subst hnk
                go_wp2_with (at_builtin; refine app_rows rfl (.tmp 80) (.tmp 83) 22 rfl W1.heap.size 68 i0 _ 2 24 Try.underlying22 HI.out HZ0.out HZ1.out HZ2.out rfl (by decide) (by decide) _ _ _ rfl hownx W1.heap.size (some ad) 0 0 (Rd.typ.rows []) rfl HR.out ?f1z ?f2z ?f3z ?_)
                case f1z => exact Rd.typ.rows_one' _
                case f2z => omega
                intro v4 w4 hown4 hg4
                have hb4 : Below W1.heap.size W1 w4 := hbx.grown hg4 hbx.size (fun j hj => (World.ownsRow.lt hownx _ hj).1)
                have HOWN : Hid (OwnTyps w4 W1.heap.size v4 (l.take n ++ ⟨u, t⟩ :: [])) := own_last HL.out hown4
                have HB5 := Lib.hid (below_then hbW1 hb4)
                clear hown4 hb4 hg4
                go_wp2_with fail
                go_ret2
                exact start_own HE.out HM2.out HOWN.out (by have h := ins_ok HOK.out hu HTB.out n; rwa [List.drop_of_length_le (by have := HL.out; omega)] at h) HB5.out
              · have h1 := HLD.out
                rw [if_neg hck] at h1
                have HR := Lib.hid (Reads.below h1 hbx)
                clear h1
                go_wp2_with (at_builtin; refine app_rows rfl (.tmp 80) (.tmp 83) 22 rfl W1.heap.size 68 i0 _ 2 24 Try.underlying22 HI.out HZ0.out HZ1.out HZ2.out rfl (by decide) (by decide) _ _ _ rfl hownx W1.heap.size (((some ad) : Option Addr).map (·.add (k * 2))) (n - k) (c - k) (Rd.typ.rows (l.drop k)) ?e0z HR.out ?e1z ?e2z ?e3z ?_)
                case e1z => exact Rd.typ.rows_one' _
                case e2z => omega
                intro v4 w4 hown4 hg4
                have hb4 : Below W1.heap.size W1 w4 := hbx.grown hg4 hbx.size (fun j hj => (World.ownsRow.lt hownx _ hj).1)
                have HOWN : Hid (OwnTyps w4 W1.heap.size v4 (l.take k ++ ⟨u, t⟩ :: l.drop k)) := own_ins HL.out hk hown4
                have HB5 := Lib.hid (below_then hbW1 hb4)
                clear hown4 hb4 hg4
                go_wp2_with fail
                go_ret2
                exact start_own HE.out HM.out HOWN.out (ins_ok HOK.out hu HTB.out k) HB5.out
            have OA : (W1.alloc (.cells #[] 68)).drew.ownsRow W1.heap.size 68 2 (.slice (some ⟨W1.heap.size, 0, none⟩) 0 0) 0 [] := ownA _ W1 (Nat.le_refl _)
            have OB : ((W1.alloc (.cells #[] 68)).alloc (.cells #[.string u, .int .i64 t] 68)).drew.ownsRow W1.heap.size 68 2 (.slice (some ⟨W1.heap.size, 0, none⟩) 0 0) 0 [] := ownB _ W1 (Nat.le_refl _) _
            have OC : ((W1.alloc (.cells #[.string u, .int .i64 t] 68)).alloc (.cells #[] 68)).drew.ownsRow W1.heap.size 68 2 (.slice (some ⟨W1.heap.size + 1, 0, none⟩) 0 0) 0 [] := ownC _ W1 (Nat.le_refl _) _
            have RB : Reads ((W1.alloc (.cells #[] 68)).alloc (.cells #[.string u, .int .i64 t] 68)).drew (W1.heap.size + 2) 2 (some ⟨W1.heap.size + 1, 0, none⟩) 1 [.string u, .int .i64 t] := one_newB W1 u t
            have RC : Reads ((W1.alloc (.cells #[.string u, .int .i64 t] 68)).alloc (.cells #[] 68)).drew (W1.heap.size + 1) 2 (some ⟨W1.heap.size, 0, none⟩) 1 [.string u, .int .i64 t] := one_newC W1 u t
            have SS := Lib.hid (fun W' (h : Below W1.heap.size W1 W') => (⟨h, (h.cell (p := ⟨p, 0, none⟩) (by show p < _; omega)).trans x0, (h.cell (p := ⟨p, 1, none⟩) (by show p < _; omega)).trans x1⟩ : Below W1.heap.size W1 W' ∧ W'.cell? ⟨p, 0, none⟩ = some (.string u) ∧ W'.cell? ⟨p, 1, none⟩ = some (.int .i64 t)))
            clear hrW1 hT1
            go_region_held3 (fun w' => Below W1.heap.size W1 w' ∧ w'.cell? ⟨p, 0, none⟩ = some (.string u) ∧ w'.cell? ⟨p, 1, none⟩ = some (.int .i64 t)) ((refine SS.out _ ?_; repeat (first | assumption | exact Below.refl _ _ | exact And.left ‹Below W1.heap.size W1 _ ∧ _› | refine Below.drew ?_ | refine below_alloc ?_ _)))
              (first
              | (refine step_app_rows rfl (.tmp 72) (.tmp 75) 22 rfl W1.heap.size 68 i0 (.agg #[.string .empty, .int .i64 0]) 2 24 Try.underlying22 HI.out HZ0.out HZ1.out HZ2.out rfl (by decide) (by decide) (.slice (some ⟨_, 0, none⟩) 0 0) 0 [] rfl (by with_reducible assumption) W1.heap.size (some ad) k c (Rd.typ.rows (l.take k)) rfl (HLR.out.below (by with_reducible (repeat (first | assumption | exact Below.refl _ _ | refine Below.drew ?_ | refine below_alloc ?_ _)))) (Rd.typ.rows_one' _) (by omega) (by first | (simp; done) | (simp; omega)) ?_; intro v2 w2 hown2 hg2; have hb2 : Below W1.heap.size W1 w2 := Below.grown (by with_reducible (repeat (first | assumption | exact Below.refl _ _ | refine Below.drew ?_ | refine below_alloc ?_ _))) hg2 (by first | (simp; done) | (simp; omega)) (fun j hj => (World.ownsRow.lt (by with_reducible assumption) _ hj).1); first | (with_reducible have hrd := reads_kept RB hg2 (by simp [Value.ownBlock]) (by simp)) | (with_reducible have hrd := reads_kept RC hg2 (by simp [Value.ownBlock]) (by simp)) | skip)
              | (refine step_app_rows rfl (.tmp 76) (.tmp 78) 22 rfl W1.heap.size 68 i0 (.agg #[.string .empty, .int .i64 0]) 2 24 Try.underlying22 HI.out HZ0.out HZ1.out HZ2.out rfl (by decide) (by decide) v2 _ _ rfl (by first | with_reducible exact hown2 | with_reducible exact World.ownsRow.alloc hown2 _) _ (some _) 1 1 [.string u, .int .i64 t] rfl (by first | with_reducible exact hrd | with_reducible exact one_new _ u t) (by simp [Value.oneCell']) (by omega) (by have := hb2.size; simp; omega) ?_; intro v3 w3 hown3 hg3; have hb3 : Below W1.heap.size W1 w3 := Below.grown (by with_reducible (repeat (first | assumption | exact Below.refl _ _ | refine Below.drew ?_ | refine below_alloc ?_ _))) hg3 (by have := hb2.size; simp; omega) (fun j hj => (World.ownsRow.lt hown2 _ hj).1)))
            all_goals go_wp2_with fail
            all_goals go_meet
            all_goals exact ⟨hb3, hown3⟩
end Go.Proofs.Ytbhkgdfmjkblcaa
