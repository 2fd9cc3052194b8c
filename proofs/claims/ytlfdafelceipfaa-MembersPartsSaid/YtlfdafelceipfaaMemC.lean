/-
  The law MembersParts.
-/
import Derived.Test.YtlfdafelceipfaaMemR
import Derived.Test.YtlfdafelceipfaaGreat
import Derived.Test.YtlfdafelceipfaaRet
import Derived.Deep.RegionHeld3
import Derived.Deep.DeepCutAuto
namespace Go.Proofs.Ytlfdafelceipfaa
open Go.RowKit

def HasNo (L : List (List UInt8)) (u : List UInt8) (k : Nat) : Prop := ∀ (j : Nat) y, L[j]? = some y → j < k → y ≠ u
theorem HasNo.zero (L : List (List UInt8)) (u : List UInt8) : HasNo L u 0 := fun j _ _ h => by omega
theorem HasNo.succ {L : List (List UInt8)} {u x : List UInt8} {k : Nat} (h : HasNo L u k) (hx : L[k]? = some x) (hm : x ≠ u) : HasNo L u (k + 1) := fun j y hy hj => by
  rcases Nat.lt_or_ge j k with h1 | h1
  · exact h j y hy h1
  · obtain rfl : j = k := by omega
    rw [hx] at hy; cases hy; exact hm
theorem HasNo.all {L : List (List UInt8)} {u : List UInt8} {k : Nat} (h : HasNo L u k) (hk : L.length ≤ k) : decide (u ∈ L) = false := by
  rw [decide_eq_false_iff_not]
  intro hm
  obtain ⟨j, hj, rfl⟩ := List.mem_iff_getElem.1 hm
  exact h j _ (List.getElem?_eq_getElem hj) (by omega) rfl
theorem has_hit {L : List (List UInt8)} {u : List UInt8} {k : Nat} (hx : L[k]? = some u) : decide (u ∈ L) = true := decide_eq_true (List.mem_of_getElem? hx)

set_option maxRecDepth 100000 in
set_option maxHeartbeats 1000000 in
theorem mhas_any (A : Option Addr) (n c : Nat) (L : List (List UInt8)) (s : ByteArray) (w : World) (hr : Strs w A n (L.map mk)) (hn : n ≤ 1000000) :
    Calls Try.prog 46 #[.slice A n c, .string s] w (Same w (.bool (decide (bs s ∈ L)))) := by
  have HL : Hid (L.length = n) := Lib.hid (by have := hr.length; simpa using this)
  go_enter Try.func46, Try.ntmps46
  go_wp2_with fail
  go_loop [5] (fun i => ∃ k : Nat, k ≤ L.length ∧ i = .int .i64 k ∧ HasNo L (bs s) k) (fun i => n - (intOf i).toNat)
  case atStart => exact ⟨0, by omega, rfl, HasNo.zero _ _⟩
  case round =>
    obtain ⟨k, hk, rfl, hb⟩ := hrel
    by_cases hlt : k < n
    · obtain ⟨ad, x, rfl, hadb, hu, hc⟩ := hr.at_ hlt
      have hk1 : k + 1 ≤ L.length := by have := HL.out; omega
      obtain ⟨y, hy, rfl⟩ : ∃ y, L[k]? = some y ∧ mk y = x := by
        rw [List.getElem?_map] at hu
        obtain ⟨y, h1, h2⟩ := Option.map_eq_some_iff.1 hu
        exact ⟨y, h1, h2⟩
      clear hu
      by_cases hxs : y = bs s
      · have es : ((mk y).toList == s.toList) = true := by rw [streq, bs_mk]; exact decide_eq_true hxs
        have HF := Lib.hid (has_hit (hxs ▸ hy))
        clear hb hy hxs
        go_wp2_with fail
        go_ret
        exact ⟨by rw [HF.out]; rfl, rfl⟩
      · have es : ((mk y).toList == s.toList) = false := by rw [streq, bs_mk]; exact decide_eq_false hxs
        have HB := Lib.hid (hb.succ hy hxs)
        clear hb hy hxs
        go_wp2_with fail
        exact ⟨⟨k + 1, hk1, by go_num, HB.out⟩, by simp [intOf]; omega⟩
    · have HF := Lib.hid (hb.all (by have := HL.out; omega))
      clear hb
      go_wp2_with fail
      go_ret
      exact ⟨by rw [HF.out]; rfl, rfl⟩

theorem parts1 {l : List Ev} {m : Int} {k : Nat} {x : Ev} (hx : l[k]? = some x) (h : x.kind = 2) : decide (bs x.key ∈ Mb.withL l m) = decide (Mb.of l (bs x.key) = m) := by
  rw [decide_eq_decide, Mb.mem_with]
  exact ⟨fun h => h.2, fun h2 => ⟨Mb.key_mem hx h, h2⟩⟩
theorem parts2 {l : List Ev} {k : Nat} {x : Ev} (hx : l[k]? = some x) (h : x.kind = 2) : decide (bs x.key ∈ Mb.withL l (Mb.of l (bs x.key))) = true :=
  decide_eq_true (Mb.mem_with.2 ⟨Mb.key_mem hx h, rfl⟩)
theorem inc_at {L : List (List UInt8)} (h : Nm.Inc L) {j : Nat} {a b : List UInt8} (ha : L[j]? = some a) (hb : L[j + 1]? = some b) : a < b := by
  obtain ⟨hj, rfl⟩ := List.getElem?_eq_some_iff.1 ha
  obtain ⟨hk, rfl⟩ := List.getElem?_eq_some_iff.1 hb
  exact List.pairwise_iff_getElem.1 h j (j + 1) hj hk (by omega)

set_option maxRecDepth 100000 in
set_option maxHeartbeats 4000000 in
theorem membersParts_any (x : Sl Ev) (m : Int) (w : World) (hx : Rd.ev.Holds w x.A x.n x.l ∧ x.n ≤ maxLen) :
    Calls Try.prog 13 #[x.val, .int .i64 m] w (Ret w (.bool true)) := by
  obtain ⟨A, n, c, l⟩ := x
  obtain ⟨hr, hn⟩ := hx
  simp only [Sl.val] at hr hn ⊢
  have HL := Lib.hid hr.length
  go_enter Try.func13, Try.ntmps13
  go_wp2_with fail
  refine (rgreat8_any A n c l w hr hn).mono ?_
  rintro e w1 ⟨g1, rfl, hg1, b1⟩
  cases g1
  · have hn20 : n ≤ 20 := hg1 rfl
    have h1 := hr.on b1
    clear hg1 hn hr
    go_wp2_with fail
    refine (mwith_any A n c l m w1 h1 (by omega)).mono ?_
    rintro e w3 ⟨v3, rfl, b3, hown3⟩
    obtain ⟨A5, c5, rfl, hS⟩ := hown3.form'
    have h3 := h1.on b3
    have b13 := below_then b1 b3
    clear hown3 b3 b1 h1
    have hlen : (Mb.withL l m).length ≤ 20 := by have := Mb.with_length l m; have := HL.out; omega
    have HI := Lib.hid (Mb.with_inc l m)
    have HP : Hid (∀ {k : Nat} {x : Ev}, l[k]? = some x → x.kind = 2 → decide (bs x.key ∈ Mb.withL l m) = decide (Mb.of l (bs x.key) = m)) := Lib.hid fun hx h => parts1 hx h
    generalize Mb.withL l m = W at hS hlen HI HP ⊢
    go_wp2_with fail
    go_loopw [6] (fun i wr => ∃ k : Nat, k ≤ l.length ∧ i = .int .i64 k ∧ Below w3.heap.size w3 wr) (fun i _ => n - (intOf i).toNat)
    case atStart => exact ⟨0, by omega, rfl, Below.refl _ _⟩
    case round =>
      obtain ⟨k, hk, rfl, hbw⟩ := hrel
      by_cases hkn : k < n
      · obtain ⟨b, o, x, rfl, hbl, hu, _, hox, hra⟩ := h3.mid (by decide) hkn
        change w3.rangeAt b (o + k * 29) (Rd.ev.cells x) at hra
        have HC : Hid (∀ wx, Below w3.heap.size w3 wx → wx.cell? ⟨b, o + k * 29 + 3, none⟩ = some (.int .i64 x.kind) ∧ wx.cell? ⟨b, o + k * 29 + 5, none⟩ = some (.string x.key)) :=
          Lib.hid fun wx hb => ⟨(ev_cells_on hra hbl hb).1, (ev_cells_on hra hbl hb).2.1⟩
        have hk1 : k + 1 ≤ l.length := by have := HL.out; omega
        clear hra
        by_cases h2 : x.kind = 2
        · have e2 : (x.kind == 2) = true := eqT h2
          have hp := HP.out hu h2
          have hq := parts2 hu h2
          generalize hv : Mb.of l (bs x.key) = v at hp hq
          have CO : Hid (∀ w1 : World, Below w3.heap.size w3 w1 → Calls Try.prog 34 #[.slice (some ⟨b, o, none⟩) n c, .string x.key] w1 fun e w' => e = .returned (.int .i64 v) ∧ Below w3.heap.size w3 w') :=
            Lib.hid fun w1 hb => (mof_any _ n c l x.key w1 (h3.on hb) (by omega)).mono fun e w' ⟨h1, h2⟩ => ⟨by rw [h1, hv], h2 ▸ hb⟩
          have CW : Hid (∀ w1 : World, Below w3.heap.size w3 w1 → Calls Try.prog 37 #[.slice (some ⟨b, o, none⟩) n c, .int .i64 v] w1 fun e w' => ∃ A' c', e = .returned (.slice A' (Mb.withL l v).length c') ∧ Strs w' A' (Mb.withL l v).length ((Mb.withL l v).map mk) ∧ Below w3.heap.size w3 w') :=
            Lib.hid fun w1 hb => (mwith_any _ n c l v w1 (h3.on hb) (by omega)).mono fun e w' ⟨v', h1, h2, h3⟩ => by
              obtain ⟨A', c', rfl, h4⟩ := h3.form'
              exact ⟨A', c', h1, h4, below_then hb h2⟩
          have hlen2 : (Mb.withL l v).length ≤ 20 := by have := Mb.with_length l v; have := HL.out; omega
          have CF : Hid (∀ (A' : Option Addr) (c' : Nat) (w1 : World), Strs w1 A' (Mb.withL l v).length ((Mb.withL l v).map mk) → Below w3.heap.size w3 w1 → Calls Try.prog 46 #[.slice A' (Mb.withL l v).length c', .string x.key] w1 fun e w' => e = .returned (.bool true) ∧ Below w3.heap.size w3 w') :=
            Lib.hid fun A' c' w1 h0 hb => (mhas_any A' _ c' _ x.key w1 h0 (by omega)).mono fun e w' ⟨h1, h2⟩ => ⟨by rw [h1, hq], h2 ▸ hb⟩
          clear hq hv hu h2 hlen2
          by_cases hvm : v = m
          · have CH : Hid (∀ w1 : World, Below w3.heap.size w3 w1 → Calls Try.prog 46 #[.slice A5 W.length c5, .string x.key] w1 fun e w' => e = .returned (.bool true) ∧ Below w3.heap.size w3 w') :=
              Lib.hid fun w1 hb => (mhas_any A5 _ c5 _ x.key w1 (hS.on hb) (by omega)).mono fun e w' ⟨h1, h2⟩ => ⟨by rw [h1, hp, decide_eq_true hvm], h2 ▸ hb⟩
            have evm : (v == m) = true := eqT hvm
            clear hp hvm
            go_upto_region 7 with fail
            go_cut [61] (fun s wx => s = Value.bool false ∧ Below w3.heap.size w3 wx)
            case rest =>
              obtain ⟨rfl, hbx⟩ := hcut
              clear hbw
              go_wp2_with fail
              exact ⟨⟨k + 1, hk1, by go_num, hbx⟩, by simp [intOf]; omega⟩
            go_region_held3 (fun w' => Below w3.heap.size w3 w' ∧ w'.cell? ⟨b, o + k * 29 + 3, none⟩ = some (.int .i64 x.kind) ∧ w'.cell? ⟨b, o + k * 29 + 5, none⟩ = some (.string x.key)) (first | exact ⟨by assumption, HC.out _ (by assumption)⟩ | exact ⟨Below.drew (by assumption), HC.out _ (Below.drew (by assumption))⟩)
              (first
              | (go_at_call 46; with_reducible refine (CH.out _ (And.left ‹Below w3.heap.size w3 _ ∧ _›)).mono ?_; rintro e wx ⟨rfl, bx⟩)
              | (go_at_call 46; refine (CF.out _ _ _ (by assumption) (And.left ‹Below w3.heap.size w3 _ ∧ _›)).mono ?_; rintro e wx ⟨rfl, bx⟩)
              | (go_at_call 34; refine (CO.out _ (And.left ‹Below w3.heap.size w3 _ ∧ _›)).mono ?_; rintro e wx ⟨rfl, bx⟩)
              | (go_at_call 37; refine (CW.out _ (And.left ‹Below w3.heap.size w3 _ ∧ _›)).mono ?_; rintro e wx ⟨Ax, cx, rfl, sx, bx⟩))
            all_goals go_wp2_with fail
            all_goals go_meet
            all_goals exact ⟨rfl, by assumption⟩
          · have CH : Hid (∀ w1 : World, Below w3.heap.size w3 w1 → Calls Try.prog 46 #[.slice A5 W.length c5, .string x.key] w1 fun e w' => e = .returned (.bool false) ∧ Below w3.heap.size w3 w') :=
              Lib.hid fun w1 hb => (mhas_any A5 _ c5 _ x.key w1 (hS.on hb) (by omega)).mono fun e w' ⟨h1, h2⟩ => ⟨by rw [h1, hp, decide_eq_false hvm], h2 ▸ hb⟩
            have evm : (v == m) = false := eqF hvm
            clear hp hvm
            go_upto_region 7 with fail
            go_cut [61] (fun s wx => s = Value.bool false ∧ Below w3.heap.size w3 wx)
            case rest =>
              obtain ⟨rfl, hbx⟩ := hcut
              clear hbw
              go_wp2_with fail
              exact ⟨⟨k + 1, hk1, by go_num, hbx⟩, by simp [intOf]; omega⟩
            go_region_held3 (fun w' => Below w3.heap.size w3 w' ∧ w'.cell? ⟨b, o + k * 29 + 3, none⟩ = some (.int .i64 x.kind) ∧ w'.cell? ⟨b, o + k * 29 + 5, none⟩ = some (.string x.key)) (first | exact ⟨by assumption, HC.out _ (by assumption)⟩ | exact ⟨Below.drew (by assumption), HC.out _ (Below.drew (by assumption))⟩)
              (first
              | (go_at_call 46; with_reducible refine (CH.out _ (And.left ‹Below w3.heap.size w3 _ ∧ _›)).mono ?_; rintro e wx ⟨rfl, bx⟩)
              | (go_at_call 46; refine (CF.out _ _ _ (by assumption) (And.left ‹Below w3.heap.size w3 _ ∧ _›)).mono ?_; rintro e wx ⟨rfl, bx⟩)
              | (go_at_call 34; refine (CO.out _ (And.left ‹Below w3.heap.size w3 _ ∧ _›)).mono ?_; rintro e wx ⟨rfl, bx⟩)
              | (go_at_call 37; refine (CW.out _ (And.left ‹Below w3.heap.size w3 _ ∧ _›)).mono ?_; rintro e wx ⟨Ax, cx, rfl, sx, bx⟩))
            all_goals go_wp2_with fail
            all_goals go_meet
            all_goals exact ⟨rfl, by assumption⟩
        · have e2 : (x.kind == 2) = false := eqF h2
          clear hu h2
          obtain ⟨y3, y5⟩ := HC.out _ hbw
          go_wp2_with fail
          go_quiet (fail)
          go_wp2_with fail
          exact ⟨⟨k + 1, hk1, by go_num, below_drewN hbw nq⟩, by simp [intOf]; omega⟩
      · have hSr := hS.on hbw
        have d0 := below_then b13 hbw
        clear hS h3 hbw b13
        obtain ⟨wo, rfl⟩ : ∃ wo : World, wo = wr := ⟨_, rfl⟩
        go_wp2_with fail
        go_loopw [7] (fun i wq => ∃ k : Nat, 1 ≤ k ∧ (k = 1 ∨ k ≤ W.length) ∧ i = .int .i64 k ∧ Below wo.heap.size wo wq) (fun i _ => W.length - (intOf i).toNat)
        case atStart => exact ⟨1, by omega, .inl rfl, rfl, Below.refl _ _⟩
        case round =>
          obtain ⟨q, hq1, hq, rfl, hbq⟩ := hrel
          have hSq := hSr.on hbq
          by_cases hqn : q < W.length
          · obtain ⟨j, hkj⟩ : ∃ j, q = j + 1 := ⟨q - 1, by omega⟩
            obtain ⟨ad, x, rfl, hadb, hu, hcx⟩ := hSq.at_ hqn
            obtain ⟨ad', y, h', _, hv, hcy⟩ := hSq.at_ (show j < W.length by omega)
            cases h'
            have hlt : bs y < bs x := by
              rw [hkj] at hu
              rw [List.getElem?_map] at hu hv
              obtain ⟨a, ha, rfl⟩ := Option.map_eq_some_iff.1 hv
              obtain ⟨b, hb, rfl⟩ := Option.map_eq_some_iff.1 hu
              rw [bs_mk, bs_mk]
              exact inc_at HI.out ha hb
            obtain ⟨e1, e2⟩ := not_less hlt
            have hw1 : IntKind.i64.wrap ((q : Int) - 1) = (j : Int) := by rw [show (q : Int) - 1 = (j : Int) by omega]; exact IntWalk.i64_in _ (by omega)
            have hjn : (j : Int) < W.length := by omega
            have HKJ := Lib.hid hkj
            clear hu hv hlt hq hq1 hkj
            go_wp2_with fail
            go_quiet (fail)
            go_wp2_with fail
            exact ⟨⟨q + 1, by omega, .inr (by omega), by go_num, below_drewN hbq nq⟩, by simp [intOf]; omega⟩
          · clear hSq hSr
            go_wp2_with fail
            refine (mlive_any _).mono ?_
            rintro e w6 ⟨rfl, b7⟩
            go_wp2_with fail
            go_ret
            exact ⟨rfl, below_then d0 (below_then hbq b7)⟩
  · clear hg1
    go_wp2_with fail
    go_ret
    exact ⟨rfl, b1⟩
end Go.Proofs.Ytlfdafelceipfaa
