/-
  The walks through seen and apart.
-/
import Derived.Test.YtbhkgdfmjkblcaaDevA
import Derived.Test.YtbhkgdfmjkblcaaDevH
import Derived.Deep.DeepCutAuto
namespace Go.Proofs.Ytbhkgdfmjkblcaa
open Go.RowKit
attribute [local go_sem ↓] ex_st_ky ex_st_dv
attribute [local go_sem] st_ky_new st_ky st_dv_new st_dv

set_option maxRecDepth 100000 in
set_option maxHeartbeats 4000000 in
theorem seen_any (A : Option Addr) (n c : Nat) (l : List Kys) (u : ByteArray) (p : Int) (w : World) (hr : Rd.kys.Holds w A n l) (hn : n ≤ 1000000) (hi : Dv.Inc Dv.uk (l.map kv)) (hin : bs u ∈ Dv.changed (l.map kv) p) :
    Calls Try.prog 53 #[.slice A n c, .string u, .int .i64 p] w (Ret w (.bool true)) := by
  obtain ⟨L, hL⟩ : ∃ L, Dv.changed (l.map kv) p = L := ⟨_, rfl⟩
  have hLn : L.length ≤ 1000000 := by rw [← hL]; exact Nat.le_trans (Dv.changed_len _ _) (by rw [List.length_map, hr.length]; exact hn)
  have CC := changed_any A n c l p w hr hn hi
  rw [hL] at CC hin
  have HC := Lib.hid CC
  have HIN : Hid (u ∈ L.map mk) := Lib.hid (List.mem_map.2 ⟨bs u, hin, mk_bs u⟩)
  clear CC hL hin hi
  go_enter Try.func53, Try.ntmps53
  go_wp2_with fail
  refine HC.out.mono ?_
  rintro e w1 ⟨v, rfl, b1, own⟩
  obtain ⟨A1, c1, rfl, hs⟩ := own.form'
  clear own HC
  obtain ⟨N, hN⟩ : ∃ N, L.length = N := ⟨_, rfl⟩
  rw [hN] at hs hLn ⊢
  have HNN := Lib.hid hN
  clear hN
  go_wp2_with fail
  go_loop [8] (fun i => ∃ k : Nat, k ≤ N ∧ i = .int .i64 k ∧ NoF (fun z : ByteArray => bs z) (L.map mk) (bs u) k) (fun i => N - (intOf i).toNat)
  case atStart => exact ⟨0, by omega, rfl, NoF.zero⟩
  case round =>
    obtain ⟨k, hk, rfl, hno⟩ := hrel
    by_cases hlt : k < N
    · obtain ⟨ad, z, rfl, _, hz, hc⟩ := hs.at_ hlt
      obtain ⟨e0, h0⟩ : ∃ e, (z.toList == u.toList) = e := ⟨_, rfl⟩
      have hd : decide (bs z = bs u) = e0 := by rw [← h0, streq]
      cases e0
      · have HN := Lib.hid (hno.succ hz (of_decide_eq_false hd))
        clear hno hz hd
        go_wp2_with fail
        exact ⟨⟨k + 1, by omega, by go_num, HN.out⟩, by simp [intOf]; omega⟩
      · clear hno hz hd
        go_wp2_with fail
        go_ret
        exact ⟨rfl, b1⟩
    · exfalso
      obtain ⟨j, hj, hju⟩ := List.mem_iff_getElem.1 HIN.out
      have hjk : j < k := by
        have : j < L.length := by simpa using hj
        rw [HNN.out] at this; omega
      exact hno j _ (List.getElem?_eq_getElem hj) hjk (by rw [hju])

set_option maxRecDepth 100000 in
set_option maxHeartbeats 8000000 in
theorem apart_any (A B : Option Addr) (n m c d : Nat) (a l : List Kys) (u : ByteArray) (w : World) (ha : Rd.kys.Holds w A n a) (hb : Rd.kys.Holds w B m l) (hn : n ≤ 1000000) (hm : m ≤ 1000000) (hib : Dv.Inc Dv.uk (l.map kv)) (hap : Dv.apartB (a.map kv) (l.map kv) u = true) :
    Calls Try.prog 52 #[.slice A n c, .slice B m d, .string u] w (Ret w (.bool true)) := by
  unfold Dv.apartB at hap
  rw [Bool.and_eq_true, List.all_eq_true, List.all_eq_true] at hap
  obtain ⟨hp1, hp2⟩ := hap
  have H1 : Hid (∀ x ∈ a, x.user ≠ u → ∃ K ∈ l, Dv.find ku l (bs x.user) = some K ∧ kv K = kv x) := Lib.hid fun x hx hne => by
    have h := hp1 (kv x) (List.mem_map.2 ⟨x, hx, rfl⟩)
    rw [Bool.or_eq_true, decide_eq_true_eq, decide_eq_true_eq] at h
    rcases h with h | h
    · exact absurd h hne
    · have h2 : (Dv.find ku l (bs x.user)).map kv = some (kv x) := (kv_find l x.user).trans h
      obtain ⟨K, hK, hk⟩ := Option.map_eq_some_iff.1 h2
      exact ⟨K, ((Dv.find_some_iff (inc_kv.1 hib)).1 hK).1, hK, hk⟩
  have H2 : Hid (∀ x ∈ l, x.user ≠ u → (Dv.find ku a (bs x.user)).isSome = true) := Lib.hid fun x hx hne => by
    have h := hp2 (kv x) (List.mem_map.2 ⟨x, hx, rfl⟩)
    rw [Bool.or_eq_true, decide_eq_true_eq] at h
    rcases h with h | h
    · exact absurd h hne
    · rw [kv_isSome]; exact h
  clear hp1 hp2 hib
  go_enter Try.func52, Try.ntmps52
  go_wp2_with fail
  go_loopw [7] (fun i wr => ∃ k : Nat, k ≤ n ∧ i = .int .i64 k ∧ Below w.heap.size w wr) (fun i _ => n - (intOf i).toNat)
  case atStart => exact ⟨0, by omega, rfl, Below.refl _ _⟩
  case round =>
    obtain ⟨k, hk, rfl, hbw⟩ := hrel
    by_cases hlt : k < n
    · obtain ⟨b1, o1, ⟨xu, xm, xp, ⟨xA, xn, xc, xl⟩⟩, rfl, hl1, hu, hmem, hok1, hxa⟩ := (ha.on hbw).mid (by decide) hlt
      have hk0 : (k : Int) < n := by omega
      have x0 : wr.cell? ⟨b1, o1 + k * 4, none⟩ = some (.string xu) := hxa 0 _ rfl
      have C := fun V (h : Below wr.heap.size wr V) => rget_any B m d l xu V ((hb.on hbw).on h) hm
      by_cases he : xu = u
      · subst he
        obtain ⟨K, s, hgv⟩ : ∃ K s, getV (Dv.find ku l (bs xu)) = .tuple #[kyA K, .bool s] := ⟨_, _, rfl⟩
        have C1 := C wr (Below.refl _ _)
        rw [hgv] at C1
        have HC := Lib.hid C1
        clear C C1 hgv hu hok1 hmem
        go_wp2_with fail
        refine HC.out.mono ?_
        rintro e w1 ⟨rfl, bb1⟩
        have x0 : w1.cell? ⟨b1, o1 + k * 4, none⟩ = some (.string xu) := (range_on hxa bb1 hl1) 0 _ rfl
        have hb1 := below_then hbw bb1
        have hlw := bb1.size
        clear bb1 HC
        go_upto_region 5 with fail
        have y0 : (w1.alloc (.cells #[.string K.user, .int .i64 K.master, .int .i64 K.pos, .slice K.devices.A K.devices.n K.devices.c] 59)).cell? ⟨b1, o1 + k * 4, none⟩ = some (.string xu) := (World.cell?_alloc_lt _ _ _ (by show b1 < _; omega)).trans x0
        have hb2 := below_alloc hb1 (.cells #[.string K.user, .int .i64 K.master, .int .i64 K.pos, .slice K.devices.A K.devices.n K.devices.c] 59)
        clear x0 hxa
        generalize w1.alloc (.cells #[.string K.user, .int .i64 K.master, .int .i64 K.pos, .slice K.devices.A K.devices.n K.devices.c] 59) = w2 at y0 hb2 ⊢
        have hne : (xu.toList == xu.toList) = true := by simp
        go_quiet (fail)
        go_wp2_with fail
        exact ⟨⟨k + 1, by omega, by go_num, below_drewN hb2 _⟩, by simp [intOf]; omega⟩
      · obtain ⟨⟨Ku, Km, Kp, ⟨KA, Kn, Kc, Kl⟩⟩, hKm, hKf, hKk⟩ := H1.out _ hmem he
        have hokK : Rd.kys.Ok wr ⟨Ku, Km, Kp, ⟨KA, Kn, Kc, Kl⟩⟩ := (hb.on hbw).2.2 _ hKm
        injection hKk with h1 h2 h3 h4
        subst h1 h2 h3
        have h4' : Kl = xl := h4
        subst h4'
        have hd1 : Rd.dvc.Holds wr KA Kn Kl := hokK.2.2.2.1.1
        have hd2 : Rd.dvc.Holds wr xA xn Kl := hok1.2.2.2.1.1
        obtain rfl : Kn = xn := by rw [← hd1.length, ← hd2.length]
        have hKn : Kn ≤ maxLen := Nat.le_trans hok1.2.2.2.1.2.1 hok1.2.2.2.1.2.2
        have C1 := C wr (Below.refl _ _)
        have hgv : getV (Dv.find ku l (bs Ku)) = .tuple #[.agg #[.string Ku, .int .i64 Km, .int .i64 Kp, .slice KA Kn Kc], .bool true] := by
          rw [show Dv.find ku l (bs Ku) = some ⟨Ku, Km, Kp, ⟨KA, Kn, Kc, Kl⟩⟩ from hKf]; rfl
        rw [hgv] at C1
        have HC := Lib.hid C1
        have hne0 : (Ku.toList == u.toList) = false := by rw [streq]; exact decide_eq_false fun e => he (bs_inj e)
        clear C C1 hgv hu hok1 hmem hKm hKf hokK h4 he
        go_wp2_with fail
        refine HC.out.mono ?_
        rintro e w1 ⟨rfl, bb1⟩
        have hrow := range_on hxa bb1 hl1
        have hb1 := below_then hbw bb1
        have hlw := bb1.size
        have hd1' := hd1.on bb1
        have hd2' := hd2.on bb1
        clear bb1 HC hxa hd1 hd2 x0
        go_upto_region 5 with fail
        obtain ⟨w2, hw2⟩ : ∃ W : World, W = w1.alloc (.cells #[.string Ku, .int .i64 Km, .int .i64 Kp, .slice KA Kn Kc] 59) := ⟨_, rfl⟩
        have bx : Box w2 w1.heap.size [.string Ku, .int .i64 Km, .int .i64 Kp, .slice KA Kn Kc] := by rw [hw2]; exact Box.new w1 [.string Ku, .int .i64 Km, .int .i64 Kp, .slice KA Kn Kc] _
        have bb2 : Below w1.heap.size w1 w2 := by rw [hw2]; exact below_alloc (Below.refl _ _) _
        rw [← hw2]
        obtain ⟨q, hq⟩ : ∃ q, w1.heap.size = q := ⟨_, rfl⟩
        have hrow2 := range_on hrow bb2 (by omega)
        have hb2 := below_then hb1 bb2
        have hd1 := hd1'.on bb2
        have hd2 := hd2'.on bb2
        have hl2 : b1 < w2.heap.size := by have := bb2.size; omega
        rw [hq] at bx ⊢
        clear hq hw2 bb2 hb1 hd1' hd2' hrow hlw
        have BX : Hid (∀ V, Below w2.heap.size w2 V → Below w2.heap.size w2 V ∧ V.cell? ⟨q, 0, none⟩ = some (.string Ku) ∧ V.cell? ⟨q, 1, none⟩ = some (.int .i64 Km) ∧ V.cell? ⟨q, 2, none⟩ = some (.int .i64 Kp) ∧ V.cell? ⟨q, 3, none⟩ = some (.slice KA Kn Kc) ∧ V.cell? ⟨b1, o1 + k * 4, none⟩ = some (.string Ku) ∧ V.cell? ⟨b1, o1 + k * 4 + 1, none⟩ = some (.int .i64 Km) ∧ V.cell? ⟨b1, o1 + k * 4 + 2, none⟩ = some (.int .i64 Kp) ∧ V.cell? ⟨b1, o1 + k * 4 + 3, none⟩ = some (.slice xA Kn xc)) :=
          Lib.hid fun V h => ⟨h, (bx.on h).at_ 0 _ rfl, (bx.on h).at_ 1 _ rfl, (bx.on h).at_ 2 _ rfl, (bx.on h).at_ 3 _ rfl, (range_on hrow2 h hl2) 0 _ rfl, (range_on hrow2 h hl2) 1 _ rfl, (range_on hrow2 h hl2) 2 _ rfl, (range_on hrow2 h hl2) 3 _ rfl⟩
        have CD : Hid (∀ V, Below w2.heap.size w2 V → Calls Try.prog 48 #[.agg #[.string Ku, .int .i64 Km, .int .i64 Kp, .slice KA Kn Kc], .agg #[.string Ku, .int .i64 Km, .int .i64 Kp, .slice xA Kn xc]] V (Ret V (.bool true))) :=
          Lib.hid fun V h => sameKeys_any Ku Km Kp KA xA Kn Kc xc Kl V (hd1.on h) (hd2.on h) hKn
        clear bx hrow2 hd1 hd2 hl2
        go_region_held3 (fun V => Below w2.heap.size w2 V ∧ V.cell? ⟨q, 0, none⟩ = some (.string Ku) ∧ V.cell? ⟨q, 1, none⟩ = some (.int .i64 Km) ∧ V.cell? ⟨q, 2, none⟩ = some (.int .i64 Kp) ∧ V.cell? ⟨q, 3, none⟩ = some (.slice KA Kn Kc) ∧ V.cell? ⟨b1, o1 + k * 4, none⟩ = some (.string Ku) ∧ V.cell? ⟨b1, o1 + k * 4 + 1, none⟩ = some (.int .i64 Km) ∧ V.cell? ⟨b1, o1 + k * 4 + 2, none⟩ = some (.int .i64 Kp) ∧ V.cell? ⟨b1, o1 + k * 4 + 3, none⟩ = some (.slice xA Kn xc))
          (first | exact BX.out _ (by assumption) | exact BX.out _ (Below.refl _ _) | exact BX.out _ (Below.drew (Below.refl _ _)) | exact BX.out _ (Below.drew (by assumption)))
          (first | (go_at_call 48; have hB := And.left ‹Below w2.heap.size w2 _ ∧ _›; refine (CD.out _ hB).mono ?_; rintro e wz ⟨rfl, bz⟩; have bz2 : Below w2.heap.size w2 wz := below_then hB bz; clear bz hB))
        all_goals
          have hB9 := And.left ‹Below w2.heap.size w2 _ ∧ _›
          have hB8 := below_then hb2 hB9
          clear BX CD
          go_wp2_with fail
        all_goals exact ⟨⟨k + 1, by omega, by go_num, hB8⟩, by simp [intOf]; omega⟩
    · rename World => W0
      go_wp2_with fail
      go_loopw [10] (fun i wr => ∃ k : Nat, k ≤ m ∧ i = .int .i64 k ∧ Below w.heap.size w wr) (fun i _ => m - (intOf i).toNat)
      case atStart => exact ⟨0, by omega, rfl, hbw⟩
      case round =>
        obtain ⟨j, hj, rfl, hbz⟩ := hrel
        clear hbw
        by_cases hlt2 : j < m
        · obtain ⟨b2, o2, x, rfl, hl2, hu, hmem, hok2, hya⟩ := (hb.on hbz).mid (by decide) hlt2
          have hk0 : (j : Int) < m := by omega
          have y0 : wr.cell? ⟨b2, o2 + j * 4, none⟩ = some (.string x.user) := hya 0 _ rfl
          obtain ⟨K, s, hgv, hs⟩ : ∃ K s, getV (Dv.find ku a (bs x.user)) = .tuple #[kyA K, .bool s] ∧ (Dv.find ku a (bs x.user)).isSome = s := ⟨_, _, rfl, rfl⟩
          have C1 := rget_any A n c a x.user wr (ha.on hbz) hn
          rw [hgv] at C1
          obtain ⟨e0, h0⟩ : ∃ e, (x.user.toList == u.toList) = e := ⟨_, rfl⟩
          have hS : e0 = false → s = true := fun h => by
            rw [← hs]
            refine H2.out x hmem fun e => ?_
            rw [h, e] at h0
            simp at h0
          have HC := Lib.hid C1; have HS := Lib.hid hS
          clear C1 hgv hs hS hu hok2 hmem
          go_wp2_with fail
          refine HC.out.mono ?_
          rintro e w1 ⟨rfl, bb1⟩
          have y1 : w1.cell? ⟨b2, o2 + j * 4, none⟩ = some (.string x.user) := (range_on hya bb1 hl2) 0 _ rfl
          have hb1 := below_then hbz bb1
          have hlw := bb1.size
          clear bb1 HC y0 hya
          go_upto_region 11 with fail
          have y0 : (w1.alloc (.cells #[.string K.user, .int .i64 K.master, .int .i64 K.pos, .slice K.devices.A K.devices.n K.devices.c] 59)).cell? ⟨b2, o2 + j * 4, none⟩ = some (.string x.user) := (World.cell?_alloc_lt _ _ _ (by show b2 < _; omega)).trans y1
          have hb2 := below_alloc hb1 (.cells #[.string K.user, .int .i64 K.master, .int .i64 K.pos, .slice K.devices.A K.devices.n K.devices.c] 59)
          clear y1 hb1
          generalize w1.alloc (.cells #[.string K.user, .int .i64 K.master, .int .i64 K.pos, .slice K.devices.A K.devices.n K.devices.c] 59) = w2 at y0 hb2 ⊢
          cases e0
          · obtain rfl := HS.out rfl
            go_wp2_with fail
            exact ⟨⟨j + 1, by omega, by go_num, hb2⟩, by simp [intOf]; omega⟩
          · go_wp2_with fail
            exact ⟨⟨j + 1, by omega, by go_num, hb2⟩, by simp [intOf]; omega⟩
        · go_wp2_with fail
          go_ret
          exact ⟨rfl, hbz⟩
end Go.Proofs.Ytbhkgdfmjkblcaa
