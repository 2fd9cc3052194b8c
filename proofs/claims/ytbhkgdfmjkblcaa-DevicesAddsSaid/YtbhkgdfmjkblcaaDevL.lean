/-
  The walks through isDevice, from, index and listed.
-/
import Derived.Test.YtbhkgdfmjkblcaaDevW
import Derived.Test.YtbhkgdfmjkblcaaShelf
namespace Go.Proofs.Ytbhkgdfmjkblcaa
open Go.RowKit Go.Maps
attribute [local go_sem ↓] ex_st_dv
attribute [local go_sem] st_dv_new

theorem run_makeMap_none {P : Program} (t k e : TypeId) (_ : P.underlying t = some (.map k e)) (w : World) :
    (Instr.makeMap t none).run P w = .ok (.map (some w.heap.size)) (w.alloc (.map #[] 0)) := by
  simp [Instr.makeMap]
theorem isDev_any (s : ByteArray) (w : World) (hs : s.size ≤ maxLen) : Calls Try.prog 60 #[.string s] w (Same w (.bool (Dv.devB s))) := by
  unfold maxLen at hs
  obtain ⟨e1, h1⟩ : ∃ e, decide ((1 : Int) ≤ (s.size : Nat)) = e := ⟨_, rfl⟩
  obtain ⟨e2, h2⟩ : ∃ e, decide ((s.size : Nat) ≤ (32 : Int)) = e := ⟨_, rfl⟩
  have HE : Hid (Dv.devB s = (e1 && e2)) := Lib.hid (by
    subst h1 h2
    unfold Dv.devB
    rw [Bool.eq_iff_iff]; simp; omega)
  go_enter Try.func60, Try.ntmps60
  cases e1 <;> cases e2
  all_goals
    go_wp2_with fail
    go_ret
    exact ⟨ret_bool (by rw [HE.out]; rfl), rfl⟩
theorem from_any (n m : Int) (w : World) : Calls Try.prog 59 #[.int .i64 n, .int .i64 m] w (Same w (.bool (Dv.inR n m))) := by
  obtain ⟨e1, h1⟩ : ∃ e, decide (m ≤ n) = e := ⟨_, rfl⟩
  obtain ⟨e2, h2⟩ : ∃ e, decide (n ≤ 1000000000000) = e := ⟨_, rfl⟩
  have HE : Hid (Dv.inR n m = (e1 && e2)) := Lib.hid (by subst h1 h2; rfl)
  go_enter Try.func59, Try.ntmps59
  cases e1 <;> cases e2
  all_goals
    go_wp2_with fail
    go_ret
    exact ⟨ret_bool (by rw [HE.out]; rfl), rfl⟩

theorem put_prefix {l : List Dvc} (hi : Dv.Inc Dv.dk l) {k : Nat} {x : Dvc} (hx : l[k]? = some x) : Dv.put Dv.dk (l.take k) x = l.take (k + 1) := by
  obtain ⟨hk, rfl⟩ := List.getElem?_eq_some_iff.1 hx
  rw [Dv.put_end, List.take_succ_eq_append_getElem hk]
  intro y hy
  obtain ⟨j, hj, rfl⟩ := List.mem_iff_getElem.1 hy
  simp only [List.length_take] at hj
  rw [List.getElem_take]
  exact hi.at (List.getElem?_eq_getElem (by omega)) hx (by omega)
theorem inc_take {l : List Dvc} (hi : Dv.Inc Dv.dk l) (k : Nat) : Dv.Inc Dv.dk (l.take k) := List.Pairwise.sublist (List.take_sublist k l) hi

set_option maxRecDepth 100000 in
set_option maxHeartbeats 4000000 in
theorem index_any (x : Kys) (w : World) (hr : Rd.dvc.Holds w x.devices.A x.devices.n x.devices.l) (hi : Dv.Inc Dv.dk x.devices.l) (hn : x.devices.n ≤ 1000000) :
    Calls Try.prog 65 #[kyA x] w fun e w' => ∃ b, e = .returned (.map (some b)) ∧ Below w.heap.size w w' ∧ w.heap.size ≤ b ∧ DMap w' b x.devices.n x.devices.l := by
  obtain ⟨xu, xm, xp, A, n, c, l⟩ := x
  change Rd.dvc.Holds w A n l at hr
  change Dv.Inc Dv.dk l at hi
  change n ≤ 1000000 at hn
  show Calls _ _ #[.agg #[.string xu, .int .i64 xm, .int .i64 xp, .slice A n c]] w fun e w' => ∃ b, e = .returned (.map (some b)) ∧ Below w.heap.size w w' ∧ w.heap.size ≤ b ∧ DMap w' b n l
  have hmm := run_makeMap_none (P := Try.prog) 73 9 47 Try.underlying73
  have HL := Lib.hid hr.length
  have HI := Lib.hid hi
  clear hi
  go_enter Try.func65, Try.ntmps65
  go_upto_region 2 with fail
  obtain ⟨wa, hwa⟩ : ∃ wa : World, wa = (w.alloc (.cells #[.string xu, .int .i64 xm, .int .i64 xp, .slice A n c] 59)).alloc (.map #[] 0) := ⟨_, rfl⟩
  rw [← hwa]
  have ba : Below w.heap.size w wa := by rw [hwa]; exact below_alloc (below_alloc (Below.refl _ _) _) _
  have bK : Box wa w.heap.size [.string xu, .int .i64 xm, .int .i64 xp, .slice A n c] := by rw [hwa]; exact (Box.new w [.string xu, .int .i64 xm, .int .i64 xp, .slice A n c] _).on (below_alloc (Below.refl _ _) _)
  have k3 : wa.cell? ⟨w.heap.size, 3, none⟩ = some (.slice A n c) := bK.at_ 3 _ rfl
  obtain ⟨m0, hm0⟩ : ∃ m0, w.heap.size + 1 = m0 := ⟨_, rfl⟩
  have hD0 : DMap wa m0 0 [] := by
    rw [hwa, ← hm0]
    have := DMap.made (w.alloc (.cells #[.string xu, .int .i64 xm, .int .i64 xp, .slice A n c] 59))
    simpa using this
  have hmw : w.heap.size ≤ m0 := by omega
  try rw [hm0]
  clear hwa bK hmm
  go_wp2_with fail
  go_loopw [10] (fun i wr => ∃ k : Nat, k ≤ n ∧ i = .int .i64 k ∧ Below w.heap.size w wr ∧ DMap wr m0 k (l.take k)) (fun i _ => n - (intOf i).toNat)
  case atStart => exact ⟨0, by omega, rfl, ba, by rw [List.take_zero]; exact hD0⟩
  case round =>
    obtain ⟨k, hk, rfl, hbw, hD⟩ := hrel
    by_cases hkn : k < n
    · obtain ⟨b, o, x, rfl, hbl, hu, _, hok, hxa⟩ := (hr.on hbw).mid (by decide) hkn
      have x0 : wr.cell? ⟨b, o + k * 3, none⟩ = some (.string x.id) := hxa 0 _ rfl
      have x1 : wr.cell? ⟨b, o + k * 3 + 1, none⟩ = some (.int .i64 x.key) := hxa 1 _ rfl
      have x2 : wr.cell? ⟨b, o + k * 3 + 2, none⟩ = some (.bool x.signed) := hxa 2 _ rfl
      have HP := Lib.hid (put_prefix HI.out hu)
      have hxs : x.id.size ≤ maxLen := hok.1
      clear hxa hu hok
      go_upto_region 5 with fail
      have bx := Box.new wr [.string x.id, .int .i64 x.key, .bool x.signed] 47
      have hbo := below_alloc (Below.refl wr.heap.size wr) (.cells #[.string x.id, .int .i64 x.key, .bool x.signed] 47)
      have hD2 := hD.on hbo
      change Box (wr.alloc (.cells #[.string x.id, .int .i64 x.key, .bool x.signed] 47)) _ _ at bx
      generalize wr.alloc (.cells #[.string x.id, .int .i64 x.key, .bool x.signed] 47) = wx at bx hbo hD2 ⊢
      have hbx := below_then hbw hbo
      obtain ⟨q, hq⟩ : ∃ q, wr.heap.size = q := ⟨_, rfl⟩
      rw [hq] at bx ⊢
      clear hq x0 x1 x2 hbo hD hbw
      have p0 : wx.cell? ⟨q, 0, none⟩ = some (.string x.id) := bx.at_ 0 _ rfl
      have p1 : wx.cell? ⟨q, 1, none⟩ = some (.int .i64 x.key) := bx.at_ 1 _ rfl
      have p2 : wx.cell? ⟨q, 2, none⟩ = some (.bool x.signed) := bx.at_ 2 _ rfl
      obtain ⟨w1, hput, hD3, hg1⟩ := hD2.put (inc_take HI.out k) x hxs (by unfold maxLen; omega)
      rw [HP.out] at hD3
      have HF : Hid (Below w.heap.size w w1) := Lib.hid (hbx.grown hg1 hbx.size (fun j hj => by cases hj; exact hmw))
      clear hD2 hg1 bx hbx
      go_wp2_with fail
      exact ⟨⟨k + 1, by omega, by go_num, HF.out, hD3⟩, by simp [intOf]; omega⟩
    · have hlk : l.take k = l := List.take_of_length_le (by have := HL.out; omega)
      rw [hlk] at hD
      have hkn2 : k = n := by omega
      subst hkn2
      clear hlk
      go_wp2_with fail
      go_ret
      exact ⟨m0, rfl, hbw, hmw, hD⟩

set_option maxRecDepth 100000 in
set_option maxHeartbeats 4000000 in
theorem listed_any (b n : Nat) (S : List Dvc) (w : World) (hD : DMap w b n S) (hi : Dv.Inc Dv.dk S) (hok : DvOk S) (hn : n ≤ 1000000) (hSl : S.length ≤ 1000000) :
    Calls Try.prog 66 #[.map (some b)] w fun e w' => ∃ v, e = .returned v ∧ Below w.heap.size w w' ∧ OwnDvs w' w.heap.size v S := by
  obtain ⟨i0, hi0, hz0, hz1, hz2⟩ := info_parts infoStr
  obtain ⟨j0, hj0, hy0, hy1, hy2⟩ := info_parts infoDvc
  have HI := Lib.hid hj0; have HZ0 := Lib.hid hy0; have HZ1 := Lib.hid hy1; have HZ2 := Lib.hid hy2
  clear hj0 hy0 hy1 hy2
  have HD := Lib.hid hD
  have hbl := hD.lt
  obtain ⟨D, hown, hsays⟩ := hD
  have hsz := hown.size_le
  have HS := Lib.hid hsays
  have HINC := Lib.hid hi
  have HOK := Lib.hid hok
  clear hsays hi hok
  go_enter Try.func66, Try.ntmps66
  go_wp2_with (at_range; refine wpList_range_own _ rfl _ 73 rfl 9 47 keyStr Try.underlying73 _ b n D rfl hown ?_; intro w0 hrg0 hg0 hs0)
  go_frame
  go_loopw [3] (fun v wr => ∃ (left : Lit → Bool) (cnt : Nat) (ss : List (List UInt8)), wr.ranges Try.prog 9 devR b w.heap.size n D left cnt ∧ ss.length + cnt ≤ n ∧ OwnStrs wr w.heap.size v ss ∧ Collected D left ss ∧ Below w.heap.size w wr) (fun _ wr => wr.rangeLeft b w.heap.size)
  case atStart =>
    exact ⟨_, _, [], hrg0, by simpa using hsz, OwnStrs.nil _ _, Collected.start D, (Below.refl _ _).grown hg0 (Nat.le_refl _) (fun j hj => by cases hj)⟩
  case round =>
    obtain ⟨left, cnt, ss, hrg, hcs, hrow, hC, hnx⟩ := hrel
    clear hrg0 hg0 hs0
    go_wp2_with (at_next; refine wpList_next_ranges _ rfl _ rfl 9 keyStr devR encStr (fun d : Dvc => devA d) (fun key kl hk => by obtain ⟨x, hx, _⟩ := Maps.keyOf_str Try.underlying9 hk; exact ⟨x, hx⟩) (fun v y hv => by obtain ⟨c, rfl, _⟩ := devR_inv hv; exact ⟨c, rfl⟩) b w.heap.size n _ _ _ rfl hrg ?_ ?_)
    · intro hc0 hl0
      have HK := Lib.hid (HS.out.keys HINC.out hC hl0)
      have hsl : ss.length ≤ 1000000 := by omega
      clear hrg hcs hC
      go_wp2_with fail
      refine (sort_any w.heap.size _ ss wr hrow hsl).mono ?_
      rintro e w1 ⟨rfl, own1, g1⟩
      have b1 : Below w.heap.size w w1 := hnx.grown g1 hnx.size (fun j hj => (World.ownsRow.lt hrow _ hj).1)
      rw [HK.out] at own1
      have hsS : ss.length = S.length := by
        have := congrArg List.length HK.out
        rw [(Nm.sorted_perm ss).length_eq] at this
        simpa using this
      have own2 : OwnStrs w1 w.heap.size u3 (S.map Dv.dk) := by unfold OwnStrs; rw [List.length_map, ← hsS]; exact own1
      obtain ⟨A3, c3, hv3, h3, _⟩ := own2.form2
      rw [List.length_map] at hv3 h3
      subst hv3
      clear own1 own2 g1 hrow HK hnx hsS hsl
      go_wp2_with fail
      go_loopw [5, 22] (fun out i wr => ∃ k : Nat, k ≤ S.length ∧ i = .int .i64 k ∧ Below w1.heap.size w1 wr ∧ OwnDvs wr w1.heap.size out (S.take k)) (fun _ i _ => S.length - (intOf i).toNat)
      case atStart => exact ⟨0, by omega, rfl, Below.refl _ _, OwnDvs.nil _ _⟩
      case round =>
        obtain ⟨k, hk, rfl, hb1, hown⟩ := hrel
        have hbw := below_then b1 hb1
        by_cases hkn : k < S.length
        · obtain ⟨ad, z, rfl, hadb, hu, hc⟩ := (h3.on hb1).at_ hkn
          obtain ⟨x, hx⟩ : ∃ x, S[k]? = some x := ⟨_, List.getElem?_eq_getElem hkn⟩
          obtain rfl : x.id = z := by
            simp only [List.getElem?_map, hx, Option.map_some, Option.some.injEq] at hu
            rw [← hu]
            show x.id = mk (bs x.id)
            rw [mk_bs]
          have hmem := List.mem_of_getElem? hx
          have hxs := (HOK.out x hmem).1
          have hlook := (HD.out.on hbw).look x.id hxs
          have hf : Dv.find Dv.dk S (bs x.id) = some x := (Dv.find_some_iff HINC.out).2 ⟨hmem, rfl⟩
          rw [hf] at hlook
          simp only [Option.getD_some] at hlook
          have HX : Hid (DvOk [x]) := Lib.hid (HOK.out.sub fun y hy => by simp at hy; subst hy; exact hmem)
          have HT : Hid (S.take (k + 1) = S.take k ++ [x]) := Lib.hid (by
            obtain ⟨hk2, rfl⟩ := List.getElem?_eq_some_iff.1 hx
            rw [List.take_succ_eq_append_getElem hk2])
          have hlen : (S.take k).length ≤ k := List.length_take_le _ _
          generalize S.take k = L at hown HT hlen
          have hB := hb1.size
          clear hu hx hf hmem hbw
          go_wp2_with (at_builtin; refine app_rows rfl (.tmp 26) (.tmp 30) 57 rfl w1.heap.size 47 j0 _ 3 32 Try.underlying57 HI.out HZ0.out HZ1.out HZ2.out rfl (by decide) (by decide) _ L.length (Rd.dvc.rows L) rfl (owns_on hown (below_alloc (Below.refl _ _) _)) _ (some ⟨wr.heap.size, 0, none⟩) 1 1 [.string x.id, .int .i64 x.key, .bool x.signed] rfl (dv_new HX.out) ?a2 ?a3 ?a4 ?_)
          case a2 => exact Rd.dvc.one x
          case a3 => omega
          case a4 => first | omega | (simp; omega)
          intro v4 w4 hown4 hg4
          have hb5 : Below w1.heap.size w1 w4 := (below_alloc hb1 _).grown hg4 (by simp; omega) (fun j hj => (World.ownsRow.lt hown _ hj).1)
          have hfin := dv_snoc (x := x) rfl hown4
          rw [← HT.out] at hfin
          clear hown4 hg4 hown hlook
          go_wp2_with fail
          exact ⟨⟨k + 1, by omega, by go_num, hb5, hfin⟩, by simp [intOf]; omega⟩
        · have hlk : S.take k = S := List.take_of_length_le (by omega)
          rw [hlk] at hown
          clear hlk
          go_wp2_with fail
          go_ret
          exact ⟨_, rfl, hbw, World.ownsRow.mono hown b1.size⟩
    · intro x c kl yd yp w2 cnt2 hkey hlk hv hat hrg2 hlt hg2 hs2 hen
      obtain ⟨x', ex, rfl, _⟩ := Maps.keyOf_str Try.underlying9 hkey
      obtain rfl : x = x' := encStr_inj ex
      have hrow2 : OwnStrs w2 w.heap.size u3 ss := World.ownsRow.kept hrow hg2 (Or.inr (row_ne_iter hrow hrg).symm)
      have b2 : Below w.heap.size w w2 := hnx.grown hg2 hnx.size (fun j hj => by cases hj; exact Nat.le_refl _)
      have hB2 := b2.size
      clear hs2
      go_wp2_with (at_builtin; refine wpList_append_own _ rfl _ _ 36 rfl w.heap.size 9 i0 (.string .empty) 1 16 Try.underlying36 hi0 hz0 hz1 hz2 rfl (by decide) _ _ _ rfl (World.ownsRow.alloc hrow2 _) ⟨w2.heap.size, 0, none⟩ 1 1 [encStr x] rfl rfl ?c1 ?c2 ?c3 ?c4 ?c5 ?_)
      try case c1 => exact cell_one _ _ _
      case c2 => simp [Value.oneCell']
      case c3 => unfold maxLen; omega
      case c4 => omega
      case c5 => first | omega | (simp; omega)
      intro v' w3 hown' hg3 _
      have hrg3 := (hrg2.alloc (.cells #[encStr x] 9)).kept hg3 (row_ne_low hrow2 hbl) (row_ne_iter hrow2 hrg2)
      have hfin : OwnStrs w3 w.heap.size v' (ss ++ [x]) := by unfold OwnStrs; simpa using hown'
      have b3 : Below w.heap.size w w3 := (b2.alloc (by omega) _).grown hg3 (by simp; omega) (fun j hj => (World.ownsRow.lt hrow2 _ hj).1)
      have HC := Lib.hid (hC.step hlk hat)
      have HM : Hid (w3.rangeLeft b w.heap.size < wr.rangeLeft b w.heap.size) := Lib.hid (by rw [hrg3.left_eq, hrg.left_eq]; exact hlt)
      clear hown' hg3 hg2 hrow2 hrow hrg hrg2 hC hlk hat hv hkey hen
      go_wp2_with fail
      exact ⟨⟨_, cnt2, ss ++ [x], hrg3, by simp; omega, hfin, HC.out, b3⟩, HM.out⟩
end Go.Proofs.Ytbhkgdfmjkblcaa
