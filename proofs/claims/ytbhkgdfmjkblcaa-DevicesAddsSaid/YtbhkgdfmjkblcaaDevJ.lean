/-
  The walks through put and Changed.
-/
import Derived.Test.YtbhkgdfmjkblcaaDevK
namespace Go.Proofs.Ytbhkgdfmjkblcaa
open Go.RowKit
attribute [local go_sem ↓] ex_st_ky
attribute [local go_sem] st_ky_new st_ky

theorem Box.kept {w w' : World} {q : Nat} {cs : List Value} {row : Option Nat} (h : Box w q cs) (hg : w.grownBy w' row) (hne : some q ≠ row) : Box w' q cs :=
  ⟨Nat.lt_of_lt_of_le h.lt hg.size, fun j v hj => (World.cell?_of_block (hg.block q h.lt hne)).trans (h.at_ j v hj)⟩
theorem less_ku {x y : Kys} {e : Bool} (h : Op.bytesLess y.user.toList x.user.toList = e) : decide (ku y < ku x) = e := by rw [← h, bytesLess_lt]; rfl
theorem ky_one (x : Kys) : ∀ u ∈ kyC x, u.oneCell' = true := Rd.kys.one x

set_option maxRecDepth 100000 in
set_option maxHeartbeats 8000000 in
theorem put_any (A : Option Addr) (n c : Nat) (l : List Kys) (x : Kys) (w : World) (hr : Rd.kys.Holds w A n l) (hn : n ≤ 1000000) (hc : n ≤ c) (hcm : c ≤ maxLen) :
    Calls Try.prog 67 #[.slice A n c, kyA x] w fun e w' => ∃ v, e = .returned v ∧ Below w.heap.size w w' ∧ OwnKys w' w.heap.size v (Dv.put ku l x) := by
  unfold maxLen at hcm
  obtain ⟨i0, hi, hz0, hz1, hz2⟩ := info_parts infoKys
  have HI := Lib.hid hi; have HZ0 := Lib.hid hz0; have HZ1 := Lib.hid hz1; have HZ2 := Lib.hid hz2
  clear hi hz0 hz1 hz2
  have HL := Lib.hid hr.length
  obtain ⟨wa, hwa⟩ : ∃ wa : World, wa = w.alloc (.cells #[.string x.user, .int .i64 x.master, .int .i64 x.pos, .slice x.devices.A x.devices.n x.devices.c] 59) := ⟨_, rfl⟩
  have hba : Below w.heap.size w wa := by rw [hwa]; exact below_alloc (Below.refl _ _) _
  have b0 : Box wa w.heap.size (kyC x) := by rw [hwa]; exact Box.new w (kyC x) _
  go_enter Try.func67, Try.ntmps67
  go_upto_region 1 with fail
  rw [← hwa]
  clear hwa
  obtain ⟨g, hg⟩ : ∃ g, w.heap.size = g := ⟨_, rfl⟩
  rw [hg] at b0 ⊢
  have HG := Lib.hid hg
  clear hg
  have hra := hr.on hba
  go_wp2_with fail
  go_loopw [5, 10] (fun out i wr => ∃ k : Nat, k ≤ n ∧ i = .int .i64 k ∧ Below wa.heap.size wa wr ∧ OwnKys wr wa.heap.size out (l.take k) ∧ ∀ j y, l[j]? = some y → j < k → ku y < ku x) (fun _ i _ => n - (intOf i).toNat)
  case atStart => exact ⟨0, by omega, rfl, Below.refl _ _, OwnKys.nil _ _, fun j y _ h => by omega⟩
  case round =>
    obtain ⟨k, hk, rfl, hbw, hown, hless⟩ := hrel
    by_cases hkn : k < n
    · obtain ⟨b, o, y, rfl, hbl, hu, _, _, hxa⟩ := (hra.on hbw).mid (by decide) hkn
      have x0 : wr.cell? ⟨b, o + k * 4, none⟩ = some (.string y.user) := hxa 0 _ rfl
      have x1 : wr.cell? ⟨b, o + k * 4 + 1, none⟩ = some (.int .i64 y.master) := hxa 1 _ rfl
      have x2 : wr.cell? ⟨b, o + k * 4 + 2, none⟩ = some (.int .i64 y.pos) := hxa 2 _ rfl
      have x3 : wr.cell? ⟨b, o + k * 4 + 3, none⟩ = some (.slice y.devices.A y.devices.n y.devices.c) := hxa 3 _ rfl
      have HT : Hid (l.take (k + 1) = l.take k ++ [y]) := Lib.hid (by
        obtain ⟨hk2, rfl⟩ := List.getElem?_eq_some_iff.1 hu
        rw [List.take_succ_eq_append_getElem hk2])
      have hlen : (l.take k).length ≤ k := List.length_take_le _ _
      obtain ⟨f1, h1⟩ : ∃ e, Op.bytesLess y.user.toList x.user.toList = e := ⟨_, rfl⟩
      obtain ⟨f2, h2⟩ : ∃ e, (y.user.toList == x.user.toList) = e := ⟨_, rfl⟩
      have hl1 := less_ku h1
      have hl2 : decide (ku y = ku x) = f2 := ku_eq h2
      clear hxa
      go_upto_region 5 with fail
      have bY := Box.new wr (kyC y) 59
      have hbo := below_alloc (Below.refl wr.heap.size wr) (.cells #[.string y.user, .int .i64 y.master, .int .i64 y.pos, .slice y.devices.A y.devices.n y.devices.c] 59)
      have hown2 := hown.on hbo
      have hqn : some wr.heap.size ≠ u5.ownBlock := fun e => by have := (World.ownsRow.lt hown _ e.symm).2; omega
      change Box (wr.alloc (.cells #[.string y.user, .int .i64 y.master, .int .i64 y.pos, .slice y.devices.A y.devices.n y.devices.c] 59)) _ _ at bY
      generalize wr.alloc (.cells #[.string y.user, .int .i64 y.master, .int .i64 y.pos, .slice y.devices.A y.devices.n y.devices.c] 59) = wx at bY hbo hown2 ⊢
      have hbx := below_then hbw hbo
      obtain ⟨q, hq⟩ : ∃ q, wr.heap.size = q := ⟨_, rfl⟩
      rw [hq] at bY hqn ⊢
      clear hq x0 x1 x2 x3 hbo hown hbw
      have bX := b0.on hbx
      have p0 : wx.cell? ⟨q, 0, none⟩ = some (.string y.user) := bY.at_ 0 _ rfl
      have p1 : wx.cell? ⟨q, 1, none⟩ = some (.int .i64 y.master) := bY.at_ 1 _ rfl
      have p2 : wx.cell? ⟨q, 2, none⟩ = some (.int .i64 y.pos) := bY.at_ 2 _ rfl
      have p3 : wx.cell? ⟨q, 3, none⟩ = some (.slice y.devices.A y.devices.n y.devices.c) := bY.at_ 3 _ rfl
      have k0 : wx.cell? ⟨g, 0, none⟩ = some (.string x.user) := bX.at_ 0 _ rfl
      have k1 : wx.cell? ⟨g, 1, none⟩ = some (.int .i64 x.master) := bX.at_ 1 _ rfl
      have k2 : wx.cell? ⟨g, 2, none⟩ = some (.int .i64 x.pos) := bX.at_ 2 _ rfl
      have k3 : wx.cell? ⟨g, 3, none⟩ = some (.slice x.devices.A x.devices.n x.devices.c) := bX.at_ 3 _ rfl
      have hB3 := hbx.size
      cases f1
      case true =>
        have HLE : Hid (∀ j z, l[j]? = some z → j < k + 1 → ku z < ku x) := Lib.hid fun j z hz hj => by
          rcases Nat.lt_or_ge j k with h3 | h3
          · exact hless j z hz h3
          · obtain rfl : j = k := by omega
            rw [hu] at hz; cases hz; exact of_decide_eq_true hl1
        obtain ⟨L, hL⟩ : ∃ L, l.take k = L := ⟨_, rfl⟩
        rw [hL] at hown2 hlen HT
        clear hless hl1 hl2 h2 hu hL bY bX hqn k1 k2 k3
        go_wp2_with (at_builtin; refine app_rows rfl (.tmp 36) (.tmp 38) 43 rfl wa.heap.size 59 i0 _ 4 56 Try.underlying43 HI.out HZ0.out HZ1.out HZ2.out rfl (by decide) (by decide) _ L.length (Rd.kys.rows L) rfl (owns_on hown2 (below_alloc (Below.refl _ _) _)) _ (some ⟨wx.heap.size, 0, none⟩) 1 1 (kyC y) rfl (ky_new wx y) ?a2 ?a3 ?a4 ?_)
        try case a2 => exact ky_one y
        try case a3 => omega
        try case a4 => first | omega | (simp; omega)
        intro v4 w4 hown4 hg4
        have hb4 : Below wa.heap.size wa w4 := (below_alloc hbx _).grown hg4 (by simp; omega) (fun j hj => (World.ownsRow.lt hown2 _ hj).1)
        have hfin := ky_snoc (x := y) rfl hown4
        rw [← HT.out] at hfin
        clear hown4 hg4 hown2
        go_wp2_with fail
        exact ⟨⟨k + 1, by omega, by go_num, hb4, hfin, HLE.out⟩, by simp [intOf]; omega⟩
      have hnl : ¬ ku y < ku x := of_decide_eq_false hl1
      have hP1 : f2 = true → Dv.put ku l x = l.take k ++ x :: l.drop (k + 1) := fun e => Dv.put_same hless hu (of_decide_eq_true (by rw [hl2, e]))
      have hP2 : f2 = false → Dv.put ku l x = l.take k ++ x :: l.drop k := fun e => Dv.put_new hless (by have := HL.out; omega) (fun z hz => by
        rw [hu] at hz; cases hz
        rcases Nm.lt_or (ku y) (ku x) with h3 | h3 | h3
        · exact absurd h3 hnl
        · exact absurd h3 (of_decide_eq_false (by rw [hl2, e]))
        · exact h3)
      have HP1 := Lib.hid hP1
      have HP2 := Lib.hid hP2
      obtain ⟨L, hL⟩ : ∃ L, l.take k = L := ⟨_, rfl⟩
      rw [hL] at hown2 hlen HP1 HP2
      clear hless hl1 hl2 hu hL hP1 hP2 hnl HT p1 p2 p3
      go_wp2_with (at_builtin; refine app_rows rfl (.tmp 20) (.tmp 22) 43 rfl wa.heap.size 59 i0 _ 4 56 Try.underlying43 HI.out HZ0.out HZ1.out HZ2.out rfl (by decide) (by decide) _ L.length (Rd.kys.rows L) rfl (owns_on hown2 (below_alloc (Below.refl _ _) _)) _ (some ⟨wx.heap.size, 0, none⟩) 1 1 (kyC x) rfl (ky_new wx x) ?b2 ?b3 ?b4 ?_)
      try case b2 => exact ky_one x
      try case b3 => omega
      try case b4 => first | omega | (simp; omega)
      intro v2 w2 own2 hg2
      have hb2 : Below wa.heap.size wa w2 := (below_alloc hbx _).grown hg2 (by simp; omega) (fun j hj => (World.ownsRow.lt hown2 _ hj).1)
      have bY2 := (bY.on (below_alloc (Below.refl _ _) (.cells #[.string x.user, .int .i64 x.master, .int .i64 x.pos, .slice x.devices.A x.devices.n x.devices.c] 59))).kept hg2 hqn
      have bX2 := b0.on hb2
      have p0 : w2.cell? ⟨q, 0, none⟩ = some (.string y.user) := bY2.at_ 0 _ rfl
      have k0 : w2.cell? ⟨g, 0, none⟩ = some (.string x.user) := bX2.at_ 0 _ rfl
      have own3 : w2.ownsRow wa.heap.size 59 4 v2 (L.length + 1) (Rd.kys.rows (L ++ [x])) := by rw [Rd.rows_append, Rd.rows_one]; exact own2
      have hB2 := hb2.size
      clear own2 hg2 bY bX bY2 bX2 hown2 hqn k1 k2 k3 hB3
      have hnc : (n : Int) ≤ c := by omega
      cases f2
      · have hkc : (k : Int) ≤ n := by omega
        have hck : ¬ c = k := by omega
        have hD := ((hra.on hb2).cut (k := k) (cap := c) (by omega) hc).1
        rw [if_neg hck] at hD
        go_wp2_with (at_builtin; refine app_rows rfl (.tmp 31) (.tmp 34) 43 rfl wa.heap.size 59 i0 _ 4 56 Try.underlying43 HI.out HZ0.out HZ1.out HZ2.out rfl (by decide) (by decide) _ (L.length + 1) (Rd.kys.rows (L ++ [x])) rfl own3 _ ((some ⟨b, o, none⟩ : Option Addr).map (·.add (k * 4))) (n - k) (c - k) (Rd.kys.rows (l.drop k)) ?e1 hD ?e2 ?e3 ?e4 ?_)
        try case e1 => rfl
        try case e2 => exact Rd.kys.rows_one' _
        try case e3 => omega
        try case e4 => omega
        intro v4 w4 hown4 hg4
        have hb4 : Below wa.heap.size wa w4 := hb2.grown hg4 hB2 (fun j hj => (World.ownsRow.lt own3 _ hj).1)
        have hfin : OwnKys w4 wa.heap.size v4 (Dv.put ku l x) := by
          rw [HP2.out (by simp), show L ++ x :: l.drop k = (L ++ [x]) ++ l.drop k by simp]
          exact ky_app (by simp) (by rw [List.length_drop]; have := HL.out; omega) hown4
        clear hown4 hg4 own3
        go_wp2_with fail
        try rw [Exit.noGoto_ret]
        go_ret
        exact ⟨_, rfl, below_then hba hb4, World.ownsRow.mono hfin hba.size⟩
      · have hkc : (k : Int) + 1 ≤ n := by omega
        by_cases hck : c = k + 1
        · have hnk : n = k + 1 := by omega
          subst hck
          subst hnk
          go_wp2_with (at_builtin; refine app_rows rfl (.tmp 31) (.tmp 34) 43 rfl wa.heap.size 59 i0 _ 4 56 Try.underlying43 HI.out HZ0.out HZ1.out HZ2.out rfl (by decide) (by decide) _ (L.length + 1) (Rd.kys.rows (L ++ [x])) rfl own3 wa.heap.size (some ⟨b, o, none⟩) 0 0 [] ?d1 ⟨rfl, fun h => absurd h (by omega)⟩ ?d2 ?d3 ?d4 ?_)
          try case d1 => first | rfl | simp
          try case d2 => simp
          try case d3 => omega
          try case d4 => omega
          intro v4 w4 hown4 hg4
          have hb4 : Below wa.heap.size wa w4 := hb2.grown hg4 hB2 (fun j hj => (World.ownsRow.lt own3 _ hj).1)
          have hfin : OwnKys w4 wa.heap.size v4 (Dv.put ku l x) := by
            rw [HP1.out (by simp), List.drop_of_length_le (by have := HL.out; omega)]
            unfold OwnKys
            rw [List.length_append]
            exact hown4
          clear hown4 hg4 own3
          go_wp2_with fail
          try rw [Exit.noGoto_ret]
          go_ret
          exact ⟨_, rfl, below_then hba hb4, World.ownsRow.mono hfin hba.size⟩
        · have hD := ((hra.on hb2).cut (k := k + 1) (cap := c) (by omega) hc).1
          rw [if_neg hck] at hD
          go_wp2_with (at_builtin; refine app_rows rfl (.tmp 31) (.tmp 34) 43 rfl wa.heap.size 59 i0 _ 4 56 Try.underlying43 HI.out HZ0.out HZ1.out HZ2.out rfl (by decide) (by decide) _ (L.length + 1) (Rd.kys.rows (L ++ [x])) rfl own3 _ ((some ⟨b, o, none⟩ : Option Addr).map (·.add ((k + 1) * 4))) (n - (k + 1)) (c - (k + 1)) (Rd.kys.rows (l.drop (k + 1))) ?g1 hD ?g2 ?g3 ?g4 ?_)
          try case g1 => rfl
          try case g2 => exact Rd.kys.rows_one' _
          try case g3 => omega
          try case g4 => omega
          intro v4 w4 hown4 hg4
          have hb4 : Below wa.heap.size wa w4 := hb2.grown hg4 hB2 (fun j hj => (World.ownsRow.lt own3 _ hj).1)
          have hfin : OwnKys w4 wa.heap.size v4 (Dv.put ku l x) := by
            rw [HP1.out (by simp), show L ++ x :: l.drop (k + 1) = (L ++ [x]) ++ l.drop (k + 1) by simp]
            exact ky_app (by simp) (by rw [List.length_drop]; have := HL.out; omega) hown4
          clear hown4 hg4 own3
          go_wp2_with fail
          try rw [Exit.noGoto_ret]
          go_ret
          exact ⟨_, rfl, below_then hba hb4, World.ownsRow.mono hfin hba.size⟩
    · have hlk : l.take k = l := List.take_of_length_le (by have := HL.out; omega)
      rw [hlk] at hown
      have HP : Hid (Dv.put ku l x = l ++ [x]) := Lib.hid (Dv.put_end fun y hy => by
        obtain ⟨j, hj, rfl⟩ := List.mem_iff_getElem.1 hy
        exact hless j _ (List.getElem?_eq_getElem hj) (by have := HL.out; omega))
      have hll : l.length ≤ 1000000 := by have := HL.out; omega
      clear hlk hless
      have bX := b0.on hbw
      have k0 : wr.cell? ⟨g, 0, none⟩ = some (.string x.user) := bX.at_ 0 _ rfl
      have k1 : wr.cell? ⟨g, 1, none⟩ = some (.int .i64 x.master) := bX.at_ 1 _ rfl
      have k2 : wr.cell? ⟨g, 2, none⟩ = some (.int .i64 x.pos) := bX.at_ 2 _ rfl
      have k3 : wr.cell? ⟨g, 3, none⟩ = some (.slice x.devices.A x.devices.n x.devices.c) := bX.at_ 3 _ rfl
      have hB3 := hbw.size
      clear bX
      go_wp2_with (at_builtin; refine app_rows rfl (.tmp 41) (.tmp 43) 43 rfl wa.heap.size 59 i0 _ 4 56 Try.underlying43 HI.out HZ0.out HZ1.out HZ2.out rfl (by decide) (by decide) _ l.length (Rd.kys.rows l) rfl (owns_on hown (below_alloc (Below.refl _ _) _)) _ (some ⟨wr.heap.size, 0, none⟩) 1 1 (kyC x) rfl (ky_new wr x) ?f2 ?f3 ?f4 ?_)
      try case f2 => exact ky_one x
      try case f3 => omega
      try case f4 => first | omega | (simp; omega)
      intro v4 w4 hown4 hg4
      have hb4 : Below wa.heap.size wa w4 := (below_alloc hbw _).grown hg4 (by simp; omega) (fun j hj => (World.ownsRow.lt hown _ hj).1)
      have hfin := ky_snoc (x := x) rfl hown4
      rw [← HP.out] at hfin
      clear hown4 hg4 hown
      go_wp2_with fail
      go_ret
      exact ⟨_, rfl, below_then hba hb4, World.ownsRow.mono hfin hba.size⟩
end Go.Proofs.Ytbhkgdfmjkblcaa
