/-
  The walks through the reference's With and put.
-/
import Derived.Test.YtbhkgdfmjkblcaaDevJ
import Derived.Deep.QuietTactic
namespace Go.Proofs.Ytbhkgdfmjkblcaa
open Go.RowKit
attribute [local go_sem ↓] ex_st_ky ex_st_dv
attribute [local go_sem] st_ky_new st_ky st_dv_new st_dv

theorem dv_new' (W : World) (x : Dvc) : Reads (W.alloc (.cells #[.string x.id, .int .i64 x.key, .bool x.signed] 47)) (W.alloc (.cells #[.string x.id, .int .i64 x.key, .bool x.signed] 47)).heap.size 3 (some ⟨W.heap.size, 0, none⟩) 1 [.string x.id, .int .i64 x.key, .bool x.signed] := by
  refine ⟨rfl, fun _ => ⟨_, rfl, by simp, fun j u hj => ?_⟩⟩
  have : (⟨W.heap.size, 0, none⟩ : Addr).add j = ⟨W.heap.size, j, none⟩ := by unfold Addr.add; split <;> simp_all
  rw [this, World.cell?_alloc_new]
  simpa using hj
theorem dv_app {w : World} {B n m : Nat} {v : Value} {l l2 : List Dvc} (hn : n = l.length) (hm : m = l2.length) (h : w.ownsRow B 47 3 v (n + m) (Rd.dvc.rows l ++ Rd.dvc.rows l2)) : OwnDvs w B v (l ++ l2) := by
  unfold OwnDvs
  rw [Rd.rows_append, List.length_append]
  subst hn hm
  exact h

set_option maxRecDepth 100000 in
set_option maxHeartbeats 8000000 in
theorem rwith_any (A : Option Addr) (n c : Nat) (l : List Kys) (x : Kys) (w : World) (hr : Rd.kys.Holds w A n l) (hn : n ≤ 1000000) (hc : n ≤ c) (hcm : c ≤ maxLen) :
    Calls Try.prog 71 #[.slice A n c, kyA x] w fun e w' => ∃ v, e = .returned v ∧ Below w.heap.size w w' ∧ OwnKys w' w.heap.size v (Dv.put ku l x) := by
  unfold maxLen at hcm
  obtain ⟨i0, hi, hz0, hz1, hz2⟩ := info_parts infoKys
  have HI := Lib.hid hi; have HZ0 := Lib.hid hz0; have HZ1 := Lib.hid hz1; have HZ2 := Lib.hid hz2
  clear hi hz0 hz1 hz2
  have HL := Lib.hid hr.length
  obtain ⟨wa, hwa⟩ : ∃ wa : World, wa = w.alloc (.cells #[.string x.user, .int .i64 x.master, .int .i64 x.pos, .slice x.devices.A x.devices.n x.devices.c] 59) := ⟨_, rfl⟩
  have hba : Below w.heap.size w wa := by rw [hwa]; exact below_alloc (Below.refl _ _) _
  have b0 : Box wa w.heap.size (kyC x) := by rw [hwa]; exact Box.new w (kyC x) _
  go_enter Try.func71, Try.ntmps71
  go_upto_region 1 with fail
  rw [← hwa]
  clear hwa
  obtain ⟨g, hg⟩ : ∃ g, w.heap.size = g := ⟨_, rfl⟩
  rw [hg] at b0 ⊢
  have HG := Lib.hid hg
  clear hg
  have hra := hr.on hba
  have q0 : wa.cell? ⟨g, 0, none⟩ = some (.string x.user) := b0.at_ 0 _ rfl
  go_wp2_with fail
  go_loopw [5] (fun i wq => ∃ kn t : Nat, i = .int .i64 kn ∧ kn ≤ n ∧ (∀ j y, l[j]? = some y → j < kn → ku y < ku x) ∧ Hid (wq = wa.drewN t)) (fun i _ => n - (intOf i).toNat)
  case atStart => exact ⟨0, 0, rfl, by omega, fun j y _ h => by omega, rfl⟩
  case round =>
    obtain ⟨kn, t, rfl, hkn, hless, ht⟩ := hrel
    obtain rfl := ht.out
    clear ht
    have q1 : (wa.drewN t).cell? ⟨g, 0, none⟩ = some (.string x.user) := q0
    by_cases hlt : kn < n
    · obtain ⟨b2, o2, y, rfl, hbl2, hy, _, _, hya⟩ := hra.mid (by decide) hlt
      have z0 : wa.cell? ⟨b2, o2 + kn * 4, none⟩ = some (.string y.user) := hya 0 _ rfl
      have z1 : (wa.drewN t).cell? ⟨b2, o2 + kn * 4, none⟩ = some (.string y.user) := z0
      have hk0 : (kn : Int) < n := by omega
      obtain ⟨f1, h1⟩ : ∃ e, Op.bytesLess y.user.toList x.user.toList = e := ⟨_, rfl⟩
      obtain ⟨f2, h2⟩ : ∃ e, (y.user.toList == x.user.toList) = e := ⟨_, rfl⟩
      have hl1 : decide (ku y < ku x) = f1 := by rw [← h1, bytesLess_lt]; rfl
      have hl2 : decide (ku y = ku x) = f2 := by rw [← h2, streq]; rfl
      cases f1
      case true =>
        have HLE : Hid (∀ j z, l[j]? = some z → j < kn + 1 → ku z < ku x) := Lib.hid fun j z hz hj => by
          rcases Nat.lt_or_ge j kn with h3 | h3
          · exact hless j z hz h3
          · obtain rfl : j = kn := by omega
            rw [hy] at hz; cases hz; exact of_decide_eq_true hl1
        clear hya hl1 hl2 hy hless h2
        go_wp2_with fail
        go_quiet (fail)
        go_wp2_with fail
        exact ⟨⟨kn + 1, t + nq, by go_num, by omega, HLE.out, by show _ = _; simp⟩, by simp [intOf]; omega⟩
      have hnl : ¬ ku y < ku x := of_decide_eq_false hl1
      cases f2
      · have HP : Hid (Dv.put ku l x = l.take kn ++ x :: l.drop kn) := Lib.hid (Dv.put_new hless (by have := HL.out; omega) (fun z hz => by
          rw [hy] at hz; cases hz
          rcases Nm.lt_or (ku y) (ku x) with h3 | h3 | h3
          · exact absurd h3 hnl
          · exact absurd h3 (of_decide_eq_false hl2)
          · exact h3))
        clear hl1 hl2 hy hless hnl
        go_wp2_with fail
        go_quiet (fail)
        clear z1 z0 q1
        have hbW : Below wa.heap.size wa ((wa.drewN t).drewN nq) := below_drewN (below_drewN (Below.refl _ _) _) _
        generalize (wa.drewN t).drewN nq = W at hbW ⊢
        have hkc : (kn : Int) ≤ n := by omega
        have hnc : (n : Int) ≤ c := by omega
        have hBW := hbW.size
        have hF := ((hra.on hbW).front (k := kn) (by omega)).1
        have own0 : (W.alloc (.cells #[] 59)).ownsRow wa.heap.size 59 4 (.slice (some ⟨W.heap.size, 0, none⟩) 0 0) 0 [] := World.ownsRow_made W #[] 0 hBW (by unfold maxLen; omega) rfl
        go_wp2_with (at_builtin; refine app_rows rfl (.tmp 23) (.tmp 26) 43 rfl wa.heap.size 59 i0 _ 4 56 Try.underlying43 HI.out HZ0.out HZ1.out HZ2.out rfl (by decide) (by decide) _ 0 [] rfl own0 W.heap.size (some ⟨b2, o2, none⟩) kn c (Rd.kys.rows (l.take kn)) ?hq1a ?hq1b ?hq1c ?hq1d ?hq1e ?_)
        try case hq1a => first | rfl | (simp only [Option.map_some, Addr.add_mid]; rfl) | (simp only [Option.map_some, Option.map_none, Nat.sub_self]; rfl)
        try case hq1b => exact Reads.below hF (below_alloc (Below.refl _ _) _)
        try case hq1c => exact Rd.kys.rows_one' _
        try case hq1d => omega
        try case hq1e => first | omega | (simp; omega)
        intro v1 w1 own1 g1
        have hb1 : Below wa.heap.size wa w1 := (below_alloc hbW _).grown g1 (by simp; omega) (fun j hj => (World.ownsRow.lt own0 _ hj).1)
        have own1' : w1.ownsRow wa.heap.size 59 4 v1 kn (Rd.kys.rows (l.take kn)) := by simpa using own1
        have bX := b0.on hb1
        have k0 : w1.cell? ⟨g, 0, none⟩ = some (.string x.user) := bX.at_ 0 _ rfl
        have k1 : w1.cell? ⟨g, 1, none⟩ = some (.int .i64 x.master) := bX.at_ 1 _ rfl
        have k2 : w1.cell? ⟨g, 2, none⟩ = some (.int .i64 x.pos) := bX.at_ 2 _ rfl
        have k3 : w1.cell? ⟨g, 3, none⟩ = some (.slice x.devices.A x.devices.n x.devices.c) := bX.at_ 3 _ rfl
        have hB1 := hb1.size
        clear own1 g1 own0 hF bX hbW hBW
        go_wp2_with (at_builtin; refine app_rows rfl (.tmp 28) (.tmp 30) 43 rfl wa.heap.size 59 i0 _ 4 56 Try.underlying43 HI.out HZ0.out HZ1.out HZ2.out rfl (by decide) (by decide) _ kn (Rd.kys.rows (l.take kn)) rfl (owns_on own1' (below_alloc (Below.refl _ _) _)) _ (some ⟨w1.heap.size, 0, none⟩) 1 1 (kyC x) rfl (ky_new w1 x) ?hq2a ?hq2b ?hq2c ?_)
        try case hq2a => exact Rd.kys.one x
        try case hq2b => omega
        try case hq2c => first | omega | (simp; omega)
        intro v2 w2 own2 g2
        have hb2 : Below wa.heap.size wa w2 := (below_alloc hb1 _).grown g2 (by simp; omega) (fun j hj => (World.ownsRow.lt own1' _ hj).1)
        have own2' : w2.ownsRow wa.heap.size 59 4 v2 (kn + 1) (Rd.kys.rows (l.take kn ++ [x])) := by rw [Rd.rows_append, Rd.rows_one]; exact own2
        have r0 : w2.cell? ⟨g, 0, none⟩ = some (.string x.user) := (b0.on hb2).at_ 0 _ rfl
        have s0 : w2.cell? ⟨b2, o2 + kn * 4, none⟩ = some (.string y.user) := (range_on hya hb2 hbl2) 0 _ rfl
        clear own2 g2 own1' k0 k1 k2 k3
        go_wp2_with fail
        go_quiet (fail)
        have own3 : (w2.drewN nq).ownsRow wa.heap.size 59 4 v2 (kn + 1) (Rd.kys.rows (l.take kn ++ [x])) := own2'
        have hb3 : Below wa.heap.size wa (w2.drewN nq) := below_drewN hb2 _
        clear own2' hb2 r0 s0
        generalize w2.drewN nq = w3 at own3 hb3 ⊢
        have hB3 := hb3.size
        have hck : ¬ c = kn := by omega
        have hD := ((hra.on hb3).cut (k := kn) (cap := c) (by omega) hc).1
        rw [if_neg hck] at hD
        go_wp2_with (at_builtin; refine app_rows rfl (.tmp 48) (.tmp 51) 43 rfl wa.heap.size 59 i0 _ 4 56 Try.underlying43 HI.out HZ0.out HZ1.out HZ2.out rfl (by decide) (by decide) _ (kn + 1) (Rd.kys.rows (l.take kn ++ [x])) rfl own3 _ (((some ⟨b2, o2, none⟩) : Option Addr).map (·.add ((kn) * 4))) (n - (kn)) (c - (kn)) (Rd.kys.rows (l.drop (kn))) ?hq3a hD ?hq3b ?hq3c ?hq3d ?_)
        try case hq3a => first | rfl | (simp only [Option.map_some, Addr.add_mid]; rfl) | (simp only [Option.map_some, Option.map_none, Nat.sub_self]; rfl)
        try case hq3b => exact Rd.kys.rows_one' _
        try case hq3c => omega
        try case hq3d => omega
        intro v4 w4 hown4 hg4
        have hb4 : Below wa.heap.size wa w4 := hb3.grown hg4 hB3 (fun j hj => (World.ownsRow.lt own3 _ hj).1)
        have hfin : OwnKys w4 wa.heap.size v4 (Dv.put ku l x) := by
          rw [HP.out, show l.take kn ++ x :: l.drop (kn) = (l.take kn ++ [x]) ++ l.drop (kn) by simp]
          exact ky_app (by rw [List.length_append, List.length_take]; have := HL.out; simp; omega) (by rw [List.length_drop]; have := HL.out; omega) hown4
        clear hown4 hg4 own3
        go_wp2_with fail
        try rw [Exit.noGoto_ret]
        go_ret
        exact ⟨_, rfl, below_then hba hb4, World.ownsRow.mono hfin hba.size⟩
      · have HP : Hid (Dv.put ku l x = l.take kn ++ x :: l.drop (kn + 1)) := Lib.hid (Dv.put_same hless hy (of_decide_eq_true hl2))
        clear hl1 hl2 hy hless hnl
        go_wp2_with fail
        go_quiet (fail)
        clear z1 z0 q1
        have hbW : Below wa.heap.size wa ((wa.drewN t).drewN nq) := below_drewN (below_drewN (Below.refl _ _) _) _
        generalize (wa.drewN t).drewN nq = W at hbW ⊢
        have hkc : (kn : Int) ≤ n := by omega
        have hnc : (n : Int) ≤ c := by omega
        have hBW := hbW.size
        have hF := ((hra.on hbW).front (k := kn) (by omega)).1
        have own0 : (W.alloc (.cells #[] 59)).ownsRow wa.heap.size 59 4 (.slice (some ⟨W.heap.size, 0, none⟩) 0 0) 0 [] := World.ownsRow_made W #[] 0 hBW (by unfold maxLen; omega) rfl
        go_wp2_with (at_builtin; refine app_rows rfl (.tmp 23) (.tmp 26) 43 rfl wa.heap.size 59 i0 _ 4 56 Try.underlying43 HI.out HZ0.out HZ1.out HZ2.out rfl (by decide) (by decide) _ 0 [] rfl own0 W.heap.size (some ⟨b2, o2, none⟩) kn c (Rd.kys.rows (l.take kn)) ?hq4a ?hq4b ?hq4c ?hq4d ?hq4e ?_)
        try case hq4a => first | rfl | (simp only [Option.map_some, Addr.add_mid]; rfl) | (simp only [Option.map_some, Option.map_none, Nat.sub_self]; rfl)
        try case hq4b => exact Reads.below hF (below_alloc (Below.refl _ _) _)
        try case hq4c => exact Rd.kys.rows_one' _
        try case hq4d => omega
        try case hq4e => first | omega | (simp; omega)
        intro v1 w1 own1 g1
        have hb1 : Below wa.heap.size wa w1 := (below_alloc hbW _).grown g1 (by simp; omega) (fun j hj => (World.ownsRow.lt own0 _ hj).1)
        have own1' : w1.ownsRow wa.heap.size 59 4 v1 kn (Rd.kys.rows (l.take kn)) := by simpa using own1
        have bX := b0.on hb1
        have k0 : w1.cell? ⟨g, 0, none⟩ = some (.string x.user) := bX.at_ 0 _ rfl
        have k1 : w1.cell? ⟨g, 1, none⟩ = some (.int .i64 x.master) := bX.at_ 1 _ rfl
        have k2 : w1.cell? ⟨g, 2, none⟩ = some (.int .i64 x.pos) := bX.at_ 2 _ rfl
        have k3 : w1.cell? ⟨g, 3, none⟩ = some (.slice x.devices.A x.devices.n x.devices.c) := bX.at_ 3 _ rfl
        have hB1 := hb1.size
        clear own1 g1 own0 hF bX hbW hBW
        go_wp2_with (at_builtin; refine app_rows rfl (.tmp 28) (.tmp 30) 43 rfl wa.heap.size 59 i0 _ 4 56 Try.underlying43 HI.out HZ0.out HZ1.out HZ2.out rfl (by decide) (by decide) _ kn (Rd.kys.rows (l.take kn)) rfl (owns_on own1' (below_alloc (Below.refl _ _) _)) _ (some ⟨w1.heap.size, 0, none⟩) 1 1 (kyC x) rfl (ky_new w1 x) ?hq5a ?hq5b ?hq5c ?_)
        try case hq5a => exact Rd.kys.one x
        try case hq5b => omega
        try case hq5c => first | omega | (simp; omega)
        intro v2 w2 own2 g2
        have hb2 : Below wa.heap.size wa w2 := (below_alloc hb1 _).grown g2 (by simp; omega) (fun j hj => (World.ownsRow.lt own1' _ hj).1)
        have own2' : w2.ownsRow wa.heap.size 59 4 v2 (kn + 1) (Rd.kys.rows (l.take kn ++ [x])) := by rw [Rd.rows_append, Rd.rows_one]; exact own2
        have r0 : w2.cell? ⟨g, 0, none⟩ = some (.string x.user) := (b0.on hb2).at_ 0 _ rfl
        have s0 : w2.cell? ⟨b2, o2 + kn * 4, none⟩ = some (.string y.user) := (range_on hya hb2 hbl2) 0 _ rfl
        clear own2 g2 own1' k0 k1 k2 k3
        go_wp2_with fail
        go_quiet (fail)
        have own3 : (w2.drewN nq).ownsRow wa.heap.size 59 4 v2 (kn + 1) (Rd.kys.rows (l.take kn ++ [x])) := own2'
        have hb3 : Below wa.heap.size wa (w2.drewN nq) := below_drewN hb2 _
        clear own2' hb2 r0 s0
        generalize w2.drewN nq = w3 at own3 hb3 ⊢
        have hB3 := hb3.size
        have hkc1 : (kn : Int) + 1 ≤ n := by omega
        by_cases hck : c = kn + 1
        · have hnk : n = kn + 1 := by omega
          subst hck
          subst hnk
          go_wp2_with (at_builtin; refine app_rows rfl (.tmp 48) (.tmp 51) 43 rfl wa.heap.size 59 i0 _ 4 56 Try.underlying43 HI.out HZ0.out HZ1.out HZ2.out rfl (by decide) (by decide) _ (kn + 1) (Rd.kys.rows (l.take kn ++ [x])) rfl own3 w3.heap.size (some ⟨b2, o2, none⟩) 0 0 [] ?hq6a ⟨rfl, fun h => absurd h (by omega)⟩ ?hq6b ?hq6c ?hq6d ?_)
          try case hq6a => first | rfl | (simp only [Option.map_some, Option.map_none, Nat.sub_self]; rfl) | (simp only [Option.map_some, Addr.add_mid, Nat.sub_self]; rfl) | simp
          try case hq6b => simp
          try case hq6c => omega
          try case hq6d => omega
          intro v4 w4 hown4 hg4
          have hb4 : Below wa.heap.size wa w4 := hb3.grown hg4 hB3 (fun j hj => (World.ownsRow.lt own3 _ hj).1)
          have hfin : OwnKys w4 wa.heap.size v4 (Dv.put ku l x) := by
            rw [HP.out, List.drop_of_length_le (by have := HL.out; omega)]
            have e : (l.take kn ++ [x]).length = kn + 1 := by rw [List.length_append, List.length_take]; have := HL.out; simp; omega
            unfold OwnKys
            rw [e]
            exact hown4
          clear hown4 hg4 own3
          go_wp2_with fail
          try rw [Exit.noGoto_ret]
          go_ret
          exact ⟨_, rfl, below_then hba hb4, World.ownsRow.mono hfin hba.size⟩
        · have hD := ((hra.on hb3).cut (k := kn + 1) (cap := c) (by omega) hc).1
          rw [if_neg hck] at hD
          go_wp2_with (at_builtin; refine app_rows rfl (.tmp 48) (.tmp 51) 43 rfl wa.heap.size 59 i0 _ 4 56 Try.underlying43 HI.out HZ0.out HZ1.out HZ2.out rfl (by decide) (by decide) _ (kn + 1) (Rd.kys.rows (l.take kn ++ [x])) rfl own3 _ (((some ⟨b2, o2, none⟩) : Option Addr).map (·.add ((kn + 1) * 4))) (n - (kn + 1)) (c - (kn + 1)) (Rd.kys.rows (l.drop (kn + 1))) ?hq7a hD ?hq7b ?hq7c ?hq7d ?_)
          try case hq7a => first | rfl | (simp only [Option.map_some, Addr.add_mid]; rfl) | (simp only [Option.map_some, Option.map_none, Nat.sub_self]; rfl)
          try case hq7b => exact Rd.kys.rows_one' _
          try case hq7c => omega
          try case hq7d => omega
          intro v4 w4 hown4 hg4
          have hb4 : Below wa.heap.size wa w4 := hb3.grown hg4 hB3 (fun j hj => (World.ownsRow.lt own3 _ hj).1)
          have hfin : OwnKys w4 wa.heap.size v4 (Dv.put ku l x) := by
            rw [HP.out, show l.take kn ++ x :: l.drop (kn + 1) = (l.take kn ++ [x]) ++ l.drop (kn + 1) by simp]
            exact ky_app (by rw [List.length_append, List.length_take]; have := HL.out; simp; omega) (by rw [List.length_drop]; have := HL.out; omega) hown4
          clear hown4 hg4 own3
          go_wp2_with fail
          try rw [Exit.noGoto_ret]
          go_ret
          exact ⟨_, rfl, below_then hba hb4, World.ownsRow.mono hfin hba.size⟩
    · obtain rfl : kn = n := by omega
      have HP : Hid (Dv.put ku l x = l.take kn ++ x :: l.drop kn) := Lib.hid (Dv.put_new hless (by have := HL.out; omega) (fun z hz => by rw [List.getElem?_eq_none (by have := HL.out; omega)] at hz; cases hz))
      have hjd : decide ((kn : Int) < (kn : Int)) = false := by simp
      clear hless
      rcases A with _ | ad
      · go_wp2_with fail
        go_quiet (fail)
        clear q1
        have hbW : Below wa.heap.size wa ((wa.drewN t).drewN nq) := below_drewN (below_drewN (Below.refl _ _) _) _
        generalize (wa.drewN t).drewN nq = W at hbW ⊢
        have hkc : (kn : Int) ≤ kn := by omega
        have hnc : (kn : Int) ≤ c := by omega
        have hBW := hbW.size
        have hF := ((hra.on hbW).front (k := kn) (by omega)).1
        have own0 : (W.alloc (.cells #[] 59)).ownsRow wa.heap.size 59 4 (.slice (some ⟨W.heap.size, 0, none⟩) 0 0) 0 [] := World.ownsRow_made W #[] 0 hBW (by unfold maxLen; omega) rfl
        go_wp2_with (at_builtin; refine app_rows rfl (.tmp 23) (.tmp 26) 43 rfl wa.heap.size 59 i0 _ 4 56 Try.underlying43 HI.out HZ0.out HZ1.out HZ2.out rfl (by decide) (by decide) _ 0 [] rfl own0 W.heap.size none kn c (Rd.kys.rows (l.take kn)) ?hq8a ?hq8b ?hq8c ?hq8d ?hq8e ?_)
        try case hq8a => first | rfl | (simp only [Option.map_some, Addr.add_mid]; rfl) | (simp only [Option.map_some, Option.map_none, Nat.sub_self]; rfl)
        try case hq8b => exact Reads.below hF (below_alloc (Below.refl _ _) _)
        try case hq8c => exact Rd.kys.rows_one' _
        try case hq8d => omega
        try case hq8e => first | omega | (simp; omega)
        intro v1 w1 own1 g1
        have hb1 : Below wa.heap.size wa w1 := (below_alloc hbW _).grown g1 (by simp; omega) (fun j hj => (World.ownsRow.lt own0 _ hj).1)
        have own1' : w1.ownsRow wa.heap.size 59 4 v1 kn (Rd.kys.rows (l.take kn)) := by simpa using own1
        have bX := b0.on hb1
        have k0 : w1.cell? ⟨g, 0, none⟩ = some (.string x.user) := bX.at_ 0 _ rfl
        have k1 : w1.cell? ⟨g, 1, none⟩ = some (.int .i64 x.master) := bX.at_ 1 _ rfl
        have k2 : w1.cell? ⟨g, 2, none⟩ = some (.int .i64 x.pos) := bX.at_ 2 _ rfl
        have k3 : w1.cell? ⟨g, 3, none⟩ = some (.slice x.devices.A x.devices.n x.devices.c) := bX.at_ 3 _ rfl
        have hB1 := hb1.size
        clear own1 g1 own0 hF bX hbW hBW
        go_wp2_with (at_builtin; refine app_rows rfl (.tmp 28) (.tmp 30) 43 rfl wa.heap.size 59 i0 _ 4 56 Try.underlying43 HI.out HZ0.out HZ1.out HZ2.out rfl (by decide) (by decide) _ kn (Rd.kys.rows (l.take kn)) rfl (owns_on own1' (below_alloc (Below.refl _ _) _)) _ (some ⟨w1.heap.size, 0, none⟩) 1 1 (kyC x) rfl (ky_new w1 x) ?hq9a ?hq9b ?hq9c ?_)
        try case hq9a => exact Rd.kys.one x
        try case hq9b => omega
        try case hq9c => first | omega | (simp; omega)
        intro v2 w2 own2 g2
        have hb2 : Below wa.heap.size wa w2 := (below_alloc hb1 _).grown g2 (by simp; omega) (fun j hj => (World.ownsRow.lt own1' _ hj).1)
        have own2' : w2.ownsRow wa.heap.size 59 4 v2 (kn + 1) (Rd.kys.rows (l.take kn ++ [x])) := by rw [Rd.rows_append, Rd.rows_one]; exact own2
        have r0 : w2.cell? ⟨g, 0, none⟩ = some (.string x.user) := (b0.on hb2).at_ 0 _ rfl
        clear own2 g2 own1' k0 k1 k2 k3
        go_wp2_with fail
        go_quiet (fail)
        have own3 : (w2.drewN nq).ownsRow wa.heap.size 59 4 v2 (kn + 1) (Rd.kys.rows (l.take kn ++ [x])) := own2'
        have hb3 : Below wa.heap.size wa (w2.drewN nq) := below_drewN hb2 _
        clear own2' hb2 r0
        generalize w2.drewN nq = w3 at own3 hb3 ⊢
        have hB3 := hb3.size
        by_cases hck : c = kn
        · have hck' : kn = c := hck.symm
          subst hck'
          go_wp2_with (at_builtin; refine app_rows rfl (.tmp 48) (.tmp 51) 43 rfl wa.heap.size 59 i0 _ 4 56 Try.underlying43 HI.out HZ0.out HZ1.out HZ2.out rfl (by decide) (by decide) _ (kn + 1) (Rd.kys.rows (l.take kn ++ [x])) rfl own3 w3.heap.size none 0 0 [] ?hq10a ⟨rfl, fun h => absurd h (by omega)⟩ ?hq10b ?hq10c ?hq10d ?_)
          try case hq10a => first | rfl | (simp only [Option.map_some, Option.map_none, Nat.sub_self]; rfl) | (simp only [Option.map_some, Addr.add_mid, Nat.sub_self]; rfl) | simp
          try case hq10b => simp
          try case hq10c => omega
          try case hq10d => omega
          intro v4 w4 hown4 hg4
          have hb4 : Below wa.heap.size wa w4 := hb3.grown hg4 hB3 (fun j hj => (World.ownsRow.lt own3 _ hj).1)
          have hfin : OwnKys w4 wa.heap.size v4 (Dv.put ku l x) := by
            rw [HP.out, List.drop_of_length_le (by have := HL.out; omega)]
            have e : (l.take kn ++ [x]).length = kn + 1 := by rw [List.length_append, List.length_take]; have := HL.out; simp; omega
            unfold OwnKys
            rw [e]
            exact hown4
          clear hown4 hg4 own3
          go_wp2_with fail
          try rw [Exit.noGoto_ret]
          go_ret
          exact ⟨_, rfl, below_then hba hb4, World.ownsRow.mono hfin hba.size⟩
        · go_wp2_with (at_builtin; refine app_rows rfl (.tmp 48) (.tmp 51) 43 rfl wa.heap.size 59 i0 _ 4 56 Try.underlying43 HI.out HZ0.out HZ1.out HZ2.out rfl (by decide) (by decide) _ (kn + 1) (Rd.kys.rows (l.take kn ++ [x])) rfl own3 w3.heap.size ((none : Option Addr).map (·.add (kn * 4))) 0 (c - kn) [] ?hq11a ⟨rfl, fun h => absurd h (by omega)⟩ ?hq11b ?hq11c ?hq11d ?_)
          try case hq11a => first | rfl | (simp only [Option.map_some, Option.map_none, Nat.sub_self]; rfl) | (simp only [Option.map_some, Addr.add_mid, Nat.sub_self]; rfl) | simp
          try case hq11b => simp
          try case hq11c => omega
          try case hq11d => omega
          intro v4 w4 hown4 hg4
          have hb4 : Below wa.heap.size wa w4 := hb3.grown hg4 hB3 (fun j hj => (World.ownsRow.lt own3 _ hj).1)
          have hfin : OwnKys w4 wa.heap.size v4 (Dv.put ku l x) := by
            rw [HP.out, List.drop_of_length_le (by have := HL.out; omega)]
            have e : (l.take kn ++ [x]).length = kn + 1 := by rw [List.length_append, List.length_take]; have := HL.out; simp; omega
            unfold OwnKys
            rw [e]
            exact hown4
          clear hown4 hg4 own3
          go_wp2_with fail
          try rw [Exit.noGoto_ret]
          go_ret
          exact ⟨_, rfl, below_then hba hb4, World.ownsRow.mono hfin hba.size⟩
      · go_wp2_with fail
        go_quiet (fail)
        clear q1
        have hbW : Below wa.heap.size wa ((wa.drewN t).drewN nq) := below_drewN (below_drewN (Below.refl _ _) _) _
        generalize (wa.drewN t).drewN nq = W at hbW ⊢
        have hkc : (kn : Int) ≤ kn := by omega
        have hnc : (kn : Int) ≤ c := by omega
        have hBW := hbW.size
        have hF := ((hra.on hbW).front (k := kn) (by omega)).1
        have own0 : (W.alloc (.cells #[] 59)).ownsRow wa.heap.size 59 4 (.slice (some ⟨W.heap.size, 0, none⟩) 0 0) 0 [] := World.ownsRow_made W #[] 0 hBW (by unfold maxLen; omega) rfl
        go_wp2_with (at_builtin; refine app_rows rfl (.tmp 23) (.tmp 26) 43 rfl wa.heap.size 59 i0 _ 4 56 Try.underlying43 HI.out HZ0.out HZ1.out HZ2.out rfl (by decide) (by decide) _ 0 [] rfl own0 W.heap.size (some ad) kn c (Rd.kys.rows (l.take kn)) ?hq12a ?hq12b ?hq12c ?hq12d ?hq12e ?_)
        try case hq12a => first | rfl | (simp only [Option.map_some, Addr.add_mid]; rfl) | (simp only [Option.map_some, Option.map_none, Nat.sub_self]; rfl)
        try case hq12b => exact Reads.below hF (below_alloc (Below.refl _ _) _)
        try case hq12c => exact Rd.kys.rows_one' _
        try case hq12d => omega
        try case hq12e => first | omega | (simp; omega)
        intro v1 w1 own1 g1
        have hb1 : Below wa.heap.size wa w1 := (below_alloc hbW _).grown g1 (by simp; omega) (fun j hj => (World.ownsRow.lt own0 _ hj).1)
        have own1' : w1.ownsRow wa.heap.size 59 4 v1 kn (Rd.kys.rows (l.take kn)) := by simpa using own1
        have bX := b0.on hb1
        have k0 : w1.cell? ⟨g, 0, none⟩ = some (.string x.user) := bX.at_ 0 _ rfl
        have k1 : w1.cell? ⟨g, 1, none⟩ = some (.int .i64 x.master) := bX.at_ 1 _ rfl
        have k2 : w1.cell? ⟨g, 2, none⟩ = some (.int .i64 x.pos) := bX.at_ 2 _ rfl
        have k3 : w1.cell? ⟨g, 3, none⟩ = some (.slice x.devices.A x.devices.n x.devices.c) := bX.at_ 3 _ rfl
        have hB1 := hb1.size
        clear own1 g1 own0 hF bX hbW hBW
        go_wp2_with (at_builtin; refine app_rows rfl (.tmp 28) (.tmp 30) 43 rfl wa.heap.size 59 i0 _ 4 56 Try.underlying43 HI.out HZ0.out HZ1.out HZ2.out rfl (by decide) (by decide) _ kn (Rd.kys.rows (l.take kn)) rfl (owns_on own1' (below_alloc (Below.refl _ _) _)) _ (some ⟨w1.heap.size, 0, none⟩) 1 1 (kyC x) rfl (ky_new w1 x) ?hq13a ?hq13b ?hq13c ?_)
        try case hq13a => exact Rd.kys.one x
        try case hq13b => omega
        try case hq13c => first | omega | (simp; omega)
        intro v2 w2 own2 g2
        have hb2 : Below wa.heap.size wa w2 := (below_alloc hb1 _).grown g2 (by simp; omega) (fun j hj => (World.ownsRow.lt own1' _ hj).1)
        have own2' : w2.ownsRow wa.heap.size 59 4 v2 (kn + 1) (Rd.kys.rows (l.take kn ++ [x])) := by rw [Rd.rows_append, Rd.rows_one]; exact own2
        have r0 : w2.cell? ⟨g, 0, none⟩ = some (.string x.user) := (b0.on hb2).at_ 0 _ rfl
        clear own2 g2 own1' k0 k1 k2 k3
        go_wp2_with fail
        go_quiet (fail)
        have own3 : (w2.drewN nq).ownsRow wa.heap.size 59 4 v2 (kn + 1) (Rd.kys.rows (l.take kn ++ [x])) := own2'
        have hb3 : Below wa.heap.size wa (w2.drewN nq) := below_drewN hb2 _
        clear own2' hb2 r0
        generalize w2.drewN nq = w3 at own3 hb3 ⊢
        have hB3 := hb3.size
        by_cases hck : c = kn
        · have hck' : kn = c := hck.symm
          subst hck'
          go_wp2_with (at_builtin; refine app_rows rfl (.tmp 48) (.tmp 51) 43 rfl wa.heap.size 59 i0 _ 4 56 Try.underlying43 HI.out HZ0.out HZ1.out HZ2.out rfl (by decide) (by decide) _ (kn + 1) (Rd.kys.rows (l.take kn ++ [x])) rfl own3 w3.heap.size (some ad) 0 0 [] ?hq14a ⟨rfl, fun h => absurd h (by omega)⟩ ?hq14b ?hq14c ?hq14d ?_)
          try case hq14a => first | rfl | (simp only [Option.map_some, Option.map_none, Nat.sub_self]; rfl) | (simp only [Option.map_some, Addr.add_mid, Nat.sub_self]; rfl) | simp
          try case hq14b => simp
          try case hq14c => omega
          try case hq14d => omega
          intro v4 w4 hown4 hg4
          have hb4 : Below wa.heap.size wa w4 := hb3.grown hg4 hB3 (fun j hj => (World.ownsRow.lt own3 _ hj).1)
          have hfin : OwnKys w4 wa.heap.size v4 (Dv.put ku l x) := by
            rw [HP.out, List.drop_of_length_le (by have := HL.out; omega)]
            have e : (l.take kn ++ [x]).length = kn + 1 := by rw [List.length_append, List.length_take]; have := HL.out; simp; omega
            unfold OwnKys
            rw [e]
            exact hown4
          clear hown4 hg4 own3
          go_wp2_with fail
          try rw [Exit.noGoto_ret]
          go_ret
          exact ⟨_, rfl, below_then hba hb4, World.ownsRow.mono hfin hba.size⟩
        · go_wp2_with (at_builtin; refine app_rows rfl (.tmp 48) (.tmp 51) 43 rfl wa.heap.size 59 i0 _ 4 56 Try.underlying43 HI.out HZ0.out HZ1.out HZ2.out rfl (by decide) (by decide) _ (kn + 1) (Rd.kys.rows (l.take kn ++ [x])) rfl own3 w3.heap.size (((some ad) : Option Addr).map (·.add (kn * 4))) 0 (c - kn) [] ?hq15a ⟨rfl, fun h => absurd h (by omega)⟩ ?hq15b ?hq15c ?hq15d ?_)
          try case hq15a => first | rfl | (simp only [Option.map_some, Option.map_none, Nat.sub_self]; rfl) | (simp only [Option.map_some, Addr.add_mid, Nat.sub_self]; rfl) | simp
          try case hq15b => simp
          try case hq15c => omega
          try case hq15d => omega
          intro v4 w4 hown4 hg4
          have hb4 : Below wa.heap.size wa w4 := hb3.grown hg4 hB3 (fun j hj => (World.ownsRow.lt own3 _ hj).1)
          have hfin : OwnKys w4 wa.heap.size v4 (Dv.put ku l x) := by
            rw [HP.out, List.drop_of_length_le (by have := HL.out; omega)]
            have e : (l.take kn ++ [x]).length = kn + 1 := by rw [List.length_append, List.length_take]; have := HL.out; simp; omega
            unfold OwnKys
            rw [e]
            exact hown4
          clear hown4 hg4 own3
          go_wp2_with fail
          try rw [Exit.noGoto_ret]
          go_ret
          exact ⟨_, rfl, below_then hba hb4, World.ownsRow.mono hfin hba.size⟩

set_option maxRecDepth 100000 in
set_option maxHeartbeats 8000000 in
theorem rdput_any (A : Option Addr) (n c : Nat) (l : List Dvc) (x : Dvc) (w : World) (hr : Rd.dvc.Holds w A n l) (hn : n ≤ 1000000) (hc : n ≤ c) (hcm : c ≤ maxLen) :
    Calls Try.prog 70 #[.slice A n c, devA x] w fun e w' => ∃ v, e = .returned v ∧ Below w.heap.size w w' ∧ OwnDvs w' w.heap.size v (Dv.put Dv.dk l x) := by
  unfold maxLen at hcm
  obtain ⟨i0, hi, hz0, hz1, hz2⟩ := info_parts infoDvc
  have HI := Lib.hid hi; have HZ0 := Lib.hid hz0; have HZ1 := Lib.hid hz1; have HZ2 := Lib.hid hz2
  clear hi hz0 hz1 hz2
  have HL := Lib.hid hr.length
  obtain ⟨wa, hwa⟩ : ∃ wa : World, wa = w.alloc (.cells #[.string x.id, .int .i64 x.key, .bool x.signed] 47) := ⟨_, rfl⟩
  have hba : Below w.heap.size w wa := by rw [hwa]; exact below_alloc (Below.refl _ _) _
  have b0 : Box wa w.heap.size [.string x.id, .int .i64 x.key, .bool x.signed] := by rw [hwa]; exact Box.new w [.string x.id, .int .i64 x.key, .bool x.signed] _
  go_enter Try.func70, Try.ntmps70
  go_upto_region 1 with fail
  rw [← hwa]
  clear hwa
  obtain ⟨g, hg⟩ : ∃ g, w.heap.size = g := ⟨_, rfl⟩
  rw [hg] at b0 ⊢
  have HG := Lib.hid hg
  clear hg
  have hra := hr.on hba
  have q0 : wa.cell? ⟨g, 0, none⟩ = some (.string x.id) := b0.at_ 0 _ rfl
  go_wp2_with fail
  go_loopw [5] (fun i wq => ∃ kn t : Nat, i = .int .i64 kn ∧ kn ≤ n ∧ (∀ j y, l[j]? = some y → j < kn → Dv.dk y < Dv.dk x) ∧ Hid (wq = wa.drewN t)) (fun i _ => n - (intOf i).toNat)
  case atStart => exact ⟨0, 0, rfl, by omega, fun j y _ h => by omega, rfl⟩
  case round =>
    obtain ⟨kn, t, rfl, hkn, hless, ht⟩ := hrel
    obtain rfl := ht.out
    clear ht
    have q1 : (wa.drewN t).cell? ⟨g, 0, none⟩ = some (.string x.id) := q0
    by_cases hlt : kn < n
    · obtain ⟨b2, o2, y, rfl, hbl2, hy, _, _, hya⟩ := hra.mid (by decide) hlt
      have z0 : wa.cell? ⟨b2, o2 + kn * 3, none⟩ = some (.string y.id) := hya 0 _ rfl
      have z1 : (wa.drewN t).cell? ⟨b2, o2 + kn * 3, none⟩ = some (.string y.id) := z0
      have hk0 : (kn : Int) < n := by omega
      obtain ⟨f1, h1⟩ : ∃ e, Op.bytesLess y.id.toList x.id.toList = e := ⟨_, rfl⟩
      obtain ⟨f2, h2⟩ : ∃ e, (y.id.toList == x.id.toList) = e := ⟨_, rfl⟩
      have hl1 : decide (Dv.dk y < Dv.dk x) = f1 := by rw [← h1, bytesLess_lt]; rfl
      have hl2 : decide (Dv.dk y = Dv.dk x) = f2 := by rw [← h2, streq]; rfl
      cases f1
      case true =>
        have HLE : Hid (∀ j z, l[j]? = some z → j < kn + 1 → Dv.dk z < Dv.dk x) := Lib.hid fun j z hz hj => by
          rcases Nat.lt_or_ge j kn with h3 | h3
          · exact hless j z hz h3
          · obtain rfl : j = kn := by omega
            rw [hy] at hz; cases hz; exact of_decide_eq_true hl1
        clear hya hl1 hl2 hy hless h2
        go_wp2_with fail
        go_quiet (fail)
        go_wp2_with fail
        exact ⟨⟨kn + 1, t + nq, by go_num, by omega, HLE.out, by show _ = _; simp⟩, by simp [intOf]; omega⟩
      have hnl : ¬ Dv.dk y < Dv.dk x := of_decide_eq_false hl1
      cases f2
      · have HP : Hid (Dv.put Dv.dk l x = l.take kn ++ x :: l.drop kn) := Lib.hid (Dv.put_new hless (by have := HL.out; omega) (fun z hz => by
          rw [hy] at hz; cases hz
          rcases Nm.lt_or (Dv.dk y) (Dv.dk x) with h3 | h3 | h3
          · exact absurd h3 hnl
          · exact absurd h3 (of_decide_eq_false hl2)
          · exact h3))
        clear hl1 hl2 hy hless hnl
        go_wp2_with fail
        go_quiet (fail)
        clear z1 z0 q1
        have hbW : Below wa.heap.size wa ((wa.drewN t).drewN nq) := below_drewN (below_drewN (Below.refl _ _) _) _
        generalize (wa.drewN t).drewN nq = W at hbW ⊢
        have hkc : (kn : Int) ≤ n := by omega
        have hnc : (n : Int) ≤ c := by omega
        have hBW := hbW.size
        have hF := ((hra.on hbW).front (k := kn) (by omega)).1
        have own0 : (W.alloc (.cells #[] 47)).ownsRow wa.heap.size 47 3 (.slice (some ⟨W.heap.size, 0, none⟩) 0 0) 0 [] := World.ownsRow_made W #[] 0 hBW (by unfold maxLen; omega) rfl
        go_wp2_with (at_builtin; refine app_rows rfl (.tmp 23) (.tmp 26) 57 rfl wa.heap.size 47 i0 _ 3 32 Try.underlying57 HI.out HZ0.out HZ1.out HZ2.out rfl (by decide) (by decide) _ 0 [] rfl own0 W.heap.size (some ⟨b2, o2, none⟩) kn c (Rd.dvc.rows (l.take kn)) ?hq16a ?hq16b ?hq16c ?hq16d ?hq16e ?_)
        try case hq16a => first | rfl | (simp only [Option.map_some, Addr.add_mid]; rfl) | (simp only [Option.map_some, Option.map_none, Nat.sub_self]; rfl)
        try case hq16b => exact Reads.below hF (below_alloc (Below.refl _ _) _)
        try case hq16c => exact Rd.dvc.rows_one' _
        try case hq16d => omega
        try case hq16e => first | omega | (simp; omega)
        intro v1 w1 own1 g1
        have hb1 : Below wa.heap.size wa w1 := (below_alloc hbW _).grown g1 (by simp; omega) (fun j hj => (World.ownsRow.lt own0 _ hj).1)
        have own1' : w1.ownsRow wa.heap.size 47 3 v1 kn (Rd.dvc.rows (l.take kn)) := by simpa using own1
        have bX := b0.on hb1
        have k0 : w1.cell? ⟨g, 0, none⟩ = some (.string x.id) := bX.at_ 0 _ rfl
        have k1 : w1.cell? ⟨g, 1, none⟩ = some (.int .i64 x.key) := bX.at_ 1 _ rfl
        have k2 : w1.cell? ⟨g, 2, none⟩ = some (.bool x.signed) := bX.at_ 2 _ rfl
        have hB1 := hb1.size
        clear own1 g1 own0 hF bX hbW hBW
        go_wp2_with (at_builtin; refine app_rows rfl (.tmp 28) (.tmp 30) 57 rfl wa.heap.size 47 i0 _ 3 32 Try.underlying57 HI.out HZ0.out HZ1.out HZ2.out rfl (by decide) (by decide) _ kn (Rd.dvc.rows (l.take kn)) rfl (owns_on own1' (below_alloc (Below.refl _ _) _)) _ (some ⟨w1.heap.size, 0, none⟩) 1 1 [.string x.id, .int .i64 x.key, .bool x.signed] rfl (dv_new' w1 x) ?hq17a ?hq17b ?hq17c ?_)
        try case hq17a => exact Rd.dvc.one x
        try case hq17b => omega
        try case hq17c => first | omega | (simp; omega)
        intro v2 w2 own2 g2
        have hb2 : Below wa.heap.size wa w2 := (below_alloc hb1 _).grown g2 (by simp; omega) (fun j hj => (World.ownsRow.lt own1' _ hj).1)
        have own2' : w2.ownsRow wa.heap.size 47 3 v2 (kn + 1) (Rd.dvc.rows (l.take kn ++ [x])) := by rw [Rd.rows_append, Rd.rows_one]; exact own2
        have r0 : w2.cell? ⟨g, 0, none⟩ = some (.string x.id) := (b0.on hb2).at_ 0 _ rfl
        have s0 : w2.cell? ⟨b2, o2 + kn * 3, none⟩ = some (.string y.id) := (range_on hya hb2 hbl2) 0 _ rfl
        clear own2 g2 own1' k0 k1 k2
        go_wp2_with fail
        go_quiet (fail)
        have own3 : (w2.drewN nq).ownsRow wa.heap.size 47 3 v2 (kn + 1) (Rd.dvc.rows (l.take kn ++ [x])) := own2'
        have hb3 : Below wa.heap.size wa (w2.drewN nq) := below_drewN hb2 _
        clear own2' hb2 r0 s0
        generalize w2.drewN nq = w3 at own3 hb3 ⊢
        have hB3 := hb3.size
        have hck : ¬ c = kn := by omega
        have hD := ((hra.on hb3).cut (k := kn) (cap := c) (by omega) hc).1
        rw [if_neg hck] at hD
        go_wp2_with (at_builtin; refine app_rows rfl (.tmp 48) (.tmp 51) 57 rfl wa.heap.size 47 i0 _ 3 32 Try.underlying57 HI.out HZ0.out HZ1.out HZ2.out rfl (by decide) (by decide) _ (kn + 1) (Rd.dvc.rows (l.take kn ++ [x])) rfl own3 _ (((some ⟨b2, o2, none⟩) : Option Addr).map (·.add ((kn) * 3))) (n - (kn)) (c - (kn)) (Rd.dvc.rows (l.drop (kn))) ?hq18a hD ?hq18b ?hq18c ?hq18d ?_)
        try case hq18a => first | rfl | (simp only [Option.map_some, Addr.add_mid]; rfl) | (simp only [Option.map_some, Option.map_none, Nat.sub_self]; rfl)
        try case hq18b => exact Rd.dvc.rows_one' _
        try case hq18c => omega
        try case hq18d => omega
        intro v4 w4 hown4 hg4
        have hb4 : Below wa.heap.size wa w4 := hb3.grown hg4 hB3 (fun j hj => (World.ownsRow.lt own3 _ hj).1)
        have hfin : OwnDvs w4 wa.heap.size v4 (Dv.put Dv.dk l x) := by
          rw [HP.out, show l.take kn ++ x :: l.drop (kn) = (l.take kn ++ [x]) ++ l.drop (kn) by simp]
          exact dv_app (by rw [List.length_append, List.length_take]; have := HL.out; simp; omega) (by rw [List.length_drop]; have := HL.out; omega) hown4
        clear hown4 hg4 own3
        go_wp2_with fail
        try rw [Exit.noGoto_ret]
        go_ret
        exact ⟨_, rfl, below_then hba hb4, World.ownsRow.mono hfin hba.size⟩
      · have HP : Hid (Dv.put Dv.dk l x = l.take kn ++ x :: l.drop (kn + 1)) := Lib.hid (Dv.put_same hless hy (of_decide_eq_true hl2))
        clear hl1 hl2 hy hless hnl
        go_wp2_with fail
        go_quiet (fail)
        clear z1 z0 q1
        have hbW : Below wa.heap.size wa ((wa.drewN t).drewN nq) := below_drewN (below_drewN (Below.refl _ _) _) _
        generalize (wa.drewN t).drewN nq = W at hbW ⊢
        have hkc : (kn : Int) ≤ n := by omega
        have hnc : (n : Int) ≤ c := by omega
        have hBW := hbW.size
        have hF := ((hra.on hbW).front (k := kn) (by omega)).1
        have own0 : (W.alloc (.cells #[] 47)).ownsRow wa.heap.size 47 3 (.slice (some ⟨W.heap.size, 0, none⟩) 0 0) 0 [] := World.ownsRow_made W #[] 0 hBW (by unfold maxLen; omega) rfl
        go_wp2_with (at_builtin; refine app_rows rfl (.tmp 23) (.tmp 26) 57 rfl wa.heap.size 47 i0 _ 3 32 Try.underlying57 HI.out HZ0.out HZ1.out HZ2.out rfl (by decide) (by decide) _ 0 [] rfl own0 W.heap.size (some ⟨b2, o2, none⟩) kn c (Rd.dvc.rows (l.take kn)) ?hq19a ?hq19b ?hq19c ?hq19d ?hq19e ?_)
        try case hq19a => first | rfl | (simp only [Option.map_some, Addr.add_mid]; rfl) | (simp only [Option.map_some, Option.map_none, Nat.sub_self]; rfl)
        try case hq19b => exact Reads.below hF (below_alloc (Below.refl _ _) _)
        try case hq19c => exact Rd.dvc.rows_one' _
        try case hq19d => omega
        try case hq19e => first | omega | (simp; omega)
        intro v1 w1 own1 g1
        have hb1 : Below wa.heap.size wa w1 := (below_alloc hbW _).grown g1 (by simp; omega) (fun j hj => (World.ownsRow.lt own0 _ hj).1)
        have own1' : w1.ownsRow wa.heap.size 47 3 v1 kn (Rd.dvc.rows (l.take kn)) := by simpa using own1
        have bX := b0.on hb1
        have k0 : w1.cell? ⟨g, 0, none⟩ = some (.string x.id) := bX.at_ 0 _ rfl
        have k1 : w1.cell? ⟨g, 1, none⟩ = some (.int .i64 x.key) := bX.at_ 1 _ rfl
        have k2 : w1.cell? ⟨g, 2, none⟩ = some (.bool x.signed) := bX.at_ 2 _ rfl
        have hB1 := hb1.size
        clear own1 g1 own0 hF bX hbW hBW
        go_wp2_with (at_builtin; refine app_rows rfl (.tmp 28) (.tmp 30) 57 rfl wa.heap.size 47 i0 _ 3 32 Try.underlying57 HI.out HZ0.out HZ1.out HZ2.out rfl (by decide) (by decide) _ kn (Rd.dvc.rows (l.take kn)) rfl (owns_on own1' (below_alloc (Below.refl _ _) _)) _ (some ⟨w1.heap.size, 0, none⟩) 1 1 [.string x.id, .int .i64 x.key, .bool x.signed] rfl (dv_new' w1 x) ?hq20a ?hq20b ?hq20c ?_)
        try case hq20a => exact Rd.dvc.one x
        try case hq20b => omega
        try case hq20c => first | omega | (simp; omega)
        intro v2 w2 own2 g2
        have hb2 : Below wa.heap.size wa w2 := (below_alloc hb1 _).grown g2 (by simp; omega) (fun j hj => (World.ownsRow.lt own1' _ hj).1)
        have own2' : w2.ownsRow wa.heap.size 47 3 v2 (kn + 1) (Rd.dvc.rows (l.take kn ++ [x])) := by rw [Rd.rows_append, Rd.rows_one]; exact own2
        have r0 : w2.cell? ⟨g, 0, none⟩ = some (.string x.id) := (b0.on hb2).at_ 0 _ rfl
        have s0 : w2.cell? ⟨b2, o2 + kn * 3, none⟩ = some (.string y.id) := (range_on hya hb2 hbl2) 0 _ rfl
        clear own2 g2 own1' k0 k1 k2
        go_wp2_with fail
        go_quiet (fail)
        have own3 : (w2.drewN nq).ownsRow wa.heap.size 47 3 v2 (kn + 1) (Rd.dvc.rows (l.take kn ++ [x])) := own2'
        have hb3 : Below wa.heap.size wa (w2.drewN nq) := below_drewN hb2 _
        clear own2' hb2 r0 s0
        generalize w2.drewN nq = w3 at own3 hb3 ⊢
        have hB3 := hb3.size
        have hkc1 : (kn : Int) + 1 ≤ n := by omega
        by_cases hck : c = kn + 1
        · have hnk : n = kn + 1 := by omega
          subst hck
          subst hnk
          go_wp2_with (at_builtin; refine app_rows rfl (.tmp 48) (.tmp 51) 57 rfl wa.heap.size 47 i0 _ 3 32 Try.underlying57 HI.out HZ0.out HZ1.out HZ2.out rfl (by decide) (by decide) _ (kn + 1) (Rd.dvc.rows (l.take kn ++ [x])) rfl own3 w3.heap.size (some ⟨b2, o2, none⟩) 0 0 [] ?hq21a ⟨rfl, fun h => absurd h (by omega)⟩ ?hq21b ?hq21c ?hq21d ?_)
          try case hq21a => first | rfl | (simp only [Option.map_some, Option.map_none, Nat.sub_self]; rfl) | (simp only [Option.map_some, Addr.add_mid, Nat.sub_self]; rfl) | simp
          try case hq21b => simp
          try case hq21c => omega
          try case hq21d => omega
          intro v4 w4 hown4 hg4
          have hb4 : Below wa.heap.size wa w4 := hb3.grown hg4 hB3 (fun j hj => (World.ownsRow.lt own3 _ hj).1)
          have hfin : OwnDvs w4 wa.heap.size v4 (Dv.put Dv.dk l x) := by
            rw [HP.out, List.drop_of_length_le (by have := HL.out; omega)]
            have e : (l.take kn ++ [x]).length = kn + 1 := by rw [List.length_append, List.length_take]; have := HL.out; simp; omega
            unfold OwnDvs
            rw [e]
            exact hown4
          clear hown4 hg4 own3
          go_wp2_with fail
          try rw [Exit.noGoto_ret]
          go_ret
          exact ⟨_, rfl, below_then hba hb4, World.ownsRow.mono hfin hba.size⟩
        · have hD := ((hra.on hb3).cut (k := kn + 1) (cap := c) (by omega) hc).1
          rw [if_neg hck] at hD
          go_wp2_with (at_builtin; refine app_rows rfl (.tmp 48) (.tmp 51) 57 rfl wa.heap.size 47 i0 _ 3 32 Try.underlying57 HI.out HZ0.out HZ1.out HZ2.out rfl (by decide) (by decide) _ (kn + 1) (Rd.dvc.rows (l.take kn ++ [x])) rfl own3 _ (((some ⟨b2, o2, none⟩) : Option Addr).map (·.add ((kn + 1) * 3))) (n - (kn + 1)) (c - (kn + 1)) (Rd.dvc.rows (l.drop (kn + 1))) ?hq22a hD ?hq22b ?hq22c ?hq22d ?_)
          try case hq22a => first | rfl | (simp only [Option.map_some, Addr.add_mid]; rfl) | (simp only [Option.map_some, Option.map_none, Nat.sub_self]; rfl)
          try case hq22b => exact Rd.dvc.rows_one' _
          try case hq22c => omega
          try case hq22d => omega
          intro v4 w4 hown4 hg4
          have hb4 : Below wa.heap.size wa w4 := hb3.grown hg4 hB3 (fun j hj => (World.ownsRow.lt own3 _ hj).1)
          have hfin : OwnDvs w4 wa.heap.size v4 (Dv.put Dv.dk l x) := by
            rw [HP.out, show l.take kn ++ x :: l.drop (kn + 1) = (l.take kn ++ [x]) ++ l.drop (kn + 1) by simp]
            exact dv_app (by rw [List.length_append, List.length_take]; have := HL.out; simp; omega) (by rw [List.length_drop]; have := HL.out; omega) hown4
          clear hown4 hg4 own3
          go_wp2_with fail
          try rw [Exit.noGoto_ret]
          go_ret
          exact ⟨_, rfl, below_then hba hb4, World.ownsRow.mono hfin hba.size⟩
    · obtain rfl : kn = n := by omega
      have HP : Hid (Dv.put Dv.dk l x = l.take kn ++ x :: l.drop kn) := Lib.hid (Dv.put_new hless (by have := HL.out; omega) (fun z hz => by rw [List.getElem?_eq_none (by have := HL.out; omega)] at hz; cases hz))
      have hjd : decide ((kn : Int) < (kn : Int)) = false := by simp
      clear hless
      rcases A with _ | ad
      · go_wp2_with fail
        go_quiet (fail)
        clear q1
        have hbW : Below wa.heap.size wa ((wa.drewN t).drewN nq) := below_drewN (below_drewN (Below.refl _ _) _) _
        generalize (wa.drewN t).drewN nq = W at hbW ⊢
        have hkc : (kn : Int) ≤ kn := by omega
        have hnc : (kn : Int) ≤ c := by omega
        have hBW := hbW.size
        have hF := ((hra.on hbW).front (k := kn) (by omega)).1
        have own0 : (W.alloc (.cells #[] 47)).ownsRow wa.heap.size 47 3 (.slice (some ⟨W.heap.size, 0, none⟩) 0 0) 0 [] := World.ownsRow_made W #[] 0 hBW (by unfold maxLen; omega) rfl
        go_wp2_with (at_builtin; refine app_rows rfl (.tmp 23) (.tmp 26) 57 rfl wa.heap.size 47 i0 _ 3 32 Try.underlying57 HI.out HZ0.out HZ1.out HZ2.out rfl (by decide) (by decide) _ 0 [] rfl own0 W.heap.size none kn c (Rd.dvc.rows (l.take kn)) ?hq23a ?hq23b ?hq23c ?hq23d ?hq23e ?_)
        try case hq23a => first | rfl | (simp only [Option.map_some, Addr.add_mid]; rfl) | (simp only [Option.map_some, Option.map_none, Nat.sub_self]; rfl)
        try case hq23b => exact Reads.below hF (below_alloc (Below.refl _ _) _)
        try case hq23c => exact Rd.dvc.rows_one' _
        try case hq23d => omega
        try case hq23e => first | omega | (simp; omega)
        intro v1 w1 own1 g1
        have hb1 : Below wa.heap.size wa w1 := (below_alloc hbW _).grown g1 (by simp; omega) (fun j hj => (World.ownsRow.lt own0 _ hj).1)
        have own1' : w1.ownsRow wa.heap.size 47 3 v1 kn (Rd.dvc.rows (l.take kn)) := by simpa using own1
        have bX := b0.on hb1
        have k0 : w1.cell? ⟨g, 0, none⟩ = some (.string x.id) := bX.at_ 0 _ rfl
        have k1 : w1.cell? ⟨g, 1, none⟩ = some (.int .i64 x.key) := bX.at_ 1 _ rfl
        have k2 : w1.cell? ⟨g, 2, none⟩ = some (.bool x.signed) := bX.at_ 2 _ rfl
        have hB1 := hb1.size
        clear own1 g1 own0 hF bX hbW hBW
        go_wp2_with (at_builtin; refine app_rows rfl (.tmp 28) (.tmp 30) 57 rfl wa.heap.size 47 i0 _ 3 32 Try.underlying57 HI.out HZ0.out HZ1.out HZ2.out rfl (by decide) (by decide) _ kn (Rd.dvc.rows (l.take kn)) rfl (owns_on own1' (below_alloc (Below.refl _ _) _)) _ (some ⟨w1.heap.size, 0, none⟩) 1 1 [.string x.id, .int .i64 x.key, .bool x.signed] rfl (dv_new' w1 x) ?hq24a ?hq24b ?hq24c ?_)
        try case hq24a => exact Rd.dvc.one x
        try case hq24b => omega
        try case hq24c => first | omega | (simp; omega)
        intro v2 w2 own2 g2
        have hb2 : Below wa.heap.size wa w2 := (below_alloc hb1 _).grown g2 (by simp; omega) (fun j hj => (World.ownsRow.lt own1' _ hj).1)
        have own2' : w2.ownsRow wa.heap.size 47 3 v2 (kn + 1) (Rd.dvc.rows (l.take kn ++ [x])) := by rw [Rd.rows_append, Rd.rows_one]; exact own2
        have r0 : w2.cell? ⟨g, 0, none⟩ = some (.string x.id) := (b0.on hb2).at_ 0 _ rfl
        clear own2 g2 own1' k0 k1 k2
        go_wp2_with fail
        go_quiet (fail)
        have own3 : (w2.drewN nq).ownsRow wa.heap.size 47 3 v2 (kn + 1) (Rd.dvc.rows (l.take kn ++ [x])) := own2'
        have hb3 : Below wa.heap.size wa (w2.drewN nq) := below_drewN hb2 _
        clear own2' hb2 r0
        generalize w2.drewN nq = w3 at own3 hb3 ⊢
        have hB3 := hb3.size
        by_cases hck : c = kn
        · have hck' : kn = c := hck.symm
          subst hck'
          go_wp2_with (at_builtin; refine app_rows rfl (.tmp 48) (.tmp 51) 57 rfl wa.heap.size 47 i0 _ 3 32 Try.underlying57 HI.out HZ0.out HZ1.out HZ2.out rfl (by decide) (by decide) _ (kn + 1) (Rd.dvc.rows (l.take kn ++ [x])) rfl own3 w3.heap.size none 0 0 [] ?hq25a ⟨rfl, fun h => absurd h (by omega)⟩ ?hq25b ?hq25c ?hq25d ?_)
          try case hq25a => first | rfl | (simp only [Option.map_some, Option.map_none, Nat.sub_self]; rfl) | (simp only [Option.map_some, Addr.add_mid, Nat.sub_self]; rfl) | simp
          try case hq25b => simp
          try case hq25c => omega
          try case hq25d => omega
          intro v4 w4 hown4 hg4
          have hb4 : Below wa.heap.size wa w4 := hb3.grown hg4 hB3 (fun j hj => (World.ownsRow.lt own3 _ hj).1)
          have hfin : OwnDvs w4 wa.heap.size v4 (Dv.put Dv.dk l x) := by
            rw [HP.out, List.drop_of_length_le (by have := HL.out; omega)]
            have e : (l.take kn ++ [x]).length = kn + 1 := by rw [List.length_append, List.length_take]; have := HL.out; simp; omega
            unfold OwnDvs
            rw [e]
            exact hown4
          clear hown4 hg4 own3
          go_wp2_with fail
          try rw [Exit.noGoto_ret]
          go_ret
          exact ⟨_, rfl, below_then hba hb4, World.ownsRow.mono hfin hba.size⟩
        · go_wp2_with (at_builtin; refine app_rows rfl (.tmp 48) (.tmp 51) 57 rfl wa.heap.size 47 i0 _ 3 32 Try.underlying57 HI.out HZ0.out HZ1.out HZ2.out rfl (by decide) (by decide) _ (kn + 1) (Rd.dvc.rows (l.take kn ++ [x])) rfl own3 w3.heap.size ((none : Option Addr).map (·.add (kn * 3))) 0 (c - kn) [] ?hq26a ⟨rfl, fun h => absurd h (by omega)⟩ ?hq26b ?hq26c ?hq26d ?_)
          try case hq26a => first | rfl | (simp only [Option.map_some, Option.map_none, Nat.sub_self]; rfl) | (simp only [Option.map_some, Addr.add_mid, Nat.sub_self]; rfl) | simp
          try case hq26b => simp
          try case hq26c => omega
          try case hq26d => omega
          intro v4 w4 hown4 hg4
          have hb4 : Below wa.heap.size wa w4 := hb3.grown hg4 hB3 (fun j hj => (World.ownsRow.lt own3 _ hj).1)
          have hfin : OwnDvs w4 wa.heap.size v4 (Dv.put Dv.dk l x) := by
            rw [HP.out, List.drop_of_length_le (by have := HL.out; omega)]
            have e : (l.take kn ++ [x]).length = kn + 1 := by rw [List.length_append, List.length_take]; have := HL.out; simp; omega
            unfold OwnDvs
            rw [e]
            exact hown4
          clear hown4 hg4 own3
          go_wp2_with fail
          try rw [Exit.noGoto_ret]
          go_ret
          exact ⟨_, rfl, below_then hba hb4, World.ownsRow.mono hfin hba.size⟩
      · go_wp2_with fail
        go_quiet (fail)
        clear q1
        have hbW : Below wa.heap.size wa ((wa.drewN t).drewN nq) := below_drewN (below_drewN (Below.refl _ _) _) _
        generalize (wa.drewN t).drewN nq = W at hbW ⊢
        have hkc : (kn : Int) ≤ kn := by omega
        have hnc : (kn : Int) ≤ c := by omega
        have hBW := hbW.size
        have hF := ((hra.on hbW).front (k := kn) (by omega)).1
        have own0 : (W.alloc (.cells #[] 47)).ownsRow wa.heap.size 47 3 (.slice (some ⟨W.heap.size, 0, none⟩) 0 0) 0 [] := World.ownsRow_made W #[] 0 hBW (by unfold maxLen; omega) rfl
        go_wp2_with (at_builtin; refine app_rows rfl (.tmp 23) (.tmp 26) 57 rfl wa.heap.size 47 i0 _ 3 32 Try.underlying57 HI.out HZ0.out HZ1.out HZ2.out rfl (by decide) (by decide) _ 0 [] rfl own0 W.heap.size (some ad) kn c (Rd.dvc.rows (l.take kn)) ?hq27a ?hq27b ?hq27c ?hq27d ?hq27e ?_)
        try case hq27a => first | rfl | (simp only [Option.map_some, Addr.add_mid]; rfl) | (simp only [Option.map_some, Option.map_none, Nat.sub_self]; rfl)
        try case hq27b => exact Reads.below hF (below_alloc (Below.refl _ _) _)
        try case hq27c => exact Rd.dvc.rows_one' _
        try case hq27d => omega
        try case hq27e => first | omega | (simp; omega)
        intro v1 w1 own1 g1
        have hb1 : Below wa.heap.size wa w1 := (below_alloc hbW _).grown g1 (by simp; omega) (fun j hj => (World.ownsRow.lt own0 _ hj).1)
        have own1' : w1.ownsRow wa.heap.size 47 3 v1 kn (Rd.dvc.rows (l.take kn)) := by simpa using own1
        have bX := b0.on hb1
        have k0 : w1.cell? ⟨g, 0, none⟩ = some (.string x.id) := bX.at_ 0 _ rfl
        have k1 : w1.cell? ⟨g, 1, none⟩ = some (.int .i64 x.key) := bX.at_ 1 _ rfl
        have k2 : w1.cell? ⟨g, 2, none⟩ = some (.bool x.signed) := bX.at_ 2 _ rfl
        have hB1 := hb1.size
        clear own1 g1 own0 hF bX hbW hBW
        go_wp2_with (at_builtin; refine app_rows rfl (.tmp 28) (.tmp 30) 57 rfl wa.heap.size 47 i0 _ 3 32 Try.underlying57 HI.out HZ0.out HZ1.out HZ2.out rfl (by decide) (by decide) _ kn (Rd.dvc.rows (l.take kn)) rfl (owns_on own1' (below_alloc (Below.refl _ _) _)) _ (some ⟨w1.heap.size, 0, none⟩) 1 1 [.string x.id, .int .i64 x.key, .bool x.signed] rfl (dv_new' w1 x) ?hq28a ?hq28b ?hq28c ?_)
        try case hq28a => exact Rd.dvc.one x
        try case hq28b => omega
        try case hq28c => first | omega | (simp; omega)
        intro v2 w2 own2 g2
        have hb2 : Below wa.heap.size wa w2 := (below_alloc hb1 _).grown g2 (by simp; omega) (fun j hj => (World.ownsRow.lt own1' _ hj).1)
        have own2' : w2.ownsRow wa.heap.size 47 3 v2 (kn + 1) (Rd.dvc.rows (l.take kn ++ [x])) := by rw [Rd.rows_append, Rd.rows_one]; exact own2
        have r0 : w2.cell? ⟨g, 0, none⟩ = some (.string x.id) := (b0.on hb2).at_ 0 _ rfl
        clear own2 g2 own1' k0 k1 k2
        go_wp2_with fail
        go_quiet (fail)
        have own3 : (w2.drewN nq).ownsRow wa.heap.size 47 3 v2 (kn + 1) (Rd.dvc.rows (l.take kn ++ [x])) := own2'
        have hb3 : Below wa.heap.size wa (w2.drewN nq) := below_drewN hb2 _
        clear own2' hb2 r0
        generalize w2.drewN nq = w3 at own3 hb3 ⊢
        have hB3 := hb3.size
        by_cases hck : c = kn
        · have hck' : kn = c := hck.symm
          subst hck'
          go_wp2_with (at_builtin; refine app_rows rfl (.tmp 48) (.tmp 51) 57 rfl wa.heap.size 47 i0 _ 3 32 Try.underlying57 HI.out HZ0.out HZ1.out HZ2.out rfl (by decide) (by decide) _ (kn + 1) (Rd.dvc.rows (l.take kn ++ [x])) rfl own3 w3.heap.size (some ad) 0 0 [] ?hq29a ⟨rfl, fun h => absurd h (by omega)⟩ ?hq29b ?hq29c ?hq29d ?_)
          try case hq29a => first | rfl | (simp only [Option.map_some, Option.map_none, Nat.sub_self]; rfl) | (simp only [Option.map_some, Addr.add_mid, Nat.sub_self]; rfl) | simp
          try case hq29b => simp
          try case hq29c => omega
          try case hq29d => omega
          intro v4 w4 hown4 hg4
          have hb4 : Below wa.heap.size wa w4 := hb3.grown hg4 hB3 (fun j hj => (World.ownsRow.lt own3 _ hj).1)
          have hfin : OwnDvs w4 wa.heap.size v4 (Dv.put Dv.dk l x) := by
            rw [HP.out, List.drop_of_length_le (by have := HL.out; omega)]
            have e : (l.take kn ++ [x]).length = kn + 1 := by rw [List.length_append, List.length_take]; have := HL.out; simp; omega
            unfold OwnDvs
            rw [e]
            exact hown4
          clear hown4 hg4 own3
          go_wp2_with fail
          try rw [Exit.noGoto_ret]
          go_ret
          exact ⟨_, rfl, below_then hba hb4, World.ownsRow.mono hfin hba.size⟩
        · go_wp2_with (at_builtin; refine app_rows rfl (.tmp 48) (.tmp 51) 57 rfl wa.heap.size 47 i0 _ 3 32 Try.underlying57 HI.out HZ0.out HZ1.out HZ2.out rfl (by decide) (by decide) _ (kn + 1) (Rd.dvc.rows (l.take kn ++ [x])) rfl own3 w3.heap.size (((some ad) : Option Addr).map (·.add (kn * 3))) 0 (c - kn) [] ?hq30a ⟨rfl, fun h => absurd h (by omega)⟩ ?hq30b ?hq30c ?hq30d ?_)
          try case hq30a => first | rfl | (simp only [Option.map_some, Option.map_none, Nat.sub_self]; rfl) | (simp only [Option.map_some, Addr.add_mid, Nat.sub_self]; rfl) | simp
          try case hq30b => simp
          try case hq30c => omega
          try case hq30d => omega
          intro v4 w4 hown4 hg4
          have hb4 : Below wa.heap.size wa w4 := hb3.grown hg4 hB3 (fun j hj => (World.ownsRow.lt own3 _ hj).1)
          have hfin : OwnDvs w4 wa.heap.size v4 (Dv.put Dv.dk l x) := by
            rw [HP.out, List.drop_of_length_le (by have := HL.out; omega)]
            have e : (l.take kn ++ [x]).length = kn + 1 := by rw [List.length_append, List.length_take]; have := HL.out; simp; omega
            unfold OwnDvs
            rw [e]
            exact hown4
          clear hown4 hg4 own3
          go_wp2_with fail
          try rw [Exit.noGoto_ret]
          go_ret
          exact ⟨_, rfl, below_then hba hb4, World.ownsRow.mono hfin hba.size⟩
end Go.Proofs.Ytbhkgdfmjkblcaa
