/-
  The walks through Match on both sides, and met.
-/
import Derived.Test.YthcbplameonjlaaPolW
namespace Go.Proofs.Ythcbplameonjlaa
open Go.RowKit
attribute [local go_sem ↓] ex_st_pol
attribute [local go_sem] st_pol_new st_pol

/-- the value of a search for a policy -/
def matchV : Option Pol → Value
  | some x => .tuple #[.agg #[.int .i64 x.about, .string x.pattern, .string x.reason], .bool true]
  | none => .tuple #[.agg #[.int .i64 0, .string ⟨#[]⟩, .string ⟨#[]⟩], .bool false]
theorem hits_dec {k : Int} {s : ByteArray} {x : Pol} {e0 e1 : Bool} (h0 : (x.about == k) = e0) (h1 : G.mt (bs x.pattern) (bs s) = e1) : Pl.hits k (bs s) x = (e0 && e1) := by
  subst h0 h1
  unfold Pl.hits
  rfl

set_option maxRecDepth 100000 in
set_option maxHeartbeats 4000000 in
theorem pmatch_any (A : Option Addr) (n c : Nat) (l : List Pol) (kd : Int) (s : ByteArray) (w : World) (hr : Rd.pol.Holds w A n l) (hn : n ≤ 1000000) (hp : PolsS l) (hs : s.size ≤ 1000000) :
    Calls Try.prog 19 #[.slice A n c, .int .i64 kd, .string s] w (Ret w (matchV (Pl.find l kd (bs s)))) := by
  have HL := Lib.hid hr.length
  have HPS := Lib.hid hp
  obtain ⟨wa, hwa⟩ : ∃ wa : World, wa = w.alloc (.cells #[.int .i64 0, .string ⟨#[]⟩, .string ⟨#[]⟩] 37) := ⟨_, rfl⟩
  have hba : Below w.heap.size w wa := by rw [hwa]; exact below_alloc (Below.refl _ _) _
  have hth : thereB wa w.heap.size 3 = true := by rw [hwa]; exact thereB_new w #[.int .i64 0, .string ⟨#[]⟩, .string ⟨#[]⟩] 37 3 rfl
  have hsz : w.heap.size < wa.heap.size := by rw [hwa]; simp
  go_enter Try.func19, Try.ntmps19
  go_upto_region 1 with fail
  rw [← hwa]
  have HW := Lib.hid hwa; clear hwa
  obtain ⟨g, hg⟩ : ∃ g, w.heap.size = g := ⟨_, rfl⟩
  rw [hg] at hth hsz ⊢
  have HG := Lib.hid hg
  clear hg
  have hra := hr.on hba
  clear hp
  go_wp2_with fail
  go_loopw [12] (fun i wr => ∃ k : Nat, k ≤ n ∧ i = .int .i64 k ∧ Below wa.heap.size wa wr ∧ Pl.NoH l kd (bs s) k) (fun i _ => n - (intOf i).toNat)
  case atStart => exact ⟨0, by omega, rfl, Below.refl _ _, Pl.NoH.zero _ _ _⟩
  case round =>
    obtain ⟨k, hk, rfl, hbw, hno⟩ := hrel
    by_cases hkn : k < n
    · obtain ⟨b, o, x, rfl, hbl, hu, hmem, _, hxa⟩ := (hra.on hbw).mid (by decide) hkn
      have x0 : wr.cell? ⟨b, o + k * 3, none⟩ = some (.int .i64 x.about) := hxa 0 _ rfl
      have x1 : wr.cell? ⟨b, o + k * 3 + 1, none⟩ = some (.string x.pattern) := hxa 1 _ rfl
      have x2 : wr.cell? ⟨b, o + k * 3 + 2, none⟩ = some (.string x.reason) := hxa 2 _ rfl
      have hps := (HPS.out x hmem).1
      clear hxa hmem
      go_upto_region 4 with fail
      have bx := Box.new wr [.int .i64 x.about, .string x.pattern, .string x.reason] 37
      have hbo := below_alloc (Below.refl wr.heap.size wr) (.cells #[.int .i64 x.about, .string x.pattern, .string x.reason] 37)
      change Box (wr.alloc (.cells #[.int .i64 x.about, .string x.pattern, .string x.reason] 37)) _ _ at bx
      generalize wr.alloc (.cells #[.int .i64 x.about, .string x.pattern, .string x.reason] 37) = wx at bx hbo ⊢
      have hbx := below_then hbw hbo
      obtain ⟨q, hq⟩ : ∃ q, wr.heap.size = q := ⟨_, rfl⟩
      rw [hq] at bx ⊢
      clear hq x0 x1 x2 hbo
      have p0 : wx.cell? ⟨q, 0, none⟩ = some (.int .i64 x.about) := bx.at_ 0 _ rfl
      have p1 : wx.cell? ⟨q, 1, none⟩ = some (.string x.pattern) := bx.at_ 1 _ rfl
      obtain ⟨e0, h0⟩ : ∃ e, (x.about == kd) = e := ⟨_, rfl⟩
      obtain ⟨e1, h1⟩ : ∃ e, G.mt (bs x.pattern) (bs s) = e := ⟨_, rfl⟩
      have hd := hits_dec h0 h1
      cases e0
      · have HN := Lib.hid (hno.succ hu hd)
        clear hno hu hd h1
        go_wp2_with fail
        exact ⟨⟨k + 1, by omega, by go_num, hbx, HN.out⟩, by simp [intOf]; omega⟩
      · have CM : Hid (Calls Try.prog 36 #[.string x.pattern, .string s] wx (Ret wx (.bool e1))) := Lib.hid (by rw [← h1]; exact match_any x.pattern s wx (by omega) hs)
        clear h1
        have HU := Lib.hid hu
        have HN := Lib.hid hno
        have HD := Lib.hid hd
        clear hu hno hd
        go_wp2_with fail
        refine CM.out.mono ?_
        rintro e w3 ⟨rfl, bb3⟩
        have hb3 := below_then hbx bb3
        have bx3 := bx.on bb3
        have th3 : thereB w3 g 3 = true := thereB_on hth hsz hb3
        have p0 : w3.cell? ⟨q, 0, none⟩ = some (.int .i64 x.about) := bx3.at_ 0 _ rfl
        have p1 : w3.cell? ⟨q, 1, none⟩ = some (.string x.pattern) := bx3.at_ 1 _ rfl
        have p2 : w3.cell? ⟨q, 2, none⟩ = some (.string x.reason) := bx3.at_ 2 _ rfl
        clear CM bb3 bx bx3
        cases e1
        · have HN2 := Lib.hid (HN.out.succ HU.out HD.out)
          go_wp2_with fail
          exact ⟨⟨k + 1, by omega, by go_num, hb3, HN2.out⟩, by simp [intOf]; omega⟩
        · have HF := Lib.hid (Pl.find_some HN.out HU.out HD.out)
          have HB := Lib.hid (below_put (cs := [.int .i64 x.about, .string x.pattern, .string x.reason]) (g := g) (by have := HG.out; omega) (below_then hba hb3))
          have HT := Lib.hid th3
          clear HN HU HD
          go_wp2_with fail
          refine bodyPost_ret (v := matchV (Pl.find l kd (bs s))) ?_ rfl ⟨rfl, HB.out⟩
          rw [HF.out]
          rw [results_cell_tmp (fn := Try.f19) (p := 6) (q := 7) (ty := 37) rfl _ _ g [.int .i64 x.about, .string x.pattern, .string x.reason] _ ?_ (range_put HT.out) Try.underlying37 rfl (by rw [inf_pol]; rfl)]
          · rfl
          · rfl
    · have HF := Lib.hid (Pl.find_none (l := l) (k := kd) (name := bs s) (by have := HL.out; rwa [show l.length = k by omega]))
      have th3 : thereB wr g 3 = true := thereB_on hth hsz hbw
      have HB := Lib.hid (below_put (cs := [.int .i64 0, .string ⟨#[]⟩, .string ⟨#[]⟩]) (g := g) (by have := HG.out; omega) (below_then hba hbw))
      have HT := Lib.hid th3
      clear hno
      go_wp2_with fail
      refine bodyPost_ret (v := matchV (Pl.find l kd (bs s))) ?_ rfl ⟨rfl, HB.out⟩
      rw [HF.out]
      rw [results_cell_tmp (fn := Try.f19) (p := 6) (q := 7) (ty := 37) rfl _ _ g [.int .i64 0, .string ⟨#[]⟩, .string ⟨#[]⟩] _ ?_ (range_put HT.out) Try.underlying37 rfl (by rw [inf_pol]; rfl)]
      · rfl
      · rfl

set_option maxRecDepth 100000 in
set_option maxHeartbeats 4000000 in
theorem rpmatch_any (A : Option Addr) (n c : Nat) (l : List Pol) (kd : Int) (s : ByteArray) (w : World) (hr : Rd.pol.Holds w A n l) (hn : n ≤ 1000000) (hp : PolsS l) (hs : s.size ≤ 1000000) :
    Calls Try.prog 25 #[.slice A n c, .int .i64 kd, .string s] w (Ret w (matchV (Pl.find l kd (bs s)))) := by
  have HL := Lib.hid hr.length
  have HPS := Lib.hid hp
  obtain ⟨wa, hwa⟩ : ∃ wa : World, wa = w.alloc (.cells #[.int .i64 0, .string ⟨#[]⟩, .string ⟨#[]⟩] 37) := ⟨_, rfl⟩
  have hba : Below w.heap.size w wa := by rw [hwa]; exact below_alloc (Below.refl _ _) _
  have hth : thereB wa w.heap.size 3 = true := by rw [hwa]; exact thereB_new w #[.int .i64 0, .string ⟨#[]⟩, .string ⟨#[]⟩] 37 3 rfl
  have hsz : w.heap.size < wa.heap.size := by rw [hwa]; simp
  go_enter Try.func25, Try.ntmps25
  go_upto_region 1 with fail
  rw [← hwa]
  have HW := Lib.hid hwa; clear hwa
  obtain ⟨g, hg⟩ : ∃ g, w.heap.size = g := ⟨_, rfl⟩
  rw [hg] at hth hsz ⊢
  have HG := Lib.hid hg
  clear hg
  have hra := hr.on hba
  clear hp
  go_wp2_with fail
  go_loopw [8] (fun i wr => ∃ k : Nat, k ≤ n ∧ i = .int .i64 k ∧ Below wa.heap.size wa wr ∧ Pl.NoH l kd (bs s) k) (fun i _ => n - (intOf i).toNat)
  case atStart => exact ⟨0, by omega, rfl, Below.refl _ _, Pl.NoH.zero _ _ _⟩
  case round =>
    obtain ⟨k, hk, rfl, hbw, hno⟩ := hrel
    by_cases hkn : k < n
    · obtain ⟨b, o, x, rfl, hbl, hu, hmem, _, hxa⟩ := (hra.on hbw).mid (by decide) hkn
      have x0 : wr.cell? ⟨b, o + k * 3, none⟩ = some (.int .i64 x.about) := hxa 0 _ rfl
      have x1 : wr.cell? ⟨b, o + k * 3 + 1, none⟩ = some (.string x.pattern) := hxa 1 _ rfl
      have hps := (HPS.out x hmem).1
      have HXA := Lib.hid hxa
      have hk0 : (k : Int) < n := by omega
      clear hxa hmem
      obtain ⟨e0, h0⟩ : ∃ e, (x.about == kd) = e := ⟨_, rfl⟩
      obtain ⟨e1, h1⟩ : ∃ e, G.mt (bs x.pattern) (bs s) = e := ⟨_, rfl⟩
      have hd := hits_dec h0 h1
      cases e0
      · have HN := Lib.hid (hno.succ hu hd)
        clear hno hu hd h1
        go_wp2_with fail
        exact ⟨⟨k + 1, by omega, by go_num, hbw, HN.out⟩, by simp [intOf]; omega⟩
      · have CM : Hid (Calls Try.prog 42 #[.string x.pattern, .string s] wr (Ret wr (.bool e1))) := Lib.hid (by rw [← h1]; exact rmatch_any x.pattern s wr (by omega) hs)
        clear h1
        have HU := Lib.hid hu
        have HN := Lib.hid hno
        have HD := Lib.hid hd
        clear hu hno hd
        go_wp2_with fail
        refine CM.out.mono ?_
        rintro e w3 ⟨rfl, bb3⟩
        have hb3 := below_then hbw bb3
        have hx3 := range_on HXA.out bb3 hbl
        have th3 : thereB w3 g 3 = true := thereB_on hth hsz hb3
        have y0 : w3.cell? ⟨b, o + k * 3, none⟩ = some (.int .i64 x.about) := hx3 0 _ rfl
        have y1 : w3.cell? ⟨b, o + k * 3 + 1, none⟩ = some (.string x.pattern) := hx3 1 _ rfl
        have y2 : w3.cell? ⟨b, o + k * 3 + 2, none⟩ = some (.string x.reason) := hx3 2 _ rfl
        clear CM bb3 x0 x1 hx3
        cases e1
        · have HN2 := Lib.hid (HN.out.succ HU.out HD.out)
          go_wp2_with fail
          exact ⟨⟨k + 1, by omega, by go_num, hb3, HN2.out⟩, by simp [intOf]; omega⟩
        · have HF := Lib.hid (Pl.find_some HN.out HU.out HD.out)
          have HB := Lib.hid (below_put (cs := [.int .i64 x.about, .string x.pattern, .string x.reason]) (g := g) (by have := HG.out; omega) (below_then hba hb3))
          have HT := Lib.hid th3
          clear HN HU HD
          go_wp2_with fail
          refine bodyPost_ret (v := matchV (Pl.find l kd (bs s))) ?_ rfl ⟨rfl, HB.out⟩
          rw [HF.out]
          rw [results_cell_tmp (fn := Try.f25) (p := 6) (q := 7) (ty := 37) rfl _ _ g [.int .i64 x.about, .string x.pattern, .string x.reason] _ ?_ (range_put HT.out) Try.underlying37 rfl (by rw [inf_pol]; rfl)]
          · rfl
          · rfl
    · have HF := Lib.hid (Pl.find_none (l := l) (k := kd) (name := bs s) (by have := HL.out; rwa [show l.length = k by omega]))
      have th3 : thereB wr g 3 = true := thereB_on hth hsz hbw
      have HB := Lib.hid (below_put (cs := [.int .i64 0, .string ⟨#[]⟩, .string ⟨#[]⟩]) (g := g) (by have := HG.out; omega) (below_then hba hbw))
      have HT := Lib.hid th3
      clear hno
      go_wp2_with fail
      refine bodyPost_ret (v := matchV (Pl.find l kd (bs s))) ?_ rfl ⟨rfl, HB.out⟩
      rw [HF.out]
      rw [results_cell_tmp (fn := Try.f25) (p := 6) (q := 7) (ty := 37) rfl _ _ g [.int .i64 0, .string ⟨#[]⟩, .string ⟨#[]⟩] _ ?_ (range_put HT.out) Try.underlying37 rfl (by rw [inf_pol]; rfl)]
      · rfl
      · rfl
end Go.Proofs.Ythcbplameonjlaa
