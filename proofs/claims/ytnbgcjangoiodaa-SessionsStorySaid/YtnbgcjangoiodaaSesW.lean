/-
  The walks through sessions.ownerOf and share, and the reference's share.
-/
import Derived.Test.YtnbgcjangoiodaaSesP
import Derived.Test.YtnbgcjangoiodaaRet
import Derived.Test.YtnbgcjangoiodaaRow
import Derived.Test.YtnbgcjangoiodaaAppD
import Derived.Test.YtnbgcjangoiodaaChecked
import Derived.Deep.RegionHeld3
import Derived.Deep.DeepCutAuto
namespace Go.Proofs.Ytnbgcjangoiodaa
open Go.RowKit

/-! ### structs, laid into cells whole -/
theorem ex_st_shr (ρ : Operand → Value) (dst : Option Tmp) (x y : Operand) (ty : TypeId) (pos : String) (after : Array Edge) (guard : Option (Nat × Bool)) :
    execOp ρ ⟨dst, .store 56 x y, ty, pos, after, guard⟩ = (do stC 56 (ρ x) (ρ y); pure .skip) := rfl
theorem ex_st_own (ρ : Operand → Value) (dst : Option Tmp) (x y : Operand) (ty : TypeId) (pos : String) (after : Array Edge) (guard : Option (Nat × Bool)) :
    execOp ρ ⟨dst, .store 61 x y, ty, pos, after, guard⟩ = (do stC 61 (ρ x) (ρ y); pure .skip) := rfl
theorem ex_st_ses (ρ : Operand → Value) (dst : Option Tmp) (x y : Operand) (ty : TypeId) (pos : String) (after : Array Edge) (guard : Option (Nat × Bool)) :
    execOp ρ ⟨dst, .store 24 x y, ty, pos, after, guard⟩ = (do stC 24 (ρ x) (ρ y); pure .skip) := rfl
theorem infoShr : (Try.prog.info? 56).map (fun i => (i.zero, i.size, i.bytes)) = some (some (.agg #[.string .empty, .string .empty, .int .i64 0]), 3, 40) := by kernel_rfl
theorem infoOwn : (Try.prog.info? 61).map (fun i => (i.zero, i.size, i.bytes)) = some (some (.agg #[.string .empty, .string .empty]), 2, 32) := by kernel_rfl
theorem inf_shr : (Try.prog.info? 56).map (·.size) = some 3 := by kernel_rfl
theorem inf_own : (Try.prog.info? 61).map (·.size) = some 2 := by kernel_rfl
theorem inf_ses : (Try.prog.info? 24).map (·.size) = some 4 := by kernel_rfl
theorem st_shr_new (W : World) (g : Nat) (c0 : Array Value) (u d : ByteArray) (i : Int) (hg : g = W.heap.size) (hs : c0.size = 3) : (stC 56 (.pointer (some ⟨g, 0, none⟩)) (.agg #[.string u, .string d, .int .i64 i])).run Try.prog (W.alloc (.cells c0 56)) = .ok () (W.alloc (.cells #[.string u, .string d, .int .i64 i] 56)) :=
  run_stC_new _ W g c0 _ hg (by rw [inf_shr]; rfl) (by rw [hs]; rfl) (by simp [Value.oneCell'])
theorem st_shr (W : World) (g : Nat) (u d : ByteArray) (i : Int) (h : thereB W g 3 = true) : (stC 56 (.pointer (some ⟨g, 0, none⟩)) (.agg #[.string u, .string d, .int .i64 i])).run Try.prog W = .ok () (putRow W g [.string u, .string d, .int .i64 i]) :=
  run_stC_mid _ W g _ h (by rw [inf_shr]; rfl) (by simp [Value.oneCell'])
theorem st_own_new (W : World) (g : Nat) (c0 : Array Value) (u d : ByteArray) (hg : g = W.heap.size) (hs : c0.size = 2) : (stC 61 (.pointer (some ⟨g, 0, none⟩)) (.agg #[.string u, .string d])).run Try.prog (W.alloc (.cells c0 61)) = .ok () (W.alloc (.cells #[.string u, .string d] 61)) :=
  run_stC_new _ W g c0 _ hg (by rw [inf_own]; rfl) (by rw [hs]; rfl) (by simp [Value.oneCell'])
theorem st_ses_new (W : World) (g : Nat) (c0 : Array Value) (id : Int) (r : ByteArray) (n : Int) (A : Option Addr) (m c : Nat) (hg : g = W.heap.size) (hs : c0.size = 4) : (stC 24 (.pointer (some ⟨g, 0, none⟩)) (.agg #[.int .i64 id, .string r, .int .i64 n, .slice A m c])).run Try.prog (W.alloc (.cells c0 24)) = .ok () (W.alloc (.cells #[.int .i64 id, .string r, .int .i64 n, .slice A m c] 24)) :=
  run_stC_new _ W g c0 _ hg (by rw [inf_ses]; rfl) (by rw [hs]; rfl) (by simp [Value.oneCell'])
theorem st_ses (W : World) (g : Nat) (id : Int) (r : ByteArray) (n : Int) (A : Option Addr) (m c : Nat) (h : thereB W g 4 = true) : (stC 24 (.pointer (some ⟨g, 0, none⟩)) (.agg #[.int .i64 id, .string r, .int .i64 n, .slice A m c])).run Try.prog W = .ok () (putRow W g [.int .i64 id, .string r, .int .i64 n, .slice A m c]) :=
  run_stC_mid _ W g _ h (by rw [inf_ses]; rfl) (by simp [Value.oneCell'])
attribute [local go_sem ↓] ex_st_shr ex_st_own ex_st_ses
attribute [local go_sem] st_shr_new st_shr st_own_new st_ses_new st_ses

/-- one result, a struct in a cell -/
theorem results_cell1 {P : Program} {fn : Func} {p : Tmp} {ty : TypeId} (h : fn.results = #[.cell p ty]) (tmps : Array Value) (w : World) (g : Nat) (cs : List Value) (d : TypeDesc)
    (hp : tmps.getD p undef = .pointer (some ⟨g, 0, none⟩)) (hr : w.rangeAt g 0 cs) (hu : P.underlying ty = some d) (hd : d.isRow = true) (hi : (P.info? ty).map (·.size) = some cs.length) :
    (results fn tmps).run P w = .ok (.agg cs.toArray) w := by
  have hp' : tmps[p]?.getD undef = .pointer (some ⟨g, 0, none⟩) := by simpa using hp
  simp [results, h, hp', asAddr, run_loadVar_mid w g 0 ty cs d hr hu hd hi]
/-- three results, the first a struct in a cell -/
theorem results_cell_tmp2 {P : Program} {fn : Func} {p q r : Tmp} {ty : TypeId} (h : fn.results = #[.cell p ty, .tmp q, .tmp r]) (tmps : Array Value) (w : World) (g : Nat) (cs : List Value) (d : TypeDesc)
    (hp : tmps.getD p undef = .pointer (some ⟨g, 0, none⟩)) (hr : w.rangeAt g 0 cs) (hu : P.underlying ty = some d) (hd : d.isRow = true) (hi : (P.info? ty).map (·.size) = some cs.length) :
    (results fn tmps).run P w = .ok (.tuple #[.agg cs.toArray, tmps.getD q undef, tmps.getD r undef]) w := by
  have hp' : tmps[p]?.getD undef = .pointer (some ⟨g, 0, none⟩) := by simpa using hp
  simp [results, h, hp', asAddr, run_loadVar_mid w g 0 ty cs d hr hu hd hi]

theorem range_new1 (w : World) (o : Obj) (cs : List Value) (t : TypeId) : ((w.alloc o).alloc (.cells cs.toArray t)).rangeAt (w.heap.size + 1) 0 cs := by
  have h := range_new (w.alloc o) cs t
  simpa using h
theorem ownerOf_any (u d : ByteArray) (i : Int) (w : World) : Calls Try.prog 35 #[.agg #[.string u, .string d, .int .i64 i]] w (Ret w (.agg #[.string u, .string d])) := by
  go_enter Try.func35, Try.ntmps35
  go_wp2_with fail
  refine bodyPost_ret (v := .agg #[.string u, .string d]) ?_ rfl ⟨rfl, below_alloc (below_alloc (Below.refl _ _) _) _⟩
  rw [results_cell1 (fn := Try.f35) (p := 2) (ty := 61) rfl _ _ (w.heap.size + 1) [.string u, .string d] _ ?_ (range_new1 w _ [.string u, .string d] _) Try.underlying61 rfl (by rw [inf_own]; rfl)]
  rfl

theorem who_dec {x : Shr} {u d : ByteArray} {e1 e2 : Bool} (h1 : (x.user.toList == u.toList) = e1) (h2 : (x.dev.toList == d.toList) = e2) : decide (Ss.who x = (bs u, bs d)) = (e1 && e2) := by
  subst h1 h2
  rw [streq, streq, Bool.eq_iff_iff]
  simp [Ss.who]
/-- the value of a search for a share -/
def fndV : Option Shr → Value
  | some x => .tuple #[.agg #[.string x.user, .string x.dev, .int .i64 x.index], .bool true]
  | none => .tuple #[.agg #[.string ⟨#[]⟩, .string ⟨#[]⟩, .int .i64 0], .bool false]
abbrev sesA (id : Int) (room : ByteArray) (next : Int) (A : Option Addr) (n c : Nat) : Value := .agg #[.int .i64 id, .string room, .int .i64 next, .slice A n c]

set_option maxRecDepth 100000 in
set_option maxHeartbeats 2000000 in
theorem share_any (id : Int) (room : ByteArray) (next : Int) (A : Option Addr) (n c : Nat) (l : List Shr) (u d : ByteArray) (w : World) (hr : Rd.shr.Holds w A n l) (hn : n ≤ 1000000) :
    Calls Try.prog 33 #[sesA id room next A n c, .agg #[.string u, .string d]] w (Ret w (fndV (Ss.find l (bs u, bs d)))) := by
  have HL := Lib.hid hr.length
  obtain ⟨wa, hwa⟩ : ∃ wa : World, wa = ((w.alloc (.cells #[.int .i64 id, .string room, .int .i64 next, .slice A n c] 24)).alloc (.cells #[.string u, .string d] 61)).alloc (.cells #[.string ⟨#[]⟩, .string ⟨#[]⟩, .int .i64 0] 56) := ⟨_, rfl⟩
  have hba : Below w.heap.size w wa := by rw [hwa]; exact below_alloc (below_alloc (below_alloc (Below.refl _ _) _) _) _
  have bs0 : Box wa w.heap.size [.int .i64 id, .string room, .int .i64 next, .slice A n c] := by rw [hwa]; exact ((Box.new w [.int .i64 id, .string room, .int .i64 next, .slice A n c] _).on (below_alloc (Below.refl _ _) _)).on (below_alloc (Below.refl _ _) _)
  have bo0 : Box wa (w.heap.size + 1) [.string u, .string d] := by rw [hwa]; have h := (Box.new (w.alloc (.cells #[.int .i64 id, .string room, .int .i64 next, .slice A n c] 24)) [.string u, .string d] 61).on (below_alloc (Below.refl _ _) (.cells #[.string ⟨#[]⟩, .string ⟨#[]⟩, .int .i64 0] 56)); simpa using h
  have k0 : wa.cell? ⟨w.heap.size + 1, 0, none⟩ = some (.string u) := bo0.at_ 0 _ rfl
  have k1 : wa.cell? ⟨w.heap.size + 1, 1, none⟩ = some (.string d) := bo0.at_ 1 _ rfl
  have kS : wa.cell? ⟨w.heap.size, 3, none⟩ = some (.slice A n c) := bs0.at_ 3 _ rfl
  have hth : thereB wa (w.heap.size + 2) 3 = true := by rw [hwa]; simpa using thereB_new ((w.alloc (.cells #[.int .i64 id, .string room, .int .i64 next, .slice A n c] 24)).alloc (.cells #[.string u, .string d] 61)) #[.string ⟨#[]⟩, .string ⟨#[]⟩, .int .i64 0] 56 3 rfl
  have hsz : wa.heap.size = w.heap.size + 3 := by rw [hwa]; simp
  go_enter Try.func33, Try.ntmps33
  go_upto_region 1 with fail
  rw [← hwa]
  have HW := Lib.hid hwa; clear hwa
  obtain ⟨g, hg⟩ : ∃ g, w.heap.size = g := ⟨_, rfl⟩
  rw [hg] at bs0 bo0 k0 k1 kS hth hsz ⊢
  have HG := Lib.hid hg
  clear hg
  have hra := hr.on hba
  go_wp2_with fail
  go_loopw [11] (fun i wr => ∃ k : Nat, k ≤ n ∧ i = .int .i64 k ∧ Below wa.heap.size wa wr ∧ Ss.NoW l (bs u, bs d) k) (fun i _ => n - (intOf i).toNat)
  case atStart => exact ⟨0, by omega, rfl, Below.refl _ _, Ss.NoW.zero _ _⟩
  case round =>
    obtain ⟨k, hk, rfl, hbw, hno⟩ := hrel
    by_cases hkn : k < n
    · obtain ⟨b, o, x, rfl, hbl, hu, _, _, hxa⟩ := (hra.on hbw).mid (by decide) hkn
      have x0 : wr.cell? ⟨b, o + k * 3, none⟩ = some (.string x.user) := hxa 0 _ rfl
      have x1 : wr.cell? ⟨b, o + k * 3 + 1, none⟩ = some (.string x.dev) := hxa 1 _ rfl
      have x2 : wr.cell? ⟨b, o + k * 3 + 2, none⟩ = some (.int .i64 x.index) := hxa 2 _ rfl
      clear hxa
      go_upto_region 4 with fail
      obtain ⟨wx, hwx⟩ : ∃ wx : World, wx = wr.alloc (.cells #[.string x.user, .string x.dev, .int .i64 x.index] 56) := ⟨_, rfl⟩
      have hbx : Below wa.heap.size wa wx := by rw [hwx]; exact below_alloc hbw _
      have bxx : Box wx wr.heap.size [.string x.user, .string x.dev, .int .i64 x.index] := by rw [hwx]; exact Box.new wr [.string x.user, .string x.dev, .int .i64 x.index] _
      rw [← hwx]
      have HWX := Lib.hid hwx
      clear hwx
      obtain ⟨q, hq⟩ : ∃ q, wr.heap.size = q := ⟨_, rfl⟩
      rw [hq] at bxx ⊢
      clear hq x0 x1 x2
      have BX := Lib.hid (fun W (h : Below wx.heap.size wx W) => (⟨h, (h.cell (p := ⟨g + 1, 0, none⟩) (Nat.lt_of_lt_of_le (by show g + 1 < _; omega) hbx.size)).trans ((hbx.cell (p := ⟨g + 1, 0, none⟩) (by show g + 1 < _; omega)).trans k0), (h.cell (p := ⟨g + 1, 1, none⟩) (Nat.lt_of_lt_of_le (by show g + 1 < _; omega) hbx.size)).trans ((hbx.cell (p := ⟨g + 1, 1, none⟩) (by show g + 1 < _; omega)).trans k1), (bxx.on h).at_ 0 _ rfl, (bxx.on h).at_ 1 _ rfl, (bxx.on h).at_ 2 _ rfl⟩ :
        Below wx.heap.size wx W ∧ W.cell? ⟨g + 1, 0, none⟩ = some (.string u) ∧ W.cell? ⟨g + 1, 1, none⟩ = some (.string d) ∧ W.cell? ⟨q, 0, none⟩ = some (.string x.user) ∧ W.cell? ⟨q, 1, none⟩ = some (.string x.dev) ∧ W.cell? ⟨q, 2, none⟩ = some (.int .i64 x.index)))
      go_cut [18] (fun s wy => s = .bool (decide (Ss.who x = (bs u, bs d))) ∧ Below wx.heap.size wx wy)
      case rest =>
        obtain ⟨rfl, hby⟩ := hcut
        have hbz := hbx.trans (hby.mono hbx.size)
        have bxy := bxx.on hby
        have thy : thereB wc (g + 2) 3 = true := thereB_on hth (by omega) hbz
        have y0 : wc.cell? ⟨q, 0, none⟩ = some (.string x.user) := bxy.at_ 0 _ rfl
        have y1 : wc.cell? ⟨q, 1, none⟩ = some (.string x.dev) := bxy.at_ 1 _ rfl
        have y2 : wc.cell? ⟨q, 2, none⟩ = some (.int .i64 x.index) := bxy.at_ 2 _ rfl
        by_cases hw : Ss.who x = (bs u, bs d)
        · rw [decide_eq_true hw]
          have HF := Lib.hid (Ss.find_some hno hu hw)
          have HB := Lib.hid (below_put (cs := [.string x.user, .string x.dev, .int .i64 x.index]) (g := g + 2) (by have := HG.out; omega) (below_then hba hbz))
          have HT := Lib.hid thy
          clear hno hu hw hbz hby hbx hbw
          go_wp2_with fail
          refine bodyPost_ret (v := fndV (Ss.find l (bs u, bs d))) ?_ rfl ⟨rfl, HB.out⟩
          rw [HF.out]
          rw [results_cell_tmp (fn := Try.f33) (p := 4) (q := 5) (ty := 56) rfl _ _ (g + 2) [.string x.user, .string x.dev, .int .i64 x.index] _ ?_ (range_put HT.out) Try.underlying56 rfl (by rw [inf_shr]; rfl)]
          · rfl
          · rfl
        · rw [decide_eq_false hw]
          have HN := Lib.hid (hno.succ hu hw)
          clear hno hu hw
          go_wp2_with fail
          exact ⟨⟨k + 1, by omega, by go_num, hbz, HN.out⟩, by simp [intOf]; omega⟩
      obtain ⟨e1, he1⟩ : ∃ e, (x.user.toList == u.toList) = e := ⟨_, rfl⟩
      obtain ⟨e2, he2⟩ : ∃ e, (x.dev.toList == d.toList) = e := ⟨_, rfl⟩
      have HD : Hid (decide (Ss.who x = (bs u, bs d)) = (e1 && e2)) := Lib.hid (who_dec he1 he2)
      clear hu hno
      cases e1 <;> cases e2
      all_goals
        go_region_held3 (fun W => Below wx.heap.size wx W ∧ W.cell? ⟨g + 1, 0, none⟩ = some (.string u) ∧ W.cell? ⟨g + 1, 1, none⟩ = some (.string d) ∧ W.cell? ⟨q, 0, none⟩ = some (.string x.user) ∧ W.cell? ⟨q, 1, none⟩ = some (.string x.dev) ∧ W.cell? ⟨q, 2, none⟩ = some (.int .i64 x.index))
          (first | exact BX.out _ (by assumption) | exact BX.out _ (Below.drew (by assumption)) | exact BX.out _ (Below.refl _ _) | exact BX.out _ (Below.drew (Below.refl _ _)))
          (first | (go_at_call 35; have hB := And.left ‹Below wx.heap.size wx _ ∧ _›; refine (ownerOf_any _ _ _ _).mono ?_; rintro e wz ⟨rfl, bz⟩; have bz2 : Below wx.heap.size wx wz := below_then hB bz; clear bz hB))
      all_goals go_wp2_with fail
      all_goals go_meet
      all_goals exact ⟨by rw [HD.out]; rfl, by assumption⟩
    · have HF := Lib.hid (Ss.find_none (l := l) (a := (bs u, bs d)) (by have := HL.out; rwa [show l.length = k by omega]))
      have HB := Lib.hid (below_put (cs := [.string ⟨#[]⟩, .string ⟨#[]⟩, .int .i64 0]) (g := g + 2) (by have := HG.out; omega) (below_then hba hbw))
      have HT := Lib.hid (thereB_on hth (by omega) hbw)
      have hth2 := HT.out
      clear hno hbw
      go_wp2_with fail
      refine bodyPost_ret (v := fndV (Ss.find l (bs u, bs d))) ?_ rfl ⟨rfl, HB.out⟩
      rw [HF.out]
      rw [results_cell_tmp (fn := Try.f33) (p := 4) (q := 5) (ty := 56) rfl _ _ (g + 2) [.string ⟨#[]⟩, .string ⟨#[]⟩, .int .i64 0] _ ?_ (range_put HT.out) Try.underlying56 rfl (by rw [inf_shr]; rfl)]
      · rfl
      · rfl
end Go.Proofs.Ytnbgcjangoiodaa
