/-
  The walks through access.matched, Allowed, Keeps, and the reference's Allowed, Keeps.
-/
import Derived.Test.YtbdbhnmeainmfaaEvents
import Derived.Test.YtbdbhnmeainmfaaRow
import Derived.Test.YtbdbhnmeainmfaaGlobS
import Derived.Deep.RegionHeld3
import Derived.Deep.DeepCutAuto
import Derived.BigQuiet
namespace Go.Proofs.Ytbdbhnmeainmfaa
open Go.RowKit

/-- a content as a value -/
def cv (c : Cnt) : Value := .agg (Rd.cnt.cells c).toArray
theorem cv_is (c : Cnt) : cv c = .agg #[.string c.text, .int .i64 c.n, .int .i64 c.target, .bool c.thread, .string c.via, .slice c.allow.A c.allow.n c.allow.c, .slice c.deny.A c.deny.n c.deny.c,
    .slice c.levels.users.A c.levels.users.n c.levels.users.c, .slice c.levels.kinds.A c.levels.kinds.n c.levels.kinds.c,
    .int .i64 c.levels.user, .int .i64 c.levels.message, .int .i64 c.levels.state, .int .i64 c.levels.invite, .int .i64 c.levels.kick, .int .i64 c.levels.ban, .int .i64 c.levels.redact] := rfl
/-- the two lists of a content, read; short ones -/
structure Lists (w : World) (c : Cnt) : Prop where
  a : Strs w c.allow.A c.allow.n c.allow.l
  d : Strs w c.deny.A c.deny.n c.deny.l
  na : c.allow.n ≤ 1000000
  nd : c.deny.n ≤ 1000000
  sa : Short c.allow.l
  sd : Short c.deny.l
theorem Lists.on {w w' : World} {c : Cnt} (h : Lists w c) (hb : Below w.heap.size w w') : Lists w' c := ⟨h.a.on hb, h.d.on hb, h.na, h.nd, h.sa, h.sd⟩
def okB (c : Cnt) (s : ByteArray) : Bool := !anyI c.deny.l s && anyI c.allow.l s

set_option maxHeartbeats 400000 in
theorem matched_any (A : Option Addr) (n c g : Nat) (l : List ByteArray) (s : ByteArray) (w : World) (hg : w.cell? ⟨g, 0, none⟩ = some (.slice A n c)) (hr : Strs w A n l) (hn : n ≤ 1000000) (hs : s.size ≤ 1000000) (hx : Short l) :
    Calls Try.prog 20 #[.string s, .slice (some ⟨g, 0, none⟩) 1 1] w (Ret w (.bool (anyI l s))) := by
  have HX := Lib.hid hx; clear hx
  have hlt := World.block_lt_of_cell? _ _ hg
  go_enter Try.func20, Try.ntmps20
  go_wp2_with fail
  go_loopw [9] (fun i wr => ∃ k : Nat, k ≤ 1 ∧ i = .int .i64 k ∧ Below w.heap.size w wr ∧ (k = 1 → anyI l s = false)) (fun i _ => 1 - (intOf i).toNat)
  case atStart => exact ⟨0, by omega, rfl, Below.refl _ _, by omega⟩
  case round =>
    obtain ⟨k, hk, rfl, hbw, hno⟩ := hrel
    rcases Nat.eq_zero_or_pos k with h0 | h0
    · subst h0
      have hc : wr.cell? ⟨g, 0, none⟩ = some (.slice A n c) := (hbw.cell (p := ⟨g, 0, none⟩) hlt).trans hg
      clear hno hg
      go_wp2_with fail
      refine (any_any A n c l s wr (hr.on hbw) hn hs HX.out).mono ?_
      rintro e w1 ⟨rfl, hb1⟩
      have hb2 := below_then hbw hb1
      cases hm : anyI l s
      · have HM := Lib.hid hm; clear hm
        go_wp2_with fail
        exact ⟨⟨1, by omega, by go_num, hb2, fun _ => HM.out⟩, by simp [intOf]⟩
      · have HM := Lib.hid hm; clear hm
        go_wp2_with fail
        go_ret
        exact ⟨ret_bool HM.out.symm, hb2⟩
    · have hk1 : k = 1 := by omega
      have HM := Lib.hid (hno hk1)
      clear hno
      subst hk1
      go_wp2_with fail
      go_ret
      exact ⟨ret_bool HM.out.symm, hbw⟩

set_option maxHeartbeats 400000 in
theorem allowed_any (c : Cnt) (s : ByteArray) (w : World) (h : Lists w c) (hs : s.size ≤ 1000000) :
    Calls Try.prog 9 #[cv c, .string s] w (Ret w (.bool (okB c s))) := by
  obtain ⟨ha, hd, na, nd, sa, sd⟩ := h
  have HA := Lib.hid sa; have HD := Lib.hid sd; clear sa sd
  rw [cv_is]
  go_enter Try.func9, Try.ntmps9
  go_wp2_with fail
  refine (matched_any c.deny.A c.deny.n c.deny.c _ c.deny.l s _ (by simp) (hd.on (below_alloc (below_alloc (Below.refl _ _) _) _)) nd hs HD.out).mono ?_
  rintro e w1 ⟨rfl, hb1⟩
  have c1 : Below w.heap.size w w1 := below_then (below_alloc (below_alloc (Below.refl _ _) _) _) hb1
  have hc5 : w1.cell? ⟨w.heap.size, 5, none⟩ = some (.slice c.allow.A c.allow.n c.allow.c) := by rw [hb1.cell (p := ⟨w.heap.size, 5, none⟩) (by simp; omega)]; simp
  cases hm : anyI c.deny.l s
  · have HM := Lib.hid hm; clear hm
    go_wp2_with fail
    refine (matched_any c.allow.A c.allow.n c.allow.c _ c.allow.l s _ (World.cell?_alloc_new ..) (ha.on (below_alloc c1 _)) na hs HA.out).mono ?_
    rintro e w2 ⟨rfl, hb2⟩
    have c2 : Below w.heap.size w w2 := below_then (below_alloc c1 _) hb2
    go_wp2_with fail
    go_ret
    exact ⟨ret_bool (by unfold okB; rw [HM.out]; rfl), c2⟩
  · have HM := Lib.hid hm; clear hm
    go_wp2_with fail
    go_ret
    exact ⟨ret_bool (by unfold okB; rw [HM.out]; rfl), c1⟩

set_option maxHeartbeats 400000 in
theorem rallowed_any (c : Cnt) (s : ByteArray) (w : World) (h : Lists w c) (hs : s.size ≤ 1000000) :
    Calls Try.prog 10 #[cv c, .string s] w (Ret w (.bool (okB c s))) := by
  obtain ⟨ha, hd, na, nd, sa, sd⟩ := h
  have HA := Lib.hid sa; have HD := Lib.hid sd; clear sa sd
  rw [cv_is]
  go_enter Try.func10, Try.ntmps10
  go_wp2_with fail
  refine (rany_any c.deny.A c.deny.n c.deny.c c.deny.l s _ (hd.on (below_alloc (Below.refl _ _) _)) nd hs HD.out).mono ?_
  rintro e w1 ⟨rfl, hb1⟩
  have c1 : Below w.heap.size w w1 := below_then (below_alloc (Below.refl _ _) _) hb1
  have hc5 : w1.cell? ⟨w.heap.size, 5, none⟩ = some (.slice c.allow.A c.allow.n c.allow.c) := by rw [hb1.cell (p := ⟨w.heap.size, 5, none⟩) (by simp)]; simp
  cases hm : anyI c.deny.l s
  · have HM := Lib.hid hm; clear hm
    go_wp2_with fail
    refine (rany_any c.allow.A c.allow.n c.allow.c c.allow.l s _ (ha.on c1) na hs HA.out).mono ?_
    rintro e w2 ⟨rfl, hb2⟩
    have c2 : Below w.heap.size w w2 := below_then c1 hb2
    go_wp2_with fail
    go_ret
    exact ⟨ret_bool (by unfold okB; rw [HM.out]; rfl), c2⟩
  · have HM := Lib.hid hm; clear hm
    go_wp2_with fail
    go_ret
    exact ⟨ret_bool (by unfold okB; rw [HM.out]; rfl), c1⟩

/-! ### whole contents, loaded -/
theorem execOp_ld_cnt (ρ : Operand → Value) (dst : Option Tmp) (x : Operand) (ty : TypeId) (pos : String) (after : Array Edge) (guard : Option (Nat × Bool)) :
    execOp ρ ⟨dst, .load 28 x, ty, pos, after, guard⟩ = (do pure (.value (← ldC 28 (ρ x)))) := rfl
theorem info_cnt : (Try.prog.info? 28).map (·.size) = some 16 := by kernel_rfl
theorem run_ld_cnt (b o : Nat) (w : World) (h : hasRow w b o 16 = true) : (ldC 28 (.pointer (some ⟨b, o, none⟩))).run Try.prog w = .ok (rowAt w b o 16) w :=
  run_ldC _ _ 16 Try.underlying28 rfl info_cnt b o w h
theorem Box.cv {w : World} {g : Nat} {c : Cnt} (h : Box w g (Rd.cnt.cells c)) : rowAt w g 0 16 = cv c := h.val (Rd.cnt.len c)
attribute [local go_sem ↓] execOp_ld_cnt
attribute [local go_sem] run_ld_cnt

def S2 (w : World) (g h : Nat) (c d : Cnt) (w' : World) : Prop := Below w.heap.size w w' ∧ hasRow w' g 0 16 = true ∧ rowAt w' g 0 16 = cv c ∧ hasRow w' h 0 16 = true ∧ rowAt w' h 0 16 = cv d
theorem s2 {w : World} {g h : Nat} {c d : Cnt} (hc : Box w g (Rd.cnt.cells c)) (hd : Box w h (Rd.cnt.cells d)) {w' : World} (hb : Below w.heap.size w w') : S2 w g h c d w' :=
  ⟨hb, (hc.on hb).has (Rd.cnt.len c), (hc.on hb).cv, (hd.on hb).has (Rd.cnt.len d), (hd.on hb).cv⟩

set_option maxHeartbeats 400000 in
theorem keeps_any (c d : Cnt) (s : ByteArray) (w : World) (hc : Lists w c) (hd : Lists w d) (hs : s.size ≤ 1000000) :
    Calls Try.prog 11 #[cv c, cv d, .string s] w (Ret w (.bool (okB c s == okB d s))) := by
  obtain ⟨wa, hwa⟩ : ∃ wa : World, wa = (w.alloc (.cells (Rd.cnt.cells c).toArray 28)).alloc (.cells (Rd.cnt.cells d).toArray 28) := ⟨_, rfl⟩
  have hba : Below w.heap.size w wa := by rw [hwa]; exact below_alloc (below_alloc (Below.refl _ _) _) _
  have b1 : Box wa w.heap.size (Rd.cnt.cells c) := by rw [hwa]; exact (Box.new w _ _).on (below_alloc (Below.refl _ _) _)
  have b2 : Box wa (w.heap.size + 1) (Rd.cnt.cells d) := by rw [hwa]; simpa using Box.new (w.alloc (.cells (Rd.cnt.cells c).toArray 28)) (Rd.cnt.cells d) 28
  have hca := hc.on hba; have hda := hd.on hba
  have SS := Lib.hid (fun w' (h : Below wa.heap.size wa w') => s2 b1 b2 h)
  unfold cv
  generalize (Rd.cnt.cells c).toArray = xs at hwa ⊢
  generalize (Rd.cnt.cells d).toArray = ys at hwa ⊢
  have HW := Lib.hid hwa; clear hwa b1 b2 hc hd
  go_enter Try.func11, Try.ntmps11
  go_wp2_with fail
  rw [← HW.out]
  clear HW
  go_region_held3 (fun w' => Below wa.heap.size wa w' ∧ hasRow w' w.heap.size 0 16 = true ∧ rowAt w' w.heap.size 0 16 = cv c ∧ hasRow w' (w.heap.size + 1) 0 16 = true ∧ rowAt w' (w.heap.size + 1) 0 16 = cv d) (first | exact SS.out _ (by assumption) | exact SS.out _ (Below.drew (by assumption)) | exact SS.out _ (Below.refl _ _) | exact SS.out _ (Below.drew (Below.refl _ _)))
    (first
    | (go_at_call_of 9 (cv c); have hB := And.left ‹Below wa.heap.size wa _ ∧ _›; refine (allowed_any c s _ (hca.on hB) hs).mono ?_; rintro e wx ⟨rfl, bx⟩; have bx2 : Below wa.heap.size wa wx := below_then hB bx; clear bx hB)
    | (go_at_call_of 9 (cv d); have hB := And.left ‹Below wa.heap.size wa _ ∧ _›; refine (allowed_any d s _ (hda.on hB) hs).mono ?_; rintro e wx ⟨rfl, bx⟩; have bx2 : Below wa.heap.size wa wx := below_then hB bx; clear bx hB))
  all_goals go_wp2_with fail
  all_goals go_ret
  all_goals exact ⟨rfl, below_then hba (by assumption)⟩

set_option maxHeartbeats 400000 in
theorem rkeeps_any (c d : Cnt) (s : ByteArray) (w : World) (hc : Lists w c) (hd : Lists w d) (hs : s.size ≤ 1000000) :
    Calls Try.prog 12 #[cv c, cv d, .string s] w (Ret w (.bool (okB c s == okB d s))) := by
  obtain ⟨wa, hwa⟩ : ∃ wa : World, wa = (w.alloc (.cells (Rd.cnt.cells c).toArray 28)).alloc (.cells (Rd.cnt.cells d).toArray 28) := ⟨_, rfl⟩
  have hba : Below w.heap.size w wa := by rw [hwa]; exact below_alloc (below_alloc (Below.refl _ _) _) _
  have b1 : Box wa w.heap.size (Rd.cnt.cells c) := by rw [hwa]; exact (Box.new w _ _).on (below_alloc (Below.refl _ _) _)
  have b2 : Box wa (w.heap.size + 1) (Rd.cnt.cells d) := by rw [hwa]; simpa using Box.new (w.alloc (.cells (Rd.cnt.cells c).toArray 28)) (Rd.cnt.cells d) 28
  have hca := hc.on hba; have hda := hd.on hba
  have SS := Lib.hid (fun w' (h : Below wa.heap.size wa w') => s2 b1 b2 h)
  unfold cv
  generalize (Rd.cnt.cells c).toArray = xs at hwa ⊢
  generalize (Rd.cnt.cells d).toArray = ys at hwa ⊢
  have HW := Lib.hid hwa; clear hwa b1 b2 hc hd
  go_enter Try.func12, Try.ntmps12
  go_wp2_with fail
  rw [← HW.out]
  clear HW
  go_region_held3 (fun w' => Below wa.heap.size wa w' ∧ hasRow w' w.heap.size 0 16 = true ∧ rowAt w' w.heap.size 0 16 = cv c ∧ hasRow w' (w.heap.size + 1) 0 16 = true ∧ rowAt w' (w.heap.size + 1) 0 16 = cv d) (first | exact SS.out _ (by assumption) | exact SS.out _ (Below.drew (by assumption)) | exact SS.out _ (Below.refl _ _) | exact SS.out _ (Below.drew (Below.refl _ _)))
    (first
    | (go_at_call_of 10 (cv c); have hB := And.left ‹Below wa.heap.size wa _ ∧ _›; refine (rallowed_any c s _ (hca.on hB) hs).mono ?_; rintro e wx ⟨rfl, bx⟩; have bx2 : Below wa.heap.size wa wx := below_then hB bx; clear bx hB)
    | (go_at_call_of 10 (cv d); have hB := And.left ‹Below wa.heap.size wa _ ∧ _›; refine (rallowed_any d s _ (hda.on hB) hs).mono ?_; rintro e wx ⟨rfl, bx⟩; have bx2 : Below wa.heap.size wa wx := below_then hB bx; clear bx hB))
  all_goals go_wp2_with fail
  all_goals go_ret
  all_goals exact ⟨rfl, below_then hba (by assumption)⟩
end Go.Proofs.Ytbdbhnmeainmfaa
