/-
  The walk through the law AccessGrows.
-/
import Derived.Test.YtbdbhnmeainmfaaAccR
import Derived.Test.YtbdbhnmeainmfaaAppS
import Derived.Deep.RegionHeld3
namespace Go.Proofs.Ytbdbhnmeainmfaa
open Go.RowKit

attribute [local go_sem ↓] execOp_ld_cnt execOp_st_cnt
attribute [local go_sem] run_ld_cnt run_st_cnt run_st_cnt_new
theorem thereB_put {w : World} {g g' n : Nat} {cs : List Value} (h : thereB w g n = true) : thereB (putRow w g' cs) g n = true := by
  unfold putRow; exact thereB_of (World.there_setCells (there_of h) _ _ _)
theorem thereB_new' {w : World} {g : Nat} {c : Array Value} {t : TypeId} {n : Nat} (hg : g = w.heap.size) (hn : n = c.size) : thereB (w.alloc (.cells c t)) g n = true := by
  subst hg; exact thereB_new w c t n hn

theorem held_box {w1 w' : World} {g : Nat} {c : Cnt} (hx : Box w1 g (Rd.cnt.cells c)) (hb : Below w1.heap.size w1 w') : Below w1.heap.size w1 w' ∧ hasRow w' g 0 16 = true ∧ rowAt w' g 0 16 = cv c := ⟨hb, box_lit (hx.on hb)⟩
theorem held_three {w w' : World} {g1 g2 g3 : Nat} {c1 c2 c3 : Cnt} (x1 : Box w g1 (Rd.cnt.cells c1)) (x2 : Box w g2 (Rd.cnt.cells c2)) (x3 : Box w g3 (Rd.cnt.cells c3)) (hb : Below w.heap.size w w') :
    Below w.heap.size w w' ∧ hasRow w' g1 0 16 = true ∧ rowAt w' g1 0 16 = cv c1 ∧ hasRow w' g2 0 16 = true ∧ rowAt w' g2 0 16 = cv c2 ∧ hasRow w' g3 0 16 = true ∧ rowAt w' g3 0 16 = cv c3 :=
  ⟨hb, (box_lit (x1.on hb)).1, (box_lit (x1.on hb)).2, (box_lit (x2.on hb)).1, (box_lit (x2.on hb)).2, (box_lit (x3.on hb)).1, (box_lit (x3.on hb)).2⟩
theorem thereB_drew {w : World} {g n : Nat} (h : thereB w g n = true) : thereB w.drew g n = true := thereB_of ((World.there_drew w g 0 n).2 (there_of h))
theorem thereB_a (W : World) (c0 : Array Value) (t : TypeId) (o : Obj) (h : 16 = c0.size) : thereB ((W.alloc (.cells c0 t)).alloc o).drew W.heap.size 16 = true := thereB_drew (thereB_alloc (thereB_new' rfl h) o)
theorem thereB_b (W : World) (c0 : Array Value) (t : TypeId) (o : Obj) (h : 16 = c0.size) : thereB ((W.alloc o).alloc (.cells c0 t)).drew (W.heap.size + 1) 16 = true := thereB_drew (thereB_new' (by simp) h)
theorem thereB_pa (W : World) (c0 : Array Value) (t : TypeId) (o : Obj) (g : Nat) (cs : List Value) (h : 16 = c0.size) : thereB (putRow ((W.alloc (.cells c0 t)).alloc o).drew g cs) W.heap.size 16 = true := thereB_put (thereB_a W c0 t o h)
theorem thereB_pb (W : World) (c0 : Array Value) (t : TypeId) (o : Obj) (g : Nat) (cs : List Value) (h : 16 = c0.size) : thereB (putRow ((W.alloc o).alloc (.cells c0 t)).drew g cs) (W.heap.size + 1) 16 = true := thereB_put (thereB_b W c0 t o h)
attribute [local go_sem] thereB_a thereB_b thereB_pa thereB_pb
theorem range_put_apart {w : World} {g g' : Nat} {cs ds : List Value} (h : w.rangeAt g 0 cs) (hne : g ≠ g') : (putRow w g' ds).rangeAt g 0 cs := by
  unfold putRow; exact World.rangeAt_setCells_apart h _ _ _ (Or.inl hne)
theorem thereB_set {w : World} {g n g' k : Nat} {v : Value} (h : thereB w g n = true) : thereB (w.setCell ⟨g', k, none⟩ v) g n = true := thereB_of (World.there_setCells (there_of h) g' k [v])
theorem below_set {B g k : Nat} {a w : World} {v : Value} (hg : B ≤ g) (h : Below B a w) : Below B a (w.setCell ⟨g, k, none⟩ v) := Below.setCell h hg v
theorem box_set_size {w : World} {g k : Nat} {v : Value} : w.heap.size ≤ (w.setCell ⟨g, k, none⟩ v).heap.size := by
  exact (below_set (B := 0) (k := k) (v := v) (Nat.zero_le g) (Below.refl 0 w)).size
theorem box_set {w : World} {g k : Nat} {cs : List Value} {v : Value} (h : Box w g cs) (ht : thereB w g 16 = true) (hk : k < cs.length) (hl : cs.length = 16) : Box (w.setCell ⟨g, k, none⟩ v) g (cs.set k v) := by
  refine ⟨Nat.lt_of_lt_of_le h.lt box_set_size, fun j u hu => ?_⟩
  by_cases hj : j = k
  · subst hj
    have h1 : (w.setCells g j [v]).rangeAt g j [v] := World.rangeAt_setCells_same w g j [v] (fun i hi => by
      have : i = 0 := by simpa using hi
      subst this
      have := there_of ht j (by omega)
      simpa using this)
    have h2 : (w.setCell ⟨g, j, none⟩ v).cell? ⟨g, j + 0, none⟩ = some v := h1 0 v rfl
    rw [List.getElem?_set_self hk] at hu
    cases hu
    simpa using h2
  · rw [List.getElem?_set_ne (fun e => hj e.symm)] at hu
    rw [World.cell?_setCell_other _ _ _ _ (fun e => hj (by injection e with _ e2 _; omega))]
    exact h.at_ j u hu
theorem box_set_apart {w : World} {g g' k : Nat} {cs : List Value} {v : Value} (h : Box w g cs) (hne : g ≠ g') : Box (w.setCell ⟨g', k, none⟩ v) g cs :=
  ⟨Nat.lt_of_lt_of_le h.lt box_set_size, World.rangeAt_setCells_apart h.at_ g' k [v] (Or.inl hne)⟩
theorem owns_on {w w' : World} {base size n : Nat} {e : TypeId} {v : Value} {xs : List Value} (h : w.ownsRow base e size v n xs) (hb : Below w.heap.size w w') : w'.ownsRow base e size v n xs := by
  refine ⟨h.1, ?_⟩
  rcases h.2 with hn | ⟨g, cap, cur, rfl, hb', hgg, rest⟩
  · exact .inl hn
  · exact .inr ⟨g, cap, cur, rfl, hb', (hb.block g (Array.getElem?_eq_some_iff.1 hgg).1).trans hgg, rest⟩
theorem anyI_snoc {l : List ByteArray} {s : ByteArray} (x : ByteArray) (h : anyI l s = true) : anyI (l ++ [x]) s = true := by
  unfold anyI firstI at h ⊢
  rw [List.findIdx?_append]
  cases h1 : l.findIdx? (fun p => G.mt (bs p) (bs s)) with
  | some i => simp
  | none => rw [h1] at h; simp at h
theorem ok_allow {c : Cnt} {s pt : ByteArray} {A : Option Addr} {n k : Nat} (h : okB c s = true) : okB { c with allow := ⟨A, n, k, c.allow.l ++ [pt]⟩ } s = true := by
  unfold okB at h ⊢
  rw [Bool.and_eq_true] at h ⊢
  exact ⟨h.1, anyI_snoc pt h.2⟩
theorem ok_deny {c : Cnt} {s pt : ByteArray} {A : Option Addr} {n k : Nat} (h : okB { c with deny := ⟨A, n, k, c.deny.l ++ [pt]⟩ } s = true) : okB c s = true := by
  unfold okB at h ⊢
  rw [Bool.and_eq_true, Bool.not_eq_true'] at h ⊢
  refine ⟨?_, h.2⟩
  cases hd : anyI c.deny.l s with
  | false => rfl
  | true => rw [anyI_snoc pt hd] at h; cases h.1
theorem lists_deny {w : World} {c : Cnt} {pt : ByteArray} {A : Option Addr} {k : Nat} (h : Lists w c) (hs : Strs w A (c.deny.n + 1) (c.deny.l ++ [pt])) (hp : pt.size ≤ 1000000) (hn : c.deny.n + 1 ≤ 1000000) : Lists w { c with deny := ⟨A, c.deny.n + 1, k, c.deny.l ++ [pt]⟩ } :=
  ⟨h.a, hs, h.na, hn, h.sa, fun x hx => by
    rcases List.mem_append.1 hx with h1 | h1
    · exact h.sd x h1
    · have : x = pt := by simpa using h1
      subst this; exact hp⟩
theorem lists_allow {w : World} {c : Cnt} {pt : ByteArray} {A : Option Addr} {k : Nat} (h : Lists w c) (hs : Strs w A (c.allow.n + 1) (c.allow.l ++ [pt])) (hp : pt.size ≤ 1000000) (hn : c.allow.n + 1 ≤ 1000000) : Lists w { c with allow := ⟨A, c.allow.n + 1, k, c.allow.l ++ [pt]⟩ } :=
  ⟨hs, h.d, hn, h.nd, fun x hx => by
    rcases List.mem_append.1 hx with h1 | h1
    · exact h.sa x h1
    · have : x = pt := by simpa using h1
      subst this; exact hp, h.sd⟩
theorem lists_off {w : World} {c : Cnt} (h : Lists w c) : Lists w { c with allow := ⟨none, 0, 0, []⟩ } := ⟨Reads.none_, h.d, Nat.zero_le _, h.nd, (by intro x hx; simp at hx), h.sd⟩
theorem ok_off {c : Cnt} {s : ByteArray} : okB { c with allow := ⟨none, 0, 0, []⟩ } s = false := by
  have h0 : anyI [] s = false := by show decide (0 ≤ (-1 : Int)) = false; decide
  unfold okB
  simp only [h0, Bool.and_false]
/-- two boxes, made behind the world W, each with the cells cs -/
structure TwoIn (W wx : World) (g g' : Nat) (cs : List Value) : Prop where
  ne : g ≠ g'
  lo : W.heap.size ≤ g
  lo' : W.heap.size ≤ g'
  th : thereB wx g 16 = true
  th' : thereB wx g' 16 = true
  bx : Box wx g cs
  bx' : Box wx g' cs
  be : Below W.heap.size W wx
theorem two_put {W : World} {c0 c1 : Array Value} {t : TypeId} {g g' : Nat} {cs : List Value} (hl : cs.length = 16) (h0 : 16 = c0.size) (h1 : 16 = c1.size) (hg : (g = W.heap.size ∧ g' = W.heap.size + 1) ∨ (g = W.heap.size + 1 ∧ g' = W.heap.size)) :
    TwoIn W (putRow (putRow ((W.alloc (.cells c0 t)).alloc (.cells c1 t)).drew g cs) g' cs) g g' cs := by
  have t1 := thereB_a W c0 t (.cells c1 t) h0
  have t2 := thereB_b W c1 t (.cells c0 t) h1
  have be : Below W.heap.size W ((W.alloc (.cells c0 t)).alloc (.cells c1 t)).drew := Below.drew (below_alloc (below_alloc (Below.refl _ _) _) _)
  have key : ∀ {g g' : Nat}, g ≠ g' → W.heap.size ≤ g → W.heap.size ≤ g' → g < W.heap.size + 2 → g' < W.heap.size + 2 → thereB ((W.alloc (.cells c0 t)).alloc (.cells c1 t)).drew g 16 = true → thereB ((W.alloc (.cells c0 t)).alloc (.cells c1 t)).drew g' 16 = true →
      TwoIn W (putRow (putRow ((W.alloc (.cells c0 t)).alloc (.cells c1 t)).drew g cs) g' cs) g g' cs := fun {g g'} ne lo lo' hi hi' th th' => by
    have sz : W.heap.size + 2 ≤ (putRow (putRow ((W.alloc (.cells c0 t)).alloc (.cells c1 t)).drew g cs) g' cs).heap.size := by
      have h := (below_put (B := W.heap.size) (cs := cs) lo' (below_put (cs := cs) lo (Below.refl W.heap.size ((W.alloc (.cells c0 t)).alloc (.cells c1 t)).drew))).size
      simpa using h
    exact ⟨ne, lo, lo', thereB_put (thereB_put th), thereB_put (thereB_put th'), ⟨by omega, range_put_apart (range_put (by rw [hl]; exact th)) ne⟩, ⟨by omega, range_put (by rw [hl]; exact thereB_put th')⟩, below_put lo' (below_put lo be)⟩
  rcases hg with ⟨rfl, rfl⟩ | ⟨rfl, rfl⟩
  · exact key (by omega) (by omega) (by omega) (by omega) (by omega) t1 t2
  · exact key (by omega) (by omega) (by omega) (by omega) (by omega) t2 t1
set_option maxRecDepth 100000 in
set_option maxHeartbeats 8000000 in
theorem accessGrows_any (c : Cnt) (pt s : ByteArray) (w : World) (hc : Rd.cnt.Ok w c) (hp : pt.size ≤ maxLen) (hs : s.size ≤ maxLen) :
    Calls Try.prog 5 #[cv c, .string pt, .string s] w (Ret w (.bool true)) := by
  obtain ⟨wa, hwa⟩ : ∃ wa : World, wa = w.alloc (.cells (Rd.cnt.cells c).toArray 28) := ⟨_, rfl⟩
  have hba : Below w.heap.size w wa := by rw [hwa]; exact below_alloc (Below.refl _ _) _
  have b1 : Box wa w.heap.size (Rd.cnt.cells c) := by rw [hwa]; exact Box.new w _ _
  have hca := Rd.cnt.on hc hba
  clear hc
  unfold cv
  generalize (Rd.cnt.cells c).toArray = xs at hwa ⊢
  have HW := Lib.hid hwa; clear hwa
  have HCA := Lib.hid hca
  clear hca
  go_enter Try.func5, Try.ntmps5
  go_upto_region 1 with fail
  rw [← HW.out]
  clear HW
  obtain ⟨h1, v1⟩ := box_lit b1
  go_wp2_with fail
  refine (rgreat14_any c s _ HCA.out hs).mono ?_
  rintro e w1 ⟨g1, rfl, hg1, d1⟩
  clear h1 v1
  cases g1
  · have HS := Lib.hid (hg1 rfl)
    clear hg1
    by_cases h80 : (80 : Int) < (pt.size : Nat)
    · go_wp2_with fail
      refine (awake14_any _).mono ?_
      rintro e w3 ⟨rfl, b3⟩
      go_wp2_with fail
      go_ret
      exact ⟨rfl, below_then hba (below_then d1 b3)⟩
    go_upto_region 3 with fail
    obtain ⟨h1, v1⟩ := box_lit (b1.on d1)
    rw [cv_is] at v1
    have HX := Lib.hid (b1.on d1)
    go_cut [7, 8] (fun s7 s8 wx => ∃ g7 g8 : Nat, s7 = .pointer (some ⟨g7, 0, none⟩) ∧ s8 = .pointer (some ⟨g8, 0, none⟩) ∧ TwoIn w1 wx g7 g8 (Rd.cnt.cells c))
    case rest =>
      obtain ⟨g7, g8, rfl, rfl, hT⟩ := hcut
      clear h1 v1
      obtain ⟨i0, hi, hz0, hz1, hz2⟩ := info_parts infoStrA
      have hbc := HX.out.on hT.be
      have p5 : wc.cell? ⟨w.heap.size, 5, none⟩ = some (.slice c.allow.A c.allow.n c.allow.c) := hbc.at_ 5 _ rfl
      have p6 : wc.cell? ⟨w.heap.size, 6, none⟩ = some (.slice c.deny.A c.deny.n c.deny.c) := hbc.at_ 6 _ rfl
      have hca : Rd.cnt.Ok wc c := Rd.cnt.on (Rd.cnt.on HCA.out d1) hT.be
      have hl : Lists wc c := HS.out.lists hca
      have hown0 : (wc.alloc (.cells #[] 9)).ownsRow wc.heap.size 9 1 (.slice (some ⟨wc.heap.size, 0, none⟩) 0 0) 0 [] :=
        World.ownsRow_made wc _ 0 (Nat.le_refl _) (by unfold maxLen; omega) (by simp)
      have hlt := hbc.lt
      go_wp2_with (at_builtin; refine app_strs rfl (.tmp 22) (.tmp 24) 22 rfl wc.heap.size 9 i0 Try.underlying22 hi hz0 hz1 hz2 _ 0 [] rfl hown0 c.allow.A c.allow.n c.allow.c c.allow.l rfl ?c1 ?c2 ?c3 ?_)
      case c1 => exact hl.a.on (below_alloc (Below.refl _ _) _)
      case c2 => have := hl.na; omega
      case c3 => simp
      intro v1 wd hown1 hg1
      have hbd : Below wc.heap.size wc wd := (below_alloc (Below.refl _ _) _).grown hg1 (by simp) (fun j hj => by simp [Value.ownBlock] at hj; omega)
      go_wp2_with (at_builtin; refine app_strs rfl (.tmp 25) (.tmp 27) 22 rfl wc.heap.size 9 i0 Try.underlying22 hi hz0 hz1 hz2 _ _ _ rfl (World.ownsRow.alloc hown1 _) (some ⟨wd.heap.size, 0, none⟩) 1 1 [pt] rfl ?d1 ?d2 ?d3 ?_)
      case d1 => exact Strs.new _ _ _ _ _ rfl rfl
      case d2 => have := HS.out.na; omega
      case d3 => have := hbd.size; simp; omega
      intro v2 we hown2 hg2
      have hbe : Below wc.heap.size wc we := (below_alloc hbd _).grown hg2 (by have := hbd.size; simp; omega) (fun j hj => (World.ownsRow.lt hown1 _ hj).1)
      have hg7 : g7 < wc.heap.size := hT.bx.lt
      have hown5 : ∀ v, (we.setCell ⟨g7, 5, none⟩ v).ownsRow wc.heap.size 9 1 v2 (c.allow.n + 1) (strs c.allow.l ++ strs [pt]) := fun v => ownsRow_setCell_below hown2 hg7 v
      obtain ⟨C5, e5, rfl, _, hrd5⟩ := own_form hown2
      obtain ⟨t5, f5⟩ := there_of (thereB_on hT.th hg7 hbe) 5 (by omega)
      obtain ⟨x5, hx5⟩ := Option.isSome_iff_exists.1 t5
      simp only [Nat.zero_add] at hx5 f5
      obtain ⟨wf, hwf⟩ : ∃ wf, wf = we.setCell ⟨g7, 5, none⟩ (.slice C5 (c.allow.n + 1) e5) := ⟨_, rfl⟩
      obtain ⟨C', e', hv', _, hS7⟩ := own_form (hown5 (.slice C5 (c.allow.n + 1) e5))
      cases hv'
      have hown7 : wf.ownsRow wc.heap.size 9 1 (.slice C5 (c.allow.n + 1) e5) (c.allow.n + 1) (strs c.allow.l ++ strs [pt]) := by rw [hwf]; exact hown5 _
      have hg8c : g8 < wc.heap.size := hT.bx'.lt
      obtain ⟨ca, hcad⟩ : ∃ ca : Cnt, ca = { c with allow := ⟨C5, c.allow.n + 1, e5, c.allow.l ++ [pt]⟩ } := ⟨_, rfl⟩
      have hbf : Below w1.heap.size w1 wf := by rw [hwf]; exact below_set hT.lo (below_then hT.be hbe)
      have hs8 : thereB wf g8 16 = true := by rw [hwf]; exact thereB_set (thereB_on hT.th' hT.bx'.lt hbe)
      have hx8 : Box wf g8 (Rd.cnt.cells c) := by rw [hwf]; exact box_set_apart (hT.bx'.on hbe) hT.ne.symm
      have hx7 : Box wf g7 (Rd.cnt.cells ca) := by rw [hwf, hcad]; exact box_set (hT.bx.on hbe) (thereB_on hT.th hg7 hbe) (by rw [Rd.cnt.len]; decide) rfl
      have hl7 : Strs wf C5 (c.allow.n + 1) (c.allow.l ++ [pt]) := by
        rw [hwf]
        unfold Strs
        rw [strs_append]
        simpa using hS7
      go_upto_region 5 with fail
      rw [← hwf]
      have CA := Lib.hid hcad
      clear hwf hcad p5 p6 hl hown0 hown1 hown2 hown5 hg1 hg2 hbd hrd5 hS7 t5 hx5 f5
      have hbc5 := HX.out.on hbf
      have p6 : wf.cell? ⟨w.heap.size, 6, none⟩ = some (.slice c.deny.A c.deny.n c.deny.c) := hbc5.at_ 6 _ rfl
      have hlf : Lists wf c := HS.out.lists (Rd.cnt.on (Rd.cnt.on HCA.out d1) hbf)
      have hlt5 := hbc5.lt
      have hown0 : (wf.alloc (.cells #[] 9)).ownsRow wf.heap.size 9 1 (.slice (some ⟨wf.heap.size, 0, none⟩) 0 0) 0 [] :=
        World.ownsRow_made wf _ 0 (Nat.le_refl _) (by unfold maxLen; omega) (by simp)
      go_wp2_with (at_builtin; refine app_strs rfl (.tmp 30) (.tmp 32) 22 rfl wf.heap.size 9 i0 Try.underlying22 hi hz0 hz1 hz2 _ 0 [] rfl hown0 c.deny.A c.deny.n c.deny.c c.deny.l rfl ?e1 ?e2 ?e3 ?_)
      case e1 => exact hlf.d.on (below_alloc (Below.refl _ _) _)
      case e2 => have := hlf.nd; omega
      case e3 => simp
      intro v1 wd hown1 hg1
      have hbd : Below wf.heap.size wf wd := (below_alloc (Below.refl _ _) _).grown hg1 (by simp) (fun j hj => by simp [Value.ownBlock] at hj; omega)
      go_wp2_with (at_builtin; refine app_strs rfl (.tmp 33) (.tmp 35) 22 rfl wf.heap.size 9 i0 Try.underlying22 hi hz0 hz1 hz2 _ _ _ rfl (World.ownsRow.alloc hown1 _) (some ⟨wd.heap.size, 0, none⟩) 1 1 [pt] rfl ?f1 ?f2 ?f3 ?_)
      case f1 => exact Strs.new _ _ _ _ _ rfl rfl
      case f2 => have := HS.out.nd; omega
      case f3 => have := hbd.size; simp; omega
      intro v2 wg hown2 hg2
      have hbg : Below wf.heap.size wf wg := (below_alloc hbd _).grown hg2 (by have := hbd.size; simp; omega) (fun j hj => (World.ownsRow.lt hown1 _ hj).1)
      have hg8 : g8 < wf.heap.size := hx8.lt
      have hown5 : ∀ v, (wg.setCell ⟨g8, 6, none⟩ v).ownsRow wf.heap.size 9 1 v2 (c.deny.n + 1) (strs c.deny.l ++ strs [pt]) := fun v => ownsRow_setCell_below hown2 hg8 v
      obtain ⟨D6, e6, rfl, _, hrd6⟩ := own_form hown2
      obtain ⟨t6, f6⟩ := there_of (thereB_on hs8 hg8 hbg) 6 (by omega)
      obtain ⟨x6, hx6⟩ := Option.isSome_iff_exists.1 t6
      simp only [Nat.zero_add] at hx6 f6
      obtain ⟨wh, hwh⟩ : ∃ wh, wh = wg.setCell ⟨g8, 6, none⟩ (.slice D6 (c.deny.n + 1) e6) := ⟨_, rfl⟩
      obtain ⟨C', e', hv', _, hS8⟩ := own_form (hown5 (.slice D6 (c.deny.n + 1) e6))
      cases hv'
      obtain ⟨cd, hcdd⟩ : ∃ cd : Cnt, cd = { c with deny := ⟨D6, c.deny.n + 1, e6, c.deny.l ++ [pt]⟩ } := ⟨_, rfl⟩
      have hbh : Below w1.heap.size w1 wh := by rw [hwh]; exact below_set hT.lo' (below_then hbf hbg)
      have hx8' : Box wh g8 (Rd.cnt.cells cd) := by rw [hwh, hcdd]; exact box_set (hx8.on hbg) (thereB_on hs8 hg8 hbg) (by rw [Rd.cnt.len]; decide) rfl
      have hx7' : Box wh g7 (Rd.cnt.cells ca) := by rw [hwh]; exact box_set_apart (hx7.on hbg) hT.ne
      have hl8 : Strs wh D6 (c.deny.n + 1) (c.deny.l ++ [pt]) := by
        rw [hwh]
        unfold Strs
        rw [strs_append]
        simpa using hS8
      have hl7' : Strs wh C5 (c.allow.n + 1) (c.allow.l ++ [pt]) := by
        have ho : wh.ownsRow wc.heap.size 9 1 (.slice C5 (c.allow.n + 1) e5) (c.allow.n + 1) (strs c.allow.l ++ strs [pt]) := by
          rw [hwh]; exact ownsRow_setCell_below (owns_on hown7 hbg) hg8c _
        obtain ⟨C'', e'', hv'', _, hS⟩ := own_form ho
        cases hv''
        unfold Strs
        rw [strs_append]
        simpa using hS
      go_upto_region 6 with fail
      rw [← hwh]
      have CD := Lib.hid hcdd
      clear hwh hcdd p6 hlf hown0 hown1 hown2 hown5 hg1 hg2 hbd hrd6 hS8 t6 hx6 f6 hbc5 hlt5
      have hlh : Lists wh c := HS.out.lists (Rd.cnt.on (Rd.cnt.on HCA.out d1) hbh)
      have hs6 : s.size ≤ 1000000 := by have := HS.out.s; omega
      obtain ⟨h6, v6⟩ := box_lit (HX.out.on hbh)
      go_wp2_with fail
      refine (allowed_any c s wh hlh hs6).mono ?_
      rintro e wi ⟨rfl, bi⟩
      have hbi := below_then hbh bi
      clear h6 v6 hlh
      have hlc : Lists wi c := HS.out.lists (Rd.cnt.on (Rd.cnt.on HCA.out d1) hbi)
      have hld : Lists wi cd := by rw [CD.out]; exact lists_deny hlc (hl8.on bi) (by omega) (by have := HS.out.nd; omega)
      have hlm : Lists wi ca := by rw [CA.out]; exact lists_allow hlc (hl7'.on bi) (by omega) (by have := HS.out.na; omega)
      have hxc := HX.out.on hbi
      have hxa := hx7'.on bi
      have hxd := hx8'.on bi
      obtain ⟨B0, hB0⟩ : ∃ b, b = okB c s := ⟨_, rfl⟩
      obtain ⟨Bd, hBd⟩ : ∃ b, b = okB cd s := ⟨_, rfl⟩
      obtain ⟨Ba, hBa⟩ : ∃ b, b = okB ca s := ⟨_, rfl⟩
      have q1 : Bd = true → B0 = true := fun h => by rw [hBd, CD.out] at h; rw [hB0]; exact ok_deny h
      have q2 : B0 = true → Ba = true := fun h => by rw [hB0] at h; rw [hBa, CA.out]; exact ok_allow h
      obtain ⟨K, hK⟩ : ∃ b, b = (B0 == Ba) := ⟨_, rfl⟩
      have AD : Hid (∀ W, Below wi.heap.size wi W → Calls Try.prog 9 #[cv cd, .string s] W (Ret W (.bool Bd))) := fun W h => by rw [hBd]; exact allowed_any cd s W (hld.on h) hs6
      have AM : Hid (∀ W, Below wi.heap.size wi W → Calls Try.prog 9 #[cv ca, .string s] W (Ret W (.bool Ba))) := fun W h => by rw [hBa]; exact allowed_any ca s W (hlm.on h) hs6
      have AK : Hid (∀ W, Below wi.heap.size wi W → Calls Try.prog 11 #[cv c, cv ca, .string s] W (Ret W (.bool K))) := fun W h => by rw [hK, hB0, hBa]; exact keeps_any c ca s W (hlc.on h) (hlm.on h) hs6
      have AN : Hid (∀ W, Below wi.heap.size wi W → Calls Try.prog 9 #[cv { c with allow := ⟨none, 0, 0, []⟩ }, .string s] W (Ret W (.bool false))) := fun W h => by
        have h1 := allowed_any { c with allow := ⟨none, 0, 0, []⟩ } s W (lists_off (hlc.on h)) hs6
        rw [ok_off] at h1
        exact h1
      rw [← hB0]
      clear hB0 hBd hBa CA CD hl8 hl7' hx7' hx8' hx7 hx8 hl7 hlc hld hlm HX HCA hT
      cases B0 <;> cases Ba <;> cases Bd
      case false.false.true => exact absurd (q1 rfl) (by decide)
      case false.true.true => exact absurd (q1 rfl) (by decide)
      case true.false.false => exact absurd (q2 rfl) (by decide)
      case true.false.true => exact absurd (q2 rfl) (by decide)
      all_goals clear q1 q2
      all_goals simp at hK
      all_goals subst hK
      all_goals obtain ⟨h8, v8⟩ := box_lit hxd
      all_goals go_wp2_with fail
      iterate 2
        (refine (AD.out wi (Below.refl _ _)).mono ?_
         rintro e wk ⟨rfl, bl⟩
         clear h8 v8
         rotate_left 1)
      iterate 2
        (refine (AD.out wi (Below.refl _ _)).mono ?_
         rintro e wj ⟨rfl, bj⟩
         clear h8 v8
         obtain ⟨h7, v7⟩ := box_lit (hxa.on bj)
         go_wp2_with fail
         refine (AM.out wj bj).mono ?_
         rintro e wk ⟨rfl, bk⟩
         have bl := below_then bj bk
         clear h7 v7 bk
         rotate_left 1)
      all_goals obtain ⟨h3, v3⟩ := box_lit (hxc.on bl)
      all_goals have hh := run_ld_cnt _ _ _ h3
      all_goals rw [v3] at hh
      all_goals go_upto_region 10 with fail
      all_goals try (go_simp; go_upto_region 10 with fail)
      all_goals obtain ⟨wl, hwl⟩ : ∃ wl : World, wl = wk.alloc (.cells (cntA c) 28) := ⟨_, rfl⟩
      all_goals have bxn : Box wl wk.heap.size (Rd.cnt.cells c) := by rw [hwl]; exact Box.new wk (Rd.cnt.cells c) _
      all_goals have thn : thereB wl wk.heap.size 16 = true := by rw [hwl]; exact thereB_new wk _ _ _ rfl
      all_goals have bm : Below wi.heap.size wi wl := by rw [hwl]; exact below_alloc bl _
      all_goals rw [← hwl]
      all_goals clear hwl h3 v3 hh
      all_goals have hlo := bl.size
      all_goals obtain ⟨gn, hgn⟩ : ∃ gn, gn = wk.heap.size := ⟨_, rfl⟩
      all_goals rw [← hgn] at bxn thn hlo ⊢
      all_goals clear hgn
      all_goals obtain ⟨t5, f5⟩ := there_of thn 5 (by omega)
      all_goals obtain ⟨y5, hy5⟩ := Option.isSome_iff_exists.1 t5
      all_goals simp only [Nat.zero_add] at hy5 f5
      all_goals obtain ⟨wm, hwm⟩ : ∃ wm, wm = wl.setCell ⟨gn, 5, none⟩ (.slice none 0 0) := ⟨_, rfl⟩
      all_goals have bn : Below wi.heap.size wi wm := by rw [hwm]; exact below_set hlo bm
      all_goals have bxm : Box wm gn (Rd.cnt.cells { c with allow := ⟨none, 0, 0, []⟩ }) := by rw [hwm]; exact box_set bxn thn (by rw [Rd.cnt.len]; decide) rfl
      all_goals go_upto_region 11 with fail
      all_goals rw [← hwm]
      all_goals clear hwm bxn thn t5 hy5 f5 bm bl hlo
      all_goals obtain ⟨cn, hcn⟩ : ∃ cn : Cnt, cn = { c with allow := ⟨none, 0, 0, []⟩ } := ⟨_, rfl⟩
      all_goals rw [← hcn] at bxm AN
      all_goals clear hcn
      all_goals have SS := Lib.hid (fun W (h : Below wm.heap.size wm W) => held_three (hxc.on bn) (hxa.on bn) bxm h)
      all_goals have UP := Lib.hid (fun W (h : Below wm.heap.size wm W) => below_then bn h)
      all_goals go_region_held3 (fun w' => Below wm.heap.size wm w' ∧ hasRow w' w.heap.size 0 16 = true ∧ rowAt w' w.heap.size 0 16 = cv c ∧ hasRow w' g7 0 16 = true ∧ rowAt w' g7 0 16 = cv ca ∧ hasRow w' gn 0 16 = true ∧ rowAt w' gn 0 16 = cv cn)
        (first | exact SS.out _ (by assumption) | exact SS.out _ (Below.drew (by assumption)) | exact SS.out _ (Below.refl _ _) | exact SS.out _ (Below.drew (Below.refl _ _)))
        (first
        | (go_at_call_of 9 (cv cn); have hB := And.left ‹Below wm.heap.size wm _ ∧ _›; refine (AN.out _ (UP.out _ hB)).mono ?_; rintro e wx ⟨rfl, bx⟩; have bx2 : Below wm.heap.size wm wx := below_then hB bx; clear bx hB)
        | (go_at_call_of 9 (cv ca); have hB := And.left ‹Below wm.heap.size wm _ ∧ _›; refine (AM.out _ (UP.out _ hB)).mono ?_; rintro e wx ⟨rfl, bx⟩; have bx2 : Below wm.heap.size wm wx := below_then hB bx; clear bx hB)
        | (go_at_call 11; have hB := And.left ‹Below wm.heap.size wm _ ∧ _›; refine (AK.out _ (UP.out _ hB)).mono ?_; rintro e wx ⟨rfl, bx⟩; have bx2 : Below wm.heap.size wm wx := below_then hB bx; clear bx hB)
        | (go_at_call 8; have hB := And.left ‹Below wm.heap.size wm _ ∧ _›; refine (awake14_any _).mono ?_; rintro e wx ⟨rfl, bx⟩; have bx2 : Below wm.heap.size wm wx := below_then hB bx; clear bx hB))
      all_goals go_wp2_with fail
      all_goals go_ret
      all_goals exact ⟨rfl, below_then hba (below_then d1 (below_then hbi (UP.out _ (by assumption))))⟩
    go_region_held3 (fun w' => Below w1.heap.size w1 w' ∧ hasRow w' w.heap.size 0 16 = true ∧ rowAt w' w.heap.size 0 16 = cv c) ((refine held_box HX.out ?_; first | exact Below.drew (Below.refl _ _) | exact below_alloc (And.left ‹Below w1.heap.size w1 _ ∧ _›) _ | exact below_put (by simp) (And.left ‹Below w1.heap.size w1 _ ∧ _›))) (fail)
    all_goals go_wp2_with fail
    · go_meet
      exact ⟨_, _, rfl, rfl, two_put rfl rfl rfl (.inl ⟨rfl, rfl⟩)⟩
    · go_meet
      exact ⟨_, _, rfl, rfl, two_put rfl rfl rfl (.inr ⟨rfl, rfl⟩)⟩
  · clear hg1
    go_wp2_with fail
    refine (awake14_any _).mono ?_
    rintro e w3 ⟨rfl, b3⟩
    go_wp2_with fail
    go_ret
    exact ⟨rfl, below_then hba (below_then d1 b3)⟩
end Go.Proofs.Ytbdbhnmeainmfaa
