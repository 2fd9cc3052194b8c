/-
  The walk through the law AccessFirst.
-/
import Derived.Test.YtbdbhnmeainmfaaAccR
import Derived.Test.YtbdbhnmeainmfaaAppD
import Derived.Deep.RegionHeld3
namespace Go.Proofs.Ytbdbhnmeainmfaa
open Go.RowKit

attribute [local go_sem ↓] execOp_ld_cnt execOp_st_cnt execOp_ld_ev
attribute [local go_sem] run_ld_cnt run_st_cnt_new run_ld_ev

theorem owns_on {w w' : World} {base size n : Nat} {e : TypeId} {v : Value} {xs : List Value} (h : w.ownsRow base e size v n xs) (hb : Below w.heap.size w w') : w'.ownsRow base e size v n xs := by
  refine ⟨h.1, ?_⟩
  rcases h.2 with hn | ⟨g, cap, cur, rfl, hb', hgg, rest⟩
  · exact .inl hn
  · exact .inr ⟨g, cap, cur, rfl, hb', (hb.block g (Array.getElem?_eq_some_iff.1 hgg).1).trans hgg, rest⟩
/-- one of the first k events is a KAccess -/
def hasK (l : List Ev) (k : Nat) : Bool := (l.take k).any fun e => decide (e.kind = 6)
theorem hasK_zero (l : List Ev) : hasK l 0 = false := by simp [hasK]
theorem hasK_succ {l : List Ev} {k : Nat} {x : Ev} (h : l[k]? = some x) : hasK l (k + 1) = (hasK l k || decide (x.kind = 6)) := by
  obtain ⟨hk, rfl⟩ := List.getElem?_eq_some_iff.1 h
  unfold hasK
  rw [List.take_succ_eq_append_getElem hk, List.any_append]
  simp
theorem hasK_all (l : List Ev) : (ofC l).isSome = hasK l l.length := by
  unfold hasK ofC
  rw [List.take_of_length_le (Nat.le_refl _), Option.isSome_map]
  cases hb : l.any fun e => decide (e.kind = 6) with
  | false =>
    have : l.find? (fun e => decide (e.kind = 6)) = none := by
      rw [List.find?_eq_none]
      intro x hx
      rw [List.any_eq_false] at hb
      exact hb x hx
    rw [this]; rfl
  | true => rw [List.find?_isSome, ← List.any_eq_true]; exact hb
theorem may_none {l : List Ev} {s : ByteArray} (h : (ofC l).isSome = false) : mayI l s = 0 := by
  unfold mayI
  cases ho : ofC l with
  | none => rfl
  | some c => rw [ho] at h; cases h
theorem ofC_snoc (l : List Ev) (x : Ev) : ofC (l ++ [x]) = (ofC l).or (if x.kind = 6 then some x.content else none) := by
  unfold ofC
  rw [List.find?_append]
  cases l.find? (fun e => decide (e.kind = 6)) with
  | some y => rfl
  | none => by_cases h : x.kind = 6 <;> simp [h]
theorem may_more {l : List Ev} {x : Ev} {s : ByteArray} (h : (ofC l).isSome = true ∨ x.kind ≠ 6) : mayI (l ++ [x]) s = mayI l s := by
  unfold mayI
  rw [ofC_snoc]
  cases ho : ofC l with
  | some c => rfl
  | none =>
    rcases h with h | h
    · rw [ho] at h; cases h
    · rw [if_neg h]; rfl
theorem may_new {l : List Ev} {x : Ev} {s : ByteArray} (h : (ofC l).isSome = false) (hk : x.kind = 6) : mayI (l ++ [x]) s = if okB x.content s then 0 else 22 := by
  unfold mayI
  rw [ofC_snoc]
  cases ho : ofC l with
  | some c => rw [ho] at h; cases h
  | none => rw [if_pos hk]; rfl

def zEv : Ev := ⟨0, ⟨#[]⟩, ⟨#[]⟩, 0, false, ⟨#[]⟩, 0, 0, ⟨none, 0, 0, []⟩, ⟨none, 0, 0, []⟩, zCnt, 0, ⟨⟨#[]⟩, 0⟩⟩
theorem infoEv : (Try.prog.info? 39).map (fun i => (i.zero, i.size, i.bytes)) = some (some (evv zEv), 29, 376) := by kernel_rfl
abbrev EvT : TypeId := 39
theorem alloc_sz (W : World) (o : Obj) : (W.alloc o).heap.size = W.heap.size + 1 := by simp
theorem ownA (W : World) : (W.alloc (.cells #[] EvT)).drew.ownsRow W.heap.size EvT 29 (.slice (some ⟨W.heap.size, 0, none⟩) 0 0) 0 [] :=
  owns_on (World.ownsRow_made W _ 0 (Nat.le_refl _) (by unfold maxLen; omega) (by simp)) (Below.drew (Below.refl _ _))
theorem ownB (W : World) (o : Obj) : ((W.alloc (.cells #[] EvT)).alloc o).drew.ownsRow W.heap.size EvT 29 (.slice (some ⟨W.heap.size, 0, none⟩) 0 0) 0 [] :=
  owns_on (World.ownsRow_made W _ 0 (Nat.le_refl _) (by unfold maxLen; omega) (by simp)) (Below.drew (below_alloc (Below.refl _ _) _))
theorem ownC (W : World) (o : Obj) : ((W.alloc o).alloc (.cells #[] EvT)).drew.ownsRow W.heap.size EvT 29 (.slice (some ⟨W.heap.size + 1, 0, none⟩) 0 0) 0 [] := by
  have h := World.ownsRow_made (base := W.heap.size) (e := EvT) (size := 29) (W.alloc o) #[] 0 (by simp) (by unfold maxLen; omega) (by simp)
  have h2 := owns_on h (Below.drew (Below.refl _ _))
  simp only [alloc_sz] at h2
  exact h2
theorem evs_new {W : World} {e : Ev} (h : Rd.ev.Ok W e) : Reads (W.alloc (.cells (evA e) EvT)) (W.alloc (.cells (evA e) EvT)).heap.size 29 (some ⟨W.heap.size, 0, none⟩) 1 (Rd.ev.cells e) := by
  have h := (Rd.Holds.new Rd.ev W (evA e) EvT [e] 1 (by simp [evA, Rd.rows]) rfl (by intro z hz; simp only [List.mem_singleton] at hz; subst hz; exact h)).1
  rwa [Rd.rows_one] at h
theorem evs_newB {W : World} {e : Ev} (h : Rd.ev.Ok W e) : Reads ((W.alloc (.cells #[] EvT)).alloc (.cells (evA e) EvT)).drew (W.heap.size + 2) 29 (some ⟨W.heap.size + 1, 0, none⟩) 1 (Rd.ev.cells e) := by
  have h := evs_new (W := W.alloc (.cells #[] EvT)) (Rd.ev.on h (below_alloc (Below.refl _ _) _))
  simp only [alloc_sz] at h
  exact h.drew
theorem evs_newC {W : World} {e : Ev} (h : Rd.ev.Ok W e) : Reads ((W.alloc (.cells (evA e) EvT)).alloc (.cells #[] EvT)).drew (W.heap.size + 1) 29 (some ⟨W.heap.size, 0, none⟩) 1 (Rd.ev.cells e) := by
  have h := (evs_new h).alloc (Nat.le_refl _) (.cells #[] EvT)
  simp only [alloc_sz] at h
  exact h.drew
theorem reads_kept {w w' : World} {B g : Nat} {xs : List Value} {row : Option Nat} (h : Reads w B 29 (some ⟨g, 0, none⟩) 1 xs) (hg : w.grownBy w' row) (hne : row ≠ some g) (hB : B ≤ w.heap.size) : Reads w' B 29 (some ⟨g, 0, none⟩) 1 xs := by
  refine ⟨h.1, fun hp => ?_⟩
  obtain ⟨ad, he, hl, hc⟩ := h.2 hp
  refine ⟨ad, he, hl, fun j u hj => ?_⟩
  cases he
  rw [← hc j u hj]
  refine World.cell?_of_block ?_
  rw [block_of_add]
  exact hg.block g (Nat.lt_of_lt_of_le hl hB) (fun e => hne e.symm)
theorem held_ev {w1 w' : World} {g : Nat} {e : Ev} (hx : Box w1 g (Rd.ev.cells e)) (hb : Below w1.heap.size w1 w') : Below w1.heap.size w1 w' ∧ hasRow w' g 0 29 = true ∧ rowAt w' g 0 29 = .agg #[.int .i64 e.id, .string e.room, .string e.sender, .int .i64 e.kind, .bool e.state, .string e.key, .int .i64 e.time, .int .i64 e.depth, e.prev.val, e.auth.val,
    .string e.content.text, .int .i64 e.content.n, .int .i64 e.content.target, .bool e.content.thread, .string e.content.via, e.content.allow.val, e.content.deny.val, e.content.levels.users.val, e.content.levels.kinds.val,
    .int .i64 e.content.levels.user, .int .i64 e.content.levels.message, .int .i64 e.content.levels.state, .int .i64 e.content.levels.invite, .int .i64 e.content.levels.kick, .int .i64 e.content.levels.ban, .int .i64 e.content.levels.redact,
    .int .i64 e.hash, .string e.sig.server, .int .i64 e.sig.sum] :=
  ⟨hb, row_of (hx.on hb).at_ (Rd.ev.len e)⟩

theorem held_cnt {w1 w' : World} {g : Nat} {e : Ev} (hx : Box w1 g (Rd.ev.cells e)) (hb : Below w1.heap.size w1 w') : Below w1.heap.size w1 w' ∧ hasRow w' g 10 16 = true ∧ rowAt w' g 10 16 = cv e.content := by
  have h := range_ev_cnt (hx.on hb).at_
  rw [Nat.zero_add] at h
  exact ⟨hb, h⟩
theorem longer_form {w : World} {B n : Nat} {v : Value} {l : List Ev} {more : Ev} (h : w.ownsRow B EvT 29 v (0 + n + 1) (([] ++ Rd.ev.rows l) ++ Rd.ev.cells more)) (hl : l.length = n) (hok : ∀ e ∈ l, Rd.ev.Ok w e) (hm : Rd.ev.Ok w more) :
    ∃ A' c', v = .slice A' (n + 1) c' ∧ Rd.ev.Holds w A' (n + 1) (l ++ [more]) := by
  rw [Nat.zero_add, List.nil_append] at h
  obtain ⟨A, c, rfl, _, hr⟩ := own_form h
  refine ⟨A, c, rfl, ?_, by simp [hl], fun e he => ?_⟩
  · rw [Rd.rows_append, Rd.rows_one]; exact hr
  · rcases List.mem_append.1 he with h | h
    · exact hok e h
    · rw [List.mem_singleton] at h; subst h; exact hm

set_option maxRecDepth 100000 in
set_option maxHeartbeats 8000000 in
theorem accessFirst_any (x : Sl Ev) (more : Ev) (s : ByteArray) (w : World) (hx : Rd.ev.Holds w x.A x.n x.l ∧ x.n ≤ maxLen) (hm : Rd.ev.Ok w more) (hs : s.size ≤ maxLen) :
    Calls Try.prog 6 #[x.val, evv more, .string s] w (Ret w (.bool true)) := by
  obtain ⟨A, n, c, l⟩ := x
  obtain ⟨hr, hn⟩ := hx
  simp only [Sl.val] at hr hn ⊢
  obtain ⟨i0, hi, hz0, hz1, hz2⟩ := info_parts infoEv
  have HI := Lib.hid hi; have HZ0 := Lib.hid hz0; have HZ1 := Lib.hid hz1; have HZ2 := Lib.hid hz2
  clear hi hz0 hz1 hz2
  have HL := Lib.hid hr.length
  obtain ⟨wa, hwa⟩ : ∃ wa : World, wa = w.alloc (.cells (evA more) 39) := ⟨_, rfl⟩
  have hba : Below w.heap.size w wa := by rw [hwa]; exact below_alloc (Below.refl _ _) _
  have bxa : Box wa w.heap.size (Rd.ev.cells more) := by rw [hwa]; exact Box.new w (Rd.ev.cells more) _
  have hra := hr.on hba
  have hma := Rd.ev.on hm hba
  have HW := Lib.hid hwa
  clear hwa hm hr
  unfold evv
  go_enter Try.func6, Try.ntmps6
  go_upto_region 1 with fail
  rw [← HW.out]
  obtain ⟨g, hg⟩ : ∃ g, w.heap.size = g := ⟨_, rfl⟩
  rw [hg] at bxa ⊢
  have HG := Lib.hid hg; clear hg
  go_wp2_with fail
  refine (rgreat8_any A n c l wa hra hn).mono ?_
  rintro e w1 ⟨g1, rfl, hg1, b1⟩
  have c1 : Below w.heap.size w w1 := below_then hba b1
  have awk : ∀ wx, Below w.heap.size w wx → Calls Try.prog 8 #[] wx (Ret w (.bool true)) := fun wx hb => (awake14_any wx).mono fun e w' ⟨h1, h2⟩ => ⟨h1, below_then hb h2⟩
  have AW := Lib.hid awk; clear awk
  have hma1 := Rd.ev.on hma b1
  have hr1 := hra.on b1
  have bx1 := bxa.on b1
  clear bxa hra hma hba b1 HW
  cases g1
  · have hn20 : n ≤ 20 := hg1 rfl
    clear hg1 hn
    obtain ⟨h29, v29⟩ := row_of bx1.at_ (Rd.ev.len more)
    change hasRow w1 g 0 29 = true at h29
    change rowAt w1 g 0 29 = evv more at v29
    go_wp2_with fail
    refine (long_any more w1 hma1).mono ?_
    rintro e w2 ⟨g2, rfl, _, b2⟩
    have c2 := below_then c1 b2
    have bx2 := bx1.on b2
    have hma2 := Rd.ev.on hma1 b2
    have hr2 := hr1.on b2
    clear bx1 hma1 hr1 h29 v29 b2 c1
    cases g2
    · obtain ⟨h16, v16⟩ := range_ev_cnt bx2.at_
      rw [Nat.zero_add] at h16 v16
      go_wp2_with fail
      refine (rgreat14_any more.content s w2 (ev_cnt_ok hma2) hs).mono ?_
      rintro e w3 ⟨g3, rfl, hg3, b3⟩
      have c3 := below_then c2 b3
      have bx3 := bx2.on b3
      have hma3 := Rd.ev.on hma2 b3
      have hr3 := hr2.on b3
      clear bx2 hma2 hr2 h16 v16 b3 c2
      cases g3
      · have hsm : Small more.content s := hg3 rfl
        have HSM0 := Lib.hid hsm
        clear hg3 hsm
        go_wp2_with fail
        go_loopw [7, 8] (fun h i wr => ∃ k : Nat, k ≤ n ∧ i = .int .i64 k ∧ h = .bool (hasK l k) ∧ Below w3.heap.size w3 wr ∧ SmallTo l s k) (fun _ i _ => n - (intOf i).toNat)
        case atStart => exact ⟨0, by omega, rfl, by rw [hasK_zero], Below.refl _ _, SmallTo.zero l s⟩
        case round =>
          obtain ⟨k, hk, rfl, rfl, hbw, hsm⟩ := hrel
          by_cases hlt : k < n
          · obtain ⟨b, o, y, rfl, hbl, hu, _, hok, hrc⟩ := (hr3.on hbw).mid (by decide) hlt
            obtain ⟨hc1, hc2⟩ := range_ev_cnt hrc
            have y3 : wr.cell? ⟨b, o + k * 29 + 3, none⟩ = some (.int .i64 y.kind) := hrc 3 _ rfl
            change hasRow wr b (o + k * 29 + 10) 16 = true at hc1
            change rowAt wr b (o + k * 29 + 10) 16 = cv y.content at hc2
            have HK := Lib.hid (hasK_succ hu)
            have HU := Lib.hid hu; have HSM := Lib.hid hsm
            generalize hasK l k = h0 at HK ⊢
            clear hu hsm hrc
            go_wp2_with fail
            refine (rgreat14_any y.content s wr (ev_cnt_ok hok) hs).mono ?_
            rintro e w4 ⟨g4, rfl, hg4, b4⟩
            have d4 := below_then hbw b4
            have z3 : w4.cell? ⟨b, o + k * 29 + 3, none⟩ = some (.int .i64 y.kind) := (b4.cell (p := ⟨b, o + k * 29 + 3, none⟩) hbl).trans y3
            clear hc1 hc2 y3
            cases g4
            · have HS := Lib.hid (HSM.out.succ HU.out (hg4 rfl))
              clear hg4
              cases h0
              · by_cases h6 : y.kind = 6
                · have e6 : (y.kind == 6) = true := eqT h6
                  have HK2 : Hid (hasK l (k + 1) = true) := by show _ = _; rw [HK.out, decide_eq_true h6]; rfl
                  clear h6
                  go_wp2_with fail
                  exact ⟨⟨k + 1, by omega, by go_num, by rw [HK2.out], d4, HS.out⟩, by simp [intOf]; omega⟩
                · have e6 : (y.kind == 6) = false := eqF h6
                  have HK2 : Hid (hasK l (k + 1) = false) := by show _ = _; rw [HK.out, decide_eq_false h6]; rfl
                  clear h6
                  go_wp2_with fail
                  exact ⟨⟨k + 1, by omega, by go_num, by rw [HK2.out], d4, HS.out⟩, by simp [intOf]; omega⟩
              · have HK2 : Hid (hasK l (k + 1) = true) := by show _ = _; rw [HK.out]; rfl
                go_wp2_with fail
                exact ⟨⟨k + 1, by omega, by go_num, by rw [HK2.out], d4, HS.out⟩, by simp [intOf]; omega⟩
            · clear hg4
              go_wp2_with fail
              refine (AW.out _ (below_then c3 d4)).mono ?_
              rintro e w5 ⟨rfl, b5⟩
              go_wp2_with fail
              go_ret
              exact ⟨rfl, b5⟩
          · have hkl : k = l.length := by have := HL.out; omega
            subst hkl
            have hsa : ∀ e ∈ l, Small e.content s := fun e he => hsm.of (Nat.le_refl _) he
            have HSA := Lib.hid hsa
            rw [← hasK_all]
            have hr4 := hr3.on hbw
            have hma4 := Rd.ev.on hma3 hbw
            have bx4 := bx3.on hbw
            have c4 := below_then c3 hbw
            clear hsm hsa hr3 hma3 bx3 c3
            obtain ⟨d, hd⟩ : ∃ d, d = (ofC l).getD zCnt := ⟨_, rfl⟩
            obtain ⟨is, his⟩ : ∃ is, is = (ofC l).isSome := ⟨_, rfl⟩
            have HV : Hid (ofV (ofC l) = .tuple #[cv d, .bool is]) := by show _ = _; rw [hd, his]; rfl
            rw [← his]
            have HIS := Lib.hid his
            clear hd his
            go_wp2_with fail
            refine (of_any A n c l wr hr4 (by omega)).mono ?_
            rintro e w5 ⟨rfl, b5⟩
            rw [HV.out]
            have b6 := below_alloc b5 (.cells (cntA d) 28)
            go_upto_region 11 with fail
            generalize w5.alloc (.cells (cntA d) 28) = w6 at b6 ⊢
            have c6 := below_then c4 b6
            have hr6 := hr4.on b6
            have hma6 := Rd.ev.on hma4 b6
            have bx6 := bx4.on b6
            clear b5 b6 hbw c4 hr4 hma4 bx4
            cases is
            · have HM := Lib.hid (may_none (s := s) HIS.out.symm)
              go_wp2_with fail
              refine (may_any A n c l s w6 hr6 (by omega) (of_lists hr6 HSA.out)).mono ?_
              rintro e w7 ⟨rfl, b7⟩
              rw [HM.out]
              have c7 := below_then c6 b7
              have hr7 := hr6.on b7
              have hma7 := Rd.ev.on hma6 b7
              have bx7 := bx6.on b7
              clear b7 c6 hr6 hma6 bx6
              go_upto_region 13 with fail
              go_cut [11] (fun v wx => ∃ A' c', v = .slice A' (n + 1) c' ∧ Rd.ev.Holds wx A' (n + 1) (l ++ [more]) ∧ Below w7.heap.size w7 wx)
              case rest =>
                obtain ⟨A', c', rfl, hlo, hbx⟩ := hcut
                have c8 := below_then c7 hbx
                have hr8 := hr7.on hbx
                have hma8 := Rd.ev.on hma7 hbx
                have bx8 := bx7.on hbx
                have hsl : ∀ e ∈ l ++ [more], Small e.content s := fun e he => by
                  rcases List.mem_append.1 he with h | h
                  · exact HSA.out e h
                  · rw [List.mem_singleton] at h; subst h; exact HSM0.out
                have HSL := Lib.hid hsl
                have y3 : wc.cell? ⟨g, 3, none⟩ = some (.int .i64 more.kind) := by have := bx8.at_ 3 _ rfl; rwa [Nat.zero_add] at this
                obtain ⟨h16, v16⟩ := range_ev_cnt bx8.at_
                rw [Nat.zero_add] at h16 v16
                clear hbx c7 hr7 hma7 bx7 hsl
                by_cases h6 : more.kind = 6
                · have e6 : (more.kind != 6) = false := neF h6
                  have HM2 := Lib.hid (may_new (l := l) (x := more) (s := s) HIS.out.symm h6)
                  have BX := Lib.hid (fun W (h : Below wc.heap.size wc W) => held_cnt bx8 h)
                  have CM : Hid (∀ W, Below wc.heap.size wc W → Calls Try.prog 17 #[.slice A' (n + 1) c', .string s] W (Ret W (.int .i64 (mayI (l ++ [more]) s)))) :=
                    Lib.hid fun W hb => may_any A' (n + 1) c' (l ++ [more]) s W (hlo.on hb) (by omega) (of_lists (hlo.on hb) HSL.out)
                  have CA : Hid (∀ W, Below wc.heap.size wc W → Calls Try.prog 9 #[cv more.content, .string s] W (Ret W (.bool (okB more.content s)))) :=
                    Lib.hid fun W hb => allowed_any more.content s W (HSM0.out.lists (ev_cnt_ok (Rd.ev.on hma8 hb))) (by have := HSM0.out.s; omega)
                  have UP := Lib.hid (fun W (h : Below wc.heap.size wc W) => below_then c8 h)
                  clear hr8 hlo hma8 bx8 h6
                  cases hok : okB more.content s
                  all_goals
                    rw [HM2.out, hok] at CM
                    rw [hok] at CA
                    clear hok
                    simp only [if_true, Bool.false_eq_true, if_false] at CM
                    go_wp2_with fail
                    go_region_held3 (fun w' => Below wc.heap.size wc w' ∧ hasRow w' g 10 16 = true ∧ rowAt w' g 10 16 = cv more.content) (first | exact BX.out _ (by assumption) | exact BX.out _ (Below.drew (by assumption)) | exact BX.out _ (Below.drew (Below.refl _ _)))
                      (first
                      | (go_at_call 17; have hB := And.left ‹Below wc.heap.size wc _ ∧ _›; refine (CM.out _ hB).mono ?_; rintro e wx ⟨rfl, bx⟩; have bx2 : Below wc.heap.size wc wx := below_then hB bx; clear bx hB)
                      | (go_at_call 9; have hB := And.left ‹Below wc.heap.size wc _ ∧ _›; refine (CA.out _ hB).mono ?_; rintro e wx ⟨rfl, bx⟩; have bx2 : Below wc.heap.size wc wx := below_then hB bx; clear bx hB)
                      | (go_at_call 8; have hB := And.left ‹Below wc.heap.size wc _ ∧ _›; refine (awake14_any _).mono ?_; rintro e wx ⟨rfl, bx⟩; have bx2 : Below wc.heap.size wc wx := below_then hB bx; clear bx hB))
                    all_goals go_wp2_with fail
                    all_goals go_ret
                    all_goals exact ⟨rfl, UP.out _ (by assumption)⟩
                · have e6 : (more.kind != 6) = true := neT h6
                  have HM2 := Lib.hid (may_more (l := l) (x := more) (s := s) (.inr h6))
                  generalize hmm : mayI l s = m at HM2
                  have HMM := Lib.hid hmm
                  clear hmm hma8 bx8 h16 v16
                  go_wp2_with fail
                  refine (may_any A' (n + 1) c' (l ++ [more]) s wc hlo (by omega) (of_lists hlo HSL.out)).mono ?_
                  rintro e w9 ⟨rfl, b9⟩
                  rw [HM2.out]
                  have c9 := below_then c8 b9
                  have hr9 := hr8.on b9
                  clear b9 hlo hr8 c8
                  go_wp2_with fail
                  refine (may_any A n c l s w9 hr9 (by omega) (of_lists hr9 HSA.out)).mono ?_
                  rintro e w10 ⟨rfl, b10⟩
                  rw [HMM.out]
                  have c10 := below_then c9 b10
                  clear b10 hr9 c9
                  go_wp2_with fail
                  refine (AW.out _ c10).mono ?_
                  rintro e w11 ⟨rfl, b11⟩
                  go_wp2_with fail
                  go_ret
                  exact ⟨rfl, b11⟩
              have HLR : Hid (Reads w7 w7.heap.size 29 A n (Rd.ev.rows l)) := Lib.hid hr7.1
              have HMA := Lib.hid hma7
              have HR7 := Lib.hid hr7
              have BX := Lib.hid (fun W (h : Below w7.heap.size w7 W) => held_ev bx7 h)
              have OA : (w7.alloc (.cells #[] 39)).drew.ownsRow w7.heap.size 39 29 (.slice (some ⟨w7.heap.size, 0, none⟩) 0 0) 0 [] := ownA w7
              have OB : ((w7.alloc (.cells #[] 39)).alloc (.cells #[.int .i64 more.id, .string more.room, .string more.sender, .int .i64 more.kind, .bool more.state, .string more.key, .int .i64 more.time, .int .i64 more.depth, more.prev.val, more.auth.val, .string more.content.text, .int .i64 more.content.n, .int .i64 more.content.target, .bool more.content.thread, .string more.content.via, more.content.allow.val, more.content.deny.val, more.content.levels.users.val, more.content.levels.kinds.val, .int .i64 more.content.levels.user, .int .i64 more.content.levels.message, .int .i64 more.content.levels.state, .int .i64 more.content.levels.invite, .int .i64 more.content.levels.kick, .int .i64 more.content.levels.ban, .int .i64 more.content.levels.redact, .int .i64 more.hash, .string more.sig.server, .int .i64 more.sig.sum] 39)).drew.ownsRow w7.heap.size 39 29 (.slice (some ⟨w7.heap.size, 0, none⟩) 0 0) 0 [] := ownB w7 _
              have OC : ((w7.alloc (.cells #[.int .i64 more.id, .string more.room, .string more.sender, .int .i64 more.kind, .bool more.state, .string more.key, .int .i64 more.time, .int .i64 more.depth, more.prev.val, more.auth.val, .string more.content.text, .int .i64 more.content.n, .int .i64 more.content.target, .bool more.content.thread, .string more.content.via, more.content.allow.val, more.content.deny.val, more.content.levels.users.val, more.content.levels.kinds.val, .int .i64 more.content.levels.user, .int .i64 more.content.levels.message, .int .i64 more.content.levels.state, .int .i64 more.content.levels.invite, .int .i64 more.content.levels.kick, .int .i64 more.content.levels.ban, .int .i64 more.content.levels.redact, .int .i64 more.hash, .string more.sig.server, .int .i64 more.sig.sum] 39)).alloc (.cells #[] 39)).drew.ownsRow w7.heap.size 39 29 (.slice (some ⟨w7.heap.size + 1, 0, none⟩) 0 0) 0 [] := ownC w7 _
              have RB : Reads ((w7.alloc (.cells #[] 39)).alloc (.cells #[.int .i64 more.id, .string more.room, .string more.sender, .int .i64 more.kind, .bool more.state, .string more.key, .int .i64 more.time, .int .i64 more.depth, more.prev.val, more.auth.val, .string more.content.text, .int .i64 more.content.n, .int .i64 more.content.target, .bool more.content.thread, .string more.content.via, more.content.allow.val, more.content.deny.val, more.content.levels.users.val, more.content.levels.kinds.val, .int .i64 more.content.levels.user, .int .i64 more.content.levels.message, .int .i64 more.content.levels.state, .int .i64 more.content.levels.invite, .int .i64 more.content.levels.kick, .int .i64 more.content.levels.ban, .int .i64 more.content.levels.redact, .int .i64 more.hash, .string more.sig.server, .int .i64 more.sig.sum] 39)).drew (w7.heap.size + 2) 29 (some ⟨w7.heap.size + 1, 0, none⟩) 1 (Rd.ev.cells more) := evs_newB HMA.out
              have RC : Reads ((w7.alloc (.cells #[.int .i64 more.id, .string more.room, .string more.sender, .int .i64 more.kind, .bool more.state, .string more.key, .int .i64 more.time, .int .i64 more.depth, more.prev.val, more.auth.val, .string more.content.text, .int .i64 more.content.n, .int .i64 more.content.target, .bool more.content.thread, .string more.content.via, more.content.allow.val, more.content.deny.val, more.content.levels.users.val, more.content.levels.kinds.val, .int .i64 more.content.levels.user, .int .i64 more.content.levels.message, .int .i64 more.content.levels.state, .int .i64 more.content.levels.invite, .int .i64 more.content.levels.kick, .int .i64 more.content.levels.ban, .int .i64 more.content.levels.redact, .int .i64 more.hash, .string more.sig.server, .int .i64 more.sig.sum] 39)).alloc (.cells #[] 39)).drew (w7.heap.size + 1) 29 (some ⟨w7.heap.size, 0, none⟩) 1 (Rd.ev.cells more) := evs_newC HMA.out
              have EN : ∀ W, Rd.ev.Ok W more → Reads (W.alloc (.cells #[.int .i64 more.id, .string more.room, .string more.sender, .int .i64 more.kind, .bool more.state, .string more.key, .int .i64 more.time, .int .i64 more.depth, more.prev.val, more.auth.val, .string more.content.text, .int .i64 more.content.n, .int .i64 more.content.target, .bool more.content.thread, .string more.content.via, more.content.allow.val, more.content.deny.val, more.content.levels.users.val, more.content.levels.kinds.val, .int .i64 more.content.levels.user, .int .i64 more.content.levels.message, .int .i64 more.content.levels.state, .int .i64 more.content.levels.invite, .int .i64 more.content.levels.kick, .int .i64 more.content.levels.ban, .int .i64 more.content.levels.redact, .int .i64 more.hash, .string more.sig.server, .int .i64 more.sig.sum] 39)) (W.alloc (.cells #[.int .i64 more.id, .string more.room, .string more.sender, .int .i64 more.kind, .bool more.state, .string more.key, .int .i64 more.time, .int .i64 more.depth, more.prev.val, more.auth.val, .string more.content.text, .int .i64 more.content.n, .int .i64 more.content.target, .bool more.content.thread, .string more.content.via, more.content.allow.val, more.content.deny.val, more.content.levels.users.val, more.content.levels.kinds.val, .int .i64 more.content.levels.user, .int .i64 more.content.levels.message, .int .i64 more.content.levels.state, .int .i64 more.content.levels.invite, .int .i64 more.content.levels.kick, .int .i64 more.content.levels.ban, .int .i64 more.content.levels.redact, .int .i64 more.hash, .string more.sig.server, .int .i64 more.sig.sum] 39)).heap.size 29 (some ⟨W.heap.size, 0, none⟩) 1 (Rd.ev.cells more) := fun W h => evs_new h
              go_region_held3 (fun w' => Below w7.heap.size w7 w' ∧ hasRow w' g 0 29 = true ∧ rowAt w' g 0 29 = .agg #[.int .i64 more.id, .string more.room, .string more.sender, .int .i64 more.kind, .bool more.state, .string more.key, .int .i64 more.time, .int .i64 more.depth, more.prev.val, more.auth.val, .string more.content.text, .int .i64 more.content.n, .int .i64 more.content.target, .bool more.content.thread, .string more.content.via, more.content.allow.val, more.content.deny.val, more.content.levels.users.val, more.content.levels.kinds.val, .int .i64 more.content.levels.user, .int .i64 more.content.levels.message, .int .i64 more.content.levels.state, .int .i64 more.content.levels.invite, .int .i64 more.content.levels.kick, .int .i64 more.content.levels.ban, .int .i64 more.content.levels.redact, .int .i64 more.hash, .string more.sig.server, .int .i64 more.sig.sum]) ((refine BX.out _ ?_; repeat (first | assumption | exact Below.refl _ _ | exact And.left ‹Below w7.heap.size w7 _ ∧ _› | refine Below.drew ?_ | refine below_alloc ?_ _)))
                (first
                | (refine step_app_rows rfl (.tmp 66) (.tmp 67) 32 rfl w7.heap.size 39 i0 (evv zEv) 29 376 Try.underlying32 HI.out HZ0.out HZ1.out HZ2.out rfl (by decide) (by decide) (.slice (some ⟨_, 0, none⟩) 0 0) 0 [] rfl (by with_reducible assumption) w7.heap.size A n c (Rd.ev.rows l) rfl (HLR.out.below (by with_reducible (repeat (first | assumption | exact Below.refl _ _ | refine Below.drew ?_ | refine below_alloc ?_ _)))) (Rd.rows_one' _ _) (by omega) (by first | (simp; done) | (simp; omega)) ?_; intro v1 w1x hown1 hg1; have hb1 : Below w7.heap.size w7 w1x := Below.grown (by with_reducible (repeat (first | assumption | exact Below.refl _ _ | refine Below.drew ?_ | refine below_alloc ?_ _))) hg1 (by first | (simp; done) | (simp; omega)) (fun j hj => (World.ownsRow.lt (by with_reducible assumption) _ hj).1); first | (with_reducible have hrd := reads_kept RB hg1 (by simp [Value.ownBlock]) (by simp)) | (with_reducible have hrd := reads_kept RC hg1 (by simp [Value.ownBlock]) (by simp)) | skip)
                | (refine step_app_rows rfl (.tmp 68) (.tmp 70) 32 rfl w7.heap.size 39 i0 (evv zEv) 29 376 Try.underlying32 HI.out HZ0.out HZ1.out HZ2.out rfl (by decide) (by decide) v1 _ _ rfl (by first | with_reducible exact hown1 | with_reducible exact World.ownsRow.alloc hown1 _) _ (some _) 1 1 (Rd.ev.cells more) rfl (by first | with_reducible exact hrd | with_reducible exact EN _ (Rd.ev.on HMA.out hb1)) (Rd.ev.one _) (by omega) (by have := hb1.size; simp; omega) ?_; intro v2 w2x hown2 hg2; have hb2 : Below w7.heap.size w7 w2x := Below.grown (by with_reducible (repeat (first | assumption | exact Below.refl _ _ | refine Below.drew ?_ | refine below_alloc ?_ _))) hg2 (by have := hb1.size; simp; omega) (fun j hj => (World.ownsRow.lt hown1 _ hj).1)))
              all_goals go_wp2_with fail
              all_goals go_meet
              all_goals
                obtain ⟨A', c', hv, hH⟩ := longer_form hown2 HL.out (fun e he => Rd.ev.on (HR7.out.2.2 e he) hb2) (Rd.ev.on HMA.out hb2)
                exact ⟨A', c', hv, hH, hb2⟩
            · obtain ⟨w7, hw7⟩ : ∃ w7, w7 = w6 := ⟨_, rfl⟩
              have c7 := c6
              have hr7 := hr6
              have hma7 := hma6
              have bx7 := bx6
              rw [← hw7] at c7 hr7 hma7 bx7 ⊢
              clear c6 hr6 hma6 bx6 hw7
              go_upto_region 13 with fail
              go_cut [11] (fun v wx => ∃ A' c', v = .slice A' (n + 1) c' ∧ Rd.ev.Holds wx A' (n + 1) (l ++ [more]) ∧ Below w7.heap.size w7 wx)
              case rest =>
                obtain ⟨A', c', rfl, hlo, hbx⟩ := hcut
                have c8 := below_then c7 hbx
                have hr8 := hr7.on hbx
                have hma8 := Rd.ev.on hma7 hbx
                have bx8 := bx7.on hbx
                have hsl : ∀ e ∈ l ++ [more], Small e.content s := fun e he => by
                  rcases List.mem_append.1 he with h | h
                  · exact HSA.out e h
                  · rw [List.mem_singleton] at h; subst h; exact HSM0.out
                have HSL := Lib.hid hsl
                have y3 : wc.cell? ⟨g, 3, none⟩ = some (.int .i64 more.kind) := by have := bx8.at_ 3 _ rfl; rwa [Nat.zero_add] at this
                obtain ⟨h16, v16⟩ := range_ev_cnt bx8.at_
                rw [Nat.zero_add] at h16 v16
                clear hbx c7 hr7 hma7 bx7 hsl
                have HM2 := Lib.hid (may_more (l := l) (x := more) (s := s) (.inl HIS.out.symm))
                generalize hmm : mayI l s = m at HM2
                have HMM := Lib.hid hmm
                clear hmm hma8 bx8 h16 v16
                go_wp2_with fail
                refine (may_any A' (n + 1) c' (l ++ [more]) s wc hlo (by omega) (of_lists hlo HSL.out)).mono ?_
                rintro e w9 ⟨rfl, b9⟩
                rw [HM2.out]
                have c9 := below_then c8 b9
                have hr9 := hr8.on b9
                clear b9 hlo hr8 c8
                go_wp2_with fail
                refine (may_any A n c l s w9 hr9 (by omega) (of_lists hr9 HSA.out)).mono ?_
                rintro e w10 ⟨rfl, b10⟩
                rw [HMM.out]
                have c10 := below_then c9 b10
                clear b10 hr9 c9
                go_wp2_with fail
                refine (AW.out _ c10).mono ?_
                rintro e w11 ⟨rfl, b11⟩
                go_wp2_with fail
                go_ret
                exact ⟨rfl, b11⟩
              have HLR : Hid (Reads w7 w7.heap.size 29 A n (Rd.ev.rows l)) := Lib.hid hr7.1
              have HMA := Lib.hid hma7
              have HR7 := Lib.hid hr7
              have BX := Lib.hid (fun W (h : Below w7.heap.size w7 W) => held_ev bx7 h)
              have OA : (w7.alloc (.cells #[] 39)).drew.ownsRow w7.heap.size 39 29 (.slice (some ⟨w7.heap.size, 0, none⟩) 0 0) 0 [] := ownA w7
              have OB : ((w7.alloc (.cells #[] 39)).alloc (.cells #[.int .i64 more.id, .string more.room, .string more.sender, .int .i64 more.kind, .bool more.state, .string more.key, .int .i64 more.time, .int .i64 more.depth, more.prev.val, more.auth.val, .string more.content.text, .int .i64 more.content.n, .int .i64 more.content.target, .bool more.content.thread, .string more.content.via, more.content.allow.val, more.content.deny.val, more.content.levels.users.val, more.content.levels.kinds.val, .int .i64 more.content.levels.user, .int .i64 more.content.levels.message, .int .i64 more.content.levels.state, .int .i64 more.content.levels.invite, .int .i64 more.content.levels.kick, .int .i64 more.content.levels.ban, .int .i64 more.content.levels.redact, .int .i64 more.hash, .string more.sig.server, .int .i64 more.sig.sum] 39)).drew.ownsRow w7.heap.size 39 29 (.slice (some ⟨w7.heap.size, 0, none⟩) 0 0) 0 [] := ownB w7 _
              have OC : ((w7.alloc (.cells #[.int .i64 more.id, .string more.room, .string more.sender, .int .i64 more.kind, .bool more.state, .string more.key, .int .i64 more.time, .int .i64 more.depth, more.prev.val, more.auth.val, .string more.content.text, .int .i64 more.content.n, .int .i64 more.content.target, .bool more.content.thread, .string more.content.via, more.content.allow.val, more.content.deny.val, more.content.levels.users.val, more.content.levels.kinds.val, .int .i64 more.content.levels.user, .int .i64 more.content.levels.message, .int .i64 more.content.levels.state, .int .i64 more.content.levels.invite, .int .i64 more.content.levels.kick, .int .i64 more.content.levels.ban, .int .i64 more.content.levels.redact, .int .i64 more.hash, .string more.sig.server, .int .i64 more.sig.sum] 39)).alloc (.cells #[] 39)).drew.ownsRow w7.heap.size 39 29 (.slice (some ⟨w7.heap.size + 1, 0, none⟩) 0 0) 0 [] := ownC w7 _
              have RB : Reads ((w7.alloc (.cells #[] 39)).alloc (.cells #[.int .i64 more.id, .string more.room, .string more.sender, .int .i64 more.kind, .bool more.state, .string more.key, .int .i64 more.time, .int .i64 more.depth, more.prev.val, more.auth.val, .string more.content.text, .int .i64 more.content.n, .int .i64 more.content.target, .bool more.content.thread, .string more.content.via, more.content.allow.val, more.content.deny.val, more.content.levels.users.val, more.content.levels.kinds.val, .int .i64 more.content.levels.user, .int .i64 more.content.levels.message, .int .i64 more.content.levels.state, .int .i64 more.content.levels.invite, .int .i64 more.content.levels.kick, .int .i64 more.content.levels.ban, .int .i64 more.content.levels.redact, .int .i64 more.hash, .string more.sig.server, .int .i64 more.sig.sum] 39)).drew (w7.heap.size + 2) 29 (some ⟨w7.heap.size + 1, 0, none⟩) 1 (Rd.ev.cells more) := evs_newB HMA.out
              have RC : Reads ((w7.alloc (.cells #[.int .i64 more.id, .string more.room, .string more.sender, .int .i64 more.kind, .bool more.state, .string more.key, .int .i64 more.time, .int .i64 more.depth, more.prev.val, more.auth.val, .string more.content.text, .int .i64 more.content.n, .int .i64 more.content.target, .bool more.content.thread, .string more.content.via, more.content.allow.val, more.content.deny.val, more.content.levels.users.val, more.content.levels.kinds.val, .int .i64 more.content.levels.user, .int .i64 more.content.levels.message, .int .i64 more.content.levels.state, .int .i64 more.content.levels.invite, .int .i64 more.content.levels.kick, .int .i64 more.content.levels.ban, .int .i64 more.content.levels.redact, .int .i64 more.hash, .string more.sig.server, .int .i64 more.sig.sum] 39)).alloc (.cells #[] 39)).drew (w7.heap.size + 1) 29 (some ⟨w7.heap.size, 0, none⟩) 1 (Rd.ev.cells more) := evs_newC HMA.out
              have EN : ∀ W, Rd.ev.Ok W more → Reads (W.alloc (.cells #[.int .i64 more.id, .string more.room, .string more.sender, .int .i64 more.kind, .bool more.state, .string more.key, .int .i64 more.time, .int .i64 more.depth, more.prev.val, more.auth.val, .string more.content.text, .int .i64 more.content.n, .int .i64 more.content.target, .bool more.content.thread, .string more.content.via, more.content.allow.val, more.content.deny.val, more.content.levels.users.val, more.content.levels.kinds.val, .int .i64 more.content.levels.user, .int .i64 more.content.levels.message, .int .i64 more.content.levels.state, .int .i64 more.content.levels.invite, .int .i64 more.content.levels.kick, .int .i64 more.content.levels.ban, .int .i64 more.content.levels.redact, .int .i64 more.hash, .string more.sig.server, .int .i64 more.sig.sum] 39)) (W.alloc (.cells #[.int .i64 more.id, .string more.room, .string more.sender, .int .i64 more.kind, .bool more.state, .string more.key, .int .i64 more.time, .int .i64 more.depth, more.prev.val, more.auth.val, .string more.content.text, .int .i64 more.content.n, .int .i64 more.content.target, .bool more.content.thread, .string more.content.via, more.content.allow.val, more.content.deny.val, more.content.levels.users.val, more.content.levels.kinds.val, .int .i64 more.content.levels.user, .int .i64 more.content.levels.message, .int .i64 more.content.levels.state, .int .i64 more.content.levels.invite, .int .i64 more.content.levels.kick, .int .i64 more.content.levels.ban, .int .i64 more.content.levels.redact, .int .i64 more.hash, .string more.sig.server, .int .i64 more.sig.sum] 39)).heap.size 29 (some ⟨W.heap.size, 0, none⟩) 1 (Rd.ev.cells more) := fun W h => evs_new h
              go_region_held3 (fun w' => Below w7.heap.size w7 w' ∧ hasRow w' g 0 29 = true ∧ rowAt w' g 0 29 = .agg #[.int .i64 more.id, .string more.room, .string more.sender, .int .i64 more.kind, .bool more.state, .string more.key, .int .i64 more.time, .int .i64 more.depth, more.prev.val, more.auth.val, .string more.content.text, .int .i64 more.content.n, .int .i64 more.content.target, .bool more.content.thread, .string more.content.via, more.content.allow.val, more.content.deny.val, more.content.levels.users.val, more.content.levels.kinds.val, .int .i64 more.content.levels.user, .int .i64 more.content.levels.message, .int .i64 more.content.levels.state, .int .i64 more.content.levels.invite, .int .i64 more.content.levels.kick, .int .i64 more.content.levels.ban, .int .i64 more.content.levels.redact, .int .i64 more.hash, .string more.sig.server, .int .i64 more.sig.sum]) ((refine BX.out _ ?_; repeat (first | assumption | exact Below.refl _ _ | exact And.left ‹Below w7.heap.size w7 _ ∧ _› | refine Below.drew ?_ | refine below_alloc ?_ _)))
                (first
                | (refine step_app_rows rfl (.tmp 66) (.tmp 67) 32 rfl w7.heap.size 39 i0 (evv zEv) 29 376 Try.underlying32 HI.out HZ0.out HZ1.out HZ2.out rfl (by decide) (by decide) (.slice (some ⟨_, 0, none⟩) 0 0) 0 [] rfl (by with_reducible assumption) w7.heap.size A n c (Rd.ev.rows l) rfl (HLR.out.below (by with_reducible (repeat (first | assumption | exact Below.refl _ _ | refine Below.drew ?_ | refine below_alloc ?_ _)))) (Rd.rows_one' _ _) (by omega) (by first | (simp; done) | (simp; omega)) ?_; intro v1 w1x hown1 hg1; have hb1 : Below w7.heap.size w7 w1x := Below.grown (by with_reducible (repeat (first | assumption | exact Below.refl _ _ | refine Below.drew ?_ | refine below_alloc ?_ _))) hg1 (by first | (simp; done) | (simp; omega)) (fun j hj => (World.ownsRow.lt (by with_reducible assumption) _ hj).1); first | (with_reducible have hrd := reads_kept RB hg1 (by simp [Value.ownBlock]) (by simp)) | (with_reducible have hrd := reads_kept RC hg1 (by simp [Value.ownBlock]) (by simp)) | skip)
                | (refine step_app_rows rfl (.tmp 68) (.tmp 70) 32 rfl w7.heap.size 39 i0 (evv zEv) 29 376 Try.underlying32 HI.out HZ0.out HZ1.out HZ2.out rfl (by decide) (by decide) v1 _ _ rfl (by first | with_reducible exact hown1 | with_reducible exact World.ownsRow.alloc hown1 _) _ (some _) 1 1 (Rd.ev.cells more) rfl (by first | with_reducible exact hrd | with_reducible exact EN _ (Rd.ev.on HMA.out hb1)) (Rd.ev.one _) (by omega) (by have := hb1.size; simp; omega) ?_; intro v2 w2x hown2 hg2; have hb2 : Below w7.heap.size w7 w2x := Below.grown (by with_reducible (repeat (first | assumption | exact Below.refl _ _ | refine Below.drew ?_ | refine below_alloc ?_ _))) hg2 (by have := hb1.size; simp; omega) (fun j hj => (World.ownsRow.lt hown1 _ hj).1)))
              all_goals go_wp2_with fail
              all_goals go_meet
              all_goals
                obtain ⟨A', c', hv, hH⟩ := longer_form hown2 HL.out (fun e he => Rd.ev.on (HR7.out.2.2 e he) hb2) (Rd.ev.on HMA.out hb2)
                exact ⟨A', c', hv, hH, hb2⟩
      · clear hg3
        go_wp2_with fail
        refine (AW.out _ c3).mono ?_
        rintro e w5 ⟨rfl, b5⟩
        go_wp2_with fail
        go_ret
        exact ⟨rfl, b5⟩
    · go_wp2_with fail
      refine (AW.out _ c2).mono ?_
      rintro e w5 ⟨rfl, b5⟩
      go_wp2_with fail
      go_ret
      exact ⟨rfl, b5⟩
  · clear hg1
    go_wp2_with fail
    refine (AW.out _ c1).mono ?_
    rintro e w5 ⟨rfl, b5⟩
    go_wp2_with fail
    go_ret
    exact ⟨rfl, b5⟩
end Go.Proofs.Ytbdbhnmeainmfaa
