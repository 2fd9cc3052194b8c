/-
  The walks through the reference's Renew, Wants and Stale of chapter 45.
-/
import Derived.Test.YtnbgcjangoiodaaSesE
namespace Go.Proofs.Ytnbgcjangoiodaa
open Go.RowKit
attribute [local go_sem ↓] ex_st_shr ex_st_own ex_st_ses
attribute [local go_sem] st_shr_new st_shr st_own_new st_ses_new st_ses

set_option maxRecDepth 100000 in
set_option maxHeartbeats 8000000 in
theorem rrenew_any (id0 : Int) (room : ByteArray) (next : Int) (A : Option Addr) (n c : Nat) (A2 : Option Addr) (n2 c2 : Nat) (ms : List ByteArray) (B : Option Addr) (m d : Nat) (ks : List Kys) (id : Int) (w : World)
    (hr : Strs w A2 n2 ms) (hn2 : n2 ≤ 30) (hx : ∀ x ∈ ms, x.size ≤ maxLen) (hk : Rd.kys.Holds w B m ks) (hf : Few ks) :
    Calls Try.prog 28 #[sesA id0 room next A n c, .slice A2 n2 c2, .slice B m d, .int .i64 id] w (RenewP w id room (Ss.shs (Ss.own (bss ms) ks) 0)) := by
  have hok0 := own_ok hx hk
  have hL900 : (Ss.own (bss ms) ks).length ≤ 900 := Ss.own_length (by rw [List.length_map]; have := hr.length; omega) hk hf
  have HOK := Lib.hid (shs_ok (i := 0) (by omega) hok0)
  obtain ⟨wa, hwa⟩ : ∃ wa : World, wa = (w.alloc (.cells #[.int .i64 id0, .string room, .int .i64 next, .slice A n c] 24)).alloc (.cells #[.int .i64 0, .string ⟨#[]⟩, .int .i64 0, .slice none 0 0] 24) := ⟨_, rfl⟩
  have hba : Below w.heap.size w wa := by rw [hwa]; exact below_alloc (below_alloc (Below.refl _ _) _) _
  have b0 : OBox wa w.heap.size [.int .i64 id0, .string room, .int .i64 next, .slice A n c] := by rw [hwa]; exact (OBox.new w [.int .i64 id0, .string room, .int .i64 next, .slice A n c] _).on (below_alloc (Below.refl _ _) _)
  have r0 : OBox wa (w.heap.size + 1) [.int .i64 0, .string ⟨#[]⟩, .int .i64 0, .slice none 0 0] := by rw [hwa]; simpa using OBox.new (w.alloc (.cells #[.int .i64 id0, .string room, .int .i64 next, .slice A n c] 24)) [.int .i64 0, .string ⟨#[]⟩, .int .i64 0, .slice none 0 0] 24
  go_enter Try.func28, Try.ntmps28
  go_upto_region 1 with fail
  rw [← hwa]
  have HW := Lib.hid hwa; clear hwa
  obtain ⟨g, hg⟩ : ∃ g, w.heap.size = g := ⟨_, rfl⟩
  rw [hg] at b0 r0 ⊢
  have HG := Lib.hid hg
  clear hg
  have hra := hr.on hba
  have hka := hk.on hba
  obtain ⟨S, hS⟩ : ∃ S, S = Ss.shs (Ss.own (bss ms) ks) 0 := ⟨_, rfl⟩
  rw [← hS] at HOK ⊢
  have CD : Hid (∀ V, Below wa.heap.size wa V → Calls Try.prog 29 #[.slice A2 n2 c2, .slice B m d, .int .i64 0] V fun e V' => ∃ A' c', e = .returned (.slice A' S.length c') ∧ Below V.heap.size V V' ∧ Rd.shr.Holds V' A' S.length S ∧ S.length ≤ c') :=
    Lib.hid fun V hb => (devices_any A2 n2 c2 ms B m d ks 0 V (hra.on hb) hn2 (hka.on hb) hf).mono fun e V' ⟨v, h1, h2, h3⟩ => by
      rw [← hS] at h3
      obtain ⟨A', c', rfl, h4, h5⟩ := h3.form HOK.out
      exact ⟨A', c', h1, h2, h4, h5⟩
  have KX := Lib.hid (fun V (h : Below wa.heap.size wa V) => (⟨below_then hba h, (b0.on h).cell rfl, (r0.on h).there (n := 4) rfl⟩ : Below w.heap.size w V ∧ V.cell? ⟨g, 1, none⟩ = some (.string room) ∧ thereB V (g + 1) 4 = true))
  have SP := Lib.hid (fun V (cs : List Value) (hl : cs.length = 4) (h : Below wa.heap.size wa V) => (⟨below_put (g := g + 1) (by have := HG.out; omega) (below_then hba h), ((b0.on h).putOther (g' := g + 1) (cs := cs) (by omega)).cell rfl, ((r0.on h).put hl).there (n := 4) hl⟩ : Below w.heap.size w (putRow V (g + 1) cs) ∧ (putRow V (g + 1) cs).cell? ⟨g, 1, none⟩ = some (.string room) ∧ thereB (putRow V (g + 1) cs) (g + 1) 4 = true))
  have R0 := Lib.hid r0
  have HSS := Lib.hid hS
  clear hS hok0 hL900 hr hk hra hka b0 r0 hba
  go_region_held3 (fun V => Below w.heap.size w V ∧ V.cell? ⟨g, 1, none⟩ = some (.string room) ∧ thereB V (g + 1) 4 = true)
    (first | exact KX.out _ (by assumption) | exact KX.out _ (Below.refl _ _) | exact KX.out _ (Below.drew (Below.refl _ _)) | exact SP.out _ _ rfl (by assumption))
    (first
    | (go_at_call 29; refine (CD.out _ (by first | assumption | exact Below.refl _ _ | exact Below.drew (Below.refl _ _))).mono ?_; (first | (have bq2 := bq1; rintro e wy ⟨A2r, c2r, rfl, bx, hH2, hc2x⟩; have bx2 : Below wa.heap.size wa wy := below_then bq1 bx; have hH3 := Rd.Holds.on hH1 bx; clear bx bq2) | (rintro e wx ⟨A1r, c1r, rfl, bx, hH1, hc1x⟩; have bq1 : Below wa.heap.size wa wx := below_then (by first | exact Below.refl _ _ | exact Below.drew (Below.refl _ _)) bx; clear bx))))
  all_goals
    have rX := R0.out.on bx2
    have HT := Lib.hid (rX.there (n := 4) rfl)
    have F3 := Lib.hid (shr_apart hH3 rX [.int .i64 id, .string room, .int .i64 0, .slice A1r S.length c1r])
    have F2 := Lib.hid (shr_apart hH2 rX [.int .i64 id, .string room, .int .i64 0, .slice A1r S.length c1r])
    have hP : Below w.heap.size w (putRow wy (g + 1) [.int .i64 id, .string room, .int .i64 0, .slice A1r S.length c1r]) := by first | assumption | exact And.left (by assumption)
    have HP := Lib.hid hP
    clear hP hH1 hH2 hH3 rX bx2 bq1
    go_wp2_with fail
    refine bodyPost_ret (v := .tuple #[sesA id room 0 A1r S.length c1r, .slice A2r S.length c2r]) ?_ rfl (by rw [← HSS.out]; exact ⟨HP.out, A1r, c1r, A2r, c2r, rfl, F3.out, hc1x, F2.out, hc2x⟩)
    rw [results_cell_tmp (fn := Try.f28) (p := 8) (q := 9) (ty := 24) rfl _ _ (g + 1) [.int .i64 id, .string room, .int .i64 0, .slice A1r S.length c1r] _ ?_ (range_put HT.out) Try.underlying24 rfl (by rw [inf_ses]; rfl)]
    · rfl
    · rfl

namespace Ss
theorem shs_at {L : List D} {i : Int} {k : Nat} {x : Shr} (h : (shs L i)[k]? = some x) : ∃ a, L[k]? = some a ∧ x = ⟨mkB a.1, mkB a.2, i⟩ := by
  unfold shs at h
  rw [List.getElem?_map] at h
  cases ha : L[k]? with
  | none => rw [ha] at h; cases h
  | some a => rw [ha] at h; cases h; exact ⟨a, rfl, rfl⟩
end Ss
theorem fndV_form (F : Option Shr) : ∃ u d i, fndV F = .tuple #[.agg #[.string u, .string d, .int .i64 i], .bool F.isSome] := by cases F <;> exact ⟨_, _, _, rfl⟩
theorem who_mkB (a : Ss.D) : (bs (mkB a.1), bs (mkB a.2)) = a := by rw [bs_mkB, bs_mkB]

set_option maxRecDepth 100000 in
set_option maxHeartbeats 8000000 in
theorem rwants_any (id : Int) (room : ByteArray) (next : Int) (A : Option Addr) (n c : Nat) (l : List Shr) (A2 : Option Addr) (n2 c2 : Nat) (ms : List ByteArray) (B : Option Addr) (m d : Nat) (ks : List Kys) (w : World)
    (hl : Rd.shr.Holds w A n l) (hn : n ≤ 1000000) (hnx : -9223372036854775808 ≤ next ∧ next ≤ 9223372036854775807) (hr : Strs w A2 n2 ms) (hn2 : n2 ≤ 30) (hx : ∀ x ∈ ms, x.size ≤ maxLen) (hk : Rd.kys.Holds w B m ks) (hf : Few ks) :
    Calls Try.prog 24 #[sesA id room next A n c, .slice A2 n2 c2, .slice B m d] w fun e w' => ∃ v, e = .returned v ∧ Below w.heap.size w w' ∧ OwnShrs w' w.heap.size v (Ss.wants l next (Ss.own (bss ms) ks)) := by
  obtain ⟨i0, hi, hz0, hz1, hz2⟩ := info_parts infoShr
  have HI := Lib.hid hi; have HZ0 := Lib.hid hz0; have HZ1 := Lib.hid hz1; have HZ2 := Lib.hid hz2
  clear hi hz0 hz1 hz2
  have hL900 : (Ss.own (bss ms) ks).length ≤ 900 := Ss.own_length (by rw [List.length_map]; have := hr.length; omega) hk hf
  have HOK := Lib.hid (shs_ok hnx (own_ok hx hk))
  obtain ⟨wa, hwa⟩ : ∃ wa : World, wa = w.alloc (.cells #[.int .i64 id, .string room, .int .i64 next, .slice A n c] 24) := ⟨_, rfl⟩
  have hba : Below w.heap.size w wa := by rw [hwa]; exact below_alloc (Below.refl _ _) _
  have b0 : Box wa w.heap.size [.int .i64 id, .string room, .int .i64 next, .slice A n c] := by rw [hwa]; exact Box.new w [.int .i64 id, .string room, .int .i64 next, .slice A n c] _
  go_enter Try.func24, Try.ntmps24
  go_upto_region 1 with fail
  rw [← hwa]
  have HW := Lib.hid hwa; clear hwa
  obtain ⟨g, hg⟩ : ∃ g, w.heap.size = g := ⟨_, rfl⟩
  rw [hg] at b0 ⊢
  have HG := Lib.hid hg
  clear hg
  have k2 : wa.cell? ⟨g, 2, none⟩ = some (.int .i64 next) := b0.at_ 2 _ rfl
  go_wp2_with fail
  refine (devices_any A2 n2 c2 ms B m d ks next wa (hr.on hba) hn2 (hk.on hba) hf).mono ?_
  rintro e w1 ⟨v1, rfl, bb1, own1⟩
  obtain ⟨L, hL⟩ : ∃ L, L = Ss.own (bss ms) ks := ⟨_, rfl⟩
  rw [← hL] at own1 hL900 HOK
  have HLL := Lib.hid hL
  clear hL
  obtain ⟨S, hS⟩ : ∃ S, S = Ss.shs L next := ⟨_, rfl⟩
  have hSl : S.length = L.length := by rw [hS, shs_length]
  rw [← hS] at own1 HOK
  obtain ⟨A1, c1, rfl, hD, _⟩ := own1.form HOK.out
  rw [hSl] at hD ⊢
  have HSL := Lib.hid hSl
  have b1 := b0.on bb1
  have hb1 := below_then hba bb1
  have hl1 := hl.on hb1
  have HS := Lib.hid hS
  clear own1 b0 bb1 hba hl hr hk hS hSl k2
  go_wp2_with fail
  go_loopw [8, 9] (fun out i wr => W1I w1 l next L w1.heap.size out i wr) (fun _ i _ => L.length - (intOf i).toNat)
  case atStart => exact ⟨0, by omega, rfl, Below.refl _ _, by rw [List.take_zero]; exact World.ownsRow_nil _ _ _ _⟩
  case round =>
    obtain ⟨k, hk, rfl, hbw, hown⟩ := hrel
    have hle := hbw.size
    by_cases hkn : k < L.length
    · obtain ⟨b, o, x, rfl, hbl, hux, _, _, hxa⟩ := (hD.on hbw).mid (by decide) hkn
      obtain ⟨a, ha, rfl⟩ := Ss.shs_at (by rw [← HS.out]; exact hux)
      clear hux
      have hwl : (Ss.wants l next (L.take k)).length ≤ 900 := by have := Ss.wants_length l (L.take k) next; have := List.length_take_le k L; omega
      have bR := b1.on hbw
      have hl2 := hl1.on hbw
      have BX := Lib.hid (fun V (h : Below wr.heap.size wr V) => (⟨h, (bR.on h).at_ 0 _ rfl, (bR.on h).at_ 1 _ rfl, (bR.on h).at_ 2 _ rfl, (bR.on h).at_ 3 _ rfl, (range_on hxa h hbl) 0 _ rfl, (range_on hxa h hbl) 1 _ rfl⟩ :
        Below wr.heap.size wr V ∧ V.cell? ⟨g, 0, none⟩ = some (.int .i64 id) ∧ V.cell? ⟨g, 1, none⟩ = some (.string room) ∧ V.cell? ⟨g, 2, none⟩ = some (.int .i64 next) ∧ V.cell? ⟨g, 3, none⟩ = some (.slice A n c) ∧ V.cell? ⟨b, o + k * 3, none⟩ = some (.string (mkB a.1)) ∧ V.cell? ⟨b, o + k * 3 + 1, none⟩ = some (.string (mkB a.2))))
      obtain ⟨F, hF⟩ : ∃ F, F = Ss.find l a := ⟨_, rfl⟩
      obtain ⟨fu, fd, fi, hff⟩ := fndV_form F
      have CD : Hid (∀ V, Below wr.heap.size wr V → Calls Try.prog 37 #[sesA id room next A n c, .string (mkB a.1), .string (mkB a.2)] V (Ret V (.tuple #[.agg #[.string fu, .string fd, .int .i64 fi], .bool F.isSome]))) :=
        Lib.hid fun V hb => by have := rshare_any id room next A n c l (mkB a.1) (mkB a.2) V (hl2.on hb) hn; rw [who_mkB] at this; rw [← hF] at this; rw [← hff]; exact this
      have HF := Lib.hid hF
      clear hF hff
      go_upto_region 6 with fail
      go_cut [11] (fun s V => s = .bool F.isSome ∧ Below wr.heap.size wr V)
      case rest =>
        obtain ⟨rfl, hbv⟩ := hcut
        have hb3 := below_then hbw hbv
        have hown3 := owns_on hown hbv
        have R0 := Lib.hid (range_on hxa hbv hbl)
        clear hbv BX CD hown hbw hxa hle bR hl2
        cases F with
        | some x =>
          have HN := Lib.hid (Ss.wants_some (next := next) ha HF.out.symm)
          clear HF ha
          go_wp2_with fail
          exact ⟨⟨k + 1, hkn, by go_num, hb3, by rw [HN.out]; exact hown3⟩, by simp [intOf]; omega⟩
        | none =>
          have HN := Lib.hid (Ss.wants_none (next := next) ha HF.out.symm)
          clear HF ha
          have x0 : wc.cell? ⟨b, o + k * 3, none⟩ = some (.string (mkB a.1)) := R0.out 0 _ rfl
          have x1 : wc.cell? ⟨b, o + k * 3 + 1, none⟩ = some (.string (mkB a.2)) := R0.out 1 _ rfl
          have x2 : wc.cell? ⟨b, o + k * 3 + 2, none⟩ = some (.int .i64 next) := R0.out 2 _ rfl
          have hle4 := hb3.size
          go_wp2_with (at_builtin; refine wpList_append_own _ rfl _ _ 22 rfl w1.heap.size 56 i0 _ 3 40 Try.underlying22 HI.out HZ0.out HZ1.out HZ2.out rfl (by decide) _ _ _ rfl (World.ownsRow.alloc hown3 _) ⟨wc.heap.size, 0, none⟩ 1 1 [.string (mkB a.1), .string (mkB a.2), .int .i64 next] rfl rfl ?c1 ?c2 ?c3 ?c4 ?c5 ?_)
          case c1 => exact World.news_of_block (cs := #[.string (mkB a.1), .string (mkB a.2), .int .i64 next]) (t := 56) (fr := (0, 0)) (heap_alloc_new _ _)
          case c2 => simp [Value.oneCell']
          case c3 => unfold maxLen; omega
          case c4 => omega
          case c5 => simp; omega
          intro v' w' hown' hgrow _
          have hb5 : Below w1.heap.size w1 w' := (hb3.alloc (by omega) _).grown hgrow (by simp; omega) (fun j hj => (World.ownsRow.lt hown3 _ hj).1)
          have hown5 : OwnShrs w' w1.heap.size v' (Ss.wants l next (L.take (k + 1))) := by
            rw [HN.out]
            unfold OwnShrs
            rw [List.length_append, shr_snoc]; exact hown'
          clear hown' hgrow hown3 x0 x1 x2
          go_wp2_with fail
          exact ⟨⟨k + 1, hkn, by go_num, hb5, hown5⟩, by simp [intOf]; omega⟩
      clear ha HF hown hwl bR hl2 hxa
      go_region_held3 (fun V => Below wr.heap.size wr V ∧ V.cell? ⟨g, 0, none⟩ = some (.int .i64 id) ∧ V.cell? ⟨g, 1, none⟩ = some (.string room) ∧ V.cell? ⟨g, 2, none⟩ = some (.int .i64 next) ∧ V.cell? ⟨g, 3, none⟩ = some (.slice A n c) ∧ V.cell? ⟨b, o + k * 3, none⟩ = some (.string (mkB a.1)) ∧ V.cell? ⟨b, o + k * 3 + 1, none⟩ = some (.string (mkB a.2)))
        ((refine BX.out _ ?_; repeat (first | assumption | exact Below.refl _ _ | exact And.left ‹Below wr.heap.size wr _ ∧ _› | refine Below.drew ?_ | refine below_alloc ?_ _ | refine below_put (by first | exact Nat.le_refl _ | exact bz2.size) ?_)))
        (first | (go_at_call 37; have hB := And.left ‹Below wr.heap.size wr _ ∧ _›; refine (CD.out _ hB).mono ?_; rintro e wz ⟨rfl, bz⟩; have bz2 : Below wr.heap.size wr wz := below_then hB bz; (try (have hth := thereB_on (thereB_of ((World.there_drew _ _ 0 3).2 (there_of (thereB_new wr #[.string ⟨#[]⟩, .string ⟨#[]⟩, .int .i64 0] 56 3 rfl)))) (by simp) bz)); clear bz hB))
      all_goals
        have hB9 := And.left ‹Below wr.heap.size wr _ ∧ _›
        clear BX
        go_wp2_with fail
      all_goals go_meet
      all_goals exact ⟨rfl, hB9⟩
    · have hF : Ss.wants l next (L.take k) = Ss.wants l next (Ss.own (bss ms) ks) := by rw [List.take_of_length_le (by omega), HLL.out]
      have HF := Lib.hid hF; clear hF
      go_wp2_with fail
      go_ret
      exact ⟨u8, rfl, below_then hb1 hbw, by rw [← HF.out]; exact owns_le hown hb1.size⟩

theorem has_shs (L : List Ss.D) (a : Ss.D) (i : Int) : (Ss.find (Ss.shs L i) a).isSome = decide (a ∈ L) := by
  rw [Ss.find_shs]
  by_cases h : a ∈ L
  · rw [if_pos h, decide_eq_true h]; rfl
  · rw [if_neg h, decide_eq_false h]; rfl

set_option maxRecDepth 100000 in
set_option maxHeartbeats 8000000 in
theorem rstale_any (id : Int) (room : ByteArray) (next : Int) (A : Option Addr) (n c : Nat) (l : List Shr) (A2 : Option Addr) (n2 c2 : Nat) (ms : List ByteArray) (B : Option Addr) (m d : Nat) (ks : List Kys) (w : World)
    (hl : Rd.shr.Holds w A n l) (hn : n ≤ 1000000) (hr : Strs w A2 n2 ms) (hn2 : n2 ≤ 30) (hx : ∀ x ∈ ms, x.size ≤ maxLen) (hk : Rd.kys.Holds w B m ks) (hf : Few ks) :
    Calls Try.prog 26 #[sesA id room next A n c, .slice A2 n2 c2, .slice B m d] w (Ret w (.bool (Ss.stale l (Ss.own (bss ms) ks)))) := by
  have HLN := Lib.hid hl.length
  have hL900 : (Ss.own (bss ms) ks).length ≤ 900 := Ss.own_length (by rw [List.length_map]; have := hr.length; omega) hk hf
  have HOK := Lib.hid (shs_ok (i := 0) (by omega) (own_ok hx hk))
  obtain ⟨wa, hwa⟩ : ∃ wa : World, wa = w.alloc (.cells #[.int .i64 id, .string room, .int .i64 next, .slice A n c] 24) := ⟨_, rfl⟩
  have hba : Below w.heap.size w wa := by rw [hwa]; exact below_alloc (Below.refl _ _) _
  have b0 : Box wa w.heap.size [.int .i64 id, .string room, .int .i64 next, .slice A n c] := by rw [hwa]; exact Box.new w [.int .i64 id, .string room, .int .i64 next, .slice A n c] _
  go_enter Try.func26, Try.ntmps26
  go_upto_region 1 with fail
  rw [← hwa]
  have HW := Lib.hid hwa; clear hwa
  obtain ⟨g, hg⟩ : ∃ g, w.heap.size = g := ⟨_, rfl⟩
  rw [hg] at b0 ⊢
  have HG := Lib.hid hg
  clear hg
  go_wp2_with fail
  refine (devices_any A2 n2 c2 ms B m d ks 0 wa (hr.on hba) hn2 (hk.on hba) hf).mono ?_
  rintro e w1 ⟨v1, rfl, bb1, own1⟩
  obtain ⟨L, hL⟩ : ∃ L, L = Ss.own (bss ms) ks := ⟨_, rfl⟩
  rw [← hL] at own1 hL900 HOK
  have HLL := Lib.hid hL
  clear hL
  obtain ⟨S, hS⟩ : ∃ S, S = Ss.shs L 0 := ⟨_, rfl⟩
  have hSl : S.length = L.length := by rw [hS, shs_length]
  rw [← hS] at own1 HOK
  obtain ⟨A1, c1, rfl, hD, _⟩ := own1.form HOK.out
  rw [hSl] at hD ⊢
  have b1 := b0.on bb1
  have hb1 := below_then hba bb1
  have hl1 := hl.on hb1
  have HS := Lib.hid hS
  clear own1 b0 bb1 hba hl hr hk hS hSl
  go_upto_region 2 with fail
  have bq := Box.new w1 [.int .i64 0, .string ⟨#[]⟩, .int .i64 0, .slice A1 L.length c1] 24
  have hbq := below_alloc (Below.refl w1.heap.size w1) (.cells #[.int .i64 0, .string ⟨#[]⟩, .int .i64 0, .slice A1 L.length c1] 24)
  change Box (w1.alloc (.cells #[.int .i64 0, .string ⟨#[]⟩, .int .i64 0, .slice A1 L.length c1] 24)) _ _ at bq
  generalize w1.alloc (.cells #[.int .i64 0, .string ⟨#[]⟩, .int .i64 0, .slice A1 L.length c1] 24) = w2 at bq hbq ⊢
  have hb2 := below_then hb1 hbq
  have b2 := b1.on hbq
  have hD2 := hD.on hbq
  have hl2 := hl1.on hbq
  obtain ⟨q, hq⟩ : ∃ q, w1.heap.size = q := ⟨_, rfl⟩
  rw [hq] at bq ⊢
  clear hq hbq b1 hD hl1 hb1
  have k3 : w2.cell? ⟨g, 3, none⟩ = some (.slice A n c) := b2.at_ 3 _ rfl
  go_upto_region 3 with fail
  go_loopw [8] (fun i wr => ∃ k : Nat, k ≤ n ∧ i = .int .i64 k ∧ Below w2.heap.size w2 wr ∧ Ss.In l L k) (fun i _ => n - (intOf i).toNat)
  case atStart => exact ⟨0, by omega, rfl, Below.refl _ _, fun j _ _ h => by omega⟩
  case round =>
    obtain ⟨k, hk, rfl, hbw, hin⟩ := hrel
    clear k3
    have hle := hbw.size
    have bR := b2.on hbw
    have qR := bq.on hbw
    have k3 : wr.cell? ⟨g, 3, none⟩ = some (.slice A n c) := bR.at_ 3 _ rfl
    by_cases hkn : k < n
    · obtain ⟨b, o, x, rfl, hbl, hux, _, _, hxa⟩ := (hl2.on hbw).mid (by decide) hkn
      have hD3 := hD2.on hbw
      have BX := Lib.hid (fun V (h : Below wr.heap.size wr V) => (⟨h, (qR.on h).at_ 0 _ rfl, (qR.on h).at_ 1 _ rfl, (qR.on h).at_ 2 _ rfl, (qR.on h).at_ 3 _ rfl, (bR.on h).at_ 3 _ rfl, (range_on hxa h hbl) 0 _ rfl, (range_on hxa h hbl) 1 _ rfl⟩ :
        Below wr.heap.size wr V ∧ V.cell? ⟨q, 0, none⟩ = some (.int .i64 0) ∧ V.cell? ⟨q, 1, none⟩ = some (.string ⟨#[]⟩) ∧ V.cell? ⟨q, 2, none⟩ = some (.int .i64 0) ∧ V.cell? ⟨q, 3, none⟩ = some (.slice A1 L.length c1) ∧ V.cell? ⟨g, 3, none⟩ = some (.slice (some ⟨b, o, none⟩) n c) ∧ V.cell? ⟨b, o + k * 3, none⟩ = some (.string x.user) ∧ V.cell? ⟨b, o + k * 3 + 1, none⟩ = some (.string x.dev)))
      obtain ⟨F, hF⟩ : ∃ F, F = Ss.find S (Ss.who x) := ⟨_, rfl⟩
      obtain ⟨fu, fd, fi, hff⟩ := fndV_form F
      have CD : Hid (∀ V, Below wr.heap.size wr V → Calls Try.prog 37 #[sesA 0 ⟨#[]⟩ 0 A1 L.length c1, .string x.user, .string x.dev] V (Ret V (.tuple #[.agg #[.string fu, .string fd, .int .i64 fi], .bool F.isSome]))) :=
        Lib.hid fun V hb => by have := rshare_any 0 ⟨#[]⟩ 0 A1 L.length c1 S x.user x.dev V (hD3.on hb) (by omega); rw [show (bs x.user, bs x.dev) = Ss.who x from rfl, ← hF] at this; rw [← hff]; exact this
      have HF : Hid (F.isSome = decide (Ss.who x ∈ L)) := Lib.hid (by rw [hF, HS.out, has_shs])
      obtain ⟨Fb, hFb⟩ : ∃ Fb, F.isSome = Fb := ⟨_, rfl⟩
      rw [hFb] at CD HF
      clear hF hff hFb
      go_upto_region 5 with fail
      clear k3
      go_cut [10] (fun s V => s = .bool Fb ∧ Below wr.heap.size wr V)
      case rest =>
        obtain ⟨rfl, hbv⟩ := hcut
        have hb3 := below_then hbw hbv
        have hlt := HLN.out
        clear hbv BX CD hbw hxa hle bR qR
        by_cases hm : Ss.who x ∈ L
        · have e := HF.out
          rw [decide_eq_true hm] at e
          subst e
          have HN := Lib.hid (hin.succ hux hm)
          clear HF hux hin hm hlt
          go_wp2_with fail
          exact ⟨⟨k + 1, by omega, by go_num, hb3, HN.out⟩, by simp [intOf]; omega⟩
        · have e := HF.out
          rw [decide_eq_false hm] at e
          subst e
          have HV := Lib.hid (Ss.stale_yes hux hm)
          clear HF hux hin hm hlt
          go_wp2_with fail
          try rw [Exit.noGoto_ret]
          go_ret
          exact ⟨by rw [← HLL.out, HV.out]; rfl, below_then hb2 hb3⟩
      clear HF hin bR qR hxa hux hD3
      go_region_held3 (fun V => Below wr.heap.size wr V ∧ V.cell? ⟨q, 0, none⟩ = some (.int .i64 0) ∧ V.cell? ⟨q, 1, none⟩ = some (.string ⟨#[]⟩) ∧ V.cell? ⟨q, 2, none⟩ = some (.int .i64 0) ∧ V.cell? ⟨q, 3, none⟩ = some (.slice A1 L.length c1) ∧ V.cell? ⟨g, 3, none⟩ = some (.slice (some ⟨b, o, none⟩) n c) ∧ V.cell? ⟨b, o + k * 3, none⟩ = some (.string x.user) ∧ V.cell? ⟨b, o + k * 3 + 1, none⟩ = some (.string x.dev))
        ((refine BX.out _ ?_; repeat (first | assumption | exact Below.refl _ _ | exact And.left ‹Below wr.heap.size wr _ ∧ _› | refine Below.drew ?_ | refine below_alloc ?_ _ | refine below_put (by first | exact Nat.le_refl _ | exact bz2.size) ?_)))
        (first | (go_at_call 37; have hB := And.left ‹Below wr.heap.size wr _ ∧ _›; refine (CD.out _ hB).mono ?_; rintro e wz ⟨rfl, bz⟩; have bz2 : Below wr.heap.size wr wz := below_then hB bz; (try (have hth := thereB_on (thereB_of ((World.there_drew _ _ 0 3).2 (there_of (thereB_new wr #[.string ⟨#[]⟩, .string ⟨#[]⟩, .int .i64 0] 56 3 rfl)))) (by simp) bz)); clear bz hB))
      all_goals
        have hB9 := And.left ‹Below wr.heap.size wr _ ∧ _›
        clear BX
        go_wp2_with fail
      all_goals go_meet
      all_goals exact ⟨rfl, hB9⟩
    · have HV := Lib.hid (Ss.stale_no (l := l) (L := L) (by have := HLN.out; rwa [show k = l.length by omega] at hin))
      clear hin
      go_wp2_with fail
      try rw [Exit.noGoto_ret]
      go_ret
      exact ⟨by rw [← HLL.out, HV.out]; rfl, below_then hb2 hbw⟩
end Go.Proofs.Ytnbgcjangoiodaa
