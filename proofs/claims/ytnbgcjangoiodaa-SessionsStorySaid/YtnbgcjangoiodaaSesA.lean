/-
  The law SessionsNews.
-/
import Derived.Test.YtnbgcjangoiodaaSesK
namespace Go.Proofs.Ytnbgcjangoiodaa
open Go.RowKit
attribute [local go_sem ↓] ex_st_shr ex_st_own ex_st_ses
attribute [local go_sem] st_shr_new st_shr st_own_new st_ses_new st_ses

structure Dev where
  user : ByteArray
  id : ByteArray
def Rd.dev : Rd Dev := (Rd.pair Rd.str (Rd.pair Rd.str Rd.unit)).as fun x => (x.user, x.id, ())
theorem give_form (id : Int) (room : ByteArray) (next : Int) (l : List Shr) (u d : ByteArray) : ∃ (i : Int) (r : ByteArray) (nx : Int) (m : List Shr) (er : Int), m.length ≤ l.length + 1 ∧
    ∀ (w w' : World) (e : Ending), GiveP w id room next l u d e w' → Below w.heap.size w w' ∧ ∃ A c, e = .returned (.tuple #[sesA i r nx A m.length c, .int .i64 er]) ∧ Rd.shr.Holds w' A m.length m := by
  by_cases h0 : Ss.giveErr l (bs u) (bs d) = 0
  · refine ⟨id, room, next, Ss.put l ⟨u, d, next⟩, 0, by rw [Ss.put_length]; exact Nat.le_refl _, fun w w' e h => ?_⟩
    obtain ⟨hb, A, c, he, hH, _⟩ := give_ok h h0 rfl
    exact ⟨hb, A, c, he, hH⟩
  · refine ⟨0, ⟨#[]⟩, 0, [], Ss.giveErr l (bs u) (bs d), Nat.zero_le _, fun w w' e h => ?_⟩
    obtain ⟨hb, he⟩ := give_err h rfl h0
    exact ⟨hb, none, 0, he, Rd.Holds.none_⟩
theorem use_form (id : Int) (room : ByteArray) (next : Int) (l : List Shr) (most : Int) : ∃ (i : Int) (r : ByteArray) (nx : Int) (m : List Shr) (ix er : Int), m.length ≤ l.length ∧
    ∀ (w w' : World) (e : Ending), UseP w id room next l most e w' → Below w.heap.size w w' ∧ ∃ A c, e = .returned (.tuple #[sesA i r nx A m.length c, .int .i64 ix, .int .i64 er]) ∧ Rd.shr.Holds w' A m.length m := by
  by_cases h0 : Ss.useErr most next = 0
  · refine ⟨id, room, next + 1, l, next, 0, Nat.le_refl _, fun w w' e h => ?_⟩
    obtain ⟨hb, A, c, he, hH, _⟩ := use_ok h h0
    exact ⟨hb, A, c, he, hH⟩
  · refine ⟨0, ⟨#[]⟩, 0, [], 0, Ss.useErr most next, Nat.zero_le _, fun w w' e h => ?_⟩
    obtain ⟨hb, he⟩ := use_err h rfl h0
    exact ⟨hb, none, 0, he, Rd.Holds.none_⟩
theorem new_form (id : Int) (room : ByteArray) : ∃ (i : Int) (r : ByteArray) (er : Int), newV id room = .tuple #[sesA i r 0 none 0 0, .int .i64 er] := by
  by_cases h0 : Ss.newErr id (bs room) 1000000000000 = 0
  · exact ⟨_, _, _, newV_ok h0⟩
  · exact ⟨_, _, _, newV_err rfl h0⟩

set_option maxRecDepth 100000 in
set_option maxHeartbeats 8000000 in
theorem sessionsNews_any (id : Int) (s : Ses) (x : Dev) (w : World) (hs : Rd.ses.Ok w s) (hx : Rd.dev.Ok w x) :
    Calls Try.prog 3 #[.int .i64 id, .agg (Rd.ses.cells s).toArray, .agg (Rd.dev.cells x).toArray] w (Ret w (.bool true)) := by
  obtain ⟨sid, room, next, ⟨A, n, c, l⟩⟩ := s
  obtain ⟨u, d⟩ := x
  change Calls _ _ #[_, .agg #[.int .i64 sid, .string room, .int .i64 next, .slice A n c], .agg #[.string u, .string d]] _ _
  have hroom : room.size ≤ maxLen := hs.2.1
  have hnext : -9223372036854775808 ≤ next ∧ next ≤ 9223372036854775807 := hs.2.2.1
  have hl : Rd.shr.Holds w A n l := hs.2.2.2.1.1
  have hcap : n ≤ c := hs.2.2.2.1.2.1
  have hn : n ≤ maxLen := Nat.le_trans hcap hs.2.2.2.1.2.2
  have hu : u.size ≤ maxLen := hx.1
  have hd : d.size ≤ maxLen := hx.2.1
  have HL := Lib.hid hl.length
  have HNX := Lib.hid hnext
  clear hs hx hnext
  obtain ⟨wa, hwa⟩ : ∃ wa : World, wa = (w.alloc (.cells #[.int .i64 sid, .string room, .int .i64 next, .slice A n c] 24)).alloc (.cells #[.string u, .string d] 26) := ⟨_, rfl⟩
  have hba : Below w.heap.size w wa := by rw [hwa]; exact below_alloc (below_alloc (Below.refl _ _) _) _
  have b0 : OBox wa w.heap.size [.int .i64 sid, .string room, .int .i64 next, .slice A n c] := by rw [hwa]; exact (OBox.new w [.int .i64 sid, .string room, .int .i64 next, .slice A n c] _).on (below_alloc (Below.refl _ _) _)
  have x0 : OBox wa (w.heap.size + 1) [.string u, .string d] := by rw [hwa]; simpa using OBox.new (w.alloc (.cells #[.int .i64 sid, .string room, .int .i64 next, .slice A n c] 24)) [.string u, .string d] 26
  go_enter Try.func3, Try.ntmps3
  go_upto_region 1 with fail
  rw [← hwa]
  have HW := Lib.hid hwa; clear hwa
  obtain ⟨g, hg⟩ : ∃ g, w.heap.size = g := ⟨_, rfl⟩
  rw [hg] at b0 x0 ⊢
  have HG := Lib.hid hg
  clear hg
  have hla := hl.on hba
  have k0 : wa.cell? ⟨g, 0, none⟩ = some (.int .i64 sid) := b0.cell rfl
  have k1 : wa.cell? ⟨g, 1, none⟩ = some (.string room) := b0.cell rfl
  have k2 : wa.cell? ⟨g, 2, none⟩ = some (.int .i64 next) := b0.cell rfl
  have k3 : wa.cell? ⟨g, 3, none⟩ = some (.slice A n c) := b0.cell rfl
  go_wp2_with fail
  refine (rgreat45_any sid room next A n c l wa hla hn).mono ?_
  rintro e w1 ⟨g1, rfl, hg1, bb1⟩
  have c1 := below_then hba bb1
  have b1 := b0.on bb1
  have x1 := x0.on bb1
  have hl1 := hla.on bb1
  clear k0 k1 k2 k3 b0 x0 hla hba bb1
  cases g1
  · have hn40 : n ≤ 40 := hg1 rfl
    clear hg1 hn
    have p0 : w1.cell? ⟨g + 1, 0, none⟩ = some (.string u) := x1.cell rfl
    have p1 : w1.cell? ⟨g + 1, 1, none⟩ = some (.string d) := x1.cell rfl
    by_cases hu200 : (200 : Int) < (u.size : Nat)
    · have e1 : decide ((200 : Int) < (u.size : Nat)) = true := decide_eq_true hu200
      go_wp2_with fail
      go_ret
      exact ⟨rfl, c1⟩
    have e1 : decide ((200 : Int) < (u.size : Nat)) = false := decide_eq_false hu200
    by_cases hd200 : (200 : Int) < (d.size : Nat)
    · have e2 : decide ((200 : Int) < (d.size : Nat)) = true := decide_eq_true hd200
      go_wp2_with fail
      go_ret
      exact ⟨rfl, c1⟩
    have e2 : decide ((200 : Int) < (d.size : Nat)) = false := decide_eq_false hd200
    clear hu200 hd200
    have k1 : w1.cell? ⟨g, 1, none⟩ = some (.string room) := b1.cell rfl
    obtain ⟨ni, nr, ne, hnv⟩ := new_form id room
    obtain ⟨gi, gr, gn, gm, ge, hgm, hgf⟩ := give_form sid room next l u d
    have hgm41 : gm.length ≤ 41 := by have := HL.out; omega
    have HNV := Lib.hid hnv
    have HGF := Lib.hid hgf
    clear hnv hgf hgm
    go_wp2_with fail
    refine (new_any id room w1 hroom).mono ?_
    rw [HNV.out]
    rintro e w2 ⟨rfl, bb2⟩
    have c2 := below_then c1 bb2
    have b2 := b1.on bb2
    have x2 := x1.on bb2
    have hl2 := hl1.on bb2
    clear k1 p0 p1 b1 x1 hl1 c1 bb2
    go_upto_region 4 with fail
    have y2 := OBox.new w2 [.int .i64 ni, .string nr, .int .i64 0, .slice none 0 0] 24
    have hby := below_alloc (Below.refl w2.heap.size w2) (.cells #[.int .i64 ni, .string nr, .int .i64 0, .slice none 0 0] 24)
    change OBox (w2.alloc (.cells #[.int .i64 ni, .string nr, .int .i64 0, .slice none 0 0] 24)) _ _ at y2
    generalize w2.alloc (.cells #[.int .i64 ni, .string nr, .int .i64 0, .slice none 0 0] 24) = w3 at y2 hby ⊢
    have c3 := below_then c2 hby
    have b3 := b2.on hby
    have x3 := x2.on hby
    have hl3 := hl2.on hby
    obtain ⟨h1, hh1⟩ : ∃ h, w2.heap.size = h := ⟨_, rfl⟩
    rw [hh1] at y2 ⊢
    clear hh1 b2 x2 hl2 c2 hby
    have k1 : w3.cell? ⟨g, 1, none⟩ = some (.string room) := b3.cell rfl
    go_wp2_with fail
    refine (rnew_any id room w3 hroom).mono ?_
    rw [HNV.out]
    rintro e w4 ⟨rfl, bb4⟩
    have c4 := below_then c3 bb4
    have b4 := b3.on bb4
    have x4 := x3.on bb4
    have y4 := y2.on bb4
    have hl4 := hl3.on bb4
    clear k1 b3 x3 y2 hl3 c3 bb4
    go_upto_region 5 with fail
    have z4 := OBox.new w4 [.int .i64 ni, .string nr, .int .i64 0, .slice none 0 0] 24
    have hbz := below_alloc (Below.refl w4.heap.size w4) (.cells #[.int .i64 ni, .string nr, .int .i64 0, .slice none 0 0] 24)
    change OBox (w4.alloc (.cells #[.int .i64 ni, .string nr, .int .i64 0, .slice none 0 0] 24)) _ _ at z4
    generalize w4.alloc (.cells #[.int .i64 ni, .string nr, .int .i64 0, .slice none 0 0] 24) = w5 at z4 hbz ⊢
    have c5 := below_then c4 hbz
    have b5 := b4.on hbz
    have x5 := x4.on hbz
    have y5 := y4.on hbz
    have hl5 := hl4.on hbz
    obtain ⟨h2, hh2⟩ : ∃ h, w4.heap.size = h := ⟨_, rfl⟩
    rw [hh2] at z4 ⊢
    clear hh2 b4 x4 y4 hl4 c4 hbz
    have k0 : w5.cell? ⟨g, 0, none⟩ = some (.int .i64 sid) := b5.cell rfl
    have k1 : w5.cell? ⟨g, 1, none⟩ = some (.string room) := b5.cell rfl
    have k2 : w5.cell? ⟨g, 2, none⟩ = some (.int .i64 next) := b5.cell rfl
    have k3 : w5.cell? ⟨g, 3, none⟩ = some (.slice A n c) := b5.cell rfl
    have p0 : w5.cell? ⟨g + 1, 0, none⟩ = some (.string u) := x5.cell rfl
    have p1 : w5.cell? ⟨g + 1, 1, none⟩ = some (.string d) := x5.cell rfl
    go_wp2_with fail
    refine (give_any sid room next A n c l u d w5 hl5 (by omega) hcap hu hd HNX.out).mono ?_
    intro e w6 hG
    obtain ⟨bb6, A6, c6, rfl, hH6⟩ := HGF.out _ _ _ hG
    have c6b := below_then c5 bb6
    have b6 := b5.on bb6
    have x6 := x5.on bb6
    have y6 := y5.on bb6
    have z6 := z4.on bb6
    have hl6 := hl5.on bb6
    clear hG k0 k1 k2 k3 p0 p1 b5 x5 y5 z4 hl5 c5 bb6
    go_upto_region 6 with fail
    have v6 := OBox.new w6 [.int .i64 gi, .string gr, .int .i64 gn, .slice A6 gm.length c6] 24
    have hbv := below_alloc (Below.refl w6.heap.size w6) (.cells #[.int .i64 gi, .string gr, .int .i64 gn, .slice A6 gm.length c6] 24)
    change OBox (w6.alloc (.cells #[.int .i64 gi, .string gr, .int .i64 gn, .slice A6 gm.length c6] 24)) _ _ at v6
    generalize w6.alloc (.cells #[.int .i64 gi, .string gr, .int .i64 gn, .slice A6 gm.length c6] 24) = w7 at v6 hbv ⊢
    have c7 := below_then c6b hbv
    have b7 := b6.on hbv
    have x7 := x6.on hbv
    have y7 := y6.on hbv
    have z7 := z6.on hbv
    have hl7 := hl6.on hbv
    have hH7 := hH6.on hbv
    obtain ⟨h3, hh3⟩ : ∃ h, w6.heap.size = h := ⟨_, rfl⟩
    rw [hh3] at v6 ⊢
    clear hh3 b6 x6 y6 z6 hl6 hH6 c6b hbv
    have k0 : w7.cell? ⟨g, 0, none⟩ = some (.int .i64 sid) := b7.cell rfl
    have k1 : w7.cell? ⟨g, 1, none⟩ = some (.string room) := b7.cell rfl
    have k2 : w7.cell? ⟨g, 2, none⟩ = some (.int .i64 next) := b7.cell rfl
    have k3 : w7.cell? ⟨g, 3, none⟩ = some (.slice A n c) := b7.cell rfl
    have p0 : w7.cell? ⟨g + 1, 0, none⟩ = some (.string u) := x7.cell rfl
    have p1 : w7.cell? ⟨g + 1, 1, none⟩ = some (.string d) := x7.cell rfl
    go_wp2_with fail
    refine (rgive_any sid room next A n c l u d w7 hl7 (by omega) hcap hu hd HNX.out).mono ?_
    intro e w8 hG
    obtain ⟨bb8, A8, c8, rfl, hH8⟩ := HGF.out _ _ _ hG
    have c8b := below_then c7 bb8
    have y8 := y7.on bb8
    have z8 := z7.on bb8
    have v8 := v6.on bb8
    have hH78 := hH7.on bb8
    clear hG k0 k1 k2 k3 p0 p1 b7 x7 y7 z7 v6 hl7 hH7 c7 bb8
    go_upto_region 7 with fail
    have q8 := OBox.new w8 [.int .i64 gi, .string gr, .int .i64 gn, .slice A8 gm.length c8] 24
    have hbq := below_alloc (Below.refl w8.heap.size w8) (.cells #[.int .i64 gi, .string gr, .int .i64 gn, .slice A8 gm.length c8] 24)
    change OBox (w8.alloc (.cells #[.int .i64 gi, .string gr, .int .i64 gn, .slice A8 gm.length c8] 24)) _ _ at q8
    generalize w8.alloc (.cells #[.int .i64 gi, .string gr, .int .i64 gn, .slice A8 gm.length c8] 24) = w9 at q8 hbq ⊢
    have c9 := below_then c8b hbq
    have y9 := y8.on hbq
    have z9 := z8.on hbq
    have v9 := v8.on hbq
    have hH9 := hH78.on hbq
    have hI9 := hH8.on hbq
    obtain ⟨h4, hh4⟩ : ∃ h, w8.heap.size = h := ⟨_, rfl⟩
    rw [hh4] at q8 ⊢
    clear hh4 y8 z8 v8 hH78 hH8 c8b hbq
    have ka : w9.cell? ⟨h1, 0, none⟩ = some (.int .i64 ni) := y9.cell rfl
    have kb : w9.cell? ⟨h1, 1, none⟩ = some (.string nr) := y9.cell rfl
    have kc : w9.cell? ⟨h1, 2, none⟩ = some (.int .i64 0) := y9.cell rfl
    have kd : w9.cell? ⟨h1, 3, none⟩ = some (.slice none 0 0) := y9.cell rfl
    have ja : w9.cell? ⟨h2, 0, none⟩ = some (.int .i64 ni) := z9.cell rfl
    have jb : w9.cell? ⟨h2, 1, none⟩ = some (.string nr) := z9.cell rfl
    have jc : w9.cell? ⟨h2, 2, none⟩ = some (.int .i64 0) := z9.cell rfl
    have jd : w9.cell? ⟨h2, 3, none⟩ = some (.slice none 0 0) := z9.cell rfl
    go_wp2_with fail
    refine (sameSes_any ni nr 0 none none 0 0 0 [] w9 Rd.Holds.none_ Rd.Holds.none_ (by omega)).mono ?_
    rintro e wA ⟨rfl, bbA⟩
    have cA := below_then c9 bbA
    have vA := v9.on bbA
    have qA := q8.on bbA
    have hHA := hH9.on bbA
    have hIA := hI9.on bbA
    clear ka kb kc kd ja jb jc jd y9 z9 v9 q8 hH9 hI9 c9 bbA
    have ka : wA.cell? ⟨h3, 0, none⟩ = some (.int .i64 gi) := vA.cell rfl
    have kb : wA.cell? ⟨h3, 1, none⟩ = some (.string gr) := vA.cell rfl
    have kc : wA.cell? ⟨h3, 2, none⟩ = some (.int .i64 gn) := vA.cell rfl
    have kd : wA.cell? ⟨h3, 3, none⟩ = some (.slice A6 gm.length c6) := vA.cell rfl
    have ja : wA.cell? ⟨h4, 0, none⟩ = some (.int .i64 gi) := qA.cell rfl
    have jb : wA.cell? ⟨h4, 1, none⟩ = some (.string gr) := qA.cell rfl
    have jc : wA.cell? ⟨h4, 2, none⟩ = some (.int .i64 gn) := qA.cell rfl
    have jd : wA.cell? ⟨h4, 3, none⟩ = some (.slice A8 gm.length c8) := qA.cell rfl
    go_wp2_with fail
    refine (sameSes_any gi gr gn A6 A8 gm.length c6 c8 gm wA hHA hIA (by omega)).mono ?_
    rintro e wB ⟨rfl, bbB⟩
    have cB := below_then cA bbB
    clear ka kb kc kd ja jb jc jd vA qA hHA hIA cA bbB
    go_wp2_with fail
    refine (slive_any _).mono ?_
    rintro e wC ⟨rfl, bbC⟩
    go_wp2_with fail
    go_ret
    exact ⟨rfl, below_then cB bbC⟩
  · clear hg1
    go_wp2_with fail
    go_ret
    exact ⟨rfl, c1⟩
end Go.Proofs.Ytnbgcjangoiodaa
