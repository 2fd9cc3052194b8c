/-
  The walks through met, and the different policies of a list.
-/
import Derived.Test.YthcbplameonjlaaPolV
import Derived.Test.YthcbplameonjlaaIdsT
namespace Go.Proofs.Ythcbplameonjlaa
open Go.RowKit
attribute [local go_sem ↓] ex_st_pol
attribute [local go_sem] st_pol_new st_pol

namespace Pl
theorem parts_len {l : List UInt8} {x : List UInt8 × List UInt8} (h : I.parts l = some x) : x.2.length ≤ l.length := by
  unfold I.parts at h
  split at h
  · cases h; simp
  · cases h
theorem ident_len {m : UInt8} {l : List UInt8} {x : List UInt8 × List UInt8} (h : I.ident m l = some x) : x.2.length ≤ l.length := by
  cases l with
  | nil => simp [I.ident] at h
  | cons c t =>
    simp only [I.ident] at h
    split at h
    · have := parts_len h; simp; omega
    · cases h
theorem serverOf_len (l : List UInt8) : (I.serverOf l).length ≤ l.length := by
  unfold I.serverOf I.both
  cases h1 : I.ident 64 l with
  | some x => exact ident_len h1
  | none =>
    simp only
    cases h2 : I.ident 33 l with
    | some x => exact ident_len h2
    | none => simp
end Pl
theorem matchV_form (F : Option Pol) : ∃ a p r, matchV F = .tuple #[.agg #[.int .i64 a, .string p, .string r], .bool F.isSome] := by cases F <;> exact ⟨_, _, _, rfl⟩
theorem srv_size (u : ByteArray) : (mk (I.serverOf (bs u))).size ≤ u.size := by
  have h1 : (bs (mk (I.serverOf (bs u)))).length = (mk (I.serverOf (bs u))).size := size_list _
  rw [bs_mk] at h1
  have h2 : (bs u).length = u.size := size_list u
  have h3 := Pl.serverOf_len (bs u)
  omega
theorem empty_dec (l : List UInt8) : (mk l).toList.isEmpty = l.isEmpty := by
  rw [Lib.toList_data]; rfl

set_option maxRecDepth 100000 in
set_option maxHeartbeats 4000000 in
theorem met_any (A : Option Addr) (n c : Nat) (l : List Pol) (u : ByteArray) (w : World) (hr : Rd.pol.Holds w A n l) (hn : n ≤ 1000000) (hp : PolsS l) (hu : u.size ≤ 1000000) :
    Calls Try.prog 32 #[.slice A n c, .string u] w (Ret w (.bool (Pl.met 2 6 l (bs u)))) := by
  obtain ⟨a1, p1, r1, hm1⟩ := matchV_form (Pl.find l 2 (bs u))
  obtain ⟨a2, p2, r2, hm2⟩ := matchV_form (Pl.find l 6 (I.serverOf (bs u)))
  obtain ⟨b1, hb1⟩ : ∃ b, (Pl.find l 2 (bs u)).isSome = b := ⟨_, rfl⟩
  obtain ⟨b2, hb2⟩ : ∃ b, (Pl.find l 6 (I.serverOf (bs u))).isSome = b := ⟨_, rfl⟩
  obtain ⟨b3, hb3⟩ : ∃ b, (I.serverOf (bs u)).isEmpty = b := ⟨_, rfl⟩
  have HM : Hid (Pl.met 2 6 l (bs u) = (b1 || (!b3 && b2))) := Lib.hid (by unfold Pl.met; rw [hb1, hb2, hb3])
  have hs2 := srv_size u
  have C1 := fun V (h : Rd.pol.Holds V A n l) => pmatch_any A n c l 2 u V h hn hp hu
  have C2 := fun V (h : Rd.pol.Holds V A n l) => pmatch_any A n c l 6 (mk (I.serverOf (bs u))) V h hn hp (by omega)
  rw [bs_mk] at C2
  have C3 := fun V => serverOf_any u V (by unfold maxLen; omega)
  have he := empty_dec (I.serverOf (bs u))
  rw [hb3] at he
  obtain ⟨s2, hs2'⟩ : ∃ s2, mk (I.serverOf (bs u)) = s2 := ⟨_, rfl⟩
  rw [hs2'] at C2 C3 he
  rw [hm1, hb1] at C1
  rw [hm2, hb2] at C2
  have D1 := Lib.hid C1; have D2 := Lib.hid C2; have D3 := Lib.hid C3
  clear C1 C2 C3 hb1 hb2 hb3 hm1 hm2 hs2' hs2 hp
  go_enter Try.func32, Try.ntmps32
  go_wp2_with fail
  refine (D1.out w hr).mono ?_
  rintro e w1 ⟨rfl, bb1⟩
  cases b1
  · go_wp2_with fail
    refine (D3.out _).mono fun _ _ => ?_
    intro h; obtain ⟨rfl, bb2⟩ := Quiet.ret' h; clear h
    have c2 := below_then (below_alloc bb1 _) bb2
    clear bb1 bb2
    go_wp2_with fail
    refine (D2.out _ (hr.on c2)).mono ?_
    rintro e w3 ⟨rfl, bb3⟩
    have c3 := below_then c2 bb3
    clear bb3 c2
    cases b2 <;> cases b3
    all_goals
      go_wp2_with fail
      go_ret
      exact ⟨by rw [HM.out]; rfl, below_alloc c3 _⟩
  · go_wp2_with fail
    go_ret
    exact ⟨by rw [HM.out]; rfl, below_alloc bb1 _⟩
set_option maxRecDepth 100000 in
set_option maxHeartbeats 4000000 in
theorem pindex_any (A : Option Addr) (n c : Nat) (l : List Pol) (x : Pol) (w : World) (hr : Rd.pol.Holds w A n l) (hn : n ≤ 1000000) :
    Calls Try.prog 62 #[.slice A n c, polA x] w fun e w' => ∃ i : Int, e = .returned (.int .i64 i) ∧ decide (0 ≤ i) = decide (x ∈ l) ∧ Below w.heap.size w w' := by
  have HL := Lib.hid hr.length
  obtain ⟨wa, hwa⟩ : ∃ wa : World, wa = w.alloc (.cells #[.int .i64 x.about, .string x.pattern, .string x.reason] 37) := ⟨_, rfl⟩
  have hba : Below w.heap.size w wa := by rw [hwa]; exact below_alloc (Below.refl _ _) _
  have b0 : Box wa w.heap.size [.int .i64 x.about, .string x.pattern, .string x.reason] := by rw [hwa]; exact Box.new w [.int .i64 x.about, .string x.pattern, .string x.reason] _
  go_enter Try.func62, Try.ntmps62
  go_upto_region 1 with fail
  rw [← hwa]
  have HW := Lib.hid hwa; clear hwa
  obtain ⟨g, hg⟩ : ∃ g, w.heap.size = g := ⟨_, rfl⟩
  rw [hg] at b0 ⊢
  have HG := Lib.hid hg
  clear hg
  have hra := hr.on hba
  go_wp2_with fail
  go_loopw [8] (fun i wr => ∃ k : Nat, k ≤ n ∧ i = .int .i64 k ∧ Below wa.heap.size wa wr ∧ Hid (x ∉ l.take k)) (fun i _ => n - (intOf i).toNat)
  case atStart => exact ⟨0, by omega, rfl, Below.refl _ _, Lib.hid (by simp)⟩
  case round =>
    obtain ⟨k, hk, rfl, hbw, hno⟩ := hrel
    by_cases hkn : k < n
    · obtain ⟨b, o, y, rfl, hbl, hu, hmem, _, hxa⟩ := (hra.on hbw).mid (by decide) hkn
      have y0 : wr.cell? ⟨b, o + k * 3, none⟩ = some (.int .i64 y.about) := hxa 0 _ rfl
      have y1 : wr.cell? ⟨b, o + k * 3 + 1, none⟩ = some (.string y.pattern) := hxa 1 _ rfl
      have y2 : wr.cell? ⟨b, o + k * 3 + 2, none⟩ = some (.string y.reason) := hxa 2 _ rfl
      have bR := b0.on hbw
      have p0 : wr.cell? ⟨g, 0, none⟩ = some (.int .i64 x.about) := bR.at_ 0 _ rfl
      have p1 : wr.cell? ⟨g, 1, none⟩ = some (.string x.pattern) := bR.at_ 1 _ rfl
      have p2 : wr.cell? ⟨g, 2, none⟩ = some (.string x.reason) := bR.at_ 2 _ rfl
      have hk0 : (k : Int) < n := by omega
      have hkl : k < l.length := by have := HL.out; omega
      obtain ⟨_, hux⟩ := List.getElem?_eq_some_iff.1 hu
      obtain ⟨e1, h1⟩ : ∃ e, (x.about == y.about) = e := ⟨_, rfl⟩
      obtain ⟨e2, h2⟩ : ∃ e, (x.pattern.toList == y.pattern.toList) = e := ⟨_, rfl⟩
      obtain ⟨e3, h3⟩ : ∃ e, (x.reason.toList == y.reason.toList) = e := ⟨_, rfl⟩
      have HD := Lib.hid (pol_dec h1 h2 h3)
      have HY : Hid (y = x → decide (x ∈ l) = true) := Lib.hid fun e => decide_eq_true (e ▸ hmem)
      have HNO : Hid (x ≠ y → x ∉ l.take (k + 1)) := Lib.hid fun e h => by
        rw [List.take_succ_eq_append_getElem hkl, List.mem_append, List.mem_singleton, hux] at h
        rcases h with h | h
        · exact hno.out h
        · exact e h
      clear hxa hu hmem hux bR hno
      cases e1 <;> cases e2 <;> cases e3
      case true.true.true =>
        have HE : Hid (decide (x ∈ l) = true) := Lib.hid (HY.out (of_decide_eq_true HD.out).symm)
        go_wp2_with fail
        go_quiet (fail)
        go_wp2_with fail
        go_ret
        exact ⟨k, rfl, by rw [HE.out]; simp, below_then hba (below_drewN hbw _)⟩
      all_goals
        have HE : Hid (x ∉ l.take (k + 1)) := Lib.hid (HNO.out (of_decide_eq_false HD.out))
        go_wp2_with fail
        go_quiet (fail)
        go_wp2_with fail
        exact ⟨⟨k + 1, by omega, by go_num, below_drewN hbw _, HE⟩, by simp [intOf]; omega⟩
    · have HE : Hid (decide (x ∈ l) = false) := Lib.hid (decide_eq_false (by have := HL.out; have h := hno.out; rwa [List.take_of_length_le (by omega)] at h))
      clear hno
      go_wp2_with fail
      go_ret
      exact ⟨-1, rfl, by rw [HE.out]; rfl, below_then hba hbw⟩

set_option maxRecDepth 100000 in
set_option maxHeartbeats 1000000 in
theorem pcontains_any (A : Option Addr) (n c : Nat) (l : List Pol) (x : Pol) (w : World) (hr : Rd.pol.Holds w A n l) (hn : n ≤ 1000000) :
    Calls Try.prog 44 #[.slice A n c, polA x] w (Ret w (.bool (decide (x ∈ l)))) := by
  obtain ⟨wa, hwa⟩ : ∃ wa : World, wa = w.alloc (.cells #[.int .i64 x.about, .string x.pattern, .string x.reason] 37) := ⟨_, rfl⟩
  have hba : Below w.heap.size w wa := by rw [hwa]; exact below_alloc (Below.refl _ _) _
  have b0 : Box wa w.heap.size [.int .i64 x.about, .string x.pattern, .string x.reason] := by rw [hwa]; exact Box.new w [.int .i64 x.about, .string x.pattern, .string x.reason] _
  have p0 : wa.cell? ⟨w.heap.size, 0, none⟩ = some (.int .i64 x.about) := b0.at_ 0 _ rfl
  have p1 : wa.cell? ⟨w.heap.size, 1, none⟩ = some (.string x.pattern) := b0.at_ 1 _ rfl
  have p2 : wa.cell? ⟨w.heap.size, 2, none⟩ = some (.string x.reason) := b0.at_ 2 _ rfl
  go_enter Try.func44, Try.ntmps44
  go_upto_region 1 with fail
  rw [← hwa]
  have HW := Lib.hid hwa; clear hwa b0
  have hra := hr.on hba
  go_wp2_with fail
  refine (pindex_any A n c l x wa hra hn).mono ?_
  rintro e w1 ⟨i, rfl, hi, bb1⟩
  have HI := Lib.hid hi
  clear hi
  go_wp2_with fail
  go_ret
  exact ⟨by rw [← HI.out]; rfl, below_then hba bb1⟩
end Go.Proofs.Ythcbplameonjlaa
