/-
  The walks through Wants, Stale and Renew of the program.
-/
import Derived.Test.YtnbgcjangoiodaaSesO
import Derived.WalkMore
import Derived.Deep.LoopGhost
namespace Go.Proofs.Ytnbgcjangoiodaa
open Go.RowKit
attribute [local go_sem ↓] ex_st_shr ex_st_own ex_st_ses
attribute [local go_sem] st_shr_new st_shr st_own_new st_ses_new st_ses

theorem OwnDs.form {w : World} {B : Nat} {v : Value} {l : List Ss.D} (h : OwnDs w B v l) : ∃ A c, v = .slice A l.length c ∧ Rd.dv.Holds w A l.length l := by
  obtain ⟨A, c, rfl, _, hr⟩ := own_form h
  exact ⟨A, c, rfl, hr, rfl, fun _ _ => trivial⟩
theorem shr_snoc (l : List Shr) (x : Shr) : Rd.shr.rows (l ++ [x]) = Rd.shr.rows l ++ [.string x.user, .string x.dev, .int .i64 x.index] := by rw [Rd.rows_append, Rd.rows_one]; rfl
namespace Ss
theorem own_length {w : World} {ms : List (List UInt8)} {ks : List Kys} {B : Option Addr} {m : Nat} (hn : ms.length ≤ 30) (hk : Rd.kys.Holds w B m ks) (hf : Few ks) : (own ms ks).length ≤ 900 := by
  have h1 : ∀ k ∈ ks, k.devices.l.length ≤ 30 := fun k hk' => by
    have h1 := (kys_dev (hk.2.2 k hk')).length
    have h2 := hf.d k hk'
    omega
  have h2 := part_length h1 (Nm.names ms) (Nm.names ms).length
  rw [List.take_of_length_le (Nat.le_refl _)] at h2
  have h3 := Nm.names_length ms
  unfold own
  omega
theorem lack_take {l : List Shr} {L : List D} {k : Nat} {a : D} (h : L[k]? = some a) : lack l (L.take (k + 1)) = lack l (L.take k) ++ if (find l a).isNone then [a] else [] := by
  obtain ⟨hk, rfl⟩ := List.getElem?_eq_some_iff.1 h
  unfold lack
  rw [List.take_succ_eq_append_getElem hk, List.filter_append]
  congr 1
  cases hf : find l L[k] <;> simp [hf]
theorem lack_length (l : List Shr) (L : List D) : (lack l L).length ≤ L.length := List.length_filter_le _ _
theorem wants_none {l : List Shr} {L : List D} {k : Nat} {a : D} {next : Int} (h : L[k]? = some a) (hf : find l a = none) : wants l next (L.take (k + 1)) = wants l next (L.take k) ++ [⟨mkB a.1, mkB a.2, next⟩] := by
  unfold wants
  rw [lack_take h, hf]
  simp [shs]
theorem wants_some {l : List Shr} {L : List D} {k : Nat} {a : D} {x : Shr} {next : Int} (h : L[k]? = some a) (hf : find l a = some x) : wants l next (L.take (k + 1)) = wants l next (L.take k) := by
  unfold wants
  rw [lack_take h, hf]
  simp
theorem wants_length (l : List Shr) (L : List D) (next : Int) : (wants l next L).length ≤ L.length := by unfold wants shs; rw [List.length_map]; exact lack_length _ _
end Ss
def W1I (w : World) (l : List Shr) (next : Int) (L : List Ss.D) (B : Nat) (out i : Value) (wr : World) : Prop :=
  ∃ k : Nat, k ≤ L.length ∧ i = .int .i64 k ∧ Below w.heap.size w wr ∧ OwnShrs wr B out (Ss.wants l next (L.take k))

set_option maxRecDepth 100000 in
set_option maxHeartbeats 4000000 in
theorem wants_any (id : Int) (room : ByteArray) (next : Int) (A : Option Addr) (n c : Nat) (l : List Shr) (A2 : Option Addr) (n2 c2 : Nat) (ms : List ByteArray) (B : Option Addr) (m d : Nat) (ks : List Kys) (w : World)
    (hl : Rd.shr.Holds w A n l) (hn : n ≤ 1000000) (hr : Strs w A2 n2 ms) (hn2 : n2 ≤ 30) (hx : ∀ x ∈ ms, x.size ≤ maxLen) (hk : Rd.kys.Holds w B m ks) (hf : Few ks) :
    Calls Try.prog 23 #[sesA id room next A n c, .slice A2 n2 c2, .slice B m d] w fun e w' => ∃ v, e = .returned v ∧ Below w.heap.size w w' ∧ OwnShrs w' w.heap.size v (Ss.wants l next (Ss.own (bss ms) ks)) := by
  obtain ⟨i0, hi, hz0, hz1, hz2⟩ := info_parts infoShr
  have HI := Lib.hid hi; have HZ0 := Lib.hid hz0; have HZ1 := Lib.hid hz1; have HZ2 := Lib.hid hz2
  clear hi hz0 hz1 hz2
  have hL900 : (Ss.own (bss ms) ks).length ≤ 900 := Ss.own_length (by rw [List.length_map]; have := hr.length; omega) hk hf
  obtain ⟨wa, hwa⟩ : ∃ wa : World, wa = w.alloc (.cells #[.int .i64 id, .string room, .int .i64 next, .slice A n c] 24) := ⟨_, rfl⟩
  have hba : Below w.heap.size w wa := by rw [hwa]; exact below_alloc (Below.refl _ _) _
  have b0 : Box wa w.heap.size [.int .i64 id, .string room, .int .i64 next, .slice A n c] := by rw [hwa]; exact Box.new w [.int .i64 id, .string room, .int .i64 next, .slice A n c] _
  go_enter Try.func23, Try.ntmps23
  go_upto_region 1 with fail
  rw [← hwa]
  have HW := Lib.hid hwa; clear hwa
  obtain ⟨g, hg⟩ : ∃ g, w.heap.size = g := ⟨_, rfl⟩
  rw [hg] at b0 ⊢
  have HG := Lib.hid hg
  clear hg
  go_wp2_with fail
  refine (owners_any A2 n2 c2 ms B m d ks wa (hr.on hba) hn2 hx (hk.on hba) hf).mono ?_
  rintro e w1 ⟨v1, rfl, bb1, own1⟩
  obtain ⟨L, hL⟩ : ∃ L, L = Ss.own (bss ms) ks := ⟨_, rfl⟩
  rw [← hL] at own1 hL900
  have HLL := Lib.hid hL
  clear hL
  obtain ⟨A1, c1, rfl, hD⟩ := own1.form
  have b1 := b0.on bb1
  have hb1 := below_then hba bb1
  have hl1 := hl.on hb1
  clear own1 b0 bb1 hba hl hr hk
  go_wp2_with fail
  go_loopw [7, 16] (fun out i wr => W1I w1 l next L w1.heap.size out i wr) (fun _ i _ => L.length - (intOf i).toNat)
  case atStart => exact ⟨0, by omega, rfl, Below.refl _ _, by rw [List.take_zero]; exact World.ownsRow_nil _ _ _ _⟩
  case round =>
    obtain ⟨k, hk, rfl, hbw, hown⟩ := hrel
    have hle := hbw.size
    by_cases hkn : k < L.length
    · obtain ⟨b, o, a, rfl, hbl, ha, _, _, haa⟩ := (hD.on hbw).mid (by decide) hkn
      have a0 : wr.cell? ⟨b, o + k * 2, none⟩ = some (.string (mk a.1)) := haa 0 _ rfl
      have a1 : wr.cell? ⟨b, o + k * 2 + 1, none⟩ = some (.string (mk a.2)) := haa 1 _ rfl
      have hwl : (Ss.wants l next (L.take k)).length ≤ 900 := by have := Ss.wants_length l (L.take k) next; have := List.length_take_le k L; omega
      clear haa
      go_upto_region 5 with fail
      have bo := Box.new wr [.string (mk a.1), .string (mk a.2)] 61
      have hbo := below_alloc (Below.refl wr.heap.size wr) (.cells #[.string (mk a.1), .string (mk a.2)] 61)
      change Box (wr.alloc (.cells #[.string (mk a.1), .string (mk a.2)] 61)) _ _ at bo
      generalize wr.alloc (.cells #[.string (mk a.1), .string (mk a.2)] 61) = wx at bo hbo ⊢
      have hbx := below_then hbw hbo
      have bx := b1.on hbx
      have hownx := owns_on hown hbo
      obtain ⟨q, hq⟩ : ∃ q, wr.heap.size = q := ⟨_, rfl⟩
      rw [hq] at bo ⊢
      clear hq a0 a1 hown hbo
      have k0 : wx.cell? ⟨g, 0, none⟩ = some (.int .i64 id) := bx.at_ 0 _ rfl
      have k1 : wx.cell? ⟨g, 1, none⟩ = some (.string room) := bx.at_ 1 _ rfl
      have k2 : wx.cell? ⟨g, 2, none⟩ = some (.int .i64 next) := bx.at_ 2 _ rfl
      have k3 : wx.cell? ⟨g, 3, none⟩ = some (.slice A n c) := bx.at_ 3 _ rfl
      have p0 : wx.cell? ⟨q, 0, none⟩ = some (.string (mk a.1)) := bo.at_ 0 _ rfl
      have p1 : wx.cell? ⟨q, 1, none⟩ = some (.string (mk a.2)) := bo.at_ 1 _ rfl
      go_wp2_with fail
      refine (share_any id room next A n c l (mk a.1) (mk a.2) wx (hl1.on hbx) hn).mono ?_
      rw [show (bs (mk a.1), bs (mk a.2)) = a by rw [bs_mk, bs_mk]]
      rintro e w3 ⟨rfl, bb3⟩
      have hb3 := below_then hbx bb3
      have hown3 := owns_on hownx bb3
      have bx3 := bx.on bb3
      have bo3 := bo.on bb3
      clear k0 k1 k2 k3 p0 p1 hownx bb3 hbx bx bo
      cases hf : Ss.find l a with
      | some x =>
        have HN := Lib.hid (Ss.wants_some (next := next) ha hf)
        clear hf ha
        simp only [fndV]
        go_wp2_with fail
        exact ⟨⟨k + 1, hkn, by go_num, below_alloc hb3 _, by rw [HN.out]; exact World.ownsRow.alloc hown3 _⟩, by simp [intOf]; omega⟩
      | none =>
        have HN := Lib.hid (Ss.wants_none (next := next) ha hf)
        clear hf ha
        simp only [fndV]
        go_upto_region 7 with fail
        have hbz := below_alloc (Below.refl w3.heap.size w3) (.cells #[.string ⟨#[]⟩, .string ⟨#[]⟩, .int .i64 0] 56)
        generalize w3.alloc (.cells #[.string ⟨#[]⟩, .string ⟨#[]⟩, .int .i64 0] 56) = w4 at hbz ⊢
        have hb4 := below_then hb3 hbz
        have hown4 := owns_on hown3 hbz
        have bx4 := bx3.on hbz
        have bo4 := bo3.on hbz
        have hle4 := hb4.size
        clear hb3 hown3 bx3 bo3 hbz
        have k2 : w4.cell? ⟨g, 2, none⟩ = some (.int .i64 next) := bx4.at_ 2 _ rfl
        have p0 : w4.cell? ⟨q, 0, none⟩ = some (.string (mk a.1)) := bo4.at_ 0 _ rfl
        have p1 : w4.cell? ⟨q, 1, none⟩ = some (.string (mk a.2)) := bo4.at_ 1 _ rfl
        go_wp2_with (at_builtin; refine wpList_append_own _ rfl _ _ 22 rfl w1.heap.size 56 i0 _ 3 40 Try.underlying22 HI.out HZ0.out HZ1.out HZ2.out rfl (by decide) _ _ _ rfl (World.ownsRow.alloc hown4 _) ⟨w4.heap.size, 0, none⟩ 1 1 [.string (mk a.1), .string (mk a.2), .int .i64 next] rfl rfl ?c1 ?c2 ?c3 ?c4 ?c5 ?_)
        case c1 => exact World.news_of_block (cs := #[.string (mk a.1), .string (mk a.2), .int .i64 next]) (t := 56) (fr := (0, 0)) (heap_alloc_new _ _)
        case c2 => simp [Value.oneCell']
        case c3 => unfold maxLen; omega
        case c4 => omega
        case c5 => simp; omega
        intro v' w' hown' hgrow _
        have hb5 : Below w1.heap.size w1 w' := (hb4.alloc (by omega) _).grown hgrow (by simp; omega) (fun j hj => (World.ownsRow.lt hown4 _ hj).1)
        have hown5 : OwnShrs w' w1.heap.size v' (Ss.wants l next (L.take (k + 1))) := by
          rw [HN.out]
          unfold OwnShrs
          rw [List.length_append, shr_snoc]; exact hown'
        clear hown' hgrow hown4 k2 p0 p1
        go_wp2_with fail
        exact ⟨⟨k + 1, hkn, by go_num, hb5, hown5⟩, by simp [intOf]; omega⟩
    · have hF : Ss.wants l next (L.take k) = Ss.wants l next (Ss.own (bss ms) ks) := by rw [List.take_of_length_le (by omega), HLL.out]
      have HF := Lib.hid hF; clear hF
      go_wp2_with fail
      go_ret
      exact ⟨u7, rfl, below_then hb1 hbw, by rw [← HF.out]; exact owns_le hown hb1.size⟩

namespace Ss
def In (l : List Shr) (L : List D) (k : Nat) : Prop := ∀ (j : Nat) x, l[j]? = some x → j < k → who x ∈ L
theorem In.succ {l : List Shr} {L : List D} {k : Nat} {x : Shr} (h : In l L k) (hx : l[k]? = some x) (hm : who x ∈ L) : In l L (k + 1) := fun j y hy hj => by
  rcases Nat.lt_or_ge j k with h1 | h1
  · exact h j y hy h1
  · obtain rfl : j = k := by omega
    rw [hx] at hy; cases hy; exact hm
theorem stale_no {l : List Shr} {L : List D} (h : In l L l.length) : stale l L = false := by
  unfold stale
  rw [List.any_eq_false]
  intro x hx
  obtain ⟨j, hj, rfl⟩ := List.mem_iff_getElem.1 hx
  simpa using h j _ (List.getElem?_eq_getElem hj) hj
theorem stale_yes {l : List Shr} {L : List D} {k : Nat} {x : Shr} (hx : l[k]? = some x) (h : who x ∉ L) : stale l L = true := by
  unfold stale
  rw [List.any_eq_true]
  exact ⟨x, List.mem_of_getElem? hx, decide_eq_true h⟩
def Off (L : List D) (a : D) (k : Nat) : Prop := ∀ (j : Nat) y, L[j]? = some y → j < k → y ≠ a
theorem Off.succ {L : List D} {a : D} {k : Nat} {x : D} (h : Off L a k) (hx : L[k]? = some x) (hm : x ≠ a) : Off L a (k + 1) := fun j y hy hj => by
  rcases Nat.lt_or_ge j k with h1 | h1
  · exact h j y hy h1
  · obtain rfl : j = k := by omega
    rw [hx] at hy; cases hy; exact hm
theorem Off.all {L : List D} {a : D} (h : Off L a L.length) : a ∉ L := fun hm => by
  obtain ⟨j, hj, rfl⟩ := List.mem_iff_getElem.1 hm
  exact h j _ (List.getElem?_eq_getElem hj) hj rfl
end Ss
theorem own_dec {a : Ss.D} {x : Shr} {e1 e2 : Bool} (h1 : ((mk a.1).toList == x.user.toList) = e1) (h2 : ((mk a.2).toList == x.dev.toList) = e2) : decide (a = Ss.who x) = (e1 && e2) := by
  subst h1 h2
  obtain ⟨a1, a2⟩ := a
  rw [streq, streq, Bool.eq_iff_iff, bs_mk, bs_mk]
  simp [Ss.who]

set_option maxRecDepth 100000 in
set_option maxHeartbeats 4000000 in
theorem stale_any (id : Int) (room : ByteArray) (next : Int) (A : Option Addr) (n c : Nat) (l : List Shr) (A2 : Option Addr) (n2 c2 : Nat) (ms : List ByteArray) (B : Option Addr) (m d : Nat) (ks : List Kys) (w : World)
    (hl : Rd.shr.Holds w A n l) (hn : n ≤ 1000000) (hr : Strs w A2 n2 ms) (hn2 : n2 ≤ 30) (hx : ∀ x ∈ ms, x.size ≤ maxLen) (hk : Rd.kys.Holds w B m ks) (hf : Few ks) :
    Calls Try.prog 25 #[sesA id room next A n c, .slice A2 n2 c2, .slice B m d] w (Ret w (.bool (Ss.stale l (Ss.own (bss ms) ks)))) := by
  have HLN := Lib.hid hl.length
  have hL900 : (Ss.own (bss ms) ks).length ≤ 900 := Ss.own_length (by rw [List.length_map]; have := hr.length; omega) hk hf
  obtain ⟨wa, hwa⟩ : ∃ wa : World, wa = w.alloc (.cells #[.int .i64 id, .string room, .int .i64 next, .slice A n c] 24) := ⟨_, rfl⟩
  have hba : Below w.heap.size w wa := by rw [hwa]; exact below_alloc (Below.refl _ _) _
  have b0 : Box wa w.heap.size [.int .i64 id, .string room, .int .i64 next, .slice A n c] := by rw [hwa]; exact Box.new w [.int .i64 id, .string room, .int .i64 next, .slice A n c] _
  go_enter Try.func25, Try.ntmps25
  go_upto_region 1 with fail
  rw [← hwa]
  have HW := Lib.hid hwa; clear hwa
  obtain ⟨g, hg⟩ : ∃ g, w.heap.size = g := ⟨_, rfl⟩
  rw [hg] at b0 ⊢
  have HG := Lib.hid hg
  clear hg
  try go_step3
  go_wp2_with fail
  refine (owners_any A2 n2 c2 ms B m d ks wa (hr.on hba) hn2 hx (hk.on hba) hf).mono ?_
  rintro e w1 ⟨v1, rfl, bb1, own1⟩
  obtain ⟨L, hL⟩ : ∃ L, L = Ss.own (bss ms) ks := ⟨_, rfl⟩
  rw [← hL] at own1 hL900
  have HLL := Lib.hid hL
  clear hL
  obtain ⟨A1, c1, rfl, hD⟩ := own1.form
  have b1 := b0.on bb1
  have hb1 := below_then hba bb1
  have hl1 := hl.on hb1
  have k3 : w1.cell? ⟨g, 3, none⟩ = some (.slice A n c) := b1.at_ 3 _ rfl
  clear own1 b0 bb1 hba hl hr hk
  go_wp2_with fail
  go_step3
  go_wp2_with fail
  go_loopg [18] n (fun gq i wr => ∃ k : Nat, k + gq = n ∧ i = .int .i64 k ∧ Below w1.heap.size w1 wr ∧ Ss.In l L k)
  case atStart => exact ⟨0, by omega, rfl, Below.refl _ _, fun j _ _ h => by omega⟩
  case round =>
    obtain ⟨k, hgk, rfl, hbw, hin⟩ := hrel
    obtain ⟨g1, hg1⟩ : ∃ g1, gk = g1 := ⟨_, rfl⟩
    by_cases hkn : k < n
    · obtain ⟨b, o, x, rfl, hbl, hu, _, _, hxa⟩ := (hl1.on hbw).mid (by decide) hkn
      have x0 : wr.cell? ⟨b, o + k * 3, none⟩ = some (.string x.user) := hxa 0 _ rfl
      have x1 : wr.cell? ⟨b, o + k * 3 + 1, none⟩ = some (.string x.dev) := hxa 1 _ rfl
      have x2 : wr.cell? ⟨b, o + k * 3 + 2, none⟩ = some (.int .i64 x.index) := hxa 2 _ rfl
      clear hxa
      go_upto_region 5 with fail
      have bx := Box.new wr [.string x.user, .string x.dev, .int .i64 x.index] 56
      have hbo := below_alloc (Below.refl wr.heap.size wr) (.cells #[.string x.user, .string x.dev, .int .i64 x.index] 56)
      change Box (wr.alloc (.cells #[.string x.user, .string x.dev, .int .i64 x.index] 56)) _ _ at bx
      generalize wr.alloc (.cells #[.string x.user, .string x.dev, .int .i64 x.index] 56) = wx at bx hbo ⊢
      have hbx := below_then hbw hbo
      obtain ⟨q, hq⟩ : ∃ q, wr.heap.size = q := ⟨_, rfl⟩
      rw [hq] at bx ⊢
      clear hq x0 x1 x2 hbo
      go_wp2_with fail
      go_loopg [24] L.length (fun gq i wq => ∃ j : Nat, j + gq = L.length ∧ i = .int .i64 j ∧ Below wx.heap.size wx wq ∧ Ss.Off L (Ss.who x) j)
      case atStart => exact ⟨0, by omega, rfl, Below.refl _ _, fun j _ _ h => by omega⟩
      case round =>
        obtain ⟨j, hj, rfl, hbq, hoff⟩ := hrel
        by_cases hjn : j < L.length
        · obtain ⟨b2, o2, a, rfl, hbl2, ha, _, _, haa⟩ := (hD.on (below_then hbx hbq)).mid (by decide) hjn
          have a0 : wr.cell? ⟨b2, o2 + j * 2, none⟩ = some (.string (mk a.1)) := haa 0 _ rfl
          have a1 : wr.cell? ⟨b2, o2 + j * 2 + 1, none⟩ = some (.string (mk a.2)) := haa 1 _ rfl
          clear haa
          go_upto_region 8 with fail
          have bo := Box.new wr [.string (mk a.1), .string (mk a.2)] 61
          have hbo := below_alloc (Below.refl wr.heap.size wr) (.cells #[.string (mk a.1), .string (mk a.2)] 61)
          change Box (wr.alloc (.cells #[.string (mk a.1), .string (mk a.2)] 61)) _ _ at bo
          generalize wr.alloc (.cells #[.string (mk a.1), .string (mk a.2)] 61) = wy at bo hbo ⊢
          have hby := below_then hbq hbo
          have bxy := bx.on hby
          obtain ⟨q2, hq2⟩ : ∃ q, wr.heap.size = q := ⟨_, rfl⟩
          rw [hq2] at bo ⊢
          clear hq2 a0 a1 hbo hbq
          have BX := Lib.hid (fun V (h : Below wy.heap.size wy V) => (⟨h, (bo.on h).at_ 0 _ rfl, (bo.on h).at_ 1 _ rfl, (bxy.on h).at_ 0 _ rfl, (bxy.on h).at_ 1 _ rfl, (bxy.on h).at_ 2 _ rfl⟩ :
            Below wy.heap.size wy V ∧ V.cell? ⟨q2, 0, none⟩ = some (.string (mk a.1)) ∧ V.cell? ⟨q2, 1, none⟩ = some (.string (mk a.2)) ∧ V.cell? ⟨q, 0, none⟩ = some (.string x.user) ∧ V.cell? ⟨q, 1, none⟩ = some (.string x.dev) ∧ V.cell? ⟨q, 2, none⟩ = some (.int .i64 x.index)))
          go_cut [31] (fun s V => s = .bool (decide (a = Ss.who x)) ∧ Below wy.heap.size wy V)
          case rest =>
            obtain ⟨rfl, hbv⟩ := hcut
            have hbz := below_then hby hbv
            by_cases hax : a = Ss.who x
            · rw [decide_eq_true hax]
              have HN := Lib.hid (hin.succ hu (by rw [← hax]; exact List.mem_of_getElem? ha))
              clear hin hu hax ha hoff BX
              go_wp2_with fail
              go_roundg (n - (k + 1))
              case measure => omega
              case rel => exact ⟨k + 1, by omega, by go_num, below_then hbx hbz, HN.out⟩
            · rw [decide_eq_false hax]
              have HN := Lib.hid (hoff.succ ha hax)
              clear hin hu hax ha hoff BX
              go_wp2_with fail
              go_roundg (L.length - (j + 1))
              case measure => omega
              case rel => exact ⟨j + 1, by omega, by go_num, hbz, HN.out⟩
          obtain ⟨e1, he1⟩ : ∃ e, ((mk a.1).toList == x.user.toList) = e := ⟨_, rfl⟩
          obtain ⟨e2, he2⟩ : ∃ e, ((mk a.2).toList == x.dev.toList) = e := ⟨_, rfl⟩
          have HDC : Hid (decide (a = Ss.who x) = (e1 && e2)) := Lib.hid (own_dec he1 he2)
          clear hu hin hoff ha
          cases e1 <;> cases e2
          all_goals
            go_region_held3 (fun V => Below wy.heap.size wy V ∧ V.cell? ⟨q2, 0, none⟩ = some (.string (mk a.1)) ∧ V.cell? ⟨q2, 1, none⟩ = some (.string (mk a.2)) ∧ V.cell? ⟨q, 0, none⟩ = some (.string x.user) ∧ V.cell? ⟨q, 1, none⟩ = some (.string x.dev) ∧ V.cell? ⟨q, 2, none⟩ = some (.int .i64 x.index))
              (first | exact BX.out _ (by assumption) | exact BX.out _ (Below.drew (by assumption)) | exact BX.out _ (Below.refl _ _) | exact BX.out _ (Below.drew (Below.refl _ _)))
              (first | (go_at_call 35; have hB := And.left ‹Below wy.heap.size wy _ ∧ _›; refine (ownerOf_any _ _ _ _).mono ?_; rintro e wz ⟨rfl, bz⟩; have bz2 : Below wy.heap.size wy wz := below_then hB bz; clear bz hB))
          all_goals go_wp2_with fail
          all_goals go_meet
          all_goals exact ⟨by rw [HDC.out]; rfl, by assumption⟩
        · have HV := Lib.hid (Ss.stale_yes hu (Ss.Off.all (by rwa [show j = L.length by omega] at hoff)))
          clear hoff hu hin
          go_wp2_with fail
          try rw [Exit.noGoto_ret]
          go_ret
          exact ⟨by rw [← HLL.out, HV.out]; rfl, below_then hb1 (below_then hbx hbq)⟩
    · have HV := Lib.hid (Ss.stale_no (l := l) (L := L) (by have := HLN.out; rwa [show k = l.length by omega] at hin))
      clear hin
      go_wp2_with fail
      try rw [Exit.noGoto_ret]
      go_ret
      exact ⟨by rw [← HLL.out, HV.out]; rfl, below_then hb1 hbw⟩
end Go.Proofs.Ytnbgcjangoiodaa
