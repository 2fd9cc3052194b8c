/-
  The walks through Give on both sides.
-/
import Derived.Test.YtnbgcjangoiodaaSesT
namespace Go.Proofs.Ytnbgcjangoiodaa
open Go.RowKit
attribute [local go_sem ↓] ex_st_shr ex_st_own ex_st_ses
attribute [local go_sem] st_shr_new st_shr st_own_new st_ses_new st_ses

namespace Ss
def giveErr (l : List Shr) (u d : List UInt8) : Int := if I.userB u = false ∨ d.length = 0 ∨ 32 < d.length then 3 else if (find l (u, d)).isSome = true then 4 else if 2000 ≤ l.length then 29 else 0
end Ss
/-- what Give leaves -/
def GiveP (w : World) (id : Int) (room : ByteArray) (next : Int) (l : List Shr) (u d : ByteArray) (e : Ending) (w' : World) : Prop :=
  Below w.heap.size w w' ∧ ((Ss.giveErr l (bs u) (bs d) ≠ 0 ∧ e = .returned (.tuple #[sesA 0 ⟨#[]⟩ 0 none 0 0, .int .i64 (Ss.giveErr l (bs u) (bs d))])) ∨
    (Ss.giveErr l (bs u) (bs d) = 0 ∧ ∃ A c, e = .returned (.tuple #[sesA id room next A (Ss.put l ⟨u, d, next⟩).length c, .int .i64 0]) ∧ Rd.shr.Holds w' A (Ss.put l ⟨u, d, next⟩).length (Ss.put l ⟨u, d, next⟩) ∧ (Ss.put l ⟨u, d, next⟩).length ≤ c))
theorem GiveP.err {w w' : World} {id : Int} {room : ByteArray} {next : Int} {l : List Shr} {u d : ByteArray} {r : Int} (h : Ss.giveErr l (bs u) (bs d) = r) (h0 : r ≠ 0) (hb : Below w.heap.size w w') :
    GiveP w id room next l u d (.returned (.tuple #[sesA 0 ⟨#[]⟩ 0 none 0 0, .int .i64 r])) w' := by
  subst h; exact ⟨hb, .inl ⟨h0, rfl⟩⟩
theorem put_ok {l : List Shr} (h : ShrOk l) {x : Shr} (hx : x.user.size ≤ maxLen ∧ x.dev.size ≤ maxLen ∧ (-9223372036854775808 ≤ x.index ∧ x.index ≤ 9223372036854775807)) : ShrOk (Ss.put l x) := fun y hy => by
  rcases Ss.mem_put.1 hy with rfl | h1
  · exact hx
  · exact h y h1
theorem own_put {w : World} {B n k : Nat} {v : Value} {l : List Shr} {u d : ByteArray} {i : Int} (hl : l.length = n) (hk : k ≤ n) (hs : Ss.spot l (bs u, bs d) = k)
    (h : w.ownsRow B 56 3 v (k + 1 + (n - k)) (Rd.shr.rows (l.take k) ++ .string u :: .string d :: .int .i64 i :: Rd.shr.rows (l.drop k))) : OwnShrs w B v (Ss.put l ⟨u, d, i⟩) := by
  unfold OwnShrs
  have e : (Ss.put l ⟨u, d, i⟩).length = k + 1 + (n - k) := by rw [Ss.put_length]; omega
  have e2 : Rd.shr.rows (Ss.put l ⟨u, d, i⟩) = Rd.shr.rows (l.take k) ++ .string u :: .string d :: .int .i64 i :: Rd.shr.rows (l.drop k) := by
    unfold Ss.put
    rw [show Ss.who ⟨u, d, i⟩ = (bs u, bs d) from rfl, hs, Rd.rows_append]; rfl
  rw [e, e2]; exact h
theorem own_put_end {w : World} {B n : Nat} {v : Value} {l : List Shr} {u d : ByteArray} {i : Int} (hl : l.length = n) (hs : Ss.spot l (bs u, bs d) = n)
    (h : w.ownsRow B 56 3 v (n + 1) (Rd.shr.rows (l.take n) ++ .string u :: .string d :: .int .i64 i :: Rd.shr.rows [])) : OwnShrs w B v (Ss.put l ⟨u, d, i⟩) := by
  refine own_put hl (Nat.le_refl _) hs ?_
  rw [Nat.sub_self, Nat.add_zero, List.drop_of_length_le (Nat.le_of_eq hl)]; exact h
theorem who_ne {l : List Shr} {a : Ss.D} {k : Nat} {x : Shr} (hn : Ss.find l a = none) (hx : l[k]? = some x) : Ss.who x ≠ a := Ss.find_none_iff.1 hn x (List.mem_of_getElem? hx)

set_option maxRecDepth 100000 in
set_option maxHeartbeats 8000000 in
theorem rgive_any (id : Int) (room : ByteArray) (next : Int) (A : Option Addr) (n c : Nat) (l : List Shr) (u d : ByteArray) (w : World) (hr : Rd.shr.Holds w A n l) (hn : n ≤ 900000) (hcap : n ≤ c) (hu : u.size ≤ maxLen) (hd : d.size ≤ maxLen) (hnx : -9223372036854775808 ≤ next ∧ next ≤ 9223372036854775807) :
    Calls Try.prog 14 #[sesA id room next A n c, .string u, .string d] w (GiveP w id room next l u d) := by
  obtain ⟨i0, hi, hz0, hz1, hz2⟩ := info_parts infoShr
  have HI := Lib.hid hi; have HZ0 := Lib.hid hz0; have HZ1 := Lib.hid hz1; have HZ2 := Lib.hid hz2
  clear hi hz0 hz1 hz2
  have HL := Lib.hid hr.length
  have HOK := Lib.hid (shr_ok hr)
  have HNX := Lib.hid hnx
  clear hnx
  obtain ⟨wa, hwa⟩ : ∃ wa : World, wa = (w.alloc (.cells #[.int .i64 id, .string room, .int .i64 next, .slice A n c] 24)).alloc (.cells #[.int .i64 0, .string ⟨#[]⟩, .int .i64 0, .slice none 0 0] 24) := ⟨_, rfl⟩
  have hba : Below w.heap.size w wa := by rw [hwa]; exact below_alloc (below_alloc (Below.refl _ _) _) _
  have b0 : OBox wa w.heap.size [.int .i64 id, .string room, .int .i64 next, .slice A n c] := by rw [hwa]; exact (OBox.new w [.int .i64 id, .string room, .int .i64 next, .slice A n c] _).on (below_alloc (Below.refl _ _) _)
  have r0 : OBox wa (w.heap.size + 1) [.int .i64 0, .string ⟨#[]⟩, .int .i64 0, .slice none 0 0] := by rw [hwa]; simpa using OBox.new (w.alloc (.cells #[.int .i64 id, .string room, .int .i64 next, .slice A n c] 24)) [.int .i64 0, .string ⟨#[]⟩, .int .i64 0, .slice none 0 0] 24
  go_enter Try.func14, Try.ntmps14
  go_upto_region 1 with fail
  rw [← hwa]
  have HW := Lib.hid hwa; clear hwa
  obtain ⟨g, hg⟩ : ∃ g, w.heap.size = g := ⟨_, rfl⟩
  rw [hg] at b0 r0 ⊢
  have HG := Lib.hid hg
  clear hg
  have hra := hr.on hba
  go_wp2_with fail
  refine ((ruser_any u wa hu).mono fun _ _ => Same.ret').mono ?_
  rintro e w1 ⟨rfl, bb1⟩
  have b1 := b0.on bb1
  have r1 := r0.on bb1
  have c1 := below_then hba bb1
  have hr1 := hra.on bb1
  have hth := r1.there (n := 4) rfl
  have HT := Lib.hid hth
  clear hra hba bb1 b0 r0
  have DL : Hid ((bs d).length = d.size) := Lib.hid (size_list d)
  cases hub : I.userB (bs u)
  · have HE : Hid (Ss.giveErr l (bs u) (bs d) = 3) := by show _ = _; unfold Ss.giveErr; rw [if_pos (.inl hub)]
    simp only [I.errOf]
    clear hub
    have HP := Lib.hid (below_put (cs := [.int .i64 0, .string ⟨#[]⟩, .int .i64 0, .slice none 0 0]) (g := g + 1) (by have := HG.out; omega) c1)
    go_wp2_with fail
    refine bodyPost_ret (v := .tuple #[sesA 0 ⟨#[]⟩ 0 none 0 0, .int .i64 3]) ?_ rfl (GiveP.err HE.out (by decide) HP.out)
    rw [results_cell_tmp (fn := Try.f14) (p := 6) (q := 7) (ty := 24) rfl _ _ (g + 1) [.int .i64 0, .string ⟨#[]⟩, .int .i64 0, .slice none 0 0] _ ?_ (range_put HT.out) Try.underlying24 rfl (by rw [inf_ses]; rfl)]
    · rfl
    · rfl
  have HUB := Lib.hid hub; clear hub
  simp only [I.errOf]
  by_cases hd0 : d.size = 0
  · have HE : Hid (Ss.giveErr l (bs u) (bs d) = 3) := by show _ = _; unfold Ss.giveErr; rw [if_pos (.inr (.inl (by rw [DL.out]; exact hd0)))]
    have es : decide ((d.size : Int) < 1) = true := decide_eq_true (by omega)
    clear hd0
    have HP := Lib.hid (below_put (cs := [.int .i64 0, .string ⟨#[]⟩, .int .i64 0, .slice none 0 0]) (g := g + 1) (by have := HG.out; omega) c1)
    go_wp2_with fail
    refine bodyPost_ret (v := .tuple #[sesA 0 ⟨#[]⟩ 0 none 0 0, .int .i64 3]) ?_ rfl (GiveP.err HE.out (by decide) HP.out)
    rw [results_cell_tmp (fn := Try.f14) (p := 6) (q := 7) (ty := 24) rfl _ _ (g + 1) [.int .i64 0, .string ⟨#[]⟩, .int .i64 0, .slice none 0 0] _ ?_ (range_put HT.out) Try.underlying24 rfl (by rw [inf_ses]; rfl)]
    · rfl
    · rfl
  have es : decide ((d.size : Int) < 1) = false := decide_eq_false (by omega)
  by_cases hd32 : 32 < d.size
  · have HE : Hid (Ss.giveErr l (bs u) (bs d) = 3) := by show _ = _; unfold Ss.giveErr; rw [if_pos (.inr (.inr (by rw [DL.out]; exact hd32)))]
    have es2 : decide ((32 : Int) < (d.size : Nat)) = true := decide_eq_true (by omega)
    have HP := Lib.hid (below_put (cs := [.int .i64 0, .string ⟨#[]⟩, .int .i64 0, .slice none 0 0]) (g := g + 1) (by have := HG.out; omega) c1)
    go_wp2_with fail
    refine bodyPost_ret (v := .tuple #[sesA 0 ⟨#[]⟩ 0 none 0 0, .int .i64 3]) ?_ rfl (GiveP.err HE.out (by decide) HP.out)
    rw [results_cell_tmp (fn := Try.f14) (p := 6) (q := 7) (ty := 24) rfl _ _ (g + 1) [.int .i64 0, .string ⟨#[]⟩, .int .i64 0, .slice none 0 0] _ ?_ (range_put HT.out) Try.underlying24 rfl (by rw [inf_ses]; rfl)]
    · rfl
    · rfl
  have es2 : decide ((32 : Int) < (d.size : Nat)) = false := decide_eq_false (by omega)
  have HE1 : Hid (Ss.giveErr l (bs u) (bs d) = if (Ss.find l (bs u, bs d)).isSome = true then 4 else if 2000 ≤ l.length then 29 else 0) := by
    show _ = _
    unfold Ss.giveErr
    rw [if_neg (by
      rintro (h | h | h)
      · rw [HUB.out] at h; cases h
      · rw [DL.out] at h; exact hd0 h
      · rw [DL.out] at h; exact hd32 h)]
  clear hd0 hd32
  have k0 : w1.cell? ⟨g, 0, none⟩ = some (.int .i64 id) := b1.cell rfl
  have k1 : w1.cell? ⟨g, 1, none⟩ = some (.string room) := b1.cell rfl
  have k2 : w1.cell? ⟨g, 2, none⟩ = some (.int .i64 next) := b1.cell rfl
  have k3 : w1.cell? ⟨g, 3, none⟩ = some (.slice A n c) := b1.cell rfl
  go_wp2_with fail
  refine (rshare_any id room next A n c l u d w1 hr1 (by omega)).mono ?_
  rintro e w3 ⟨rfl, bb3⟩
  have b3 := b1.on bb3
  have r3 := r1.on bb3
  have c3 := below_then c1 bb3
  have hr3 := hr1.on bb3
  clear b1 r1 c1 hr1 bb3 k0 k1 k2 k3 hth HT
  cases hf : Ss.find l (bs u, bs d) with
  | some x =>
    have HE : Hid (Ss.giveErr l (bs u) (bs d) = 4) := by show _ = _; rw [HE1.out, hf]; rfl
    clear hf
    simp only [fndV]
    go_upto_region 4 with fail
    have r4 := r3.on (below_alloc (Below.refl _ _) (.cells #[.string x.user, .string x.dev, .int .i64 x.index] 56))
    have c4 := below_alloc c3 (.cells #[.string x.user, .string x.dev, .int .i64 x.index] 56)
    generalize w3.alloc (.cells #[.string x.user, .string x.dev, .int .i64 x.index] 56) = w4 at r4 c4 ⊢
    have hth := r4.there (n := 4) rfl
    have HT := Lib.hid hth
    have HP := Lib.hid (below_put (cs := [.int .i64 0, .string ⟨#[]⟩, .int .i64 0, .slice none 0 0]) (g := g + 1) (by have := HG.out; omega) c4)
    go_wp2_with fail
    refine bodyPost_ret (v := .tuple #[sesA 0 ⟨#[]⟩ 0 none 0 0, .int .i64 4]) ?_ rfl (GiveP.err HE.out (by decide) HP.out)
    rw [results_cell_tmp (fn := Try.f14) (p := 6) (q := 7) (ty := 24) rfl _ _ (g + 1) [.int .i64 0, .string ⟨#[]⟩, .int .i64 0, .slice none 0 0] _ ?_ (range_put HT.out) Try.underlying24 rfl (by rw [inf_ses]; rfl)]
    · rfl
    · rfl
  | none =>
    have HF := Lib.hid hf
    have HE2 : Hid (Ss.giveErr l (bs u) (bs d) = if 2000 ≤ l.length then 29 else 0) := by show _ = _; rw [HE1.out, hf]; rfl
    clear hf
    simp only [fndV]
    go_upto_region 4 with fail
    have hbz := below_alloc (Below.refl w3.heap.size w3) (.cells #[.string ⟨#[]⟩, .string ⟨#[]⟩, .int .i64 0] 56)
    generalize w3.alloc (.cells #[.string ⟨#[]⟩, .string ⟨#[]⟩, .int .i64 0] 56) = W at hbz ⊢
    have bW := b3.on hbz
    have rW := r3.on hbz
    have hbW := below_then c3 hbz
    have hrW := hr3.on hbz
    clear b3 r3 c3 hr3 hbz 
    have k3 : W.cell? ⟨g, 3, none⟩ = some (.slice A n c) := bW.cell rfl
    by_cases h2000 : 2000 ≤ n
    · have HE : Hid (Ss.giveErr l (bs u) (bs d) = 29) := by show _ = _; rw [HE2.out, if_pos (by rw [HL.out]; exact h2000)]
      have hd2 : (2000 : Int) ≤ n := by omega
      have hth := rW.there (n := 4) rfl
      have HT := Lib.hid hth
      have HP := Lib.hid (below_put (cs := [.int .i64 0, .string ⟨#[]⟩, .int .i64 0, .slice none 0 0]) (g := g + 1) (by have := HG.out; omega) hbW)
      go_wp2_with fail
      refine bodyPost_ret (v := .tuple #[sesA 0 ⟨#[]⟩ 0 none 0 0, .int .i64 29]) ?_ rfl (GiveP.err HE.out (by decide) HP.out)
      rw [results_cell_tmp (fn := Try.f14) (p := 6) (q := 7) (ty := 24) rfl _ _ (g + 1) [.int .i64 0, .string ⟨#[]⟩, .int .i64 0, .slice none 0 0] _ ?_ (range_put HT.out) Try.underlying24 rfl (by rw [inf_ses]; rfl)]
      · rfl
      · rfl
    have HE : Hid (Ss.giveErr l (bs u) (bs d) = 0) := by show _ = _; rw [HE2.out, if_neg (by rw [HL.out]; exact h2000)]
    have hd2 : ¬ (2000 : Int) ≤ n := by omega
    clear h2000
    go_wp2_with fail
    go_loop [10] (fun i => ∃ k : Nat, k ≤ n ∧ i = .int .i64 k ∧ Ss.Pre l (bs u, bs d) k) (fun i => n - (intOf i).toNat)
    case atStart => exact ⟨0, by omega, rfl, Ss.Pre.zero _ _⟩
    case round =>
      obtain ⟨k, hk, rfl, hpre⟩ := hrel
      by_cases hlt : k < n
      · obtain ⟨b, o, x, rfl, hbl, hux, _, _, hxa⟩ := hrW.mid (by decide) hlt
        have x0 : W.cell? ⟨b, o + k * 3, none⟩ = some (.string x.user) := hxa 0 _ rfl
        have x1 : W.cell? ⟨b, o + k * 3 + 1, none⟩ = some (.string x.dev) := hxa 1 _ rfl
        clear hxa
        obtain ⟨e1, h1⟩ : ∃ e, Op.bytesLess x.user.toList u.toList = e := ⟨_, rfl⟩
        obtain ⟨e2, h2⟩ : ∃ e, (x.user.toList == u.toList) = e := ⟨_, rfl⟩
        obtain ⟨e3, h3⟩ : ∃ e, Op.bytesLess x.dev.toList d.toList = e := ⟨_, rfl⟩
        have hdec := ahead_dec h1 h2 h3
        have htri := Ss.ahead_tri (who_ne HF.out hux)
        by_cases hah : Ss.ahead (Ss.who x) (bs u, bs d)
        · have HN := Lib.hid (hpre.succ hux (htri.2 hah))
          rw [show (bs x.user, bs x.dev) = Ss.who x from rfl, decide_eq_true hah] at hdec
          clear hpre hux htri hah
          cases e1 <;> cases e2 <;> cases e3
          all_goals first | (exact absurd hdec (by decide)) | skip
          all_goals
            clear hdec
            go_wp2_with fail
            exact ⟨⟨k + 1, by omega, by go_num, HN.out⟩, by simp [intOf]; omega⟩
        · have HSP : Hid (Ss.spot l (bs u, bs d) = k) := Lib.hid (Ss.spot_here hpre hux (by
            rcases Classical.em (Ss.ahead (bs u, bs d) (Ss.who x)) with h | h
            · exact h
            · exact absurd (htri.1 h) hah))
          rw [show (bs x.user, bs x.dev) = Ss.who x from rfl, decide_eq_false hah] at hdec
          clear hpre hux htri hah k3
          have k3 : W.cell? ⟨g, 3, none⟩ = some (.slice (some ⟨b, o, none⟩) n c) := bW.cell rfl
          have HDEC := Lib.hid hdec
          clear hdec
          go_upto_region 9 with fail
          go_cut [74] (fun s wx => s = Value.bool false ∧ wx = W)
          case rest =>
            obtain ⟨rfl, hwc⟩ := hcut
            replace hwc := hwc.symm
            subst hwc
            go_upto_region 11 with fail
            clear k3 x0 x1
            have hkc : (k : Int) ≤ c := by omega
            have hk0 : (0 : Int) ≤ k := by omega
            have HLR : Hid (Reads W W.heap.size 3 (some ⟨b, o, none⟩) k (Rd.shr.rows (l.take k))) := Lib.hid (Rd.Holds.front hrW hk).1
            have HLD : Hid (Reads W W.heap.size 3 (if c = k then (some ⟨b, o, none⟩) else ((some ⟨b, o, none⟩) : Option Addr).map (·.add (k * 3))) (n - k) (Rd.shr.rows (l.drop k))) := Lib.hid (Rd.Holds.cut hrW (k := k) (cap := c) hk hcap).1
            have hown0 : (W.alloc (.cells #[] 56)).ownsRow W.heap.size 56 3 (.slice (some ⟨W.heap.size, 0, none⟩) 0 0) 0 [] := World.ownsRow_made W _ 0 (Nat.le_refl _) (by unfold maxLen; omega) (by simp)
            have k3 : (W.alloc (.cells #[] 56)).cell? ⟨g, 3, none⟩ = some (.slice (some ⟨b, o, none⟩) n c) := (bW.on (below_alloc (Below.refl _ _) _)).cell rfl
            go_wp2_with (at_builtin; refine app_rows rfl (.tmp 77) (.tmp 81) 22 rfl W.heap.size 56 i0 _ 3 40 Try.underlying22 HI.out HZ0.out HZ1.out HZ2.out rfl (by decide) (by decide) _ 0 [] rfl hown0 W.heap.size (some ⟨b, o, none⟩) k c (Rd.shr.rows (l.take k)) rfl ?a1x ?a2x ?a3x ?a4x ?_)
            case a1x => exact HLR.out.below (below_alloc (Below.refl _ _) _)
            case a2x => exact Rd.shr.rows_one' _
            case a3x => omega
            intro v2 w2 hown2 hg2
            have hb2 : Below W.heap.size W w2 := (below_alloc (Below.refl _ _) _).grown hg2 (by simp) (fun j hj => (World.ownsRow.lt hown0 _ hj).1)
            have hsz2 := hb2.size
            have b2 := bW.on hb2
            clear k3
            have k2 : w2.cell? ⟨g, 2, none⟩ = some (.int .i64 next) := b2.cell rfl
            go_wp2_with (at_builtin; refine app_rows rfl (.tmp 83) (.tmp 89) 22 rfl W.heap.size 56 i0 _ 3 40 Try.underlying22 HI.out HZ0.out HZ1.out HZ2.out rfl (by decide) (by decide) _ _ _ rfl (World.ownsRow.alloc hown2 _) (w2.heap.size + 1) (some ⟨w2.heap.size, 0, none⟩) 1 1 [.string u, .string d, .int .i64 next] rfl ?b1x ?b2x ?b3x ?b4x ?_)
            case b1x => exact ⟨rfl, fun _ => ⟨_, rfl, Nat.lt_succ_self _, World.news_of_block (cs := #[.string u, .string d, .int .i64 next]) (t := 56) (fr := (0, 0)) (heap_alloc_new _ _)⟩⟩
            case b2x => simp [Value.oneCell']
            case b3x => omega
            case b4x => simp; omega
            intro v3 w3 hown3 hg3
            have hb3 : Below W.heap.size W w3 := (below_alloc hb2 _).grown hg3 (by simp; omega) (fun j hj => (World.ownsRow.lt hown2 _ hj).1)
            have hsz3 := hb3.size
            have b3 := bW.on hb3
            have r3 := rW.on hb3
            have hgW := bW.lt
            have hrg := rW.lt
            clear k2 hown2 hg2 hg3 b2
            have k3 : w3.cell? ⟨g, 3, none⟩ = some (.slice (some ⟨b, o, none⟩) n c) := b3.cell rfl
            have f3 := b3.free 3
            have hbW3 := below_then hbW hb3
            have hck : ¬ c = k := by omega
            have h1 := HLD.out
            rw [if_neg hck] at h1
            have HR := Lib.hid (Reads.below h1 hb3)
            clear h1
            go_wp2_with (at_builtin; refine app_rows rfl (.tmp 91) (.tmp 95) 22 rfl W.heap.size 56 i0 _ 3 40 Try.underlying22 HI.out HZ0.out HZ1.out HZ2.out rfl (by decide) (by decide) _ _ _ rfl hown3 W.heap.size (((some ⟨b, o, none⟩) : Option Addr).map (·.add (k * 3))) (n - k) (c - k) (Rd.shr.rows (l.drop k)) ?e0x HR.out ?e1x ?e2x ?e3x ?_)
            case e0x => simp [Act.eval, Addr.add_mid]
            case e1x => exact Rd.shr.rows_one' _
            case e2x => omega
            try any_goals exact hb3.size
            intro v4 w4 hown4 hg4
            have hb4 : Below W.heap.size W w4 := hb3.grown hg4 hb3.size (fun j hj => (World.ownsRow.lt hown3 _ hj).1)
            have hown : OwnShrs w4 W.heap.size v4 (Ss.put l ⟨u, d, next⟩) := own_put HL.out hk HSP.out hown4
            have b4 := bW.on hb4
            have r4 := rW.on hb4
            have hbW4 := below_then hbW hb4
            clear k3 f3 b3 r3 hown3 hown4 hg4 hb3 hbW3
            obtain ⟨m, hm⟩ : ∃ m, Ss.put l ⟨u, d, next⟩ = m := ⟨_, rfl⟩
            have hokm : ShrOk m := by rw [← hm]; exact put_ok HOK.out ⟨hu, hd, HNX.out⟩
            have HM := Lib.hid hm
            rw [hm] at hown
            clear hm
            obtain ⟨A1, c1, rfl, _, hc1⟩ := hown.form hokm
            have k3 : w4.cell? ⟨g, 3, none⟩ = some (.slice (some ⟨b, o, none⟩) n c) := b4.cell rfl
            have f3 := b4.free 3
            go_upto_region 14 with fail
            have b5 := b4.set 3 (.slice A1 m.length c1)
            have r5 := r4.apart (g' := g) (by omega) 3 (.slice A1 m.length c1)
            have own5 : OwnShrs (w4.setCell ⟨g, 3, none⟩ (.slice A1 m.length c1)) W.heap.size (.slice A1 m.length c1) m := owns_set hown (by omega)
            have hb5 : Below w.heap.size w (w4.setCell ⟨g, 3, none⟩ (.slice A1 m.length c1)) := Below.setCell hbW4 (p := ⟨g, 3, none⟩) (by show _ ≤ g; have := HG.out; omega) _
            change OBox _ g [.int .i64 id, .string room, .int .i64 next, .slice A1 m.length c1] at b5
            generalize w4.setCell ⟨g, 3, none⟩ (.slice A1 m.length c1) = W2 at b5 r5 own5 hb5 ⊢
            clear b4 r4 hbW4 hown k3 f3
            have k0 : W2.cell? ⟨g, 0, none⟩ = some (.int .i64 id) := b5.cell rfl
            have k1 : W2.cell? ⟨g, 1, none⟩ = some (.string room) := b5.cell rfl
            have k2 : W2.cell? ⟨g, 2, none⟩ = some (.int .i64 next) := b5.cell rfl
            have k3 : W2.cell? ⟨g, 3, none⟩ = some (.slice A1 m.length c1) := b5.cell rfl
            have hth := r5.there (n := 4) rfl
            have HT := Lib.hid hth
            have hfin : OwnShrs (putRow W2 (g + 1) [.int .i64 id, .string room, .int .i64 next, .slice A1 m.length c1]) W.heap.size (.slice A1 m.length c1) m := owns_put own5 (by omega)
            obtain ⟨A9, c9, he9, hH, _⟩ := hfin.form hokm
            cases he9
            have HH := Lib.hid hH
            have HP := Lib.hid (below_put (cs := [.int .i64 id, .string room, .int .i64 next, .slice A1 m.length c1]) (g := g + 1) (by have := HG.out; omega) hb5)
            clear hH hfin
            go_wp2_with fail
            refine bodyPost_ret (v := .tuple #[sesA id room next A1 m.length c1, .int .i64 0]) ?_ rfl ⟨HP.out, .inr ⟨HE.out, by rw [HM.out]; exact ⟨A1, c1, rfl, HH.out, hc1⟩⟩⟩
            rw [results_cell_tmp (fn := Try.f14) (p := 6) (q := 7) (ty := 24) rfl _ _ (g + 1) [.int .i64 id, .string room, .int .i64 next, .slice A1 m.length c1] _ ?_ (range_put HT.out) Try.underlying24 rfl (by rw [inf_ses]; rfl)]
            · rfl
            · rfl
          have hdec := HDEC.out
          clear HDEC
          cases e1 <;> cases e2 <;> cases e3
          all_goals first | (exact absurd hdec (by decide)) | skip
          all_goals
            clear hdec
            go_wp2_with fail
            go_meet
            exact ⟨rfl, rfl⟩
      · have hkn : k = n := by omega
        have HSP : Hid (Ss.spot l (bs u, bs d) = k) := Lib.hid ((Ss.spot_end (by have := HL.out; rwa [show l.length = k by omega])).trans (by have := HL.out; omega))
        have HKN := Lib.hid hkn
        clear hpre hkn
        rcases A with _ | ad
        · go_upto_region 11 with fail
          clear k3
          have hkc : (k : Int) ≤ c := by omega
          have hk0 : (0 : Int) ≤ k := by omega
          have HLR : Hid (Reads W W.heap.size 3 (none : Option Addr) k (Rd.shr.rows (l.take k))) := Lib.hid (Rd.Holds.front hrW hk).1
          have HLD : Hid (Reads W W.heap.size 3 (if c = k then (none : Option Addr) else ((none : Option Addr) : Option Addr).map (·.add (k * 3))) (n - k) (Rd.shr.rows (l.drop k))) := Lib.hid (Rd.Holds.cut hrW (k := k) (cap := c) hk hcap).1
          have hown0 : (W.alloc (.cells #[] 56)).ownsRow W.heap.size 56 3 (.slice (some ⟨W.heap.size, 0, none⟩) 0 0) 0 [] := World.ownsRow_made W _ 0 (Nat.le_refl _) (by unfold maxLen; omega) (by simp)
          have k3 : (W.alloc (.cells #[] 56)).cell? ⟨g, 3, none⟩ = some (.slice (none : Option Addr) n c) := (bW.on (below_alloc (Below.refl _ _) _)).cell rfl
          go_wp2_with (at_builtin; refine app_rows rfl (.tmp 77) (.tmp 81) 22 rfl W.heap.size 56 i0 _ 3 40 Try.underlying22 HI.out HZ0.out HZ1.out HZ2.out rfl (by decide) (by decide) _ 0 [] rfl hown0 W.heap.size (none : Option Addr) k c (Rd.shr.rows (l.take k)) rfl ?a1y ?a2y ?a3y ?a4y ?_)
          case a1y => exact HLR.out.below (below_alloc (Below.refl _ _) _)
          case a2y => exact Rd.shr.rows_one' _
          case a3y => omega
          intro v2 w2 hown2 hg2
          have hb2 : Below W.heap.size W w2 := (below_alloc (Below.refl _ _) _).grown hg2 (by simp) (fun j hj => (World.ownsRow.lt hown0 _ hj).1)
          have hsz2 := hb2.size
          have b2 := bW.on hb2
          clear k3
          have k2 : w2.cell? ⟨g, 2, none⟩ = some (.int .i64 next) := b2.cell rfl
          go_wp2_with (at_builtin; refine app_rows rfl (.tmp 83) (.tmp 89) 22 rfl W.heap.size 56 i0 _ 3 40 Try.underlying22 HI.out HZ0.out HZ1.out HZ2.out rfl (by decide) (by decide) _ _ _ rfl (World.ownsRow.alloc hown2 _) (w2.heap.size + 1) (some ⟨w2.heap.size, 0, none⟩) 1 1 [.string u, .string d, .int .i64 next] rfl ?b1y ?b2y ?b3y ?b4y ?_)
          case b1y => exact ⟨rfl, fun _ => ⟨_, rfl, Nat.lt_succ_self _, World.news_of_block (cs := #[.string u, .string d, .int .i64 next]) (t := 56) (fr := (0, 0)) (heap_alloc_new _ _)⟩⟩
          case b2y => simp [Value.oneCell']
          case b3y => omega
          case b4y => simp; omega
          intro v3 w3 hown3 hg3
          have hb3 : Below W.heap.size W w3 := (below_alloc hb2 _).grown hg3 (by simp; omega) (fun j hj => (World.ownsRow.lt hown2 _ hj).1)
          have hsz3 := hb3.size
          have b3 := bW.on hb3
          have r3 := rW.on hb3
          have hgW := bW.lt
          have hrg := rW.lt
          clear k2 hown2 hg2 hg3 b2
          have k3 : w3.cell? ⟨g, 3, none⟩ = some (.slice (none : Option Addr) n c) := b3.cell rfl
          have f3 := b3.free 3
          have hbW3 := below_then hbW hb3
          by_cases hck : c = k
          · have h1 := HLD.out
            rw [if_pos hck] at h1
            have hnk : n = k := by omega
            have hR := Reads.below h1 hb3
            have hn0 : n - k = 0 := by omega
            have hd0 : l.drop k = [] := List.drop_of_length_le (by have := HL.out; omega)
            rw [hn0, hd0] at hR
            have HR := Lib.hid hR
            clear h1 hd0 hR hn0
            subst hck
            subst hnk
            go_wp2_with (at_builtin; refine app_rows rfl (.tmp 91) (.tmp 95) 22 rfl W.heap.size 56 i0 _ 3 40 Try.underlying22 HI.out HZ0.out HZ1.out HZ2.out rfl (by decide) (by decide) _ _ _ rfl hown3 W.heap.size (none : Option Addr) 0 0 (Rd.shr.rows []) rfl HR.out ?f1y ?f2y ?f3y ?_)
            case f1y => exact Rd.shr.rows_one' _
            case f2y => omega
            try any_goals exact hb3.size
            intro v4 w4 hown4 hg4
            have hb4 : Below W.heap.size W w4 := hb3.grown hg4 hb3.size (fun j hj => (World.ownsRow.lt hown3 _ hj).1)
            have hown : OwnShrs w4 W.heap.size v4 (Ss.put l ⟨u, d, next⟩) := own_put_end HL.out HSP.out hown4
            have b4 := bW.on hb4
            have r4 := rW.on hb4
            have hbW4 := below_then hbW hb4
            clear k3 f3 b3 r3 hown3 hown4 hg4 hb3 hbW3
            obtain ⟨m, hm⟩ : ∃ m, Ss.put l ⟨u, d, next⟩ = m := ⟨_, rfl⟩
            have hokm : ShrOk m := by rw [← hm]; exact put_ok HOK.out ⟨hu, hd, HNX.out⟩
            have HM := Lib.hid hm
            rw [hm] at hown
            clear hm
            obtain ⟨A1, c1, rfl, _, hc1⟩ := hown.form hokm
            have k3 : w4.cell? ⟨g, 3, none⟩ = some (.slice (none : Option Addr) n n) := b4.cell rfl
            have f3 := b4.free 3
            go_upto_region 14 with fail
            have b5 := b4.set 3 (.slice A1 m.length c1)
            have r5 := r4.apart (g' := g) (by omega) 3 (.slice A1 m.length c1)
            have own5 : OwnShrs (w4.setCell ⟨g, 3, none⟩ (.slice A1 m.length c1)) W.heap.size (.slice A1 m.length c1) m := owns_set hown (by omega)
            have hb5 : Below w.heap.size w (w4.setCell ⟨g, 3, none⟩ (.slice A1 m.length c1)) := Below.setCell hbW4 (p := ⟨g, 3, none⟩) (by show _ ≤ g; have := HG.out; omega) _
            change OBox _ g [.int .i64 id, .string room, .int .i64 next, .slice A1 m.length c1] at b5
            generalize w4.setCell ⟨g, 3, none⟩ (.slice A1 m.length c1) = W2 at b5 r5 own5 hb5 ⊢
            clear b4 r4 hbW4 hown k3 f3
            have k0 : W2.cell? ⟨g, 0, none⟩ = some (.int .i64 id) := b5.cell rfl
            have k1 : W2.cell? ⟨g, 1, none⟩ = some (.string room) := b5.cell rfl
            have k2 : W2.cell? ⟨g, 2, none⟩ = some (.int .i64 next) := b5.cell rfl
            have k3 : W2.cell? ⟨g, 3, none⟩ = some (.slice A1 m.length c1) := b5.cell rfl
            have hth := r5.there (n := 4) rfl
            have HT := Lib.hid hth
            have hfin : OwnShrs (putRow W2 (g + 1) [.int .i64 id, .string room, .int .i64 next, .slice A1 m.length c1]) W.heap.size (.slice A1 m.length c1) m := owns_put own5 (by omega)
            obtain ⟨A9, c9, he9, hH, _⟩ := hfin.form hokm
            cases he9
            have HH := Lib.hid hH
            have HP := Lib.hid (below_put (cs := [.int .i64 id, .string room, .int .i64 next, .slice A1 m.length c1]) (g := g + 1) (by have := HG.out; omega) hb5)
            clear hH hfin
            go_wp2_with fail
            refine bodyPost_ret (v := .tuple #[sesA id room next A1 m.length c1, .int .i64 0]) ?_ rfl ⟨HP.out, .inr ⟨HE.out, by rw [HM.out]; exact ⟨A1, c1, rfl, HH.out, hc1⟩⟩⟩
            rw [results_cell_tmp (fn := Try.f14) (p := 6) (q := 7) (ty := 24) rfl _ _ (g + 1) [.int .i64 id, .string room, .int .i64 next, .slice A1 m.length c1] _ ?_ (range_put HT.out) Try.underlying24 rfl (by rw [inf_ses]; rfl)]
            · rfl
            · rfl
          · have h1 := HLD.out
            rw [if_neg hck] at h1
            have HR := Lib.hid (Reads.below h1 hb3)
            clear h1
            go_wp2_with (at_builtin; refine app_rows rfl (.tmp 91) (.tmp 95) 22 rfl W.heap.size 56 i0 _ 3 40 Try.underlying22 HI.out HZ0.out HZ1.out HZ2.out rfl (by decide) (by decide) _ _ _ rfl hown3 W.heap.size (((none : Option Addr) : Option Addr).map (·.add (k * 3))) (n - k) (c - k) (Rd.shr.rows (l.drop k)) rfl HR.out ?e1y ?e2y ?e3y ?_)
            case e1y => exact Rd.shr.rows_one' _
            case e2y => omega
            try any_goals exact hb3.size
            intro v4 w4 hown4 hg4
            have hb4 : Below W.heap.size W w4 := hb3.grown hg4 hb3.size (fun j hj => (World.ownsRow.lt hown3 _ hj).1)
            have hown : OwnShrs w4 W.heap.size v4 (Ss.put l ⟨u, d, next⟩) := own_put HL.out hk HSP.out hown4
            have b4 := bW.on hb4
            have r4 := rW.on hb4
            have hbW4 := below_then hbW hb4
            clear k3 f3 b3 r3 hown3 hown4 hg4 hb3 hbW3
            obtain ⟨m, hm⟩ : ∃ m, Ss.put l ⟨u, d, next⟩ = m := ⟨_, rfl⟩
            have hokm : ShrOk m := by rw [← hm]; exact put_ok HOK.out ⟨hu, hd, HNX.out⟩
            have HM := Lib.hid hm
            rw [hm] at hown
            clear hm
            obtain ⟨A1, c1, rfl, _, hc1⟩ := hown.form hokm
            have k3 : w4.cell? ⟨g, 3, none⟩ = some (.slice (none : Option Addr) n c) := b4.cell rfl
            have f3 := b4.free 3
            go_upto_region 14 with fail
            have b5 := b4.set 3 (.slice A1 m.length c1)
            have r5 := r4.apart (g' := g) (by omega) 3 (.slice A1 m.length c1)
            have own5 : OwnShrs (w4.setCell ⟨g, 3, none⟩ (.slice A1 m.length c1)) W.heap.size (.slice A1 m.length c1) m := owns_set hown (by omega)
            have hb5 : Below w.heap.size w (w4.setCell ⟨g, 3, none⟩ (.slice A1 m.length c1)) := Below.setCell hbW4 (p := ⟨g, 3, none⟩) (by show _ ≤ g; have := HG.out; omega) _
            change OBox _ g [.int .i64 id, .string room, .int .i64 next, .slice A1 m.length c1] at b5
            generalize w4.setCell ⟨g, 3, none⟩ (.slice A1 m.length c1) = W2 at b5 r5 own5 hb5 ⊢
            clear b4 r4 hbW4 hown k3 f3
            have k0 : W2.cell? ⟨g, 0, none⟩ = some (.int .i64 id) := b5.cell rfl
            have k1 : W2.cell? ⟨g, 1, none⟩ = some (.string room) := b5.cell rfl
            have k2 : W2.cell? ⟨g, 2, none⟩ = some (.int .i64 next) := b5.cell rfl
            have k3 : W2.cell? ⟨g, 3, none⟩ = some (.slice A1 m.length c1) := b5.cell rfl
            have hth := r5.there (n := 4) rfl
            have HT := Lib.hid hth
            have hfin : OwnShrs (putRow W2 (g + 1) [.int .i64 id, .string room, .int .i64 next, .slice A1 m.length c1]) W.heap.size (.slice A1 m.length c1) m := owns_put own5 (by omega)
            obtain ⟨A9, c9, he9, hH, _⟩ := hfin.form hokm
            cases he9
            have HH := Lib.hid hH
            have HP := Lib.hid (below_put (cs := [.int .i64 id, .string room, .int .i64 next, .slice A1 m.length c1]) (g := g + 1) (by have := HG.out; omega) hb5)
            clear hH hfin
            go_wp2_with fail
            refine bodyPost_ret (v := .tuple #[sesA id room next A1 m.length c1, .int .i64 0]) ?_ rfl ⟨HP.out, .inr ⟨HE.out, by rw [HM.out]; exact ⟨A1, c1, rfl, HH.out, hc1⟩⟩⟩
            rw [results_cell_tmp (fn := Try.f14) (p := 6) (q := 7) (ty := 24) rfl _ _ (g + 1) [.int .i64 id, .string room, .int .i64 next, .slice A1 m.length c1] _ ?_ (range_put HT.out) Try.underlying24 rfl (by rw [inf_ses]; rfl)]
            · rfl
            · rfl
        · go_upto_region 11 with fail
          clear k3
          have hkc : (k : Int) ≤ c := by omega
          have hk0 : (0 : Int) ≤ k := by omega
          have HLR : Hid (Reads W W.heap.size 3 (some ad) k (Rd.shr.rows (l.take k))) := Lib.hid (Rd.Holds.front hrW hk).1
          have HLD : Hid (Reads W W.heap.size 3 (if c = k then (some ad) else ((some ad) : Option Addr).map (·.add (k * 3))) (n - k) (Rd.shr.rows (l.drop k))) := Lib.hid (Rd.Holds.cut hrW (k := k) (cap := c) hk hcap).1
          have hown0 : (W.alloc (.cells #[] 56)).ownsRow W.heap.size 56 3 (.slice (some ⟨W.heap.size, 0, none⟩) 0 0) 0 [] := World.ownsRow_made W _ 0 (Nat.le_refl _) (by unfold maxLen; omega) (by simp)
          have k3 : (W.alloc (.cells #[] 56)).cell? ⟨g, 3, none⟩ = some (.slice (some ad) n c) := (bW.on (below_alloc (Below.refl _ _) _)).cell rfl
          go_wp2_with (at_builtin; refine app_rows rfl (.tmp 77) (.tmp 81) 22 rfl W.heap.size 56 i0 _ 3 40 Try.underlying22 HI.out HZ0.out HZ1.out HZ2.out rfl (by decide) (by decide) _ 0 [] rfl hown0 W.heap.size (some ad) k c (Rd.shr.rows (l.take k)) rfl ?a1z ?a2z ?a3z ?a4z ?_)
          case a1z => exact HLR.out.below (below_alloc (Below.refl _ _) _)
          case a2z => exact Rd.shr.rows_one' _
          case a3z => omega
          intro v2 w2 hown2 hg2
          have hb2 : Below W.heap.size W w2 := (below_alloc (Below.refl _ _) _).grown hg2 (by simp) (fun j hj => (World.ownsRow.lt hown0 _ hj).1)
          have hsz2 := hb2.size
          have b2 := bW.on hb2
          clear k3
          have k2 : w2.cell? ⟨g, 2, none⟩ = some (.int .i64 next) := b2.cell rfl
          go_wp2_with (at_builtin; refine app_rows rfl (.tmp 83) (.tmp 89) 22 rfl W.heap.size 56 i0 _ 3 40 Try.underlying22 HI.out HZ0.out HZ1.out HZ2.out rfl (by decide) (by decide) _ _ _ rfl (World.ownsRow.alloc hown2 _) (w2.heap.size + 1) (some ⟨w2.heap.size, 0, none⟩) 1 1 [.string u, .string d, .int .i64 next] rfl ?b1z ?b2z ?b3z ?b4z ?_)
          case b1z => exact ⟨rfl, fun _ => ⟨_, rfl, Nat.lt_succ_self _, World.news_of_block (cs := #[.string u, .string d, .int .i64 next]) (t := 56) (fr := (0, 0)) (heap_alloc_new _ _)⟩⟩
          case b2z => simp [Value.oneCell']
          case b3z => omega
          case b4z => simp; omega
          intro v3 w3 hown3 hg3
          have hb3 : Below W.heap.size W w3 := (below_alloc hb2 _).grown hg3 (by simp; omega) (fun j hj => (World.ownsRow.lt hown2 _ hj).1)
          have hsz3 := hb3.size
          have b3 := bW.on hb3
          have r3 := rW.on hb3
          have hgW := bW.lt
          have hrg := rW.lt
          clear k2 hown2 hg2 hg3 b2
          have k3 : w3.cell? ⟨g, 3, none⟩ = some (.slice (some ad) n c) := b3.cell rfl
          have f3 := b3.free 3
          have hbW3 := below_then hbW hb3
          by_cases hck : c = k
          · have h1 := HLD.out
            rw [if_pos hck] at h1
            have hnk : n = k := by omega
            have hR := Reads.below h1 hb3
            have hn0 : n - k = 0 := by omega
            have hd0 : l.drop k = [] := List.drop_of_length_le (by have := HL.out; omega)
            rw [hn0, hd0] at hR
            have HR := Lib.hid hR
            clear h1 hd0 hR hn0
            subst hck
            subst hnk
            go_wp2_with (at_builtin; refine app_rows rfl (.tmp 91) (.tmp 95) 22 rfl W.heap.size 56 i0 _ 3 40 Try.underlying22 HI.out HZ0.out HZ1.out HZ2.out rfl (by decide) (by decide) _ _ _ rfl hown3 W.heap.size (some ad) 0 0 (Rd.shr.rows []) rfl HR.out ?f1z ?f2z ?f3z ?_)
            case f1z => exact Rd.shr.rows_one' _
            case f2z => omega
            try any_goals exact hb3.size
            intro v4 w4 hown4 hg4
            have hb4 : Below W.heap.size W w4 := hb3.grown hg4 hb3.size (fun j hj => (World.ownsRow.lt hown3 _ hj).1)
            have hown : OwnShrs w4 W.heap.size v4 (Ss.put l ⟨u, d, next⟩) := own_put_end HL.out HSP.out hown4
            have b4 := bW.on hb4
            have r4 := rW.on hb4
            have hbW4 := below_then hbW hb4
            clear k3 f3 b3 r3 hown3 hown4 hg4 hb3 hbW3
            obtain ⟨m, hm⟩ : ∃ m, Ss.put l ⟨u, d, next⟩ = m := ⟨_, rfl⟩
            have hokm : ShrOk m := by rw [← hm]; exact put_ok HOK.out ⟨hu, hd, HNX.out⟩
            have HM := Lib.hid hm
            rw [hm] at hown
            clear hm
            obtain ⟨A1, c1, rfl, _, hc1⟩ := hown.form hokm
            have k3 : w4.cell? ⟨g, 3, none⟩ = some (.slice (some ad) n n) := b4.cell rfl
            have f3 := b4.free 3
            go_upto_region 14 with fail
            have b5 := b4.set 3 (.slice A1 m.length c1)
            have r5 := r4.apart (g' := g) (by omega) 3 (.slice A1 m.length c1)
            have own5 : OwnShrs (w4.setCell ⟨g, 3, none⟩ (.slice A1 m.length c1)) W.heap.size (.slice A1 m.length c1) m := owns_set hown (by omega)
            have hb5 : Below w.heap.size w (w4.setCell ⟨g, 3, none⟩ (.slice A1 m.length c1)) := Below.setCell hbW4 (p := ⟨g, 3, none⟩) (by show _ ≤ g; have := HG.out; omega) _
            change OBox _ g [.int .i64 id, .string room, .int .i64 next, .slice A1 m.length c1] at b5
            generalize w4.setCell ⟨g, 3, none⟩ (.slice A1 m.length c1) = W2 at b5 r5 own5 hb5 ⊢
            clear b4 r4 hbW4 hown k3 f3
            have k0 : W2.cell? ⟨g, 0, none⟩ = some (.int .i64 id) := b5.cell rfl
            have k1 : W2.cell? ⟨g, 1, none⟩ = some (.string room) := b5.cell rfl
            have k2 : W2.cell? ⟨g, 2, none⟩ = some (.int .i64 next) := b5.cell rfl
            have k3 : W2.cell? ⟨g, 3, none⟩ = some (.slice A1 m.length c1) := b5.cell rfl
            have hth := r5.there (n := 4) rfl
            have HT := Lib.hid hth
            have hfin : OwnShrs (putRow W2 (g + 1) [.int .i64 id, .string room, .int .i64 next, .slice A1 m.length c1]) W.heap.size (.slice A1 m.length c1) m := owns_put own5 (by omega)
            obtain ⟨A9, c9, he9, hH, _⟩ := hfin.form hokm
            cases he9
            have HH := Lib.hid hH
            have HP := Lib.hid (below_put (cs := [.int .i64 id, .string room, .int .i64 next, .slice A1 m.length c1]) (g := g + 1) (by have := HG.out; omega) hb5)
            clear hH hfin
            go_wp2_with fail
            refine bodyPost_ret (v := .tuple #[sesA id room next A1 m.length c1, .int .i64 0]) ?_ rfl ⟨HP.out, .inr ⟨HE.out, by rw [HM.out]; exact ⟨A1, c1, rfl, HH.out, hc1⟩⟩⟩
            rw [results_cell_tmp (fn := Try.f14) (p := 6) (q := 7) (ty := 24) rfl _ _ (g + 1) [.int .i64 id, .string room, .int .i64 next, .slice A1 m.length c1] _ ?_ (range_put HT.out) Try.underlying24 rfl (by rw [inf_ses]; rfl)]
            · rfl
            · rfl
          · have h1 := HLD.out
            rw [if_neg hck] at h1
            have HR := Lib.hid (Reads.below h1 hb3)
            clear h1
            go_wp2_with (at_builtin; refine app_rows rfl (.tmp 91) (.tmp 95) 22 rfl W.heap.size 56 i0 _ 3 40 Try.underlying22 HI.out HZ0.out HZ1.out HZ2.out rfl (by decide) (by decide) _ _ _ rfl hown3 W.heap.size (((some ad) : Option Addr).map (·.add (k * 3))) (n - k) (c - k) (Rd.shr.rows (l.drop k)) rfl HR.out ?e1z ?e2z ?e3z ?_)
            case e1z => exact Rd.shr.rows_one' _
            case e2z => omega
            try any_goals exact hb3.size
            intro v4 w4 hown4 hg4
            have hb4 : Below W.heap.size W w4 := hb3.grown hg4 hb3.size (fun j hj => (World.ownsRow.lt hown3 _ hj).1)
            have hown : OwnShrs w4 W.heap.size v4 (Ss.put l ⟨u, d, next⟩) := own_put HL.out hk HSP.out hown4
            have b4 := bW.on hb4
            have r4 := rW.on hb4
            have hbW4 := below_then hbW hb4
            clear k3 f3 b3 r3 hown3 hown4 hg4 hb3 hbW3
            obtain ⟨m, hm⟩ : ∃ m, Ss.put l ⟨u, d, next⟩ = m := ⟨_, rfl⟩
            have hokm : ShrOk m := by rw [← hm]; exact put_ok HOK.out ⟨hu, hd, HNX.out⟩
            have HM := Lib.hid hm
            rw [hm] at hown
            clear hm
            obtain ⟨A1, c1, rfl, _, hc1⟩ := hown.form hokm
            have k3 : w4.cell? ⟨g, 3, none⟩ = some (.slice (some ad) n c) := b4.cell rfl
            have f3 := b4.free 3
            go_upto_region 14 with fail
            have b5 := b4.set 3 (.slice A1 m.length c1)
            have r5 := r4.apart (g' := g) (by omega) 3 (.slice A1 m.length c1)
            have own5 : OwnShrs (w4.setCell ⟨g, 3, none⟩ (.slice A1 m.length c1)) W.heap.size (.slice A1 m.length c1) m := owns_set hown (by omega)
            have hb5 : Below w.heap.size w (w4.setCell ⟨g, 3, none⟩ (.slice A1 m.length c1)) := Below.setCell hbW4 (p := ⟨g, 3, none⟩) (by show _ ≤ g; have := HG.out; omega) _
            change OBox _ g [.int .i64 id, .string room, .int .i64 next, .slice A1 m.length c1] at b5
            generalize w4.setCell ⟨g, 3, none⟩ (.slice A1 m.length c1) = W2 at b5 r5 own5 hb5 ⊢
            clear b4 r4 hbW4 hown k3 f3
            have k0 : W2.cell? ⟨g, 0, none⟩ = some (.int .i64 id) := b5.cell rfl
            have k1 : W2.cell? ⟨g, 1, none⟩ = some (.string room) := b5.cell rfl
            have k2 : W2.cell? ⟨g, 2, none⟩ = some (.int .i64 next) := b5.cell rfl
            have k3 : W2.cell? ⟨g, 3, none⟩ = some (.slice A1 m.length c1) := b5.cell rfl
            have hth := r5.there (n := 4) rfl
            have HT := Lib.hid hth
            have hfin : OwnShrs (putRow W2 (g + 1) [.int .i64 id, .string room, .int .i64 next, .slice A1 m.length c1]) W.heap.size (.slice A1 m.length c1) m := owns_put own5 (by omega)
            obtain ⟨A9, c9, he9, hH, _⟩ := hfin.form hokm
            cases he9
            have HH := Lib.hid hH
            have HP := Lib.hid (below_put (cs := [.int .i64 id, .string room, .int .i64 next, .slice A1 m.length c1]) (g := g + 1) (by have := HG.out; omega) hb5)
            clear hH hfin
            go_wp2_with fail
            refine bodyPost_ret (v := .tuple #[sesA id room next A1 m.length c1, .int .i64 0]) ?_ rfl ⟨HP.out, .inr ⟨HE.out, by rw [HM.out]; exact ⟨A1, c1, rfl, HH.out, hc1⟩⟩⟩
            rw [results_cell_tmp (fn := Try.f14) (p := 6) (q := 7) (ty := 24) rfl _ _ (g + 1) [.int .i64 id, .string room, .int .i64 next, .slice A1 m.length c1] _ ?_ (range_put HT.out) Try.underlying24 rfl (by rw [inf_ses]; rfl)]
            · rfl
            · rfl

set_option maxRecDepth 100000 in
set_option maxHeartbeats 8000000 in
theorem give_any (id : Int) (room : ByteArray) (next : Int) (A : Option Addr) (n c : Nat) (l : List Shr) (u d : ByteArray) (w : World) (hr : Rd.shr.Holds w A n l) (hn : n ≤ 900000) (hcap : n ≤ c) (hu : u.size ≤ maxLen) (hd : d.size ≤ maxLen) (hnx : -9223372036854775808 ≤ next ∧ next ≤ 9223372036854775807) :
    Calls Try.prog 13 #[sesA id room next A n c, .string u, .string d] w (GiveP w id room next l u d) := by
  obtain ⟨i0, hi, hz0, hz1, hz2⟩ := info_parts infoShr
  have HI := Lib.hid hi; have HZ0 := Lib.hid hz0; have HZ1 := Lib.hid hz1; have HZ2 := Lib.hid hz2
  clear hi hz0 hz1 hz2
  have HL := Lib.hid hr.length
  have HOK := Lib.hid (shr_ok hr)
  have HNX := Lib.hid hnx
  clear hnx
  obtain ⟨wa, hwa⟩ : ∃ wa : World, wa = (w.alloc (.cells #[.int .i64 id, .string room, .int .i64 next, .slice A n c] 24)).alloc (.cells #[.int .i64 0, .string ⟨#[]⟩, .int .i64 0, .slice none 0 0] 24) := ⟨_, rfl⟩
  have hba : Below w.heap.size w wa := by rw [hwa]; exact below_alloc (below_alloc (Below.refl _ _) _) _
  have b0 : OBox wa w.heap.size [.int .i64 id, .string room, .int .i64 next, .slice A n c] := by rw [hwa]; exact (OBox.new w [.int .i64 id, .string room, .int .i64 next, .slice A n c] _).on (below_alloc (Below.refl _ _) _)
  have r0 : OBox wa (w.heap.size + 1) [.int .i64 0, .string ⟨#[]⟩, .int .i64 0, .slice none 0 0] := by rw [hwa]; simpa using OBox.new (w.alloc (.cells #[.int .i64 id, .string room, .int .i64 next, .slice A n c] 24)) [.int .i64 0, .string ⟨#[]⟩, .int .i64 0, .slice none 0 0] 24
  go_enter Try.func13, Try.ntmps13
  go_upto_region 1 with fail
  rw [← hwa]
  have HW := Lib.hid hwa; clear hwa
  obtain ⟨g, hg⟩ : ∃ g, w.heap.size = g := ⟨_, rfl⟩
  rw [hg] at b0 r0 ⊢
  have HG := Lib.hid hg
  clear hg
  have hra := hr.on hba
  go_wp2_with fail
  refine ((user_any u wa hu).mono fun _ _ => Quiet.ret').mono ?_
  rintro e w1 ⟨rfl, bb1⟩
  have b1 := b0.on bb1
  have r1 := r0.on bb1
  have c1 := below_then hba bb1
  have hr1 := hra.on bb1
  have hth := r1.there (n := 4) rfl
  have HT := Lib.hid hth
  clear hra hba bb1 b0 r0
  have DL : Hid ((bs d).length = d.size) := Lib.hid (size_list d)
  cases hub : I.userB (bs u)
  · have HE : Hid (Ss.giveErr l (bs u) (bs d) = 3) := by show _ = _; unfold Ss.giveErr; rw [if_pos (.inl hub)]
    simp only [I.errOf]
    clear hub
    have HP := Lib.hid (below_put (cs := [.int .i64 0, .string ⟨#[]⟩, .int .i64 0, .slice none 0 0]) (g := g + 1) (by have := HG.out; omega) c1)
    go_wp2_with fail
    refine bodyPost_ret (v := .tuple #[sesA 0 ⟨#[]⟩ 0 none 0 0, .int .i64 3]) ?_ rfl (GiveP.err HE.out (by decide) HP.out)
    rw [results_cell_tmp (fn := Try.f13) (p := 6) (q := 7) (ty := 24) rfl _ _ (g + 1) [.int .i64 0, .string ⟨#[]⟩, .int .i64 0, .slice none 0 0] _ ?_ (range_put HT.out) Try.underlying24 rfl (by rw [inf_ses]; rfl)]
    · rfl
    · rfl
  have HUB := Lib.hid hub; clear hub
  simp only [I.errOf]
  by_cases hd0 : d.size = 0
  · have HE : Hid (Ss.giveErr l (bs u) (bs d) = 3) := by show _ = _; unfold Ss.giveErr; rw [if_pos (.inr (.inl (by rw [DL.out]; exact hd0)))]
    have es : d.toList.isEmpty = true := by rw [Lib.toList_data, List.isEmpty_iff_length_eq_zero]; exact DL.out.trans hd0
    clear hd0
    have HP := Lib.hid (below_put (cs := [.int .i64 0, .string ⟨#[]⟩, .int .i64 0, .slice none 0 0]) (g := g + 1) (by have := HG.out; omega) c1)
    go_wp2_with fail
    refine bodyPost_ret (v := .tuple #[sesA 0 ⟨#[]⟩ 0 none 0 0, .int .i64 3]) ?_ rfl (GiveP.err HE.out (by decide) HP.out)
    rw [results_cell_tmp (fn := Try.f13) (p := 6) (q := 7) (ty := 24) rfl _ _ (g + 1) [.int .i64 0, .string ⟨#[]⟩, .int .i64 0, .slice none 0 0] _ ?_ (range_put HT.out) Try.underlying24 rfl (by rw [inf_ses]; rfl)]
    · rfl
    · rfl
  have es : d.toList.isEmpty = false := by rw [Lib.toList_data, ← Bool.not_eq_true, List.isEmpty_iff_length_eq_zero]; exact fun h => hd0 (DL.out.symm.trans h)
  by_cases hd32 : 32 < d.size
  · have HE : Hid (Ss.giveErr l (bs u) (bs d) = 3) := by show _ = _; unfold Ss.giveErr; rw [if_pos (.inr (.inr (by rw [DL.out]; exact hd32)))]
    have es2 : decide ((32 : Int) < (d.size : Nat)) = true := decide_eq_true (by omega)
    have HP := Lib.hid (below_put (cs := [.int .i64 0, .string ⟨#[]⟩, .int .i64 0, .slice none 0 0]) (g := g + 1) (by have := HG.out; omega) c1)
    go_wp2_with fail
    refine bodyPost_ret (v := .tuple #[sesA 0 ⟨#[]⟩ 0 none 0 0, .int .i64 3]) ?_ rfl (GiveP.err HE.out (by decide) HP.out)
    rw [results_cell_tmp (fn := Try.f13) (p := 6) (q := 7) (ty := 24) rfl _ _ (g + 1) [.int .i64 0, .string ⟨#[]⟩, .int .i64 0, .slice none 0 0] _ ?_ (range_put HT.out) Try.underlying24 rfl (by rw [inf_ses]; rfl)]
    · rfl
    · rfl
  have es2 : decide ((32 : Int) < (d.size : Nat)) = false := decide_eq_false (by omega)
  have HE1 : Hid (Ss.giveErr l (bs u) (bs d) = if (Ss.find l (bs u, bs d)).isSome = true then 4 else if 2000 ≤ l.length then 29 else 0) := by
    show _ = _
    unfold Ss.giveErr
    rw [if_neg (by
      rintro (h | h | h)
      · rw [HUB.out] at h; cases h
      · rw [DL.out] at h; exact hd0 h
      · rw [DL.out] at h; exact hd32 h)]
  clear hd0 hd32
  go_upto_region 4 with fail
  have bo := OBox.new w1 [.string u, .string d] 61
  have hbo := below_alloc (Below.refl w1.heap.size w1) (.cells #[.string u, .string d] 61)
  change OBox (w1.alloc (.cells #[.string u, .string d] 61)) _ _ at bo
  generalize w1.alloc (.cells #[.string u, .string d] 61) = wo at bo hbo ⊢
  have b2 := b1.on hbo
  have r2 := r1.on hbo
  have c2 := below_then c1 hbo
  have hr2 := hr1.on hbo
  clear b1 r1 c1 hr1 hbo hth HT
  obtain ⟨q, hq⟩ : ∃ q, w1.heap.size = q := ⟨_, rfl⟩
  rw [hq] at bo ⊢
  have HQ := Lib.hid hq
  clear hq
  have k0 : wo.cell? ⟨g, 0, none⟩ = some (.int .i64 id) := b2.cell rfl
  have k1 : wo.cell? ⟨g, 1, none⟩ = some (.string room) := b2.cell rfl
  have k2 : wo.cell? ⟨g, 2, none⟩ = some (.int .i64 next) := b2.cell rfl
  have k3 : wo.cell? ⟨g, 3, none⟩ = some (.slice A n c) := b2.cell rfl
  have p0 : wo.cell? ⟨q, 0, none⟩ = some (.string u) := bo.cell rfl
  have p1 : wo.cell? ⟨q, 1, none⟩ = some (.string d) := bo.cell rfl
  go_wp2_with fail
  refine (share_any id room next A n c l u d wo hr2 (by omega)).mono ?_
  rintro e w3 ⟨rfl, bb3⟩
  have b3 := b2.on bb3
  have r3 := r2.on bb3
  have o3 := bo.on bb3
  have c3 := below_then c2 bb3
  have hr3 := hr2.on bb3
  clear b2 r2 bo c2 hr2 bb3 k0 k1 k2 k3 p0 p1
  cases hf : Ss.find l (bs u, bs d) with
  | some x =>
    have HE : Hid (Ss.giveErr l (bs u) (bs d) = 4) := by show _ = _; rw [HE1.out, hf]; rfl
    clear hf
    simp only [fndV]
    go_upto_region 5 with fail
    have r4 := r3.on (below_alloc (Below.refl _ _) (.cells #[.string x.user, .string x.dev, .int .i64 x.index] 56))
    have c4 := below_alloc c3 (.cells #[.string x.user, .string x.dev, .int .i64 x.index] 56)
    generalize w3.alloc (.cells #[.string x.user, .string x.dev, .int .i64 x.index] 56) = w4 at r4 c4 ⊢
    have hth := r4.there (n := 4) rfl
    have HT := Lib.hid hth
    have HP := Lib.hid (below_put (cs := [.int .i64 0, .string ⟨#[]⟩, .int .i64 0, .slice none 0 0]) (g := g + 1) (by have := HG.out; omega) c4)
    go_wp2_with fail
    refine bodyPost_ret (v := .tuple #[sesA 0 ⟨#[]⟩ 0 none 0 0, .int .i64 4]) ?_ rfl (GiveP.err HE.out (by decide) HP.out)
    rw [results_cell_tmp (fn := Try.f13) (p := 6) (q := 7) (ty := 24) rfl _ _ (g + 1) [.int .i64 0, .string ⟨#[]⟩, .int .i64 0, .slice none 0 0] _ ?_ (range_put HT.out) Try.underlying24 rfl (by rw [inf_ses]; rfl)]
    · rfl
    · rfl
  | none =>
    have HF := Lib.hid hf
    have HE2 : Hid (Ss.giveErr l (bs u) (bs d) = if 2000 ≤ l.length then 29 else 0) := by show _ = _; rw [HE1.out, hf]; rfl
    clear hf
    simp only [fndV]
    go_upto_region 5 with fail
    have hbz := below_alloc (Below.refl w3.heap.size w3) (.cells #[.string ⟨#[]⟩, .string ⟨#[]⟩, .int .i64 0] 56)
    generalize w3.alloc (.cells #[.string ⟨#[]⟩, .string ⟨#[]⟩, .int .i64 0] 56) = W at hbz ⊢
    have bW := b3.on hbz
    have rW := r3.on hbz
    have oW := o3.on hbz
    have hbW := below_then c3 hbz
    have hrW := hr3.on hbz
    clear b3 r3 c3 hr3 hbz o3
    have k3 : W.cell? ⟨g, 3, none⟩ = some (.slice A n c) := bW.cell rfl
    by_cases h2000 : 2000 ≤ n
    · have HE : Hid (Ss.giveErr l (bs u) (bs d) = 29) := by show _ = _; rw [HE2.out, if_pos (by rw [HL.out]; exact h2000)]
      have hd2 : (2000 : Int) ≤ n := by omega
      have hth := rW.there (n := 4) rfl
      have HT := Lib.hid hth
      have HP := Lib.hid (below_put (cs := [.int .i64 0, .string ⟨#[]⟩, .int .i64 0, .slice none 0 0]) (g := g + 1) (by have := HG.out; omega) hbW)
      go_wp2_with fail
      refine bodyPost_ret (v := .tuple #[sesA 0 ⟨#[]⟩ 0 none 0 0, .int .i64 29]) ?_ rfl (GiveP.err HE.out (by decide) HP.out)
      rw [results_cell_tmp (fn := Try.f13) (p := 6) (q := 7) (ty := 24) rfl _ _ (g + 1) [.int .i64 0, .string ⟨#[]⟩, .int .i64 0, .slice none 0 0] _ ?_ (range_put HT.out) Try.underlying24 rfl (by rw [inf_ses]; rfl)]
      · rfl
      · rfl
    have HE : Hid (Ss.giveErr l (bs u) (bs d) = 0) := by show _ = _; rw [HE2.out, if_neg (by rw [HL.out]; exact h2000)]
    have hd2 : ¬ (2000 : Int) ≤ n := by omega
    clear h2000
    go_wp2_with fail
    have hqW := oW.lt
    go_loopw [11] (fun i wr => ∃ k : Nat, k ≤ n ∧ i = .int .i64 k ∧ Ss.Pre l (bs u, bs d) k ∧ Below W.heap.size W wr) (fun i _ => n - (intOf i).toNat)
    case atStart => exact ⟨0, by omega, rfl, Ss.Pre.zero _ _, Below.refl _ _⟩
    case round =>
      obtain ⟨k, hk, rfl, hpre, hbr⟩ := hrel
      clear k3
      have bR := bW.on hbr
      have oR := oW.on hbr
      have hrR := hrW.on hbr
      by_cases hlt : k < n
      · have hltI : decide ((k : Int) < n) = true := decide_eq_true (by omega)
        obtain ⟨b, o, x, rfl, hbl, hux, _, _, hxa⟩ := hrR.mid (by decide) hlt
        have BX := Lib.hid (fun V (h : Below wr.heap.size wr V) => (⟨h, (bR.on h).cell rfl, (oR.on h).cell rfl, (oR.on h).cell rfl, (range_on hxa h hbl) 0 _ rfl, (range_on hxa h hbl) 1 _ rfl, (range_on hxa h hbl) 2 _ rfl⟩ :
          Below wr.heap.size wr V ∧ V.cell? ⟨g, 3, none⟩ = some (.slice (some ⟨b, o, none⟩) n c) ∧ V.cell? ⟨q, 0, none⟩ = some (.string u) ∧ V.cell? ⟨q, 1, none⟩ = some (.string d) ∧ V.cell? ⟨b, o + k * 3, none⟩ = some (.string x.user) ∧ V.cell? ⟨b, o + k * 3 + 1, none⟩ = some (.string x.dev) ∧ V.cell? ⟨b, o + k * 3 + 2, none⟩ = some (.int .i64 x.index)))
        clear hxa
        by_cases hah : Ss.ahead (bs u, bs d) (Ss.who x)
        · have HSP : Hid (Ss.spot l (bs u, bs d) = k) := Lib.hid (Ss.spot_here hpre hux hah)
          have HA : Hid (decide (Ss.ahead (bs u, bs d) (bs x.user, bs x.dev)) = true) := Lib.hid (decide_eq_true hah)
          clear hpre hux hah
          go_upto_region 10 with fail
          go_cut [57] (fun s wy => s = .bool false ∧ Below wr.heap.size wr wy)
          case rest =>
            obtain ⟨rfl, hby⟩ := hcut
            have hbc := hbr.trans (hby.mono hbr.size)
            go_upto_region 12 with fail
            have bC := bW.on hbc
            have rC := rW.on hbc
            have hbWC := below_then hbW hbc
            have hrC := hrW.on hbc
            obtain ⟨W, hW9⟩ : ∃ W9, W9 = wc := ⟨_, rfl⟩
            rw [← hW9] at bC rC hbWC hrC ⊢
            clear hW9 bW rW hbW hrW hbc oW hqW bR oR hrR hbr
            clear hby BX HA
            have bW := bC; have rW := rC; have hbW := hbWC; have hrW := hrC
            clear bC rC hbWC hrC
            have hkc : (k : Int) ≤ c := by omega
            have hk0 : (0 : Int) ≤ k := by omega
            have HLR : Hid (Reads W W.heap.size 3 (some ⟨b, o, none⟩) k (Rd.shr.rows (l.take k))) := Lib.hid (Rd.Holds.front hrW hk).1
            have HLD : Hid (Reads W W.heap.size 3 (if c = k then (some ⟨b, o, none⟩) else ((some ⟨b, o, none⟩) : Option Addr).map (·.add (k * 3))) (n - k) (Rd.shr.rows (l.drop k))) := Lib.hid (Rd.Holds.cut hrW (k := k) (cap := c) hk hcap).1
            have k3 : W.cell? ⟨g, 3, none⟩ = some (.slice (some ⟨b, o, none⟩) n c) := bW.cell rfl
            go_wp2_with (at_builtin; refine app_rows rfl (.const (.slice none 0 0)) (.tmp 63) 22 rfl W.heap.size 56 i0 _ 3 40 Try.underlying22 HI.out HZ0.out HZ1.out HZ2.out rfl (by decide) (by decide) _ 0 [] rfl (World.ownsRow_nil _ _ _ _) W.heap.size (some ⟨b, o, none⟩) k c (Rd.shr.rows (l.take k)) rfl HLR.out ?a2x ?a3x ?a4x ?_)
            case a2x => exact Rd.shr.rows_one' _
            case a3x => omega
            try any_goals exact Nat.le_refl _
            intro v2 w2 hown2 hg2
            have hb2 : Below W.heap.size W w2 := (Below.refl _ _).grown hg2 (Nat.le_refl _) (fun j hj => by simp [Value.ownBlock] at hj)
            have hsz2 := hb2.size
            have b2 := bW.on hb2
            clear k3
            have k2 : w2.cell? ⟨g, 2, none⟩ = some (.int .i64 next) := b2.cell rfl
            go_wp2_with (at_builtin; refine app_rows rfl (.tmp 65) (.tmp 71) 22 rfl W.heap.size 56 i0 _ 3 40 Try.underlying22 HI.out HZ0.out HZ1.out HZ2.out rfl (by decide) (by decide) _ _ _ rfl (World.ownsRow.alloc hown2 _) (w2.heap.size + 1) (some ⟨w2.heap.size, 0, none⟩) 1 1 [.string u, .string d, .int .i64 next] rfl ?b1x ?b2x ?b3x ?b4x ?_)
            case b1x => exact ⟨rfl, fun _ => ⟨_, rfl, Nat.lt_succ_self _, World.news_of_block (cs := #[.string u, .string d, .int .i64 next]) (t := 56) (fr := (0, 0)) (heap_alloc_new _ _)⟩⟩
            case b2x => simp [Value.oneCell']
            case b3x => omega
            case b4x => simp; omega
            intro v3 w3 hown3 hg3
            have hb3 : Below W.heap.size W w3 := (below_alloc hb2 _).grown hg3 (by simp; omega) (fun j hj => (World.ownsRow.lt hown2 _ hj).1)
            have hsz3 := hb3.size
            have b3 := bW.on hb3
            have r3 := rW.on hb3
            have hgW := bW.lt
            have hrg := rW.lt
            clear k2 hown2 hg2 hg3 b2
            have k3 : w3.cell? ⟨g, 3, none⟩ = some (.slice (some ⟨b, o, none⟩) n c) := b3.cell rfl
            have f3 := b3.free 3
            have hbW3 := below_then hbW hb3
            have hck : ¬ c = k := by omega
            have h1 := HLD.out
            rw [if_neg hck] at h1
            have HR := Lib.hid (Reads.below h1 hb3)
            clear h1
            go_wp2_with (at_builtin; refine app_rows rfl (.tmp 73) (.tmp 77) 22 rfl W.heap.size 56 i0 _ 3 40 Try.underlying22 HI.out HZ0.out HZ1.out HZ2.out rfl (by decide) (by decide) _ _ _ rfl hown3 W.heap.size (((some ⟨b, o, none⟩) : Option Addr).map (·.add (k * 3))) (n - k) (c - k) (Rd.shr.rows (l.drop k)) ?e0x HR.out ?e1x ?e2x ?e3x ?_)
            case e0x => simp [Act.eval, Addr.add_mid]
            case e1x => exact Rd.shr.rows_one' _
            case e2x => omega
            try any_goals exact hb3.size
            intro v4 w4 hown4 hg4
            have hb4 : Below W.heap.size W w4 := hb3.grown hg4 hb3.size (fun j hj => (World.ownsRow.lt hown3 _ hj).1)
            have hown : OwnShrs w4 W.heap.size v4 (Ss.put l ⟨u, d, next⟩) := own_put HL.out hk HSP.out hown4
            have b4 := bW.on hb4
            have r4 := rW.on hb4
            have hbW4 := below_then hbW hb4
            clear k3 f3 b3 r3 hown3 hown4 hg4 hb3 hbW3
            obtain ⟨m, hm⟩ : ∃ m, Ss.put l ⟨u, d, next⟩ = m := ⟨_, rfl⟩
            have hokm : ShrOk m := by rw [← hm]; exact put_ok HOK.out ⟨hu, hd, HNX.out⟩
            have HM := Lib.hid hm
            rw [hm] at hown
            clear hm
            obtain ⟨A1, c1, rfl, _, hc1⟩ := hown.form hokm
            have k3 : w4.cell? ⟨g, 3, none⟩ = some (.slice (some ⟨b, o, none⟩) n c) := b4.cell rfl
            have f3 := b4.free 3
            go_upto_region 15 with fail
            have b5 := b4.set 3 (.slice A1 m.length c1)
            have r5 := r4.apart (g' := g) (by omega) 3 (.slice A1 m.length c1)
            have own5 : OwnShrs (w4.setCell ⟨g, 3, none⟩ (.slice A1 m.length c1)) W.heap.size (.slice A1 m.length c1) m := owns_set hown (by omega)
            have hb5 : Below w.heap.size w (w4.setCell ⟨g, 3, none⟩ (.slice A1 m.length c1)) := Below.setCell hbW4 (p := ⟨g, 3, none⟩) (by show _ ≤ g; have := HG.out; omega) _
            change OBox _ g [.int .i64 id, .string room, .int .i64 next, .slice A1 m.length c1] at b5
            generalize w4.setCell ⟨g, 3, none⟩ (.slice A1 m.length c1) = W2 at b5 r5 own5 hb5 ⊢
            clear b4 r4 hbW4 hown k3 f3
            have k0 : W2.cell? ⟨g, 0, none⟩ = some (.int .i64 id) := b5.cell rfl
            have k1 : W2.cell? ⟨g, 1, none⟩ = some (.string room) := b5.cell rfl
            have k2 : W2.cell? ⟨g, 2, none⟩ = some (.int .i64 next) := b5.cell rfl
            have k3 : W2.cell? ⟨g, 3, none⟩ = some (.slice A1 m.length c1) := b5.cell rfl
            have hth := r5.there (n := 4) rfl
            have HT := Lib.hid hth
            have hfin : OwnShrs (putRow W2 (g + 1) [.int .i64 id, .string room, .int .i64 next, .slice A1 m.length c1]) W.heap.size (.slice A1 m.length c1) m := owns_put own5 (by omega)
            obtain ⟨A9, c9, he9, hH, _⟩ := hfin.form hokm
            cases he9
            have HH := Lib.hid hH
            have HP := Lib.hid (below_put (cs := [.int .i64 id, .string room, .int .i64 next, .slice A1 m.length c1]) (g := g + 1) (by have := HG.out; omega) hb5)
            clear hH hfin
            go_wp2_with fail
            refine bodyPost_ret (v := .tuple #[sesA id room next A1 m.length c1, .int .i64 0]) ?_ rfl ⟨HP.out, .inr ⟨HE.out, by rw [HM.out]; exact ⟨A1, c1, rfl, HH.out, hc1⟩⟩⟩
            rw [results_cell_tmp (fn := Try.f13) (p := 6) (q := 7) (ty := 24) rfl _ _ (g + 1) [.int .i64 id, .string room, .int .i64 next, .slice A1 m.length c1] _ ?_ (range_put HT.out) Try.underlying24 rfl (by rw [inf_ses]; rfl)]
            · rfl
            · rfl
          go_region_held3 (fun V => Below wr.heap.size wr V ∧ V.cell? ⟨g, 3, none⟩ = some (.slice (some ⟨b, o, none⟩) n c) ∧ V.cell? ⟨q, 0, none⟩ = some (.string u) ∧ V.cell? ⟨q, 1, none⟩ = some (.string d) ∧ V.cell? ⟨b, o + k * 3, none⟩ = some (.string x.user) ∧ V.cell? ⟨b, o + k * 3 + 1, none⟩ = some (.string x.dev) ∧ V.cell? ⟨b, o + k * 3 + 2, none⟩ = some (.int .i64 x.index))
            (first | exact BX.out _ (by assumption) | exact BX.out _ (Below.drew (by assumption)) | exact BX.out _ (Below.refl _ _) | exact BX.out _ (Below.drew (Below.refl _ _)))
            (first
            | (go_at_call 35; have hB := And.left ‹Below wr.heap.size wr _ ∧ _›; refine (ownerOf_any _ _ _ _).mono ?_; rintro e wz ⟨rfl, bz⟩; have bz2 : Below wr.heap.size wr wz := below_then hB bz; clear bz hB)
            | (go_at_call 34; have hB := And.left ‹Below wr.heap.size wr _ ∧ _›; refine (ahead_any _ _ _ _ _).mono ?_; rw [HA.out]; rintro e wz ⟨rfl, bz⟩; have bz2 : Below wr.heap.size wr wz := below_then hB bz; clear bz hB))
          all_goals go_wp2_with fail
          all_goals go_meet
          all_goals exact ⟨rfl, by assumption⟩
        · have HN := Lib.hid (hpre.succ hux hah)
          have HA : Hid (decide (Ss.ahead (bs u, bs d) (bs x.user, bs x.dev)) = false) := Lib.hid (decide_eq_false hah)
          clear hpre hux hah
          go_upto_region 10 with fail
          go_cut [57] (fun s wy => s = .bool true ∧ Below wr.heap.size wr wy)
          case rest =>
            obtain ⟨rfl, hby⟩ := hcut
            have hbc := hbr.trans (hby.mono hbr.size)
            clear hbr
            go_wp2_with fail
            exact ⟨⟨k + 1, by omega, by go_num, HN.out, hbc⟩, by simp [intOf]; omega⟩
          go_region_held3 (fun V => Below wr.heap.size wr V ∧ V.cell? ⟨g, 3, none⟩ = some (.slice (some ⟨b, o, none⟩) n c) ∧ V.cell? ⟨q, 0, none⟩ = some (.string u) ∧ V.cell? ⟨q, 1, none⟩ = some (.string d) ∧ V.cell? ⟨b, o + k * 3, none⟩ = some (.string x.user) ∧ V.cell? ⟨b, o + k * 3 + 1, none⟩ = some (.string x.dev) ∧ V.cell? ⟨b, o + k * 3 + 2, none⟩ = some (.int .i64 x.index))
            (first | exact BX.out _ (by assumption) | exact BX.out _ (Below.drew (by assumption)) | exact BX.out _ (Below.refl _ _) | exact BX.out _ (Below.drew (Below.refl _ _)))
            (first
            | (go_at_call 35; have hB := And.left ‹Below wr.heap.size wr _ ∧ _›; refine (ownerOf_any _ _ _ _).mono ?_; rintro e wz ⟨rfl, bz⟩; have bz2 : Below wr.heap.size wr wz := below_then hB bz; clear bz hB)
            | (go_at_call 34; have hB := And.left ‹Below wr.heap.size wr _ ∧ _›; refine (ahead_any _ _ _ _ _).mono ?_; rw [HA.out]; rintro e wz ⟨rfl, bz⟩; have bz2 : Below wr.heap.size wr wz := below_then hB bz; clear bz hB))
          all_goals go_wp2_with fail
          all_goals go_meet
          all_goals exact ⟨rfl, by assumption⟩
      · have hltI : decide ((k : Int) < n) = false := decide_eq_false (by omega)
        have hkn : k = n := by omega
        have HSP : Hid (Ss.spot l (bs u, bs d) = k) := Lib.hid ((Ss.spot_end (by have := HL.out; rwa [show l.length = k by omega])).trans (by have := HL.out; omega))
        have HKN := Lib.hid hkn
        have k3 : wr.cell? ⟨g, 3, none⟩ = some (.slice A n c) := bR.cell rfl
        clear hpre hkn
        rcases A with _ | ad
        · go_wp2_with fail
          go_quiet (fail)
          have hbc := below_drewN hbr nq
          go_upto_region 12 with fail
          clear k3
          have bC := bW.on hbc
          have rC := rW.on hbc
          have hbWC := below_then hbW hbc
          have hrC := hrW.on hbc
          obtain ⟨W, hW9⟩ : ∃ W9, W9 = (wr.drewN nq) := ⟨_, rfl⟩
          rw [← hW9] at bC rC hbWC hrC ⊢
          clear hW9 bW rW hbW hrW hbc oW hqW bR oR hrR hbr
          have bW := bC; have rW := rC; have hbW := hbWC; have hrW := hrC
          clear bC rC hbWC hrC
          have hkc : (k : Int) ≤ c := by omega
          have hk0 : (0 : Int) ≤ k := by omega
          have HLR : Hid (Reads W W.heap.size 3 (none : Option Addr) k (Rd.shr.rows (l.take k))) := Lib.hid (Rd.Holds.front hrW hk).1
          have HLD : Hid (Reads W W.heap.size 3 (if c = k then (none : Option Addr) else ((none : Option Addr) : Option Addr).map (·.add (k * 3))) (n - k) (Rd.shr.rows (l.drop k))) := Lib.hid (Rd.Holds.cut hrW (k := k) (cap := c) hk hcap).1
          have k3 : W.cell? ⟨g, 3, none⟩ = some (.slice (none : Option Addr) n c) := bW.cell rfl
          go_wp2_with (at_builtin; refine app_rows rfl (.const (.slice none 0 0)) (.tmp 63) 22 rfl W.heap.size 56 i0 _ 3 40 Try.underlying22 HI.out HZ0.out HZ1.out HZ2.out rfl (by decide) (by decide) _ 0 [] rfl (World.ownsRow_nil _ _ _ _) W.heap.size (none : Option Addr) k c (Rd.shr.rows (l.take k)) rfl HLR.out ?a2y ?a3y ?a4y ?_)
          case a2y => exact Rd.shr.rows_one' _
          case a3y => omega
          try any_goals exact Nat.le_refl _
          intro v2 w2 hown2 hg2
          have hb2 : Below W.heap.size W w2 := (Below.refl _ _).grown hg2 (Nat.le_refl _) (fun j hj => by simp [Value.ownBlock] at hj)
          have hsz2 := hb2.size
          have b2 := bW.on hb2
          clear k3
          have k2 : w2.cell? ⟨g, 2, none⟩ = some (.int .i64 next) := b2.cell rfl
          go_wp2_with (at_builtin; refine app_rows rfl (.tmp 65) (.tmp 71) 22 rfl W.heap.size 56 i0 _ 3 40 Try.underlying22 HI.out HZ0.out HZ1.out HZ2.out rfl (by decide) (by decide) _ _ _ rfl (World.ownsRow.alloc hown2 _) (w2.heap.size + 1) (some ⟨w2.heap.size, 0, none⟩) 1 1 [.string u, .string d, .int .i64 next] rfl ?b1y ?b2y ?b3y ?b4y ?_)
          case b1y => exact ⟨rfl, fun _ => ⟨_, rfl, Nat.lt_succ_self _, World.news_of_block (cs := #[.string u, .string d, .int .i64 next]) (t := 56) (fr := (0, 0)) (heap_alloc_new _ _)⟩⟩
          case b2y => simp [Value.oneCell']
          case b3y => omega
          case b4y => simp; omega
          intro v3 w3 hown3 hg3
          have hb3 : Below W.heap.size W w3 := (below_alloc hb2 _).grown hg3 (by simp; omega) (fun j hj => (World.ownsRow.lt hown2 _ hj).1)
          have hsz3 := hb3.size
          have b3 := bW.on hb3
          have r3 := rW.on hb3
          have hgW := bW.lt
          have hrg := rW.lt
          clear k2 hown2 hg2 hg3 b2
          have k3 : w3.cell? ⟨g, 3, none⟩ = some (.slice (none : Option Addr) n c) := b3.cell rfl
          have f3 := b3.free 3
          have hbW3 := below_then hbW hb3
          by_cases hck : c = k
          · have h1 := HLD.out
            rw [if_pos hck] at h1
            have hnk : n = k := by omega
            have hR := Reads.below h1 hb3
            have hn0 : n - k = 0 := by omega
            have hd0 : l.drop k = [] := List.drop_of_length_le (by have := HL.out; omega)
            rw [hn0, hd0] at hR
            have HR := Lib.hid hR
            clear h1 hd0 hR hn0
            subst hck
            subst hnk
            go_wp2_with (at_builtin; refine app_rows rfl (.tmp 73) (.tmp 77) 22 rfl W.heap.size 56 i0 _ 3 40 Try.underlying22 HI.out HZ0.out HZ1.out HZ2.out rfl (by decide) (by decide) _ _ _ rfl hown3 W.heap.size (none : Option Addr) 0 0 (Rd.shr.rows []) rfl HR.out ?f1y ?f2y ?f3y ?_)
            case f1y => exact Rd.shr.rows_one' _
            case f2y => omega
            try any_goals exact hb3.size
            intro v4 w4 hown4 hg4
            have hb4 : Below W.heap.size W w4 := hb3.grown hg4 hb3.size (fun j hj => (World.ownsRow.lt hown3 _ hj).1)
            have hown : OwnShrs w4 W.heap.size v4 (Ss.put l ⟨u, d, next⟩) := own_put_end HL.out HSP.out hown4
            have b4 := bW.on hb4
            have r4 := rW.on hb4
            have hbW4 := below_then hbW hb4
            clear k3 f3 b3 r3 hown3 hown4 hg4 hb3 hbW3
            obtain ⟨m, hm⟩ : ∃ m, Ss.put l ⟨u, d, next⟩ = m := ⟨_, rfl⟩
            have hokm : ShrOk m := by rw [← hm]; exact put_ok HOK.out ⟨hu, hd, HNX.out⟩
            have HM := Lib.hid hm
            rw [hm] at hown
            clear hm
            obtain ⟨A1, c1, rfl, _, hc1⟩ := hown.form hokm
            have k3 : w4.cell? ⟨g, 3, none⟩ = some (.slice (none : Option Addr) n n) := b4.cell rfl
            have f3 := b4.free 3
            go_upto_region 15 with fail
            have b5 := b4.set 3 (.slice A1 m.length c1)
            have r5 := r4.apart (g' := g) (by omega) 3 (.slice A1 m.length c1)
            have own5 : OwnShrs (w4.setCell ⟨g, 3, none⟩ (.slice A1 m.length c1)) W.heap.size (.slice A1 m.length c1) m := owns_set hown (by omega)
            have hb5 : Below w.heap.size w (w4.setCell ⟨g, 3, none⟩ (.slice A1 m.length c1)) := Below.setCell hbW4 (p := ⟨g, 3, none⟩) (by show _ ≤ g; have := HG.out; omega) _
            change OBox _ g [.int .i64 id, .string room, .int .i64 next, .slice A1 m.length c1] at b5
            generalize w4.setCell ⟨g, 3, none⟩ (.slice A1 m.length c1) = W2 at b5 r5 own5 hb5 ⊢
            clear b4 r4 hbW4 hown k3 f3
            have k0 : W2.cell? ⟨g, 0, none⟩ = some (.int .i64 id) := b5.cell rfl
            have k1 : W2.cell? ⟨g, 1, none⟩ = some (.string room) := b5.cell rfl
            have k2 : W2.cell? ⟨g, 2, none⟩ = some (.int .i64 next) := b5.cell rfl
            have k3 : W2.cell? ⟨g, 3, none⟩ = some (.slice A1 m.length c1) := b5.cell rfl
            have hth := r5.there (n := 4) rfl
            have HT := Lib.hid hth
            have hfin : OwnShrs (putRow W2 (g + 1) [.int .i64 id, .string room, .int .i64 next, .slice A1 m.length c1]) W.heap.size (.slice A1 m.length c1) m := owns_put own5 (by omega)
            obtain ⟨A9, c9, he9, hH, _⟩ := hfin.form hokm
            cases he9
            have HH := Lib.hid hH
            have HP := Lib.hid (below_put (cs := [.int .i64 id, .string room, .int .i64 next, .slice A1 m.length c1]) (g := g + 1) (by have := HG.out; omega) hb5)
            clear hH hfin
            go_wp2_with fail
            refine bodyPost_ret (v := .tuple #[sesA id room next A1 m.length c1, .int .i64 0]) ?_ rfl ⟨HP.out, .inr ⟨HE.out, by rw [HM.out]; exact ⟨A1, c1, rfl, HH.out, hc1⟩⟩⟩
            rw [results_cell_tmp (fn := Try.f13) (p := 6) (q := 7) (ty := 24) rfl _ _ (g + 1) [.int .i64 id, .string room, .int .i64 next, .slice A1 m.length c1] _ ?_ (range_put HT.out) Try.underlying24 rfl (by rw [inf_ses]; rfl)]
            · rfl
            · rfl
          · have h1 := HLD.out
            rw [if_neg hck] at h1
            have HR := Lib.hid (Reads.below h1 hb3)
            clear h1
            go_wp2_with (at_builtin; refine app_rows rfl (.tmp 73) (.tmp 77) 22 rfl W.heap.size 56 i0 _ 3 40 Try.underlying22 HI.out HZ0.out HZ1.out HZ2.out rfl (by decide) (by decide) _ _ _ rfl hown3 W.heap.size (((none : Option Addr) : Option Addr).map (·.add (k * 3))) (n - k) (c - k) (Rd.shr.rows (l.drop k)) rfl HR.out ?e1y ?e2y ?e3y ?_)
            case e1y => exact Rd.shr.rows_one' _
            case e2y => omega
            try any_goals exact hb3.size
            intro v4 w4 hown4 hg4
            have hb4 : Below W.heap.size W w4 := hb3.grown hg4 hb3.size (fun j hj => (World.ownsRow.lt hown3 _ hj).1)
            have hown : OwnShrs w4 W.heap.size v4 (Ss.put l ⟨u, d, next⟩) := own_put HL.out hk HSP.out hown4
            have b4 := bW.on hb4
            have r4 := rW.on hb4
            have hbW4 := below_then hbW hb4
            clear k3 f3 b3 r3 hown3 hown4 hg4 hb3 hbW3
            obtain ⟨m, hm⟩ : ∃ m, Ss.put l ⟨u, d, next⟩ = m := ⟨_, rfl⟩
            have hokm : ShrOk m := by rw [← hm]; exact put_ok HOK.out ⟨hu, hd, HNX.out⟩
            have HM := Lib.hid hm
            rw [hm] at hown
            clear hm
            obtain ⟨A1, c1, rfl, _, hc1⟩ := hown.form hokm
            have k3 : w4.cell? ⟨g, 3, none⟩ = some (.slice (none : Option Addr) n c) := b4.cell rfl
            have f3 := b4.free 3
            go_upto_region 15 with fail
            have b5 := b4.set 3 (.slice A1 m.length c1)
            have r5 := r4.apart (g' := g) (by omega) 3 (.slice A1 m.length c1)
            have own5 : OwnShrs (w4.setCell ⟨g, 3, none⟩ (.slice A1 m.length c1)) W.heap.size (.slice A1 m.length c1) m := owns_set hown (by omega)
            have hb5 : Below w.heap.size w (w4.setCell ⟨g, 3, none⟩ (.slice A1 m.length c1)) := Below.setCell hbW4 (p := ⟨g, 3, none⟩) (by show _ ≤ g; have := HG.out; omega) _
            change OBox _ g [.int .i64 id, .string room, .int .i64 next, .slice A1 m.length c1] at b5
            generalize w4.setCell ⟨g, 3, none⟩ (.slice A1 m.length c1) = W2 at b5 r5 own5 hb5 ⊢
            clear b4 r4 hbW4 hown k3 f3
            have k0 : W2.cell? ⟨g, 0, none⟩ = some (.int .i64 id) := b5.cell rfl
            have k1 : W2.cell? ⟨g, 1, none⟩ = some (.string room) := b5.cell rfl
            have k2 : W2.cell? ⟨g, 2, none⟩ = some (.int .i64 next) := b5.cell rfl
            have k3 : W2.cell? ⟨g, 3, none⟩ = some (.slice A1 m.length c1) := b5.cell rfl
            have hth := r5.there (n := 4) rfl
            have HT := Lib.hid hth
            have hfin : OwnShrs (putRow W2 (g + 1) [.int .i64 id, .string room, .int .i64 next, .slice A1 m.length c1]) W.heap.size (.slice A1 m.length c1) m := owns_put own5 (by omega)
            obtain ⟨A9, c9, he9, hH, _⟩ := hfin.form hokm
            cases he9
            have HH := Lib.hid hH
            have HP := Lib.hid (below_put (cs := [.int .i64 id, .string room, .int .i64 next, .slice A1 m.length c1]) (g := g + 1) (by have := HG.out; omega) hb5)
            clear hH hfin
            go_wp2_with fail
            refine bodyPost_ret (v := .tuple #[sesA id room next A1 m.length c1, .int .i64 0]) ?_ rfl ⟨HP.out, .inr ⟨HE.out, by rw [HM.out]; exact ⟨A1, c1, rfl, HH.out, hc1⟩⟩⟩
            rw [results_cell_tmp (fn := Try.f13) (p := 6) (q := 7) (ty := 24) rfl _ _ (g + 1) [.int .i64 id, .string room, .int .i64 next, .slice A1 m.length c1] _ ?_ (range_put HT.out) Try.underlying24 rfl (by rw [inf_ses]; rfl)]
            · rfl
            · rfl
        · go_wp2_with fail
          go_quiet (fail)
          have hbc := below_drewN hbr nq
          go_upto_region 12 with fail
          clear k3
          have bC := bW.on hbc
          have rC := rW.on hbc
          have hbWC := below_then hbW hbc
          have hrC := hrW.on hbc
          obtain ⟨W, hW9⟩ : ∃ W9, W9 = (wr.drewN nq) := ⟨_, rfl⟩
          rw [← hW9] at bC rC hbWC hrC ⊢
          clear hW9 bW rW hbW hrW hbc oW hqW bR oR hrR hbr
          have bW := bC; have rW := rC; have hbW := hbWC; have hrW := hrC
          clear bC rC hbWC hrC
          have hkc : (k : Int) ≤ c := by omega
          have hk0 : (0 : Int) ≤ k := by omega
          have HLR : Hid (Reads W W.heap.size 3 (some ad) k (Rd.shr.rows (l.take k))) := Lib.hid (Rd.Holds.front hrW hk).1
          have HLD : Hid (Reads W W.heap.size 3 (if c = k then (some ad) else ((some ad) : Option Addr).map (·.add (k * 3))) (n - k) (Rd.shr.rows (l.drop k))) := Lib.hid (Rd.Holds.cut hrW (k := k) (cap := c) hk hcap).1
          have k3 : W.cell? ⟨g, 3, none⟩ = some (.slice (some ad) n c) := bW.cell rfl
          go_wp2_with (at_builtin; refine app_rows rfl (.const (.slice none 0 0)) (.tmp 63) 22 rfl W.heap.size 56 i0 _ 3 40 Try.underlying22 HI.out HZ0.out HZ1.out HZ2.out rfl (by decide) (by decide) _ 0 [] rfl (World.ownsRow_nil _ _ _ _) W.heap.size (some ad) k c (Rd.shr.rows (l.take k)) rfl HLR.out ?a2z ?a3z ?a4z ?_)
          case a2z => exact Rd.shr.rows_one' _
          case a3z => omega
          try any_goals exact Nat.le_refl _
          intro v2 w2 hown2 hg2
          have hb2 : Below W.heap.size W w2 := (Below.refl _ _).grown hg2 (Nat.le_refl _) (fun j hj => by simp [Value.ownBlock] at hj)
          have hsz2 := hb2.size
          have b2 := bW.on hb2
          clear k3
          have k2 : w2.cell? ⟨g, 2, none⟩ = some (.int .i64 next) := b2.cell rfl
          go_wp2_with (at_builtin; refine app_rows rfl (.tmp 65) (.tmp 71) 22 rfl W.heap.size 56 i0 _ 3 40 Try.underlying22 HI.out HZ0.out HZ1.out HZ2.out rfl (by decide) (by decide) _ _ _ rfl (World.ownsRow.alloc hown2 _) (w2.heap.size + 1) (some ⟨w2.heap.size, 0, none⟩) 1 1 [.string u, .string d, .int .i64 next] rfl ?b1z ?b2z ?b3z ?b4z ?_)
          case b1z => exact ⟨rfl, fun _ => ⟨_, rfl, Nat.lt_succ_self _, World.news_of_block (cs := #[.string u, .string d, .int .i64 next]) (t := 56) (fr := (0, 0)) (heap_alloc_new _ _)⟩⟩
          case b2z => simp [Value.oneCell']
          case b3z => omega
          case b4z => simp; omega
          intro v3 w3 hown3 hg3
          have hb3 : Below W.heap.size W w3 := (below_alloc hb2 _).grown hg3 (by simp; omega) (fun j hj => (World.ownsRow.lt hown2 _ hj).1)
          have hsz3 := hb3.size
          have b3 := bW.on hb3
          have r3 := rW.on hb3
          have hgW := bW.lt
          have hrg := rW.lt
          clear k2 hown2 hg2 hg3 b2
          have k3 : w3.cell? ⟨g, 3, none⟩ = some (.slice (some ad) n c) := b3.cell rfl
          have f3 := b3.free 3
          have hbW3 := below_then hbW hb3
          by_cases hck : c = k
          · have h1 := HLD.out
            rw [if_pos hck] at h1
            have hnk : n = k := by omega
            have hR := Reads.below h1 hb3
            have hn0 : n - k = 0 := by omega
            have hd0 : l.drop k = [] := List.drop_of_length_le (by have := HL.out; omega)
            rw [hn0, hd0] at hR
            have HR := Lib.hid hR
            clear h1 hd0 hR hn0
            subst hck
            subst hnk
            go_wp2_with (at_builtin; refine app_rows rfl (.tmp 73) (.tmp 77) 22 rfl W.heap.size 56 i0 _ 3 40 Try.underlying22 HI.out HZ0.out HZ1.out HZ2.out rfl (by decide) (by decide) _ _ _ rfl hown3 W.heap.size (some ad) 0 0 (Rd.shr.rows []) rfl HR.out ?f1z ?f2z ?f3z ?_)
            case f1z => exact Rd.shr.rows_one' _
            case f2z => omega
            try any_goals exact hb3.size
            intro v4 w4 hown4 hg4
            have hb4 : Below W.heap.size W w4 := hb3.grown hg4 hb3.size (fun j hj => (World.ownsRow.lt hown3 _ hj).1)
            have hown : OwnShrs w4 W.heap.size v4 (Ss.put l ⟨u, d, next⟩) := own_put_end HL.out HSP.out hown4
            have b4 := bW.on hb4
            have r4 := rW.on hb4
            have hbW4 := below_then hbW hb4
            clear k3 f3 b3 r3 hown3 hown4 hg4 hb3 hbW3
            obtain ⟨m, hm⟩ : ∃ m, Ss.put l ⟨u, d, next⟩ = m := ⟨_, rfl⟩
            have hokm : ShrOk m := by rw [← hm]; exact put_ok HOK.out ⟨hu, hd, HNX.out⟩
            have HM := Lib.hid hm
            rw [hm] at hown
            clear hm
            obtain ⟨A1, c1, rfl, _, hc1⟩ := hown.form hokm
            have k3 : w4.cell? ⟨g, 3, none⟩ = some (.slice (some ad) n n) := b4.cell rfl
            have f3 := b4.free 3
            go_upto_region 15 with fail
            have b5 := b4.set 3 (.slice A1 m.length c1)
            have r5 := r4.apart (g' := g) (by omega) 3 (.slice A1 m.length c1)
            have own5 : OwnShrs (w4.setCell ⟨g, 3, none⟩ (.slice A1 m.length c1)) W.heap.size (.slice A1 m.length c1) m := owns_set hown (by omega)
            have hb5 : Below w.heap.size w (w4.setCell ⟨g, 3, none⟩ (.slice A1 m.length c1)) := Below.setCell hbW4 (p := ⟨g, 3, none⟩) (by show _ ≤ g; have := HG.out; omega) _
            change OBox _ g [.int .i64 id, .string room, .int .i64 next, .slice A1 m.length c1] at b5
            generalize w4.setCell ⟨g, 3, none⟩ (.slice A1 m.length c1) = W2 at b5 r5 own5 hb5 ⊢
            clear b4 r4 hbW4 hown k3 f3
            have k0 : W2.cell? ⟨g, 0, none⟩ = some (.int .i64 id) := b5.cell rfl
            have k1 : W2.cell? ⟨g, 1, none⟩ = some (.string room) := b5.cell rfl
            have k2 : W2.cell? ⟨g, 2, none⟩ = some (.int .i64 next) := b5.cell rfl
            have k3 : W2.cell? ⟨g, 3, none⟩ = some (.slice A1 m.length c1) := b5.cell rfl
            have hth := r5.there (n := 4) rfl
            have HT := Lib.hid hth
            have hfin : OwnShrs (putRow W2 (g + 1) [.int .i64 id, .string room, .int .i64 next, .slice A1 m.length c1]) W.heap.size (.slice A1 m.length c1) m := owns_put own5 (by omega)
            obtain ⟨A9, c9, he9, hH, _⟩ := hfin.form hokm
            cases he9
            have HH := Lib.hid hH
            have HP := Lib.hid (below_put (cs := [.int .i64 id, .string room, .int .i64 next, .slice A1 m.length c1]) (g := g + 1) (by have := HG.out; omega) hb5)
            clear hH hfin
            go_wp2_with fail
            refine bodyPost_ret (v := .tuple #[sesA id room next A1 m.length c1, .int .i64 0]) ?_ rfl ⟨HP.out, .inr ⟨HE.out, by rw [HM.out]; exact ⟨A1, c1, rfl, HH.out, hc1⟩⟩⟩
            rw [results_cell_tmp (fn := Try.f13) (p := 6) (q := 7) (ty := 24) rfl _ _ (g + 1) [.int .i64 id, .string room, .int .i64 next, .slice A1 m.length c1] _ ?_ (range_put HT.out) Try.underlying24 rfl (by rw [inf_ses]; rfl)]
            · rfl
            · rfl
          · have h1 := HLD.out
            rw [if_neg hck] at h1
            have HR := Lib.hid (Reads.below h1 hb3)
            clear h1
            go_wp2_with (at_builtin; refine app_rows rfl (.tmp 73) (.tmp 77) 22 rfl W.heap.size 56 i0 _ 3 40 Try.underlying22 HI.out HZ0.out HZ1.out HZ2.out rfl (by decide) (by decide) _ _ _ rfl hown3 W.heap.size (((some ad) : Option Addr).map (·.add (k * 3))) (n - k) (c - k) (Rd.shr.rows (l.drop k)) rfl HR.out ?e1z ?e2z ?e3z ?_)
            case e1z => exact Rd.shr.rows_one' _
            case e2z => omega
            try any_goals exact hb3.size
            intro v4 w4 hown4 hg4
            have hb4 : Below W.heap.size W w4 := hb3.grown hg4 hb3.size (fun j hj => (World.ownsRow.lt hown3 _ hj).1)
            have hown : OwnShrs w4 W.heap.size v4 (Ss.put l ⟨u, d, next⟩) := own_put HL.out hk HSP.out hown4
            have b4 := bW.on hb4
            have r4 := rW.on hb4
            have hbW4 := below_then hbW hb4
            clear k3 f3 b3 r3 hown3 hown4 hg4 hb3 hbW3
            obtain ⟨m, hm⟩ : ∃ m, Ss.put l ⟨u, d, next⟩ = m := ⟨_, rfl⟩
            have hokm : ShrOk m := by rw [← hm]; exact put_ok HOK.out ⟨hu, hd, HNX.out⟩
            have HM := Lib.hid hm
            rw [hm] at hown
            clear hm
            obtain ⟨A1, c1, rfl, _, hc1⟩ := hown.form hokm
            have k3 : w4.cell? ⟨g, 3, none⟩ = some (.slice (some ad) n c) := b4.cell rfl
            have f3 := b4.free 3
            go_upto_region 15 with fail
            have b5 := b4.set 3 (.slice A1 m.length c1)
            have r5 := r4.apart (g' := g) (by omega) 3 (.slice A1 m.length c1)
            have own5 : OwnShrs (w4.setCell ⟨g, 3, none⟩ (.slice A1 m.length c1)) W.heap.size (.slice A1 m.length c1) m := owns_set hown (by omega)
            have hb5 : Below w.heap.size w (w4.setCell ⟨g, 3, none⟩ (.slice A1 m.length c1)) := Below.setCell hbW4 (p := ⟨g, 3, none⟩) (by show _ ≤ g; have := HG.out; omega) _
            change OBox _ g [.int .i64 id, .string room, .int .i64 next, .slice A1 m.length c1] at b5
            generalize w4.setCell ⟨g, 3, none⟩ (.slice A1 m.length c1) = W2 at b5 r5 own5 hb5 ⊢
            clear b4 r4 hbW4 hown k3 f3
            have k0 : W2.cell? ⟨g, 0, none⟩ = some (.int .i64 id) := b5.cell rfl
            have k1 : W2.cell? ⟨g, 1, none⟩ = some (.string room) := b5.cell rfl
            have k2 : W2.cell? ⟨g, 2, none⟩ = some (.int .i64 next) := b5.cell rfl
            have k3 : W2.cell? ⟨g, 3, none⟩ = some (.slice A1 m.length c1) := b5.cell rfl
            have hth := r5.there (n := 4) rfl
            have HT := Lib.hid hth
            have hfin : OwnShrs (putRow W2 (g + 1) [.int .i64 id, .string room, .int .i64 next, .slice A1 m.length c1]) W.heap.size (.slice A1 m.length c1) m := owns_put own5 (by omega)
            obtain ⟨A9, c9, he9, hH, _⟩ := hfin.form hokm
            cases he9
            have HH := Lib.hid hH
            have HP := Lib.hid (below_put (cs := [.int .i64 id, .string room, .int .i64 next, .slice A1 m.length c1]) (g := g + 1) (by have := HG.out; omega) hb5)
            clear hH hfin
            go_wp2_with fail
            refine bodyPost_ret (v := .tuple #[sesA id room next A1 m.length c1, .int .i64 0]) ?_ rfl ⟨HP.out, .inr ⟨HE.out, by rw [HM.out]; exact ⟨A1, c1, rfl, HH.out, hc1⟩⟩⟩
            rw [results_cell_tmp (fn := Try.f13) (p := 6) (q := 7) (ty := 24) rfl _ _ (g + 1) [.int .i64 id, .string room, .int .i64 next, .slice A1 m.length c1] _ ?_ (range_put HT.out) Try.underlying24 rfl (by rw [inf_ses]; rfl)]
            · rfl
            · rfl
end Go.Proofs.Ytnbgcjangoiodaa
