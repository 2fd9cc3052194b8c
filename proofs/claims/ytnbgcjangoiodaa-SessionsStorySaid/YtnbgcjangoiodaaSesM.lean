/-
  The walk through Renew of the program; what a struct laid into a box leaves alone.
-/
import Derived.Test.YtnbgcjangoiodaaSesN
namespace Go.Proofs.Ytnbgcjangoiodaa
open Go.RowKit
attribute [local go_sem ↓] ex_st_shr ex_st_own ex_st_ses
attribute [local go_sem] st_shr_new st_shr st_own_new st_ses_new st_ses

theorem setCells_box {g : Nat} {t : TypeId} : ∀ (cs : List Value) (o : Nat) (w : World) (xs : List Value), w.heap[g]? = some (.cells xs.toArray t (0, 0)) → o + cs.length ≤ xs.length →
    (w.setCells g o cs).heap[g]? = some (.cells (xs.take o ++ cs ++ xs.drop (o + cs.length)).toArray t (0, 0))
  | [], o, w, xs, h, _ => by
    show w.heap[g]? = _
    rw [h]; simp
  | c :: cs, o, w, xs, h, hl => by
    have h1 := heap_setCell_same w g o xs.toArray t c h
    have h2 := setCells_box cs (o + 1) (w.setCell ⟨g, o, none⟩ c) (xs.set o c) (by simpa using h1) (by simp only [List.length_set, List.length_cons] at *; omega)
    show ((w.setCell ⟨g, o, none⟩ c).setCells g (o + 1) cs).heap[g]? = _
    rw [h2]
    have ho : o < xs.length := by simp only [List.length_cons] at hl; omega
    congr 3
    have e1 : (xs.set o c).take (o + 1) = xs.take o ++ [c] := by
      rw [List.take_set, List.take_succ_eq_append_getElem ho]
      rw [List.set_append_right _ _ (by simp; omega)]
      simp [Nat.min_eq_left (Nat.le_of_lt ho)]
    have e2 : (xs.set o c).drop (o + 1 + cs.length) = xs.drop (o + (c :: cs).length) := by
      rw [List.drop_set_of_lt (by omega)]
      congr 1
      simp only [List.length_cons]; omega
    rw [e1, e2]
    simp
theorem OBox.put {w : World} {g : Nat} {xs cs : List Value} (h : OBox w g xs) (hl : cs.length = xs.length) : OBox (putRow w g cs) g cs := by
  obtain ⟨t, h⟩ := h
  refine ⟨t, ?_⟩
  unfold putRow
  have := setCells_box cs 0 w xs h (by omega)
  rw [this]
  simp [hl]
theorem OBox.putOther {w : World} {g g' : Nat} {xs cs : List Value} (h : OBox w g xs) (hne : g ≠ g') : OBox (putRow w g' cs) g xs := h.other (heap_putRow_other w g' cs g hne)
theorem setCells_size : ∀ (cs : List Value) (o : Nat) (w : World) (g : Nat), w.heap.size ≤ (w.setCells g o cs).heap.size
  | [], _, _, _ => Nat.le_refl _
  | v :: cs, o, w, g => Nat.le_trans (setCell_size w ⟨g, o, none⟩ v) (setCells_size cs (o + 1) _ g)
theorem putRow_size (w : World) (g : Nat) (cs : List Value) : w.heap.size ≤ (putRow w g cs).heap.size := by unfold putRow; exact setCells_size cs 0 w g

/-- shares do not lie in a session's box -/
theorem shr_apart {w : World} {g : Nat} {A : Option Addr} {n : Nat} {l : List Shr} {i x : Int} {r : ByteArray} {A' : Option Addr} {n' c' : Nat} (h : Rd.shr.Holds w A n l) (hb : OBox w g [.int .i64 i, .string r, .int .i64 x, .slice A' n' c']) (cs : List Value) : Rd.shr.Holds (putRow w g cs) A n l := by
  rcases Nat.eq_zero_or_pos n with h0 | h0
  · subst h0
    exact ⟨⟨h.1.1, fun h1 => absurd h1 (by omega)⟩, h.2.1, fun x hx => h.2.2 x hx⟩
  · obtain ⟨b, o, y, rfl, hbl, _, _, _, hya⟩ := h.mid (by decide) h0
    have y0 : w.cell? ⟨b, o + 0 * 3, none⟩ = some (.string y.user) := hya 0 _ rfl
    have y1 : w.cell? ⟨b, o + 0 * 3 + 1, none⟩ = some (.string y.dev) := hya 1 _ rfl
    have hne : b ≠ g := by
      intro e
      subst e
      obtain ⟨t, hg⟩ := hb
      rw [cell_of_row w b _ _ _ _ hg] at y0 y1
      rw [Nat.zero_mul, Nat.add_zero] at y0 y1
      match o, y0, y1 with
      | 0, y0, _ => simp at y0
      | 1, _, y1 => simp at y1
      | 2, y0, _ => simp at y0
      | 3, y0, _ => simp at y0
      | k + 4, y0, _ => simp at y0
    refine ⟨⟨h.1.1, fun h1 => ?_⟩, h.2.1, fun x hx => h.2.2 x hx⟩
    obtain ⟨ad, he, hl, hc⟩ := h.1.2 h1
    cases he
    refine ⟨_, rfl, ?_, fun j u hj => ?_⟩
    · exact Nat.lt_of_lt_of_le hl (putRow_size w g cs)
    · rw [← hc j u hj]
      refine World.cell?_of_block ?_
      rw [block_of_add]
      exact heap_putRow_other w g cs b hne
/-- what Renew leaves -/
def RenewP (w : World) (id : Int) (room : ByteArray) (S : List Shr) (e : Ending) (w' : World) : Prop :=
  Below w.heap.size w w' ∧ ∃ A1 c1 A2 c2, e = .returned (.tuple #[sesA id room 0 A1 S.length c1, .slice A2 S.length c2]) ∧ Rd.shr.Holds w' A1 S.length S ∧ S.length ≤ c1 ∧ Rd.shr.Holds w' A2 S.length S ∧ S.length ≤ c2
theorem shs_length (l : List Ss.D) (i : Int) : (Ss.shs l i).length = l.length := by simp [Ss.shs]
/-- the devices' names are strings of Go -/
theorem own_ok {w : World} {ms : List ByteArray} {ks : List Kys} {B : Option Addr} {m : Nat} (hx : ∀ x ∈ ms, x.size ≤ maxLen) (hk : Rd.kys.Holds w B m ks) : ∀ a ∈ Ss.own (bss ms) ks, a.1.length ≤ maxLen ∧ a.2.length ≤ maxLen := fun a ha => by
  refine ⟨?_, ?_⟩
  · obtain ⟨x, hx2, he⟩ := List.mem_map.1 (Ss.mem_own ha)
    rw [← he, size_list]; exact hx x hx2
  · unfold Ss.own at ha
    obtain ⟨u, _, ha2⟩ := List.mem_flatMap.1 ha
    unfold Ss.devsOf at ha2
    split at ha2
    · rename_i k hkk
      unfold Ss.devs at ha2
      obtain ⟨i, hi, rfl⟩ := List.mem_map.1 ha2
      have hi2 := (Nm.mem_names _ _).1 hi
      obtain ⟨dv, hdv, rfl⟩ := List.mem_map.1 hi2
      have hm : k ∈ ks := List.mem_of_find?_eq_some hkk
      rw [size_list]
      exact dvc_id ((kys_dev (hk.2.2 k hm)).2.2 dv hdv)
    · cases ha2
theorem shs_ok {l : List Ss.D} {i : Int} (hi : -9223372036854775808 ≤ i ∧ i ≤ 9223372036854775807) (h : ∀ a ∈ l, a.1.length ≤ maxLen ∧ a.2.length ≤ maxLen) : ShrOk (Ss.shs l i) := fun x hx => by
  obtain ⟨a, ha, rfl⟩ := List.mem_map.1 hx
  have e : ∀ b : List UInt8, (mkB b).size = b.length := fun b => by rw [← size_list]; exact congrArg List.length (bs_mkB b)
  exact ⟨by show (mkB a.1).size ≤ _; rw [e]; exact (h a ha).1, by show (mkB a.2).size ≤ _; rw [e]; exact (h a ha).2, hi⟩

set_option maxRecDepth 100000 in
set_option maxHeartbeats 4000000 in
theorem renew_any (id0 : Int) (room : ByteArray) (next : Int) (A : Option Addr) (n c : Nat) (A2 : Option Addr) (n2 c2 : Nat) (ms : List ByteArray) (B : Option Addr) (m d : Nat) (ks : List Kys) (id : Int) (w : World)
    (hr : Strs w A2 n2 ms) (hn2 : n2 ≤ 30) (hx : ∀ x ∈ ms, x.size ≤ maxLen) (hk : Rd.kys.Holds w B m ks) (hf : Few ks) :
    Calls Try.prog 27 #[sesA id0 room next A n c, .slice A2 n2 c2, .slice B m d, .int .i64 id] w (RenewP w id room (Ss.shs (Ss.own (bss ms) ks) 0)) := by
  obtain ⟨i0, hi, hz0, hz1, hz2⟩ := info_parts infoShr
  have HI := Lib.hid hi; have HZ0 := Lib.hid hz0; have HZ1 := Lib.hid hz1; have HZ2 := Lib.hid hz2
  clear hi hz0 hz1 hz2
  have hL900 : (Ss.own (bss ms) ks).length ≤ 900 := Ss.own_length (by rw [List.length_map]; have := hr.length; omega) hk hf
  have HOK := Lib.hid (shs_ok (i := 0) (by omega) (own_ok hx hk))
  obtain ⟨wa, hwa⟩ : ∃ wa : World, wa = (w.alloc (.cells #[.int .i64 id0, .string room, .int .i64 next, .slice A n c] 24)).alloc (.cells #[.int .i64 0, .string ⟨#[]⟩, .int .i64 0, .slice none 0 0] 24) := ⟨_, rfl⟩
  have hba : Below w.heap.size w wa := by rw [hwa]; exact below_alloc (below_alloc (Below.refl _ _) _) _
  have b0 : OBox wa w.heap.size [.int .i64 id0, .string room, .int .i64 next, .slice A n c] := by rw [hwa]; exact (OBox.new w [.int .i64 id0, .string room, .int .i64 next, .slice A n c] _).on (below_alloc (Below.refl _ _) _)
  have r0 : OBox wa (w.heap.size + 1) [.int .i64 0, .string ⟨#[]⟩, .int .i64 0, .slice none 0 0] := by rw [hwa]; simpa using OBox.new (w.alloc (.cells #[.int .i64 id0, .string room, .int .i64 next, .slice A n c] 24)) [.int .i64 0, .string ⟨#[]⟩, .int .i64 0, .slice none 0 0] 24
  go_enter Try.func27, Try.ntmps27
  go_upto_region 1 with fail
  rw [← hwa]
  have HW := Lib.hid hwa; clear hwa
  obtain ⟨g, hg⟩ : ∃ g, w.heap.size = g := ⟨_, rfl⟩
  rw [hg] at b0 r0 ⊢
  have HG := Lib.hid hg
  clear hg
  have k1 : wa.cell? ⟨g, 1, none⟩ = some (.string room) := b0.cell rfl
  go_upto_region 2 with fail
  have bp := OBox.new wa [.int .i64 id, .string room, .int .i64 0, .slice none 0 0] 24
  have hbp := below_alloc (Below.refl wa.heap.size wa) (.cells #[.int .i64 id, .string room, .int .i64 0, .slice none 0 0] 24)
  change OBox (wa.alloc (.cells #[.int .i64 id, .string room, .int .i64 0, .slice none 0 0] 24)) _ _ at bp
  generalize wa.alloc (.cells #[.int .i64 id, .string room, .int .i64 0, .slice none 0 0] 24) = wx at bp hbp ⊢
  have hbx := below_then hba hbp
  have rx := r0.on hbp
  have hrg := r0.lt
  obtain ⟨p, hp⟩ : ∃ p, wa.heap.size = p := ⟨_, rfl⟩
  rw [hp] at bp hrg ⊢
  clear hp k1 b0 r0 hba hbp
  have hpx := bp.lt
  have k0 : wx.cell? ⟨p, 0, none⟩ = some (.int .i64 id) := bp.cell rfl
  have k1 : wx.cell? ⟨p, 1, none⟩ = some (.string room) := bp.cell rfl
  have k2 : wx.cell? ⟨p, 2, none⟩ = some (.int .i64 0) := bp.cell rfl
  have k3 : wx.cell? ⟨p, 3, none⟩ = some (.slice none 0 0) := bp.cell rfl
  go_wp2_with fail
  refine (wants_any id room 0 none 0 0 [] A2 n2 c2 ms B m d ks wx Rd.Holds.none_ (by omega) (hr.on hbx) hn2 hx (hk.on hbx) hf).mono ?_
  rintro e w3 ⟨v3, rfl, bb3, own3⟩
  rw [show Ss.wants [] 0 (Ss.own (bss ms) ks) = Ss.shs (Ss.own (bss ms) ks) 0 from congrArg (fun L => Ss.shs L 0) (Ss.lack_nil _)] at own3
  obtain ⟨S, hS⟩ : ∃ S, S = Ss.shs (Ss.own (bss ms) ks) 0 := ⟨_, rfl⟩
  have hSl : S.length ≤ 900 := by rw [hS, shs_length]; exact hL900
  rw [← hS] at own3 HOK ⊢
  obtain ⟨A3, c3, rfl, hH3, hc3⟩ := own3.form HOK.out
  have OWN3 := Lib.hid own3
  have bp3 := bp.on bb3
  have rx3 := rx.on bb3
  have hb3 := below_then hbx bb3
  have hsz3 := bb3.size
  have HRD := Lib.hid hH3.1
  have HSS := Lib.hid hS
  clear hS own3 hL900 k0 k1 k2 k3 bp rx hbx hr hk hH3
  go_wp2_with (at_builtin; refine app_rows rfl (.const (.slice none 0 0)) (.tmp 20) 22 rfl w3.heap.size 56 i0 _ 3 40 Try.underlying22 HI.out HZ0.out HZ1.out HZ2.out rfl (by decide) (by decide) _ 0 [] rfl (World.ownsRow_nil _ _ _ _) w3.heap.size A3 S.length c3 (Rd.shr.rows S) rfl HRD.out ?a2 ?a3 ?a4 ?_)
  case a2 => exact Rd.shr.rows_one' _
  case a3 => omega
  try any_goals exact Nat.le_refl _
  intro v4 w4 hown4 hg4
  have hb4 : Below w3.heap.size w3 w4 := (Below.refl _ _).grown hg4 (Nat.le_refl _) (fun j hj => by simp [Value.ownBlock] at hj)
  have hown : OwnShrs w4 w3.heap.size v4 S := by
    unfold OwnShrs
    simpa using hown4
  obtain ⟨A1, c1, rfl, _, hc1⟩ := hown.form HOK.out
  have OWN4 : Hid (OwnShrs w4 wx.heap.size (.slice A3 S.length c3) S) := Lib.hid (owns_on OWN3.out hb4)
  have bp4 := bp3.on hb4
  have rx4 := rx3.on hb4
  have hbw4 := below_then hb3 hb4
  clear hown4 hg4 bp3 rx3 hb3 hb4
  have k3 : w4.cell? ⟨p, 3, none⟩ = some (.slice none 0 0) := bp4.cell rfl
  have f3 := bp4.free 3
  go_upto_region 4 with fail
  have bp5 := bp4.set 3 (.slice A1 S.length c1)
  have rx5 := rx4.apart (g' := p) (by omega) 3 (.slice A1 S.length c1)
  have own5 : OwnShrs (w4.setCell ⟨p, 3, none⟩ (.slice A1 S.length c1)) w3.heap.size (.slice A1 S.length c1) S := owns_set hown (by omega)
  have own6 : OwnShrs (w4.setCell ⟨p, 3, none⟩ (.slice A1 S.length c1)) wx.heap.size (.slice A3 S.length c3) S := owns_set OWN4.out (by omega)
  have hb5 : Below w.heap.size w (w4.setCell ⟨p, 3, none⟩ (.slice A1 S.length c1)) := Below.setCell hbw4 (p := ⟨p, 3, none⟩) (by show _ ≤ p; have := HG.out; omega) _
  change OBox _ p [.int .i64 id, .string room, .int .i64 0, .slice A1 S.length c1] at bp5
  generalize w4.setCell ⟨p, 3, none⟩ (.slice A1 S.length c1) = W2 at bp5 rx5 own5 own6 hb5 ⊢
  clear bp4 rx4 hbw4 hown k3 f3
  have k0 : W2.cell? ⟨p, 0, none⟩ = some (.int .i64 id) := bp5.cell rfl
  have k1 : W2.cell? ⟨p, 1, none⟩ = some (.string room) := bp5.cell rfl
  have k2 : W2.cell? ⟨p, 2, none⟩ = some (.int .i64 0) := bp5.cell rfl
  have k3 : W2.cell? ⟨p, 3, none⟩ = some (.slice A1 S.length c1) := bp5.cell rfl
  have hth := rx5.there (n := 4) rfl
  have HT := Lib.hid hth
  have f5 : OwnShrs (putRow W2 (g + 1) [.int .i64 id, .string room, .int .i64 0, .slice A1 S.length c1]) w3.heap.size (.slice A1 S.length c1) S := owns_put own5 (by omega)
  have f6 : OwnShrs (putRow W2 (g + 1) [.int .i64 id, .string room, .int .i64 0, .slice A1 S.length c1]) wx.heap.size (.slice A3 S.length c3) S := owns_put own6 (by omega)
  obtain ⟨A9, c9, he9, hH5, _⟩ := f5.form HOK.out
  cases he9
  obtain ⟨A9, c9, he9, hH6, _⟩ := f6.form HOK.out
  cases he9
  have H5 := Lib.hid hH5; have H6 := Lib.hid hH6
  have HP := Lib.hid (below_put (cs := [.int .i64 id, .string room, .int .i64 0, .slice A1 S.length c1]) (g := g + 1) (by have := HG.out; omega) hb5)
  clear hH5 hH6 f5 f6 own5 own6
  go_wp2_with fail
  refine bodyPost_ret (v := .tuple #[sesA id room 0 A1 S.length c1, .slice A3 S.length c3]) ?_ rfl (by rw [← HSS.out]; exact ⟨HP.out, A1, c1, A3, c3, rfl, H5.out, hc1, H6.out, hc3⟩)
  rw [results_cell_tmp (fn := Try.f27) (p := 8) (q := 9) (ty := 24) rfl _ _ (g + 1) [.int .i64 id, .string room, .int .i64 0, .slice A1 S.length c1] _ ?_ (range_put HT.out) Try.underlying24 rfl (by rw [inf_ses]; rfl)]
  · rfl
  · rfl
end Go.Proofs.Ytnbgcjangoiodaa
