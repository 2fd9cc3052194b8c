/-
  The walks through the reference's Of and InState, and the law MembersInStates.
-/
import Derived.Test.YtlfdafelceipfaaMemD
import Derived.Test.YtlfdafelceipfaaMemR
namespace Go.Proofs.Ytlfdafelceipfaa
open Go.RowKit

attribute [local go_sem ↓] g_ld_ev d_st_ev
theorem gEv_lit (e : Ev) : gEv e = .agg #[.int .i64 e.id, .string e.room, .string e.sender, .int .i64 e.kind, .bool e.state, .string e.key, .int .i64 e.time, .int .i64 e.depth, e.prev.val, e.auth.val,
    .string e.content.text, .int .i64 e.content.n, .int .i64 e.content.target, .bool e.content.thread, .string e.content.via, e.content.allow.val, e.content.deny.val, e.content.levels.users.val, e.content.levels.kinds.val,
    .int .i64 e.content.levels.user, .int .i64 e.content.levels.message, .int .i64 e.content.levels.state, .int .i64 e.content.levels.invite, .int .i64 e.content.levels.kick, .int .i64 e.content.levels.ban, .int .i64 e.content.levels.redact,
    .int .i64 e.hash, .string e.sig.server, .int .i64 e.sig.sum] := rfl
attribute [local go_sem] g_run_ld_ev d_run_st_ev d_run_st_zero

def OwnEvs (w : World) (B : Nat) (v : Value) (l : List Ev) : Prop := w.ownsRow B 61 29 v l.length (Rd.ev.rows l)
theorem OwnEvs.form {w : World} {B : Nat} {v : Value} {l : List Ev} (h : OwnEvs w B v l) (hok : ∀ e ∈ l, Rd.ev.Ok w e) : ∃ A c, v = .slice A l.length c ∧ Rd.ev.Holds w A l.length l := by
  obtain ⟨A, c, rfl, _, hr⟩ := own_form h
  exact ⟨A, c, rfl, hr, rfl, hok⟩
theorem infoEv : (Try.prog.info? 61).map (fun i => (i.zero, i.size, i.bytes)) = some (some (gEv zEv), 29, 376) := by kernel_rfl
theorem infoInt : (Try.prog.info? 3).map (fun i => (i.zero, i.size, i.bytes)) = some (some (.int .i64 0), 1, 8) := by kernel_rfl
theorem ev_rows_snoc (l : List Ev) (x : Ev) : Rd.ev.rows (l ++ [x]) = Rd.ev.rows l ++ Rd.ev.cells x := by rw [Rd.rows_append, Rd.rows_one]

namespace Mb
theorem picked_take {l : List Ev} {ids : List Int} {k : Nat} {i : Int} (h : ids[k]? = some i) : picked l (ids.take (k + 1)) = picked l (ids.take k) ++ (first l i).toList := by
  obtain ⟨hk, rfl⟩ := List.getElem?_eq_some_iff.1 h
  unfold picked
  rw [List.take_succ_eq_append_getElem hk, List.filterMap_append]
  cases hf : first l ids[k] <;> simp [hf]
theorem picked_length (l : List Ev) (ids : List Int) : (picked l ids).length ≤ ids.length := List.length_filterMap_le _ _
theorem first_mem {l : List Ev} {i : Int} {x : Ev} (h : first l i = some x) : x ∈ l := List.mem_of_find?_eq_some h
theorem picked_mem {l : List Ev} {ids : List Int} {x : Ev} (h : x ∈ picked l ids) : x ∈ l := by
  obtain ⟨i, _, hf⟩ := List.mem_filterMap.1 h
  exact first_mem hf
end Mb
def FInv (w : World) (l : List Ev) (ids : List Int) (out i : Value) (wr : World) : Prop :=
  ∃ k : Nat, k ≤ ids.length ∧ i = .int .i64 k ∧ Below w.heap.size w wr ∧ OwnEvs wr w.heap.size out (Mb.picked l (ids.take k))

set_option maxRecDepth 100000 in
set_option maxHeartbeats 2000000 in
theorem rof8_any (A : Option Addr) (n c : Nat) (l : List Ev) (B : Option Addr) (m d : Nat) (ids : List Int) (w : World) (hr : Rd.ev.Holds w A n l) (hn : n ≤ 1000000) (hs : Rd.i64.Holds w B m ids) (hm : m ≤ 1000000) :
    Calls Try.prog 57 #[.slice A n c, .slice B m d] w fun e w' => ∃ v, e = .returned v ∧ Below w.heap.size w w' ∧ OwnEvs w' w.heap.size v (Mb.picked l ids) := by
  obtain ⟨i0, hi, hz0, hz1, hz2⟩ := info_parts infoEv
  have HI := Lib.hid hi; have HZ0 := Lib.hid hz0; have HZ1 := Lib.hid hz1; have HZ2 := Lib.hid hz2
  clear hi hz0 hz1 hz2
  have HM := Lib.hid hs.length
  go_enter Try.func57, Try.ntmps57
  go_wp2_with fail
  go_loopw [5, 6] (fun out i wr => FInv w l ids out i wr) (fun _ i _ => m - (intOf i).toNat)
  case atStart => exact ⟨0, by omega, rfl, Below.refl _ _, World.ownsRow_nil _ _ _ _⟩
  case round =>
    obtain ⟨k, hk, rfl, hbw, hown⟩ := hrel
    by_cases hkm : k < m
    · obtain ⟨b, o, i, hB, hbl, hu, _, _, hra⟩ := (hs.on hbw).mid (by decide) hkm
      have y0 : wr.cell? ⟨b, o + k * 1, none⟩ = some (.int .i64 i) := hra 0 _ rfl
      rw [Nat.mul_one] at y0
      have hk1 : k + 1 ≤ ids.length := by have := HM.out; omega
      have HP := Lib.hid (Mb.picked_take (l := l) hu)
      have hlen : (Mb.picked l (ids.take k)).length ≤ k := Nat.le_trans (Mb.picked_length _ _) (List.length_take_le _ _)
      have hle := hbw.size
      clear hu hra
      subst hB
      go_wp2_with fail
      refine (rget_any A n c l i wr (hr.on hbw) hn).mono ?_
      rintro e w2 ⟨rfl, b2⟩
      have hown2 : OwnEvs w2 w.heap.size u5 (Mb.picked l (ids.take k)) := owns_on hown b2
      have hbw2 := below_then hbw b2
      have hle2 := hbw2.size
      clear hown hbw b2 y0
      unfold getV
      cases hf : Mb.first l i with
      | none =>
        have HN : Hid (Mb.picked l (ids.take (k + 1)) = Mb.picked l (ids.take k)) := by
          show _ = _
          rw [HP.out, hf]; simp
        clear hf
        simp only [Option.getD_none, Option.isSome_none]
        go_wp2_with fail
        exact ⟨⟨k + 1, hk1, by go_num, below_alloc hbw2 _, by rw [HN.out]; exact World.ownsRow.alloc hown2 _⟩, by simp [intOf]; omega⟩
      | some x =>
        have HN : Hid (Mb.picked l (ids.take (k + 1)) = Mb.picked l (ids.take k) ++ [x]) := by
          show _ = _
          rw [HP.out, hf]; simp
        clear hf
        simp only [Option.getD_some, Option.isSome_some]
        obtain ⟨hh, hvv⟩ := row_of (range_new w2 (Rd.ev.cells x) 61) (Rd.ev.len x)
        change hasRow (w2.alloc (.cells (gEvA x) 61)) w2.heap.size 0 29 = true at hh
        change rowAt (w2.alloc (.cells (gEvA x) 61)) w2.heap.size 0 29 = gEv x at hvv
        go_upto_region 7 with fail
        have hw3 : ∃ w3 : World, w3 = w2.alloc (.cells (gEvA x) 61) := ⟨_, rfl⟩
        obtain ⟨w3, hw3⟩ := hw3
        have hown3 : OwnEvs w3 w.heap.size u5 (Mb.picked l (ids.take k)) := by rw [hw3]; exact World.ownsRow.alloc hown2 _
        have hbw3 : Below w.heap.size w w3 := by rw [hw3]; exact below_alloc hbw2 _
        rw [← hw3] at hh hvv ⊢
        clear hw3 hown2 hbw2
        rw [gEv_lit] at hvv
        go_wp2_with (at_builtin; refine wpList_append_own _ rfl _ _ 38 rfl w.heap.size 61 i0 (gEv zEv) 29 376 Try.underlying38 HI.out HZ0.out HZ1.out HZ2.out rfl (by decide) _ _ _ rfl (World.ownsRow.alloc hown3 _) ⟨w3.heap.size, 0, none⟩ 1 1 (Rd.ev.cells x) rfl (Rd.ev.len x) ?c1 ?c2 ?c3 ?c4 ?c5 ?_)
        case c1 => exact World.news_of_block (cs := gEvA x) (t := 61) (fr := (0, 0)) (heap_alloc_new _ _)
        case c2 => exact Rd.ev.one x
        case c3 => unfold maxLen; omega
        case c4 => omega
        case c5 => have := hbw3.size; simp; omega
        intro v' w' hown' hgrow _
        have hle3 := hbw3.size
        have hbw4 : Below w.heap.size w w' := (hbw3.alloc (by omega) _).grown hgrow (by simp; omega) (fun j hj => by have := (World.ownsRow.lt hown3 _ hj).1; omega)
        have hown4 : OwnEvs w' w.heap.size v' (Mb.picked l (ids.take (k + 1))) := by
          rw [HN.out]
          unfold OwnEvs
          rw [List.length_append, ev_rows_snoc]; exact hown'
        clear hown' hgrow
        go_wp2_with fail
        exact ⟨⟨k + 1, hk1, by go_num, hbw4, hown4⟩, by simp [intOf]; omega⟩
    · have hF : Mb.picked l (ids.take k) = Mb.picked l ids := by rw [List.take_of_length_le (by have := HM.out; omega)]
      have HF := Lib.hid hF; clear hF
      go_wp2_with fail
      go_ret
      exact ⟨u5, rfl, hbw, by rw [← HF.out]; exact hown⟩

def OwnInts (w : World) (B : Nat) (v : Value) (l : List Int) : Prop := w.ownsRow B 3 1 v l.length (Rd.i64.rows l)
def IInv (w : World) (s : List Ent) (out i : Value) (wr : World) : Prop :=
  ∃ k : Nat, k ≤ s.length ∧ i = .int .i64 k ∧ Below w.heap.size w wr ∧ OwnInts wr w.heap.size out ((s.take k).map fun x => x.id)
theorem ids_take {s : List Ent} {k : Nat} {x : Ent} (h : s[k]? = some x) : ((s.take (k + 1)).map fun x => x.id) = ((s.take k).map fun x => x.id) ++ [x.id] := by
  obtain ⟨hk, rfl⟩ := List.getElem?_eq_some_iff.1 h
  rw [List.take_succ_eq_append_getElem hk, List.map_append]; rfl

set_option maxRecDepth 100000 in
set_option maxHeartbeats 2000000 in
theorem rinState_any (A : Option Addr) (n c : Nat) (l : List Ev) (B : Option Addr) (m d : Nat) (s : List Ent) (u : ByteArray) (w : World) (hr : Rd.ev.Holds w A n l) (hn : n ≤ 1000000) (hs : Rd.ent.Holds w B m s) (hm : m ≤ 1000000) :
    Calls Try.prog 45 #[.slice A n c, .slice B m d, .string u] w (Ret w (.int .i64 (Mb.inState l s (bs u)))) := by
  obtain ⟨i0, hi, hz0, hz1, hz2⟩ := info_parts infoInt
  have HI := Lib.hid hi; have HZ0 := Lib.hid hz0; have HZ1 := Lib.hid hz1; have HZ2 := Lib.hid hz2
  clear hi hz0 hz1 hz2
  have HM := Lib.hid hs.length
  have HOK := Lib.hid (fun e he => hr.2.2 e he)
  have HID : Hid (∀ x ∈ s, -9223372036854775808 ≤ x.id ∧ x.id ≤ 9223372036854775807) := Lib.hid fun x hx => (hs.2.2 x hx).2.2.1
  go_enter Try.func45, Try.ntmps45
  go_wp2_with fail
  go_loopw [7, 8] (fun out i wr => IInv w s out i wr) (fun _ i _ => m - (intOf i).toNat)
  case atStart => exact ⟨0, by omega, rfl, below_alloc (Below.refl _ _) _, World.ownsRow_made w _ 0 (Nat.le_refl _) (by unfold maxLen; omega) (by simp)⟩
  case round =>
    obtain ⟨k, hk, rfl, hbw, hown⟩ := hrel
    by_cases hkm : k < m
    · obtain ⟨b, o, x, hB, hbl, hu, _, _, hra⟩ := (hs.on hbw).mid (by decide) hkm
      have x2 : wr.cell? ⟨b, o + k * 3 + 2, none⟩ = some (.int .i64 x.id) := hra 2 _ rfl
      have hk1 : k + 1 ≤ s.length := by have := HM.out; omega
      have HP := Lib.hid (ids_take hu)
      have hlen : ((s.take k).map fun x => x.id).length ≤ k := by rw [List.length_map]; exact List.length_take_le _ _
      have hle := hbw.size
      clear hu hra
      subst hB
      go_wp2_with (at_builtin; refine wpList_append_own _ rfl _ _ 51 rfl w.heap.size 3 i0 _ 1 8 Try.underlying51 HI.out HZ0.out HZ1.out HZ2.out rfl (by decide) _ _ _ rfl (World.ownsRow.alloc hown _) ⟨wr.heap.size, 0, none⟩ 1 1 [.int .i64 x.id] rfl rfl ?c1 ?c2 ?c3 ?c4 ?c5 ?_)
      case c1 => exact World.news_of_block (cs := #[.int .i64 x.id]) (t := 3) (fr := (0, 0)) (heap_alloc_new _ _)
      case c2 => simp [Value.oneCell']
      case c3 => unfold maxLen; omega
      case c4 => omega
      case c5 => simp; omega
      intro v' w' hown' hgrow _
      have hbw3 : Below w.heap.size w w' := (hbw.alloc (by omega) _).grown hgrow (by simp; omega) (fun j hj => by have := (World.ownsRow.lt hown _ hj).1; omega)
      have hown3 : OwnInts w' w.heap.size v' ((s.take (k + 1)).map fun x => x.id) := by
        rw [HP.out]
        unfold OwnInts
        rw [List.length_append, Rd.rows_append, Rd.rows_one]
        rw [show ((s.take k).map fun x => x.id).length = k by rw [List.length_map, List.length_take]; have := HM.out; omega]
        have hown2 : w'.ownsRow w.heap.size 3 1 v' (k + 1) (Rd.i64.rows (List.take k (List.map (fun x => x.id) s)) ++ [Value.int IntKind.i64 x.id]) := by simpa [List.map_take] using hown'
        rw [List.map_take]; exact hown2
      clear hown' hgrow
      go_wp2_with fail
      exact ⟨⟨k + 1, hk1, by go_num, hbw3, hown3⟩, by simp [intOf]; omega⟩
    · have hF : (s.take k).map (fun x => x.id) = s.map fun x => x.id := by rw [List.take_of_length_le (by have := HM.out; omega)]
      rw [hF] at hown
      have hids : ∀ i ∈ s.map (fun x => x.id), -9223372036854775808 ≤ i ∧ i ≤ 9223372036854775807 := fun i hi => by
        obtain ⟨x, hx, rfl⟩ := List.mem_map.1 hi
        exact HID.out x hx
      have hlen : (s.map fun x => x.id).length ≤ 1000000 := by rw [List.length_map]; have := HM.out; omega
      have hV : Mb.inState l s (bs u) = Mb.of (Mb.picked l (s.map fun x => x.id)) (bs u) := rfl
      clear hF
      generalize s.map (fun x => x.id) = I at hown hids hlen hV ⊢
      have HV := Lib.hid hV
      clear hV
      obtain ⟨B', c', hv, _, hrd⟩ := own_form hown
      subst hv
      have hI : Rd.i64.Holds wr B' I.length I := ⟨hrd, rfl, hids⟩
      have hrw := hr.on hbw
      clear hown hrd hids
      go_wp2_with fail
      refine (rof8_any A n c l B' _ c' _ wr hrw hn hI hlen).mono ?_
      rintro e w2 ⟨v2, rfl, b2, hown2⟩
      have hb2 := below_then hbw b2
      obtain ⟨A2, c2, rfl, hH2⟩ := hown2.form (fun e he => Rd.ev.on (HOK.out e (Mb.picked_mem he)) hb2)
      have hlen2 : (Mb.picked l I).length ≤ 1000000 := Nat.le_trans (Mb.picked_length _ _) hlen
      clear hown2 hI
      generalize Mb.picked l I = L at hH2 hlen2 HV ⊢
      go_wp2_with fail
      refine (rmof_any A2 _ c2 _ u w2 hH2 hlen2).mono ?_
      rintro e w3 ⟨rfl, rfl⟩
      go_wp2_with fail
      go_ret
      exact ⟨ret_int HV.out.symm, hb2⟩

set_option maxRecDepth 100000 in
set_option maxHeartbeats 2000000 in
theorem membersInStates_any (x : Sl Ev) (y : Sl Ent) (u : ByteArray) (w : World) (hx : Rd.ev.Holds w x.A x.n x.l ∧ x.n ≤ maxLen) (hy : Rd.ent.Holds w y.A y.n y.l ∧ y.n ≤ maxLen) (_hu : u.size ≤ maxLen) :
    Calls Try.prog 12 #[x.val, y.val, .string u] w (Ret w (.bool true)) := by
  obtain ⟨A, n, c, l⟩ := x
  obtain ⟨B, m, d, s⟩ := y
  obtain ⟨hr, hn⟩ := hx
  obtain ⟨hs, hm⟩ := hy
  simp only [Sl.val] at hr hn hs hm ⊢
  unfold maxLen at hm
  go_enter Try.func12, Try.ntmps12
  go_wp2_with fail
  refine (rgreat8_any A n c l w hr hn).mono ?_
  rintro e w1 ⟨g1, rfl, hg1, b1⟩
  cases g1
  · have hn20 : n ≤ 20 := hg1 rfl
    clear hg1 hn
    by_cases h40 : (40 : Int) < m
    · have hd : decide ((40 : Int) < m) = true := decide_eq_true h40
      go_wp2_with fail
      go_ret
      exact ⟨rfl, b1⟩
    · have hd : decide ((40 : Int) < m) = false := decide_eq_false h40
      have h1 := hr.on b1
      have h2 := hs.on b1
      generalize hv : Mb.inState l s (bs u) = v
      have HV := Lib.hid hv; clear hv
      go_wp2_with fail
      refine (inState_any A n c l B m d s u w1 h1 (by omega) h2 (by omega)).mono ?_
      rintro e w2 ⟨rfl, b2⟩
      rw [HV.out]
      go_wp2_with fail
      refine (rinState_any A n c l B m d s u w2 (h1.on b2) (by omega) (h2.on b2) (by omega)).mono ?_
      rintro e w3 ⟨rfl, b3⟩
      rw [HV.out]
      go_wp2_with fail
      refine (mlive_any _).mono ?_
      rintro e w4 ⟨rfl, b4⟩
      go_wp2_with fail
      go_ret
      exact ⟨rfl, below_then b1 (below_then b2 (below_then b3 b4))⟩
  · clear hg1
    go_wp2_with fail
    go_ret
    exact ⟨rfl, b1⟩
end Go.Proofs.Ytlfdafelceipfaa
