/-
  The walks through typing.Stop, Clean, and the reference's; Same, Great of chapter 38. (Printed by wip/gen/gen_typs.py.)
-/
import Derived.Test.YtbhkgdfmjkblcaaTypW
namespace Go.Proofs.Ytbhkgdfmjkblcaa
open Go.RowKit

/-- 'v' is a row of the call's own, from block B on, that holds just the records l -/
def OwnTyps (w : World) (B : Nat) (v : Value) (l : List Typ) : Prop := w.ownsRow B 68 2 v l.length (Rd.typ.rows l)
theorem infoTyp : (Try.prog.info? 68).map (fun i => (i.zero, i.size, i.bytes)) = some (some (.agg #[.string .empty, .int .i64 0]), 2, 24) := by kernel_rfl
def TypOk (l : List Typ) : Prop := ∀ x ∈ l, x.user.size ≤ maxLen ∧ (-9223372036854775808 ≤ x.til ∧ x.til ≤ 9223372036854775807)
theorem Typs.ok {w : World} {A : Option Addr} {n : Nat} {l : List Typ} (h : Typs w A n l) : TypOk l := fun x hx => ⟨(h.2.2 x hx).1, (h.2.2 x hx).2.1⟩
theorem OwnTyps.form {w : World} {B : Nat} {v : Value} {l : List Typ} (h : OwnTyps w B v l) (hok : TypOk l) : ∃ A c, v = .slice A l.length c ∧ Typs w A l.length l := by
  obtain ⟨A, c, rfl, _, hr⟩ := own_form h
  exact ⟨A, c, rfl, hr, rfl, fun x hx => ⟨(hok x hx).1, (hok x hx).2, trivial⟩⟩
theorem take_filter {l : List Typ} {k : Nat} {x : Typ} (f : Typ → Bool) (h : l[k]? = some x) : (l.take (k + 1)).filter f = (l.take k).filter f ++ if f x then [x] else [] := by
  obtain ⟨hk, rfl⟩ := List.getElem?_eq_some_iff.1 h
  rw [List.take_succ_eq_append_getElem hk, List.filter_append]
  congr 1
  cases hf : f l[k] <;> simp [hf]
theorem typ_rows_snoc (l : List Typ) (x : Typ) : Rd.typ.rows (l ++ [x]) = Rd.typ.rows l ++ [.string x.user, .int .i64 x.til] := by rw [Rd.rows_append, Rd.rows_one]; rfl
def TFInv (w : World) (l : List Typ) (f : Typ → Bool) (out i : Value) (wr : World) : Prop :=
  ∃ k : Nat, k ≤ l.length ∧ i = .int .i64 k ∧ Below w.heap.size w wr ∧ OwnTyps wr w.heap.size out ((l.take k).filter f)

set_option maxRecDepth 100000 in
set_option maxHeartbeats 2000000 in
theorem tstop_any (A : Option Addr) (n c : Nat) (l : List Typ) (u : ByteArray) (w : World) (hr : Typs w A n l) (hn : n ≤ 1000000) :
    Calls Try.prog 22 #[.slice A n c, .string u] w fun e w' => ∃ v, e = .returned v ∧ Below w.heap.size w w' ∧ OwnTyps w' w.heap.size v (l.filter fun y => decide (T.nm y ≠ bs u)) := by
  obtain ⟨i0, hi, hz0, hz1, hz2⟩ := info_parts infoTyp
  have HI := Lib.hid hi; have HZ0 := Lib.hid hz0; have HZ1 := Lib.hid hz1; have HZ2 := Lib.hid hz2
  clear hi hz0 hz1 hz2
  have HL := Lib.hid (Rd.Holds.length hr)
  obtain ⟨f, hf⟩ : ∃ f : Typ → Bool, f = fun y => decide (T.nm y ≠ bs u) := ⟨_, rfl⟩
  rw [← hf]
  have hfx : ∀ y, f y = decide (T.nm y ≠ bs u) := fun y => by rw [hf]
  have HFX := Lib.hid hfx; clear hf hfx
  go_enter Try.func22, Try.ntmps22
  go_wp2_with fail
  go_loopw [5,10] (fun out i wr => TFInv w l f out i wr) (fun _ i _ => n - (intOf i).toNat)
  case atStart => exact ⟨0, by omega, rfl, Below.refl _ _, World.ownsRow_nil _ _ _ _⟩
  case round =>
    obtain ⟨k, hk, rfl, hbw, hown⟩ := hrel
    by_cases hlt : k < n
    · obtain ⟨b, o, x, rfl, hbb, hu, hz, hti, h0, h1⟩ := (hr.on hbw).at_ hlt
      have HT := Lib.hid (take_filter f hu)
      have hk1 : k + 1 ≤ l.length := by have := HL.out; omega
      have hlen : ((l.take k).filter f).length ≤ k := Nat.le_trans (List.length_filter_le _ _) (List.length_take_le _ _)
      have hsz := hbw.size
      clear hu
      by_cases ht : x.user ≠ u
      · have hF : (l.take (k + 1)).filter f = (l.take k).filter f ++ [x] := by rw [HT.out, if_pos (by rw [HFX.out]; simpa [T.nm] using fun h => ht (bs_inj h))]
        have es : (x.user.toList == u.toList) = false := by rw [streq']; simpa using ht
        have HF := Lib.hid hF; clear hF ht
        go_wp2_with (at_builtin; refine wpList_append_own _ rfl _ _ 22 rfl w.heap.size 68 i0 _ 2 24 Try.underlying22 HI.out HZ0.out HZ1.out HZ2.out rfl (by decide) _ _ _ rfl (World.ownsRow.alloc (World.ownsRow.alloc hown _) _) ⟨wr.heap.size + 1, 0, none⟩ 1 1 [.string x.user, .int .i64 x.til] rfl rfl ?c1 ?c2 ?c3 ?c4 ?c5 ?_)
        case c1 => exact World.news_of_block (cs := #[.string x.user, .int .i64 x.til]) (t := 68) (fr := (0, 0)) (by first | exact heap_alloc_new _ _ | (simpa using heap_alloc_new (wr.alloc (.cells #[.string x.user, .int .i64 x.til] 68)) _))
        case c2 => simp [Value.oneCell']
        case c3 => unfold maxLen; omega
        case c4 => omega
        case c5 => simp; omega
        intro v' w' hown' hgrow _
        have hbw3 : Below w.heap.size w w' := (Below.alloc (hbw.alloc (by omega) _) (by first | omega | (simp; omega)) _).grown hgrow (by simp; omega) (fun j hj => by have := (World.ownsRow.lt hown _ hj).1; omega)
        have hown3 : OwnTyps w' w.heap.size v' ((l.take (k + 1)).filter f) := by
          rw [HF.out]
          unfold OwnTyps
          rw [List.length_append, typ_rows_snoc]; exact hown'
        clear hown' hgrow
        go_wp2_with fail
        exact ⟨⟨k + 1, hk1, by go_num, hbw3, hown3⟩, by simp [intOf]; omega⟩
      · have hF : (l.take (k + 1)).filter f = (l.take k).filter f := by rw [HT.out, if_neg (by rw [HFX.out]; simp only [ne_eq, Classical.not_not] at ht; subst ht; simp), List.append_nil]
        have es : (x.user.toList == u.toList) = true := by rw [streq']; simpa using ht
        have HF := Lib.hid hF; clear hF ht
        go_wp2_with fail
        exact ⟨⟨k + 1, hk1, by go_num, hbw.alloc (by omega) _, by rw [HF.out]; exact World.ownsRow.alloc hown _⟩, by simp [intOf]; omega⟩
    · have hF : (l.take k).filter f = l.filter f := by rw [List.take_of_length_le (by have := HL.out; omega)]
      have HF := Lib.hid hF; clear hF
      go_wp2_with fail
      go_ret
      exact ⟨u5, rfl, hbw, by rw [← HF.out]; exact hown⟩

set_option maxRecDepth 100000 in
set_option maxHeartbeats 2000000 in
theorem rstop_any (A : Option Addr) (n c : Nat) (l : List Typ) (u : ByteArray) (w : World) (hr : Typs w A n l) (hn : n ≤ 1000000) :
    Calls Try.prog 23 #[.slice A n c, .string u] w fun e w' => ∃ v, e = .returned v ∧ Below w.heap.size w w' ∧ OwnTyps w' w.heap.size v (l.filter fun y => decide (T.nm y ≠ bs u)) := by
  obtain ⟨i0, hi, hz0, hz1, hz2⟩ := info_parts infoTyp
  have HI := Lib.hid hi; have HZ0 := Lib.hid hz0; have HZ1 := Lib.hid hz1; have HZ2 := Lib.hid hz2
  clear hi hz0 hz1 hz2
  have HL := Lib.hid (Rd.Holds.length hr)
  obtain ⟨f, hf⟩ : ∃ f : Typ → Bool, f = fun y => decide (T.nm y ≠ bs u) := ⟨_, rfl⟩
  rw [← hf]
  have hfx : ∀ y, f y = decide (T.nm y ≠ bs u) := fun y => by rw [hf]
  have HFX := Lib.hid hfx; clear hf hfx
  go_enter Try.func23, Try.ntmps23
  go_wp2_with fail
  go_loopw [5,6] (fun out i wr => TFInv w l f out i wr) (fun _ i _ => n - (intOf i).toNat)
  case atStart => exact ⟨0, by omega, rfl, Below.refl _ _, World.ownsRow_nil _ _ _ _⟩
  case round =>
    obtain ⟨k, hk, rfl, hbw, hown⟩ := hrel
    by_cases hlt : k < n
    · obtain ⟨b, o, x, rfl, hbb, hu, hz, hti, h0, h1⟩ := (hr.on hbw).at_ hlt
      have HT := Lib.hid (take_filter f hu)
      have hk1 : k + 1 ≤ l.length := by have := HL.out; omega
      have hlen : ((l.take k).filter f).length ≤ k := Nat.le_trans (List.length_filter_le _ _) (List.length_take_le _ _)
      have hsz := hbw.size
      clear hu
      by_cases ht : x.user ≠ u
      · have hF : (l.take (k + 1)).filter f = (l.take k).filter f ++ [x] := by rw [HT.out, if_pos (by rw [HFX.out]; simpa [T.nm] using fun h => ht (bs_inj h))]
        have es : (x.user.toList == u.toList) = false := by rw [streq']; simpa using ht
        have HF := Lib.hid hF; clear hF ht
        go_wp2_with (at_builtin; refine wpList_append_own _ rfl _ _ 22 rfl w.heap.size 68 i0 _ 2 24 Try.underlying22 HI.out HZ0.out HZ1.out HZ2.out rfl (by decide) _ _ _ rfl (World.ownsRow.alloc hown _) ⟨wr.heap.size, 0, none⟩ 1 1 [.string x.user, .int .i64 x.til] rfl rfl ?c1 ?c2 ?c3 ?c4 ?c5 ?_)
        case c1 => exact World.news_of_block (cs := #[.string x.user, .int .i64 x.til]) (t := 68) (fr := (0, 0)) (by first | exact heap_alloc_new _ _ | (simpa using heap_alloc_new wr _))
        case c2 => simp [Value.oneCell']
        case c3 => unfold maxLen; omega
        case c4 => omega
        case c5 => simp; omega
        intro v' w' hown' hgrow _
        have hbw3 : Below w.heap.size w w' := (Below.alloc hbw (by first | omega | (simp; omega)) _).grown hgrow (by simp; omega) (fun j hj => by have := (World.ownsRow.lt hown _ hj).1; omega)
        have hown3 : OwnTyps w' w.heap.size v' ((l.take (k + 1)).filter f) := by
          rw [HF.out]
          unfold OwnTyps
          rw [List.length_append, typ_rows_snoc]; exact hown'
        clear hown' hgrow
        go_wp2_with fail
        exact ⟨⟨k + 1, hk1, by go_num, hbw3, hown3⟩, by simp [intOf]; omega⟩
      · have hF : (l.take (k + 1)).filter f = (l.take k).filter f := by rw [HT.out, if_neg (by rw [HFX.out]; simp only [ne_eq, Classical.not_not] at ht; subst ht; simp), List.append_nil]
        have es : (x.user.toList == u.toList) = true := by rw [streq']; simpa using ht
        have HF := Lib.hid hF; clear hF ht
        go_wp2_with fail
        exact ⟨⟨k + 1, hk1, by go_num, hbw, by rw [HF.out]; exact hown⟩, by simp [intOf]; omega⟩
    · have hF : (l.take k).filter f = l.filter f := by rw [List.take_of_length_le (by have := HL.out; omega)]
      have HF := Lib.hid hF; clear hF
      go_wp2_with fail
      go_ret
      exact ⟨u5, rfl, hbw, by rw [← HF.out]; exact hown⟩

set_option maxRecDepth 100000 in
set_option maxHeartbeats 2000000 in
theorem tclean_any (A : Option Addr) (n c : Nat) (l : List Typ) (now : Int) (w : World) (hr : Typs w A n l) (hn : n ≤ 1000000) :
    Calls Try.prog 24 #[.slice A n c, .int .i64 now] w fun e w' => ∃ v, e = .returned v ∧ Below w.heap.size w w' ∧ OwnTyps w' w.heap.size v (l.filter fun y => decide (now < y.til)) := by
  obtain ⟨i0, hi, hz0, hz1, hz2⟩ := info_parts infoTyp
  have HI := Lib.hid hi; have HZ0 := Lib.hid hz0; have HZ1 := Lib.hid hz1; have HZ2 := Lib.hid hz2
  clear hi hz0 hz1 hz2
  have HL := Lib.hid (Rd.Holds.length hr)
  obtain ⟨f, hf⟩ : ∃ f : Typ → Bool, f = fun y => decide (now < y.til) := ⟨_, rfl⟩
  rw [← hf]
  have hfx : ∀ y, f y = decide (now < y.til) := fun y => by rw [hf]
  have HFX := Lib.hid hfx; clear hf hfx
  go_enter Try.func24, Try.ntmps24
  go_wp2_with fail
  go_loopw [5,10] (fun out i wr => TFInv w l f out i wr) (fun _ i _ => n - (intOf i).toNat)
  case atStart => exact ⟨0, by omega, rfl, Below.refl _ _, World.ownsRow_nil _ _ _ _⟩
  case round =>
    obtain ⟨k, hk, rfl, hbw, hown⟩ := hrel
    by_cases hlt : k < n
    · obtain ⟨b, o, x, rfl, hbb, hu, hz, hti, h0, h1⟩ := (hr.on hbw).at_ hlt
      have HT := Lib.hid (take_filter f hu)
      have hk1 : k + 1 ≤ l.length := by have := HL.out; omega
      have hlen : ((l.take k).filter f).length ≤ k := Nat.le_trans (List.length_filter_le _ _) (List.length_take_le _ _)
      have hsz := hbw.size
      clear hu
      by_cases ht : now < x.til
      · have hF : (l.take (k + 1)).filter f = (l.take k).filter f ++ [x] := by rw [HT.out, if_pos (by rw [HFX.out]; simpa using ht)]
        have e1 : now < x.til := ht
        have HF := Lib.hid hF; clear hF ht
        go_wp2_with (at_builtin; refine wpList_append_own _ rfl _ _ 22 rfl w.heap.size 68 i0 _ 2 24 Try.underlying22 HI.out HZ0.out HZ1.out HZ2.out rfl (by decide) _ _ _ rfl (World.ownsRow.alloc (World.ownsRow.alloc hown _) _) ⟨wr.heap.size + 1, 0, none⟩ 1 1 [.string x.user, .int .i64 x.til] rfl rfl ?c1 ?c2 ?c3 ?c4 ?c5 ?_)
        case c1 => exact World.news_of_block (cs := #[.string x.user, .int .i64 x.til]) (t := 68) (fr := (0, 0)) (by first | exact heap_alloc_new _ _ | (simpa using heap_alloc_new (wr.alloc (.cells #[.string x.user, .int .i64 x.til] 68)) _))
        case c2 => simp [Value.oneCell']
        case c3 => unfold maxLen; omega
        case c4 => omega
        case c5 => simp; omega
        intro v' w' hown' hgrow _
        have hbw3 : Below w.heap.size w w' := (Below.alloc (hbw.alloc (by omega) _) (by first | omega | (simp; omega)) _).grown hgrow (by simp; omega) (fun j hj => by have := (World.ownsRow.lt hown _ hj).1; omega)
        have hown3 : OwnTyps w' w.heap.size v' ((l.take (k + 1)).filter f) := by
          rw [HF.out]
          unfold OwnTyps
          rw [List.length_append, typ_rows_snoc]; exact hown'
        clear hown' hgrow
        go_wp2_with fail
        exact ⟨⟨k + 1, hk1, by go_num, hbw3, hown3⟩, by simp [intOf]; omega⟩
      · have hF : (l.take (k + 1)).filter f = (l.take k).filter f := by rw [HT.out, if_neg (by rw [HFX.out]; simpa using ht), List.append_nil]
        have e1 : ¬ now < x.til := ht
        have HF := Lib.hid hF; clear hF ht
        go_wp2_with fail
        exact ⟨⟨k + 1, hk1, by go_num, hbw.alloc (by omega) _, by rw [HF.out]; exact World.ownsRow.alloc hown _⟩, by simp [intOf]; omega⟩
    · have hF : (l.take k).filter f = l.filter f := by rw [List.take_of_length_le (by have := HL.out; omega)]
      have HF := Lib.hid hF; clear hF
      go_wp2_with fail
      go_ret
      exact ⟨u5, rfl, hbw, by rw [← HF.out]; exact hown⟩

set_option maxRecDepth 100000 in
set_option maxHeartbeats 2000000 in
theorem rclean_any (A : Option Addr) (n c : Nat) (l : List Typ) (now : Int) (w : World) (hr : Typs w A n l) (hn : n ≤ 1000000) :
    Calls Try.prog 25 #[.slice A n c, .int .i64 now] w fun e w' => ∃ v, e = .returned v ∧ Below w.heap.size w w' ∧ OwnTyps w' w.heap.size v (l.filter fun y => decide (now < y.til)) := by
  obtain ⟨i0, hi, hz0, hz1, hz2⟩ := info_parts infoTyp
  have HI := Lib.hid hi; have HZ0 := Lib.hid hz0; have HZ1 := Lib.hid hz1; have HZ2 := Lib.hid hz2
  clear hi hz0 hz1 hz2
  have HL := Lib.hid (Rd.Holds.length hr)
  obtain ⟨f, hf⟩ : ∃ f : Typ → Bool, f = fun y => decide (now < y.til) := ⟨_, rfl⟩
  rw [← hf]
  have hfx : ∀ y, f y = decide (now < y.til) := fun y => by rw [hf]
  have HFX := Lib.hid hfx; clear hf hfx
  go_enter Try.func25, Try.ntmps25
  go_wp2_with fail
  go_loopw [5,6] (fun out i wr => TFInv w l f out i wr) (fun _ i _ => n - (intOf i).toNat)
  case atStart => exact ⟨0, by omega, rfl, Below.refl _ _, World.ownsRow_nil _ _ _ _⟩
  case round =>
    obtain ⟨k, hk, rfl, hbw, hown⟩ := hrel
    by_cases hlt : k < n
    · obtain ⟨b, o, x, rfl, hbb, hu, hz, hti, h0, h1⟩ := (hr.on hbw).at_ hlt
      have HT := Lib.hid (take_filter f hu)
      have hk1 : k + 1 ≤ l.length := by have := HL.out; omega
      have hlen : ((l.take k).filter f).length ≤ k := Nat.le_trans (List.length_filter_le _ _) (List.length_take_le _ _)
      have hsz := hbw.size
      clear hu
      by_cases ht : now < x.til
      · have hF : (l.take (k + 1)).filter f = (l.take k).filter f ++ [x] := by rw [HT.out, if_pos (by rw [HFX.out]; simpa using ht)]
        have e1 : now < x.til := ht
        have HF := Lib.hid hF; clear hF ht
        go_wp2_with (at_builtin; refine wpList_append_own _ rfl _ _ 22 rfl w.heap.size 68 i0 _ 2 24 Try.underlying22 HI.out HZ0.out HZ1.out HZ2.out rfl (by decide) _ _ _ rfl (World.ownsRow.alloc hown _) ⟨wr.heap.size, 0, none⟩ 1 1 [.string x.user, .int .i64 x.til] rfl rfl ?c1 ?c2 ?c3 ?c4 ?c5 ?_)
        case c1 => exact World.news_of_block (cs := #[.string x.user, .int .i64 x.til]) (t := 68) (fr := (0, 0)) (by first | exact heap_alloc_new _ _ | (simpa using heap_alloc_new wr _))
        case c2 => simp [Value.oneCell']
        case c3 => unfold maxLen; omega
        case c4 => omega
        case c5 => simp; omega
        intro v' w' hown' hgrow _
        have hbw3 : Below w.heap.size w w' := (Below.alloc hbw (by first | omega | (simp; omega)) _).grown hgrow (by simp; omega) (fun j hj => by have := (World.ownsRow.lt hown _ hj).1; omega)
        have hown3 : OwnTyps w' w.heap.size v' ((l.take (k + 1)).filter f) := by
          rw [HF.out]
          unfold OwnTyps
          rw [List.length_append, typ_rows_snoc]; exact hown'
        clear hown' hgrow
        go_wp2_with fail
        exact ⟨⟨k + 1, hk1, by go_num, hbw3, hown3⟩, by simp [intOf]; omega⟩
      · have hF : (l.take (k + 1)).filter f = (l.take k).filter f := by rw [HT.out, if_neg (by rw [HFX.out]; simpa using ht), List.append_nil]
        have e1 : ¬ now < x.til := ht
        have HF := Lib.hid hF; clear hF ht
        go_wp2_with fail
        exact ⟨⟨k + 1, hk1, by go_num, hbw, by rw [HF.out]; exact hown⟩, by simp [intOf]; omega⟩
    · have hF : (l.take k).filter f = l.filter f := by rw [List.take_of_length_le (by have := HL.out; omega)]
      have HF := Lib.hid hF; clear hF
      go_wp2_with fail
      go_ret
      exact ⟨u5, rfl, hbw, by rw [← HF.out]; exact hown⟩

end Go.Proofs.Ytbhkgdfmjkblcaa
