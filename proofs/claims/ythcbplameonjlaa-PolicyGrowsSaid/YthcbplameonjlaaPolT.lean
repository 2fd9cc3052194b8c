/-
  The walks through once, slices.Concat and Merge, and the reference's Merge.
-/
import Derived.Test.YthcbplameonjlaaPolU
import Derived.Test.YthcbplameonjlaaPolL
import Derived.Test.YthcbplameonjlaaAppW
namespace Go.Proofs.Ythcbplameonjlaa
open Go.RowKit
attribute [local go_sem ↓] ex_st_pol
attribute [local go_sem] st_pol_new st_pol

theorem owns_on {w w' : World} {base size n : Nat} {e : TypeId} {v : Value} {xs : List Value} (h : w.ownsRow base e size v n xs) (hb : Below w.heap.size w w') : w'.ownsRow base e size v n xs := by
  refine ⟨h.1, ?_⟩
  rcases h.2 with hn | ⟨g, cap, cur, rfl, hb', hgg, rest⟩
  · exact .inl hn
  · exact .inr ⟨g, cap, cur, rfl, hb', (hb.block g (Array.getElem?_eq_some_iff.1 hgg).1).trans hgg, rest⟩
/-- a row of the call's own that holds just the policies l -/
def OwnPols (w : World) (B : Nat) (v : Value) (l : List Pol) : Prop := w.ownsRow B 37 3 v l.length (Rd.pol.rows l)
def PolOk (l : List Pol) : Prop := ∀ x ∈ l, (-9223372036854775808 ≤ x.about ∧ x.about ≤ 9223372036854775807) ∧ x.pattern.size ≤ maxLen ∧ x.reason.size ≤ maxLen
theorem pol_ok {w : World} {A : Option Addr} {n : Nat} {l : List Pol} (h : Rd.pol.Holds w A n l) : PolOk l := fun x hx => ⟨(h.2.2 x hx).1, (h.2.2 x hx).2.1, (h.2.2 x hx).2.2.1⟩
theorem PolOk.ok {l : List Pol} (h : PolOk l) {w : World} : ∀ x ∈ l, Rd.pol.Ok w x := fun x hx => ⟨(h x hx).1, (h x hx).2.1, (h x hx).2.2, trivial⟩
theorem PolOk.sub {l m : List Pol} (h : PolOk l) (hm : ∀ x ∈ m, x ∈ l) : PolOk m := fun x hx => h x (hm x hx)
theorem PolOk.app {l m : List Pol} (h : PolOk l) (k : PolOk m) : PolOk (l ++ m) := fun x hx => by
  rcases List.mem_append.1 hx with h1 | h1
  · exact h x h1
  · exact k x h1
theorem OwnPols.form {w : World} {B : Nat} {v : Value} {l : List Pol} (h : OwnPols w B v l) (hok : PolOk l) : ∃ A c, v = .slice A l.length c ∧ Rd.pol.Holds w A l.length l ∧ l.length ≤ c := by
  obtain ⟨A, c, rfl, hc, hr⟩ := own_form h
  exact ⟨A, c, rfl, ⟨hr, rfl, hok.ok⟩, hc⟩
theorem OwnPols.on {w w' : World} {B : Nat} {v : Value} {l : List Pol} (h : OwnPols w B v l) (hb : Below w.heap.size w w') : OwnPols w' B v l := owns_on h hb
theorem OwnPols.nil (w : World) (B : Nat) : OwnPols w B (.slice none 0 0) [] := World.ownsRow_nil _ _ _ _
/-- a row of policies, made with nothing in it -/
theorem make_pols (c : Nat) (hc : c ≤ 1000000) : ∃ Z : Array Value, Z.size = c * 3 ∧ ∀ w : World, (Instr.makeSlice 22 (.int .i64 0) (.int .i64 (c : Int))).run Try.prog w =
    .ok (.slice (some ⟨w.heap.size, 0, none⟩) 0 c) (w.alloc (.cells Z 37)) := by
  obtain ⟨i0, hi, hz0, hz1, hz2⟩ := info_parts infoPol
  refine ⟨madeCells (Value.agg #[.int .i64 0, .string .empty, .string .empty]).cells (c * 3), size_madeCells _ _, fun w => ?_⟩
  have h := run_make (P := Try.prog) w 22 37 i0 _ Try.underlying22 hi hz0 .i64 .i64 0 (c : Int) (by omega) (by omega) (by rw [hz2]; omega) (by omega)
  simpa [hz1] using h
theorem own_made (w : World) (Z : Array Value) (c : Nat) (hc : c ≤ 1000000) (hZ : Z.size = c * 3) {B : Nat} (hB : B ≤ w.heap.size) : OwnPols (w.alloc (.cells Z 37)) B (.slice (some ⟨w.heap.size, 0, none⟩) 0 c) [] :=
  World.ownsRow_made w Z c hB (by unfold maxLen; omega) hZ
theorem once_take {l : List Pol} {k : Nat} {x : Pol} (h : l[k]? = some x) : Pl.once (l.take (k + 1)) = if x ∈ Pl.once (l.take k) then Pl.once (l.take k) else Pl.once (l.take k) ++ [x] := by
  obtain ⟨hk, rfl⟩ := List.getElem?_eq_some_iff.1 h
  rw [List.take_succ_eq_append_getElem hk, Pl.once_snoc]
theorem pol_new {W : World} {x : Pol} (hx : PolOk [x]) : Reads (W.alloc (.cells #[.int .i64 x.about, .string x.pattern, .string x.reason] 37)) (W.alloc (.cells #[.int .i64 x.about, .string x.pattern, .string x.reason] 37)).heap.size 3 (some ⟨W.heap.size, 0, none⟩) 1 [.int .i64 x.about, .string x.pattern, .string x.reason] :=
  (Rd.Holds.new Rd.pol W #[.int .i64 x.about, .string x.pattern, .string x.reason] 37 [x] 1 rfl rfl hx.ok).1
theorem own_snoc {w : World} {B n : Nat} {v : Value} {l : List Pol} {x : Pol} (hn : n = l.length) (h : w.ownsRow B 37 3 v (n + 1) (Rd.pol.rows l ++ [.int .i64 x.about, .string x.pattern, .string x.reason])) : OwnPols w B v (l ++ [x]) := by
  unfold OwnPols
  rw [Rd.rows_append, Rd.rows_one, List.length_append]
  subst hn
  exact h

set_option maxRecDepth 100000 in
set_option maxHeartbeats 4000000 in
theorem once_any (A : Option Addr) (n c : Nat) (l : List Pol) (w : World) (hr : Rd.pol.Holds w A n l) (hn : n ≤ 1000000) :
    Calls Try.prog 30 #[.slice A n c] w fun e w' => ∃ v, e = .returned v ∧ Below w.heap.size w w' ∧ OwnPols w' w.heap.size v (Pl.once l) := by
  obtain ⟨i0, hi, hz0, hz1, hz2⟩ := info_parts infoPol
  have HI := Lib.hid hi; have HZ0 := Lib.hid hz0; have HZ1 := Lib.hid hz1; have HZ2 := Lib.hid hz2
  clear hi hz0 hz1 hz2
  have HL := Lib.hid hr.length
  have HOK := Lib.hid (pol_ok hr)
  obtain ⟨Z, hZ, hmk⟩ := make_pols n hn
  have HZ := Lib.hid hZ
  clear hZ
  go_enter Try.func30, Try.ntmps30
  go_wp2_with fail
  go_loopw [3, 11] (fun out i wr => ∃ k : Nat, k ≤ n ∧ i = .int .i64 k ∧ Below w.heap.size w wr ∧ OwnPols wr w.heap.size out (Pl.once (l.take k))) (fun _ i _ => n - (intOf i).toNat)
  case atStart => exact ⟨0, by omega, rfl, below_alloc (Below.refl _ _) _, by rw [List.take_zero]; exact own_made w Z n hn HZ.out (Nat.le_refl _)⟩
  case round =>
    obtain ⟨k, hk, rfl, hbw, hown⟩ := hrel
    by_cases hkn : k < n
    · obtain ⟨b, o, x, rfl, hbl, hu, hmem, _, hxa⟩ := (hr.on hbw).mid (by decide) hkn
      have x0 : wr.cell? ⟨b, o + k * 3, none⟩ = some (.int .i64 x.about) := hxa 0 _ rfl
      have x1 : wr.cell? ⟨b, o + k * 3 + 1, none⟩ = some (.string x.pattern) := hxa 1 _ rfl
      have x2 : wr.cell? ⟨b, o + k * 3 + 2, none⟩ = some (.string x.reason) := hxa 2 _ rfl
      have HT := Lib.hid (once_take hu)
      have HX : Hid (PolOk [x]) := Lib.hid (HOK.out.sub fun y hy => by simp at hy; subst hy; exact hmem)
      have hlen := Pl.once_length (l.take k)
      have hlen2 : (l.take k).length ≤ k := List.length_take_le _ _
      obtain ⟨m, hm⟩ : ∃ m, Pl.once (l.take k) = m := ⟨_, rfl⟩
      have hokm : PolOk m := HOK.out.sub fun y hy => by rw [← hm] at hy; exact List.mem_of_mem_take ((Pl.mem_once _ _).1 hy)
      rw [hm] at hown HT hlen
      have HM := Lib.hid hm
      clear hm hxa hu hmem
      go_upto_region 5 with fail
      have bx := Box.new wr [.int .i64 x.about, .string x.pattern, .string x.reason] 37
      have hbo := below_alloc (Below.refl wr.heap.size wr) (.cells #[.int .i64 x.about, .string x.pattern, .string x.reason] 37)
      have hown2 := hown.on hbo
      change Box (wr.alloc (.cells #[.int .i64 x.about, .string x.pattern, .string x.reason] 37)) _ _ at bx
      generalize wr.alloc (.cells #[.int .i64 x.about, .string x.pattern, .string x.reason] 37) = wx at bx hbo hown2 ⊢
      have hbx := below_then hbw hbo
      obtain ⟨q, hq⟩ : ∃ q, wr.heap.size = q := ⟨_, rfl⟩
      rw [hq] at bx ⊢
      clear hq x0 x1 x2 hbo hown hbw
      have p0 : wx.cell? ⟨q, 0, none⟩ = some (.int .i64 x.about) := bx.at_ 0 _ rfl
      have p1 : wx.cell? ⟨q, 1, none⟩ = some (.string x.pattern) := bx.at_ 1 _ rfl
      have p2 : wx.cell? ⟨q, 2, none⟩ = some (.string x.reason) := bx.at_ 2 _ rfl
      obtain ⟨A2, c2, rfl, hrm, _⟩ := hown2.form hokm
      obtain ⟨e0, h0⟩ : ∃ e, decide (x ∈ m) = e := ⟨_, rfl⟩
      have CM : Hid (Calls Try.prog 44 #[.slice A2 m.length c2, polA x] wx (Ret wx (.bool e0))) := Lib.hid (by rw [← h0]; exact pcontains_any A2 m.length c2 m x wx hrm (by omega))
      have H0 := Lib.hid h0
      clear h0 hrm
      go_wp2_with fail
      refine CM.out.mono ?_
      rintro e w3 ⟨rfl, bb3⟩
      have hb3 := below_then hbx bb3
      have bx3 := bx.on bb3
      have hown3 := hown2.on bb3
      clear CM p0 p1 p2 bx hown2 hbx bb3
      have p0 : w3.cell? ⟨q, 0, none⟩ = some (.int .i64 x.about) := bx3.at_ 0 _ rfl
      have p1 : w3.cell? ⟨q, 1, none⟩ = some (.string x.pattern) := bx3.at_ 1 _ rfl
      have p2 : w3.cell? ⟨q, 2, none⟩ = some (.string x.reason) := bx3.at_ 2 _ rfl
      clear bx3
      cases e0
      · have HE : Hid (Pl.once (l.take (k + 1)) = m ++ [x]) := Lib.hid (by rw [HT.out, if_neg (of_decide_eq_false H0.out)])
        have hB3 := hb3.size
        go_wp2_with (at_builtin; refine app_rows rfl (.tmp 19) (.tmp 21) 22 rfl w.heap.size 37 i0 _ 3 40 Try.underlying22 HI.out HZ0.out HZ1.out HZ2.out rfl (by decide) (by decide) _ m.length (Rd.pol.rows m) rfl (owns_on hown3 (below_alloc (Below.refl _ _) _)) _ (some ⟨w3.heap.size, 0, none⟩) 1 1 [.int .i64 x.about, .string x.pattern, .string x.reason] rfl (pol_new HX.out) ?a2 ?a3 ?a4 ?_)
        case a2 => exact Rd.pol.one x
        case a3 => omega
        case a4 => simp; omega
        intro v4 w4 hown4 hg4
        have hb4 : Below w.heap.size w w4 := (below_alloc hb3 _).grown hg4 (by simp; omega) (fun j hj => (World.ownsRow.lt hown3 _ hj).1)
        have hfin := own_snoc rfl hown4
        rw [← HE.out] at hfin
        clear hown4 hg4 hown3 hb3 hB3
        go_wp2_with fail
        exact ⟨⟨k + 1, by omega, by go_num, hb4, hfin⟩, by simp [intOf]; omega⟩
      · have HE : Hid (Pl.once (l.take (k + 1)) = m) := Lib.hid (by rw [HT.out, if_pos (of_decide_eq_true H0.out)])
        rw [← HE.out] at hown3
        have HO := Lib.hid hown3
        have hml : m.length = (Pl.once (l.take (k + 1))).length := by rw [HE.out]
        rw [← hml] at HO
        clear hown3 hml
        go_wp2_with fail
        exact ⟨⟨k + 1, by omega, by go_num, hb3, HO.out⟩, by simp [intOf]; omega⟩
    · have hlk : l.take k = l := List.take_of_length_le (by have := HL.out; omega)
      rw [hlk] at hown
      clear hlk
      go_wp2_with fail
      go_ret
      exact ⟨_, rfl, hbw, hown⟩
end Go.Proofs.Ythcbplameonjlaa
