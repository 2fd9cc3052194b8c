/-
  The walks through the reference's tests of policies, and Match on both sides.
-/
import Derived.Test.YthcbplameonjlaaPolP
import Derived.Test.YthcbplameonjlaaRet
import Derived.Test.YthcbplameonjlaaRow
import Derived.Test.YthcbplameonjlaaAppD
import Derived.Test.YthcbplameonjlaaChecked
import Derived.Test.YthcbplameonjlaaGlobR
import Derived.Deep.RegionHeld3
import Derived.Deep.DeepCutAuto
import Derived.BigQuiet
namespace Go.Proofs.Ythcbplameonjlaa
open Go.RowKit

/-! ### a policy, laid into cells whole -/
theorem ex_st_pol (ρ : Operand → Value) (dst : Option Tmp) (x y : Operand) (ty : TypeId) (pos : String) (after : Array Edge) (guard : Option (Nat × Bool)) :
    execOp ρ ⟨dst, .store 37 x y, ty, pos, after, guard⟩ = (do stC 37 (ρ x) (ρ y); pure .skip) := rfl
theorem infoPol : (Try.prog.info? 37).map (fun i => (i.zero, i.size, i.bytes)) = some (some (.agg #[.int .i64 0, .string .empty, .string .empty]), 3, 40) := by kernel_rfl
theorem inf_pol : (Try.prog.info? 37).map (·.size) = some 3 := by kernel_rfl
theorem st_pol_new (W : World) (g : Nat) (c0 : Array Value) (k : Int) (p r : ByteArray) (hg : g = W.heap.size) (hs : c0.size = 3) : (stC 37 (.pointer (some ⟨g, 0, none⟩)) (.agg #[.int .i64 k, .string p, .string r])).run Try.prog (W.alloc (.cells c0 37)) = .ok () (W.alloc (.cells #[.int .i64 k, .string p, .string r] 37)) :=
  run_stC_new _ W g c0 _ hg (by rw [inf_pol]; rfl) (by rw [hs]; rfl) (by simp [Value.oneCell'])
theorem st_pol (W : World) (g : Nat) (k : Int) (p r : ByteArray) (h : thereB W g 3 = true) : (stC 37 (.pointer (some ⟨g, 0, none⟩)) (.agg #[.int .i64 k, .string p, .string r])).run Try.prog W = .ok () (putRow W g [.int .i64 k, .string p, .string r]) :=
  run_stC_mid _ W g _ h (by rw [inf_pol]; rfl) (by simp [Value.oneCell'])
attribute [local go_sem ↓] ex_st_pol
attribute [local go_sem] st_pol_new st_pol
abbrev polA (x : Pol) : Value := .agg #[.int .i64 x.about, .string x.pattern, .string x.reason]

theorem pol_dec {x y : Pol} {e1 e2 e3 : Bool} (h1 : (x.about == y.about) = e1) (h2 : (x.pattern.toList == y.pattern.toList) = e2) (h3 : (x.reason.toList == y.reason.toList) = e3) : decide (x = y) = (e1 && e2 && e3) := by
  subst h1 h2 h3
  obtain ⟨a, p, r⟩ := x
  obtain ⟨b, q, s⟩ := y
  rw [streq', streq', Bool.eq_iff_iff]
  simp [and_assoc]
set_option maxHeartbeats 1000000 in
theorem samePol_any (x y : Pol) (w : World) : Calls Try.prog 26 #[polA x, polA y] w (Ret w (.bool (decide (x = y)))) := by
  obtain ⟨e1, h1⟩ : ∃ e, (x.about == y.about) = e := ⟨_, rfl⟩
  obtain ⟨e2, h2⟩ : ∃ e, (x.pattern.toList == y.pattern.toList) = e := ⟨_, rfl⟩
  obtain ⟨e3, h3⟩ : ∃ e, (x.reason.toList == y.reason.toList) = e := ⟨_, rfl⟩
  have HD := Lib.hid (pol_dec h1 h2 h3)
  obtain ⟨wa, hwa⟩ : ∃ wa : World, wa = (w.alloc (.cells #[.int .i64 x.about, .string x.pattern, .string x.reason] 37)).alloc (.cells #[.int .i64 y.about, .string y.pattern, .string y.reason] 37) := ⟨_, rfl⟩
  have hba : Below w.heap.size w wa := by rw [hwa]; exact below_alloc (below_alloc (Below.refl _ _) _) _
  have b0 : Box wa w.heap.size [.int .i64 x.about, .string x.pattern, .string x.reason] := by rw [hwa]; exact (Box.new w [.int .i64 x.about, .string x.pattern, .string x.reason] _).on (below_alloc (Below.refl _ _) _)
  have b1 : Box wa (w.heap.size + 1) [.int .i64 y.about, .string y.pattern, .string y.reason] := by rw [hwa]; simpa using Box.new (w.alloc (.cells #[.int .i64 x.about, .string x.pattern, .string x.reason] 37)) [.int .i64 y.about, .string y.pattern, .string y.reason] 37
  have k0 : wa.cell? ⟨w.heap.size, 0, none⟩ = some (.int .i64 x.about) := b0.at_ 0 _ rfl
  have k1 : wa.cell? ⟨w.heap.size, 1, none⟩ = some (.string x.pattern) := b0.at_ 1 _ rfl
  have k2 : wa.cell? ⟨w.heap.size, 2, none⟩ = some (.string x.reason) := b0.at_ 2 _ rfl
  have j0 : wa.cell? ⟨w.heap.size + 1, 0, none⟩ = some (.int .i64 y.about) := b1.at_ 0 _ rfl
  have j1 : wa.cell? ⟨w.heap.size + 1, 1, none⟩ = some (.string y.pattern) := b1.at_ 1 _ rfl
  have j2 : wa.cell? ⟨w.heap.size + 1, 2, none⟩ = some (.string y.reason) := b1.at_ 2 _ rfl
  go_enter Try.func26, Try.ntmps26
  go_upto_region 1 with fail
  rw [← hwa]
  have HW := Lib.hid hwa; clear hwa b0 b1
  cases e1 <;> cases e2 <;> cases e3
  all_goals
    go_wp2_with fail
    go_ret
    exact ⟨by rw [HD.out]; rfl, hba⟩

set_option maxRecDepth 100000 in
set_option maxHeartbeats 2000000 in
theorem samePols_any (A B : Option Addr) (n c d : Nat) (l : List Pol) (w : World) (ha : Rd.pol.Holds w A n l) (hb : Rd.pol.Holds w B n l) (hn : n ≤ 1000000) :
    Calls Try.prog 16 #[.slice A n c, .slice B n d] w (Ret w (.bool true)) := by
  go_enter Try.func16, Try.ntmps16
  go_wp2_with fail
  go_loopw [5] (fun i wr => ∃ k : Nat, k ≤ n ∧ i = .int .i64 k ∧ Below w.heap.size w wr) (fun i _ => n - (intOf i).toNat)
  case atStart => exact ⟨0, by omega, rfl, Below.refl _ _⟩
  case round =>
    obtain ⟨k, hk, rfl, hbw⟩ := hrel
    by_cases hlt : k < n
    · obtain ⟨b1, o1, x, rfl, hl1, hu, _, _, hxa⟩ := (ha.on hbw).mid (by decide) hlt
      obtain ⟨b2, o2, y, rfl, hl2, hv, _, _, hya⟩ := (hb.on hbw).mid (by decide) hlt
      obtain rfl : x = y := by rw [hu] at hv; cases hv; rfl
      have BX := Lib.hid (fun V (h : Below wr.heap.size wr V) => (⟨h, (range_on hxa h hl1) 0 _ rfl, (range_on hxa h hl1) 1 _ rfl, (range_on hxa h hl1) 2 _ rfl, (range_on hya h hl2) 0 _ rfl, (range_on hya h hl2) 1 _ rfl, (range_on hya h hl2) 2 _ rfl⟩ :
        Below wr.heap.size wr V ∧ V.cell? ⟨b1, o1 + k * 3, none⟩ = some (.int .i64 x.about) ∧ V.cell? ⟨b1, o1 + k * 3 + 1, none⟩ = some (.string x.pattern) ∧ V.cell? ⟨b1, o1 + k * 3 + 2, none⟩ = some (.string x.reason) ∧ V.cell? ⟨b2, o2 + k * 3, none⟩ = some (.int .i64 x.about) ∧ V.cell? ⟨b2, o2 + k * 3 + 1, none⟩ = some (.string x.pattern) ∧ V.cell? ⟨b2, o2 + k * 3 + 2, none⟩ = some (.string x.reason)))
      have CD : Hid (∀ V, Calls Try.prog 26 #[polA x, polA x] V (Ret V (.bool true))) := Lib.hid fun V => by have := samePol_any x x V; rwa [decide_eq_true rfl] at this
      have hk0 : (k : Int) < n := by omega
      clear hu hv hxa hya
      go_wp2_with fail
      go_cut [26] (fun s V => s = .bool false ∧ Below wr.heap.size wr V)
      case rest =>
        obtain ⟨rfl, hbv⟩ := hcut
        have hb3 := below_then hbw hbv
        clear BX CD hbv
        go_wp2_with fail
        exact ⟨⟨k + 1, by omega, by go_num, hb3⟩, by simp [intOf]; omega⟩
      go_region_held3 (fun V => Below wr.heap.size wr V ∧ V.cell? ⟨b1, o1 + k * 3, none⟩ = some (.int .i64 x.about) ∧ V.cell? ⟨b1, o1 + k * 3 + 1, none⟩ = some (.string x.pattern) ∧ V.cell? ⟨b1, o1 + k * 3 + 2, none⟩ = some (.string x.reason) ∧ V.cell? ⟨b2, o2 + k * 3, none⟩ = some (.int .i64 x.about) ∧ V.cell? ⟨b2, o2 + k * 3 + 1, none⟩ = some (.string x.pattern) ∧ V.cell? ⟨b2, o2 + k * 3 + 2, none⟩ = some (.string x.reason))
        (first | exact BX.out _ (by assumption) | exact BX.out _ (Below.refl _ _) | exact BX.out _ (Below.drew (Below.refl _ _)) | exact BX.out _ (Below.drew (by assumption)))
        (first | (go_at_call 26; have hB := And.left ‹Below wr.heap.size wr _ ∧ _›; refine (CD.out _).mono ?_; rintro e wz ⟨rfl, bz⟩; have bz2 : Below wr.heap.size wr wz := below_then hB bz; clear bz hB))
      all_goals
        have hB9 := And.left ‹Below wr.heap.size wr _ ∧ _›
        clear BX
        go_wp2_with fail
      all_goals go_meet
      all_goals exact ⟨rfl, hB9⟩
    · go_wp2_with fail
      go_ret
      exact ⟨rfl, hbw⟩

/-- it returns some bool b of which P b holds -/
def SomeP (P : Bool → Prop) (w : World) (e : Ending) (w' : World) : Prop := ∃ b, e = .returned (.bool b) ∧ P b ∧ Below w.heap.size w w'
def PolsS (l : List Pol) : Prop := ∀ x ∈ l, x.pattern.size ≤ 80 ∧ x.reason.size ≤ 80
set_option maxHeartbeats 1000000 in
theorem rgreat47_any (A : Option Addr) (n c : Nat) (l : List Pol) (w : World) (hr : Rd.pol.Holds w A n l) (hn : n ≤ maxLen) :
    Calls Try.prog 9 #[.slice A n c] w (SomeP (fun b => b = false → n ≤ 20 ∧ PolsS l) w) := by
  unfold maxLen at hn
  have HL := Lib.hid hr.length
  by_cases h20 : (20 : Int) < n
  · go_enter Try.func9, Try.ntmps9
    go_wp2_with fail
    go_ret
    exact ⟨true, rfl, by simp, Below.refl _ _⟩
  · go_enter Try.func9, Try.ntmps9
    go_wp2_with fail
    go_loop [3] (fun i => ∃ k : Nat, k ≤ n ∧ i = .int .i64 k ∧ PolsS (l.take k)) (fun i => n - (intOf i).toNat)
    case atStart => exact ⟨0, by omega, rfl, fun x hx => by simp at hx⟩
    case round =>
      obtain ⟨k, hk, rfl, hps⟩ := hrel
      by_cases hlt : k < n
      · obtain ⟨b1, o1, x, rfl, hl1, hu, _, _, hxa⟩ := hr.mid (by decide) hlt
        have x1 : w.cell? ⟨b1, o1 + k * 3 + 1, none⟩ = some (.string x.pattern) := hxa 1 _ rfl
        have x2 : w.cell? ⟨b1, o1 + k * 3 + 2, none⟩ = some (.string x.reason) := hxa 2 _ rfl
        have hk0 : (k : Int) < n := by omega
        have hkl : k < l.length := by have := HL.out; omega
        obtain ⟨_, hux⟩ := List.getElem?_eq_some_iff.1 hu
        by_cases h1 : (80 : Int) < (x.pattern.size : Nat)
        · have e1 : decide ((80 : Int) < (x.pattern.size : Nat)) = true := decide_eq_true h1
          clear hxa hps hu hux
          go_wp2_with fail
          go_ret
          exact ⟨true, rfl, by simp, Below.refl _ _⟩
        have e1 : decide ((80 : Int) < (x.pattern.size : Nat)) = false := decide_eq_false h1
        by_cases h2 : (80 : Int) < (x.reason.size : Nat)
        · have e2 : decide ((80 : Int) < (x.reason.size : Nat)) = true := decide_eq_true h2
          clear hxa hps hu hux
          go_wp2_with fail
          go_ret
          exact ⟨true, rfl, by simp, Below.refl _ _⟩
        have e2 : decide ((80 : Int) < (x.reason.size : Nat)) = false := decide_eq_false h2
        have HP : Hid (PolsS (l.take (k + 1))) := Lib.hid fun y hy => by
          rw [List.take_succ_eq_append_getElem hkl, List.mem_append, List.mem_singleton] at hy
          rcases hy with h | rfl
          · exact hps y h
          · rw [hux]; omega
        clear hxa hps hu hux h1 h2
        go_wp2_with fail
        exact ⟨⟨k + 1, by omega, by go_num, HP.out⟩, by simp [intOf]; omega⟩
      · have HP : Hid (PolsS l) := Lib.hid (by have := HL.out; rwa [List.take_of_length_le (by omega)] at hps)
        clear hps
        go_wp2_with fail
        go_ret
        exact ⟨false, rfl, fun _ => ⟨by omega, HP.out⟩, Below.refl _ _⟩
set_option maxHeartbeats 1000000 in
theorem rgreatNames_any (A : Option Addr) (n c : Nat) (l : List ByteArray) (w : World) (hr : Strs w A n l) (hn : n ≤ maxLen) :
    Calls Try.prog 10 #[.slice A n c] w (SomeP (fun b => b = false → n ≤ 20 ∧ ∀ x ∈ l, x.size ≤ 80) w) := by
  unfold maxLen at hn
  have HL := Lib.hid hr.length
  by_cases h20 : (20 : Int) < n
  · go_enter Try.func10, Try.ntmps10
    go_wp2_with fail
    go_ret
    exact ⟨true, rfl, by simp, Below.refl _ _⟩
  · go_enter Try.func10, Try.ntmps10
    go_wp2_with fail
    go_loop [3] (fun i => ∃ k : Nat, k ≤ n ∧ i = .int .i64 k ∧ Hid (∀ x ∈ l.take k, x.size ≤ 80)) (fun i => n - (intOf i).toNat)
    case atStart => exact ⟨0, by omega, rfl, Lib.hid fun x hx => by simp at hx⟩
    case round =>
      obtain ⟨k, hk, rfl, hps⟩ := hrel
      by_cases hlt : k < n
      · obtain ⟨ad, x, rfl, hadb, hu, hc⟩ := hr.at_ hlt
        have hk0 : (k : Int) < n := by omega
        have hkl : k < l.length := by have := HL.out; omega
        obtain ⟨_, hux⟩ := List.getElem?_eq_some_iff.1 hu
        by_cases h1 : (80 : Int) < (x.size : Nat)
        · have e1 : decide ((80 : Int) < (x.size : Nat)) = true := decide_eq_true h1
          clear hps hu hux
          go_wp2_with fail
          go_ret
          exact ⟨true, rfl, by simp, Below.refl _ _⟩
        have e1 : decide ((80 : Int) < (x.size : Nat)) = false := decide_eq_false h1
        have HP : Hid (∀ y ∈ l.take (k + 1), y.size ≤ 80) := Lib.hid fun y hy => by
          rw [List.take_succ_eq_append_getElem hkl, List.mem_append, List.mem_singleton] at hy
          rcases hy with h | rfl
          · exact hps.out y h
          · rw [hux]; omega
        clear hps hu hux h1
        go_wp2_with fail
        exact ⟨⟨k + 1, by omega, by go_num, HP⟩, by simp [intOf]; omega⟩
      · have HP : Hid (∀ y ∈ l, y.size ≤ 80) := Lib.hid (by have := HL.out; have h := hps.out; rwa [List.take_of_length_le (by omega)] at h)
        clear hps
        go_wp2_with fail
        go_ret
        exact ⟨false, rfl, fun _ => ⟨by omega, HP.out⟩, Below.refl _ _⟩
end Go.Proofs.Ythcbplameonjlaa
