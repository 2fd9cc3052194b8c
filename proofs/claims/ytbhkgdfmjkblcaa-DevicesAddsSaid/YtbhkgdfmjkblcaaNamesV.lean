/-
  The walks through ids.Names and ids.Find.
-/
import Derived.Test.YtbhkgdfmjkblcaaNamesW
namespace Go.Proofs.Ytbhkgdfmjkblcaa
open Go.RowKit

theorem run_makeMap_hint {P : Program} (t k e : TypeId) (kd : IntKind) (n : Int) (ht : P.underlying t = some (.map k e)) (w : World) :
    (Instr.makeMap t (some (.int kd n))).run P w = .ok (.map (some w.heap.size)) (w.alloc (.map #[] 0)) := by
  simp [Instr.makeMap, run_underlying ht]; rfl
theorem make_strs {P : Program} (t e : TypeId) (i : TypeInfo) (ht : P.underlying t = some (.slice e)) (hi : P.info? e = some i) (hz : i.zero = some (.string .empty)) (h1 : i.size = 1) (h2 : i.bytes = 16)
    (c : Nat) (hc : c ≤ 1000000) (w : World) :
    (Instr.makeSlice t (.int .i64 0) (.int .i64 (c : Int))).run P w = .ok (.slice (some ⟨w.heap.size, 0, none⟩) 0 c) (w.alloc (.cells (madeCells #[.string .empty] c) e)) := by
  have h := run_make (P := P) w t e i (.string .empty) ht hi hz .i64 .i64 0 (c : Int) (by omega) (by omega) (by rw [h2]; omega) (by omega)
  simpa [h1, Value.cells] using h

/-- the strings of a list, as lists of bytes -/
abbrev bss (l : List ByteArray) : List (List UInt8) := l.map bs
theorem bss_take {l : List ByteArray} {k : Nat} {x : ByteArray} (h : l[k]? = some x) : (bss l).take (k + 1) = (bss l).take k ++ [bs x] := by
  obtain ⟨hk, hx⟩ := List.getElem?_eq_some_iff.1 h
  rw [List.take_succ_eq_append_getElem (by simpa using hk)]; simp [hx]
/-- 'v' is a row of the call's own, from block B on, that holds just the strings l -/
def OwnStrs (w : World) (B : Nat) (v : Value) (l : List (List UInt8)) : Prop := w.ownsRow B 9 1 v l.length (l.map encStr)

theorem owns_made (w : World) {B g : Nat} (n : Nat) (hg : g = w.heap.size) (hB : B ≤ w.heap.size) (hn : n ≤ 1000000) :
    OwnStrs (w.alloc (.cells (madeCells #[.string .empty] n) 9)) B (.slice (some ⟨g, 0, none⟩) 0 n) [] := by
  subst hg
  exact World.ownsRow_made w _ n hB (by unfold maxLen; omega) (by simp [size_madeCells])

def NamesInv (w : World) (l : List ByteArray) (out i : Value) (wr : World) : Prop :=
  ∃ k : Nat, k ≤ l.length ∧ i = .int .i64 k ∧ Below w.heap.size w wr ∧ OwnStrs wr (w.heap.size + 1) out (Nm.firsts ((bss l).take k)) ∧ SetAt wr w.heap.size k (Nm.firsts ((bss l).take k))

set_option maxRecDepth 100000 in
set_option maxHeartbeats 1000000 in
theorem names_any (A : Option Addr) (n c : Nat) (l : List ByteArray) (w : World) (hr : Strs w A n l) (hn : n ≤ 1000000) (hx : ∀ x ∈ l, x.size ≤ maxLen) :
    Calls Try.prog 57 #[.slice A n c] w fun e w' => ∃ v, e = .returned v ∧ Below w.heap.size w w' ∧ OwnStrs w' w.heap.size v (Nm.names (bss l)) := by
  obtain ⟨i0, hi, hz0, hz1, hz2⟩ := info_parts infoStr
  have hmm := run_makeMap_hint (P := Try.prog) 84 9 4 .i64 (n : Int) Try.underlying84
  have hmk := make_strs (P := Try.prog) 36 9 i0 Try.underlying36 hi hz0 hz1 hz2 n hn
  have HL := Lib.hid hr.length
  go_enter Try.func57, Try.ntmps57
  go_wp2_with fail
  go_loopw [4, 15] (fun out i wr => NamesInv w l out i wr) (fun _ i _ => n - (intOf i).toNat)
  case atStart =>
    refine ⟨0, by omega, rfl, (below_alloc (below_alloc (Below.refl _ _) _) _), ?_, ?_⟩
    · exact owns_made (w.alloc (.map #[] 0)) n (by simp) (by simp) hn
    · exact (SetIn.made w).alloc _
  case round =>
    obtain ⟨k, hk, rfl, hbw, hown, hset⟩ := hrel
    have hBw : w.heap.size + 1 ≤ wr.heap.size := SetIn.lt hset
    by_cases hlt : k < n
    · obtain ⟨ad, x, rfl, hadb, hu, hc⟩ := (hr.on hbw).at_ hlt
      have hxm := hx x (List.mem_of_getElem? hu)
      have hlook := hset.look x hxm
      have HT := Lib.hid (bss_take hu); clear hu
      have hk1 : k + 1 ≤ l.length := by have := HL.out; omega
      by_cases hm : bs x ∈ Nm.firsts ((bss l).take k)
      · rw [decide_eq_true hm] at hlook
        have hF : Nm.firsts ((bss l).take (k + 1)) = Nm.firsts ((bss l).take k) := by rw [HT.out, Nm.firsts_snoc, if_pos hm]
        have HF := Lib.hid hF; clear hF hm
        go_wp2_with fail
        exact ⟨⟨k + 1, hk1, by go_num, hbw, by rw [HF.out]; exact hown, by rw [HF.out]; exact SetIn.mono hset (by omega)⟩, by simp [intOf]; omega⟩
      · rw [decide_eq_false hm] at hlook
        have hF : Nm.firsts ((bss l).take (k + 1)) = Nm.firsts ((bss l).take k) ++ [bs x] := by rw [HT.out, Nm.firsts_snoc, if_neg hm]
        have HF := Lib.hid hF; clear hF hm
        obtain ⟨w1, hput, hset1, hg1⟩ := hset.put x hxm (by unfold maxLen; omega)
        have hbw1 : Below w.heap.size w w1 := hbw.grown hg1 hbw.size (fun j hj => by cases hj; exact Nat.le_refl _)
        have hown1 : OwnStrs w1 (w.heap.size + 1) u4 (Nm.firsts ((bss l).take k)) := hown.kept hg1 (.inr fun e => by have := (hown.lt _ e).1; omega)
        have hlen := Nat.le_trans (Nm.firsts_length ((bss l).take k)) (List.length_take_le _ _)
        have hs1 : wr.heap.size ≤ w1.heap.size := hg1.size
        have hlt1 := SetIn.lt hset1
        go_wp2_with (at_builtin; refine wpList_append_own _ rfl _ _ 36 rfl (w.heap.size + 1) 9 i0 (.string .empty) 1 16 Try.underlying36 hi hz0 hz1 hz2 rfl (by decide) _ _ _ rfl (World.ownsRow.alloc hown1 _) ⟨w1.heap.size, 0, none⟩ 1 1 [.string x] rfl rfl ?c1 ?c2 ?c3 ?c4 ?c5 ?_)
        case c1 => exact cell_one _ _ _
        case c2 => simp [Value.oneCell']
        case c3 => unfold maxLen; omega
        case c4 => omega
        case c5 => simp; omega
        intro v' w' hown' hgrow _
        have hbw3 : Below w.heap.size w w' := (hbw1.alloc (by omega) _).grown hgrow (by simp; omega) (fun j hj => by have := (World.ownsRow.lt hown1 _ hj).1; omega)
        have hset3 : SetAt w' w.heap.size (k + 1) (Nm.firsts ((bss l).take (k + 1))) := by
          rw [HF.out]
          exact SetIn.kept (SetIn.alloc hset1 _) hgrow (fun e => by have := (World.ownsRow.lt hown1 _ e.symm).1; omega)
        have hown3 : OwnStrs w' (w.heap.size + 1) v' (Nm.firsts ((bss l).take (k + 1))) := by
          rw [HF.out]
          unfold OwnStrs
          rw [List.length_append, List.map_append]
          have : ([bs x].map encStr) = [Value.string x] := by simp [encStr]
          rw [this]; exact hown'
        clear hown' hgrow
        go_wp2_with fail
        exact ⟨⟨k + 1, hk1, by go_num, hbw3, hown3, hset3⟩, by simp [intOf]; omega⟩
    · have hkn : k = l.length := by have := HL.out; omega
      have hF : Nm.firsts ((bss l).take k) = Nm.firsts (bss l) := by rw [hkn, List.take_of_length_le (by simp)]
      rw [hF] at hown
      have hlen := Nm.firsts_length (bss l)
      have hl2 : (bss l).length = l.length := by simp
      have HKN := Lib.hid hkn; clear hkn hF hset
      have HL2 := Lib.hid hl2; clear hl2
      go_wp2_with fail
      refine (sort_any (w.heap.size + 1) u4 (Nm.firsts (bss l)) wr hown (by have := HL2.out; have := HL.out; omega)).mono ?_
      rintro e w1 ⟨rfl, hown1, hg1⟩
      have hbw1 : Below w.heap.size w w1 := hbw.grown hg1 hbw.size (fun j hj => by have := (World.ownsRow.lt hown _ hj).1; omega)
      go_wp2_with fail
      go_ret
      refine ⟨u4, rfl, hbw1, ?_⟩
      have := World.ownsRow.mono (base' := w.heap.size) hown1 (by omega)
      unfold OwnStrs Nm.names
      rw [(Nm.sorted_perm _).length_eq]; exact this
end Go.Proofs.Ytbhkgdfmjkblcaa
