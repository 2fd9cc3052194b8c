/-
  The walks through glob.pieces, Match, First and Any: they compute G.split, G.mt and the first index.
-/
import Derived.Test.YthcbplameonjlaaGlobW
namespace Go.Proofs.Ythcbplameonjlaa
open Go.RowKit

theorem ginfoStr : (Try.prog.info? 9).map (fun i => (i.zero, i.size, i.bytes)) = some (some (.string .empty), 1, 16) := by kernel_rfl

/-- pieces' loop: what is collected so far, and the piece that is open, make up the whole -/
def PcsInv (w : World) (p : ByteArray) (out fr : Value) (wr : World) : Prop :=
  ∃ (k f : Nat) (xs : List ByteArray), k ≤ p.size ∧ f ≤ k ∧ fr = .int .i64 f ∧ wr.heap[w.heap.size]? = some (.stringIter p k) ∧ Below w.heap.size w wr ∧
    wr.ownsRow (w.heap.size + 1) 9 1 out xs.length (strs xs) ∧ xs.length ≤ k ∧
    G.split (bs p) = xs.map bs ++ G.hcons (((bs p).take k).drop f) (G.split ((bs p).drop k))

theorem PcsInv.cut {w w' : World} {p : ByteArray} {v' : Value} {k f : Nat} {xs : List ByteArray} (hlt : k < p.size) (hc : p[k] = 42)
    (hit : w'.heap[w.heap.size]? = some (.stringIter p (k + 1))) (hb : Below w.heap.size w w')
    (hown : w'.ownsRow (w.heap.size + 1) 9 1 v' (xs.length + 1) (strs xs ++ [.string (p.extract f k)])) (hxk : xs.length ≤ k)
    (hs : G.split (bs p) = xs.map bs ++ G.hcons (((bs p).take k).drop f) (G.split ((bs p).drop k))) : PcsInv w p v' (.int .i64 ((k : Int) + 1)) w' := by
  refine ⟨k + 1, k + 1, xs ++ [p.extract f k], hlt, Nat.le_refl _, by go_num, hit, hb, by simpa [strs] using hown, by simp; omega, ?_⟩
  rw [hs, drop_at p k hlt, hc]
  have e1 : ((bs p).take (k + 1)).drop (k + 1) = [] := List.drop_eq_nil_of_le (by rw [List.length_take]; omega)
  rw [e1, G.hcons_nil (G.split_ne _)]
  simp only [G.split, if_true, G.hcons, List.append_nil, List.map_append, List.map_cons, List.map_nil, bs_extract, List.append_assoc, List.cons_append, List.nil_append, List.drop_take]
theorem pcs_end {p : ByteArray} {f : Nat} {xs : List ByteArray} (hs : G.split (bs p) = xs.map bs ++ G.hcons (((bs p).take p.size).drop f) (G.split ((bs p).drop p.size))) :
    G.split (bs p) = (xs ++ [p.extract f p.size]).map bs := by
  have e : (bs p).drop p.size = [] := List.drop_eq_nil_of_le (by rw [size_list]; exact Nat.le_refl _)
  rw [hs, e, take_all]
  simp only [G.split, G.hcons, List.append_nil, List.map_append, List.map_cons, List.map_nil, bs_extract]
  rw [List.take_of_length_le (by rw [List.length_drop, size_list]; exact Nat.le_refl _)]
theorem PcsInv.go {w w' : World} {p : ByteArray} {out : Value} {k f : Nat} {xs : List ByteArray} (hlt : k < p.size) (hfk : f ≤ k) (hc : p[k] ≠ 42)
    (hit : w'.heap[w.heap.size]? = some (.stringIter p (k + 1))) (hb : Below w.heap.size w w')
    (hown : w'.ownsRow (w.heap.size + 1) 9 1 out xs.length (strs xs)) (hxk : xs.length ≤ k)
    (hs : G.split (bs p) = xs.map bs ++ G.hcons (((bs p).take k).drop f) (G.split ((bs p).drop k))) : PcsInv w p out (.int .i64 f) w' := by
  refine ⟨k + 1, f, xs, hlt, by omega, rfl, hit, hb, hown, by omega, ?_⟩
  rw [hs, drop_at p k hlt]
  simp only [G.split, if_neg hc, G.hcons_hcons]
  rw [take_succ p k hlt, List.drop_append_of_le_length (by rw [List.length_take, size_list]; omega)]

set_option maxHeartbeats 400000 in
theorem pieces_any (p : ByteArray) (w : World) (hp : p.size ≤ 1000000) (ha : ascii p) :
    Calls Try.prog 54 #[.string p] w fun e w' => ∃ (v : Value) (xs : List ByteArray), e = .returned v ∧ Below w.heap.size w w' ∧
      w'.ownsRow w.heap.size 9 1 v xs.length (strs xs) ∧ xs.map bs = G.split (bs p) ∧ xs.length ≤ 1000001 := by
  obtain ⟨i0, hi, hz0, hz1, hz2⟩ := info_parts ginfoStr
  go_enter Try.func54, Try.ntmps54
  go_wp2
  go_loopw [3, 4] (fun out fr wr => PcsInv w p out fr wr) (fun _ _ wr => p.size - wr.iterPos w.heap.size)
  case atStart => exact ⟨0, 0, [], by omega, by omega, rfl, World.iter_heap w p 0, (Below.refl _ _).alloc (Nat.le_refl _) _, World.ownsRow_nil _ _ _ _, by simp, by simp [G.hcons_nil (G.split_ne _)]⟩
  case round =>
    obtain ⟨k, f, xs, hk, hfk, rfl, hit, hbw, hown, hxk, hsp⟩ := hrel
    have HS := Lib.hid hsp; clear hsp
    by_cases hlt : k < p.size
    · have hnx := fun ty => Lib.run_next_ascii_at (P := Try.prog) wr w.heap.size p k ty hit hlt (ha.at_ hlt)
      have hit2 := Lib.iterAt_heap wr w.heap.size p k (k+1) hit
      have hbw2 := Lib.below_iterAt hbw (k := w.heap.size) (Nat.le_refl _) p (k+1)
      have hown2 := ownsRow_iterAt hown (k := w.heap.size) (by omega) p (k+1)
      have hpos := iterPos_is hit
      have hpos2 := iterPos_is hit2
      generalize wr.iterAt w.heap.size p (k+1) = W1 at hnx hit2 hbw2 hpos2 hown2
      have Hit2 := Lib.hid hit2; clear hit2
      have Hpos := Lib.hid hpos; clear hpos
      have Hpos2 := Lib.hid hpos2; clear hpos2
      have Hit := Lib.hid hit; clear hit
      have hlt1 := lt_of_obj Hit2.out
      have hc := p[k].toNat_lt
      by_cases h42 : (p[k].toNat : Int) = 42
      · go_wp2_with (at_builtin; refine wpList_append_own _ rfl _ _ 23 rfl (w.heap.size + 1) 9 i0 (.string .empty) 1 16 Try.underlying23 hi hz0 hz1 hz2 rfl (by decide) _ _ _ rfl (hown2.alloc _) ⟨W1.heap.size, 0, none⟩ 1 1 [.string (p.extract f k)] rfl rfl ?c1 ?c2 ?c3 ?c4 ?c5 ?_)
        case c1 => exact cell_one _ _ _
        case c2 => simp [Value.oneCell']
        case c3 => unfold maxLen; omega
        case c4 => omega
        case c5 => simp; omega
        intro v' w' hown' hgrow _
        have hit3 : w'.heap[w.heap.size]? = some (.stringIter p (k + 1)) := by
          rw [hgrow.block w.heap.size (by simp; omega) (fun h => by have := (hown2.lt _ h.symm).1; omega), Below.heap_alloc _ _ _ hlt1]; exact Hit2.out
        have hbw3 : Below w.heap.size w w' := (hbw2.alloc (by omega) _).grown hgrow (by simp; omega) (fun j hj => by have := (hown2.lt _ hj).1; omega)
        have hP := PcsInv.cut hlt (u8_is 42 h42) hit3 hbw3 hown' hxk HS.out
        have hpos3 := iterPos_is hit3
        have Hpos3 := Lib.hid hpos3; clear hpos3 hit3 hown' hgrow hbw3
        go_wp2
        exact ⟨hP, by rw [Hpos.out, Hpos3.out]; omega⟩
      · have e42 := eqF h42
        have hP := PcsInv.go hlt hfk (u8_isnt 42 h42) Hit2.out hbw2 hown2 hxk HS.out
        go_wp2
        exact ⟨hP, by rw [Hpos.out, Hpos2.out]; omega⟩
    · have hnx := fun ty => Lib.run_next_end_at (P := Try.prog) wr w.heap.size p k ty hit hlt
      have hkp : k = p.size := by omega
      have HK := Lib.hid hkp; clear hkp
      have hlt1 := lt_of_obj hit
      have Hit := Lib.hid hit; clear hit
      go_wp2_with (at_builtin; refine wpList_append_own _ rfl _ _ 23 rfl (w.heap.size + 1) 9 i0 (.string .empty) 1 16 Try.underlying23 hi hz0 hz1 hz2 rfl (by decide) _ _ _ rfl (hown.alloc _) ⟨wr.heap.size, 0, none⟩ 1 1 [.string (p.extract f p.size)] rfl rfl ?c1 ?c2 ?c3 ?c4 ?c5 ?_)
      case c1 => exact cell_one _ _ _
      case c2 => simp [Value.oneCell']
      case c3 => unfold maxLen; omega
      case c4 => omega
      case c5 => simp; omega
      intro v' w' hown' hgrow _
      have hbw3 : Below w.heap.size w w' := (hbw.alloc (by omega) _).grown hgrow (by simp; omega) (fun j hj => by have := (hown.lt _ hj).1; omega)
      go_wp2
      go_ret
      refine ⟨v', xs ++ [p.extract f p.size], rfl, hbw3, ?_, ?_, by simp; omega⟩
      · have := hown'.mono (base' := w.heap.size) (by omega)
        simpa [strs] using this
      · have e := HK.out
        subst e
        exact (pcs_end HS.out).symm
end Go.Proofs.Ythcbplameonjlaa
