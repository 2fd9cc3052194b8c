/-
  The walks through the reference's put and With.
-/
import Derived.Test.YtlfdafelceipfaaMemW
import Derived.Test.YtlfdafelceipfaaAppW
namespace Go.Proofs.Ytlfdafelceipfaa
open Go.RowKit

/-- a slice that reads as the list l -/
def IsStrs (w : World) (v : Value) (l : List (List UInt8)) : Prop := ∃ A c, v = .slice A l.length c ∧ l.length ≤ c ∧ Strs w A l.length (l.map mk)
theorem IsStrs.on {w w' : World} {v : Value} {l : List (List UInt8)} (h : IsStrs w v l) (hb : Below w.heap.size w w') : IsStrs w' v l := by
  obtain ⟨A, c, h1, h2, h3⟩ := h; exact ⟨A, c, h1, h2, h3.on hb⟩
theorem IsStrs.of_own {w : World} {B n : Nat} {v : Value} {l : List (List UInt8)} (h : w.ownsRow B 9 1 v n (l.map encStr)) (hn : n = l.length) : IsStrs w v l := by
  subst hn
  obtain ⟨A, c, rfl, h1, h2⟩ := own_form h
  refine ⟨A, c, rfl, h1, ?_⟩
  unfold Strs
  rw [strs_mk]; exact h2
theorem map_take_mk (l : List (List UInt8)) (k : Nat) : (l.map mk).take k = (l.take k).map mk := by rw [List.map_take]
theorem strs_take (xs : List ByteArray) (k : Nat) : (strs xs).take k = strs (xs.take k) := by simp [strs, List.map_take]
theorem strs_drop (xs : List ByteArray) (k : Nat) : (strs xs).drop k = strs (xs.drop k) := by simp [strs, List.map_drop]
theorem one_enc (l : List (List UInt8)) : ∀ u ∈ l.map encStr, u.oneCell' = true := by
  intro u hu; obtain ⟨x, _, rfl⟩ := List.mem_map.1 hu; rfl
theorem one_take (l : List (List UInt8)) (k : Nat) : ∀ u ∈ (l.map encStr).take k, u.oneCell' = true := fun u hu => one_enc l u (List.mem_of_mem_take hu)
theorem one_drop (l : List (List UInt8)) (k : Nat) : ∀ u ∈ (l.map encStr).drop k, u.oneCell' = true := fun u hu => one_enc l u (List.mem_of_mem_drop hu)
theorem reads_new (w : World) (s : ByteArray) (t : TypeId) : Reads (w.alloc (.cells #[.string s] t)) (w.heap.size + 1) 1 (some ⟨w.heap.size, 0, none⟩) 1 [.string s] :=
  ⟨rfl, fun _ => ⟨_, rfl, Nat.lt_succ_self _, cell_one w (.string s) t⟩⟩
theorem put_row {w : World} {B n k : Nat} {v : Value} {l : List (List UInt8)} {s : ByteArray} (h : w.ownsRow B 9 1 v (k + 1 + (n - k)) ((l.map encStr).take k ++ .string s :: (l.map encStr).drop k)) :
    w.ownsRow B 9 1 v (k + 1 + (n - k)) ((l.take k ++ bs s :: l.drop k).map encStr) := by
  have e : (l.take k ++ bs s :: l.drop k).map encStr = (l.map encStr).take k ++ .string s :: (l.map encStr).drop k := by simp [encStr, List.map_take, List.map_drop]
  rw [e]; exact h
theorem put_end {w : World} {B n : Nat} {v : Value} {l : List (List UInt8)} {s : ByteArray} (hl : l.length = n) (h : w.ownsRow B 9 1 v (n + 1) ((l.map encStr).take n ++ [.string s])) :
    w.ownsRow B 9 1 v (n + 1) ((l.take n ++ bs s :: l.drop n).map encStr) := by
  have e : (l.take n ++ bs s :: l.drop n).map encStr = (l.map encStr).take n ++ [.string s] := by
    rw [List.drop_of_length_le (by omega)]
    simp [encStr, List.map_take]
  rw [e]; exact h
theorem put_len {n k : Nat} {l : List (List UInt8)} {x : List UInt8} (hl : l.length = n) (hk : k ≤ n) : k + 1 + (n - k) = (l.take k ++ x :: l.drop k).length := by simp; omega
def KRel (l : List (List UInt8)) (x : List UInt8) (j : Value) : Prop := ∃ k : Nat, j = .int .i64 k ∧ k ≤ l.length ∧ ∀ i y, l[i]? = some y → i < k → y < x

set_option maxRecDepth 100000 in
set_option maxHeartbeats 2000000 in
theorem rput_any (A : Option Addr) (n c : Nat) (l : List (List UInt8)) (s : ByteArray) (w : World) (hr : Strs w A n (l.map mk)) (hn : n ≤ 900000) (hc : n ≤ c) :
    Calls Try.prog 56 #[.slice A n c, .string s] w fun e w' => ∃ v, e = .returned v ∧ Below w.heap.size w w' ∧ IsStrs w' v (Nm.ins (bs s) l) := by
  obtain ⟨i0, hi, hz0, hz1, hz2⟩ := info_parts infoStr
  have hL : l.length = n := by have := hr.length; simpa using this
  have HL := Lib.hid hL
  clear hL
  go_enter Try.func56, Try.ntmps56
  go_wp2_with fail
  go_loop [5] (fun j => KRel l (bs s) j) (fun j => n - (intOf j).toNat)
  case atStart => exact ⟨0, rfl, by omega, fun i y _ h => by omega⟩
  case round =>
    obtain ⟨k, rfl, hk, hless⟩ := hrel
    have hkn : k ≤ n := by have := HL.out; omega
    have tail : (∀ y, l[k]? = some y → ¬ y < bs s) → ¬ l[k]? = some (bs s) → Hid (Nm.ins (bs s) l = l.take k ++ bs s :: l.drop k) := fun h1 h2 => by
      show _ = _
      rw [ins_at hless hk h1, if_neg h2]
    by_cases hlt : k < n
    · obtain ⟨ad, x, rfl, _, hu, hcx⟩ := hr.at_ hlt
      obtain ⟨y, hy, rfl⟩ : ∃ y, l[k]? = some y ∧ mk y = x := by
        rw [List.getElem?_map] at hu
        obtain ⟨y, h1, h2⟩ := Option.map_eq_some_iff.1 hu
        exact ⟨y, h1, h2⟩
      clear hu
      by_cases hyx : y < bs s
      · have e1 : Op.bytesLess (mk y).toList s.toList = true := by rw [bytesLess_lt, bs_mk]; exact decide_eq_true hyx
        have hl2 : ∀ i z, l[i]? = some z → i < k + 1 → z < bs s := fun i z hz hi => by
          rcases Nat.lt_or_ge i k with h1 | h1
          · exact hless i z hz h1
          · obtain rfl : i = k := by omega
            rw [hy] at hz; cases hz; exact hyx
        have HK := Lib.hid (show KRel l (bs s) (.int .i64 ((k : Int) + 1)) from ⟨k + 1, by go_num, by have := HL.out; omega, hl2⟩)
        clear hl2 hless hy hyx tail
        go_wp2_with fail
        exact ⟨HK.out, by simp [intOf]; omega⟩
      · have e1 : Op.bytesLess (mk y).toList s.toList = false := by rw [bytesLess_lt, bs_mk]; exact decide_eq_false hyx
        by_cases hyx2 : y = bs s
        · have e2 : ((mk y).toList == s.toList) = true := by rw [streq, bs_mk]; exact decide_eq_true hyx2
          have HI : Hid (Nm.ins (bs s) l = l) := by
            show _ = _
            rw [ins_at hless hk (fun z hz => by rw [hy] at hz; cases hz; exact hyx), if_pos (by rw [hy, hyx2])]
          clear hless hy hyx hyx2 tail
          go_wp2_with fail
          go_ret
          refine ⟨.slice (some ad) n c, rfl, Below.refl _ _, ?_⟩
          rw [HI.out]
          exact ⟨_, c, by rw [HL.out], by rw [HL.out]; exact hc, by rw [HL.out]; exact hr⟩
        · have e2 : ((mk y).toList == s.toList) = false := by rw [streq, bs_mk]; exact decide_eq_false hyx2
          have HI := tail (fun z hz => by rw [hy] at hz; cases hz; exact hyx) (by rw [hy]; intro e; cases e; exact hyx2 rfl)
          clear hless hy hyx hyx2 tail
          have hkc : (k : Int) ≤ c := by omega
          have hfr : Reads w w.heap.size 1 (some ad) k ((l.map encStr).take k) := by
            have h := Reads.front hr hkn
            rwa [Nat.mul_one, strs_mk] at h
          have hdr : Reads w w.heap.size 1 (if c = k then (some ad) else ((some ad) : Option Addr).map (·.add k)) (n - k) ((l.map encStr).drop k) := by
            have h := Reads.cut hr hkn hc
            rwa [Nat.mul_one, strs_mk] at h
          have hown0 : (w.alloc (.cells #[] 9)).ownsRow w.heap.size 9 1 (.slice (some ⟨w.heap.size, 0, none⟩) 0 0) 0 [] := World.ownsRow_made w _ 0 (Nat.le_refl _) (by unfold maxLen; omega) (by simp)
          have HF := Lib.hid hfr; have HD := Lib.hid hdr
          clear hfr hdr hr
          go_wp2_with (at_builtin; refine app_rows rfl (.tmp 34) (.tmp 37) 30 rfl w.heap.size 9 i0 (.string .empty) 1 16 Try.underlying30 hi hz0 hz1 hz2 rfl (by decide) (by decide) _ 0 [] rfl hown0 w.heap.size (some ad) k c ((l.map encStr).take k) rfl ?a1x ?a2x ?a3x ?a4x ?_)
          case a1x => exact HF.out.below (below_alloc (Below.refl _ _) _)
          case a2x => exact one_take l k
          case a3x => omega
          intro v1 w1 hown1 hg1
          have hb1 : Below w.heap.size w w1 := (below_alloc (Below.refl _ _) _).grown hg1 (by simp) (fun j hj => by simp [Value.ownBlock] at hj; omega)
          go_wp2_with (at_builtin; refine app_rows rfl (.tmp 39) (.tmp 41) 30 rfl w.heap.size 9 i0 (.string .empty) 1 16 Try.underlying30 hi hz0 hz1 hz2 rfl (by decide) (by decide) _ _ _ rfl (World.ownsRow.alloc hown1 _) (w1.heap.size + 1) (some ⟨w1.heap.size, 0, none⟩) 1 1 [.string s] rfl ?b1x ?b2x ?b3x ?b4x ?_)
          case b1x => exact reads_new w1 s _
          case b2x => simp [Value.oneCell']
          case b3x => omega
          case b4x => have := hb1.size; simp; omega
          intro v2 w2 hown2 hg2
          have hb2 : Below w.heap.size w w2 := (below_alloc hb1 _).grown hg2 (by have := hb1.size; simp; omega) (fun j hj => (World.ownsRow.lt hown1 _ hj).1)
          have hD2 := HD.out.below hb2
          have hle := hb2.size
          by_cases hck : c = k
          · omega
          · rw [if_neg hck] at hD2
            go_wp2_with (at_builtin; refine app_rows rfl (.tmp 43) (.tmp 46) 30 rfl w.heap.size 9 i0 (.string .empty) 1 16 Try.underlying30 hi hz0 hz1 hz2 rfl (by decide) (by decide) _ _ _ rfl hown2 w.heap.size (((some ad) : Option Addr).map (·.add k)) (n - k) (c - k) ((l.map encStr).drop k) ?e0x hD2 ?e2x ?e3x ?e4x ?_)
            case e0x => rfl
            case e2x => exact one_drop l k
            case e3x => omega
            case e4x => omega
            intro v3 w3 hown3 hg3
            have hb3 : Below w.heap.size w w3 := hb2.grown hg3 hle (fun j hj => (World.ownsRow.lt hown2 _ hj).1)
            go_wp2_with fail
            go_ret
            refine ⟨v3, rfl, hb3, ?_⟩
            rw [HI.out]
            exact IsStrs.of_own (put_row hown3) (put_len HL.out hkn)
    · have HI := tail (fun z hz => by rw [List.getElem?_eq_none (by have := HL.out; omega)] at hz; cases hz) (by rw [List.getElem?_eq_none (by have := HL.out; omega)]; intro e; cases e)
      clear hless tail
      rcases A with _ | ad
      · have hkc : (k : Int) ≤ c := by omega
        have hfr : Reads w w.heap.size 1 none k ((l.map encStr).take k) := by
          have h := Reads.front hr hkn
          rwa [Nat.mul_one, strs_mk] at h
        have hdr : Reads w w.heap.size 1 (if c = k then none else (none : Option Addr).map (·.add k)) (n - k) ((l.map encStr).drop k) := by
          have h := Reads.cut hr hkn hc
          rwa [Nat.mul_one, strs_mk] at h
        have hown0 : (w.alloc (.cells #[] 9)).ownsRow w.heap.size 9 1 (.slice (some ⟨w.heap.size, 0, none⟩) 0 0) 0 [] := World.ownsRow_made w _ 0 (Nat.le_refl _) (by unfold maxLen; omega) (by simp)
        have HF := Lib.hid hfr; have HD := Lib.hid hdr
        clear hfr hdr hr
        go_wp2_with (at_builtin; refine app_rows rfl (.tmp 34) (.tmp 37) 30 rfl w.heap.size 9 i0 (.string .empty) 1 16 Try.underlying30 hi hz0 hz1 hz2 rfl (by decide) (by decide) _ 0 [] rfl hown0 w.heap.size none k c ((l.map encStr).take k) rfl ?a1y ?a2y ?a3y ?a4y ?_)
        case a1y => exact HF.out.below (below_alloc (Below.refl _ _) _)
        case a2y => exact one_take l k
        case a3y => omega
        intro v1 w1 hown1 hg1
        have hb1 : Below w.heap.size w w1 := (below_alloc (Below.refl _ _) _).grown hg1 (by simp) (fun j hj => by simp [Value.ownBlock] at hj; omega)
        go_wp2_with (at_builtin; refine app_rows rfl (.tmp 39) (.tmp 41) 30 rfl w.heap.size 9 i0 (.string .empty) 1 16 Try.underlying30 hi hz0 hz1 hz2 rfl (by decide) (by decide) _ _ _ rfl (World.ownsRow.alloc hown1 _) (w1.heap.size + 1) (some ⟨w1.heap.size, 0, none⟩) 1 1 [.string s] rfl ?b1y ?b2y ?b3y ?b4y ?_)
        case b1y => exact reads_new w1 s _
        case b2y => simp [Value.oneCell']
        case b3y => omega
        case b4y => have := hb1.size; simp; omega
        intro v2 w2 hown2 hg2
        have hb2 : Below w.heap.size w w2 := (below_alloc hb1 _).grown hg2 (by have := hb1.size; simp; omega) (fun j hj => (World.ownsRow.lt hown1 _ hj).1)
        have hD2 := HD.out.below hb2
        have hle := hb2.size
        by_cases hck : c = k
        · have hnk : n = k := by omega
          subst hck
          subst hnk
          clear hD2
          have h0 : Reads w2 w.heap.size 1 none 0 [] := ⟨rfl, fun h => absurd h (by omega)⟩
          go_wp2_with (at_builtin; refine app_rows rfl (.tmp 43) (.tmp 46) 30 rfl w.heap.size 9 i0 (.string .empty) 1 16 Try.underlying30 hi hz0 hz1 hz2 rfl (by decide) (by decide) _ _ _ rfl hown2 w.heap.size none 0 0 [] rfl h0 ?d2y ?d3y ?d4y ?_)
          case d3y => omega
          intro v3 w3 hown3 hg3
          have hb3 : Below w.heap.size w w3 := hb2.grown hg3 hle (fun j hj => (World.ownsRow.lt hown2 _ hj).1)
          go_wp2_with fail
          go_ret
          refine ⟨v3, rfl, hb3, ?_⟩
          rw [HI.out]
          exact IsStrs.of_own (put_end HL.out hown3) (by have := HL.out; simp; omega)
        · rw [if_neg hck] at hD2
          go_wp2_with (at_builtin; refine app_rows rfl (.tmp 43) (.tmp 46) 30 rfl w.heap.size 9 i0 (.string .empty) 1 16 Try.underlying30 hi hz0 hz1 hz2 rfl (by decide) (by decide) _ _ _ rfl hown2 w.heap.size ((none : Option Addr).map (·.add k)) (n - k) (c - k) ((l.map encStr).drop k) ?e0y hD2 ?e2y ?e3y ?e4y ?_)
          case e0y => rfl
          case e2y => exact one_drop l k
          case e3y => omega
          case e4y => omega
          intro v3 w3 hown3 hg3
          have hb3 : Below w.heap.size w w3 := hb2.grown hg3 hle (fun j hj => (World.ownsRow.lt hown2 _ hj).1)
          go_wp2_with fail
          go_ret
          refine ⟨v3, rfl, hb3, ?_⟩
          rw [HI.out]
          exact IsStrs.of_own (put_row hown3) (put_len HL.out hkn)
      · have hkc : (k : Int) ≤ c := by omega
        have hfr : Reads w w.heap.size 1 (some ad) k ((l.map encStr).take k) := by
          have h := Reads.front hr hkn
          rwa [Nat.mul_one, strs_mk] at h
        have hdr : Reads w w.heap.size 1 (if c = k then (some ad) else ((some ad) : Option Addr).map (·.add k)) (n - k) ((l.map encStr).drop k) := by
          have h := Reads.cut hr hkn hc
          rwa [Nat.mul_one, strs_mk] at h
        have hown0 : (w.alloc (.cells #[] 9)).ownsRow w.heap.size 9 1 (.slice (some ⟨w.heap.size, 0, none⟩) 0 0) 0 [] := World.ownsRow_made w _ 0 (Nat.le_refl _) (by unfold maxLen; omega) (by simp)
        have HF := Lib.hid hfr; have HD := Lib.hid hdr
        clear hfr hdr hr
        go_wp2_with (at_builtin; refine app_rows rfl (.tmp 34) (.tmp 37) 30 rfl w.heap.size 9 i0 (.string .empty) 1 16 Try.underlying30 hi hz0 hz1 hz2 rfl (by decide) (by decide) _ 0 [] rfl hown0 w.heap.size (some ad) k c ((l.map encStr).take k) rfl ?a1z ?a2z ?a3z ?a4z ?_)
        case a1z => exact HF.out.below (below_alloc (Below.refl _ _) _)
        case a2z => exact one_take l k
        case a3z => omega
        intro v1 w1 hown1 hg1
        have hb1 : Below w.heap.size w w1 := (below_alloc (Below.refl _ _) _).grown hg1 (by simp) (fun j hj => by simp [Value.ownBlock] at hj; omega)
        go_wp2_with (at_builtin; refine app_rows rfl (.tmp 39) (.tmp 41) 30 rfl w.heap.size 9 i0 (.string .empty) 1 16 Try.underlying30 hi hz0 hz1 hz2 rfl (by decide) (by decide) _ _ _ rfl (World.ownsRow.alloc hown1 _) (w1.heap.size + 1) (some ⟨w1.heap.size, 0, none⟩) 1 1 [.string s] rfl ?b1z ?b2z ?b3z ?b4z ?_)
        case b1z => exact reads_new w1 s _
        case b2z => simp [Value.oneCell']
        case b3z => omega
        case b4z => have := hb1.size; simp; omega
        intro v2 w2 hown2 hg2
        have hb2 : Below w.heap.size w w2 := (below_alloc hb1 _).grown hg2 (by have := hb1.size; simp; omega) (fun j hj => (World.ownsRow.lt hown1 _ hj).1)
        have hD2 := HD.out.below hb2
        have hle := hb2.size
        by_cases hck : c = k
        · have hnk : n = k := by omega
          subst hck
          subst hnk
          clear hD2
          have h0 : Reads w2 w.heap.size 1 (some ad) 0 [] := ⟨rfl, fun h => absurd h (by omega)⟩
          go_wp2_with (at_builtin; refine app_rows rfl (.tmp 43) (.tmp 46) 30 rfl w.heap.size 9 i0 (.string .empty) 1 16 Try.underlying30 hi hz0 hz1 hz2 rfl (by decide) (by decide) _ _ _ rfl hown2 w.heap.size (some ad) 0 0 [] rfl h0 ?d2z ?d3z ?d4z ?_)
          case d3z => omega
          intro v3 w3 hown3 hg3
          have hb3 : Below w.heap.size w w3 := hb2.grown hg3 hle (fun j hj => (World.ownsRow.lt hown2 _ hj).1)
          go_wp2_with fail
          go_ret
          refine ⟨v3, rfl, hb3, ?_⟩
          rw [HI.out]
          exact IsStrs.of_own (put_end HL.out hown3) (by have := HL.out; simp; omega)
        · rw [if_neg hck] at hD2
          go_wp2_with (at_builtin; refine app_rows rfl (.tmp 43) (.tmp 46) 30 rfl w.heap.size 9 i0 (.string .empty) 1 16 Try.underlying30 hi hz0 hz1 hz2 rfl (by decide) (by decide) _ _ _ rfl hown2 w.heap.size (((some ad) : Option Addr).map (·.add k)) (n - k) (c - k) ((l.map encStr).drop k) ?e0z hD2 ?e2z ?e3z ?e4z ?_)
          case e0z => rfl
          case e2z => exact one_drop l k
          case e3z => omega
          case e4z => omega
          intro v3 w3 hown3 hg3
          have hb3 : Below w.heap.size w w3 := hb2.grown hg3 hle (fun j hj => (World.ownsRow.lt hown2 _ hj).1)
          go_wp2_with fail
          go_ret
          refine ⟨v3, rfl, hb3, ?_⟩
          rw [HI.out]
          exact IsStrs.of_own (put_row hown3) (put_len HL.out hkn)
end Go.Proofs.Ytlfdafelceipfaa
