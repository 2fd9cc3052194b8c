/-
  The law GlobOrders: two lists of patterns, one after the other.
-/
import Derived.Test.YtjlgaicdognknaaGlobU
namespace Go.Proofs.Ytjlgaicdognknaa
open Go.RowKit

/-- append where nothing is added, the added list nil -/
theorem run_app_nil {P : Program} {w : World} {base size n : Nat} {t ty e : TypeId} {i : TypeInfo} {v : Value} {xs : List Value} (ht : P.underlying t = some (.slice e)) (hi : P.info? e = some i)
    (hown : w.ownsRow base e size v n xs) (c : Nat) : (Builtin.append_ #[t, t] ty #[v, .slice none 0 c]).run P w = .ok v w := by
  rcases hown.2 with ⟨rfl, rfl⟩ | ⟨g, cap, cur, rfl, _, _, hnc, _⟩
  · simp [Builtin.append_, run_underlying ht, sizeOf, typeInfo, hi, Builtin.lenOf, Builtin.firstCells]
  · simp [Builtin.append_, run_underlying ht, sizeOf, typeInfo, hi, Builtin.lenOf, Builtin.firstCells, hnc, storeCells]
/-- append of a list of strings, nil or not, onto a row of the call's own -/
theorem app_strs {P : Program} {w : World} {ops : Array Oper} {rest : List Oper} {o : Oper} {a : Act} {Q : Exit → Act → World → Prop} (hgd : o.guard = none) (s x : Operand) (t : TypeId)
    (ho : o.op = .call { callee := .builtin .append, args := #[s, x], argTypes := #[t, t] })
    (base : Nat) (e : TypeId) (i : TypeInfo) (ht : P.underlying t = some (.slice e)) (hi : P.info? e = some i) (hz : i.zero = some (.string .empty)) (hsize : i.size = 1) (hby : i.bytes = 16)
    (v : Value) (n : Nat) (xs : List Value) (hs : a.eval s = v) (hown : w.ownsRow base e 1 v n xs)
    (A : Option Addr) (m c : Nat) (l : List ByteArray) (hx : a.eval x = .slice A m c) (hr : Strs w A m l)
    (hnm : n + m ≤ 1000000) (hbase : base ≤ w.heap.size)
    (h : ∀ v' w', w'.ownsRow base e 1 v' (n + m) (xs ++ strs l) → w.grownBy w' v.ownBlock → wpList P ops Q rest (a.put o.dst v') w') : wpList P ops Q (o :: rest) a w := by
  rcases A with _ | ad
  · have hm : m = 0 := by
      rcases Nat.eq_zero_or_pos m with h0 | h0
      · exact h0
      · obtain ⟨ad, h, _⟩ := hr.2 h0
        cases h
    subst hm
    have hl : l = [] := List.eq_nil_of_length_eq_zero hr.length
    subst hl
    refine wpList_plain hgd fun K hK => ?_
    have hrun := run_app_nil (ty := o.type) ht hi hown c
    unfold Oper.wp
    simp [execOp, ho, resolve, invoke, builtin, hs, hx, hrun, Result.andThen]
    exact hK _ _ (h v w (by simpa [strs] using hown) (World.grownBy.refl w _))
  · refine wpList_append_own w hgd s x t ho base e i (.string .empty) 1 16 ht hi hz hsize hby rfl (by decide) v n xs hs hown ad m c (strs l) hx (by rw [strs_length, hr.length]; simp) ?_ (strs_one l) (by unfold maxLen; omega) (by omega) hbase fun v' w' h1 h2 _ => h v' w' h1 h2
    intro j u hu
    have hj : j < m := by
      have := (List.getElem?_eq_some_iff.1 hu).1
      rwa [strs_length, hr.length] at this
    obtain ⟨ad', h, _, hc⟩ := hr.2 (by omega)
    injection h with h
    subst h
    exact hc j u hu

theorem firstI_append (a b : List ByteArray) (s : ByteArray) :
    firstI (a ++ b) s = if firstI a s < 0 then (if firstI b s < 0 then firstI a s else a.length + firstI b s) else firstI a s := by
  unfold firstI
  rw [List.findIdx?_append]
  cases h1 : a.findIdx? (fun p => G.mt (bs p) (bs s)) with
  | some i => simp; omega
  | none =>
    cases h2 : b.findIdx? (fun p => G.mt (bs p) (bs s)) with
    | some j => simp; omega
    | none => simp
theorem firstI_hi (l : List ByteArray) (s : ByteArray) : firstI l s ≤ l.length := by
  unfold firstI
  cases h1 : l.findIdx? (fun p => G.mt (bs p) (bs s)) with
  | some i => have := (List.findIdx?_eq_some_iff_getElem.1 h1).1; simp; omega
  | none => simp
theorem infoStrA : (Try.prog.info? 9).map (fun i => (i.zero, i.size, i.bytes)) = some (some (.string .empty), 1, 16) := by kernel_rfl

set_option maxHeartbeats 2000000 in
theorem globOrders_any (A : Option Addr) (n c : Nat) (a : List ByteArray) (B : Option Addr) (m d : Nat) (b : List ByteArray) (s : ByteArray) (w : World) (ha : Strs w A n a) (_hc : n ≤ maxLen) (hxa : ∀ x ∈ a, x.size ≤ maxLen) (hb : Strs w B m b) (_hm : m ≤ maxLen) (hxb : ∀ x ∈ b, x.size ≤ maxLen) (_hs : s.size ≤ maxLen) :
    Calls Try.prog 9 #[.slice A n c, .slice B m d, .string s] w (Ret w (.bool true)) := by
  have HLA := Lib.hid ha.length
  have HLB := Lib.hid hb.length
  obtain ⟨i0, hi, hz0, hz1, hz2⟩ := info_parts infoStrA
  by_cases h1 : (20 : Int) < n
  · go_enter Try.func9, Try.ntmps9
    go_wp2_with fail
    go_ret
    exact ⟨rfl, Below.refl _ _⟩
  have d1 : decide ((20 : Int) < n) = false := decide_eq_false h1
  by_cases h2 : (20 : Int) < m
  · go_enter Try.func9, Try.ntmps9
    go_wp2_with fail
    go_ret
    exact ⟨rfl, Below.refl _ _⟩
  have d2 : decide ((20 : Int) < m) = false := decide_eq_false h2
  by_cases h3 : (200 : Int) < s.size
  · go_enter Try.func9, Try.ntmps9
    go_wp2_with fail
    go_ret
    exact ⟨rfl, Below.refl _ _⟩
  have d3 : decide ((200 : Int) < s.size) = false := decide_eq_false h3
  have hown0 : (w.alloc (.cells #[] 9)).ownsRow w.heap.size 9 1 (.slice (some ⟨w.heap.size, 0, none⟩) 0 0) 0 [] :=
    World.ownsRow_made w _ 0 (Nat.le_refl _) (by unfold maxLen; omega) (by simp)
  go_enter Try.func9, Try.ntmps9
  go_wp2_with (at_builtin; refine app_strs rfl (.tmp 25) (.tmp 26) 28 rfl w.heap.size 9 i0 Try.underlying28 hi hz0 hz1 hz2 _ 0 [] rfl hown0 A n c a rfl ?c1 ?c2 ?c3 ?_)
  case c1 => exact ha.on (below_alloc (Below.refl _ _) _)
  case c2 => omega
  intro v1 w1 hown1 hg1
  have hbw1 : Below w.heap.size w w1 := (below_alloc (Below.refl _ _) _).grown hg1 (by simp) (fun j hj => by simp [Value.ownBlock] at hj; omega)
  go_wp2_with (at_builtin; refine app_strs rfl (.tmp 27) (.tmp 28) 28 rfl w.heap.size 9 i0 Try.underlying28 hi hz0 hz1 hz2 _ _ _ rfl hown1 B m d b rfl ?d1 ?d2 ?d3 ?_)
  case d1 => exact hb.on hbw1
  case d2 => omega
  case d3 => exact hbw1.size
  intro v2 w2 hown2 hg2
  have hbw2 : Below w.heap.size w w2 := hbw1.grown hg2 hbw1.size (fun j hj => (World.ownsRow.lt hown1 _ hj).1)
  obtain ⟨C, e, rfl, _, hrd⟩ := own_form hown2
  have hab : Strs w2 C (n + m) (a ++ b) := by
    unfold Strs
    rw [strs_append]
    simpa using hrd
  clear hrd hown1 hown2 hg1 hg2 hbw1 hown0 hi hz0 hz1 hz2
  obtain ⟨N, hN⟩ : ∃ N : Nat, N = n + m := ⟨_, rfl⟩
  have hNN : (N : Int) = n + m := by omega
  rw [← hN] at hab
  simp only [← hN]
  have hNb : N ≤ 40 := by omega
  have HN := Lib.hid hN
  clear hN hNN
  have HL := Lib.hid hab.length
  have HX : Hid (∀ x ∈ a ++ b, x.size ≤ maxLen) := fun x hx => by
    rcases List.mem_append.1 hx with h | h
    · exact hxa x h
    · exact hxb x h
  go_wp2_with fail
  go_loop [8] (fun i => LensInv (a ++ b) i) (fun i => N - (intOf i).toNat)
  case atStart => exact ⟨0, by omega, rfl, fun j _ _ h => by omega⟩
  case round =>
    obtain ⟨k, hk, rfl, hb'⟩ := hrel
    by_cases hlt : k < N
    · obtain ⟨ad, x, rfl, hadb, hu, hc⟩ := hab.at_ hlt
      have HXk := Lib.hid hu; clear hu
      have HB := Lib.hid hb'; clear hb'
      have hxm := HX.out x (List.mem_of_getElem? HXk.out)
      unfold maxLen at hxm
      by_cases hx1 : 100 < x.size
      · have hx1' : (100 : Int) < x.size := by omega
        go_wp2_with fail
        go_ret
        exact ⟨rfl, hbw2⟩
      · have hx1' : ¬ (100 : Int) < x.size := by omega
        go_wp2_with fail
        exact ⟨Lens.step HB.out HXk.out (by omega), by simp [intOf]; omega⟩
    · have hS : Short (a ++ b) := Lens.short (by have := HL.out; have e : k = (a ++ b).length := by omega
                                                 subst e; exact hb')
      have hSa : Short a := fun x hx => hS x (List.mem_append_left _ hx)
      have hSb : Short b := fun x hx => hS x (List.mem_append_right _ hx)
      clear hb'
      have HF := Lib.hid (firstI_append a b s)
      have HY : Hid (anyI (a ++ b) s = decide (0 ≤ firstI (a ++ b) s)) := by show _ = _; rfl
      have hia := firstI_bd a s
      have hib := firstI_bd b s
      have hfbm := firstI_hi b s
      have hlb : b.length = m := HLB.out
      have hla : a.length = n := HLA.out
      go_wp2_with fail
      refine (first_any A n c a s w2 (ha.on hbw2) (by omega) (by omega) hSa).mono ?_
      rintro e w3 ⟨rfl, b3⟩
      have c3 := below_then hbw2 b3
      go_wp2_with fail
      refine (first_any B m d b s w3 (hb.on c3) (by omega) (by omega) hSb).mono ?_
      rintro e w4 ⟨rfl, b4⟩
      have c4 := below_then c3 b4
      have b24 := below_then b3 b4
      clear b3 b4 c3
      have HAB := Lib.hid (hab.on b24)
      have tail : ∀ (w5 : World) (r : Int), firstI (a ++ b) s = r → Below w2.heap.size w2 w5 → Below w.heap.size w w5 → Calls Try.prog 23 #[.slice C N e, .string s] w5 fun x w' => x = .returned (.int .i64 r) ∧ Below w2.heap.size w2 w' ∧ Below w.heap.size w w' := fun w5 r hr5 h1 h2 =>
        hr5 ▸ (first_any C N e (a ++ b) s w5 (hab.on h1) (by omega) (by omega) hS).mono fun x w' ⟨p1, p2⟩ => ⟨p1, below_then h1 p2, below_then h2 p2⟩
      have tailA : ∀ (w5 : World) (r : Bool), decide (0 ≤ firstI (a ++ b) s) = r → Below w2.heap.size w2 w5 → Below w.heap.size w w5 → Calls Try.prog 25 #[.slice C N e, .string s] w5 fun x w' => x = .returned (.bool r) ∧ Below w.heap.size w w' := fun w5 r hr5 h1 h2 =>
        hr5 ▸ (any_any C N e (a ++ b) s w5 (hab.on h1) (by omega) (by omega) hS).mono fun x w' ⟨p1, p2⟩ => ⟨p1, below_then h2 p2⟩
      have TAIL := Lib.hid tail; clear tail
      have TAILA := Lib.hid tailA; clear tailA
      have live : ∀ w1 : World, Below w.heap.size w w1 → Calls Try.prog 20 #[] w1 fun e w' => e = .returned (.bool true) ∧ Below w.heap.size w w' := fun w1 h => (glive_any w1).mono fun e w' ⟨h1, h2⟩ => ⟨h1, below_then h h2⟩
      have LIVE := Lib.hid live; clear live
      clear HY hS hSa hSb hab HAB
      generalize hfa : firstI a s = fa at HF hia ⊢
      generalize hfb : firstI b s = fb at HF hib hfbm ⊢
      clear hfa hfb
      by_cases q1 : fa < 0
      · have e1 : decide (fa < 0) = true := decide_eq_true q1
        have e1' : decide (0 ≤ fa) = false := decide_eq_false (by omega)
        by_cases q2 : fb < 0
        · have e2 : decide (0 ≤ fb) = false := decide_eq_false (by omega)
          have hr1 : firstI (a ++ b) s = fa := by rw [HF.out, if_pos q1, if_pos q2]
          have hr2 : decide (0 ≤ firstI (a ++ b) s) = false := by rw [hr1]; exact e1'
          have HR1 := Lib.hid hr1; have HR2 := Lib.hid hr2; clear hr1 hr2
          go_wp2_with fail
          refine (TAIL.out _ _ HR1.out b24 c4).mono ?_
          rintro e w5 ⟨rfl, b5, c5⟩
          go_wp2_with fail
          refine (TAILA.out _ _ HR2.out b5 c5).mono ?_
          rintro e w6 ⟨rfl, c6⟩
          go_wp2_with fail
          refine (LIVE.out _ c6).mono ?_
          rintro e w7 ⟨rfl, c7⟩
          go_wp2_with fail
          go_ret
          exact ⟨rfl, c7⟩
        · have e2 : decide (0 ≤ fb) = true := decide_eq_true (by omega)
          have e2' : 0 ≤ fb := by omega
          have hr1 : firstI (a ++ b) s = (n : Int) + fb := by rw [HF.out, if_pos q1, if_neg q2, hla]
          have hr2 : decide (0 ≤ firstI (a ++ b) s) = true := by rw [hr1]; exact decide_eq_true (by omega)
          have HR1 := Lib.hid hr1; have HR2 := Lib.hid hr2; clear hr1 hr2
          go_wp2_with fail
          refine (TAIL.out _ _ HR1.out b24 c4).mono ?_
          rintro e w5 ⟨rfl, b5, c5⟩
          go_wp2_with fail
          refine (TAILA.out _ _ HR2.out b5 c5).mono ?_
          rintro e w6 ⟨rfl, c6⟩
          go_wp2_with fail
          refine (LIVE.out _ c6).mono ?_
          rintro e w7 ⟨rfl, c7⟩
          go_wp2_with fail
          go_ret
          exact ⟨rfl, c7⟩
      · have e1 : decide (fa < 0) = false := decide_eq_false q1
        have e1' : decide (0 ≤ fa) = true := decide_eq_true (by omega)
        have e1'' : 0 ≤ fa := by omega
        have hr1 : firstI (a ++ b) s = fa := by rw [HF.out, if_neg q1]
        have hr2 : decide (0 ≤ firstI (a ++ b) s) = true := by rw [hr1]; exact e1'
        have HR1 := Lib.hid hr1; have HR2 := Lib.hid hr2; clear hr1 hr2
        go_wp2_with fail
        refine (TAIL.out _ _ HR1.out b24 c4).mono ?_
        rintro e w5 ⟨rfl, b5, c5⟩
        go_wp2_with fail
        refine (TAILA.out _ _ HR2.out b5 c5).mono ?_
        rintro e w6 ⟨rfl, c6⟩
        go_wp2_with fail
        refine (LIVE.out _ c6).mono ?_
        rintro e w7 ⟨rfl, c7⟩
        go_wp2_with fail
        go_ret
        exact ⟨rfl, c7⟩
end Go.Proofs.Ytjlgaicdognknaa
