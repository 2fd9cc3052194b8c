/-
  The walk through the examples of chapter 45.
-/
import Derived.Test.YtnbgcjangoiodaaSesM
namespace Go.Proofs.Ytnbgcjangoiodaa
open Go.RowKit
attribute [local go_sem ↓] ex_st_shr ex_st_own ex_st_ses
attribute [local go_sem] st_shr_new st_shr st_own_new st_ses_new st_ses

abbrev lR : ByteArray := ⟨#[33, 114, 58, 97]⟩
abbrev lA : ByteArray := ⟨#[64, 97, 58, 120]⟩
abbrev lB : ByteArray := ⟨#[64, 98, 58, 121]⟩
abbrev lD : ByteArray := ⟨#[68]⟩
abbrev lE : ByteArray := ⟨#[69]⟩
abbrev lX : Shr := ⟨lA, lD, 1⟩
theorem l_new : newV 5 lR = .tuple #[sesA 5 lR 0 none 0 0, .int .i64 0] := newV_ok (by decide +kernel)
theorem l_give1 : Ss.giveErr [] (bs lA) (bs lD) = 0 := by decide +kernel
theorem l_put1 : Ss.put [] lX = [lX] := rfl
theorem l_give2 : Ss.giveErr [lX] (bs lA) (bs lD) = 4 := by decide +kernel
abbrev zShr : Shr := ⟨⟨#[]⟩, ⟨#[]⟩, 0⟩
theorem l_give3 : Ss.giveErr (List.replicate 2000 zShr) (bs lA) (bs lD) = 29 := by
  have h : Ss.find (List.replicate 2000 zShr) (bs lA, bs lD) = none := Ss.find_none_iff.2 fun x hx => by
    rw [List.eq_of_mem_replicate hx]; decide +kernel
  unfold Ss.giveErr
  rw [if_neg (by decide +kernel), h, if_neg (by simp), List.length_replicate, if_pos (Nat.le_refl _)]
theorem l_read1 : Ss.reads [lX] 2 (bs lA, bs lD) 1 = true := by decide +kernel
theorem l_read0 : Ss.reads [lX] 2 (bs lA, bs lD) 0 = false := by decide +kernel
theorem l_read2 : Ss.reads [lX] 2 (bs lA, bs lD) 2 = false := by decide +kernel
abbrev lK (gE gD : Nat) : List Kys := [⟨lB, 0, 0, ⟨some ⟨gE, 0, none⟩, 1, 1, [⟨lE, 0, false⟩]⟩⟩, ⟨lA, 0, 0, ⟨some ⟨gD, 0, none⟩, 1, 1, [⟨lD, 0, false⟩]⟩⟩]
theorem inc_one (x : List UInt8) : Nm.Inc [x] := List.pairwise_singleton _ _
theorem names_one (x : List UInt8) : Nm.names [x] = [x] := Nm.names_of_inc (inc_one x)
theorem l_names : Nm.names [bs lB, bs lA] = [bs lA, bs lB] := (Nm.names_is (m := [bs lA, bs lB]) (by
  unfold Nm.Inc
  rw [List.pairwise_cons]
  refine ⟨fun y hy => ?_, List.pairwise_singleton _ _⟩
  rw [List.mem_singleton] at hy; subst hy; decide +kernel) (fun x => by simp only [List.mem_cons, List.not_mem_nil, or_false]; exact Or.comm)).symm
theorem l_devA (gE gD : Nat) : Ss.devsOf (lK gE gD) (bs lA) = [(bs lA, bs lD)] := by
  have h : Ss.devsOf (lK gE gD) (bs lA) = Ss.devs (bs lA) ⟨lA, 0, 0, ⟨some ⟨gD, 0, none⟩, 1, 1, [⟨lD, 0, false⟩]⟩⟩ := Ss.devsOf_some (k := 1) (fun j x hx hj => by
    obtain rfl : j = 0 := by omega
    simp only [lK, List.getElem?_cons_zero, Option.some.injEq] at hx
    subst hx
    show bs lB ≠ bs lA
    decide +kernel) rfl rfl
  rw [h, Ss.devs]
  show (Nm.names [bs lD]).map _ = _
  rw [names_one]; rfl
theorem l_devB (gE gD : Nat) : Ss.devsOf (lK gE gD) (bs lB) = [(bs lB, bs lE)] := by
  have h : Ss.devsOf (lK gE gD) (bs lB) = Ss.devs (bs lB) ⟨lB, 0, 0, ⟨some ⟨gE, 0, none⟩, 1, 1, [⟨lE, 0, false⟩]⟩⟩ := Ss.devsOf_some (k := 0) (Ss.NoK.zero _ _) rfl rfl
  rw [h, Ss.devs]
  show (Nm.names [bs lE]).map _ = _
  rw [names_one]; rfl
theorem l_own2 (gE gD : Nat) : Ss.own (bss [lB, lA]) (lK gE gD) = [(bs lA, bs lD), (bs lB, bs lE)] := by
  show (Nm.names [bs lB, bs lA]).flatMap _ = _
  rw [l_names, List.flatMap_cons, List.flatMap_cons, List.flatMap_nil, l_devA, l_devB]; rfl
theorem l_own1 (gE gD : Nat) : Ss.own (bss [lB]) (lK gE gD) = [(bs lB, bs lE)] := by
  show (Nm.names [bs lB]).flatMap _ = _
  rw [names_one, List.flatMap_cons, List.flatMap_nil, l_devB]; rfl
theorem l_wants (gE gD : Nat) : Ss.wants [lX] 2 (Ss.own (bss [lB, lA]) (lK gE gD)) = [⟨lB, lE, 2⟩] := by
  rw [l_own2]
  have h1 : Ss.find [lX] (bs lA, bs lD) = some lX := Ss.find_some (k := 0) (Ss.NoW.zero _ _) rfl rfl
  have h2 : Ss.find [lX] (bs lB, bs lE) = none := Ss.find_none_iff.2 fun x hx => by
    rw [List.mem_singleton] at hx; subst hx; show (bs lA, bs lD) ≠ (bs lB, bs lE); decide +kernel
  unfold Ss.wants Ss.lack
  rw [List.filter_cons_of_neg (by rw [h1]; simp), List.filter_cons_of_pos (by rw [h2]; rfl), List.filter_nil]
  rfl
theorem l_stale2 (gE gD : Nat) : Ss.stale [lX] (Ss.own (bss [lB, lA]) (lK gE gD)) = false := by
  rw [l_own2]
  unfold Ss.stale
  rw [List.any_eq_false]
  intro x hx
  rw [List.mem_singleton] at hx; subst hx
  simp [Ss.who]
theorem l_stale1 (gE gD : Nat) : Ss.stale [lX] (Ss.own (bss [lB]) (lK gE gD)) = true := by
  rw [l_own1]
  unfold Ss.stale
  rw [List.any_eq_true]
  exact ⟨lX, List.mem_singleton.2 rfl, by show decide (¬ (bs lA, bs lD) ∈ [(bs lB, bs lE)]) = true; decide +kernel⟩
theorem l_renew (gE gD : Nat) : Ss.shs (Ss.own (bss [lB]) (lK gE gD)) 0 = [⟨lB, lE, 0⟩] := by rw [l_own1]; rfl
theorem use_ok {w w' : World} {id : Int} {room : ByteArray} {next : Int} {l : List Shr} {most : Int} {e : Ending} (h : UseP w id room next l most e w') (h0 : Ss.useErr most next = 0) :
    Below w.heap.size w w' ∧ ∃ A c, e = .returned (.tuple #[sesA id room (next + 1) A l.length c, .int .i64 next, .int .i64 0]) ∧ Rd.shr.Holds w' A l.length l ∧ l.length ≤ c := by
  obtain ⟨hb, h | h⟩ := h
  · exact absurd h0 h.1
  · exact ⟨hb, h.2⟩
theorem use_err {w w' : World} {id : Int} {room : ByteArray} {next : Int} {l : List Shr} {most r : Int} {e : Ending} (h : UseP w id room next l most e w') (hr : Ss.useErr most next = r) (h0 : r ≠ 0) :
    Below w.heap.size w w' ∧ e = .returned (.tuple #[sesA 0 ⟨#[]⟩ 0 none 0 0, .int .i64 0, .int .i64 r]) := by
  subst hr
  obtain ⟨hb, h | h⟩ := h
  · exact ⟨hb, h.2⟩
  · exact absurd h.1 h0
theorem give_ok {w w' : World} {id : Int} {room : ByteArray} {next : Int} {l m : List Shr} {u d : ByteArray} {e : Ending} (h : GiveP w id room next l u d e w') (h0 : Ss.giveErr l (bs u) (bs d) = 0) (hm : Ss.put l ⟨u, d, next⟩ = m) :
    Below w.heap.size w w' ∧ ∃ A c, e = .returned (.tuple #[sesA id room next A m.length c, .int .i64 0]) ∧ Rd.shr.Holds w' A m.length m ∧ m.length ≤ c := by
  subst hm
  obtain ⟨hb, h | h⟩ := h
  · exact absurd h0 h.1
  · exact ⟨hb, h.2⟩
theorem give_err {w w' : World} {id : Int} {room : ByteArray} {next : Int} {l : List Shr} {u d : ByteArray} {r : Int} {e : Ending} (h : GiveP w id room next l u d e w') (hr : Ss.giveErr l (bs u) (bs d) = r) (h0 : r ≠ 0) :
    Below w.heap.size w w' ∧ e = .returned (.tuple #[sesA 0 ⟨#[]⟩ 0 none 0 0, .int .i64 r]) := by
  subst hr
  obtain ⟨hb, h | h⟩ := h
  · exact ⟨hb, h.2⟩
  · exact absurd h.1 h0
theorem below_own_box {w w' : World} {g : Nat} {cs : List Value} (h : Below w.heap.size w w') (hg : w.heap.size ≤ g) : Below w.heap.size w (putRow w' g cs) := below_put hg h
theorem few_lK (gE gD : Nat) : Few (lK gE gD) := ⟨by show 2 ≤ 30; omega, fun k hk => by
  rcases List.mem_cons.1 hk with rfl | hk
  · show 1 ≤ 30; omega
  · rw [List.mem_singleton] at hk; subst hk; show 1 ≤ 30; omega⟩
abbrev cE : Array Value := #[.string lE, .int .i64 0, .bool false]
abbrev cD : Array Value := #[.string lD, .int .i64 0, .bool false]
abbrev cK (s t : Nat) : Array Value := #[.string lB, .int .i64 0, .int .i64 0, .slice (some ⟨s, 0, none⟩) 1 1, .string lA, .int .i64 0, .int .i64 0, .slice (some ⟨t, 0, none⟩) 1 1]
abbrev lV (W : World) : World := ((((W.alloc (.cells cE 68)).alloc (.cells cD 68)).alloc (.cells (cK W.heap.size (W.heap.size + 1)) 71)).alloc (.cells #[.string lB, .string lA] 9)).alloc (.cells #[.string lB] 9)
theorem lV_below (W : World) : Below W.heap.size W (lV W) := below_alloc (below_alloc (below_alloc (below_alloc (below_alloc (Below.refl _ _) _) _) _) _) _
theorem lV_keys (W : World) : Rd.kys.Holds (lV W) (some ⟨W.heap.size + 2, 0, none⟩) 2 (lK W.heap.size (W.heap.size + 1)) := by
  have z : -9223372036854775808 ≤ (0 : Int) ∧ (0 : Int) ≤ 9223372036854775807 := ⟨by omega, by omega⟩
  have h1 := Rd.Holds.new Rd.dvc W cE 68 [⟨lE, 0, false⟩] 1 rfl rfl (by intro y hy; rw [List.mem_singleton] at hy; subst hy; exact ⟨by show 1 ≤ maxLen; unfold maxLen; omega, z, trivial, trivial⟩)
  have h2 := Rd.Holds.new Rd.dvc (W.alloc (.cells cE 68)) cD 68 [⟨lD, 0, false⟩] 1 rfl rfl (by intro y hy; rw [List.mem_singleton] at hy; subst hy; exact ⟨by show 1 ≤ maxLen; unfold maxLen; omega, z, trivial, trivial⟩)
  have h1' := h1.on (below_alloc (Below.refl _ _) (.cells cD 68))
  have e2 : (W.alloc (.cells cE 68)).heap.size = W.heap.size + 1 := by simp
  rw [e2] at h2
  have h3 := Rd.Holds.new Rd.kys ((W.alloc (.cells cE 68)).alloc (.cells cD 68)) (cK W.heap.size (W.heap.size + 1)) 71 (lK W.heap.size (W.heap.size + 1)) 2 rfl rfl (by
    intro y hy
    rcases List.mem_cons.1 hy with rfl | hy
    · exact ⟨by show 4 ≤ maxLen; unfold maxLen; omega, z, z, ⟨h1', Nat.le_refl _, by show 1 ≤ maxLen; unfold maxLen; omega⟩, trivial⟩
    · rw [List.mem_singleton] at hy; subst hy
      exact ⟨by show 4 ≤ maxLen; unfold maxLen; omega, z, z, ⟨h2, Nat.le_refl _, by show 1 ≤ maxLen; unfold maxLen; omega⟩, trivial⟩)
  have e3 : ((W.alloc (.cells cE 68)).alloc (.cells cD 68)).heap.size = W.heap.size + 2 := by simp
  rw [e3] at h3
  exact h3.on (below_alloc (below_alloc (Below.refl _ _) _) _)
theorem lV_both (W : World) : Strs (lV W) (some ⟨W.heap.size + 3, 0, none⟩) 2 [lB, lA] := by
  have h := Strs.new (((W.alloc (.cells cE 68)).alloc (.cells cD 68)).alloc (.cells (cK W.heap.size (W.heap.size + 1)) 71)) #[.string lB, .string lA] 9 [lB, lA] 2 rfl rfl
  have e : (((W.alloc (.cells cE 68)).alloc (.cells cD 68)).alloc (.cells (cK W.heap.size (W.heap.size + 1)) 71)).heap.size = W.heap.size + 3 := by simp
  rw [e] at h
  exact h.on (below_alloc (Below.refl _ _) _)
theorem lV_one (W : World) : Strs (lV W) (some ⟨W.heap.size + 4, 0, none⟩) 1 [lB] := by
  have h := Strs.new ((((W.alloc (.cells cE 68)).alloc (.cells cD 68)).alloc (.cells (cK W.heap.size (W.heap.size + 1)) 71)).alloc (.cells #[.string lB, .string lA] 9)) #[.string lB] 9 [lB] 1 rfl rfl
  have e : ((((W.alloc (.cells cE 68)).alloc (.cells cD 68)).alloc (.cells (cK W.heap.size (W.heap.size + 1)) 71)).alloc (.cells #[.string lB, .string lA] 9)).heap.size = W.heap.size + 4 := by simp
  rw [e] at h
  exact h
theorem l_sizes : ∀ x ∈ [lB, lA], x.size ≤ maxLen := by
  intro x hx
  rcases List.mem_cons.1 hx with rfl | hx
  · show 4 ≤ maxLen; unfold maxLen; omega
  · rw [List.mem_singleton] at hx; subst hx; show 4 ≤ maxLen; unfold maxLen; omega
theorem l_size1 : ∀ x ∈ [lB], x.size ≤ maxLen := by
  intro x hx
  rw [List.mem_singleton] at hx; subst hx; show 4 ≤ maxLen; unfold maxLen; omega
theorem made_shr (n : Nat) : (madeCells #[.string ⟨#[]⟩, .string ⟨#[]⟩, .int .i64 0] (n * 3)).toList = Rd.shr.rows (List.replicate n zShr) := by
  refine List.ext_getElem? fun j => ?_
  by_cases hj : j < n * 3
  · obtain ⟨k, r, hr, rfl⟩ : ∃ k r, r < 3 ∧ j = k * 3 + r := ⟨j / 3, j % 3, by omega, by omega⟩
    have hk : k < n := by omega
    have hget : (List.replicate n zShr)[k]? = some zShr := by simp [hk]
    match r, hr with
    | 0, _ =>
      have hj0 : k * 3 < n * 3 := by omega
      rw [show k * 3 + 0 = k * Rd.shr.size + 0 from rfl, Rd.rows_at Rd.shr hget (u := .string ⟨#[]⟩) rfl, show k * Rd.shr.size + 0 = k * 3 + 0 from rfl]
      simp [madeCells, List.getElem?_range hj0]
    | 1, _ =>
      have hm : (k * 3 + 1) % 3 = 1 := by omega
      rw [show k * 3 + 1 = k * Rd.shr.size + 1 from rfl, Rd.rows_at Rd.shr hget (u := .string ⟨#[]⟩) rfl, show k * Rd.shr.size + 1 = k * 3 + 1 from rfl]
      simp [madeCells, List.getElem?_range hj, hm]
    | 2, _ =>
      have hm : (k * 3 + 2) % 3 = 2 := by omega
      rw [show k * 3 + 2 = k * Rd.shr.size + 2 from rfl, Rd.rows_at Rd.shr hget (u := .int .i64 0) rfl, show k * Rd.shr.size + 2 = k * 3 + 2 from rfl]
      simp [madeCells, List.getElem?_range hj, hm]
  · rw [List.getElem?_eq_none (by simp [madeCells]; omega), List.getElem?_eq_none (by rw [Rd.rows_length, List.length_replicate]; show n * 3 ≤ j; omega)]
/-- the 2000 empty shares -/
def lZ : Array Value := (Rd.shr.rows (List.replicate 2000 zShr)).toArray
theorem make_shr (n : Nat) (hn : n ≤ 100000) (W : World) : (Instr.makeSlice 22 (.int .i64 (n : Int)) (.int .i64 (n : Int))).run Try.prog W = .ok (.slice (some ⟨W.heap.size, 0, none⟩) n n) (W.alloc (.cells (Rd.shr.rows (List.replicate n zShr)).toArray 56)) := by
  obtain ⟨i0, hi, hz0, hz1, hz2⟩ := info_parts infoShr
  have hr := run_make (P := Try.prog) W 22 56 i0 _ Try.underlying22 hi hz0 .i64 .i64 n n (by omega) (by omega) (by rw [hz2]; omega) (by omega)
  rw [hr, hz1, Int.toNat_natCast]
  have e : madeCells (Value.agg #[.string .empty, .string .empty, .int .i64 0]).cells (n * 3) = (Rd.shr.rows (List.replicate n zShr)).toArray := by
    show madeCells #[.string ⟨#[]⟩, .string ⟨#[]⟩, .int .i64 0] (n * 3) = _
    rw [← made_shr n, Array.toArray_toList]
  rw [e]
theorem l_make (W : World) : (Instr.makeSlice 22 (.int .i64 2000) (.int .i64 2000)).run Try.prog W = .ok (.slice (some ⟨W.heap.size, 0, none⟩) 2000 2000) (W.alloc (.cells lZ 56)) :=
  make_shr 2000 (by omega) W
theorem l_many (W : World) : Rd.shr.Holds (W.alloc (.cells lZ 56)) (some ⟨W.heap.size, 0, none⟩) 2000 (List.replicate 2000 zShr) :=
  Rd.Holds.new Rd.shr W lZ 56 _ 2000 rfl (by rw [List.length_replicate]) (fun x hx => by
    rw [List.eq_of_mem_replicate hx]
    exact ⟨Nat.zero_le _, Nat.zero_le _, ⟨by show -9223372036854775808 ≤ (0 : Int); omega, by show (0 : Int) ≤ 9223372036854775807; omega⟩, trivial⟩)
end Go.Proofs.Ytnbgcjangoiodaa
