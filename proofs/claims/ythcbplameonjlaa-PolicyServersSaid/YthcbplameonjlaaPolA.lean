/-
  The walk through the examples of chapter 47 (awake).
-/
import Derived.Test.YthcbplameonjlaaPolM
import Derived.Test.YthcbplameonjlaaPolJ
import Derived.Test.YthcbplameonjlaaPolS
import Derived.Test.YthcbplameonjlaaNamesU
namespace Go.Proofs.Ythcbplameonjlaa
open Go.RowKit
attribute [local go_sem ↓] ex_st_pol
attribute [local go_sem] st_pol_new st_pol

def aL : List Pol := [⟨2, ⟨#[64, 115, 112, 97, 109, 42, 58, 42]⟩, ⟨#[]⟩⟩, ⟨6, ⟨#[101, 118, 105, 108, 46, 42]⟩, ⟨#[]⟩⟩]
def awC (t : ByteArray) (n : Int) : Cnt := ⟨t, n, 0, false, ⟨#[]⟩, ⟨none, 0, 0, []⟩, ⟨none, 0, 0, []⟩, ⟨⟨none, 0, 0, []⟩, ⟨none, 0, 0, []⟩, 0, 0, 0, 0, 0, 0, 0⟩⟩
def awE (k t : ByteArray) (n : Int) : Ev := ⟨0, ⟨#[]⟩, ⟨#[]⟩, 9, false, k, 0, 0, ⟨none, 0, 0, []⟩, ⟨none, 0, 0, []⟩, awC t n, 0, ⟨⟨#[]⟩, 0⟩⟩
def aE : List Ev := [awE ⟨#[98]⟩ ⟨#[64, 120, 42]⟩ 2, awE ⟨#[97]⟩ ⟨#[]⟩ 0]
abbrev aP : Pol := ⟨2, ⟨#[64, 120, 42]⟩, ⟨#[98]⟩⟩
theorem aw_rules : Pl.sort (rul aE) = [aP] := by
  have h : rul aE = [aP] := by simp [rul, isRule, aE, awE, awC, polOf, aP]
  rw [h]; rfl
theorem aw_m1 : matchV (Pl.find aL 6 (bs ⟨#[101, 118, 105, 108, 46, 120]⟩)) = .tuple #[.agg #[.int .i64 6, .string ⟨#[101, 118, 105, 108, 46, 42]⟩, .string ⟨#[]⟩], .bool true] := by
  rw [show Pl.find aL 6 (bs ⟨#[101, 118, 105, 108, 46, 120]⟩) = some ⟨6, ⟨#[101, 118, 105, 108, 46, 42]⟩, ⟨#[]⟩⟩ from by decide]; rfl
theorem aw_m2 : matchV (Pl.find aL 2 (bs ⟨#[101, 118, 105, 108, 46, 120]⟩)) = .tuple #[.agg #[.int .i64 0, .string ⟨#[]⟩, .string ⟨#[]⟩], .bool false] := by
  rw [show Pl.find aL 2 (bs ⟨#[101, 118, 105, 108, 46, 120]⟩) = none from by decide]; rfl
def aU : List ByteArray := [⟨#[64, 115, 112, 97, 109, 109, 101, 114, 58, 97]⟩, ⟨#[64, 97, 110, 110, 58, 101, 118, 105, 108, 46, 120]⟩, ⟨#[64, 97, 110, 110, 58, 97]⟩]
def aV : List ByteArray := [⟨#[64, 97, 110, 110, 58, 101, 118, 105, 108, 46, 120]⟩, ⟨#[64, 115, 112, 97, 109, 109, 101, 114, 58, 97]⟩]
theorem aw_filter : (bss aU).filter (Pl.met 2 6 aL) = [[64, 115, 112, 97, 109, 109, 101, 114, 58, 97], [64, 97, 110, 110, 58, 101, 118, 105, 108, 46, 120]] := by decide
theorem aw_users : Pl.users 2 6 aL (bss aU) = bss aV := by
  unfold Pl.users
  rw [aw_filter]
  exact (Nm.names_is (m := [[64, 97, 110, 110, 58, 101, 118, 105, 108, 46, 120], [64, 115, 112, 97, 109, 109, 101, 114, 58, 97]]) (by unfold Nm.Inc; decide) fun x => by simp [or_comm]).symm
theorem aw_deny : Pl.deny 6 aL = bss [⟨#[101, 118, 105, 108, 46, 42]⟩] := by
  rw [deny_den, show den aL = [[101, 118, 105, 108, 46, 42]] from by decide]
  exact Nm.names_of_inc (List.pairwise_singleton _ _)
theorem aw_merge : Pl.once (aL ++ aL) = aL := by decide
theorem aw_i (i : Int) (h : 0 ≤ i ∧ i ≤ 1000) : -9223372036854775808 ≤ i ∧ i ≤ 9223372036854775807 := ⟨by omega, by omega⟩
theorem aw_z {s : ByteArray} (h : s.size ≤ 1000) : s.size ≤ maxLen := by unfold maxLen; omega
theorem aw_sl {α : Type} {r : Rd α} {w : World} : (Rd.slice r).Ok w ⟨none, 0, 0, []⟩ := ⟨Rd.Holds.none_, Nat.le_refl _, Nat.zero_le _⟩
theorem awE_ok {w : World} {k t : ByteArray} {n : Int} (hk : k.size ≤ 1000) (ht : t.size ≤ 1000) (hn : 0 ≤ n ∧ n ≤ 1000) : Rd.ev.Ok w (awE k t n) :=
  have z : -9223372036854775808 ≤ (0 : Int) ∧ (0 : Int) ≤ 9223372036854775807 := ⟨by omega, by omega⟩
  have s0 : (⟨#[]⟩ : ByteArray).size ≤ maxLen := Nat.zero_le _
  have lv : Rd.lvs.Ok w ⟨⟨none, 0, 0, []⟩, ⟨none, 0, 0, []⟩, 0, 0, 0, 0, 0, 0, 0⟩ := ⟨aw_sl, aw_sl, z, z, z, z, z, z, z, trivial⟩
  have cn : Rd.cnt.Ok w (awC t n) := ⟨aw_z ht, aw_i n hn, z, trivial, s0, aw_sl, aw_sl, lv, trivial⟩
  ⟨z, s0, s0, aw_i 9 (by omega), trivial, aw_z hk, z, z, aw_sl, aw_sl, cn, z, ⟨s0, z, trivial⟩, trivial⟩
theorem aE_ok {w : World} : ∀ x ∈ aE, Rd.ev.Ok w x := by
  intro x hx
  simp only [aE, List.mem_cons, List.not_mem_nil, or_false] at hx
  rcases hx with rfl | rfl
  · exact awE_ok (by decide) (by decide) (by omega)
  · exact awE_ok (by decide) (by decide) (by omega)
theorem aL_ok : PolOk aL := by
  intro x hx
  simp only [aL, List.mem_cons, List.not_mem_nil, or_false] at hx
  rcases hx with rfl | rfl
  · exact ⟨⟨by decide, by decide⟩, by decide, by decide⟩
  · exact ⟨⟨by decide, by decide⟩, by decide, by decide⟩
theorem aL_s : PolsS aL := by
  intro x hx
  simp only [aL, List.mem_cons, List.not_mem_nil, or_false] at hx
  rcases hx with rfl | rfl
  · exact ⟨by decide, by decide⟩
  · exact ⟨by decide, by decide⟩
theorem aP_ok : PolOk [aP] := by
  intro x hx
  simp only [List.mem_cons, List.not_mem_nil, or_false] at hx
  subst hx
  exact ⟨⟨by decide, by decide⟩, by decide, by decide⟩
theorem aU_s : ∀ x ∈ aU, x.size ≤ 1000000 := by
  intro x hx
  simp only [aU, List.mem_cons, List.not_mem_nil, or_false] at hx
  rcases hx with rfl | rfl | rfl <;> decide
end Go.Proofs.Ythcbplameonjlaa
