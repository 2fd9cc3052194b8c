/-
  The walk through the reference's Many; groups of members and keys.
-/
import Derived.Test.YtnbgcjangoiodaaSesA
namespace Go.Proofs.Ytnbgcjangoiodaa
open Go.RowKit

def FewTo (ks : List Kys) (k : Nat) : Prop := ∀ (j : Nat) x, ks[j]? = some x → j < k → x.devices.n ≤ 30
theorem FewTo.succ {ks : List Kys} {k : Nat} {x : Kys} (h : FewTo ks k) (hx : ks[k]? = some x) (hm : x.devices.n ≤ 30) : FewTo ks (k + 1) := fun j y hy hj => by
  rcases Nat.lt_or_ge j k with h1 | h1
  · exact h j y hy h1
  · obtain rfl : j = k := by omega
    rw [hx] at hy; cases hy; exact hm
theorem FewTo.all {ks : List Kys} {k : Nat} (h : FewTo ks k) (hk : ks.length ≤ k) (hn : ks.length ≤ 30) : Few ks := ⟨hn, fun x hx => by
  obtain ⟨j, hj, rfl⟩ := List.mem_iff_getElem.1 hx
  exact h j _ (List.getElem?_eq_getElem hj) (by omega)⟩
set_option maxRecDepth 100000 in
set_option maxHeartbeats 4000000 in
theorem rmany_any (A : Option Addr) (n c : Nat) (ms : List ByteArray) (B : Option Addr) (m d : Nat) (ks : List Kys) (w : World) (hr : Strs w A n ms) (hn : n ≤ maxLen) (hk : Rd.kys.Holds w B m ks) (hm : m ≤ maxLen) :
    Calls Try.prog 21 #[.slice A n c, .slice B m d] w (SomeS (fun b => b = false → n ≤ 30 ∧ Few ks) w) := by
  unfold maxLen at hn hm
  have HM := Lib.hid hk.length
  by_cases hn30 : (30 : Int) < n
  · have e1 : decide ((30 : Int) < n) = true := decide_eq_true hn30
    go_enter Try.func21, Try.ntmps21
    go_wp2_with fail
    go_ret
    exact ⟨true, rfl, by simp, Below.refl _ _⟩
  have e1 : decide ((30 : Int) < n) = false := decide_eq_false hn30
  by_cases hm30 : (30 : Int) < m
  · have e2 : decide ((30 : Int) < m) = true := decide_eq_true hm30
    go_enter Try.func21, Try.ntmps21
    go_wp2_with fail
    go_ret
    exact ⟨true, rfl, by simp, Below.refl _ _⟩
  have e2 : decide ((30 : Int) < m) = false := decide_eq_false hm30
  have hnn : n ≤ 30 := by omega
  have hmm : m ≤ 30 := by omega
  clear hn30 hm30 hn hm
  go_enter Try.func21, Try.ntmps21
  go_wp2_with fail
  go_loop [5] (fun i => ∃ k : Nat, k ≤ n ∧ i = .int .i64 k) (fun i => n - (intOf i).toNat)
  case atStart => exact ⟨0, by omega, rfl⟩
  case round =>
    obtain ⟨k, hkk, rfl⟩ := hrel
    by_cases hkn : k < n
    · obtain ⟨ad, x, rfl, _, hu, hcx⟩ := hr.at_ hkn
      by_cases h200 : (200 : Int) < (x.size : Nat)
      · go_wp2_with fail
        go_ret
        exact ⟨true, rfl, by simp, Below.refl _ _⟩
      · go_wp2_with fail
        exact ⟨⟨k + 1, by omega, by go_num⟩, by simp [intOf]; omega⟩
    · go_wp2_with fail
      go_loop [6] (fun i => ∃ j : Nat, j ≤ m ∧ i = .int .i64 j ∧ FewTo ks j) (fun i => m - (intOf i).toNat)
      case atStart => exact ⟨0, by omega, rfl, fun j _ _ h => by omega⟩
      case round =>
        obtain ⟨j, hj, rfl, hfew⟩ := hrel
        by_cases hjm : j < m
        · obtain ⟨b, o, x, rfl, hbl, hux, _, hox, hxa⟩ := hk.mid (by decide) hjm
          have x0 : w.cell? ⟨b, o + j * 4, none⟩ = some (.string x.user) := hxa 0 _ rfl
          have x3 : w.cell? ⟨b, o + j * 4 + 3, none⟩ = some (.slice x.devices.A x.devices.n x.devices.c) := hxa 3 _ rfl
          clear hxa
          by_cases hu200 : (200 : Int) < (x.user.size : Nat)
          · have d1 : decide ((200 : Int) < (x.user.size : Nat)) = true := decide_eq_true hu200
            go_wp2_with fail
            go_ret
            exact ⟨true, rfl, by simp, Below.refl _ _⟩
          have d1 : decide ((200 : Int) < (x.user.size : Nat)) = false := decide_eq_false hu200
          by_cases hd30 : (30 : Int) < (x.devices.n : Nat)
          · have d2 : decide ((30 : Int) < (x.devices.n : Nat)) = true := decide_eq_true hd30
            go_wp2_with fail
            go_ret
            exact ⟨true, rfl, by simp, Below.refl _ _⟩
          have d2 : decide ((30 : Int) < (x.devices.n : Nat)) = false := decide_eq_false hd30
          have hN := Lib.hid (hfew.succ hux (by omega))
          have hD := kys_dev hox
          have hdn : x.devices.n ≤ 30 := by omega
          clear hu200 hd30 hfew hux hox
          generalize x.devices.A = DA at hD x3 ⊢
          generalize x.devices.n = DN at hD x3 hdn d2 ⊢
          generalize x.devices.c = DC at x3 ⊢
          generalize x.devices.l = DL at hD
          go_wp2_with fail
          go_loop [7] (fun i => ∃ p : Nat, p ≤ DN ∧ i = .int .i64 p) (fun i => DN - (intOf i).toNat)
          case atStart => exact ⟨0, by omega, rfl⟩
          case round =>
            obtain ⟨p, hp, rfl⟩ := hrel
            by_cases hpn : p < DN
            · obtain ⟨bd, od, z, rfl, _, _, _, _, hza⟩ := hD.mid (by decide) hpn
              have z0 : w.cell? ⟨bd, od + p * 3, none⟩ = some (.string z.id) := hza 0 _ rfl
              clear hza
              by_cases h200 : (200 : Int) < (z.id.size : Nat)
              · go_wp2_with fail
                go_ret
                exact ⟨true, rfl, by simp, Below.refl _ _⟩
              · go_wp2_with fail
                exact ⟨⟨p + 1, by omega, by go_num⟩, by simp [intOf]; omega⟩
            · go_wp2_with fail
              exact ⟨⟨j + 1, by omega, by go_num, hN.out⟩, by simp [intOf]; omega⟩
        · have hF := Lib.hid (hfew.all (by have := HM.out; omega) (by have := HM.out; omega))
          clear hfew
          go_wp2_with fail
          go_ret
          exact ⟨false, rfl, fun _ => by first | exact hF.out | exact ⟨hnn, hF.out⟩, Below.refl _ _⟩
structure Grp where
  members : Sl ByteArray
  keys : Sl Kys
def Rd.grp : Rd Grp := (Rd.pair (Rd.slice Rd.str) (Rd.pair (Rd.slice Rd.kys) Rd.unit)).as fun x => (x.members, x.keys, ())
end Go.Proofs.Ytnbgcjangoiodaa
