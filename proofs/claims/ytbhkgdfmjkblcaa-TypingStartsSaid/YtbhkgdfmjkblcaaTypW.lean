/-
  The walks through typing.Check and the reference's Check, Same, Great; Stop and Clean.
-/
import Derived.Test.YtbhkgdfmjkblcaaTypP
import Derived.Test.YtbhkgdfmjkblcaaRet
import Derived.Test.YtbhkgdfmjkblcaaRow
import Derived.BigQuiet
import Derived.IntWalk
namespace Go.Proofs.Ytbhkgdfmjkblcaa
open Go.RowKit

/-- a list of records in memory -/
def Typs (w : World) (A : Option Addr) (n : Nat) (l : List Typ) : Prop := Rd.typ.Holds w A n l
theorem Typs.on {w w' : World} {A : Option Addr} {n : Nat} {l : List Typ} (h : Typs w A n l) (hb : Below w.heap.size w w') : Typs w' A n l := Rd.Holds.on h hb
theorem Typs.at_ {w : World} {A : Option Addr} {n : Nat} {l : List Typ} (h : Typs w A n l) {k : Nat} (hk : k < n) :
    ∃ b o x, A = some ⟨b, o, none⟩ ∧ b < w.heap.size ∧ l[k]? = some x ∧ x.user.size ≤ maxLen ∧ (-9223372036854775808 ≤ x.til ∧ x.til ≤ 9223372036854775807) ∧
      w.cell? ⟨b, o + k * 2, none⟩ = some (.string x.user) ∧ w.cell? ⟨b, o + k * 2 + 1, none⟩ = some (.int .i64 x.til) := by
  obtain ⟨b, o, x, h1, h2, h3, _, hok, hr⟩ := Rd.Holds.mid h (by decide) hk
  exact ⟨b, o, x, h1, h2, h3, hok.1, hok.2.1, hr 0 _ rfl, hr 1 _ rfl⟩

def TypErr (w : World) (n : Int) (e : Ending) (w' : World) : Prop := e = .returned (.int .i64 n) ∧ Below w.heap.size w w'

set_option maxRecDepth 100000 in
set_option maxHeartbeats 2000000 in
theorem tcheck_any (A : Option Addr) (n c : Nat) (l : List Typ) (w : World) (hr : Typs w A n l) (hn : n ≤ maxLen) :
    Calls Try.prog 16 #[.slice A n c] w (TypErr w (T.chk none l)) := by
  unfold maxLen at hn
  have HL := Lib.hid (Rd.Holds.length hr)
  go_enter Try.func16, Try.ntmps16
  go_wp2_with fail
  go_loopw [7] (fun i wr => ∃ k : Nat, k ≤ l.length ∧ i = .int .i64 k ∧ Below w.heap.size w wr ∧ T.At l k = T.chk none l) (fun i _ => n - (intOf i).toNat)
  case atStart => exact ⟨0, by omega, rfl, Below.refl _ _, T.at_zero l⟩
  case round =>
    obtain ⟨k, hk, rfl, hbw, hat⟩ := hrel
    by_cases hlt : k < n
    · obtain ⟨b, o, x, rfl, hbb, hu, hz, hti, h0, h1⟩ := (hr.on hbw).at_ hlt
      have HAT := Lib.hid hat; have HU := Lib.hid hu
      have hk1 : k + 1 ≤ l.length := by have := HL.out; omega
      clear hat hu
      go_upto_region 4 with fail
      have c0 : (wr.alloc (.cells #[.string x.user, .int .i64 x.til] 68)).cell? ⟨wr.heap.size, 0, none⟩ = some (.string x.user) := by simp
      have c1 : (wr.alloc (.cells #[.string x.user, .int .i64 x.til] 68)).cell? ⟨wr.heap.size, 1, none⟩ = some (.int .i64 x.til) := by simp
      have hbW : Below w.heap.size w (wr.alloc (.cells #[.string x.user, .int .i64 x.til] 68)) := below_alloc hbw _
      have hlt' : wr.heap.size < (wr.alloc (.cells #[.string x.user, .int .i64 x.til] 68)).heap.size := by simp
      generalize wr.alloc (.cells #[.string x.user, .int .i64 x.til] 68) = W at c0 c1 hbW hlt' ⊢
      obtain ⟨g, hg⟩ : ∃ g, g = wr.heap.size := ⟨_, rfl⟩
      rw [← hg] at c0 c1 hlt' ⊢
      have HG := Lib.hid hg
      clear h0 h1 hbb hg
      go_wp2_with fail
      refine ((user_any x.user W hz).mono fun _ _ => Quiet.ret').mono ?_
      rintro e W1 ⟨rfl, b1⟩
      have d0 : W1.cell? ⟨g, 0, none⟩ = some (.string x.user) := (b1.cell (p := ⟨g, 0, none⟩) hlt').trans c0
      have d1 : W1.cell? ⟨g, 1, none⟩ = some (.int .i64 x.til) := (b1.cell (p := ⟨g, 1, none⟩) hlt').trans c1
      have hb1 := below_then hbW b1
      clear c0 c1 hbW b1 hlt' hbw
      cases hub : I.userB (bs x.user)
      · have HF := Lib.hid ((HAT.out.symm).trans (T.at_user HU.out hub))
        clear hub
        simp only [I.errOf]
        go_wp2_with fail
        go_ret
        exact ⟨ret_int HF.out.symm, hb1⟩
      · have HUB := Lib.hid hub
        clear hub
        simp only [I.errOf]
        by_cases hr1 : x.til < 1
        · have HF := Lib.hid ((HAT.out.symm).trans (T.at_range HU.out HUB.out (.inl hr1)))
          go_wp2_with fail
          go_ret
          exact ⟨ret_int HF.out.symm, hb1⟩
        by_cases hr2 : 1000030000 < x.til
        · have HF := Lib.hid ((HAT.out.symm).trans (T.at_range HU.out HUB.out (.inr hr2)))
          go_wp2_with fail
          go_ret
          exact ⟨ret_int HF.out.symm, hb1⟩
        have hrr : ¬ (x.til < 1 ∨ 1000030000 < x.til) := by omega
        rcases Nat.eq_zero_or_pos k with hk0 | hk0
        · have hd : decide (0 < k) = false := by simp; omega
          have HN : Hid (T.At l (k + 1) = T.chk none l) := by
            subst hk0
            exact (T.at_next0 HU.out HUB.out hrr).symm.trans HAT.out
          have HK0 := Lib.hid hk0; clear hk0 hrr
          go_wp2_with fail
          go_quiet (fail)
          go_wp2_with fail
          exact ⟨⟨k + 1, hk1, by go_num, below_drewN hb1 _, HN.out⟩, by simp [intOf]; omega⟩
        · obtain ⟨j, hkj⟩ : ∃ j, k = j + 1 := ⟨k - 1, by omega⟩
          obtain ⟨b', o', y, h', _, hv, _, _, p0, _⟩ := (hr.on hb1).at_ (show j < n by omega)
          cases h'
          have hd : decide (0 < k) = true := by simp; omega
          have hw1 : IntKind.i64.wrap ((k : Int) - 1) = (j : Int) := by rw [show (k : Int) - 1 = (j : Int) by omega]; exact IntWalk.i64_in _ (by omega)
          have hjn : (j : Int) < n := by omega
          by_cases hlt2 : bs y.user < bs x.user
          · obtain ⟨e1, e2⟩ := not_less hlt2
            have HN : Hid (T.At l (k + 1) = T.chk none l) := by
              subst hkj
              exact (T.at_next hv HU.out HUB.out hrr hlt2).symm.trans HAT.out
            have HKJ := Lib.hid hkj; clear hkj hrr hv hlt2 hk0
            go_wp2_with fail
            go_quiet (fail)
            go_wp2_with fail
            exact ⟨⟨k + 1, hk1, by go_num, below_drewN hb1 _, HN.out⟩, by simp [intOf]; omega⟩
          · have HF : Hid (T.chk none l = 8) := by
              subst hkj
              exact HAT.out.symm.trans (T.at_order hv HU.out HUB.out hrr hlt2)
            have HKJ := Lib.hid hkj; clear hkj hrr hv hk0
            rcases Nm.lt_or (bs x.user) (bs y.user) with h | h | h
            · have e1 : Op.bytesLess x.user.toList y.user.toList = true := by rw [bytesLess_lt]; exact decide_eq_true h
              clear h hlt2
              go_wp2_with fail
              go_quiet (fail)
              go_wp2_with fail
              go_ret
              exact ⟨ret_int HF.out.symm, below_drewN hb1 _⟩
            · have e1 : (x.user.toList == y.user.toList) = true := by rw [streq]; exact decide_eq_true h
              clear h hlt2
              go_wp2_with fail
              go_quiet (fail)
              go_wp2_with fail
              go_ret
              exact ⟨ret_int HF.out.symm, below_drewN hb1 _⟩
            · exact absurd h hlt2
    · have hf : T.chk none l = 0 := by rw [← hat]; exact T.at_end (by have := HL.out; omega)
      have HF := Lib.hid hf; clear hf hat
      go_wp2_with fail
      go_ret
      exact ⟨ret_int HF.out.symm, hbw⟩
end Go.Proofs.Ytbhkgdfmjkblcaa
