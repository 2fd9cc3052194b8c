/-
  The walk through the examples of chapter 2 (awake), and the laws IdsServers, IdsParses, IdsMakes, IdsLists.
-/
import Derived.Test.YtlfdafelceipfaaIdsM
import Derived.Test.YtlfdafelceipfaaNamesT
namespace Go.Proofs.Ytlfdafelceipfaa
open Go.RowKit

theorem Same.ret {w : World} {v : Value} {e : Ending} {w' : World} (h : Same w v e w') : Ret w v e w' := ⟨h.1, h.2 ▸ Below.refl _ _⟩
theorem Quiet.ret {w : World} {v : Value} {e : Ending} {w' : World} (h : Quiet w v e w') : Ret w v e w' := by
  obtain ⟨h1, n, rfl⟩ := h
  exact ⟨h1, below_drewN (Below.refl _ _) n⟩
/-- a row of the call's own, handed on as a list of strings -/
theorem OwnStrs.form {w : World} {B : Nat} {v : Value} {l : List (List UInt8)} (h : OwnStrs w B v l) : ∃ A c, v = .slice A l.length c ∧ Strs w A l.length (l.map mk) := by
  obtain ⟨A, c, rfl, _, hr⟩ := own_form h
  refine ⟨A, c, rfl, ?_⟩
  unfold Strs
  rw [strs_mk]; exact hr

section
variable (s : ByteArray) (w : World)
theorem user_lit (b : Bool) (h : I.userB (bs s) = b) (hs : s.size ≤ maxLen) : Calls Try.prog 18 #[.string s] w (Ret w (.int .i64 (I.errOf b))) := (h ▸ user_any s w hs).mono fun _ _ => Quiet.ret
theorem room_lit (b : Bool) (h : I.roomB (bs s) = b) (hs : s.size ≤ maxLen) : Calls Try.prog 20 #[.string s] w (Ret w (.int .i64 (I.errOf b))) := (h ▸ room_any s w hs).mono fun _ _ => Quiet.ret
theorem server_lit (b : Bool) (h : I.serverB (bs s) = b) (hs : s.size ≤ maxLen) : Calls Try.prog 15 #[.string s] w (Ret w (.int .i64 (I.errOf b))) := (h ▸ idsServer_any s w hs).mono fun _ _ => Same.ret
theorem serverOf_lit (x : ByteArray) (h : mk (I.serverOf (bs s)) = x) (hs : s.size ≤ maxLen) : Calls Try.prog 22 #[.string s] w (Ret w (.string x)) := (h ▸ serverOf_any s w hs).mono fun _ _ => Quiet.ret
theorem localOf_lit (x : ByteArray) (h : mk (I.localOf (bs s)) = x) (hs : s.size ≤ maxLen) : Calls Try.prog 24 #[.string s] w (Ret w (.string x)) := (h ▸ localOf_any s w hs).mono fun _ _ => Quiet.ret
end
theorem make_lit (m : UInt8) (a b : ByteArray) (w : World) (v : Value) (h : MakeV m (bs a) (bs b) = v) (ha : a.size ≤ maxLen) (hb : b.size ≤ maxLen) :
    Calls Try.prog 26 #[.int .u8 m.toNat, .string a, .string b] w (Ret w v) := h ▸ make_any m a b w ha hb
theorem find_lit (A : Option Addr) (n c : Nat) (l : List ByteArray) (s : ByteArray) (w : World) (k : Int) (h : findI (bss l) (bs s) = k) (hr : Strs w A n l) (hn : n ≤ 1000000) :
    Calls Try.prog 31 #[.slice A n c, .string s] w (Ret w (.int .i64 k)) := (h ▸ find_any A n c l s w hr hn).mono fun _ _ => Same.ret
theorem small_lit {s : ByteArray} (h : s.size ≤ 1000) : s.size ≤ maxLen := by unfold maxLen; omega
theorem ab_names : Nm.names [[98], [97], [98]] = [[97], [98]] := by
  refine (Nm.names_is (m := [[97], [98]]) (by unfold Nm.Inc; decide) fun x => ?_).symm
  simp only [List.mem_cons, List.not_mem_nil, or_false]
  constructor
  · rintro (h | h) <;> simp [h]
  · rintro (h | h | h) <;> simp [h]
theorem same_call (A B : Option Addr) (n m c d : Nat) (a b : List ByteArray) (w : World) (r : Bool) (h : decide (bss a = bss b) = r) (ha : Strs w A n a) (hb : Strs w B m b) (hn : n ≤ 1000000) :
    Calls Try.prog 28 #[.slice A n c, .slice B m d] w (Ret w (.bool r)) := (h ▸ rsame_any A B n m c d a b w ha hb hn).mono fun _ _ => Quiet.ret

set_option maxRecDepth 100000 in
set_option maxHeartbeats 2000000 in
theorem iawake_any (w : World) : Calls Try.prog 17 #[] w (Ret w (.bool true)) := by
  go_enter Try.func17, Try.ntmps17
  go_wp2_with fail
  refine (make_lit 33 _ _ _ (.tuple #[.string ⟨#[33, 114, 58, 120]⟩, .int .i64 0]) (MakeV_yes (by decide)) (small_lit (by decide)) (small_lit (by decide))).mono ?_
  rintro e w1 ⟨rfl, b1⟩
  go_wp2_with fail
  refine (make_lit 35 _ _ _ (.tuple #[.string ⟨#[]⟩, .int .i64 3]) (MakeV_no (by decide)) (small_lit (by decide)) (small_lit (by decide))).mono ?_
  rintro e w2 ⟨rfl, b2⟩
  have c2 := below_then b1 b2; clear b1 b2
  go_wp2_with fail
  refine (user_lit _ _ true (by decide) (small_lit (by decide))).mono ?_
  rintro e w3 ⟨rfl, b3⟩
  have c3 := below_then c2 b3; clear c2 b3
  simp only [I.errOf]
  go_wp2_with fail
  refine (localOf_lit _ _ ⟨#[97, 110, 110]⟩ (by decide) (small_lit (by decide))).mono ?_
  rintro e w4 ⟨rfl, b4⟩
  have c4 := below_then c3 b4; clear c3 b4
  have e4 : ((⟨#[97, 110, 110]⟩ : ByteArray).toList == (⟨#[97, 110, 110]⟩ : ByteArray).toList) = true := by simp
  go_wp2_with fail
  refine (serverOf_lit _ _ ⟨#[97, 46, 101, 120, 97, 109, 112, 108, 101]⟩ (by decide) (small_lit (by decide))).mono ?_
  rintro e w5 ⟨rfl, b5⟩
  have c5 := below_then c4 b5; clear c4 b5
  go_wp2_with fail
  refine (room_lit _ _ false (by decide) (small_lit (by decide))).mono ?_
  rintro e w6 ⟨rfl, b6⟩
  have c6 := below_then c5 b6; clear c5 b6
  simp only [I.errOf]
  go_wp2_with fail
  refine (server_lit _ _ true (by decide) (small_lit (by decide))).mono ?_
  rintro e w7 ⟨rfl, b7⟩
  have c7 := below_then c6 b7; clear c6 b7
  simp only [I.errOf]
  go_wp2_with fail
  refine (server_lit _ _ false (by decide) (small_lit (by decide))).mono ?_
  rintro e w8 ⟨rfl, b8⟩
  have c8 := below_then c7 b8; clear c7 b8
  simp only [I.errOf]
  go_wp2_with fail
  refine (names_any _ _ _ [⟨#[98]⟩, ⟨#[97]⟩, ⟨#[98]⟩] _ (Strs.new _ _ _ _ _ rfl rfl) (by decide) (fun x hx => small_lit (by simp at hx; rcases hx with rfl | rfl | rfl <;> decide))).mono ?_
  rintro e w9 ⟨v, rfl, b9, hown⟩
  rw [show bss [⟨#[98]⟩, ⟨#[97]⟩, ⟨#[98]⟩] = [[98], [97], [98]] from rfl, ab_names] at hown
  obtain ⟨A, cp, rfl, hS⟩ := hown.form
  have c9 := below_then (below_alloc c8 _) b9; clear c8 b9 hown
  go_wp2_with fail
  refine (same_call _ _ _ _ _ _ [mk [97], mk [98]] [⟨#[97]⟩, ⟨#[98]⟩] _ true (by decide) (hS.on (below_alloc (Below.refl _ _) _)) (Strs.new _ _ _ _ _ rfl rfl) (by decide)).mono ?_
  rintro e w10 ⟨rfl, b10⟩
  have c10 := below_then (below_alloc c9 _) b10; clear c9 b10 hS
  go_wp2_with fail
  refine (find_lit _ _ _ [⟨#[98]⟩, ⟨#[97]⟩, ⟨#[98]⟩] _ _ 0 (by decide) (Strs.new _ _ _ _ _ rfl rfl) (by decide)).mono ?_
  rintro e w11 ⟨rfl, b11⟩
  have c11 := below_then (below_alloc c10 _) b11; clear c10 b11
  go_wp2_with fail
  refine (find_lit _ _ _ [⟨#[98]⟩] _ _ (-1) (by decide) (Strs.new _ _ _ _ _ rfl rfl) (by decide)).mono ?_
  rintro e w12 ⟨rfl, b12⟩
  have c12 := below_then (below_alloc c11 _) b12; clear c11 b12
  go_wp2_with fail
  go_ret
  exact ⟨rfl, c12⟩
end Go.Proofs.Ytlfdafelceipfaa
