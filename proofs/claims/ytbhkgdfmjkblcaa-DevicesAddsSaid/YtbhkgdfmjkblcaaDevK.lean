/-
  The walks through Get, put and Changed.
-/
import Derived.Test.YtbhkgdfmjkblcaaDevL
import Derived.Test.YtbhkgdfmjkblcaaNamesT
namespace Go.Proofs.Ytbhkgdfmjkblcaa
open Go.RowKit
attribute [local go_sem ↓] ex_st_ky
attribute [local go_sem] st_ky_new st_ky

/-! ### a search -/
section
variable {α : Type} {key : α → List UInt8} {l : List α} {s : List UInt8} {k : Nat} {x : α}
def NoF (key : α → List UInt8) (l : List α) (s : List UInt8) (k : Nat) : Prop := ∀ (j : Nat) y, l[j]? = some y → j < k → key y ≠ s
theorem NoF.zero : NoF key l s 0 := fun j _ _ h => by omega
theorem NoF.succ (h : NoF key l s k) (hx : l[k]? = some x) (hm : key x ≠ s) : NoF key l s (k + 1) := fun j y hy hj => by
  rcases Nat.lt_or_ge j k with h1 | h1
  · exact h j y hy h1
  · obtain rfl : j = k := by omega
    rw [hx] at hy; cases hy; exact hm
theorem NoF.hit (h : NoF key l s k) (hx : l[k]? = some x) (hm : key x = s) : Dv.find key l s = some x := by
  unfold Dv.find
  obtain ⟨hk, rfl⟩ := List.getElem?_eq_some_iff.1 hx
  rw [List.find?_eq_some_iff_getElem]
  refine ⟨decide_eq_true hm, k, hk, rfl, fun j hj => ?_⟩
  have := h j _ (List.getElem?_eq_getElem (by omega)) hj
  simp only [Bool.not_eq_true', decide_eq_false_iff_not]
  exact this
theorem NoF.miss (h : NoF key l s k) (hk : l.length = k) : Dv.find key l s = none := by
  rw [Dv.find_none_iff]
  intro y hy
  obtain ⟨j, hj, rfl⟩ := List.mem_iff_getElem.1 hy
  exact h j _ (List.getElem?_eq_getElem hj) (by omega)
end
theorem ku_eq {x : Kys} {u : ByteArray} {e : Bool} (h : (x.user.toList == u.toList) = e) : decide (ku x = bs u) = e := by rw [← h, streq]; rfl

set_option maxRecDepth 100000 in
set_option maxHeartbeats 4000000 in
theorem get_any (A : Option Addr) (n c : Nat) (l : List Kys) (u : ByteArray) (w : World) (hr : Rd.kys.Holds w A n l) (hn : n ≤ 1000000) :
    Calls Try.prog 46 #[.slice A n c, .string u] w (Ret w (getV (Dv.find ku l (bs u)))) := by
  have HL := Lib.hid hr.length
  obtain ⟨wa, hwa⟩ : ∃ wa : World, wa = w.alloc (.cells #[.string ⟨#[]⟩, .int .i64 0, .int .i64 0, .slice none 0 0] 59) := ⟨_, rfl⟩
  have hba : Below w.heap.size w wa := by rw [hwa]; exact below_alloc (Below.refl _ _) _
  have hth : thereB wa w.heap.size 4 = true := by rw [hwa]; exact thereB_new w #[.string ⟨#[]⟩, .int .i64 0, .int .i64 0, .slice none 0 0] 59 4 rfl
  have hsz : w.heap.size < wa.heap.size := by rw [hwa]; simp
  go_enter Try.func46, Try.ntmps46
  go_upto_region 1 with fail
  rw [← hwa]
  have HW := Lib.hid hwa; clear hwa
  obtain ⟨g, hg⟩ : ∃ g, w.heap.size = g := ⟨_, rfl⟩
  rw [hg] at hth hsz ⊢
  have HG := Lib.hid hg
  clear hg
  have hra := hr.on hba
  go_wp2_with fail
  go_loopw [10] (fun i wr => ∃ k : Nat, k ≤ n ∧ i = .int .i64 k ∧ Below wa.heap.size wa wr ∧ NoF ku l (bs u) k) (fun i _ => n - (intOf i).toNat)
  case atStart => exact ⟨0, by omega, rfl, Below.refl _ _, NoF.zero⟩
  case round =>
    obtain ⟨k, hk, rfl, hbw, hno⟩ := hrel
    by_cases hkn : k < n
    · obtain ⟨b, o, x, rfl, hbl, hu, _, _, hxa⟩ := (hra.on hbw).mid (by decide) hkn
      have x0 : wr.cell? ⟨b, o + k * 4, none⟩ = some (.string x.user) := hxa 0 _ rfl
      have x1 : wr.cell? ⟨b, o + k * 4 + 1, none⟩ = some (.int .i64 x.master) := hxa 1 _ rfl
      have x2 : wr.cell? ⟨b, o + k * 4 + 2, none⟩ = some (.int .i64 x.pos) := hxa 2 _ rfl
      have x3 : wr.cell? ⟨b, o + k * 4 + 3, none⟩ = some (.slice x.devices.A x.devices.n x.devices.c) := hxa 3 _ rfl
      clear hxa
      obtain ⟨e0, h0⟩ : ∃ e, (x.user.toList == u.toList) = e := ⟨_, rfl⟩
      have hd := ku_eq h0
      go_upto_region 4 with fail
      have bx := Box.new wr (kyC x) 59
      have hbo := below_alloc (Below.refl wr.heap.size wr) (.cells #[.string x.user, .int .i64 x.master, .int .i64 x.pos, .slice x.devices.A x.devices.n x.devices.c] 59)
      change Box (wr.alloc (.cells #[.string x.user, .int .i64 x.master, .int .i64 x.pos, .slice x.devices.A x.devices.n x.devices.c] 59)) _ _ at bx
      generalize wr.alloc (.cells #[.string x.user, .int .i64 x.master, .int .i64 x.pos, .slice x.devices.A x.devices.n x.devices.c] 59) = wx at bx hbo ⊢
      have hbx := below_then hbw hbo
      obtain ⟨q, hq⟩ : ∃ q, wr.heap.size = q := ⟨_, rfl⟩
      rw [hq] at bx ⊢
      clear hq x0 x1 x2 x3 hbo
      have p0 : wx.cell? ⟨q, 0, none⟩ = some (.string x.user) := bx.at_ 0 _ rfl
      have p1 : wx.cell? ⟨q, 1, none⟩ = some (.int .i64 x.master) := bx.at_ 1 _ rfl
      have p2 : wx.cell? ⟨q, 2, none⟩ = some (.int .i64 x.pos) := bx.at_ 2 _ rfl
      have p3 : wx.cell? ⟨q, 3, none⟩ = some (.slice x.devices.A x.devices.n x.devices.c) := bx.at_ 3 _ rfl
      have th3 : thereB wx g 4 = true := thereB_on hth hsz hbx
      cases e0
      · have HN := Lib.hid (hno.succ hu (of_decide_eq_false hd))
        clear hno hu hd bx
        go_wp2_with fail
        exact ⟨⟨k + 1, by omega, by go_num, hbx, HN.out⟩, by simp [intOf]; omega⟩
      · have HF := Lib.hid (hno.hit hu (of_decide_eq_true hd))
        have HB := Lib.hid (below_put (cs := kyC x) (g := g) (by have := HG.out; omega) (below_then hba hbx))
        have HT := Lib.hid th3
        clear hno hu hd bx
        go_wp2_with fail
        refine bodyPost_ret (v := getV (Dv.find ku l (bs u))) ?_ rfl ⟨rfl, HB.out⟩
        rw [HF.out]
        rw [results_cell_tmp (fn := Try.f46) (p := 4) (q := 5) (ty := 59) rfl _ _ g (kyC x) _ ?_ (range_put HT.out) Try.underlying59 rfl (by rw [inf_kys]; rfl)]
        · rfl
        · rfl
    · have HF := Lib.hid (hno.miss (by have := HL.out; omega))
      have th3 : thereB wr g 4 = true := thereB_on hth hsz hbw
      have HB := Lib.hid (below_put (cs := kyC zKys) (g := g) (by have := HG.out; omega) (below_then hba hbw))
      have HT := Lib.hid th3
      clear hno
      go_wp2_with fail
      refine bodyPost_ret (v := getV (Dv.find ku l (bs u))) ?_ rfl ⟨rfl, HB.out⟩
      rw [HF.out]
      rw [results_cell_tmp (fn := Try.f46) (p := 4) (q := 5) (ty := 59) rfl _ _ g (kyC zKys) _ ?_ (range_put HT.out) Try.underlying59 rfl (by rw [inf_kys]; rfl)]
      · rfl
      · rfl

set_option maxRecDepth 100000 in
set_option maxHeartbeats 4000000 in
theorem rget_any (A : Option Addr) (n c : Nat) (l : List Kys) (u : ByteArray) (w : World) (hr : Rd.kys.Holds w A n l) (hn : n ≤ 1000000) :
    Calls Try.prog 47 #[.slice A n c, .string u] w (Ret w (getV (Dv.find ku l (bs u)))) := by
  have HL := Lib.hid hr.length
  obtain ⟨wa, hwa⟩ : ∃ wa : World, wa = w.alloc (.cells #[.string ⟨#[]⟩, .int .i64 0, .int .i64 0, .slice none 0 0] 59) := ⟨_, rfl⟩
  have hba : Below w.heap.size w wa := by rw [hwa]; exact below_alloc (Below.refl _ _) _
  have hth : thereB wa w.heap.size 4 = true := by rw [hwa]; exact thereB_new w #[.string ⟨#[]⟩, .int .i64 0, .int .i64 0, .slice none 0 0] 59 4 rfl
  have hsz : w.heap.size < wa.heap.size := by rw [hwa]; simp
  go_enter Try.func47, Try.ntmps47
  go_upto_region 1 with fail
  rw [← hwa]
  have HW := Lib.hid hwa; clear hwa
  obtain ⟨g, hg⟩ : ∃ g, w.heap.size = g := ⟨_, rfl⟩
  rw [hg] at hth hsz ⊢
  have HG := Lib.hid hg
  clear hg
  have hra := hr.on hba
  go_wp2_with fail
  go_loopw [6] (fun i wr => ∃ k : Nat, k ≤ n ∧ i = .int .i64 k ∧ wr = wa ∧ NoF ku l (bs u) k) (fun i _ => n - (intOf i).toNat)
  case atStart => exact ⟨0, by omega, rfl, rfl, NoF.zero⟩
  case round =>
    obtain ⟨k, hk, rfl, rfl, hno⟩ := hrel
    by_cases hkn : k < n
    · obtain ⟨b, o, x, rfl, hbl, hu, _, _, hxa⟩ := hra.mid (by decide) hkn
      have x0 : wr.cell? ⟨b, o + k * 4, none⟩ = some (.string x.user) := hxa 0 _ rfl
      have x1 : wr.cell? ⟨b, o + k * 4 + 1, none⟩ = some (.int .i64 x.master) := hxa 1 _ rfl
      have x2 : wr.cell? ⟨b, o + k * 4 + 2, none⟩ = some (.int .i64 x.pos) := hxa 2 _ rfl
      have x3 : wr.cell? ⟨b, o + k * 4 + 3, none⟩ = some (.slice x.devices.A x.devices.n x.devices.c) := hxa 3 _ rfl
      have hk0 : (k : Int) < n := by omega
      clear hxa
      obtain ⟨e0, h0⟩ : ∃ e, (x.user.toList == u.toList) = e := ⟨_, rfl⟩
      have hd := ku_eq h0
      cases e0
      · have HN := Lib.hid (hno.succ hu (of_decide_eq_false hd))
        clear hno hu hd
        go_wp2_with fail
        exact ⟨⟨k + 1, by omega, by go_num, by first | trivial | rfl, HN.out⟩, by simp [intOf]; omega⟩
      · have HF := Lib.hid (hno.hit hu (of_decide_eq_true hd))
        have HB := Lib.hid (below_put (cs := kyC x) (g := g) (by have := HG.out; omega) hba)
        have HT := Lib.hid hth
        clear hno hu hd
        go_wp2_with fail
        refine bodyPost_ret (v := getV (Dv.find ku l (bs u))) ?_ rfl ⟨rfl, HB.out⟩
        rw [HF.out]
        rw [results_cell_tmp (fn := Try.f47) (p := 4) (q := 5) (ty := 59) rfl _ _ g (kyC x) _ ?_ (range_put HT.out) Try.underlying59 rfl (by rw [inf_kys]; rfl)]
        · rfl
        · rfl
    · have HF := Lib.hid (hno.miss (by have := HL.out; omega))
      have HB := Lib.hid (below_put (cs := kyC zKys) (g := g) (by have := HG.out; omega) hba)
      have HT := Lib.hid hth
      clear hno
      go_wp2_with fail
      refine bodyPost_ret (v := getV (Dv.find ku l (bs u))) ?_ rfl ⟨rfl, HB.out⟩
      rw [HF.out]
      rw [results_cell_tmp (fn := Try.f47) (p := 4) (q := 5) (ty := 59) rfl _ _ g (kyC zKys) _ ?_ (range_put HT.out) Try.underlying59 rfl (by rw [inf_kys]; rfl)]
      · rfl
      · rfl
end Go.Proofs.Ytbhkgdfmjkblcaa
