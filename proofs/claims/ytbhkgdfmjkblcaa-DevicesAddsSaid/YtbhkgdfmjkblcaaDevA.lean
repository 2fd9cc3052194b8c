/-
  The walks through both Changed, SameTexts, SameKeys and Same.
-/
import Derived.Test.YtbhkgdfmjkblcaaDevC
import Derived.Test.YtbhkgdfmjkblcaaSameT
import Derived.Test.YtbhkgdfmjkblcaaNamesT
import Derived.Test.YtbhkgdfmjkblcaaRet
import Derived.Deep.RegionHeld3
namespace Go.Proofs.Ytbhkgdfmjkblcaa
open Go.RowKit
attribute [local go_sem ↓] ex_st_ky ex_st_dv
attribute [local go_sem] st_ky_new st_ky st_dv_new st_dv

set_option maxRecDepth 100000 in
set_option maxHeartbeats 1000000 in
theorem same13_any (A B : Option Addr) (n m c d : Nat) (a b : List ByteArray) (w : World) (ha : Strs w A n a) (hb : Strs w B m b) (hn : n ≤ maxLen) :
    Calls Try.prog 49 #[.slice A n c, .slice B m d] w (TxQ w (.bool (decide (a = b)))) := by
  unfold maxLen at hn
  have HA := Lib.hid ha.length
  have HB := Lib.hid hb.length
  by_cases hl : n = m
  · have el : ((n : Int) != (m : Int)) = false := neF (by omega)
    have HLE := Lib.hid hl; clear hl
    go_enter Try.func49, Try.ntmps49
    go_wp2_with fail
    go_loopw [5] (fun i wr => ∃ k t : Nat, k ≤ a.length ∧ i = .int .i64 k ∧ TxTo a b k ∧ Hid (wr = w.drewN t)) (fun i _ => n - (intOf i).toNat)
    case atStart => exact ⟨0, 0, by omega, rfl, rfl, rfl⟩
    case round =>
      obtain ⟨k, t, hk, rfl, hs, ht⟩ := hrel
      obtain rfl := ht.out
      by_cases hlt : k < n
      · have hk0 : (k : Int) < n := by omega
        obtain ⟨ad, x, rfl, hadb, hu, hc⟩ := ha.at_ hlt
        have hlm : k < m := by have := HLE.out; omega
        have hkm : (k : Int) < m := by omega
        obtain ⟨bd, y, rfl, hbdb, hu2, hc2⟩ := hb.at_ hlm
        have hct : (w.drewN t).cell? (ad.add k) = some (.string x) := hc
        have hct2 : (w.drewN t).cell? (bd.add k) = some (.string y) := hc2
        have hk1 : k + 1 ≤ a.length := by have := HA.out; omega
        by_cases hxy : x = y
        · subst hxy
          have HS := Lib.hid (hs.succ hu hu2)
          clear hu hu2 hs
          go_wp2_with fail
          go_quiet (fail)
          go_wp2_with fail
          exact ⟨⟨k + 1, t + nq, hk1, by go_num, HS.out, by show _ = _; simp⟩, by simp [intOf]; omega⟩
        · have es : (x.toList == y.toList) = false := by rw [streq']; simpa using hxy
          have HN := Lib.hid (tx_not hu hu2 hxy)
          clear hu hu2 hs
          go_wp2_with fail
          go_quiet (fail)
          go_wp2_with fail
          go_ret
          exact ⟨by rw [HN.out]; rfl, t + nq, by simp⟩
      · have HS := Lib.hid (TxTo.all (by have := HA.out; have := HB.out; have := HLE.out; omega) (show TxTo a b a.length by have := HA.out; rwa [show a.length = k from by omega]))
        clear hs
        go_wp2_with fail
        go_ret
        exact ⟨by rw [HS.out]; rfl, t, rfl⟩
  · have el : ((n : Int) != (m : Int)) = true := neT (by omega)
    have HN := Lib.hid (tx_len (a := a) (b := b) (by have := HA.out; have := HB.out; omega))
    go_enter Try.func49, Try.ntmps49
    go_wp2_with fail
    go_ret
    exact ⟨by rw [HN.out]; rfl, 0, rfl⟩

theorem changed_step {l : List Kys} {k : Nat} {x : Kys} (p : Int) (hx : l[k]? = some x) : Dv.changed ((l.map kv).take (k + 1)) p = Dv.changed ((l.map kv).take k) p ++ (if p ≤ x.pos then [bs x.user] else []) := Dv.changed_take p (Dv.map_at hx)

set_option maxRecDepth 100000 in
set_option maxHeartbeats 4000000 in
theorem changed_any (A : Option Addr) (n c : Nat) (l : List Kys) (p : Int) (w : World) (hr : Rd.kys.Holds w A n l) (hn : n ≤ 1000000) (hi : Dv.Inc Dv.uk (l.map kv)) :
    Calls Try.prog 50 #[.slice A n c, .int .i64 p] w (fun e w' => ∃ v, e = .returned v ∧ Below w.heap.size w w' ∧ OwnStrs w' w.heap.size v (Dv.changed (l.map kv) p)) := by
  obtain ⟨i0, hi0, hz0, hz1, hz2⟩ := info_parts infoStr
  have HL := Lib.hid hr.length
  have HI := Lib.hid hi
  have HI0 := Lib.hid hi0; have HZ0 := Lib.hid hz0; have HZ1 := Lib.hid hz1; have HZ2 := Lib.hid hz2
  clear hi hi0 hz0 hz1 hz2
  go_enter Try.func50, Try.ntmps50
  go_wp2_with fail
  go_loopw [5, 10] (fun v i wr => ∃ k : Nat, k ≤ n ∧ i = .int .i64 k ∧ Below w.heap.size w wr ∧ OwnStrs wr w.heap.size v (Dv.changed ((l.map kv).take k) p)) (fun _ i _ => n - (intOf i).toNat)
  case atStart => exact ⟨0, by omega, rfl, Below.refl _ _, OwnStrs.nil _ _⟩
  case round =>
    obtain ⟨k, hk, rfl, hbw, hown⟩ := hrel
    by_cases hlt : k < n
    · obtain ⟨b, o, x, rfl, hbl, hu, _, hok, hxa⟩ := (hr.on hbw).mid (by decide) hlt
      have x0 : wr.cell? ⟨b, o + k * 4, none⟩ = some (.string x.user) := hxa 0 _ rfl
      have x1 : wr.cell? ⟨b, o + k * 4 + 1, none⟩ = some (.int .i64 x.master) := hxa 1 _ rfl
      have x2 : wr.cell? ⟨b, o + k * 4 + 2, none⟩ = some (.int .i64 x.pos) := hxa 2 _ rfl
      have x3 : wr.cell? ⟨b, o + k * 4 + 3, none⟩ = some (.slice x.devices.A x.devices.n x.devices.c) := hxa 3 _ rfl
      have HS := Lib.hid (changed_step p hu)
      clear hxa hu hok
      go_upto_region 5 with fail
      have bx := Box.new wr (kyC x) 59
      have hbo := below_alloc (Below.refl wr.heap.size wr) (.cells #[.string x.user, .int .i64 x.master, .int .i64 x.pos, .slice x.devices.A x.devices.n x.devices.c] 59)
      have hown2 := hown.on hbo
      change Box (wr.alloc (.cells #[.string x.user, .int .i64 x.master, .int .i64 x.pos, .slice x.devices.A x.devices.n x.devices.c] 59)) _ _ at bx
      generalize wr.alloc (.cells #[.string x.user, .int .i64 x.master, .int .i64 x.pos, .slice x.devices.A x.devices.n x.devices.c] 59) = wx at bx hbo hown2 ⊢
      have hbx := below_then hbw hbo
      obtain ⟨q, hq⟩ : ∃ q, wr.heap.size = q := ⟨_, rfl⟩
      rw [hq] at bx ⊢
      clear hq x0 x1 x2 x3 hbo hbw hown hbl
      have y0 : wx.cell? ⟨q, 0, none⟩ = some (.string x.user) := bx.at_ 0 _ rfl
      have y2 : wx.cell? ⟨q, 2, none⟩ = some (.int .i64 x.pos) := bx.at_ 2 _ rfl
      obtain ⟨L, hL⟩ : ∃ L, Dv.changed ((l.map kv).take k) p = L := ⟨_, rfl⟩
      have hLn : L.length ≤ k := by rw [← hL]; exact Nat.le_trans (Dv.changed_len _ _) (List.length_take_le _ _)
      rw [hL] at hown2
      have HLL := Lib.hid hL
      clear hL bx
      have hB := hbx.size
      by_cases hp : p ≤ x.pos
      · have HN : Hid (Dv.changed ((l.map kv).take (k + 1)) p = L ++ [bs x.user]) := Lib.hid (by rw [HS.out, HLL.out, if_pos hp])
        go_wp2_with (at_builtin; refine wpList_append_own _ rfl _ _ 36 rfl w.heap.size 9 i0 (.string .empty) 1 16 Try.underlying36 HI0.out HZ0.out HZ1.out HZ2.out rfl (by decide) _ _ _ rfl (World.ownsRow.alloc hown2 _) ⟨wx.heap.size, 0, none⟩ 1 1 [.string x.user] rfl rfl ?c1 ?c2 ?c3 ?c4 ?c5 ?_)
        try case c1 => exact cell_one _ _ _
        try case c2 => simp [Value.oneCell']
        try case c3 => unfold maxLen; omega
        try case c4 => omega
        try case c5 => first | omega | (simp; done) | (simp; omega)
        intro v' w3 hown' hg3 _
        have b3 : Below w.heap.size w w3 := (below_alloc hbx _).grown hg3 (by simp; omega) (fun j hj => (World.ownsRow.lt hown2 _ hj).1)
        have hfin := sown_snoc rfl hown'
        rw [← HN.out] at hfin
        clear hown' hg3 hown2
        go_wp2_with fail
        exact ⟨⟨k + 1, by omega, by go_num, b3, hfin⟩, by simp [intOf]; omega⟩
      · have HN : Hid (Dv.changed ((l.map kv).take (k + 1)) p = L) := Lib.hid (by rw [HS.out, HLL.out, if_neg hp, List.append_nil])
        rw [← HN.out] at hown2
        go_wp2_with fail
        exact ⟨⟨k + 1, by omega, by go_num, hbx, hown2⟩, by simp [intOf]; omega⟩
    · obtain ⟨L, hL⟩ : ∃ L, Dv.changed (l.map kv) p = L := ⟨_, rfl⟩
      have htk : (l.map kv).take k = l.map kv := List.take_of_length_le (by rw [List.length_map, HL.out]; omega)
      rw [htk, hL] at hown
      have HS : Hid (Nm.sorted L = L) := Lib.hid (by rw [← hL]; exact sorted_inc_self (Dv.changed_inc HI.out p))
      have hlL : L.length ≤ 1000000 := by rw [← hL]; exact Nat.le_trans (Dv.changed_len _ _) (by rw [List.length_map, HL.out]; omega)
      have HLL := Lib.hid hL
      clear hL htk
      go_wp2_with fail
      refine (sort_any w.heap.size _ L wr hown hlL).mono ?_
      rintro e w1 ⟨rfl, own1, g1⟩
      have b1 : Below w.heap.size w w1 := hbw.grown g1 hbw.size (fun j hj => (World.ownsRow.lt hown _ hj).1)
      rw [HS.out] at own1
      clear g1 hown hbw
      go_wp2_with fail
      go_ret
      exact ⟨_, rfl, b1, by rw [HLL.out]; exact own1⟩

set_option maxRecDepth 100000 in
set_option maxHeartbeats 4000000 in
theorem rchanged_any (A : Option Addr) (n c : Nat) (l : List Kys) (p : Int) (w : World) (hr : Rd.kys.Holds w A n l) (hn : n ≤ 1000000) :
    Calls Try.prog 51 #[.slice A n c, .int .i64 p] w (fun e w' => ∃ v, e = .returned v ∧ Below w.heap.size w w' ∧ OwnStrs w' w.heap.size v (Dv.changed (l.map kv) p)) := by
  obtain ⟨i0, hi0, hz0, hz1, hz2⟩ := info_parts infoStr
  have HL := Lib.hid hr.length
  have HI0 := Lib.hid hi0; have HZ0 := Lib.hid hz0; have HZ1 := Lib.hid hz1; have HZ2 := Lib.hid hz2
  clear hi0 hz0 hz1 hz2
  have own0 : OwnStrs (w.alloc (.cells #[] 9)) w.heap.size (.slice (some ⟨w.heap.size, 0, none⟩) 0 0) [] := World.ownsRow_made w #[] 0 (Nat.le_refl _) (by unfold maxLen; omega) rfl
  have hb0 : Below w.heap.size w (w.alloc (.cells #[] 9)) := below_alloc (Below.refl _ _) _
  go_enter Try.func51, Try.ntmps51
  go_wp2_with fail
  go_loopw [5, 6] (fun v i wr => ∃ k : Nat, k ≤ n ∧ i = .int .i64 k ∧ Below w.heap.size w wr ∧ OwnStrs wr w.heap.size v (Dv.changed ((l.map kv).take k) p)) (fun _ i _ => n - (intOf i).toNat)
  case atStart => exact ⟨0, by omega, rfl, hb0, own0⟩
  case round =>
    clear own0 hb0
    obtain ⟨k, hk, rfl, hbw, hown⟩ := hrel
    by_cases hlt : k < n
    · obtain ⟨b, o, x, rfl, hbl, hu, _, hok, hxa⟩ := (hr.on hbw).mid (by decide) hlt
      have x0 : wr.cell? ⟨b, o + k * 4, none⟩ = some (.string x.user) := hxa 0 _ rfl
      have x2 : wr.cell? ⟨b, o + k * 4 + 2, none⟩ = some (.int .i64 x.pos) := hxa 2 _ rfl
      have HS := Lib.hid (changed_step p hu)
      clear hxa hu hok
      obtain ⟨L, hL⟩ : ∃ L, Dv.changed ((l.map kv).take k) p = L := ⟨_, rfl⟩
      have hLn : L.length ≤ k := by rw [← hL]; exact Nat.le_trans (Dv.changed_len _ _) (List.length_take_le _ _)
      rw [hL] at hown
      have HLL := Lib.hid hL
      clear hL
      have hB := hbw.size
      by_cases hp : p ≤ x.pos
      · have HN : Hid (Dv.changed ((l.map kv).take (k + 1)) p = L ++ [bs x.user]) := Lib.hid (by rw [HS.out, HLL.out, if_pos hp])
        go_wp2_with (at_builtin; refine wpList_append_own _ rfl _ _ 36 rfl w.heap.size 9 i0 (.string .empty) 1 16 Try.underlying36 HI0.out HZ0.out HZ1.out HZ2.out rfl (by decide) _ _ _ rfl (World.ownsRow.alloc hown _) ⟨wr.heap.size, 0, none⟩ 1 1 [.string x.user] rfl rfl ?c1 ?c2 ?c3 ?c4 ?c5 ?_)
        try case c1 => exact cell_one _ _ _
        try case c2 => simp [Value.oneCell']
        try case c3 => unfold maxLen; omega
        try case c4 => omega
        try case c5 => first | omega | (simp; done) | (simp; omega)
        intro v' w3 hown' hg3 _
        have b3 : Below w.heap.size w w3 := (below_alloc hbw _).grown hg3 (by simp; omega) (fun j hj => (World.ownsRow.lt hown _ hj).1)
        have hfin := sown_snoc rfl hown'
        rw [← HN.out] at hfin
        clear hown' hg3 hown
        go_wp2_with fail
        exact ⟨⟨k + 1, by omega, by go_num, b3, hfin⟩, by simp [intOf]; omega⟩
      · have HN : Hid (Dv.changed ((l.map kv).take (k + 1)) p = L) := Lib.hid (by rw [HS.out, HLL.out, if_neg hp, List.append_nil])
        rw [← HN.out] at hown
        go_wp2_with fail
        exact ⟨⟨k + 1, by omega, by go_num, hbw, hown⟩, by simp [intOf]; omega⟩
    · have htk : (l.map kv).take k = l.map kv := List.take_of_length_le (by rw [List.length_map, HL.out]; omega)
      rw [htk] at hown
      clear htk
      go_wp2_with fail
      go_ret
      exact ⟨_, rfl, hbw, hown⟩

/-! ### two boxes of devices, made in a region that draws its order -/
theorem thereB_put {w : World} {g g' n : Nat} {cs : List Value} (h : thereB w g n = true) : thereB (putRow w g' cs) g n = true := by
  unfold putRow; exact thereB_of (World.there_setCells (there_of h) _ _ _)
theorem thereB_new' {w : World} {g : Nat} {c : Array Value} {t : TypeId} {n : Nat} (hg : g = w.heap.size) (hn : n = c.size) : thereB (w.alloc (.cells c t)) g n = true := by
  subst hg; exact thereB_new w c t n hn
theorem thereB_drew {w : World} {g n : Nat} (h : thereB w g n = true) : thereB w.drew g n = true := thereB_of ((World.there_drew w g 0 n).2 (there_of h))
theorem thereB_a (W : World) (c0 : Array Value) (t : TypeId) (o : Obj) (h : 3 = c0.size) : thereB ((W.alloc (.cells c0 t)).alloc o).drew W.heap.size 3 = true := thereB_drew (thereB_alloc (thereB_new' rfl h) o)
theorem thereB_b (W : World) (c0 : Array Value) (t : TypeId) (o : Obj) (h : 3 = c0.size) : thereB ((W.alloc o).alloc (.cells c0 t)).drew (W.heap.size + 1) 3 = true := thereB_drew (thereB_new' (by simp) h)
theorem thereB_pa (W : World) (c0 : Array Value) (t : TypeId) (o : Obj) (g : Nat) (cs : List Value) (h : 3 = c0.size) : thereB (putRow ((W.alloc (.cells c0 t)).alloc o).drew g cs) W.heap.size 3 = true := thereB_put (thereB_a W c0 t o h)
theorem thereB_pb (W : World) (c0 : Array Value) (t : TypeId) (o : Obj) (g : Nat) (cs : List Value) (h : 3 = c0.size) : thereB (putRow ((W.alloc o).alloc (.cells c0 t)).drew g cs) (W.heap.size + 1) 3 = true := thereB_put (thereB_b W c0 t o h)
attribute [local go_sem] thereB_a thereB_b thereB_pa thereB_pb
theorem range_put_apart {w : World} {g g' : Nat} {cs ds : List Value} (h : w.rangeAt g 0 cs) (hne : g ≠ g') : (putRow w g' ds).rangeAt g 0 cs := by
  unfold putRow; exact World.rangeAt_setCells_apart h _ _ _ (Or.inl hne)
theorem two_put {W : World} {c0 c1 : Array Value} {t : TypeId} {g g' : Nat} {cs : List Value} (hl : cs.length = 3) (h0 : 3 = c0.size) (h1 : 3 = c1.size) (hg : (g = W.heap.size ∧ g' = W.heap.size + 1) ∨ (g = W.heap.size + 1 ∧ g' = W.heap.size)) :
    Box (putRow (putRow ((W.alloc (.cells c0 t)).alloc (.cells c1 t)).drew g cs) g' cs) g cs ∧ Box (putRow (putRow ((W.alloc (.cells c0 t)).alloc (.cells c1 t)).drew g cs) g' cs) g' cs ∧ Below W.heap.size W (putRow (putRow ((W.alloc (.cells c0 t)).alloc (.cells c1 t)).drew g cs) g' cs) := by
  have t1 := thereB_a W c0 t (.cells c1 t) h0
  have t2 := thereB_b W c1 t (.cells c0 t) h1
  have be : Below W.heap.size W ((W.alloc (.cells c0 t)).alloc (.cells c1 t)).drew := Below.drew (below_alloc (below_alloc (Below.refl _ _) _) _)
  have key : ∀ {g g' : Nat}, g ≠ g' → W.heap.size ≤ g → W.heap.size ≤ g' → g < W.heap.size + 2 → g' < W.heap.size + 2 → thereB ((W.alloc (.cells c0 t)).alloc (.cells c1 t)).drew g 3 = true → thereB ((W.alloc (.cells c0 t)).alloc (.cells c1 t)).drew g' 3 = true →
      Box (putRow (putRow ((W.alloc (.cells c0 t)).alloc (.cells c1 t)).drew g cs) g' cs) g cs ∧ Box (putRow (putRow ((W.alloc (.cells c0 t)).alloc (.cells c1 t)).drew g cs) g' cs) g' cs ∧ Below W.heap.size W (putRow (putRow ((W.alloc (.cells c0 t)).alloc (.cells c1 t)).drew g cs) g' cs) := fun {g g'} ne lo lo' hi hi' th th' => by
    have sz : W.heap.size + 2 ≤ (putRow (putRow ((W.alloc (.cells c0 t)).alloc (.cells c1 t)).drew g cs) g' cs).heap.size := by
      have h := (below_put (B := W.heap.size) (cs := cs) lo' (below_put (cs := cs) lo (Below.refl W.heap.size ((W.alloc (.cells c0 t)).alloc (.cells c1 t)).drew))).size
      simpa using h
    exact ⟨⟨by omega, range_put_apart (range_put (by rw [hl]; exact th)) ne⟩, ⟨by omega, range_put (by rw [hl]; exact thereB_put th')⟩, below_put lo' (below_put lo be)⟩
  rcases hg with ⟨rfl, rfl⟩ | ⟨rfl, rfl⟩
  · exact key (by omega) (by omega) (by omega) (by omega) (by omega) t1 t2
  · exact key (by omega) (by omega) (by omega) (by omega) (by omega) t2 t1

set_option maxRecDepth 100000 in
set_option maxHeartbeats 8000000 in
theorem sameKeys_any (u : ByteArray) (m p : Int) (A B : Option Addr) (n c d : Nat) (l : List Dvc) (w : World) (ha : Rd.dvc.Holds w A n l) (hb : Rd.dvc.Holds w B n l) (hn : n ≤ maxLen) :
    Calls Try.prog 48 #[.agg #[.string u, .int .i64 m, .int .i64 p, .slice A n c], .agg #[.string u, .int .i64 m, .int .i64 p, .slice B n d]] w (Ret w (.bool true)) := by
  unfold maxLen at hn
  obtain ⟨wa, hwa⟩ : ∃ wa : World, wa = (w.alloc (.cells #[.string u, .int .i64 m, .int .i64 p, .slice A n c] 59)).alloc (.cells #[.string u, .int .i64 m, .int .i64 p, .slice B n d] 59) := ⟨_, rfl⟩
  have hba : Below w.heap.size w wa := by rw [hwa]; exact below_alloc (below_alloc (Below.refl _ _) _) _
  have b0 : Box wa w.heap.size [.string u, .int .i64 m, .int .i64 p, .slice A n c] := by rw [hwa]; exact (Box.new w [.string u, .int .i64 m, .int .i64 p, .slice A n c] _).on (below_alloc (Below.refl _ _) _)
  have b1 : Box wa (w.heap.size + 1) [.string u, .int .i64 m, .int .i64 p, .slice B n d] := by rw [hwa]; simpa using Box.new (w.alloc (.cells #[.string u, .int .i64 m, .int .i64 p, .slice A n c] 59)) [.string u, .int .i64 m, .int .i64 p, .slice B n d] 59
  have k0 : wa.cell? ⟨w.heap.size, 0, none⟩ = some (.string u) := b0.at_ 0 _ rfl
  have k1 : wa.cell? ⟨w.heap.size, 1, none⟩ = some (.int .i64 m) := b0.at_ 1 _ rfl
  have k2 : wa.cell? ⟨w.heap.size, 2, none⟩ = some (.int .i64 p) := b0.at_ 2 _ rfl
  have k3 : wa.cell? ⟨w.heap.size, 3, none⟩ = some (.slice A n c) := b0.at_ 3 _ rfl
  have j0 : wa.cell? ⟨w.heap.size + 1, 0, none⟩ = some (.string u) := b1.at_ 0 _ rfl
  have j1 : wa.cell? ⟨w.heap.size + 1, 1, none⟩ = some (.int .i64 m) := b1.at_ 1 _ rfl
  have j2 : wa.cell? ⟨w.heap.size + 1, 2, none⟩ = some (.int .i64 p) := b1.at_ 2 _ rfl
  have j3 : wa.cell? ⟨w.heap.size + 1, 3, none⟩ = some (.slice B n d) := b1.at_ 3 _ rfl
  go_enter Try.func48, Try.ntmps48
  go_upto_region 1 with fail
  rw [← hwa]
  have HW := Lib.hid hwa; clear hwa
  have ha2 := ha.on hba
  have hb2 := hb.on hba
  obtain ⟨g, hg⟩ : ∃ g, w.heap.size = g := ⟨_, rfl⟩
  rw [hg] at k0 k1 k2 k3 j0 j1 j2 j3 b0 b1 ⊢
  have HG := Lib.hid hg
  clear hg
  go_wp2_with fail
  clear k0 k1 k2 k3 j0 j1 j2 j3
  go_loopw [5] (fun i wr => ∃ k : Nat, k ≤ n ∧ i = .int .i64 k ∧ Below wa.heap.size wa wr) (fun i _ => n - (intOf i).toNat)
  case atStart => exact ⟨0, by omega, rfl, Below.refl _ _⟩
  case round =>
    obtain ⟨k, hk, rfl, hbw⟩ := hrel
    have k3 : wr.cell? ⟨g, 3, none⟩ = some (.slice A n c) := (b0.on hbw).at_ 3 _ rfl
    by_cases hlt : k < n
    · obtain ⟨b1', o1, x, rfl, hbl1, hu, _, _, hxa⟩ := (ha2.on hbw).mid (by decide) hlt
      obtain ⟨b2', o2, y, rfl, hbl2, hv, _, _, hya⟩ := (hb2.on hbw).mid (by decide) hlt
      obtain rfl : x = y := by rw [hu] at hv; cases hv; rfl
      have BX : Hid (∀ V, Below wr.heap.size wr V → Below wr.heap.size wr V ∧ V.cell? ⟨g, 3, none⟩ = some (.slice (some ⟨b1', o1, none⟩) n c) ∧ V.cell? ⟨g + 1, 3, none⟩ = some (.slice (some ⟨b2', o2, none⟩) n d) ∧ V.cell? ⟨b1', o1 + k * 3, none⟩ = some (.string x.id) ∧ V.cell? ⟨b1', o1 + k * 3 + 1, none⟩ = some (.int .i64 x.key) ∧ V.cell? ⟨b1', o1 + k * 3 + 2, none⟩ = some (.bool x.signed) ∧ V.cell? ⟨b2', o2 + k * 3, none⟩ = some (.string x.id) ∧ V.cell? ⟨b2', o2 + k * 3 + 1, none⟩ = some (.int .i64 x.key) ∧ V.cell? ⟨b2', o2 + k * 3 + 2, none⟩ = some (.bool x.signed)) :=
        Lib.hid fun V h => ⟨h, ((b0.on hbw).on h).at_ 3 _ rfl, ((b1.on hbw).on h).at_ 3 _ rfl, (range_on hxa h hbl1) 0 _ rfl, (range_on hxa h hbl1) 1 _ rfl, (range_on hxa h hbl1) 2 _ rfl, (range_on hya h hbl2) 0 _ rfl, (range_on hya h hbl2) 1 _ rfl, (range_on hya h hbl2) 2 _ rfl⟩
      have hk0 : (k : Int) < n := by omega
      clear hu hv hxa hya
      go_upto_region 6 with fail
      clear k3
      go_cut [6, 7] (fun s6 s7 wx => ∃ g6 g7 : Nat, s6 = .pointer (some ⟨g6, 0, none⟩) ∧ s7 = .pointer (some ⟨g7, 0, none⟩) ∧ Box wx g6 [.string x.id, .int .i64 x.key, .bool x.signed] ∧ Box wx g7 [.string x.id, .int .i64 x.key, .bool x.signed] ∧ Below wr.heap.size wr wx)
      case rest =>
        obtain ⟨g6, g7, rfl, rfl, B6, B7, hb7⟩ := hcut
        have p0 : wc.cell? ⟨g6, 0, none⟩ = some (.string x.id) := B6.at_ 0 _ rfl
        have p1 : wc.cell? ⟨g6, 1, none⟩ = some (.int .i64 x.key) := B6.at_ 1 _ rfl
        have p2 : wc.cell? ⟨g6, 2, none⟩ = some (.bool x.signed) := B6.at_ 2 _ rfl
        have q0 : wc.cell? ⟨g7, 0, none⟩ = some (.string x.id) := B7.at_ 0 _ rfl
        have q1 : wc.cell? ⟨g7, 1, none⟩ = some (.int .i64 x.key) := B7.at_ 1 _ rfl
        have q2 : wc.cell? ⟨g7, 2, none⟩ = some (.bool x.signed) := B7.at_ 2 _ rfl
        have hb8 := below_then hbw hb7
        clear BX B6 B7 hb7
        go_wp2_with fail
        exact ⟨⟨k + 1, by omega, by go_num, hb8⟩, by simp [intOf]; omega⟩
      case first =>
        go_region_held3 (fun V => Below wr.heap.size wr V ∧ V.cell? ⟨g, 3, none⟩ = some (.slice (some ⟨b1', o1, none⟩) n c) ∧ V.cell? ⟨g + 1, 3, none⟩ = some (.slice (some ⟨b2', o2, none⟩) n d) ∧ V.cell? ⟨b1', o1 + k * 3, none⟩ = some (.string x.id) ∧ V.cell? ⟨b1', o1 + k * 3 + 1, none⟩ = some (.int .i64 x.key) ∧ V.cell? ⟨b1', o1 + k * 3 + 2, none⟩ = some (.bool x.signed) ∧ V.cell? ⟨b2', o2 + k * 3, none⟩ = some (.string x.id) ∧ V.cell? ⟨b2', o2 + k * 3 + 1, none⟩ = some (.int .i64 x.key) ∧ V.cell? ⟨b2', o2 + k * 3 + 2, none⟩ = some (.bool x.signed))
          ((refine BX.out _ ?_; first | exact Below.refl _ _ | exact Below.drew (Below.refl _ _) | exact below_alloc (And.left ‹Below wr.heap.size wr _ ∧ _›) _ | exact below_put (by simp) (And.left ‹Below wr.heap.size wr _ ∧ _›))) (fail)
        all_goals go_wp2_with fail
        · go_meet
          exact ⟨_, _, rfl, rfl, two_put rfl rfl rfl (.inl ⟨rfl, rfl⟩)⟩
        · go_meet
          exact ⟨_, _, rfl, rfl, two_put rfl rfl rfl (.inr ⟨rfl, rfl⟩)⟩
    · go_wp2_with fail
      go_ret
      exact ⟨rfl, below_then hba hbw⟩
end Go.Proofs.Ytbhkgdfmjkblcaa
