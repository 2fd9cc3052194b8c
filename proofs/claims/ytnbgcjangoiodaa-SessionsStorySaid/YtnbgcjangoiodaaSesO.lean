/-
  The walk through sessions.owners: the devices of some members.
-/
import Derived.Test.YtnbgcjangoiodaaSesG
namespace Go.Proofs.Ytnbgcjangoiodaa
open Go.RowKit

theorem owns_on {w w' : World} {base size n : Nat} {e : TypeId} {v : Value} {xs : List Value} (h : w.ownsRow base e size v n xs) (hb : Below w.heap.size w w') : w'.ownsRow base e size v n xs := by
  refine ⟨h.1, ?_⟩
  rcases h.2 with hn | ⟨g, cap, cur, rfl, hb', hgg, rest⟩
  · exact .inl hn
  · exact .inr ⟨g, cap, cur, rfl, hb', (hb.block g (Array.getElem?_eq_some_iff.1 hgg).1).trans hgg, rest⟩
theorem owns_le {w : World} {base base' size n : Nat} {e : TypeId} {v : Value} {xs : List Value} (h : w.ownsRow base e size v n xs) (hb : base' ≤ base) : w.ownsRow base' e size v n xs := by
  refine ⟨h.1, ?_⟩
  rcases h.2 with hn | ⟨g, cap, cur, rfl, hb', hgg, rest⟩
  · exact .inl hn
  · exact .inr ⟨g, cap, cur, rfl, Nat.le_trans hb hb', hgg, rest⟩
def Rd.dv : Rd Ss.D := ⟨2, fun a => [.string (Go.Proofs.Ytnbgcjangoiodaa.mk a.1), .string (Go.Proofs.Ytnbgcjangoiodaa.mk a.2)], fun _ _ => True, fun _ => rfl, fun _ _ => trivial, by intro x u hu; simp only [List.mem_cons, List.not_mem_nil, or_false] at hu; rcases hu with rfl | rfl <;> rfl⟩
def OwnDs (w : World) (B : Nat) (v : Value) (l : List Ss.D) : Prop := w.ownsRow B 61 2 v l.length (Rd.dv.rows l)
theorem dv_snoc (l : List Ss.D) (a : Ss.D) : Rd.dv.rows (l ++ [a]) = Rd.dv.rows l ++ [.string (mk a.1), .string (mk a.2)] := by rw [Rd.rows_append, Rd.rows_one]; rfl
theorem mk_at {l : List (List UInt8)} {k : Nat} {x : ByteArray} (h : (l.map mk)[k]? = some x) : ∃ y, l[k]? = some y ∧ mk y = x := by
  rw [List.getElem?_map] at h
  obtain ⟨y, h1, h2⟩ := Option.map_eq_some_iff.1 h
  exact ⟨y, h1, h2⟩
/-- the keys are few, and of few devices -/
structure Few (ks : List Kys) : Prop where
  n : ks.length ≤ 30
  d : ∀ k ∈ ks, k.devices.n ≤ 30
theorem kys_dev {w : World} {k : Kys} (h : Rd.kys.Ok w k) : Rd.dvc.Holds w k.devices.A k.devices.n k.devices.l := h.2.2.2.1.1
theorem dvc_id {w : World} {d : Dvc} (h : Rd.dvc.Ok w d) : d.id.size ≤ maxLen := h.1
namespace Ss
theorem devsOf_length {ks : List Kys} {u : List UInt8} (h : ∀ k ∈ ks, k.devices.l.length ≤ 30) : (devsOf ks u).length ≤ 30 := by
  unfold devsOf
  split
  · rename_i k hk
    have hm : k ∈ ks := List.mem_of_find?_eq_some hk
    have := Nm.names_length (k.devices.l.map fun d => bs d.id)
    have h2 := h k hm
    unfold devs
    rw [List.length_map] at *
    omega
  · simp
theorem part_length {ks : List Kys} (h : ∀ k ∈ ks, k.devices.l.length ≤ 30) (N : List (List UInt8)) (k : Nat) : ((N.take k).flatMap (devsOf ks)).length ≤ k * 30 := by
  induction k generalizing N with
  | zero => simp
  | succ k ih =>
    cases N with
    | nil => simp
    | cons y N =>
      rw [List.take_succ_cons, List.flatMap_cons, List.length_append]
      have := ih N
      have := devsOf_length (u := y) h
      omega
theorem part_succ {ks : List Kys} {N : List (List UInt8)} {k : Nat} {u : List UInt8} (h : N[k]? = some u) : (N.take (k + 1)).flatMap (devsOf ks) = (N.take k).flatMap (devsOf ks) ++ devsOf ks u := by
  obtain ⟨hk, rfl⟩ := List.getElem?_eq_some_iff.1 h
  rw [List.take_succ_eq_append_getElem hk, List.flatMap_append]
  simp
theorem ids_succ {l : List Dvc} {k : Nat} {x : Dvc} (h : l[k]? = some x) : (l.take (k + 1)).map (fun d => bs d.id) = (l.take k).map (fun d => bs d.id) ++ [bs x.id] := by
  obtain ⟨hk, rfl⟩ := List.getElem?_eq_some_iff.1 h
  rw [List.take_succ_eq_append_getElem hk, List.map_append]; rfl
theorem pairs_succ {u : List UInt8} {l : List (List UInt8)} {k : Nat} {x : List UInt8} (h : l[k]? = some x) : (l.take (k + 1)).map (fun i => (u, i)) = (l.take k).map (fun i => (u, i)) ++ [(u, x)] := by
  obtain ⟨hk, rfl⟩ := List.getElem?_eq_some_iff.1 h
  rw [List.take_succ_eq_append_getElem hk, List.map_append]; rfl
end Ss
def O1 (w : World) (N : List (List UInt8)) (ks : List Kys) (out i : Value) (wr : World) : Prop :=
  ∃ k : Nat, k ≤ N.length ∧ i = .int .i64 k ∧ Below w.heap.size w wr ∧ OwnDs wr w.heap.size out ((N.take k).flatMap (Ss.devsOf ks))
def O3 (w : World) (l : List Dvc) (out i : Value) (wr : World) : Prop :=
  ∃ k : Nat, k ≤ l.length ∧ i = .int .i64 k ∧ Below w.heap.size w wr ∧ OwnStrs wr w.heap.size out ((l.take k).map fun d => bs d.id)
/-- rows of different elements lie apart -/
theorem rows_apart {w : World} {b1 b2 s1 s2 n1 n2 : Nat} {e1 e2 : TypeId} {v1 v2 : Value} {x1 x2 : List Value} (h1 : w.ownsRow b1 e1 s1 v1 n1 x1) (h2 : w.ownsRow b2 e2 s2 v2 n2 x2) (hne : e1 ≠ e2) : v1.ownBlock = none ∨ v1.ownBlock ≠ v2.ownBlock := by
  rcases h1.2 with ⟨rfl, _⟩ | ⟨g1, cap1, cur1, rfl, _, hg1, _⟩
  · exact .inl rfl
  · rcases h2.2 with ⟨rfl, _⟩ | ⟨g2, cap2, cur2, rfl, _, hg2, _⟩
    · exact .inr (by simp [Value.ownBlock])
    · refine .inr fun he => hne ?_
      have : g1 = g2 := by simpa [Value.ownBlock] using he
      subst this
      rw [hg1] at hg2
      cases hg2
      rfl
def O4 (w : World) (B : Nat) (v : Value) (L : List Ss.D) (u : List UInt8) (M : List (List UInt8)) (out i : Value) (wr : World) : Prop :=
  ∃ k : Nat, k ≤ M.length ∧ i = .int .i64 k ∧ Below w.heap.size w wr ∧ OwnDs wr w.heap.size out (L ++ (M.take k).map fun i => (u, i)) ∧ OwnStrs wr B v M

set_option maxRecDepth 100000 in
set_option maxHeartbeats 8000000 in
theorem owners_any (A : Option Addr) (n c : Nat) (ms : List ByteArray) (B : Option Addr) (m d : Nat) (ks : List Kys) (w : World) (hr : Strs w A n ms) (hn : n ≤ 30) (hx : ∀ x ∈ ms, x.size ≤ maxLen)
    (hk : Rd.kys.Holds w B m ks) (hf : Few ks) :
    Calls Try.prog 38 #[.slice A n c, .slice B m d] w fun e w' => ∃ v, e = .returned v ∧ Below w.heap.size w w' ∧ OwnDs w' w.heap.size v (Ss.own (bss ms) ks) := by
  obtain ⟨i0, hi, hz0, hz1, hz2⟩ := info_parts infoStr
  have HI := Lib.hid hi; have HZ0 := Lib.hid hz0; have HZ1 := Lib.hid hz1; have HZ2 := Lib.hid hz2
  obtain ⟨i1, hi', hz0', hz1', hz2'⟩ := info_parts infoOwn
  have HI' := Lib.hid hi'; have HZ0' := Lib.hid hz0'; have HZ1' := Lib.hid hz1'; have HZ2' := Lib.hid hz2'
  clear hi hz0 hz1 hz2 hi' hz0' hz1' hz2'
  have HL := Lib.hid hr.length
  have HM := Lib.hid hk.length
  have hm30 : m ≤ 30 := by have := HM.out; have := hf.n; omega
  have HD : Hid (∀ k ∈ ks, k.devices.l.length ≤ 30) := Lib.hid fun k hk' => by
    have h1 := (kys_dev (hk.2.2 k hk')).length
    have h2 := hf.d k hk'
    omega
  go_enter Try.func38, Try.ntmps38
  go_wp2_with fail
  refine (names_any A n c ms w hr (by omega) hx).mono ?_
  rintro e w1 ⟨v1, rfl, b1, own1⟩
  obtain ⟨A1, c1, rfl, hS⟩ := own1.form'
  obtain ⟨N, hN⟩ : ∃ N, N = Nm.names (bss ms) := ⟨_, rfl⟩
  have hNl : N.length ≤ 30 := by
    have h1 := Nm.names_length (bss ms)
    have h2 := HL.out
    rw [List.length_map] at h1
    rw [hN]; omega
  have HE : Hid (Ss.own (bss ms) ks = N.flatMap (Ss.devsOf ks)) := by show _ = _; rw [hN]; rfl
  rw [← hN] at hS ⊢
  have hk1 := hk.on b1
  clear own1 hN hr hk
  go_wp2_with fail
  go_loopw [5, 18] (fun out i wr => O1 w1 N ks out i wr) (fun _ i _ => N.length - (intOf i).toNat)
  case atStart => exact ⟨0, by omega, rfl, Below.refl _ _, World.ownsRow_nil _ _ _ _⟩
  case round =>
    obtain ⟨k, hkk, rfl, hbw, hown⟩ := hrel
    have hle := hbw.size
    by_cases hkn : k < N.length
    · obtain ⟨ad, y', rfl, _, hu, hcx⟩ := (hS.on hbw).at_ hkn
      obtain ⟨y, hy, rfl⟩ := mk_at hu
      have HP := Lib.hid (Ss.part_succ (ks := ks) hy)
      have hplen := Ss.part_length HD.out N k
      obtain ⟨L, hL⟩ : ∃ L, L = (N.take k).flatMap (Ss.devsOf ks) := ⟨_, rfl⟩
      rw [← hL] at hown HP hplen
      have hlen9 : L.length ≤ 900 := by omega
      have HLL := Lib.hid hL
      clear hu hL hplen
      obtain ⟨wo, rfl⟩ : ∃ wo : World, wo = wr := ⟨_, rfl⟩
      obtain ⟨out0, rfl⟩ : ∃ o, o = u5 := ⟨_, rfl⟩
      go_wp2_with fail
      go_loopw [5, 24] (fun out i wq => out = out0 ∧ ∃ j : Nat, j ≤ ks.length ∧ i = .int .i64 j ∧ Below wo.heap.size wo wq ∧ Ss.NoK ks y j) (fun _ i _ => m - (intOf i).toNat)
      case atStart => exact ⟨rfl, 0, by omega, rfl, Below.refl _ _, Ss.NoK.zero _ _⟩
      case round =>
        obtain ⟨ho5, j, hj, rfl, hbq, hno⟩ := hrel
        subst ho5
        by_cases hjm : j < m
        · obtain ⟨b, o, x, rfl, hbl, hux, _, hox, hxa⟩ := ((hk1.on hbw).on hbq).mid (by decide) hjm
          have x0 : wr.cell? ⟨b, o + j * 4, none⟩ = some (.string x.user) := hxa 0 _ rfl
          have x1 : wr.cell? ⟨b, o + j * 4 + 1, none⟩ = some (.int .i64 x.master) := hxa 1 _ rfl
          have x2 : wr.cell? ⟨b, o + j * 4 + 2, none⟩ = some (.int .i64 x.pos) := hxa 2 _ rfl
          have x3 : wr.cell? ⟨b, o + j * 4 + 3, none⟩ = some (.slice x.devices.A x.devices.n x.devices.c) := hxa 3 _ rfl
          clear hxa
          go_upto_region 8 with fail
          have bxx := Box.new wr [.string x.user, .int .i64 x.master, .int .i64 x.pos, .slice x.devices.A x.devices.n x.devices.c] 71
          have hbx := below_alloc (Below.refl wr.heap.size wr) (.cells #[.string x.user, .int .i64 x.master, .int .i64 x.pos, .slice x.devices.A x.devices.n x.devices.c] 71)
          change Box (wr.alloc (.cells #[.string x.user, .int .i64 x.master, .int .i64 x.pos, .slice x.devices.A x.devices.n x.devices.c] 71)) _ _ at bxx
          generalize wr.alloc (.cells #[.string x.user, .int .i64 x.master, .int .i64 x.pos, .slice x.devices.A x.devices.n x.devices.c] 71) = wx at bxx hbx ⊢
          have hbqx := below_then hbq hbx
          obtain ⟨q, hq⟩ : ∃ q, wr.heap.size = q := ⟨_, rfl⟩
          rw [hq] at bxx ⊢
          clear hq x0 x1 x2 x3
          have y0 : wx.cell? ⟨q, 0, none⟩ = some (.string x.user) := bxx.at_ 0 _ rfl
          have y3 : wx.cell? ⟨q, 3, none⟩ = some (.slice x.devices.A x.devices.n x.devices.c) := bxx.at_ 3 _ rfl
          by_cases hxy : bs x.user = y
          · have es : (x.user.toList == (mk y).toList) = true := by rw [streq, bs_mk]; exact decide_eq_true hxy
            have hdv : Ss.devsOf ks y = Ss.devs y x := Ss.devsOf_some hno hux hxy
            have hDh := (kys_dev hox).on hbx
            have hDl : x.devices.l.length ≤ 30 := HD.out x (List.mem_of_getElem? hux)
            have HDL := Lib.hid hDh.length
            generalize x.devices.A = DA at hDh y3 ⊢
            generalize x.devices.n = DN at hDh y3 HDL ⊢
            generalize x.devices.c = DC at y3 ⊢
            obtain ⟨D, hD⟩ : ∃ D, D = x.devices.l := ⟨_, rfl⟩
            rw [← hD] at hDh hDl HDL
            have hDN30 : DN ≤ 30 := by have := HDL.out; omega
            have HV : Hid ((N.take (k + 1)).flatMap (Ss.devsOf ks) = L ++ (Nm.names (D.map fun d => bs d.id)).map fun i => (y, i)) := by
              show _ = _
              rw [HP.out, hdv, hD, Ss.devs]
            have hownx := owns_on hown hbqx
            have hbwx := below_then hbw hbqx
            clear hno hux hxy hdv hD hown hbq hbx hbqx hox
            go_wp2_with fail
            go_loopw [10, 35] (fun out i wq => O3 wx D out i wq) (fun _ i _ => DN - (intOf i).toNat)
            case atStart => exact ⟨0, by omega, rfl, Below.refl _ _, World.ownsRow_nil _ _ _ _⟩
            case round =>
              obtain ⟨p, hp, rfl, hb3, own3⟩ := hrel
              have hle3 := hb3.size
              by_cases hpn : p < DN
              · obtain ⟨bd, od, z, rfl, _, hz, _, _, hza⟩ := (hDh.on hb3).mid (by decide) hpn
                have z0 : wr.cell? ⟨bd, od + p * 3, none⟩ = some (.string z.id) := hza 0 _ rfl
                have z1 : wr.cell? ⟨bd, od + p * 3 + 1, none⟩ = some (.int .i64 z.key) := hza 1 _ rfl
                have z2 : wr.cell? ⟨bd, od + p * 3 + 2, none⟩ = some (.bool z.signed) := hza 2 _ rfl
                have HS3 := Lib.hid (Ss.ids_succ hz)
                have hlen3 : ((D.take p).map fun d => bs d.id).length ≤ p := by rw [List.length_map]; exact List.length_take_le _ _
                clear hza hz
                go_wp2_with (at_builtin; refine wpList_append_own _ rfl _ _ 39 rfl wx.heap.size 9 i0 (.string .empty) 1 16 Try.underlying39 HI.out HZ0.out HZ1.out HZ2.out rfl (by decide) _ _ _ rfl (World.ownsRow.alloc (World.ownsRow.alloc own3 _) _) ⟨wr.heap.size + 1, 0, none⟩ 1 1 [.string z.id] rfl rfl ?p1 ?p2 ?p3 ?p4 ?p5 ?_)
                case p1 => exact World.news_of_block (cs := #[.string z.id]) (t := 9) (fr := (0, 0)) (by first | exact heap_alloc_new _ _ | (simpa using heap_alloc_new (wr.alloc (.cells #[.string z.id, .int .i64 z.key, .bool z.signed] 68)) _))
                case p2 => simp [Value.oneCell']
                case p3 => unfold maxLen; omega
                case p4 => omega
                case p5 => simp; omega
                intro v' w' hown' hgrow _
                have hb4 : Below wx.heap.size wx w' := (Below.alloc (hb3.alloc (by omega) _) (by first | omega | (simp; omega)) _).grown hgrow (by simp; omega) (fun j hj => by have := (World.ownsRow.lt own3 _ hj).1; omega)
                have own4 : OwnStrs w' wx.heap.size v' ((D.take (p + 1)).map fun d => bs d.id) := by
                  unfold OwnStrs
                  rw [HS3.out]
                  have e : (((D.take p).map fun d => bs d.id) ++ [bs z.id]).length = p + 1 := by simp; have := HDL.out; omega
                  rw [e, List.map_append]
                  simpa [List.map_take, encStr] using hown'
                have HF4 := Lib.hid (show O3 wx D v' (.int .i64 ((p : Int) + 1)) w' from ⟨p + 1, by have := HDL.out; omega, by go_num, hb4, own4⟩)
                clear hown' hgrow own4 own3 z0 z1 z2
                go_wp2_with fail
                exact ⟨HF4.out, by simp [intOf]; omega⟩
              · have hF3 : (D.take p).map (fun d => bs d.id) = D.map fun d => bs d.id := by rw [List.take_of_length_le (by have := HDL.out; omega)]
                obtain ⟨I, hI⟩ : ∃ I, I = D.map fun d => bs d.id := ⟨_, rfl⟩
                rw [hF3, ← hI] at own3
                rw [← hI] at HV
                obtain ⟨A3, c3, hv3, hS3⟩ := own3.form'
                subst hv3
                have hIs : ∀ z ∈ I.map mk, z.size ≤ maxLen := fun z hz => by
                  obtain ⟨i, hi, rfl⟩ := List.mem_map.1 hz
                  rw [hI] at hi
                  obtain ⟨dd, hdd, rfl⟩ := List.mem_map.1 hi
                  rw [mk_bs]; exact dvc_id (hDh.2.2 dd hdd)
                have hIl : I.length ≤ 30 := by rw [hI, List.length_map]; omega
                clear own3 hF3 hI
                go_wp2_with fail
                refine (names_any A3 _ c3 (I.map mk) wr hS3 (by omega) hIs).mono ?_
                rintro e w5 ⟨v5, rfl, b5, own5⟩
                rw [show bss (I.map mk) = I from map_bs_mk I] at own5
                obtain ⟨M, hM⟩ : ∃ M, M = Nm.names I := ⟨_, rfl⟩
                have hMl : M.length ≤ 30 := by rw [hM]; have := Nm.names_length I; omega
                rw [← hM] at own5 HV
                obtain ⟨A5, c5, rfl, _⟩ := own5.form'
                have hb5 := below_then hb3 b5
                have hown5 := owns_on hownx hb5
                have hbw5 := below_then hbwx hb5
                have OWN5 := Lib.hid own5
                obtain ⟨B6, hB6⟩ : ∃ B6, B6 = wr.heap.size := ⟨_, rfl⟩
                rw [← hB6] at OWN5
                clear hB6
                clear own5 hM hIs hIl hS3 hownx hbwx hb3 b5 hb5 y0 y3 hDh
                go_wp2_with fail
                go_loopw [5, 48] (fun out i wq => O4 w1 B6 (.slice A5 M.length c5) L y M out i wq) (fun _ i _ => M.length - (intOf i).toNat)
                case atStart => exact ⟨0, by omega, rfl, hbw5, by rw [List.take_zero, List.map_nil, List.append_nil]; exact hown5, OWN5.out⟩
                case round =>
                  clear hown5 hbw5
                  obtain ⟨t, ht, rfl, hb6, own6, str6⟩ := hrel
                  have hle6 := hb6.size
                  by_cases htn : t < M.length
                  · obtain ⟨A6, c6, hv6, hS6⟩ := str6.form'
                    cases hv6
                    obtain ⟨ad2, z', rfl, _, hz, hcz⟩ := hS6.at_ htn
                    obtain ⟨z, hz2, rfl⟩ := mk_at hz
                    have hlen6 : (L ++ (M.take t).map fun i => (y, i)).length ≤ 930 := by
                      rw [List.length_append, List.length_map]
                      have := List.length_take_le t M
                      omega
                    obtain ⟨K, hK⟩ : ∃ K, K = L ++ (M.take t).map fun i => (y, i) := ⟨_, rfl⟩
                    have HS6 : Hid (L ++ (M.take (t + 1)).map (fun i => (y, i)) = K ++ [(y, z)]) := by show _ = _; rw [hK, Ss.pairs_succ (u := y) hz2, List.append_assoc]
                    rw [← hK] at own6 hlen6
                    clear hK
                    have STR6 := Lib.hid str6
                    have AP6 := Lib.hid (rows_apart (str6.alloc (.cells #[.string (mk y), .string (mk z)] 61)) (World.ownsRow.alloc own6 (.cells #[.string (mk y), .string (mk z)] 61)) (by decide))
                    clear hz hz2 hS6 str6
                    go_wp2_with (at_builtin; refine wpList_append_own _ rfl _ _ 72 rfl w1.heap.size 61 i1 _ 2 32 Try.underlying72 HI'.out HZ0'.out HZ1'.out HZ2'.out rfl (by decide) _ _ _ rfl (World.ownsRow.alloc own6 _) ⟨wr.heap.size, 0, none⟩ 1 1 [.string (mk y), .string (mk z)] rfl rfl ?r1 ?r2 ?r3 ?r4 ?r5 ?_)
                    case r1 => exact World.news_of_block (cs := #[.string (mk y), .string (mk z)]) (t := 61) (fr := (0, 0)) (heap_alloc_new _ _)
                    case r2 => simp [Value.oneCell']
                    case r3 => unfold maxLen; omega
                    case r4 => omega
                    case r5 => simp; omega
                    intro v' w' hown' hgrow _
                    have hb7 : Below w1.heap.size w1 w' := (hb6.alloc (by omega) _).grown hgrow (by simp; omega) (fun j hj => (World.ownsRow.lt own6 _ hj).1)
                    have own7 : OwnDs w' w1.heap.size v' (L ++ (M.take (t + 1)).map fun i => (y, i)) := by
                      rw [HS6.out]
                      unfold OwnDs
                      rw [List.length_append, dv_snoc]; exact hown'
                    have str7 : OwnStrs w' B6 (.slice (some ad2) M.length c5) M := World.ownsRow.kept (World.ownsRow.alloc STR6.out _) hgrow AP6.out
                    have HF7 := Lib.hid (show O4 w1 B6 (.slice (some ad2) M.length c5) L y M v' (.int .i64 ((t : Int) + 1)) w' from ⟨t + 1, htn, by go_num, hb7, own7, str7⟩)
                    clear hown' hgrow own7 own6 str7
                    go_wp2_with fail
                    exact ⟨HF7.out, by simp [intOf]; omega⟩
                  · have hF : L ++ (M.take t).map (fun i => (y, i)) = (N.take (k + 1)).flatMap (Ss.devsOf ks) := by rw [HV.out, List.take_of_length_le (by omega)]
                    rw [hF] at own6
                    clear hF str6
                    go_wp2_with fail
                    exact ⟨⟨k + 1, hkn, by go_num, hb6, own6⟩, by simp [intOf]; omega⟩
          · have es : (x.user.toList == (mk y).toList) = false := by rw [streq, bs_mk]; exact decide_eq_false hxy
            have HN := Lib.hid (hno.succ hux hxy)
            clear hno hux hxy
            go_wp2_with fail
            exact ⟨⟨rfl, j + 1, by have := HM.out; omega, by go_num, hbqx, HN.out⟩, by simp [intOf]; omega⟩
        · have hd0 : Ss.devsOf ks y = [] := Ss.devsOf_none (by have := HM.out; rwa [show j = ks.length by omega] at hno)
          have hF : (N.take (k + 1)).flatMap (Ss.devsOf ks) = L := by rw [HP.out, hd0, List.append_nil]
          have HF := Lib.hid hF
          have hown2 := owns_on hown hbq
          clear hno hd0 hF hown
          go_wp2_with fail
          exact ⟨⟨k + 1, hkn, by go_num, below_then hbw hbq, by rw [HF.out]; exact hown2⟩, by simp [intOf]; omega⟩
    · have hF : (N.take k).flatMap (Ss.devsOf ks) = N.flatMap (Ss.devsOf ks) := by rw [List.take_of_length_le (by omega)]
      have HF := Lib.hid (HE.out.trans hF.symm)
      clear hF
      go_wp2_with fail
      go_ret
      exact ⟨u5, rfl, below_then b1 hbw, by rw [HF.out]; exact owns_le hown b1.size⟩
end Go.Proofs.Ytnbgcjangoiodaa
