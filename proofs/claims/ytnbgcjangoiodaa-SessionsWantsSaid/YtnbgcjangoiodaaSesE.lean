/-
  The walk through the reference's Devices.
-/
import Derived.Test.YtnbgcjangoiodaaSesD
import Derived.Test.YtnbgcjangoiodaaNamesT
namespace Go.Proofs.Ytnbgcjangoiodaa
open Go.RowKit
attribute [local go_sem ↓] ex_st_shr ex_st_own ex_st_ses
attribute [local go_sem] st_shr_new st_shr st_own_new st_ses_new st_ses

theorem one_shr (W : World) (u d : ByteArray) (i : Int) : Reads (W.alloc (.cells #[.string u, .string d, .int .i64 i] 56)).drew (W.heap.size + 1) 3 (some ⟨W.heap.size, 0, none⟩) 1 [.string u, .string d, .int .i64 i] := by
  have h : Reads (W.alloc (.cells #[.string u, .string d, .int .i64 i] 56)) (W.heap.size + 1) 3 (some ⟨W.heap.size, 0, none⟩) 1 [.string u, .string d, .int .i64 i] :=
    ⟨rfl, fun _ => ⟨_, rfl, Nat.lt_succ_self _, World.news_of_block (cs := #[.string u, .string d, .int .i64 i]) (t := 56) (fr := (0, 0)) (heap_alloc_new _ _)⟩⟩
  exact h.drew
theorem shs_snoc (L : List Ss.D) (u i : List UInt8) (x : Int) : Rd.shr.rows (Ss.shs (L ++ [(u, i)]) x) = Rd.shr.rows (Ss.shs L x) ++ [.string (mk u), .string (mk i), .int .i64 x] := by
  unfold Ss.shs
  rw [List.map_append, Rd.rows_append]; rfl
theorem own_cell {w : World} {B c k : Nat} {ad : Addr} {l : List (List UInt8)} {y : List UInt8} (h : OwnStrs w B (.slice (some ad) l.length c) l) (hk : l[k]? = some y) : w.cell? (ad.add k) = some (.string (mk y)) := by
  obtain ⟨A, c', hv, hS⟩ := h.form'
  cases hv
  obtain ⟨ad', z, hA, _, hz, hc⟩ := hS.at_ (List.getElem?_eq_some_iff.1 hk).1
  cases hA
  obtain ⟨z2, hz2, rfl⟩ := mk_at hz
  rw [hk] at hz2
  cases hz2
  exact hc
def D1 (w : World) (N : List (List UInt8)) (ks : List Kys) (x : Int) (B : Nat) (nv : Value) (out i : Value) (wr : World) : Prop :=
  ∃ k : Nat, k ≤ N.length ∧ i = .int .i64 k ∧ Below w.heap.size w wr ∧ OwnShrs wr w.heap.size out (Ss.shs ((N.take k).flatMap (Ss.devsOf ks)) x) ∧ OwnStrs wr B nv N
def D2 (w wo : World) (P : List Ss.D) (ks : List Kys) (x : Int) (y : List UInt8) (B : Nat) (nv out0 : Value) (N : List (List UInt8)) (out fnd i : Value) (wr : World) : Prop :=
  (fnd = .bool false ∧ out = out0 ∧ ∃ j : Nat, j ≤ ks.length ∧ i = .int .i64 j ∧ Below wo.heap.size wo wr ∧ Ss.NoK ks y j) ∨
  (fnd = .bool true ∧ ∃ j : Nat, j ≤ ks.length ∧ i = .int .i64 j ∧ Below w.heap.size w wr ∧ OwnShrs wr w.heap.size out (Ss.shs P x) ∧ OwnStrs wr B nv N)
def D4 (w : World) (L : List Ss.D) (u : List UInt8) (x : Int) (M : List (List UInt8)) (B B2 : Nat) (nv mv : Value) (N : List (List UInt8)) (out i : Value) (wr : World) : Prop :=
  ∃ k : Nat, k ≤ M.length ∧ i = .int .i64 k ∧ Below w.heap.size w wr ∧ OwnShrs wr w.heap.size out (Ss.shs (L ++ (M.take k).map fun i => (u, i)) x) ∧ OwnStrs wr B nv N ∧ OwnStrs wr B2 mv M

set_option maxRecDepth 100000 in
set_option maxHeartbeats 8000000 in
theorem devices_any (A : Option Addr) (n c : Nat) (ms : List ByteArray) (B : Option Addr) (m d : Nat) (ks : List Kys) (x : Int) (w : World) (hr : Strs w A n ms) (hn : n ≤ 30)
    (hk : Rd.kys.Holds w B m ks) (hf : Few ks) :
    Calls Try.prog 29 #[.slice A n c, .slice B m d, .int .i64 x] w fun e w' => ∃ v, e = .returned v ∧ Below w.heap.size w w' ∧ OwnShrs w' w.heap.size v (Ss.shs (Ss.own (bss ms) ks) x) := by
  obtain ⟨i0, hi, hz0, hz1, hz2⟩ := info_parts infoStr
  have HI := Lib.hid hi; have HZ0 := Lib.hid hz0; have HZ1 := Lib.hid hz1; have HZ2 := Lib.hid hz2
  obtain ⟨i1, hi', hz0', hz1', hz2'⟩ := info_parts infoShr
  have HI' := Lib.hid hi'; have HZ0' := Lib.hid hz0'; have HZ1' := Lib.hid hz1'; have HZ2' := Lib.hid hz2'
  clear hi hz0 hz1 hz2 hi' hz0' hz1' hz2'
  have HL := Lib.hid hr.length
  have HM := Lib.hid hk.length
  have hm30 : m ≤ 30 := by have := HM.out; have := hf.n; omega
  have HD : Hid (∀ k ∈ ks, k.devices.l.length ≤ 30) := Lib.hid fun k hk' => by
    have h1 := (kys_dev (hk.2.2 k hk')).length
    have h2 := hf.d k hk'
    omega
  go_enter Try.func29, Try.ntmps29
  go_wp2_with fail
  refine (rnames_any A n c ms w hr (by omega)).mono ?_
  rintro e w1 ⟨v1, rfl, b1, own1⟩
  obtain ⟨N, hN⟩ : ∃ N, N = Nm.names (bss ms) := ⟨_, rfl⟩
  have hNl : N.length ≤ 30 := by
    have h1 := Nm.names_length (bss ms)
    have h2 := HL.out
    rw [List.length_map] at h1
    rw [hN]; omega
  have HE : Hid (Ss.own (bss ms) ks = N.flatMap (Ss.devsOf ks)) := by show _ = _; rw [hN]; rfl
  rw [← hN] at own1
  obtain ⟨A1, c1, rfl, _⟩ := own1.form'
  have hk1 := hk.on b1
  obtain ⟨B1, hB1⟩ : ∃ B1, B1 = w.heap.size := ⟨_, rfl⟩
  rw [← hB1] at own1
  have OWN1 := Lib.hid own1
  clear own1 hN hr hk hB1
  go_wp2_with fail
  go_loopw [8, 9] (fun out i wr => D1 w1 N ks x B1 (.slice A1 N.length c1) out i wr) (fun _ i _ => N.length - (intOf i).toNat)
  case atStart => exact ⟨0, by omega, rfl, Below.refl _ _, by rw [List.take_zero]; exact World.ownsRow_nil _ _ _ _, OWN1.out⟩
  case round =>
    obtain ⟨k, hkk, rfl, hbw, hown, hnm⟩ := hrel
    have hle := hbw.size
    by_cases hkn : k < N.length
    · obtain ⟨A9, c9, hv9, hS9⟩ := hnm.form'
      cases hv9
      obtain ⟨ad, y', rfl, hadb, hu, hcx⟩ := hS9.at_ hkn
      obtain ⟨y, hy, rfl⟩ := mk_at hu
      have HP := Lib.hid (Ss.part_succ (ks := ks) hy)
      have hplen := Ss.part_length HD.out N k
      obtain ⟨L, hL⟩ : ∃ L, L = (N.take k).flatMap (Ss.devsOf ks) := ⟨_, rfl⟩
      rw [← hL] at hown HP hplen
      have hlen9 : L.length ≤ 900 := by omega
      obtain ⟨P, hPP⟩ : ∃ P, P = (N.take (k + 1)).flatMap (Ss.devsOf ks) := ⟨_, rfl⟩
      rw [← hPP] at HP
      have HPP := Lib.hid hPP
      have HHY := Lib.hid hy
      clear hu hL hplen hS9 hPP hy
      obtain ⟨wo, rfl⟩ : ∃ wo : World, wo = wr := ⟨_, rfl⟩
      obtain ⟨out0, rfl⟩ : ∃ o, o = u8 := ⟨_, rfl⟩
      go_wp2_with fail
      go_loopw [8, 10, 11] (fun out fnd i wq => D2 w1 wo P ks x y B1 (.slice (some ad) N.length c1) out0 N out fnd i wq) (fun _ _ i _ => m - (intOf i).toNat)
      case atStart => exact .inl ⟨rfl, rfl, 0, by omega, rfl, Below.refl _ _, Ss.NoK.zero _ _⟩
      case round =>
        rcases hrel with ⟨rfl, rfl, j, hj, rfl, hbq, hno⟩ | ⟨rfl, j, hj, rfl, hbq, hown2, hnm2⟩
        · by_cases hjm : j < m
          · have hjI : decide ((j : Int) < m) = true := decide_eq_true (by omega)
            obtain ⟨b, o, z, rfl, hbl, hux, _, hox, hxa⟩ := ((hk1.on hbw).on hbq).mid (by decide) hjm
            have x0 : wr.cell? ⟨b, o + j * 4, none⟩ = some (.string z.user) := hxa 0 _ rfl
            have hcq : wr.cell? (ad.add k) = some (.string (mk y)) := (hbq.cell (p := ad.add k) (by rw [block_of_add]; exact hadb)).trans hcx
            have hkI : (k : Int) < N.length := by omega
            have hjm2 : (j : Int) < m := by omega
            by_cases hxy : bs z.user = y
            · have es : (z.user.toList == (mk y).toList) = true := by rw [streq, bs_mk]; exact decide_eq_true hxy
              have hdv : Ss.devsOf ks y = Ss.devs y z := Ss.devsOf_some hno hux hxy
              have hDl : z.devices.l.length ≤ 30 := HD.out z (List.mem_of_getElem? hux)
              have hj1 : j + 1 ≤ ks.length := by have := HM.out; omega
              have HXA := Lib.hid hxa
              have hDh := kys_dev hox
              have HDL := Lib.hid hDh.length
              obtain ⟨D, hD⟩ : ∃ D, D = z.devices.l := ⟨_, rfl⟩
              have x3 : wr.cell? ⟨b, o + j * 4 + 3, none⟩ = some (.slice z.devices.A z.devices.n z.devices.c) := hxa 3 _ rfl
              rw [← hD] at hDh hDl HDL
              have HV : Hid (P = L ++ (Nm.names (D.map fun d => bs d.id)).map fun i => (y, i)) := by
                show _ = _
                rw [HP.out, hdv, hD, Ss.devs]
              generalize z.devices.A = DA at hDh x3 ⊢
              generalize z.devices.n = DN at hDh x3 HDL ⊢
              generalize z.devices.c = DC at x3 ⊢
              have hDN30 : DN ≤ 30 := by have := HDL.out; omega
              have hownr := owns_on hown hbq
              have hnmr := owns_on hnm hbq
              have hbwr := below_then hbw hbq
              clear hno hux hxy hdv hD hown hnm hbq hox hxa
              go_wp2_with fail
              go_quiet (fail)
              have hbnq := below_drewN (Below.refl wr.heap.size wr) nq
              have hownq := owns_on hownr hbnq
              have hnmq := owns_on hnmr hbnq
              have hbwq := below_then hbwr hbnq
              have hDq := hDh.on hbnq
              have x3q : (wr.drewN nq).cell? ⟨b, o + j * 4 + 3, none⟩ = some (.slice DA DN DC) := x3
              generalize wr.drewN nq = wv at hownq hnmq hbwq hDq x3q ⊢
              clear hownr hnmr hbwr hDh x3 x0 hcq hbnq
              have hblv : b < wv.heap.size := World.block_lt_of_cell? _ _ x3q
              have own0 : OwnStrs (wv.alloc (.cells #[] 9)) wv.heap.size (.slice (some ⟨wv.heap.size, 0, none⟩) 0 0) [] := World.ownsRow_made wv _ 0 (Nat.le_refl _) (by unfold maxLen; omega) (by simp)
              have OWN0 := Lib.hid own0
              clear own0
              go_wp2_with fail
              go_loopw [12, 13] (fun out i wq => O3 wv D out i wq) (fun _ i _ => DN - (intOf i).toNat)
              case atStart => exact ⟨0, by omega, rfl, below_alloc (Below.refl _ _) _, OWN0.out⟩
              case round =>
                obtain ⟨p, hp, rfl, hb3, own3⟩ := hrel
                have hle3 := hb3.size
                have x3r : wr.cell? ⟨b, o + j * 4 + 3, none⟩ = some (.slice DA DN DC) := (hb3.cell (p := ⟨b, o + j * 4 + 3, none⟩) hblv).trans x3q
                by_cases hpn : p < DN
                · obtain ⟨bd, od, dv, rfl, _, hz, _, _, hza⟩ := (hDq.on hb3).mid (by decide) hpn
                  have z0 : wr.cell? ⟨bd, od + p * 3, none⟩ = some (.string dv.id) := hza 0 _ rfl
                  have HS3 := Lib.hid (Ss.ids_succ hz)
                  have hlen3 : ((D.take p).map fun d => bs d.id).length ≤ p := by rw [List.length_map]; exact List.length_take_le _ _
                  clear hza hz
                  go_wp2_with (at_builtin; refine wpList_append_own _ rfl _ _ 39 rfl wv.heap.size 9 i0 (.string .empty) 1 16 Try.underlying39 HI.out HZ0.out HZ1.out HZ2.out rfl (by decide) _ _ _ rfl (World.ownsRow.alloc own3 _) ⟨wr.heap.size, 0, none⟩ 1 1 [.string dv.id] rfl rfl ?p1 ?p2 ?p3 ?p4 ?p5 ?_)
                  case p1 => exact cell_one _ _ _
                  case p2 => simp [Value.oneCell']
                  case p3 => unfold maxLen; omega
                  case p4 => omega
                  case p5 => simp; omega
                  intro v' w' hown' hgrow _
                  have hb4 : Below wv.heap.size wv w' := (hb3.alloc (by omega) _).grown hgrow (by simp; omega) (fun j hj => by have := (World.ownsRow.lt own3 _ hj).1; omega)
                  have own4 : OwnStrs w' wv.heap.size v' ((D.take (p + 1)).map fun d => bs d.id) := by
                    unfold OwnStrs
                    rw [HS3.out]
                    have e : (((D.take p).map fun d => bs d.id) ++ [bs dv.id]).length = p + 1 := by simp; have := HDL.out; omega
                    rw [e, List.map_append]
                    simpa [List.map_take, encStr] using hown'
                  have HF4 := Lib.hid (show O3 wv D v' (.int .i64 ((p : Int) + 1)) w' from ⟨p + 1, by have := HDL.out; omega, by go_num, hb4, own4⟩)
                  clear hown' hgrow own4 own3 z0
                  go_wp2_with fail
                  exact ⟨HF4.out, by simp [intOf]; omega⟩
                · have hF3 : (D.take p).map (fun d => bs d.id) = D.map fun d => bs d.id := by rw [List.take_of_length_le (by have := HDL.out; omega)]
                  obtain ⟨I, hI⟩ : ∃ I, I = D.map fun d => bs d.id := ⟨_, rfl⟩
                  rw [hF3, ← hI] at own3
                  rw [← hI] at HV
                  have hIl : I.length ≤ 30 := by rw [hI, List.length_map]; omega
                  obtain ⟨A3, c3, hv3, hS3⟩ := own3.form'
                  subst hv3
                  have hownr := owns_on hownq hb3
                  have hnmr := owns_on hnmq hb3
                  have hbwr := below_then hbwq hb3
                  clear own3 hF3 hI hownq hnmq hDq
                  go_wp2_with fail
                  refine (rnames_any A3 _ c3 (I.map mk) wr hS3 (by omega)).mono ?_
                  rintro e w5 ⟨v5, rfl, b5, own5⟩
                  rw [show bss (I.map mk) = I from map_bs_mk I] at own5
                  obtain ⟨M, hM⟩ : ∃ M, M = Nm.names I := ⟨_, rfl⟩
                  have hMl : M.length ≤ 30 := by rw [hM]; have := Nm.names_length I; omega
                  rw [← hM] at own5 HV
                  obtain ⟨A5, c5, rfl, _⟩ := own5.form'
                  have hown5 := owns_on hownr b5
                  have hnm5 := owns_on hnmr b5
                  have hbw5 := below_then hbwr b5
                  obtain ⟨B6, hB6⟩ : ∃ B6, B6 = wr.heap.size := ⟨_, rfl⟩
                  rw [← hB6] at own5
                  have OWN5 := Lib.hid own5
                  clear own5 hM hIl hS3 hownr hnmr hbwr b5 x3r x3q hB6
                  go_wp2_with fail
                  go_loopw [8, 14] (fun out i wq => D4 w1 L y x M B1 B6 (.slice (some ad) N.length c1) (.slice A5 M.length c5) N out i wq) (fun _ i _ => M.length - (intOf i).toNat)
                  case atStart => exact ⟨0, by omega, rfl, hbw5, by rw [List.take_zero, List.map_nil, List.append_nil]; exact hown5, hnm5, OWN5.out⟩
                  case round =>
                    clear hown5 hbw5 hnm5 hbwq
                    obtain ⟨t, ht, rfl, hb6, own6, nm6, str6⟩ := hrel
                    have hle6 := hb6.size
                    by_cases htn : t < M.length
                    · obtain ⟨A7, c7, hv7, hS7⟩ := nm6.form'
                      cases hv7
                      obtain ⟨A6, c6, hv6, hS6⟩ := str6.form'
                      cases hv6
                      obtain ⟨ad7, y7, hA7, hadb7, hy7, hcy7⟩ := hS7.at_ hkn
                      cases hA7
                      obtain ⟨y8, hy8, rfl⟩ := mk_at hy7
                      obtain rfl : y8 = y := by have := HHY.out; rw [hy8] at this; cases this; rfl
                      obtain ⟨ad2, z', rfl, _, hz, hcz⟩ := hS6.at_ htn
                      obtain ⟨z2, hz2, rfl⟩ := mk_at hz
                      have hlen6 : (L ++ (M.take t).map fun i => (y8, i)).length ≤ 930 := by
                        rw [List.length_append, List.length_map]
                        have := List.length_take_le t M
                        omega
                      obtain ⟨K, hK⟩ : ∃ K, K = L ++ (M.take t).map fun i => (y8, i) := ⟨_, rfl⟩
                      have HS6 : Hid (L ++ (M.take (t + 1)).map (fun i => (y8, i)) = K ++ [(y8, z2)]) := by show _ = _; rw [hK, Ss.pairs_succ (u := y8) hz2, List.append_assoc]
                      rw [← hK] at own6 hlen6
                      have hshl : (Ss.shs K x).length ≤ 930 := by rw [shs_length]; exact hlen6
                      have NM6 := Lib.hid nm6; have STR6 := Lib.hid str6
                      have hkI : (k : Int) < N.length := by omega
                      have htI : (t : Int) < M.length := by omega
                      have hcy8 : wr.cell? (ad.add k) = some (.string (mk y8)) := hcy7
                      have HY8 := Lib.hid hy8; have HZ8 := Lib.hid hz2
                      clear hz hz2 hS6 hS7 nm6 str6 hK hy8 hy7 hcy7
                      have hbn : Below w1.heap.size w1 (wr.alloc (.cells #[.string (mk y8), .string (mk z2), .int .i64 x] 56)).drew := Below.drew (hb6.alloc (by omega) _)
                      have ownN := owns_on own6 (Below.drew (below_alloc (Below.refl wr.heap.size wr) (.cells #[.string (mk y8), .string (mk z2), .int .i64 x] 56)))
                      have nmN := owns_on NM6.out (Below.drew (below_alloc (Below.refl wr.heap.size wr) (.cells #[.string (mk y8), .string (mk z2), .int .i64 x] 56)))
                      have strN := owns_on STR6.out (Below.drew (below_alloc (Below.refl wr.heap.size wr) (.cells #[.string (mk y8), .string (mk z2), .int .i64 x] 56)))
                      have RN := one_shr wr (mk y8) (mk z2) x
                      have APn := Lib.hid (rows_apart nmN ownN (by decide))
                      have APs := Lib.hid (rows_apart strN ownN (by decide))
                      have NMN := Lib.hid nmN; have STN := Lib.hid strN; have OWNN := Lib.hid ownN; have HBN := Lib.hid hbn; have RNN := Lib.hid RN
                      clear nmN strN ownN hbn RN
                      go_upto_region 21 with fail
                      have SX : ∀ V, Below wr.heap.size wr V → Below w1.heap.size w1 V ∧ V.cell? (ad.add k) = some (.string (mk y8)) ∧ V.cell? (ad2.add t) = some (.string (mk z2)) := fun V h => ⟨below_then hb6 h, (h.cell (p := ad.add k) (World.block_lt_of_cell? _ _ hcy8)).trans hcy8, (h.cell (p := ad2.add t) (World.block_lt_of_cell? _ _ hcz)).trans hcz⟩
                      have SXX := Lib.hid SX
                      clear SX own6 hb6
                      go_region_held3 (fun V => Below w1.heap.size w1 V ∧ V.cell? (ad.add k) = some (.string (mk y8)) ∧ V.cell? (ad2.add t) = some (.string (mk z2))) (first | exact ⟨hbz, cz1, cz2⟩ | exact SXX.out _ (Below.refl _ _) | exact SXX.out _ (Below.drew (Below.refl _ _)) | exact SXX.out _ (below_alloc (Below.refl _ _) _) | exact SXX.out _ (Below.drew (below_alloc (Below.refl _ _) _)))
                        ((refine step_app_rows rfl (.tmp 74) (.tmp 85) 22 rfl w1.heap.size 56 i1 (.agg #[.string .empty, .string .empty, .int .i64 0]) 3 40 Try.underlying22 HI'.out HZ0'.out HZ1'.out HZ2'.out rfl (by decide) (by decide) _ _ _ rfl OWNN.out _ (some ⟨wr.heap.size, 0, none⟩) 1 1 [.string (mk y8), .string (mk z2), .int .i64 x] rfl RNN.out (by simp [Value.oneCell']) (by omega) (by first | (simp; done) | (simp; omega)) ?_; intro v' w' hown' hgrow; have hbz := Below.grown HBN.out hgrow (by first | (simp; done) | (simp; omega)) (fun j hj => (World.ownsRow.lt OWNN.out _ hj).1); have nmz : OwnStrs w' B1 (.slice (some ad) N.length c1) N := World.ownsRow.kept NMN.out hgrow APn.out; have strz : OwnStrs w' B6 (.slice (some ad2) M.length c5) M := World.ownsRow.kept STN.out hgrow APs.out; have cz1 := own_cell nmz HY8.out; have cz2 := own_cell strz HZ8.out))
                      have ownz : OwnShrs w' w1.heap.size v' (Ss.shs (K ++ [(y8, z2)]) x) := by
                        unfold OwnShrs
                        rw [shs_snoc, shs_length, List.length_append, ← shs_length K x]; exact hown'
                      have HFz := Lib.hid (show D4 w1 L y8 x M B1 B6 (.slice (some ad) N.length c1) (.slice (some ad2) M.length c5) N v' (.int .i64 ((t : Int) + 1)) w' from ⟨t + 1, htn, by go_num, hbz, by rw [HS6.out]; exact ownz, nmz, strz⟩)
                      clear hbz ownz nmz strz cz1 cz2 hown' hgrow
                      go_wp2_with fail
                      exact ⟨HFz.out, by simp [intOf]; omega⟩
                    · have hF : L ++ (M.take t).map (fun i => (y, i)) = P := by rw [HV.out, List.take_of_length_le (by omega)]
                      rw [hF] at own6
                      clear hF str6
                      go_wp2_with fail
                      exact ⟨.inr ⟨rfl, j + 1, hj1, by go_num, hb6, own6, nm6⟩, by simp [intOf]; omega⟩
            · have es : (z.user.toList == (mk y).toList) = false := by rw [streq, bs_mk]; exact decide_eq_false hxy
              have HN := Lib.hid (hno.succ hux hxy)
              clear hno hux hxy hxa hox
              go_wp2_with fail
              go_quiet (fail)
              go_wp2_with fail
              exact ⟨.inl ⟨rfl, rfl, j + 1, by have := HM.out; omega, by go_num, below_drewN hbq nq, HN.out⟩, by simp [intOf]; omega⟩
          · have hjI : decide ((j : Int) < m) = false := decide_eq_false (by omega)
            have hd0 : Ss.devsOf ks y = [] := Ss.devsOf_none (by have := HM.out; rwa [show j = ks.length by omega] at hno)
            have hF : P = L := by rw [HP.out, hd0, List.append_nil]
            have HF := Lib.hid (HPP.out.symm.trans hF)
            have hown2 := owns_on hown hbq
            have hnm2 := owns_on hnm hbq
            clear hno hd0 hF hown hnm
            go_wp2_with fail
            exact ⟨⟨k + 1, hkn, by go_num, below_then hbw hbq, by rw [HF.out]; exact hown2, hnm2⟩, by simp [intOf]; omega⟩
        · by_cases hjm : j < m
          · have hjI : decide ((j : Int) < m) = true := decide_eq_true (by omega)
            have HF := Lib.hid HPP.out.symm
            clear hown hnm
            go_wp2_with fail
            exact ⟨⟨k + 1, hkn, by go_num, hbq, by rw [HF.out]; exact hown2, hnm2⟩, by simp [intOf]; omega⟩
          · have hjI : decide ((j : Int) < m) = false := decide_eq_false (by omega)
            have HF := Lib.hid HPP.out.symm
            clear hown hnm
            go_wp2_with fail
            exact ⟨⟨k + 1, hkn, by go_num, hbq, by rw [HF.out]; exact hown2, hnm2⟩, by simp [intOf]; omega⟩
    · have hF : (N.take k).flatMap (Ss.devsOf ks) = N.flatMap (Ss.devsOf ks) := by rw [List.take_of_length_le (by omega)]
      have HF := Lib.hid (HE.out.trans hF.symm)
      clear hF
      go_wp2_with fail
      go_ret
      exact ⟨u8, rfl, below_then b1 hbw, by rw [HF.out]; exact owns_le hown b1.size⟩
end Go.Proofs.Ytnbgcjangoiodaa
