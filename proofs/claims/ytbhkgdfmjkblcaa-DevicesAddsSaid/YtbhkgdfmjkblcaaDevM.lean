/-
  A map of devices by their ids, of the call's own: made, written, read, ranged over; rows of devices. No program in sight but its table of types.
-/
import Derived.Test.YtbhkgdfmjkblcaaDevP
import Derived.Test.YtbhkgdfmjkblcaaNamesV
import Derived.Test.YtbhkgdfmjkblcaaRow
import Derived.Test.YtbhkgdfmjkblcaaAppW
import Derived.Maps.OwnSet
import Derived.Maps.OwnOps
import Derived.Maps.RangeWalk
import Derived.Sort.KeysCollected
namespace Go.Proofs.Ytbhkgdfmjkblcaa
open Go.RowKit Go.Maps Go.WideMaps

/-! ### the plain law: what a map's datum says of a list of devices -/
abbrev devA (d : Dvc) : Value := .agg #[.string d.id, .int .i64 d.key, .bool d.signed]
def devD (d : Dvc) : DataW Unit := .agg [.lit (.string (bs d.id)), .lit (.int .i64 d.key), .lit (.bool d.signed)]
def devR (v : Value) : Option (DataW Unit × List MemPlace) := match v with
  | .agg a => match a.toList with
    | [.string s, .int .i64 k, .bool b] => some (devD ⟨s, k, b⟩, [])
    | _ => none
  | _ => none
theorem devR_mk (d : Dvc) : devR (devA d) = some (devD d, []) := rfl
theorem devR_inv {v : Value} {y : DataW Unit × List MemPlace} (h : devR v = some y) : ∃ d, v = devA d ∧ y = (devD d, []) := by
  unfold devR at h
  split at h
  · rename_i a
    split at h
    · rename_i s k b he
      refine ⟨⟨s, k, b⟩, ?_, (Option.some.inj h).symm⟩
      have : a = #[.string s, .int .i64 k, .bool b] := by rw [← he]
      rw [this]
    · cases h
  · cases h
theorem devD_inj {a b : Dvc} (h : devD a = devD b) : a = b := by
  obtain ⟨i, k, s⟩ := a
  obtain ⟨j, m, t⟩ := b
  simp only [devD, DataW.agg.injEq, List.cons.injEq, DataW.lit.injEq, Lit.string.injEq, Lit.int.injEq, Lit.bool.injEq, and_true, true_and] at h
  obtain ⟨h1, h2, h3⟩ := h
  rw [bs_inj h1, h2, h3]
abbrev zD : Dvc := ⟨⟨#[]⟩, 0, false⟩
/-- the datum D says just what the list S of devices says, by their ids -/
structure Says (D : DataW Unit) (S : List Dvc) : Prop where
  map : IsMap D
  at_ : ∀ s z, D.atKey (.string s) z = match Dv.find Dv.dk S s with
    | some d => devD d
    | none => z
  has : ∀ s, Maps.has D (.string s) = (Dv.find Dv.dk S s).isSome
theorem Says.nil : Says (.map []) [] := ⟨isMap_empty, fun _ _ => rfl, fun _ => rfl⟩
theorem Says.put {D : DataW Unit} {S : List Dvc} (h : Says D S) (hi : Dv.Inc Dv.dk S) (d : Dvc) : Says (D.put (.string (bs d.id)) (devD d)) (Dv.put Dv.dk S d) := by
  refine ⟨h.map.put _ _, fun s z => ?_, fun s => ?_⟩
  · rw [Dv.find_put hi]
    by_cases e : s = bs d.id
    · subst e
      rw [atKey_put_same h.map (k := .string (bs d.id)) trivial, if_pos (show bs d.id = Dv.dk d from rfl)]
    · rw [atKey_put_other (by intro e1; injection e1 with e1; exact e e1), if_neg (by exact e)]
      exact h.at_ s z
  · rw [Dv.find_put hi]
    by_cases e : s = bs d.id
    · subst e
      rw [has_put_same h.map (k := .string (bs d.id)) trivial, if_pos (show bs d.id = Dv.dk d from rfl)]; rfl
    · rw [has_put_other (by intro e1; injection e1 with e1; exact e e1), if_neg (by exact e)]
      exact h.has s
theorem find_without {S : List Dvc} {i s : List UInt8} : Dv.find Dv.dk (S.filter fun d => decide (Dv.dk d ≠ i)) s = if s = i then none else Dv.find Dv.dk S s := by
  unfold Dv.find
  rw [List.find?_filter]
  split
  · rename_i e
    subst e
    rw [List.find?_eq_none]
    intro d _
    simp
  · rename_i e
    congr 1
    funext d
    by_cases hd : Dv.dk d = s
    · subst hd; simp [e]
    · simp [hd]
theorem Says.del {D : DataW Unit} {S : List Dvc} (h : Says D S) (i : List UInt8) : Says (D.del (.string i)) (S.filter fun d => decide (Dv.dk d ≠ i)) := by
  refine ⟨h.map.del _, fun s z => ?_, fun s => ?_⟩
  · rw [find_without]
    by_cases e : s = i
    · subst e
      rw [atKey_del_same, if_pos rfl]
    · rw [atKey_del_other (by intro e1; injection e1 with e1; exact e e1), if_neg e]
      exact h.at_ s z
  · rw [find_without]
    by_cases e : s = i
    · subst e
      rw [has_del_same, if_pos rfl]; rfl
    · rw [has_del_other (by intro e1; injection e1 with e1; exact e e1), if_neg e]
      exact h.has s
/-- the keys that a range has met, sorted -/
theorem Says.keys {D : DataW Unit} {S : List Dvc} (h : Says D S) (hi : Dv.Inc Dv.dk S) {left : Lit → Bool} {ss : List (List UInt8)} (hc : Collected D left ss) (hl : ∀ kl, left kl = false) : Nm.sorted ss = S.map Dv.dk := by
  refine Nm.Inc.ext (Nm.sorted_inc hc.1) (Dv.inc_keys.1 hi) fun x => ?_
  rw [(Nm.sorted_perm ss).mem_iff, hc.2, h.has, hl]
  simp only [and_true, List.mem_map]
  constructor
  · intro hx
    obtain ⟨d, hd⟩ := Option.isSome_iff_exists.1 hx
    exact ⟨d, (Dv.find_some_iff hi).1 hd⟩
  · rintro ⟨d, hd⟩
    rw [(Dv.find_some_iff hi).2 hd]; rfl
theorem Says.find_id {D : DataW Unit} {S : List Dvc} (h : Says D S) {s : List UInt8} {d : Dvc} (hd : Dv.find Dv.dk S s = some d) (z : DataW Unit) : D.atKey (.string s) z = devD d := by rw [h.at_, hd]

/-! ### a map of the call's own -/
theorem zeroDev (w : World) : (zeroValue 47).run Try.prog w = .ok (devA zD) w := by kernel_rfl
/-- block b is a map of at most n entries that says just what S says -/
def DMap (w : World) (b n : Nat) (S : List Dvc) : Prop := ∃ D, w.ownsMap Try.prog 9 devR b n D ∧ Says D S
section
variable {w : World} {b n : Nat} {S : List Dvc}
theorem DMap.made (w : World) : DMap (w.alloc (.map #[] 0)) w.heap.size 0 [] := ⟨.map [], World.ownsMap_made _ _ _ _, Says.nil⟩
theorem DMap.lt (h : DMap w b n S) : b < w.heap.size := by obtain ⟨D, h1, _⟩ := h; exact h1.lt
theorem DMap.kept {w' : World} (h : DMap w b n S) {row : Option Nat} (hg : w.grownBy w' row) (hne : some b ≠ row) : DMap w' b n S := by obtain ⟨D, h1, h2⟩ := h; exact ⟨D, h1.kept hg hne, h2⟩
theorem DMap.alloc (h : DMap w b n S) (o : Obj) : DMap (w.alloc o) b n S := by obtain ⟨D, h1, h2⟩ := h; exact ⟨D, h1.alloc o, h2⟩
theorem DMap.on {w' : World} (h : DMap w b n S) (hb : Below w.heap.size w w') : DMap w' b n S := by
  have hl := h.lt
  obtain ⟨D, ⟨es, clock, h1, rest⟩, h2⟩ := h
  exact ⟨D, ⟨es, clock, (hb.block b hl).trans h1, rest⟩, h2⟩
theorem DMap.mono (h : DMap w b n S) {m : Nat} (hm : n ≤ m) : DMap w b m S := by obtain ⟨D, h1, h2⟩ := h; exact ⟨D, h1.mono hm, h2⟩
theorem DMap.put (h : DMap w b n S) (hi : Dv.Inc Dv.dk S) (d : Dvc) (hd : d.id.size ≤ maxLen) (hn : n < maxLen) :
    ∃ w', (Instr.mapUpdate 73 (.map (some b)) (.string d.id) (devA d)).run Try.prog w = .ok () w' ∧ DMap w' b (n + 1) (Dv.put Dv.dk S d) ∧ w.grownBy w' (some b) := by
  obtain ⟨D, h1, h2⟩ := h
  obtain ⟨w', hrun, hown, hg⟩ := h1.update keyStr Try.underlying73 hn (keyOf_string_mk Try.underlying9 hd) (devR_mk d)
  exact ⟨w', hrun, ⟨_, hown, h2.put hi d⟩, hg⟩
set_option maxRecDepth 100000 in
theorem DMap.look (h : DMap w b n S) (s : ByteArray) (hs : s.size ≤ maxLen) :
    (Instr.lookup 73 (.map (some b)) (.string s) false).run Try.prog w = .ok (devA ((Dv.find Dv.dk S (bs s)).getD zD)) w := by
  obtain ⟨D, h1, h2⟩ := h
  obtain ⟨v, ps, hrun, hv⟩ := h1.lookup keyStr Try.underlying73 (zeroDev w) (devR_mk zD) (keyOf_string_mk Try.underlying9 hs)
  obtain ⟨d, rfl, he⟩ := devR_inv hv
  injection he with he _
  rw [show (Lit.string s.data.toList) = Lit.string (bs s) from rfl, h2.at_] at he
  rw [hrun]
  congr 1
  cases hf : Dv.find Dv.dk S (bs s) with
  | none => rw [hf] at he; rw [← devD_inj he]; rfl
  | some x => rw [hf] at he; rw [← devD_inj he]; rfl
set_option maxRecDepth 100000 in
theorem DMap.lookOk (h : DMap w b n S) (s : ByteArray) (hs : s.size ≤ maxLen) :
    (Instr.lookup 73 (.map (some b)) (.string s) true).run Try.prog w = .ok (.tuple #[devA ((Dv.find Dv.dk S (bs s)).getD zD), .bool (Dv.has S s)]) w := by
  obtain ⟨D, h1, h2⟩ := h
  obtain ⟨v, ps, hrun, hv⟩ := h1.look_ok keyStr Try.underlying73 (zeroDev w) (devR_mk zD) (keyOf_string_mk Try.underlying9 hs)
  obtain ⟨d, rfl, he⟩ := devR_inv hv
  injection he with he _
  rw [show (Lit.string s.data.toList) = Lit.string (bs s) from rfl, h2.at_] at he
  rw [show (Lit.string s.data.toList) = Lit.string (bs s) from rfl, h2.has] at hrun
  rw [hrun]
  unfold Dv.has
  cases hf : Dv.find Dv.dk S (bs s) with
  | none => rw [hf] at he; rw [← devD_inj he]; rfl
  | some x => rw [hf] at he; rw [← devD_inj he]; rfl
end

/-! ### rows of devices of the call's own -/
theorem owns_on {w w' : World} {base size n : Nat} {e : TypeId} {v : Value} {xs : List Value} (h : w.ownsRow base e size v n xs) (hb : Below w.heap.size w w') : w'.ownsRow base e size v n xs := by
  refine ⟨h.1, ?_⟩
  rcases h.2 with hn | ⟨g, cap, cur, rfl, hb', hgg, rest⟩
  · exact .inl hn
  · exact .inr ⟨g, cap, cur, rfl, hb', (hb.block g (Array.getElem?_eq_some_iff.1 hgg).1).trans hgg, rest⟩
theorem OwnStrs.on {w w' : World} {B : Nat} {v : Value} {l : List (List UInt8)} (h : OwnStrs w B v l) (hb : Below w.heap.size w w') : OwnStrs w' B v l := owns_on h hb
theorem OwnStrs.nil (w : World) (B : Nat) : OwnStrs w B (.slice none 0 0) [] := World.ownsRow_nil _ _ _ _
theorem OwnStrs.form2 {w : World} {B : Nat} {v : Value} {l : List (List UInt8)} (h : OwnStrs w B v l) : ∃ A c, v = .slice A l.length c ∧ Strs w A l.length (l.map mk) ∧ l.length ≤ c := by
  obtain ⟨A, c, rfl, hc, hr⟩ := own_form h
  exact ⟨A, c, rfl, by unfold Strs; rw [strs_mk]; exact hr, hc⟩
theorem sown_snoc {w : World} {B n : Nat} {v : Value} {l : List (List UInt8)} {x : ByteArray} (hn : n = l.length) (h : w.ownsRow B 9 1 v (n + 1) (l.map encStr ++ [.string x])) : OwnStrs w B v (l ++ [bs x]) := by
  unfold OwnStrs
  rw [List.length_append, List.map_append]
  subst hn
  have : ([bs x].map encStr) = [Value.string x] := by simp [encStr]
  rw [this]; exact h
def OwnDvs (w : World) (B : Nat) (v : Value) (l : List Dvc) : Prop := w.ownsRow B 47 3 v l.length (Rd.dvc.rows l)
def DvOk (l : List Dvc) : Prop := ∀ x ∈ l, x.id.size ≤ maxLen ∧ (-9223372036854775808 ≤ x.key ∧ x.key ≤ 9223372036854775807)
theorem dv_ok {w : World} {A : Option Addr} {n : Nat} {l : List Dvc} (h : Rd.dvc.Holds w A n l) : DvOk l := fun x hx => ⟨(h.2.2 x hx).1, (h.2.2 x hx).2.1⟩
theorem DvOk.ok {l : List Dvc} (h : DvOk l) {w : World} : ∀ x ∈ l, Rd.dvc.Ok w x := fun x hx => ⟨(h x hx).1, (h x hx).2, trivial, trivial⟩
theorem DvOk.sub {l m : List Dvc} (h : DvOk l) (hm : ∀ x ∈ m, x ∈ l) : DvOk m := fun x hx => h x (hm x hx)
theorem own_cap {w : World} {base size n : Nat} {e : TypeId} {v : Value} {xs : List Value} (h : w.ownsRow base e size v n xs) : ∃ A c, v = .slice A n c ∧ n ≤ c ∧ c ≤ maxLen ∧ Reads w w.heap.size size A n xs := by
  obtain ⟨A, c, hv, hc, hr⟩ := own_form h
  refine ⟨A, c, hv, hc, ?_, hr⟩
  rcases h.2 with ⟨rfl, rfl⟩ | ⟨g, cap, cur, rfl, _, _, _, hm, _⟩
  · cases hv; exact Nat.zero_le _
  · cases hv; exact hm
theorem OwnDvs.form {w : World} {B : Nat} {v : Value} {l : List Dvc} (h : OwnDvs w B v l) (hok : DvOk l) : ∃ A c, v = .slice A l.length c ∧ Rd.dvc.Holds w A l.length l ∧ l.length ≤ c ∧ c ≤ maxLen := by
  obtain ⟨A, c, rfl, hc, hm, hr⟩ := own_cap h
  exact ⟨A, c, rfl, ⟨hr, rfl, hok.ok⟩, hc, hm⟩
theorem OwnDvs.on {w w' : World} {B : Nat} {v : Value} {l : List Dvc} (h : OwnDvs w B v l) (hb : Below w.heap.size w w') : OwnDvs w' B v l := owns_on h hb
theorem OwnDvs.nil (w : World) (B : Nat) : OwnDvs w B (.slice none 0 0) [] := World.ownsRow_nil _ _ _ _
theorem dv_new {W : World} {x : Dvc} (hx : DvOk [x]) : Reads (W.alloc (.cells #[.string x.id, .int .i64 x.key, .bool x.signed] 47)) (W.alloc (.cells #[.string x.id, .int .i64 x.key, .bool x.signed] 47)).heap.size 3 (some ⟨W.heap.size, 0, none⟩) 1 [.string x.id, .int .i64 x.key, .bool x.signed] :=
  (Rd.Holds.new Rd.dvc W #[.string x.id, .int .i64 x.key, .bool x.signed] 47 [x] 1 rfl rfl hx.ok).1
theorem dv_snoc {w : World} {B n : Nat} {v : Value} {l : List Dvc} {x : Dvc} (hn : n = l.length) (h : w.ownsRow B 47 3 v (n + 1) (Rd.dvc.rows l ++ [.string x.id, .int .i64 x.key, .bool x.signed])) : OwnDvs w B v (l ++ [x]) := by
  unfold OwnDvs
  rw [Rd.rows_append, Rd.rows_one, List.length_append]
  subst hn
  exact h
theorem infoDvc : (Try.prog.info? 47).map (fun i => (i.zero, i.size, i.bytes)) = some (some (.agg #[.string .empty, .int .i64 0, .bool false]), 3, 32) := by kernel_rfl
theorem inf_dvc : (Try.prog.info? 47).map (·.size) = some 3 := by kernel_rfl
end Go.Proofs.Ytbhkgdfmjkblcaa
