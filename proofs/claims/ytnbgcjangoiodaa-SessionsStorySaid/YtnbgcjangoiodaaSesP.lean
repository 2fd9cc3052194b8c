/-
  The plain laws behind chapter 45: sessions and the devices that they were given to. No program in sight.
-/
import Derived.Test.YtnbgcjangoiodaaRead
import Derived.Test.YtnbgcjangoiodaaIdsP
import Derived.Test.YtnbgcjangoiodaaNamesP
namespace Go.Proofs.Ytnbgcjangoiodaa
open Go.RowKit

/-- a share: the device of a user, from a message on -/
structure Shr where
  user : ByteArray
  dev : ByteArray
  index : Int
structure Dvc where
  id : ByteArray
  key : Int
  signed : Bool
structure Kys where
  user : ByteArray
  master : Int
  pos : Int
  devices : Sl Dvc
structure Ses where
  id : Int
  room : ByteArray
  next : Int
  shares : Sl Shr
def Rd.shr : Rd Shr := (Rd.pair Rd.str (Rd.pair Rd.str (Rd.pair Rd.i64 Rd.unit))).as fun x => (x.user, x.dev, x.index, ())
def Rd.dvc : Rd Dvc := (Rd.pair Rd.str (Rd.pair Rd.i64 (Rd.pair Rd.bool Rd.unit))).as fun x => (x.id, x.key, x.signed, ())
def Rd.kys : Rd Kys := (Rd.pair Rd.str (Rd.pair Rd.i64 (Rd.pair Rd.i64 (Rd.pair (Rd.slice Rd.dvc) Rd.unit)))).as fun x => (x.user, x.master, x.pos, x.devices, ())
def Rd.ses : Rd Ses := (Rd.pair Rd.i64 (Rd.pair Rd.str (Rd.pair Rd.i64 (Rd.pair (Rd.slice Rd.shr) Rd.unit)))).as fun x => (x.id, x.room, x.next, x.shares, ())

/-- bytes as a string -/
def mkB (l : List UInt8) : ByteArray := ⟨l.toArray⟩
theorem bs_mkB (l : List UInt8) : bs (mkB l) = l := by simp [mkB]

namespace Ss
/-- a device: its user, its name -/
abbrev D := List UInt8 × List UInt8
def who (x : Shr) : D := (bs x.user, bs x.dev)
/-- the share of a device -/
def find (l : List Shr) (a : D) : Option Shr := l.find? fun x => decide (who x = a)
def NoW (l : List Shr) (a : D) (k : Nat) : Prop := ∀ (j : Nat) x, l[j]? = some x → j < k → who x ≠ a
theorem NoW.zero (l : List Shr) (a : D) : NoW l a 0 := fun j _ _ h => by omega
theorem NoW.succ {l : List Shr} {a : D} {k : Nat} {x : Shr} (h : NoW l a k) (hx : l[k]? = some x) (hm : who x ≠ a) : NoW l a (k + 1) := fun j y hy hj => by
  rcases Nat.lt_or_ge j k with h1 | h1
  · exact h j y hy h1
  · obtain rfl : j = k := by omega
    rw [hx] at hy; cases hy; exact hm
theorem find_some {l : List Shr} {a : D} {k : Nat} {x : Shr} (h : NoW l a k) (hx : l[k]? = some x) (hm : who x = a) : find l a = some x := by
  unfold find
  obtain ⟨hk, rfl⟩ := List.getElem?_eq_some_iff.1 hx
  rw [List.find?_eq_some_iff_getElem]
  refine ⟨decide_eq_true hm, k, hk, rfl, fun j hj => ?_⟩
  have := h j _ (List.getElem?_eq_getElem (by omega)) hj
  simp only [Bool.not_eq_true', decide_eq_false_iff_not]
  exact this
theorem find_none {l : List Shr} {a : D} (h : NoW l a l.length) : find l a = none := by
  unfold find
  rw [List.find?_eq_none]
  intro x hx
  obtain ⟨j, hj, rfl⟩ := List.mem_iff_getElem.1 hx
  have := h j _ (List.getElem?_eq_getElem hj) hj
  rw [decide_eq_false this]
  simp
theorem find_none_iff {l : List Shr} {a : D} : find l a = none ↔ ∀ x ∈ l, who x ≠ a := by
  unfold find
  rw [List.find?_eq_none]
  simp only [decide_eq_true_eq]
theorem find_isSome {l : List Shr} {a : D} : (find l a).isSome = decide (∃ x ∈ l, who x = a) := by
  cases h : find l a with
  | none =>
    have := find_none_iff.1 h
    symm
    simp only [Option.isSome_none, decide_eq_false_iff_not]
    rintro ⟨x, h1, h2⟩; exact this x h1 h2
  | some x =>
    have h1 := List.mem_of_find?_eq_some h
    have h2 := List.find?_some h
    symm
    simp only [Option.isSome_some, decide_eq_true_eq] at *
    exact ⟨x, h1, h2⟩
theorem find_who {l : List Shr} {a : D} {x : Shr} (h : find l a = some x) : who x = a ∧ x ∈ l := by
  have h1 := List.mem_of_find?_eq_some h
  have h2 := List.find?_some h
  exact ⟨by simpa using h2, h1⟩

/-- the keys of a user -/
def keysOf (ks : List Kys) (u : List UInt8) : Option Kys := ks.find? fun k => decide (bs k.user = u)
def devs (u : List UInt8) (k : Kys) : List D := (Nm.names (k.devices.l.map fun d => bs d.id)).map fun i => (u, i)
def devsOf (ks : List Kys) (u : List UInt8) : List D := match keysOf ks u with
  | some k => devs u k
  | none => []
/-- the devices of the members, in order -/
def own (ms : List (List UInt8)) (ks : List Kys) : List D := (Nm.names ms).flatMap (devsOf ks)
def NoK (ks : List Kys) (u : List UInt8) (k : Nat) : Prop := ∀ (j : Nat) x, ks[j]? = some x → j < k → bs x.user ≠ u
theorem NoK.zero (l : List Kys) (u : List UInt8) : NoK l u 0 := fun j _ _ h => by omega
theorem NoK.succ {l : List Kys} {u : List UInt8} {k : Nat} {x : Kys} (h : NoK l u k) (hx : l[k]? = some x) (hm : bs x.user ≠ u) : NoK l u (k + 1) := fun j y hy hj => by
  rcases Nat.lt_or_ge j k with h1 | h1
  · exact h j y hy h1
  · obtain rfl : j = k := by omega
    rw [hx] at hy; cases hy; exact hm
theorem devsOf_some {l : List Kys} {u : List UInt8} {k : Nat} {x : Kys} (h : NoK l u k) (hx : l[k]? = some x) (hm : bs x.user = u) : devsOf l u = devs u x := by
  have : keysOf l u = some x := by
    unfold keysOf
    obtain ⟨hk, rfl⟩ := List.getElem?_eq_some_iff.1 hx
    rw [List.find?_eq_some_iff_getElem]
    refine ⟨decide_eq_true hm, k, hk, rfl, fun j hj => ?_⟩
    have := h j _ (List.getElem?_eq_getElem (by omega)) hj
    simp only [Bool.not_eq_true', decide_eq_false_iff_not]
    exact this
  unfold devsOf
  rw [this]
theorem devsOf_none {l : List Kys} {u : List UInt8} (h : NoK l u l.length) : devsOf l u = [] := by
  have : keysOf l u = none := by
    unfold keysOf
    rw [List.find?_eq_none]
    intro x hx
    obtain ⟨j, hj, rfl⟩ := List.mem_iff_getElem.1 hx
    have := h j _ (List.getElem?_eq_getElem hj) hj
    rw [decide_eq_false this]
    simp
  unfold devsOf
  rw [this]
theorem mem_devsOf {ks : List Kys} {u : List UInt8} {a : D} (h : a ∈ devsOf ks u) : a.1 = u := by
  unfold devsOf at h
  split at h
  · unfold devs at h
    obtain ⟨i, _, rfl⟩ := List.mem_map.1 h
    rfl
  · cases h
theorem mem_own {ms : List (List UInt8)} {ks : List Kys} {a : D} (h : a ∈ own ms ks) : a.1 ∈ ms := by
  unfold own at h
  obtain ⟨u, hu, ha⟩ := List.mem_flatMap.1 h
  rw [mem_devsOf ha]
  exact (Nm.mem_names ms u).1 hu
theorem own_take {ms : List (List UInt8)} {ks : List Kys} {k : Nat} {u : List UInt8} (h : (Nm.names ms)[k]? = some u) :
    ((Nm.names ms).take (k + 1)).flatMap (devsOf ks) = ((Nm.names ms).take k).flatMap (devsOf ks) ++ devsOf ks u := by
  obtain ⟨hk, rfl⟩ := List.getElem?_eq_some_iff.1 h
  rw [List.take_succ_eq_append_getElem hk, List.flatMap_append]
  simp
/-- shares of these devices, from a message on -/
def shs (l : List D) (i : Int) : List Shr := l.map fun a => ⟨mkB a.1, mkB a.2, i⟩
theorem who_shs {l : List D} {i : Int} {x : Shr} (h : x ∈ shs l i) : who x ∈ l := by
  obtain ⟨a, ha, rfl⟩ := List.mem_map.1 h
  simp only [who, bs_mkB]; exact ha
theorem find_shs {l : List D} {i : Int} {a : D} : find (shs l i) a = if a ∈ l then some ⟨mkB a.1, mkB a.2, i⟩ else none := by
  by_cases h : a ∈ l
  · rw [if_pos h]
    cases hf : find (shs l i) a with
    | none =>
      exact absurd (by simp only [who, bs_mkB]) (find_none_iff.1 hf ⟨mkB a.1, mkB a.2, i⟩ (List.mem_map.2 ⟨a, h, rfl⟩))
    | some x =>
      obtain ⟨h1, h2⟩ := find_who hf
      obtain ⟨b, _, rfl⟩ := List.mem_map.1 h2
      simp only [who, bs_mkB] at h1
      subst h1; rfl
  · rw [if_neg h, find_none_iff]
    intro x hx he
    exact h (he ▸ who_shs hx)
/-- what is still wanted -/
def lack (l : List Shr) (L : List D) : List D := L.filter fun a => (find l a).isNone
def wants (l : List Shr) (next : Int) (L : List D) : List Shr := shs (lack l L) next
def stale (l : List Shr) (L : List D) : Bool := l.any fun x => decide (who x ∉ L)
theorem lack_nil (L : List D) : lack [] L = L := by
  unfold lack
  rw [List.filter_eq_self]
  intro a _
  rfl
theorem wants_own (L : List D) (i : Int) : wants (shs L 0) i L = [] := by
  unfold wants lack
  rw [List.filter_eq_nil_iff.2]
  · rfl
  · intro a ha
    rw [find_shs, if_pos ha]; simp
theorem stale_own (L : List D) (i : Int) : stale (shs L i) L = false := by
  unfold stale
  rw [List.any_eq_false]
  intro x hx
  simp [who_shs hx]
theorem stale_left {l : List Shr} {a : D} {x : Shr} {rest : List (List UInt8)} {ks : List Kys} (h : find l a = some x) (hr : a.1 ∉ rest) : stale l (own rest ks) = true := by
  obtain ⟨h1, h2⟩ := find_who h
  unfold stale
  rw [List.any_eq_true]
  refine ⟨x, h2, ?_⟩
  rw [decide_eq_true_eq, h1]
  exact fun hm => hr (mem_own hm)

/-- before, in order -/
def ahead (a b : D) : Prop := a.1 < b.1 ∨ a.1 = b.1 ∧ a.2 < b.2
instance (a b : D) : Decidable (ahead a b) := by unfold ahead; exact inferInstance
theorem ahead_tri {a b : D} (h : b ≠ a) : ¬ ahead a b ↔ ahead b a := by
  obtain ⟨a1, a2⟩ := a
  obtain ⟨b1, b2⟩ := b
  unfold ahead
  simp only
  constructor
  · intro hn
    rcases Nm.lt_or a1 b1 with h1 | h1 | h1
    · exact absurd (.inl h1) hn
    · subst h1
      rcases Nm.lt_or a2 b2 with h2 | h2 | h2
      · exact absurd (.inr ⟨rfl, h2⟩) hn
      · subst h2; exact absurd rfl h
      · exact .inr ⟨rfl, h2⟩
    · exact .inl h1
  · rintro (h1 | ⟨rfl, h1⟩) (h2 | ⟨h3, h2⟩)
    · exact Nm.lt_irrefl _ (Nm.lt_trans h1 h2)
    · rw [h3] at h1; exact Nm.lt_irrefl _ h1
    · exact Nm.lt_irrefl _ h2
    · exact Nm.lt_irrefl _ (Nm.lt_trans h1 h2)
/-- where a device's share goes -/
def spot (l : List Shr) (a : D) : Nat := l.findIdx fun x => decide (ahead a (who x))
theorem spot_le (l : List Shr) (a : D) : spot l a ≤ l.length := List.findIdx_le_length
def Pre (l : List Shr) (a : D) (k : Nat) : Prop := ∀ (j : Nat) x, l[j]? = some x → j < k → ¬ ahead a (who x)
theorem Pre.zero (l : List Shr) (a : D) : Pre l a 0 := fun j _ _ h => by omega
theorem Pre.succ {l : List Shr} {a : D} {k : Nat} {x : Shr} (h : Pre l a k) (hx : l[k]? = some x) (hm : ¬ ahead a (who x)) : Pre l a (k + 1) := fun j y hy hj => by
  rcases Nat.lt_or_ge j k with h1 | h1
  · exact h j y hy h1
  · obtain rfl : j = k := by omega
    rw [hx] at hy; cases hy; exact hm
theorem spot_here {l : List Shr} {a : D} {k : Nat} {x : Shr} (h : Pre l a k) (hx : l[k]? = some x) (hm : ahead a (who x)) : spot l a = k := by
  obtain ⟨hk, rfl⟩ := List.getElem?_eq_some_iff.1 hx
  unfold spot
  rw [List.findIdx_eq hk]
  refine ⟨decide_eq_true hm, fun j hj => ?_⟩
  exact decide_eq_false (h j _ (List.getElem?_eq_getElem (by omega)) hj)
theorem spot_end {l : List Shr} {a : D} (h : Pre l a l.length) : spot l a = l.length := by
  unfold spot
  rw [List.findIdx_eq_length]
  intro x hx
  obtain ⟨j, hj, rfl⟩ := List.mem_iff_getElem.1 hx
  exact decide_eq_false (h j _ (List.getElem?_eq_getElem hj) hj)
/-- a share in its place -/
def put (l : List Shr) (x : Shr) : List Shr := l.take (spot l (who x)) ++ x :: l.drop (spot l (who x))
theorem put_length (l : List Shr) (x : Shr) : (put l x).length = l.length + 1 := by
  have := spot_le l (who x)
  unfold put
  simp only [List.length_append, List.length_take, List.length_cons, List.length_drop]
  omega
theorem mem_put {l : List Shr} {x y : Shr} : y ∈ put l x ↔ y = x ∨ y ∈ l := by
  unfold put
  rw [List.mem_append, List.mem_cons]
  conv => rhs; rw [← List.take_append_drop (spot l (who x)) l, List.mem_append]
  constructor
  · rintro (h | h | h)
    · exact .inr (.inl h)
    · exact .inl h
    · exact .inr (.inr h)
  · rintro (h | h | h)
    · exact .inr (.inl h)
    · exact .inl h
    · exact .inr (.inr h)
theorem find_put {l : List Shr} {x : Shr} {a : D} (hn : find l (who x) = none) : find (put l x) a = if a = who x then some x else find l a := by
  have hnone := find_none_iff.1 hn
  unfold find put
  rw [List.find?_append, List.find?_cons]
  by_cases ha : a = who x
  · subst ha
    rw [if_pos rfl, decide_eq_true rfl]
    have : (l.take (spot l (who x))).find? (fun y => decide (who y = who x)) = none := by
      rw [List.find?_eq_none]
      intro y hy
      simp only [decide_eq_true_eq]
      exact hnone y (List.mem_of_mem_take hy)
    rw [this]; rfl
  · rw [if_neg ha, decide_eq_false (fun h => ha h.symm)]
    conv => rhs; rw [← List.take_append_drop (spot l (who x)) l, List.find?_append]
/-- the error of a new session -/
def newErr (id : Int) (room : List UInt8) (top : Int) : Int := if id < 1 ∨ top < id then 2 else if I.roomB room = false then 3 else 0
end Ss
end Go.Proofs.Ytnbgcjangoiodaa
