/-
  Entries and devices as they lie in cells: whole structs stored, rows of entries of the call's own. No program in sight but its table of types.
-/
import Derived.Test.YtbhkgdfmjkblcaaDevM
import Derived.Test.YtbhkgdfmjkblcaaRet
namespace Go.Proofs.Ytbhkgdfmjkblcaa
open Go.RowKit

theorem ex_st_dv (ρ : Operand → Value) (dst : Option Tmp) (x y : Operand) (ty : TypeId) (pos : String) (after : Array Edge) (guard : Option (Nat × Bool)) :
    execOp ρ ⟨dst, .store 47 x y, ty, pos, after, guard⟩ = (do stC 47 (ρ x) (ρ y); pure .skip) := rfl
theorem st_dv_new (W : World) (g : Nat) (c0 : Array Value) (i : ByteArray) (k : Int) (s : Bool) (hg : g = W.heap.size) (hs : c0.size = 3) : (stC 47 (.pointer (some ⟨g, 0, none⟩)) (.agg #[.string i, .int .i64 k, .bool s])).run Try.prog (W.alloc (.cells c0 47)) = .ok () (W.alloc (.cells #[.string i, .int .i64 k, .bool s] 47)) :=
  run_stC_new _ W g c0 _ hg (by rw [inf_dvc]; rfl) (by rw [hs]; rfl) (by simp [Value.oneCell'])
theorem st_dv (W : World) (g : Nat) (i : ByteArray) (k : Int) (s : Bool) (h : thereB W g 3 = true) : (stC 47 (.pointer (some ⟨g, 0, none⟩)) (.agg #[.string i, .int .i64 k, .bool s])).run Try.prog W = .ok () (putRow W g [.string i, .int .i64 k, .bool s]) :=
  run_stC_mid _ W g _ h (by rw [inf_dvc]; rfl) (by simp [Value.oneCell'])
theorem infoKys : (Try.prog.info? 59).map (fun i => (i.zero, i.size, i.bytes)) = some (some (.agg #[.string .empty, .int .i64 0, .int .i64 0, .slice none 0 0]), 4, 56) := by kernel_rfl
theorem inf_kys : (Try.prog.info? 59).map (·.size) = some 4 := by kernel_rfl
theorem ex_st_ky (ρ : Operand → Value) (dst : Option Tmp) (x y : Operand) (ty : TypeId) (pos : String) (after : Array Edge) (guard : Option (Nat × Bool)) :
    execOp ρ ⟨dst, .store 59 x y, ty, pos, after, guard⟩ = (do stC 59 (ρ x) (ρ y); pure .skip) := rfl
theorem st_ky_new (W : World) (g : Nat) (c0 : Array Value) (u : ByteArray) (m p : Int) (A : Option Addr) (n c : Nat) (hg : g = W.heap.size) (hs : c0.size = 4) : (stC 59 (.pointer (some ⟨g, 0, none⟩)) (.agg #[.string u, .int .i64 m, .int .i64 p, .slice A n c])).run Try.prog (W.alloc (.cells c0 59)) = .ok () (W.alloc (.cells #[.string u, .int .i64 m, .int .i64 p, .slice A n c] 59)) :=
  run_stC_new _ W g c0 _ hg (by rw [inf_kys]; rfl) (by rw [hs]; rfl) (by simp [Value.oneCell'])
theorem st_ky (W : World) (g : Nat) (u : ByteArray) (m p : Int) (A : Option Addr) (n c : Nat) (h : thereB W g 4 = true) : (stC 59 (.pointer (some ⟨g, 0, none⟩)) (.agg #[.string u, .int .i64 m, .int .i64 p, .slice A n c])).run Try.prog W = .ok () (putRow W g [.string u, .int .i64 m, .int .i64 p, .slice A n c]) :=
  run_stC_mid _ W g _ h (by rw [inf_kys]; rfl) (by simp [Value.oneCell'])

/-- the cells of an entry -/
abbrev kyC (x : Kys) : List Value := [.string x.user, .int .i64 x.master, .int .i64 x.pos, .slice x.devices.A x.devices.n x.devices.c]
abbrev kyA (x : Kys) : Value := .agg #[.string x.user, .int .i64 x.master, .int .i64 x.pos, .slice x.devices.A x.devices.n x.devices.c]
theorem kys_cells (x : Kys) : Rd.kys.cells x = kyC x := rfl
abbrev zKys : Kys := ⟨⟨#[]⟩, 0, 0, ⟨none, 0, 0, []⟩⟩
def getV (o : Option Kys) : Value := .tuple #[kyA (o.getD zKys), .bool o.isSome]
def ku (x : Kys) : List UInt8 := bs x.user
theorem uk_kv (x : Kys) : Dv.uk (kv x) = ku x := rfl
theorem kv_put (l : List Kys) (x : Kys) : (Dv.put ku l x).map kv = Dv.put Dv.uk (l.map kv) (kv x) := Dv.put_map uk_kv l x
theorem kv_find (l : List Kys) (u : ByteArray) : (Dv.find ku l (bs u)).map kv = Dv.get (l.map kv) u := Dv.find_map uk_kv l (bs u)
theorem kv_getK (l : List Kys) (u : ByteArray) : kv ((Dv.find ku l (bs u)).getD zKys) = Dv.getK (l.map kv) u := by
  unfold Dv.getK
  rw [← kv_find]
  cases Dv.find ku l (bs u) <;> rfl
theorem kv_isSome (l : List Kys) (u : ByteArray) : (Dv.find ku l (bs u)).isSome = (Dv.get (l.map kv) u).isSome := by
  rw [← kv_find]
  cases Dv.find ku l (bs u) <;> rfl

/-! ### rows of entries of the call's own -/
def OwnKys (w : World) (B : Nat) (v : Value) (l : List Kys) : Prop := w.ownsRow B 59 4 v l.length (Rd.kys.rows l)
def KyOk (w : World) (l : List Kys) : Prop := ∀ x ∈ l, Rd.kys.Ok w x
theorem KyOk.on {w w' : World} {l : List Kys} (h : KyOk w l) (hb : Below w.heap.size w w') : KyOk w' l := fun x hx => Rd.kys.on (h x hx) hb
theorem KyOk.sub {w : World} {l m : List Kys} (h : KyOk w l) (hm : ∀ x ∈ m, x ∈ l) : KyOk w m := fun x hx => h x (hm x hx)
theorem OwnKys.on {w w' : World} {B : Nat} {v : Value} {l : List Kys} (h : OwnKys w B v l) (hb : Below w.heap.size w w') : OwnKys w' B v l := owns_on h hb
theorem OwnKys.nil (w : World) (B : Nat) : OwnKys w B (.slice none 0 0) [] := World.ownsRow_nil _ _ _ _
theorem OwnKys.form {w : World} {B : Nat} {v : Value} {l : List Kys} (h : OwnKys w B v l) (hok : KyOk w l) : ∃ A c, v = .slice A l.length c ∧ Rd.kys.Holds w A l.length l ∧ l.length ≤ c ∧ c ≤ maxLen := by
  obtain ⟨A, c, rfl, hc, hm, hr⟩ := own_cap h
  exact ⟨A, c, rfl, ⟨hr, rfl, hok⟩, hc, hm⟩
theorem ky_snoc {w : World} {B n : Nat} {v : Value} {l : List Kys} {x : Kys} (hn : n = l.length) (h : w.ownsRow B 59 4 v (n + 1) (Rd.kys.rows l ++ kyC x)) : OwnKys w B v (l ++ [x]) := by
  unfold OwnKys
  rw [Rd.rows_append, Rd.rows_one, List.length_append]
  subst hn
  exact h
theorem ky_app {w : World} {B n m : Nat} {v : Value} {l l2 : List Kys} (hn : n = l.length) (hm : m = l2.length) (h : w.ownsRow B 59 4 v (n + m) (Rd.kys.rows l ++ Rd.kys.rows l2)) : OwnKys w B v (l ++ l2) := by
  unfold OwnKys
  rw [Rd.rows_append, List.length_append]
  subst hn hm
  exact h
theorem ky_new (W : World) (x : Kys) : Reads (W.alloc (.cells #[.string x.user, .int .i64 x.master, .int .i64 x.pos, .slice x.devices.A x.devices.n x.devices.c] 59)) (W.alloc (.cells #[.string x.user, .int .i64 x.master, .int .i64 x.pos, .slice x.devices.A x.devices.n x.devices.c] 59)).heap.size 4 (some ⟨W.heap.size, 0, none⟩) 1 (kyC x) := by
  refine ⟨rfl, fun _ => ⟨_, rfl, by simp, fun j u hj => ?_⟩⟩
  have : (⟨W.heap.size, 0, none⟩ : Addr).add j = ⟨W.heap.size, j, none⟩ := by unfold Addr.add; split <;> simp_all
  rw [this, World.cell?_alloc_new]
  simpa using hj
/-- what a call of this chapter hands back: a list and an error -/
def Res (w : World) (r : List Kv × Int) (e : Ending) (w' : World) : Prop :=
  ∃ A c xs, e = .returned (.tuple #[.slice A xs.length c, .int .i64 r.2]) ∧ Below w.heap.size w w' ∧ Rd.kys.Holds w' A xs.length xs ∧ xs.length ≤ c ∧ c ≤ maxLen ∧ xs.map kv = r.1
theorem Res.none_ {w w' : World} {k : Int} (hb : Below w.heap.size w w') : Res w ([], k) (.returned (.tuple #[.slice none 0 0, .int .i64 k])) w' :=
  ⟨none, 0, [], rfl, hb, Rd.Holds.none_, Nat.le_refl _, Nat.zero_le _, rfl⟩
end Go.Proofs.Ytbhkgdfmjkblcaa
