/-
  Events, contents and levels as they lie in cells.
-/
import Derived.Test.YthcbplameonjlaaRead
import Derived.Test.YthcbplameonjlaaChecked
import Derived.ProofKit
namespace Go.Proofs.Ythcbplameonjlaa
open Go.RowKit

structure Lvl where
  user : ByteArray
  n : Int
structure KLv where
  kind : Int
  n : Int
structure Lvs where
  users : Sl Lvl
  kinds : Sl KLv
  user : Int
  message : Int
  state : Int
  invite : Int
  kick : Int
  ban : Int
  redact : Int
structure Cnt where
  text : ByteArray
  n : Int
  target : Int
  thread : Bool
  via : ByteArray
  allow : Sl ByteArray
  deny : Sl ByteArray
  levels : Lvs
structure Sg where
  server : ByteArray
  sum : Int
structure Ev where
  id : Int
  room : ByteArray
  sender : ByteArray
  kind : Int
  state : Bool
  key : ByteArray
  time : Int
  depth : Int
  prev : Sl Int
  auth : Sl Int
  content : Cnt
  hash : Int
  sig : Sg

abbrev Rd.lvl' := Rd.pair Rd.str (Rd.pair Rd.i64 Rd.unit)
abbrev Rd.klv' := Rd.pair Rd.i64 (Rd.pair Rd.i64 Rd.unit)
def Rd.lvl : Rd Lvl := Rd.lvl'.as fun x => (x.user, x.n, ())
def Rd.klv : Rd KLv := Rd.klv'.as fun x => (x.kind, x.n, ())
abbrev Rd.lvs' := Rd.pair (Rd.slice Rd.lvl) (Rd.pair (Rd.slice Rd.klv) (Rd.pair Rd.i64 (Rd.pair Rd.i64 (Rd.pair Rd.i64 (Rd.pair Rd.i64 (Rd.pair Rd.i64 (Rd.pair Rd.i64 (Rd.pair Rd.i64 Rd.unit))))))))
def Rd.lvs : Rd Lvs := Rd.lvs'.as fun x => (x.users, x.kinds, x.user, x.message, x.state, x.invite, x.kick, x.ban, x.redact, ())
abbrev Rd.cnt' := Rd.pair Rd.str (Rd.pair Rd.i64 (Rd.pair Rd.i64 (Rd.pair Rd.bool (Rd.pair Rd.str (Rd.pair (Rd.slice Rd.str) (Rd.pair (Rd.slice Rd.str) (Rd.pair Rd.lvs Rd.unit)))))))
def Rd.cnt : Rd Cnt := Rd.cnt'.as fun x => (x.text, x.n, x.target, x.thread, x.via, x.allow, x.deny, x.levels, ())
abbrev Rd.sg' := Rd.pair Rd.str (Rd.pair Rd.i64 Rd.unit)
def Rd.sg : Rd Sg := Rd.sg'.as fun x => (x.server, x.sum, ())
abbrev Rd.ev' := Rd.pair Rd.i64 (Rd.pair Rd.str (Rd.pair Rd.str (Rd.pair Rd.i64 (Rd.pair Rd.bool (Rd.pair Rd.str (Rd.pair Rd.i64 (Rd.pair Rd.i64 (Rd.pair (Rd.slice Rd.i64) (Rd.pair (Rd.slice Rd.i64) (Rd.pair Rd.cnt (Rd.pair Rd.i64 (Rd.pair Rd.sg Rd.unit))))))))))))
def Rd.ev : Rd Ev := Rd.ev'.as fun x => (x.id, x.room, x.sender, x.kind, x.state, x.key, x.time, x.depth, x.prev, x.auth, x.content, x.hash, x.sig, ())

theorem lvl_size : Rd.lvl.size = 2 := rfl
theorem cnt_size : Rd.cnt.size = 16 := rfl
theorem ev_size : Rd.ev.size = 29 := rfl
theorem cnt_cells (c : Cnt) : Rd.cnt.cells c = [.string c.text, .int .i64 c.n, .int .i64 c.target, .bool c.thread, .string c.via, c.allow.val, c.deny.val, c.levels.users.val, c.levels.kinds.val,
    .int .i64 c.levels.user, .int .i64 c.levels.message, .int .i64 c.levels.state, .int .i64 c.levels.invite, .int .i64 c.levels.kick, .int .i64 c.levels.ban, .int .i64 c.levels.redact] := rfl
theorem ev_cells (e : Ev) : Rd.ev.cells e = [.int .i64 e.id, .string e.room, .string e.sender, .int .i64 e.kind, .bool e.state, .string e.key, .int .i64 e.time, .int .i64 e.depth, e.prev.val, e.auth.val,
    .string e.content.text, .int .i64 e.content.n, .int .i64 e.content.target, .bool e.content.thread, .string e.content.via, e.content.allow.val, e.content.deny.val, e.content.levels.users.val, e.content.levels.kinds.val,
    .int .i64 e.content.levels.user, .int .i64 e.content.levels.message, .int .i64 e.content.levels.state, .int .i64 e.content.levels.invite, .int .i64 e.content.levels.kick, .int .i64 e.content.levels.ban, .int .i64 e.content.levels.redact,
    .int .i64 e.hash, .string e.sig.server, .int .i64 e.sig.sum] := rfl

section
variable {W : World}
theorem opens_lvl : Opens Try.prog W Rd.lvl 83 :=
  Opens.as (opens_struct Try.underlying83 (by kernel_rfl) (opens_cons rfl (by kernel_rfl) (opens_str Try.underlying9) (opens_cons rfl (by kernel_rfl) (opens_i64 Try.underlying3) opens_nil))) Rd.lvl (fun x => ⟨x.1, x.2.1⟩) (fun _ => rfl) (fun _ h => h)
theorem opens_klv : Opens Try.prog W Rd.klv 133 :=
  Opens.as (opens_struct Try.underlying133 (by kernel_rfl) (opens_cons rfl (by kernel_rfl) (opens_i64 Try.underlying35) (opens_cons rfl (by kernel_rfl) (opens_i64 Try.underlying3) opens_nil))) Rd.klv (fun x => ⟨x.1, x.2.1⟩) (fun _ => rfl) (fun _ h => h)
theorem opens_lvs : Opens Try.prog W Rd.lvs 52 :=
  Opens.as (opens_struct Try.underlying52 (by kernel_rfl) (opens_cons rfl (by kernel_rfl) (opens_slice Try.underlying49 (by kernel_rfl) (by decide) opens_lvl)
    (opens_cons rfl (by kernel_rfl) (opens_slice Try.underlying50 (by kernel_rfl) (by decide) opens_klv) (opens_cons rfl (by kernel_rfl) (opens_i64 Try.underlying3) (opens_cons rfl (by kernel_rfl) (opens_i64 Try.underlying3) (opens_cons rfl (by kernel_rfl) (opens_i64 Try.underlying3) (opens_cons rfl (by kernel_rfl) (opens_i64 Try.underlying3) (opens_cons rfl (by kernel_rfl) (opens_i64 Try.underlying3) (opens_cons rfl (by kernel_rfl) (opens_i64 Try.underlying3) (opens_cons rfl (by kernel_rfl) (opens_i64 Try.underlying3) opens_nil)))))))))) Rd.lvs
    (fun x => ⟨x.1, x.2.1, x.2.2.1, x.2.2.2.1, x.2.2.2.2.1, x.2.2.2.2.2.1, x.2.2.2.2.2.2.1, x.2.2.2.2.2.2.2.1, x.2.2.2.2.2.2.2.2.1⟩) (fun _ => rfl) (fun _ h => h)
theorem opens_strs : Opens Try.prog W (Rd.slice Rd.str) 23 := opens_slice Try.underlying23 (by kernel_rfl) (by decide) (opens_str Try.underlying9)
theorem opens_cnt : Opens Try.prog W Rd.cnt 54 :=
  Opens.as (opens_struct Try.underlying54 (by kernel_rfl) (opens_cons rfl (by kernel_rfl) (opens_str Try.underlying9) (opens_cons rfl (by kernel_rfl) (opens_i64 Try.underlying3) (opens_cons rfl (by kernel_rfl) (opens_i64 Try.underlying3)
    (opens_cons rfl (by kernel_rfl) (opens_bool Try.underlying4) (opens_cons rfl (by kernel_rfl) (opens_str Try.underlying9) (opens_cons rfl (by kernel_rfl) opens_strs (opens_cons rfl (by kernel_rfl) opens_strs (opens_cons rfl (by kernel_rfl) opens_lvs opens_nil)))))))))
    Rd.cnt (fun x => ⟨x.1, x.2.1, x.2.2.1, x.2.2.2.1, x.2.2.2.2.1, x.2.2.2.2.2.1, x.2.2.2.2.2.2.1, x.2.2.2.2.2.2.2.1⟩) (fun _ => rfl) (fun _ h => h)
theorem opens_sg : Opens Try.prog W Rd.sg 57 :=
  Opens.as (opens_struct Try.underlying57 (by kernel_rfl) (opens_cons rfl (by kernel_rfl) (opens_str Try.underlying9) (opens_cons rfl (by kernel_rfl) (opens_i64 Try.underlying3) opens_nil))) Rd.sg (fun x => ⟨x.1, x.2.1⟩) (fun _ => rfl) (fun _ h => h)
theorem opens_ints : Opens Try.prog W (Rd.slice Rd.i64) 55 := opens_slice Try.underlying55 (by kernel_rfl) (by decide) (opens_i64 Try.underlying3)
theorem opens_ev : Opens Try.prog W Rd.ev 59 :=
  Opens.as (opens_struct Try.underlying59 (by kernel_rfl)
    (opens_cons rfl (by kernel_rfl) (opens_i64 Try.underlying3) (opens_cons rfl (by kernel_rfl) (opens_str Try.underlying9) (opens_cons rfl (by kernel_rfl) (opens_str Try.underlying9)
    (opens_cons rfl (by kernel_rfl) (opens_i64 Try.underlying35) (opens_cons rfl (by kernel_rfl) (opens_bool Try.underlying4) (opens_cons rfl (by kernel_rfl) (opens_str Try.underlying9)
    (opens_cons rfl (by kernel_rfl) (opens_i64 Try.underlying3) (opens_cons rfl (by kernel_rfl) (opens_i64 Try.underlying3) (opens_cons rfl (by kernel_rfl) opens_ints (opens_cons rfl (by kernel_rfl) opens_ints
    (opens_cons rfl (by kernel_rfl) opens_cnt (opens_cons rfl (by kernel_rfl) (opens_i64 Try.underlying3) (opens_cons rfl (by kernel_rfl) opens_sg opens_nil))))))))))))))
    Rd.ev (fun x => ⟨x.1, x.2.1, x.2.2.1, x.2.2.2.1, x.2.2.2.2.1, x.2.2.2.2.2.1, x.2.2.2.2.2.2.1, x.2.2.2.2.2.2.2.1, x.2.2.2.2.2.2.2.2.1, x.2.2.2.2.2.2.2.2.2.1, x.2.2.2.2.2.2.2.2.2.2.1, x.2.2.2.2.2.2.2.2.2.2.2.1, x.2.2.2.2.2.2.2.2.2.2.2.2.1⟩) (fun _ => rfl) (fun _ h => h)
theorem opens_evs : Opens Try.prog W (Rd.slice Rd.ev) 43 := opens_slice Try.underlying43 (by kernel_rfl) (by decide) opens_ev
end
end Go.Proofs.Ythcbplameonjlaa
