/-
  No cell of these rows narrows 'for every input' (looked for: loops, veiled, ifaces, maps, wideKeys, modest, calm, conditions, laid).
  DERIVED. THE GIVEN ROWS OF THIS SEAT. 4 by the template 'for every input the law returns true; each argument reads behind the call as it read before'; 0 by the template 'total and deterministic' (their statements: YtbdbhnmeainmfaaTotals.lean).
  GIVEN WITH THE SEED: the statements are not yours to turn. If you find one false, say at which input.
  Laid BY PROGRAM, IN A SANDBOX (cutbox-rows.mjs): the forced cells as the released guide's own fill.sh prints them over the translation 9b99e3a8bbb2f9ff… (all of the seat's roots in one cut). By AI agents, Wed Nov 11 2026. No macro, syntax, notation, axiom, sorry.
-/
import Derived.Test.YtbdbhnmeainmfaaChecked
import GoSem.Claim
import GoSem.ClaimJoined
import GoSem.ClaimMapViews
import Derived.JoinedTies
import Derived.KernelRfl
namespace Go.Proofs.Ytbdbhnmeainmfaa
/- THE CELL 'sum', in the pinned program and in every row, IS THE sha256 OF THE DUMP (.gsa) THAT YtbdbhnmeainmfaaProg.lean LOADS. Nothing in Lean hashes anything: it is a label: what it is worth is what the hold of that sum in a sandbox is worth. -/
noncomputable def Try.pinned : Pinned := { name := "ytbdbhnmeainmfaa", sum := "9b99e3a8bbb2f9ffb0975d986dfb1e3ada3e8ad73da09ff2ec9722667391fa8f", checked := Try.checked }
namespace Rows
def none {H : Type} : Left H := { results := [], args := [] }

/-- 'fedchatlaw14.AccessLists': WHATEVER THE INPUT: true; the input reads as it did. -/
def accessListsSpec : ChangeSpec := { name := "accessLists", fn := fun _ => fun
  | [d1, d2, d3] => { results := [.lit (.bool true)], args := [d1, d2, d3] }
  | _ => none }
def accessListsRow : OpenClaim := { program := "ytbdbhnmeainmfaa", sum := "9b99e3a8bbb2f9ffb0975d986dfb1e3ada3e8ad73da09ff2ec9722667391fa8f", func := "fedchat/fedchatlaw14.AccessLists", spec := "accessLists", apart := false }
def AccessListsSaid : Prop := accessListsRow.holds Try.pinned (OpenSpec.ofChange accessListsSpec)

/-- ITS FALSE NEIGHBOUR: 'it returns false'. Refute it at one input. -/
def accessListsWrong : ChangeSpec := { name := "accessLists", fn := fun _ => fun
  | [d1, d2, d3] => { results := [.lit (.bool false)], args := [d1, d2, d3] }
  | _ => none }
def AccessListsWrongFalsely : Prop := accessListsRow.holds Try.pinned (OpenSpec.ofChange accessListsWrong)

/-- 'fedchatlaw14.AccessRooms': WHATEVER THE INPUT: true; the input reads as it did. -/
def accessRoomsSpec : ChangeSpec := { name := "accessRooms", fn := fun _ => fun
  | [d1, d2] => { results := [.lit (.bool true)], args := [d1, d2] }
  | _ => none }
def accessRoomsRow : OpenClaim := { program := "ytbdbhnmeainmfaa", sum := "9b99e3a8bbb2f9ffb0975d986dfb1e3ada3e8ad73da09ff2ec9722667391fa8f", func := "fedchat/fedchatlaw14.AccessRooms", spec := "accessRooms", apart := false }
def AccessRoomsSaid : Prop := accessRoomsRow.holds Try.pinned (OpenSpec.ofChange accessRoomsSpec)

/-- ITS FALSE NEIGHBOUR: 'it returns false'. Refute it at one input. -/
def accessRoomsWrong : ChangeSpec := { name := "accessRooms", fn := fun _ => fun
  | [d1, d2] => { results := [.lit (.bool false)], args := [d1, d2] }
  | _ => none }
def AccessRoomsWrongFalsely : Prop := accessRoomsRow.holds Try.pinned (OpenSpec.ofChange accessRoomsWrong)

/-- 'fedchatlaw14.AccessGrows': WHATEVER THE INPUT: true; the input reads as it did. -/
def accessGrowsSpec : ChangeSpec := { name := "accessGrows", fn := fun _ => fun
  | [d1, d2, d3] => { results := [.lit (.bool true)], args := [d1, d2, d3] }
  | _ => none }
def accessGrowsRow : OpenClaim := { program := "ytbdbhnmeainmfaa", sum := "9b99e3a8bbb2f9ffb0975d986dfb1e3ada3e8ad73da09ff2ec9722667391fa8f", func := "fedchat/fedchatlaw14.AccessGrows", spec := "accessGrows", apart := false }
def AccessGrowsSaid : Prop := accessGrowsRow.holds Try.pinned (OpenSpec.ofChange accessGrowsSpec)

/-- ITS FALSE NEIGHBOUR: 'it returns false'. Refute it at one input. -/
def accessGrowsWrong : ChangeSpec := { name := "accessGrows", fn := fun _ => fun
  | [d1, d2, d3] => { results := [.lit (.bool false)], args := [d1, d2, d3] }
  | _ => none }
def AccessGrowsWrongFalsely : Prop := accessGrowsRow.holds Try.pinned (OpenSpec.ofChange accessGrowsWrong)

/-- 'fedchatlaw14.AccessFirst': WHATEVER THE INPUT: true; the input reads as it did. -/
def accessFirstSpec : ChangeSpec := { name := "accessFirst", fn := fun _ => fun
  | [d1, d2, d3] => { results := [.lit (.bool true)], args := [d1, d2, d3] }
  | _ => none }
def accessFirstRow : OpenClaim := { program := "ytbdbhnmeainmfaa", sum := "9b99e3a8bbb2f9ffb0975d986dfb1e3ada3e8ad73da09ff2ec9722667391fa8f", func := "fedchat/fedchatlaw14.AccessFirst", spec := "accessFirst", apart := false }
def AccessFirstSaid : Prop := accessFirstRow.holds Try.pinned (OpenSpec.ofChange accessFirstSpec)

/-- ITS FALSE NEIGHBOUR: 'it returns false'. Refute it at one input. -/
def accessFirstWrong : ChangeSpec := { name := "accessFirst", fn := fun _ => fun
  | [d1, d2, d3] => { results := [.lit (.bool false)], args := [d1, d2, d3] }
  | _ => none }
def AccessFirstWrongFalsely : Prop := accessFirstRow.holds Try.pinned (OpenSpec.ofChange accessFirstWrong)

/- THE SECOND FORM. 'bulk': how many values and letters a reading holds, each counted each time it is reached (what is shared counts as often as it is met; a slice's spare places count too). A statement '..UptoSaid' is the law's where the arguments, and the package variables that the reading takes, are together of bulk at most 1048576: NARROWER than '..Said'. Prove '..Said' where nothing that the law and all that it calls make is longer than what came in: it says more and counts as full. Else prove '..UptoSaid'. A law counts once. -/
mutual
def uptoBulk {H : Type} : DataW H → Nat
  | .lit (.string bytes) => bytes.length + 1
  | .lit _ => 1
  | .nil => 1
  | .ptr d => uptoBulk d + 1
  | .slice elems spare => uptoBulkAll elems + uptoBulkAll spare + 1
  | .agg parts => uptoBulkAll parts + 1
  | .iface _ d => uptoBulk d + 1
  | .map entries => uptoBulkEntries entries + 1
  | .held _ => 1
def uptoBulkAll {H : Type} : List (DataW H) → Nat
  | [] => 0
  | d :: r => uptoBulk d + uptoBulkAll r
def uptoBulkEntries {H : Type} : List (Lit × DataW H) → Nat
  | [] => 0
  | x :: r => uptoBulkEntry x + uptoBulkEntries r
def uptoBulkEntry {H : Type} : Lit × DataW H → Nat
  | (.string bytes, d) => bytes.length + uptoBulk d + 1
  | (_, d) => uptoBulk d + 1
 end
def uptoSmall : (H : Type) → List (DataW H) → Bool := fun _ ds => decide (uptoBulkAll ds ≤ 1048576)
def OpenSpec.upto (s : _root_.Go.ChangeSpec) : _root_.Go.OpenSpec := { _root_.Go.OpenSpec.ofChange s with cond := some uptoSmall }

/-- 'fedchatlaw14.AccessLists', WHERE WHAT IT READS IS OF BULK AT MOST 1048576: true; the input reads as it did. -/
def accessListsUptoRow : OpenClaim := { program := "ytbdbhnmeainmfaa", sum := "9b99e3a8bbb2f9ffb0975d986dfb1e3ada3e8ad73da09ff2ec9722667391fa8f", func := "fedchat/fedchatlaw14.AccessLists", spec := "accessLists", apart := false, narrowed := true }
def AccessListsUptoSaid : Prop := accessListsUptoRow.holds Try.pinned (OpenSpec.upto accessListsSpec)

/-- 'fedchatlaw14.AccessRooms', WHERE WHAT IT READS IS OF BULK AT MOST 1048576: true; the input reads as it did. -/
def accessRoomsUptoRow : OpenClaim := { program := "ytbdbhnmeainmfaa", sum := "9b99e3a8bbb2f9ffb0975d986dfb1e3ada3e8ad73da09ff2ec9722667391fa8f", func := "fedchat/fedchatlaw14.AccessRooms", spec := "accessRooms", apart := false, narrowed := true }
def AccessRoomsUptoSaid : Prop := accessRoomsUptoRow.holds Try.pinned (OpenSpec.upto accessRoomsSpec)

/-- 'fedchatlaw14.AccessGrows', WHERE WHAT IT READS IS OF BULK AT MOST 1048576: true; the input reads as it did. -/
def accessGrowsUptoRow : OpenClaim := { program := "ytbdbhnmeainmfaa", sum := "9b99e3a8bbb2f9ffb0975d986dfb1e3ada3e8ad73da09ff2ec9722667391fa8f", func := "fedchat/fedchatlaw14.AccessGrows", spec := "accessGrows", apart := false, narrowed := true }
def AccessGrowsUptoSaid : Prop := accessGrowsUptoRow.holds Try.pinned (OpenSpec.upto accessGrowsSpec)

/-- 'fedchatlaw14.AccessFirst', WHERE WHAT IT READS IS OF BULK AT MOST 1048576: true; the input reads as it did. -/
def accessFirstUptoRow : OpenClaim := { program := "ytbdbhnmeainmfaa", sum := "9b99e3a8bbb2f9ffb0975d986dfb1e3ada3e8ad73da09ff2ec9722667391fa8f", func := "fedchat/fedchatlaw14.AccessFirst", spec := "accessFirst", apart := false, narrowed := true }
def AccessFirstUptoSaid : Prop := accessFirstUptoRow.holds Try.pinned (OpenSpec.upto accessFirstSpec)

end Rows
end Go.Proofs.Ytbdbhnmeainmfaa
