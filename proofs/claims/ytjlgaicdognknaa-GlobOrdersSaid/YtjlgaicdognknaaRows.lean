/-
  No cell of these rows narrows 'for every input' (looked for: loops, veiled, ifaces, maps, wideKeys, modest, calm, conditions, laid).
  DERIVED. THE GIVEN ROWS OF THIS SEAT. 11 by the template 'for every input the law returns true; each argument reads behind the call as it read before'; 0 by the template 'total and deterministic' (their statements: YtjlgaicdognknaaTotals.lean).
  GIVEN WITH THE SEED: the statements are not yours to turn. If you find one false, say at which input.
  Laid BY PROGRAM, IN A SANDBOX (cutbox-rows.mjs): the forced cells as the released guide's own fill.sh prints them over the translation b86e01cbb8c45979… (all of the seat's roots in one cut). By AI agents, Wed Nov 11 2026. No macro, syntax, notation, axiom, sorry.
-/
import Derived.Test.YtjlgaicdognknaaChecked
import GoSem.Claim
import GoSem.ClaimJoined
import GoSem.ClaimMapViews
import Derived.JoinedTies
import Derived.KernelRfl
namespace Go.Proofs.Ytjlgaicdognknaa
/- THE CELL 'sum', in the pinned program and in every row, IS THE sha256 OF THE DUMP (.gsa) THAT YtjlgaicdognknaaProg.lean LOADS. Nothing in Lean hashes anything: it is a label: what it is worth is what the hold of that sum in a sandbox is worth. -/
noncomputable def Try.pinned : Pinned := { name := "ytjlgaicdognknaa", sum := "b86e01cbb8c45979591bcf1b292c72e670e92ae3ac5af1a7a1b22b774be9930e", checked := Try.checked }
namespace Rows
def none {H : Type} : Left H := { results := [], args := [] }

/-- 'fedchatlaw03.GlobChecks': WHATEVER THE INPUT: true; the input reads as it did. -/
def globChecksSpec : ChangeSpec := { name := "globChecks", fn := fun _ => fun
  | [d] => { results := [.lit (.bool true)], args := [d] }
  | _ => none }
def globChecksRow : OpenClaim := { program := "ytjlgaicdognknaa", sum := "b86e01cbb8c45979591bcf1b292c72e670e92ae3ac5af1a7a1b22b774be9930e", func := "fedchat/fedchatlaw03.GlobChecks", spec := "globChecks", apart := false }
def GlobChecksSaid : Prop := globChecksRow.holds Try.pinned (OpenSpec.ofChange globChecksSpec)

/-- ITS FALSE NEIGHBOUR: 'it returns false'. Refute it at one input. -/
def globChecksWrong : ChangeSpec := { name := "globChecks", fn := fun _ => fun
  | [d] => { results := [.lit (.bool false)], args := [d] }
  | _ => none }
def GlobChecksWrongFalsely : Prop := globChecksRow.holds Try.pinned (OpenSpec.ofChange globChecksWrong)

/-- 'fedchatlaw03.GlobMatches': WHATEVER THE INPUT: true; the input reads as it did. -/
def globMatchesSpec : ChangeSpec := { name := "globMatches", fn := fun _ => fun
  | [d1, d2] => { results := [.lit (.bool true)], args := [d1, d2] }
  | _ => none }
def globMatchesRow : OpenClaim := { program := "ytjlgaicdognknaa", sum := "b86e01cbb8c45979591bcf1b292c72e670e92ae3ac5af1a7a1b22b774be9930e", func := "fedchat/fedchatlaw03.GlobMatches", spec := "globMatches", apart := false }
def GlobMatchesSaid : Prop := globMatchesRow.holds Try.pinned (OpenSpec.ofChange globMatchesSpec)

/-- ITS FALSE NEIGHBOUR: 'it returns false'. Refute it at one input. -/
def globMatchesWrong : ChangeSpec := { name := "globMatches", fn := fun _ => fun
  | [d1, d2] => { results := [.lit (.bool false)], args := [d1, d2] }
  | _ => none }
def GlobMatchesWrongFalsely : Prop := globMatchesRow.holds Try.pinned (OpenSpec.ofChange globMatchesWrong)

/-- 'fedchatlaw03.GlobFinds': WHATEVER THE INPUT: true; the input reads as it did. -/
def globFindsSpec : ChangeSpec := { name := "globFinds", fn := fun _ => fun
  | [d1, d2] => { results := [.lit (.bool true)], args := [d1, d2] }
  | _ => none }
def globFindsRow : OpenClaim := { program := "ytjlgaicdognknaa", sum := "b86e01cbb8c45979591bcf1b292c72e670e92ae3ac5af1a7a1b22b774be9930e", func := "fedchat/fedchatlaw03.GlobFinds", spec := "globFinds", apart := false }
def GlobFindsSaid : Prop := globFindsRow.holds Try.pinned (OpenSpec.ofChange globFindsSpec)

/-- ITS FALSE NEIGHBOUR: 'it returns false'. Refute it at one input. -/
def globFindsWrong : ChangeSpec := { name := "globFinds", fn := fun _ => fun
  | [d1, d2] => { results := [.lit (.bool false)], args := [d1, d2] }
  | _ => none }
def GlobFindsWrongFalsely : Prop := globFindsRow.holds Try.pinned (OpenSpec.ofChange globFindsWrong)

/-- 'fedchatlaw03.GlobPlains': WHATEVER THE INPUT: true; the input reads as it did. -/
def globPlainsSpec : ChangeSpec := { name := "globPlains", fn := fun _ => fun
  | [d1, d2] => { results := [.lit (.bool true)], args := [d1, d2] }
  | _ => none }
def globPlainsRow : OpenClaim := { program := "ytjlgaicdognknaa", sum := "b86e01cbb8c45979591bcf1b292c72e670e92ae3ac5af1a7a1b22b774be9930e", func := "fedchat/fedchatlaw03.GlobPlains", spec := "globPlains", apart := false }
def GlobPlainsSaid : Prop := globPlainsRow.holds Try.pinned (OpenSpec.ofChange globPlainsSpec)

/-- ITS FALSE NEIGHBOUR: 'it returns false'. Refute it at one input. -/
def globPlainsWrong : ChangeSpec := { name := "globPlains", fn := fun _ => fun
  | [d1, d2] => { results := [.lit (.bool false)], args := [d1, d2] }
  | _ => none }
def GlobPlainsWrongFalsely : Prop := globPlainsRow.holds Try.pinned (OpenSpec.ofChange globPlainsWrong)

/-- 'fedchatlaw03.GlobCuts': WHATEVER THE INPUT: true; the input reads as it did. -/
def globCutsSpec : ChangeSpec := { name := "globCuts", fn := fun _ => fun
  | [d1, d2, d3] => { results := [.lit (.bool true)], args := [d1, d2, d3] }
  | _ => none }
def globCutsRow : OpenClaim := { program := "ytjlgaicdognknaa", sum := "b86e01cbb8c45979591bcf1b292c72e670e92ae3ac5af1a7a1b22b774be9930e", func := "fedchat/fedchatlaw03.GlobCuts", spec := "globCuts", apart := false }
def GlobCutsSaid : Prop := globCutsRow.holds Try.pinned (OpenSpec.ofChange globCutsSpec)

/-- ITS FALSE NEIGHBOUR: 'it returns false'. Refute it at one input. -/
def globCutsWrong : ChangeSpec := { name := "globCuts", fn := fun _ => fun
  | [d1, d2, d3] => { results := [.lit (.bool false)], args := [d1, d2, d3] }
  | _ => none }
def GlobCutsWrongFalsely : Prop := globCutsRow.holds Try.pinned (OpenSpec.ofChange globCutsWrong)

/-- 'fedchatlaw03.GlobLeasts': WHATEVER THE INPUT: true; the input reads as it did. -/
def globLeastsSpec : ChangeSpec := { name := "globLeasts", fn := fun _ => fun
  | [d1, d2] => { results := [.lit (.bool true)], args := [d1, d2] }
  | _ => none }
def globLeastsRow : OpenClaim := { program := "ytjlgaicdognknaa", sum := "b86e01cbb8c45979591bcf1b292c72e670e92ae3ac5af1a7a1b22b774be9930e", func := "fedchat/fedchatlaw03.GlobLeasts", spec := "globLeasts", apart := false }
def GlobLeastsSaid : Prop := globLeastsRow.holds Try.pinned (OpenSpec.ofChange globLeastsSpec)

/-- ITS FALSE NEIGHBOUR: 'it returns false'. Refute it at one input. -/
def globLeastsWrong : ChangeSpec := { name := "globLeasts", fn := fun _ => fun
  | [d1, d2] => { results := [.lit (.bool false)], args := [d1, d2] }
  | _ => none }
def GlobLeastsWrongFalsely : Prop := globLeastsRow.holds Try.pinned (OpenSpec.ofChange globLeastsWrong)

/-- 'fedchatlaw03.GlobOrders': WHATEVER THE INPUT: true; the input reads as it did. -/
def globOrdersSpec : ChangeSpec := { name := "globOrders", fn := fun _ => fun
  | [d1, d2, d3] => { results := [.lit (.bool true)], args := [d1, d2, d3] }
  | _ => none }
def globOrdersRow : OpenClaim := { program := "ytjlgaicdognknaa", sum := "b86e01cbb8c45979591bcf1b292c72e670e92ae3ac5af1a7a1b22b774be9930e", func := "fedchat/fedchatlaw03.GlobOrders", spec := "globOrders", apart := false }
def GlobOrdersSaid : Prop := globOrdersRow.holds Try.pinned (OpenSpec.ofChange globOrdersSpec)

/-- ITS FALSE NEIGHBOUR: 'it returns false'. Refute it at one input. -/
def globOrdersWrong : ChangeSpec := { name := "globOrders", fn := fun _ => fun
  | [d1, d2, d3] => { results := [.lit (.bool false)], args := [d1, d2, d3] }
  | _ => none }
def GlobOrdersWrongFalsely : Prop := globOrdersRow.holds Try.pinned (OpenSpec.ofChange globOrdersWrong)

/-- 'fedchatlaw14.AccessLists': WHATEVER THE INPUT: true; the input reads as it did. -/
def accessListsSpec : ChangeSpec := { name := "accessLists", fn := fun _ => fun
  | [d1, d2, d3] => { results := [.lit (.bool true)], args := [d1, d2, d3] }
  | _ => none }
def accessListsRow : OpenClaim := { program := "ytjlgaicdognknaa", sum := "b86e01cbb8c45979591bcf1b292c72e670e92ae3ac5af1a7a1b22b774be9930e", func := "fedchat/fedchatlaw14.AccessLists", spec := "accessLists", apart := false }
def AccessListsSaid : Prop := accessListsRow.holds Try.pinned (OpenSpec.ofChange accessListsSpec)

/-- ITS FALSE NEIGHBOUR: 'it returns false'. Refute it at one input. -/
def accessListsWrong : ChangeSpec := { name := "accessLists", fn := fun _ => fun
  | [d1, d2, d3] => { results := [.lit (.bool false)], args := [d1, d2, d3] }
  | _ => none }
def AccessListsWrongFalsely : Prop := accessListsRow.holds Try.pinned (OpenSpec.ofChange accessListsWrong)

/-- 'fedchatlaw14.AccessRooms': WHATEVER THE INPUT: true; the input reads as it did. -/
def accessRoomsSpec : ChangeSpec := { name := "accessRooms", fn := fun _ => fun
  | [d1, d2] => { results := [.lit (.bool true)], args := [d1, d2] }
  | _ => none }
def accessRoomsRow : OpenClaim := { program := "ytjlgaicdognknaa", sum := "b86e01cbb8c45979591bcf1b292c72e670e92ae3ac5af1a7a1b22b774be9930e", func := "fedchat/fedchatlaw14.AccessRooms", spec := "accessRooms", apart := false }
def AccessRoomsSaid : Prop := accessRoomsRow.holds Try.pinned (OpenSpec.ofChange accessRoomsSpec)

/-- ITS FALSE NEIGHBOUR: 'it returns false'. Refute it at one input. -/
def accessRoomsWrong : ChangeSpec := { name := "accessRooms", fn := fun _ => fun
  | [d1, d2] => { results := [.lit (.bool false)], args := [d1, d2] }
  | _ => none }
def AccessRoomsWrongFalsely : Prop := accessRoomsRow.holds Try.pinned (OpenSpec.ofChange accessRoomsWrong)

/-- 'fedchatlaw14.AccessGrows': WHATEVER THE INPUT: true; the input reads as it did. -/
def accessGrowsSpec : ChangeSpec := { name := "accessGrows", fn := fun _ => fun
  | [d1, d2, d3] => { results := [.lit (.bool true)], args := [d1, d2, d3] }
  | _ => none }
def accessGrowsRow : OpenClaim := { program := "ytjlgaicdognknaa", sum := "b86e01cbb8c45979591bcf1b292c72e670e92ae3ac5af1a7a1b22b774be9930e", func := "fedchat/fedchatlaw14.AccessGrows", spec := "accessGrows", apart := false }
def AccessGrowsSaid : Prop := accessGrowsRow.holds Try.pinned (OpenSpec.ofChange accessGrowsSpec)

/-- ITS FALSE NEIGHBOUR: 'it returns false'. Refute it at one input. -/
def accessGrowsWrong : ChangeSpec := { name := "accessGrows", fn := fun _ => fun
  | [d1, d2, d3] => { results := [.lit (.bool false)], args := [d1, d2, d3] }
  | _ => none }
def AccessGrowsWrongFalsely : Prop := accessGrowsRow.holds Try.pinned (OpenSpec.ofChange accessGrowsWrong)

/-- 'fedchatlaw14.AccessFirst': WHATEVER THE INPUT: true; the input reads as it did. -/
def accessFirstSpec : ChangeSpec := { name := "accessFirst", fn := fun _ => fun
  | [d1, d2, d3] => { results := [.lit (.bool true)], args := [d1, d2, d3] }
  | _ => none }
def accessFirstRow : OpenClaim := { program := "ytjlgaicdognknaa", sum := "b86e01cbb8c45979591bcf1b292c72e670e92ae3ac5af1a7a1b22b774be9930e", func := "fedchat/fedchatlaw14.AccessFirst", spec := "accessFirst", apart := false }
def AccessFirstSaid : Prop := accessFirstRow.holds Try.pinned (OpenSpec.ofChange accessFirstSpec)

/-- ITS FALSE NEIGHBOUR: 'it returns false'. Refute it at one input. -/
def accessFirstWrong : ChangeSpec := { name := "accessFirst", fn := fun _ => fun
  | [d1, d2, d3] => { results := [.lit (.bool false)], args := [d1, d2, d3] }
  | _ => none }
def AccessFirstWrongFalsely : Prop := accessFirstRow.holds Try.pinned (OpenSpec.ofChange accessFirstWrong)

/- THE SECOND FORM. 'bulk': how many values and letters a reading holds, each counted each time it is reached (what is shared counts as often as it is met; a slice's spare places count too). A statement '..UptoSaid' is the law's where the arguments, and the package variables that the reading takes, are together of bulk at most 1048576: NARROWER than '..Said'. Prove '..Said' where nothing that the law and all that it calls make is longer than what came in: it says more and counts as full. Else prove '..UptoSaid'. A law counts once. -/
mutual
def uptoBulk {H : Type} : DataW H → Nat
  | .lit (.string bytes) => bytes.length + 1
  | .lit _ => 1
  | .nil => 1
  | .ptr d => uptoBulk d + 1
  | .slice elems spare => uptoBulkAll elems + uptoBulkAll spare + 1
  | .agg parts => uptoBulkAll parts + 1
  | .iface _ d => uptoBulk d + 1
  | .map entries => uptoBulkEntries entries + 1
  | .held _ => 1
def uptoBulkAll {H : Type} : List (DataW H) → Nat
  | [] => 0
  | d :: r => uptoBulk d + uptoBulkAll r
def uptoBulkEntries {H : Type} : List (Lit × DataW H) → Nat
  | [] => 0
  | x :: r => uptoBulkEntry x + uptoBulkEntries r
def uptoBulkEntry {H : Type} : Lit × DataW H → Nat
  | (.string bytes, d) => bytes.length + uptoBulk d + 1
  | (_, d) => uptoBulk d + 1
 end
def uptoSmall : (H : Type) → List (DataW H) → Bool := fun _ ds => decide (uptoBulkAll ds ≤ 1048576)
def OpenSpec.upto (s : _root_.Go.ChangeSpec) : _root_.Go.OpenSpec := { _root_.Go.OpenSpec.ofChange s with cond := some uptoSmall }

/-- 'fedchatlaw03.GlobChecks', WHERE WHAT IT READS IS OF BULK AT MOST 1048576: true; the input reads as it did. -/
def globChecksUptoRow : OpenClaim := { program := "ytjlgaicdognknaa", sum := "b86e01cbb8c45979591bcf1b292c72e670e92ae3ac5af1a7a1b22b774be9930e", func := "fedchat/fedchatlaw03.GlobChecks", spec := "globChecks", apart := false, narrowed := true }
def GlobChecksUptoSaid : Prop := globChecksUptoRow.holds Try.pinned (OpenSpec.upto globChecksSpec)

/-- 'fedchatlaw03.GlobMatches', WHERE WHAT IT READS IS OF BULK AT MOST 1048576: true; the input reads as it did. -/
def globMatchesUptoRow : OpenClaim := { program := "ytjlgaicdognknaa", sum := "b86e01cbb8c45979591bcf1b292c72e670e92ae3ac5af1a7a1b22b774be9930e", func := "fedchat/fedchatlaw03.GlobMatches", spec := "globMatches", apart := false, narrowed := true }
def GlobMatchesUptoSaid : Prop := globMatchesUptoRow.holds Try.pinned (OpenSpec.upto globMatchesSpec)

/-- 'fedchatlaw03.GlobFinds', WHERE WHAT IT READS IS OF BULK AT MOST 1048576: true; the input reads as it did. -/
def globFindsUptoRow : OpenClaim := { program := "ytjlgaicdognknaa", sum := "b86e01cbb8c45979591bcf1b292c72e670e92ae3ac5af1a7a1b22b774be9930e", func := "fedchat/fedchatlaw03.GlobFinds", spec := "globFinds", apart := false, narrowed := true }
def GlobFindsUptoSaid : Prop := globFindsUptoRow.holds Try.pinned (OpenSpec.upto globFindsSpec)

/-- 'fedchatlaw03.GlobPlains', WHERE WHAT IT READS IS OF BULK AT MOST 1048576: true; the input reads as it did. -/
def globPlainsUptoRow : OpenClaim := { program := "ytjlgaicdognknaa", sum := "b86e01cbb8c45979591bcf1b292c72e670e92ae3ac5af1a7a1b22b774be9930e", func := "fedchat/fedchatlaw03.GlobPlains", spec := "globPlains", apart := false, narrowed := true }
def GlobPlainsUptoSaid : Prop := globPlainsUptoRow.holds Try.pinned (OpenSpec.upto globPlainsSpec)

/-- 'fedchatlaw03.GlobCuts', WHERE WHAT IT READS IS OF BULK AT MOST 1048576: true; the input reads as it did. -/
def globCutsUptoRow : OpenClaim := { program := "ytjlgaicdognknaa", sum := "b86e01cbb8c45979591bcf1b292c72e670e92ae3ac5af1a7a1b22b774be9930e", func := "fedchat/fedchatlaw03.GlobCuts", spec := "globCuts", apart := false, narrowed := true }
def GlobCutsUptoSaid : Prop := globCutsUptoRow.holds Try.pinned (OpenSpec.upto globCutsSpec)

/-- 'fedchatlaw03.GlobLeasts', WHERE WHAT IT READS IS OF BULK AT MOST 1048576: true; the input reads as it did. -/
def globLeastsUptoRow : OpenClaim := { program := "ytjlgaicdognknaa", sum := "b86e01cbb8c45979591bcf1b292c72e670e92ae3ac5af1a7a1b22b774be9930e", func := "fedchat/fedchatlaw03.GlobLeasts", spec := "globLeasts", apart := false, narrowed := true }
def GlobLeastsUptoSaid : Prop := globLeastsUptoRow.holds Try.pinned (OpenSpec.upto globLeastsSpec)

/-- 'fedchatlaw03.GlobOrders', WHERE WHAT IT READS IS OF BULK AT MOST 1048576: true; the input reads as it did. -/
def globOrdersUptoRow : OpenClaim := { program := "ytjlgaicdognknaa", sum := "b86e01cbb8c45979591bcf1b292c72e670e92ae3ac5af1a7a1b22b774be9930e", func := "fedchat/fedchatlaw03.GlobOrders", spec := "globOrders", apart := false, narrowed := true }
def GlobOrdersUptoSaid : Prop := globOrdersUptoRow.holds Try.pinned (OpenSpec.upto globOrdersSpec)

/-- 'fedchatlaw14.AccessLists', WHERE WHAT IT READS IS OF BULK AT MOST 1048576: true; the input reads as it did. -/
def accessListsUptoRow : OpenClaim := { program := "ytjlgaicdognknaa", sum := "b86e01cbb8c45979591bcf1b292c72e670e92ae3ac5af1a7a1b22b774be9930e", func := "fedchat/fedchatlaw14.AccessLists", spec := "accessLists", apart := false, narrowed := true }
def AccessListsUptoSaid : Prop := accessListsUptoRow.holds Try.pinned (OpenSpec.upto accessListsSpec)

/-- 'fedchatlaw14.AccessRooms', WHERE WHAT IT READS IS OF BULK AT MOST 1048576: true; the input reads as it did. -/
def accessRoomsUptoRow : OpenClaim := { program := "ytjlgaicdognknaa", sum := "b86e01cbb8c45979591bcf1b292c72e670e92ae3ac5af1a7a1b22b774be9930e", func := "fedchat/fedchatlaw14.AccessRooms", spec := "accessRooms", apart := false, narrowed := true }
def AccessRoomsUptoSaid : Prop := accessRoomsUptoRow.holds Try.pinned (OpenSpec.upto accessRoomsSpec)

/-- 'fedchatlaw14.AccessGrows', WHERE WHAT IT READS IS OF BULK AT MOST 1048576: true; the input reads as it did. -/
def accessGrowsUptoRow : OpenClaim := { program := "ytjlgaicdognknaa", sum := "b86e01cbb8c45979591bcf1b292c72e670e92ae3ac5af1a7a1b22b774be9930e", func := "fedchat/fedchatlaw14.AccessGrows", spec := "accessGrows", apart := false, narrowed := true }
def AccessGrowsUptoSaid : Prop := accessGrowsUptoRow.holds Try.pinned (OpenSpec.upto accessGrowsSpec)

/-- 'fedchatlaw14.AccessFirst', WHERE WHAT IT READS IS OF BULK AT MOST 1048576: true; the input reads as it did. -/
def accessFirstUptoRow : OpenClaim := { program := "ytjlgaicdognknaa", sum := "b86e01cbb8c45979591bcf1b292c72e670e92ae3ac5af1a7a1b22b774be9930e", func := "fedchat/fedchatlaw14.AccessFirst", spec := "accessFirst", apart := false, narrowed := true }
def AccessFirstUptoSaid : Prop := accessFirstUptoRow.holds Try.pinned (OpenSpec.upto accessFirstSpec)

end Rows
end Go.Proofs.Ytjlgaicdognknaa
