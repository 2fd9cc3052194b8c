/-
  No cell of these rows narrows 'for every input' (looked for: loops, veiled, ifaces, maps, wideKeys, modest, calm, conditions, laid).
  DERIVED. THE GIVEN ROWS OF THIS SEAT. 12 by the template 'for every input the law returns true; each argument reads behind the call as it read before'; 0 by the template 'total and deterministic' (their statements: YtlfdafelceipfaaTotals.lean).
  GIVEN WITH THE SEED: the statements are not yours to turn. If you find one false, say at which input.
  Laid BY PROGRAM, IN A SANDBOX (cutbox-rows.mjs): the forced cells as the released guide's own fill.sh prints them over the translation 5c6849acc06c094a… (all of the seat's roots in one cut). By AI agents, Wed Nov 11 2026. No macro, syntax, notation, axiom, sorry.
-/
import Derived.Test.YtlfdafelceipfaaChecked
import GoSem.Claim
import GoSem.ClaimJoined
import GoSem.ClaimMapViews
import Derived.JoinedTies
import Derived.KernelRfl
namespace Go.Proofs.Ytlfdafelceipfaa
/- THE CELL 'sum', in the pinned program and in every row, IS THE sha256 OF THE DUMP (.gsa) THAT YtlfdafelceipfaaProg.lean LOADS. Nothing in Lean hashes anything: it is a label: what it is worth is what the hold of that sum in a sandbox is worth. -/
noncomputable def Try.pinned : Pinned := { name := "ytlfdafelceipfaa", sum := "5c6849acc06c094a2892a5ad9bb904219c2b38424fe9a5f1d375d33ce33e4fa7", checked := Try.checked }
namespace Rows
def none {H : Type} : Left H := { results := [], args := [] }

/-- 'fedchatlaw02.IdsServers': WHATEVER THE INPUT: true; the input reads as it did. -/
def idsServersSpec : ChangeSpec := { name := "idsServers", fn := fun _ => fun
  | [d] => { results := [.lit (.bool true)], args := [d] }
  | _ => none }
def idsServersRow : OpenClaim := { program := "ytlfdafelceipfaa", sum := "5c6849acc06c094a2892a5ad9bb904219c2b38424fe9a5f1d375d33ce33e4fa7", func := "fedchat/fedchatlaw02.IdsServers", spec := "idsServers", inPlace := ["internal/bytealg.IndexByteString", "internal/bytealg.IndexString"], unfollowed := true, recurses := true, named := ["internal/bytealg.MaxLen"], apart := false }
def IdsServersSaid : Prop := idsServersRow.holds Try.pinned (OpenSpec.ofChange idsServersSpec)

/-- ITS FALSE NEIGHBOUR: 'it returns false'. Refute it at one input. -/
def idsServersWrong : ChangeSpec := { name := "idsServers", fn := fun _ => fun
  | [d] => { results := [.lit (.bool false)], args := [d] }
  | _ => none }
def IdsServersWrongFalsely : Prop := idsServersRow.holds Try.pinned (OpenSpec.ofChange idsServersWrong)

/-- 'fedchatlaw02.IdsParses': WHATEVER THE INPUT: true; the input reads as it did. -/
def idsParsesSpec : ChangeSpec := { name := "idsParses", fn := fun _ => fun
  | [d] => { results := [.lit (.bool true)], args := [d] }
  | _ => none }
def idsParsesRow : OpenClaim := { program := "ytlfdafelceipfaa", sum := "5c6849acc06c094a2892a5ad9bb904219c2b38424fe9a5f1d375d33ce33e4fa7", func := "fedchat/fedchatlaw02.IdsParses", spec := "idsParses", inPlace := ["internal/bytealg.IndexByteString", "internal/bytealg.IndexString"], unfollowed := true, recurses := true, named := ["internal/bytealg.MaxLen"], apart := false }
def IdsParsesSaid : Prop := idsParsesRow.holds Try.pinned (OpenSpec.ofChange idsParsesSpec)

/-- ITS FALSE NEIGHBOUR: 'it returns false'. Refute it at one input. -/
def idsParsesWrong : ChangeSpec := { name := "idsParses", fn := fun _ => fun
  | [d] => { results := [.lit (.bool false)], args := [d] }
  | _ => none }
def IdsParsesWrongFalsely : Prop := idsParsesRow.holds Try.pinned (OpenSpec.ofChange idsParsesWrong)

/-- 'fedchatlaw02.IdsMakes': WHATEVER THE INPUT: true; the input reads as it did. -/
def idsMakesSpec : ChangeSpec := { name := "idsMakes", fn := fun _ => fun
  | [d1, d2, d3] => { results := [.lit (.bool true)], args := [d1, d2, d3] }
  | _ => none }
def idsMakesRow : OpenClaim := { program := "ytlfdafelceipfaa", sum := "5c6849acc06c094a2892a5ad9bb904219c2b38424fe9a5f1d375d33ce33e4fa7", func := "fedchat/fedchatlaw02.IdsMakes", spec := "idsMakes", inPlace := ["internal/bytealg.IndexByteString", "internal/bytealg.IndexString"], unfollowed := true, recurses := true, named := ["internal/bytealg.MaxLen"], apart := false }
def IdsMakesSaid : Prop := idsMakesRow.holds Try.pinned (OpenSpec.ofChange idsMakesSpec)

/-- ITS FALSE NEIGHBOUR: 'it returns false'. Refute it at one input. -/
def idsMakesWrong : ChangeSpec := { name := "idsMakes", fn := fun _ => fun
  | [d1, d2, d3] => { results := [.lit (.bool false)], args := [d1, d2, d3] }
  | _ => none }
def IdsMakesWrongFalsely : Prop := idsMakesRow.holds Try.pinned (OpenSpec.ofChange idsMakesWrong)

/-- 'fedchatlaw02.IdsLists': WHATEVER THE INPUT: true; the input reads as it did. -/
def idsListsSpec : ChangeSpec := { name := "idsLists", fn := fun _ => fun
  | [d1, d2] => { results := [.lit (.bool true)], args := [d1, d2] }
  | _ => none }
def idsListsRow : OpenClaim := { program := "ytlfdafelceipfaa", sum := "5c6849acc06c094a2892a5ad9bb904219c2b38424fe9a5f1d375d33ce33e4fa7", func := "fedchat/fedchatlaw02.IdsLists", spec := "idsLists", inPlace := ["internal/bytealg.IndexByteString", "internal/bytealg.IndexString"], unfollowed := true, recurses := true, named := ["internal/bytealg.MaxLen"], apart := false }
def IdsListsSaid : Prop := idsListsRow.holds Try.pinned (OpenSpec.ofChange idsListsSpec)

/-- ITS FALSE NEIGHBOUR: 'it returns false'. Refute it at one input. -/
def idsListsWrong : ChangeSpec := { name := "idsLists", fn := fun _ => fun
  | [d1, d2] => { results := [.lit (.bool false)], args := [d1, d2] }
  | _ => none }
def IdsListsWrongFalsely : Prop := idsListsRow.holds Try.pinned (OpenSpec.ofChange idsListsWrong)

/-- 'fedchatlaw02.IdsParts': WHATEVER THE INPUT: true; the input reads as it did. -/
def idsPartsSpec : ChangeSpec := { name := "idsParts", fn := fun _ => fun
  | [d1, d2, d3] => { results := [.lit (.bool true)], args := [d1, d2, d3] }
  | _ => none }
def idsPartsRow : OpenClaim := { program := "ytlfdafelceipfaa", sum := "5c6849acc06c094a2892a5ad9bb904219c2b38424fe9a5f1d375d33ce33e4fa7", func := "fedchat/fedchatlaw02.IdsParts", spec := "idsParts", inPlace := ["internal/bytealg.IndexByteString", "internal/bytealg.IndexString"], unfollowed := true, recurses := true, named := ["internal/bytealg.MaxLen"], apart := false }
def IdsPartsSaid : Prop := idsPartsRow.holds Try.pinned (OpenSpec.ofChange idsPartsSpec)

/-- ITS FALSE NEIGHBOUR: 'it returns false'. Refute it at one input. -/
def idsPartsWrong : ChangeSpec := { name := "idsParts", fn := fun _ => fun
  | [d1, d2, d3] => { results := [.lit (.bool false)], args := [d1, d2, d3] }
  | _ => none }
def IdsPartsWrongFalsely : Prop := idsPartsRow.holds Try.pinned (OpenSpec.ofChange idsPartsWrong)

/-- 'fedchatlaw02.IdsSets': WHATEVER THE INPUT: true; the input reads as it did. -/
def idsSetsSpec : ChangeSpec := { name := "idsSets", fn := fun _ => fun
  | [d1, d2] => { results := [.lit (.bool true)], args := [d1, d2] }
  | _ => none }
def idsSetsRow : OpenClaim := { program := "ytlfdafelceipfaa", sum := "5c6849acc06c094a2892a5ad9bb904219c2b38424fe9a5f1d375d33ce33e4fa7", func := "fedchat/fedchatlaw02.IdsSets", spec := "idsSets", inPlace := ["internal/bytealg.IndexByteString", "internal/bytealg.IndexString"], unfollowed := true, recurses := true, named := ["internal/bytealg.MaxLen"], apart := false }
def IdsSetsSaid : Prop := idsSetsRow.holds Try.pinned (OpenSpec.ofChange idsSetsSpec)

/-- ITS FALSE NEIGHBOUR: 'it returns false'. Refute it at one input. -/
def idsSetsWrong : ChangeSpec := { name := "idsSets", fn := fun _ => fun
  | [d1, d2] => { results := [.lit (.bool false)], args := [d1, d2] }
  | _ => none }
def IdsSetsWrongFalsely : Prop := idsSetsRow.holds Try.pinned (OpenSpec.ofChange idsSetsWrong)

/-- 'fedchatlaw12.MembersOf': WHATEVER THE INPUT: true; the input reads as it did. -/
def membersOfSpec : ChangeSpec := { name := "membersOf", fn := fun _ => fun
  | [d1, d2, d3] => { results := [.lit (.bool true)], args := [d1, d2, d3] }
  | _ => none }
def membersOfRow : OpenClaim := { program := "ytlfdafelceipfaa", sum := "5c6849acc06c094a2892a5ad9bb904219c2b38424fe9a5f1d375d33ce33e4fa7", func := "fedchat/fedchatlaw12.MembersOf", spec := "membersOf", inPlace := ["internal/bytealg.IndexByteString", "internal/bytealg.IndexString"], unfollowed := true, recurses := true, named := ["internal/bytealg.MaxLen"], apart := false }
def MembersOfSaid : Prop := membersOfRow.holds Try.pinned (OpenSpec.ofChange membersOfSpec)

/-- ITS FALSE NEIGHBOUR: 'it returns false'. Refute it at one input. -/
def membersOfWrong : ChangeSpec := { name := "membersOf", fn := fun _ => fun
  | [d1, d2, d3] => { results := [.lit (.bool false)], args := [d1, d2, d3] }
  | _ => none }
def MembersOfWrongFalsely : Prop := membersOfRow.holds Try.pinned (OpenSpec.ofChange membersOfWrong)

/-- 'fedchatlaw12.MembersServers': WHATEVER THE INPUT: true; the input reads as it did. -/
def membersServersSpec : ChangeSpec := { name := "membersServers", fn := fun _ => fun
  | [d] => { results := [.lit (.bool true)], args := [d] }
  | _ => none }
def membersServersRow : OpenClaim := { program := "ytlfdafelceipfaa", sum := "5c6849acc06c094a2892a5ad9bb904219c2b38424fe9a5f1d375d33ce33e4fa7", func := "fedchat/fedchatlaw12.MembersServers", spec := "membersServers", inPlace := ["internal/bytealg.IndexByteString", "internal/bytealg.IndexString"], unfollowed := true, recurses := true, named := ["internal/bytealg.MaxLen"], apart := false }
def MembersServersSaid : Prop := membersServersRow.holds Try.pinned (OpenSpec.ofChange membersServersSpec)

/-- ITS FALSE NEIGHBOUR: 'it returns false'. Refute it at one input. -/
def membersServersWrong : ChangeSpec := { name := "membersServers", fn := fun _ => fun
  | [d] => { results := [.lit (.bool false)], args := [d] }
  | _ => none }
def MembersServersWrongFalsely : Prop := membersServersRow.holds Try.pinned (OpenSpec.ofChange membersServersWrong)

/-- 'fedchatlaw12.MembersMoves': WHATEVER THE INPUT: true; the input reads as it did. -/
def membersMovesSpec : ChangeSpec := { name := "membersMoves", fn := fun _ => fun
  | [d1, d2, d3] => { results := [.lit (.bool true)], args := [d1, d2, d3] }
  | _ => none }
def membersMovesRow : OpenClaim := { program := "ytlfdafelceipfaa", sum := "5c6849acc06c094a2892a5ad9bb904219c2b38424fe9a5f1d375d33ce33e4fa7", func := "fedchat/fedchatlaw12.MembersMoves", spec := "membersMoves", inPlace := ["internal/bytealg.IndexByteString", "internal/bytealg.IndexString"], unfollowed := true, recurses := true, named := ["internal/bytealg.MaxLen"], apart := false }
def MembersMovesSaid : Prop := membersMovesRow.holds Try.pinned (OpenSpec.ofChange membersMovesSpec)

/-- ITS FALSE NEIGHBOUR: 'it returns false'. Refute it at one input. -/
def membersMovesWrong : ChangeSpec := { name := "membersMoves", fn := fun _ => fun
  | [d1, d2, d3] => { results := [.lit (.bool false)], args := [d1, d2, d3] }
  | _ => none }
def MembersMovesWrongFalsely : Prop := membersMovesRow.holds Try.pinned (OpenSpec.ofChange membersMovesWrong)

/-- 'fedchatlaw12.MembersInStates': WHATEVER THE INPUT: true; the input reads as it did. -/
def membersInStatesSpec : ChangeSpec := { name := "membersInStates", fn := fun _ => fun
  | [d1, d2, d3] => { results := [.lit (.bool true)], args := [d1, d2, d3] }
  | _ => none }
def membersInStatesRow : OpenClaim := { program := "ytlfdafelceipfaa", sum := "5c6849acc06c094a2892a5ad9bb904219c2b38424fe9a5f1d375d33ce33e4fa7", func := "fedchat/fedchatlaw12.MembersInStates", spec := "membersInStates", inPlace := ["internal/bytealg.IndexByteString", "internal/bytealg.IndexString"], unfollowed := true, recurses := true, named := ["internal/bytealg.MaxLen"], apart := false }
def MembersInStatesSaid : Prop := membersInStatesRow.holds Try.pinned (OpenSpec.ofChange membersInStatesSpec)

/-- ITS FALSE NEIGHBOUR: 'it returns false'. Refute it at one input. -/
def membersInStatesWrong : ChangeSpec := { name := "membersInStates", fn := fun _ => fun
  | [d1, d2, d3] => { results := [.lit (.bool false)], args := [d1, d2, d3] }
  | _ => none }
def MembersInStatesWrongFalsely : Prop := membersInStatesRow.holds Try.pinned (OpenSpec.ofChange membersInStatesWrong)

/-- 'fedchatlaw12.MembersParts': WHATEVER THE INPUT: true; the input reads as it did. -/
def membersPartsSpec : ChangeSpec := { name := "membersParts", fn := fun _ => fun
  | [d1, d2] => { results := [.lit (.bool true)], args := [d1, d2] }
  | _ => none }
def membersPartsRow : OpenClaim := { program := "ytlfdafelceipfaa", sum := "5c6849acc06c094a2892a5ad9bb904219c2b38424fe9a5f1d375d33ce33e4fa7", func := "fedchat/fedchatlaw12.MembersParts", spec := "membersParts", inPlace := ["internal/bytealg.IndexByteString", "internal/bytealg.IndexString"], unfollowed := true, recurses := true, named := ["internal/bytealg.MaxLen"], apart := false }
def MembersPartsSaid : Prop := membersPartsRow.holds Try.pinned (OpenSpec.ofChange membersPartsSpec)

/-- ITS FALSE NEIGHBOUR: 'it returns false'. Refute it at one input. -/
def membersPartsWrong : ChangeSpec := { name := "membersParts", fn := fun _ => fun
  | [d1, d2] => { results := [.lit (.bool false)], args := [d1, d2] }
  | _ => none }
def MembersPartsWrongFalsely : Prop := membersPartsRow.holds Try.pinned (OpenSpec.ofChange membersPartsWrong)

/-- 'fedchatlaw12.MembersWalks': WHATEVER THE INPUT: true; the input reads as it did. -/
def membersWalksSpec : ChangeSpec := { name := "membersWalks", fn := fun _ => fun
  | [d1, d2] => { results := [.lit (.bool true)], args := [d1, d2] }
  | _ => none }
def membersWalksRow : OpenClaim := { program := "ytlfdafelceipfaa", sum := "5c6849acc06c094a2892a5ad9bb904219c2b38424fe9a5f1d375d33ce33e4fa7", func := "fedchat/fedchatlaw12.MembersWalks", spec := "membersWalks", inPlace := ["internal/bytealg.IndexByteString", "internal/bytealg.IndexString"], unfollowed := true, recurses := true, named := ["internal/bytealg.MaxLen"], apart := false }
def MembersWalksSaid : Prop := membersWalksRow.holds Try.pinned (OpenSpec.ofChange membersWalksSpec)

/-- ITS FALSE NEIGHBOUR: 'it returns false'. Refute it at one input. -/
def membersWalksWrong : ChangeSpec := { name := "membersWalks", fn := fun _ => fun
  | [d1, d2] => { results := [.lit (.bool false)], args := [d1, d2] }
  | _ => none }
def MembersWalksWrongFalsely : Prop := membersWalksRow.holds Try.pinned (OpenSpec.ofChange membersWalksWrong)

/- THE SECOND FORM. 'bulk': how many values and letters a reading holds, each counted each time it is reached (what is shared counts as often as it is met; a slice's spare places count too). A statement '..UptoSaid' is the law's where the arguments, and the package variables that the reading takes, are together of bulk at most 1048576: NARROWER than '..Said'. Prove '..Said' where nothing that the law and all that it calls make is longer than what came in: it says more and counts as full. Else prove '..UptoSaid'. A law counts once. -/
mutual
def uptoBulk {H : Type} : DataW H → Nat
  | .lit (.string bytes) => bytes.length + 1
  | .lit _ => 1
  | .nil => 1
  | .ptr d => uptoBulk d + 1
  | .slice elems spare => uptoBulkAll elems + uptoBulkAll spare + 1
  | .agg parts => uptoBulkAll parts + 1
  | .iface _ d => uptoBulk d + 1
  | .map entries => uptoBulkEntries entries + 1
  | .held _ => 1
def uptoBulkAll {H : Type} : List (DataW H) → Nat
  | [] => 0
  | d :: r => uptoBulk d + uptoBulkAll r
def uptoBulkEntries {H : Type} : List (Lit × DataW H) → Nat
  | [] => 0
  | x :: r => uptoBulkEntry x + uptoBulkEntries r
def uptoBulkEntry {H : Type} : Lit × DataW H → Nat
  | (.string bytes, d) => bytes.length + uptoBulk d + 1
  | (_, d) => uptoBulk d + 1
 end
def uptoSmall : (H : Type) → List (DataW H) → Bool := fun _ ds => decide (uptoBulkAll ds ≤ 1048576)
def OpenSpec.upto (s : _root_.Go.ChangeSpec) : _root_.Go.OpenSpec := { _root_.Go.OpenSpec.ofChange s with cond := some uptoSmall }

/-- 'fedchatlaw02.IdsServers', WHERE WHAT IT READS IS OF BULK AT MOST 1048576: true; the input reads as it did. -/
def idsServersUptoRow : OpenClaim := { program := "ytlfdafelceipfaa", sum := "5c6849acc06c094a2892a5ad9bb904219c2b38424fe9a5f1d375d33ce33e4fa7", func := "fedchat/fedchatlaw02.IdsServers", spec := "idsServers", inPlace := ["internal/bytealg.IndexByteString", "internal/bytealg.IndexString"], unfollowed := true, recurses := true, named := ["internal/bytealg.MaxLen"], apart := false, narrowed := true }
def IdsServersUptoSaid : Prop := idsServersUptoRow.holds Try.pinned (OpenSpec.upto idsServersSpec)

/-- 'fedchatlaw02.IdsParses', WHERE WHAT IT READS IS OF BULK AT MOST 1048576: true; the input reads as it did. -/
def idsParsesUptoRow : OpenClaim := { program := "ytlfdafelceipfaa", sum := "5c6849acc06c094a2892a5ad9bb904219c2b38424fe9a5f1d375d33ce33e4fa7", func := "fedchat/fedchatlaw02.IdsParses", spec := "idsParses", inPlace := ["internal/bytealg.IndexByteString", "internal/bytealg.IndexString"], unfollowed := true, recurses := true, named := ["internal/bytealg.MaxLen"], apart := false, narrowed := true }
def IdsParsesUptoSaid : Prop := idsParsesUptoRow.holds Try.pinned (OpenSpec.upto idsParsesSpec)

/-- 'fedchatlaw02.IdsMakes', WHERE WHAT IT READS IS OF BULK AT MOST 1048576: true; the input reads as it did. -/
def idsMakesUptoRow : OpenClaim := { program := "ytlfdafelceipfaa", sum := "5c6849acc06c094a2892a5ad9bb904219c2b38424fe9a5f1d375d33ce33e4fa7", func := "fedchat/fedchatlaw02.IdsMakes", spec := "idsMakes", inPlace := ["internal/bytealg.IndexByteString", "internal/bytealg.IndexString"], unfollowed := true, recurses := true, named := ["internal/bytealg.MaxLen"], apart := false, narrowed := true }
def IdsMakesUptoSaid : Prop := idsMakesUptoRow.holds Try.pinned (OpenSpec.upto idsMakesSpec)

/-- 'fedchatlaw02.IdsLists', WHERE WHAT IT READS IS OF BULK AT MOST 1048576: true; the input reads as it did. -/
def idsListsUptoRow : OpenClaim := { program := "ytlfdafelceipfaa", sum := "5c6849acc06c094a2892a5ad9bb904219c2b38424fe9a5f1d375d33ce33e4fa7", func := "fedchat/fedchatlaw02.IdsLists", spec := "idsLists", inPlace := ["internal/bytealg.IndexByteString", "internal/bytealg.IndexString"], unfollowed := true, recurses := true, named := ["internal/bytealg.MaxLen"], apart := false, narrowed := true }
def IdsListsUptoSaid : Prop := idsListsUptoRow.holds Try.pinned (OpenSpec.upto idsListsSpec)

/-- 'fedchatlaw02.IdsParts', WHERE WHAT IT READS IS OF BULK AT MOST 1048576: true; the input reads as it did. -/
def idsPartsUptoRow : OpenClaim := { program := "ytlfdafelceipfaa", sum := "5c6849acc06c094a2892a5ad9bb904219c2b38424fe9a5f1d375d33ce33e4fa7", func := "fedchat/fedchatlaw02.IdsParts", spec := "idsParts", inPlace := ["internal/bytealg.IndexByteString", "internal/bytealg.IndexString"], unfollowed := true, recurses := true, named := ["internal/bytealg.MaxLen"], apart := false, narrowed := true }
def IdsPartsUptoSaid : Prop := idsPartsUptoRow.holds Try.pinned (OpenSpec.upto idsPartsSpec)

/-- 'fedchatlaw02.IdsSets', WHERE WHAT IT READS IS OF BULK AT MOST 1048576: true; the input reads as it did. -/
def idsSetsUptoRow : OpenClaim := { program := "ytlfdafelceipfaa", sum := "5c6849acc06c094a2892a5ad9bb904219c2b38424fe9a5f1d375d33ce33e4fa7", func := "fedchat/fedchatlaw02.IdsSets", spec := "idsSets", inPlace := ["internal/bytealg.IndexByteString", "internal/bytealg.IndexString"], unfollowed := true, recurses := true, named := ["internal/bytealg.MaxLen"], apart := false, narrowed := true }
def IdsSetsUptoSaid : Prop := idsSetsUptoRow.holds Try.pinned (OpenSpec.upto idsSetsSpec)

/-- 'fedchatlaw12.MembersOf', WHERE WHAT IT READS IS OF BULK AT MOST 1048576: true; the input reads as it did. -/
def membersOfUptoRow : OpenClaim := { program := "ytlfdafelceipfaa", sum := "5c6849acc06c094a2892a5ad9bb904219c2b38424fe9a5f1d375d33ce33e4fa7", func := "fedchat/fedchatlaw12.MembersOf", spec := "membersOf", inPlace := ["internal/bytealg.IndexByteString", "internal/bytealg.IndexString"], unfollowed := true, recurses := true, named := ["internal/bytealg.MaxLen"], apart := false, narrowed := true }
def MembersOfUptoSaid : Prop := membersOfUptoRow.holds Try.pinned (OpenSpec.upto membersOfSpec)

/-- 'fedchatlaw12.MembersServers', WHERE WHAT IT READS IS OF BULK AT MOST 1048576: true; the input reads as it did. -/
def membersServersUptoRow : OpenClaim := { program := "ytlfdafelceipfaa", sum := "5c6849acc06c094a2892a5ad9bb904219c2b38424fe9a5f1d375d33ce33e4fa7", func := "fedchat/fedchatlaw12.MembersServers", spec := "membersServers", inPlace := ["internal/bytealg.IndexByteString", "internal/bytealg.IndexString"], unfollowed := true, recurses := true, named := ["internal/bytealg.MaxLen"], apart := false, narrowed := true }
def MembersServersUptoSaid : Prop := membersServersUptoRow.holds Try.pinned (OpenSpec.upto membersServersSpec)

/-- 'fedchatlaw12.MembersMoves', WHERE WHAT IT READS IS OF BULK AT MOST 1048576: true; the input reads as it did. -/
def membersMovesUptoRow : OpenClaim := { program := "ytlfdafelceipfaa", sum := "5c6849acc06c094a2892a5ad9bb904219c2b38424fe9a5f1d375d33ce33e4fa7", func := "fedchat/fedchatlaw12.MembersMoves", spec := "membersMoves", inPlace := ["internal/bytealg.IndexByteString", "internal/bytealg.IndexString"], unfollowed := true, recurses := true, named := ["internal/bytealg.MaxLen"], apart := false, narrowed := true }
def MembersMovesUptoSaid : Prop := membersMovesUptoRow.holds Try.pinned (OpenSpec.upto membersMovesSpec)

/-- 'fedchatlaw12.MembersInStates', WHERE WHAT IT READS IS OF BULK AT MOST 1048576: true; the input reads as it did. -/
def membersInStatesUptoRow : OpenClaim := { program := "ytlfdafelceipfaa", sum := "5c6849acc06c094a2892a5ad9bb904219c2b38424fe9a5f1d375d33ce33e4fa7", func := "fedchat/fedchatlaw12.MembersInStates", spec := "membersInStates", inPlace := ["internal/bytealg.IndexByteString", "internal/bytealg.IndexString"], unfollowed := true, recurses := true, named := ["internal/bytealg.MaxLen"], apart := false, narrowed := true }
def MembersInStatesUptoSaid : Prop := membersInStatesUptoRow.holds Try.pinned (OpenSpec.upto membersInStatesSpec)

/-- 'fedchatlaw12.MembersParts', WHERE WHAT IT READS IS OF BULK AT MOST 1048576: true; the input reads as it did. -/
def membersPartsUptoRow : OpenClaim := { program := "ytlfdafelceipfaa", sum := "5c6849acc06c094a2892a5ad9bb904219c2b38424fe9a5f1d375d33ce33e4fa7", func := "fedchat/fedchatlaw12.MembersParts", spec := "membersParts", inPlace := ["internal/bytealg.IndexByteString", "internal/bytealg.IndexString"], unfollowed := true, recurses := true, named := ["internal/bytealg.MaxLen"], apart := false, narrowed := true }
def MembersPartsUptoSaid : Prop := membersPartsUptoRow.holds Try.pinned (OpenSpec.upto membersPartsSpec)

/-- 'fedchatlaw12.MembersWalks', WHERE WHAT IT READS IS OF BULK AT MOST 1048576: true; the input reads as it did. -/
def membersWalksUptoRow : OpenClaim := { program := "ytlfdafelceipfaa", sum := "5c6849acc06c094a2892a5ad9bb904219c2b38424fe9a5f1d375d33ce33e4fa7", func := "fedchat/fedchatlaw12.MembersWalks", spec := "membersWalks", inPlace := ["internal/bytealg.IndexByteString", "internal/bytealg.IndexString"], unfollowed := true, recurses := true, named := ["internal/bytealg.MaxLen"], apart := false, narrowed := true }
def MembersWalksUptoSaid : Prop := membersWalksUptoRow.holds Try.pinned (OpenSpec.upto membersWalksSpec)

end Rows
end Go.Proofs.Ytlfdafelceipfaa
