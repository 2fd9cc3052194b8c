/-
  No cell of these rows narrows 'for every input' (looked for: loops, veiled, ifaces, maps, wideKeys, modest, calm, conditions, laid).
  DERIVED. THE GIVEN ROWS OF THIS SEAT. 7 by the template 'for every input the law returns true; each argument reads behind the call as it read before'; 0 by the template 'total and deterministic' (their statements: YtnbgcjangoiodaaTotals.lean).
  GIVEN WITH THE SEED: the statements are not yours to turn. If you find one false, say at which input.
  Laid BY PROGRAM, IN A SANDBOX (cutbox-rows.mjs): the forced cells as the released guide's own fill.sh prints them over the translation 3b2e3b524b8e80b0… (all of the seat's roots in one cut). By AI agents, Wed Nov 11 2026. No macro, syntax, notation, axiom, sorry.
-/
import Derived.Test.YtnbgcjangoiodaaChecked
import GoSem.Claim
import GoSem.ClaimJoined
import GoSem.ClaimMapViews
import Derived.JoinedTies
import Derived.KernelRfl
namespace Go.Proofs.Ytnbgcjangoiodaa
/- THE CELL 'sum', in the pinned program and in every row, IS THE sha256 OF THE DUMP (.gsa) THAT YtnbgcjangoiodaaProg.lean LOADS. Nothing in Lean hashes anything: it is a label: what it is worth is what the hold of that sum in a sandbox is worth. -/
noncomputable def Try.pinned : Pinned := { name := "ytnbgcjangoiodaa", sum := "3b2e3b524b8e80b047bc18995ef69f739c9bd5e1a20cf1ab05d4f2b5e5708df3", checked := Try.checked }
namespace Rows
def none {H : Type} : Left H := { results := [], args := [] }

/-- 'fedchatlaw45.SessionsNews': WHATEVER THE INPUT: true; the input reads as it did. -/
def sessionsNewsSpec : ChangeSpec := { name := "sessionsNews", fn := fun _ => fun
  | [d1, d2, d3] => { results := [.lit (.bool true)], args := [d1, d2, d3] }
  | _ => none }
def sessionsNewsRow : OpenClaim := { program := "ytnbgcjangoiodaa", sum := "3b2e3b524b8e80b047bc18995ef69f739c9bd5e1a20cf1ab05d4f2b5e5708df3", func := "fedchat/fedchatlaw45.SessionsNews", spec := "sessionsNews", inPlace := ["internal/bytealg.IndexByteString", "internal/bytealg.IndexString"], unfollowed := true, recurses := true, named := ["internal/bytealg.MaxLen"], apart := false }
def SessionsNewsSaid : Prop := sessionsNewsRow.holds Try.pinned (OpenSpec.ofChange sessionsNewsSpec)

/-- ITS FALSE NEIGHBOUR: 'it returns false'. Refute it at one input. -/
def sessionsNewsWrong : ChangeSpec := { name := "sessionsNews", fn := fun _ => fun
  | [d1, d2, d3] => { results := [.lit (.bool false)], args := [d1, d2, d3] }
  | _ => none }
def SessionsNewsWrongFalsely : Prop := sessionsNewsRow.holds Try.pinned (OpenSpec.ofChange sessionsNewsWrong)

/-- 'fedchatlaw45.SessionsUses': WHATEVER THE INPUT: true; the input reads as it did. -/
def sessionsUsesSpec : ChangeSpec := { name := "sessionsUses", fn := fun _ => fun
  | [d1, d2, d3] => { results := [.lit (.bool true)], args := [d1, d2, d3] }
  | _ => none }
def sessionsUsesRow : OpenClaim := { program := "ytnbgcjangoiodaa", sum := "3b2e3b524b8e80b047bc18995ef69f739c9bd5e1a20cf1ab05d4f2b5e5708df3", func := "fedchat/fedchatlaw45.SessionsUses", spec := "sessionsUses", inPlace := ["internal/bytealg.IndexByteString", "internal/bytealg.IndexString"], unfollowed := true, recurses := true, named := ["internal/bytealg.MaxLen"], apart := false }
def SessionsUsesSaid : Prop := sessionsUsesRow.holds Try.pinned (OpenSpec.ofChange sessionsUsesSpec)

/-- ITS FALSE NEIGHBOUR: 'it returns false'. Refute it at one input. -/
def sessionsUsesWrong : ChangeSpec := { name := "sessionsUses", fn := fun _ => fun
  | [d1, d2, d3] => { results := [.lit (.bool false)], args := [d1, d2, d3] }
  | _ => none }
def SessionsUsesWrongFalsely : Prop := sessionsUsesRow.holds Try.pinned (OpenSpec.ofChange sessionsUsesWrong)

/-- 'fedchatlaw45.SessionsWants': WHATEVER THE INPUT: true; the input reads as it did. -/
def sessionsWantsSpec : ChangeSpec := { name := "sessionsWants", fn := fun _ => fun
  | [d1, d2, d3] => { results := [.lit (.bool true)], args := [d1, d2, d3] }
  | _ => none }
def sessionsWantsRow : OpenClaim := { program := "ytnbgcjangoiodaa", sum := "3b2e3b524b8e80b047bc18995ef69f739c9bd5e1a20cf1ab05d4f2b5e5708df3", func := "fedchat/fedchatlaw45.SessionsWants", spec := "sessionsWants", inPlace := ["internal/bytealg.IndexByteString", "internal/bytealg.IndexString"], unfollowed := true, recurses := true, named := ["internal/bytealg.MaxLen"], apart := false }
def SessionsWantsSaid : Prop := sessionsWantsRow.holds Try.pinned (OpenSpec.ofChange sessionsWantsSpec)

/-- ITS FALSE NEIGHBOUR: 'it returns false'. Refute it at one input. -/
def sessionsWantsWrong : ChangeSpec := { name := "sessionsWants", fn := fun _ => fun
  | [d1, d2, d3] => { results := [.lit (.bool false)], args := [d1, d2, d3] }
  | _ => none }
def SessionsWantsWrongFalsely : Prop := sessionsWantsRow.holds Try.pinned (OpenSpec.ofChange sessionsWantsWrong)

/-- 'fedchatlaw45.SessionsRenews': WHATEVER THE INPUT: true; the input reads as it did. -/
def sessionsRenewsSpec : ChangeSpec := { name := "sessionsRenews", fn := fun _ => fun
  | [d1, d2, d3] => { results := [.lit (.bool true)], args := [d1, d2, d3] }
  | _ => none }
def sessionsRenewsRow : OpenClaim := { program := "ytnbgcjangoiodaa", sum := "3b2e3b524b8e80b047bc18995ef69f739c9bd5e1a20cf1ab05d4f2b5e5708df3", func := "fedchat/fedchatlaw45.SessionsRenews", spec := "sessionsRenews", inPlace := ["internal/bytealg.IndexByteString", "internal/bytealg.IndexString"], unfollowed := true, recurses := true, named := ["internal/bytealg.MaxLen"], apart := false }
def SessionsRenewsSaid : Prop := sessionsRenewsRow.holds Try.pinned (OpenSpec.ofChange sessionsRenewsSpec)

/-- ITS FALSE NEIGHBOUR: 'it returns false'. Refute it at one input. -/
def sessionsRenewsWrong : ChangeSpec := { name := "sessionsRenews", fn := fun _ => fun
  | [d1, d2, d3] => { results := [.lit (.bool false)], args := [d1, d2, d3] }
  | _ => none }
def SessionsRenewsWrongFalsely : Prop := sessionsRenewsRow.holds Try.pinned (OpenSpec.ofChange sessionsRenewsWrong)

/-- 'fedchatlaw45.SessionsStory': WHATEVER THE INPUT: true; the input reads as it did. -/
def sessionsStorySpec : ChangeSpec := { name := "sessionsStory", fn := fun _ => fun
  | [d1, d2] => { results := [.lit (.bool true)], args := [d1, d2] }
  | _ => none }
def sessionsStoryRow : OpenClaim := { program := "ytnbgcjangoiodaa", sum := "3b2e3b524b8e80b047bc18995ef69f739c9bd5e1a20cf1ab05d4f2b5e5708df3", func := "fedchat/fedchatlaw45.SessionsStory", spec := "sessionsStory", inPlace := ["internal/bytealg.IndexByteString", "internal/bytealg.IndexString"], unfollowed := true, recurses := true, named := ["internal/bytealg.MaxLen"], apart := false }
def SessionsStorySaid : Prop := sessionsStoryRow.holds Try.pinned (OpenSpec.ofChange sessionsStorySpec)

/-- ITS FALSE NEIGHBOUR: 'it returns false'. Refute it at one input. -/
def sessionsStoryWrong : ChangeSpec := { name := "sessionsStory", fn := fun _ => fun
  | [d1, d2] => { results := [.lit (.bool false)], args := [d1, d2] }
  | _ => none }
def SessionsStoryWrongFalsely : Prop := sessionsStoryRow.holds Try.pinned (OpenSpec.ofChange sessionsStoryWrong)

/-- 'fedchatlaw45.SessionsMembers': WHATEVER THE INPUT: true; the input reads as it did. -/
def sessionsMembersSpec : ChangeSpec := { name := "sessionsMembers", fn := fun _ => fun
  | [d1, d2, d3] => { results := [.lit (.bool true)], args := [d1, d2, d3] }
  | _ => none }
def sessionsMembersRow : OpenClaim := { program := "ytnbgcjangoiodaa", sum := "3b2e3b524b8e80b047bc18995ef69f739c9bd5e1a20cf1ab05d4f2b5e5708df3", func := "fedchat/fedchatlaw45.SessionsMembers", spec := "sessionsMembers", inPlace := ["internal/bytealg.IndexByteString", "internal/bytealg.IndexString"], unfollowed := true, recurses := true, named := ["internal/bytealg.MaxLen"], apart := false }
def SessionsMembersSaid : Prop := sessionsMembersRow.holds Try.pinned (OpenSpec.ofChange sessionsMembersSpec)

/-- ITS FALSE NEIGHBOUR: 'it returns false'. Refute it at one input. -/
def sessionsMembersWrong : ChangeSpec := { name := "sessionsMembers", fn := fun _ => fun
  | [d1, d2, d3] => { results := [.lit (.bool false)], args := [d1, d2, d3] }
  | _ => none }
def SessionsMembersWrongFalsely : Prop := sessionsMembersRow.holds Try.pinned (OpenSpec.ofChange sessionsMembersWrong)

/-- 'fedchatlaw45.SessionsLeaves': WHATEVER THE INPUT: true; the input reads as it did. -/
def sessionsLeavesSpec : ChangeSpec := { name := "sessionsLeaves", fn := fun _ => fun
  | [d1, d2, d3, d4] => { results := [.lit (.bool true)], args := [d1, d2, d3, d4] }
  | _ => none }
def sessionsLeavesRow : OpenClaim := { program := "ytnbgcjangoiodaa", sum := "3b2e3b524b8e80b047bc18995ef69f739c9bd5e1a20cf1ab05d4f2b5e5708df3", func := "fedchat/fedchatlaw45.SessionsLeaves", spec := "sessionsLeaves", inPlace := ["internal/bytealg.IndexByteString", "internal/bytealg.IndexString"], unfollowed := true, recurses := true, named := ["internal/bytealg.MaxLen"], apart := false }
def SessionsLeavesSaid : Prop := sessionsLeavesRow.holds Try.pinned (OpenSpec.ofChange sessionsLeavesSpec)

/-- ITS FALSE NEIGHBOUR: 'it returns false'. Refute it at one input. -/
def sessionsLeavesWrong : ChangeSpec := { name := "sessionsLeaves", fn := fun _ => fun
  | [d1, d2, d3, d4] => { results := [.lit (.bool false)], args := [d1, d2, d3, d4] }
  | _ => none }
def SessionsLeavesWrongFalsely : Prop := sessionsLeavesRow.holds Try.pinned (OpenSpec.ofChange sessionsLeavesWrong)

/- THE SECOND FORM. 'bulk': how many values and letters a reading holds, each counted each time it is reached (what is shared counts as often as it is met; a slice's spare places count too). A statement '..UptoSaid' is the law's where the arguments, and the package variables that the reading takes, are together of bulk at most 1048576: NARROWER than '..Said'. Prove '..Said' where nothing that the law and all that it calls make is longer than what came in: it says more and counts as full. Else prove '..UptoSaid'. A law counts once. -/
mutual
def uptoBulk {H : Type} : DataW H → Nat
  | .lit (.string bytes) => bytes.length + 1
  | .lit _ => 1
  | .nil => 1
  | .ptr d => uptoBulk d + 1
  | .slice elems spare => uptoBulkAll elems + uptoBulkAll spare + 1
  | .agg parts => uptoBulkAll parts + 1
  | .iface _ d => uptoBulk d + 1
  | .map entries => uptoBulkEntries entries + 1
  | .held _ => 1
def uptoBulkAll {H : Type} : List (DataW H) → Nat
  | [] => 0
  | d :: r => uptoBulk d + uptoBulkAll r
def uptoBulkEntries {H : Type} : List (Lit × DataW H) → Nat
  | [] => 0
  | x :: r => uptoBulkEntry x + uptoBulkEntries r
def uptoBulkEntry {H : Type} : Lit × DataW H → Nat
  | (.string bytes, d) => bytes.length + uptoBulk d + 1
  | (_, d) => uptoBulk d + 1
 end
def uptoSmall : (H : Type) → List (DataW H) → Bool := fun _ ds => decide (uptoBulkAll ds ≤ 1048576)
def OpenSpec.upto (s : _root_.Go.ChangeSpec) : _root_.Go.OpenSpec := { _root_.Go.OpenSpec.ofChange s with cond := some uptoSmall }

/-- 'fedchatlaw45.SessionsNews', WHERE WHAT IT READS IS OF BULK AT MOST 1048576: true; the input reads as it did. -/
def sessionsNewsUptoRow : OpenClaim := { program := "ytnbgcjangoiodaa", sum := "3b2e3b524b8e80b047bc18995ef69f739c9bd5e1a20cf1ab05d4f2b5e5708df3", func := "fedchat/fedchatlaw45.SessionsNews", spec := "sessionsNews", inPlace := ["internal/bytealg.IndexByteString", "internal/bytealg.IndexString"], unfollowed := true, recurses := true, named := ["internal/bytealg.MaxLen"], apart := false, narrowed := true }
def SessionsNewsUptoSaid : Prop := sessionsNewsUptoRow.holds Try.pinned (OpenSpec.upto sessionsNewsSpec)

/-- 'fedchatlaw45.SessionsUses', WHERE WHAT IT READS IS OF BULK AT MOST 1048576: true; the input reads as it did. -/
def sessionsUsesUptoRow : OpenClaim := { program := "ytnbgcjangoiodaa", sum := "3b2e3b524b8e80b047bc18995ef69f739c9bd5e1a20cf1ab05d4f2b5e5708df3", func := "fedchat/fedchatlaw45.SessionsUses", spec := "sessionsUses", inPlace := ["internal/bytealg.IndexByteString", "internal/bytealg.IndexString"], unfollowed := true, recurses := true, named := ["internal/bytealg.MaxLen"], apart := false, narrowed := true }
def SessionsUsesUptoSaid : Prop := sessionsUsesUptoRow.holds Try.pinned (OpenSpec.upto sessionsUsesSpec)

/-- 'fedchatlaw45.SessionsWants', WHERE WHAT IT READS IS OF BULK AT MOST 1048576: true; the input reads as it did. -/
def sessionsWantsUptoRow : OpenClaim := { program := "ytnbgcjangoiodaa", sum := "3b2e3b524b8e80b047bc18995ef69f739c9bd5e1a20cf1ab05d4f2b5e5708df3", func := "fedchat/fedchatlaw45.SessionsWants", spec := "sessionsWants", inPlace := ["internal/bytealg.IndexByteString", "internal/bytealg.IndexString"], unfollowed := true, recurses := true, named := ["internal/bytealg.MaxLen"], apart := false, narrowed := true }
def SessionsWantsUptoSaid : Prop := sessionsWantsUptoRow.holds Try.pinned (OpenSpec.upto sessionsWantsSpec)

/-- 'fedchatlaw45.SessionsRenews', WHERE WHAT IT READS IS OF BULK AT MOST 1048576: true; the input reads as it did. -/
def sessionsRenewsUptoRow : OpenClaim := { program := "ytnbgcjangoiodaa", sum := "3b2e3b524b8e80b047bc18995ef69f739c9bd5e1a20cf1ab05d4f2b5e5708df3", func := "fedchat/fedchatlaw45.SessionsRenews", spec := "sessionsRenews", inPlace := ["internal/bytealg.IndexByteString", "internal/bytealg.IndexString"], unfollowed := true, recurses := true, named := ["internal/bytealg.MaxLen"], apart := false, narrowed := true }
def SessionsRenewsUptoSaid : Prop := sessionsRenewsUptoRow.holds Try.pinned (OpenSpec.upto sessionsRenewsSpec)

/-- 'fedchatlaw45.SessionsStory', WHERE WHAT IT READS IS OF BULK AT MOST 1048576: true; the input reads as it did. -/
def sessionsStoryUptoRow : OpenClaim := { program := "ytnbgcjangoiodaa", sum := "3b2e3b524b8e80b047bc18995ef69f739c9bd5e1a20cf1ab05d4f2b5e5708df3", func := "fedchat/fedchatlaw45.SessionsStory", spec := "sessionsStory", inPlace := ["internal/bytealg.IndexByteString", "internal/bytealg.IndexString"], unfollowed := true, recurses := true, named := ["internal/bytealg.MaxLen"], apart := false, narrowed := true }
def SessionsStoryUptoSaid : Prop := sessionsStoryUptoRow.holds Try.pinned (OpenSpec.upto sessionsStorySpec)

/-- 'fedchatlaw45.SessionsMembers', WHERE WHAT IT READS IS OF BULK AT MOST 1048576: true; the input reads as it did. -/
def sessionsMembersUptoRow : OpenClaim := { program := "ytnbgcjangoiodaa", sum := "3b2e3b524b8e80b047bc18995ef69f739c9bd5e1a20cf1ab05d4f2b5e5708df3", func := "fedchat/fedchatlaw45.SessionsMembers", spec := "sessionsMembers", inPlace := ["internal/bytealg.IndexByteString", "internal/bytealg.IndexString"], unfollowed := true, recurses := true, named := ["internal/bytealg.MaxLen"], apart := false, narrowed := true }
def SessionsMembersUptoSaid : Prop := sessionsMembersUptoRow.holds Try.pinned (OpenSpec.upto sessionsMembersSpec)

/-- 'fedchatlaw45.SessionsLeaves', WHERE WHAT IT READS IS OF BULK AT MOST 1048576: true; the input reads as it did. -/
def sessionsLeavesUptoRow : OpenClaim := { program := "ytnbgcjangoiodaa", sum := "3b2e3b524b8e80b047bc18995ef69f739c9bd5e1a20cf1ab05d4f2b5e5708df3", func := "fedchat/fedchatlaw45.SessionsLeaves", spec := "sessionsLeaves", inPlace := ["internal/bytealg.IndexByteString", "internal/bytealg.IndexString"], unfollowed := true, recurses := true, named := ["internal/bytealg.MaxLen"], apart := false, narrowed := true }
def SessionsLeavesUptoSaid : Prop := sessionsLeavesUptoRow.holds Try.pinned (OpenSpec.upto sessionsLeavesSpec)

end Rows
end Go.Proofs.Ytnbgcjangoiodaa
