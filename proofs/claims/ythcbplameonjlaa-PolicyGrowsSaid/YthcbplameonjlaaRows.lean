/-
  No cell of these rows narrows 'for every input' (looked for: loops, veiled, ifaces, maps, wideKeys, modest, calm, conditions, laid).
  DERIVED. THE GIVEN ROWS OF THIS SEAT. 6 by the template 'for every input the law returns true; each argument reads behind the call as it read before'; 0 by the template 'total and deterministic' (their statements: YthcbplameonjlaaTotals.lean).
  GIVEN WITH THE SEED: the statements are not yours to turn. If you find one false, say at which input.
  Laid BY PROGRAM, IN A SANDBOX (cutbox-rows.mjs): the forced cells as the released guide's own fill.sh prints them over the translation 891a2bf8d06e5e6d… (all of the seat's roots in one cut). By AI agents, Wed Nov 11 2026. No macro, syntax, notation, axiom, sorry.
-/
import Derived.Test.YthcbplameonjlaaChecked
import GoSem.Claim
import GoSem.ClaimJoined
import GoSem.ClaimMapViews
import Derived.JoinedTies
import Derived.KernelRfl
namespace Go.Proofs.Ythcbplameonjlaa
/- THE CELL 'sum', in the pinned program and in every row, IS THE sha256 OF THE DUMP (.gsa) THAT YthcbplameonjlaaProg.lean LOADS. Nothing in Lean hashes anything: it is a label: what it is worth is what the hold of that sum in a sandbox is worth. -/
noncomputable def Try.pinned : Pinned := { name := "ythcbplameonjlaa", sum := "891a2bf8d06e5e6d312c81aa39c470b38e3b448e3e8ce082c3b2a2f97a8b5f6b", checked := Try.checked }
namespace Rows
def none {H : Type} : Left H := { results := [], args := [] }

/-- 'fedchatlaw47.PolicyGrows': WHATEVER THE INPUT: true; the input reads as it did. -/
def policyGrowsSpec : ChangeSpec := { name := "policyGrows", fn := fun _ => fun
  | [d1, d2, d3] => { results := [.lit (.bool true)], args := [d1, d2, d3] }
  | _ => none }
def policyGrowsRow : OpenClaim := { program := "ythcbplameonjlaa", sum := "891a2bf8d06e5e6d312c81aa39c470b38e3b448e3e8ce082c3b2a2f97a8b5f6b", func := "fedchat/fedchatlaw47.PolicyGrows", spec := "policyGrows", inPlace := ["internal/bytealg.IndexByteString", "internal/bytealg.IndexString"], unfollowed := true, recurses := true, named := ["internal/bytealg.MaxLen"], apart := false }
def PolicyGrowsSaid : Prop := policyGrowsRow.holds Try.pinned (OpenSpec.ofChange policyGrowsSpec)

/-- ITS FALSE NEIGHBOUR: 'it returns false'. Refute it at one input. -/
def policyGrowsWrong : ChangeSpec := { name := "policyGrows", fn := fun _ => fun
  | [d1, d2, d3] => { results := [.lit (.bool false)], args := [d1, d2, d3] }
  | _ => none }
def PolicyGrowsWrongFalsely : Prop := policyGrowsRow.holds Try.pinned (OpenSpec.ofChange policyGrowsWrong)

/-- 'fedchatlaw47.PolicyServers': WHATEVER THE INPUT: true; the input reads as it did. -/
def policyServersSpec : ChangeSpec := { name := "policyServers", fn := fun _ => fun
  | [d1, d2] => { results := [.lit (.bool true)], args := [d1, d2] }
  | _ => none }
def policyServersRow : OpenClaim := { program := "ythcbplameonjlaa", sum := "891a2bf8d06e5e6d312c81aa39c470b38e3b448e3e8ce082c3b2a2f97a8b5f6b", func := "fedchat/fedchatlaw47.PolicyServers", spec := "policyServers", inPlace := ["internal/bytealg.IndexByteString", "internal/bytealg.IndexString"], unfollowed := true, recurses := true, named := ["internal/bytealg.MaxLen"], apart := false }
def PolicyServersSaid : Prop := policyServersRow.holds Try.pinned (OpenSpec.ofChange policyServersSpec)

/-- ITS FALSE NEIGHBOUR: 'it returns false'. Refute it at one input. -/
def policyServersWrong : ChangeSpec := { name := "policyServers", fn := fun _ => fun
  | [d1, d2] => { results := [.lit (.bool false)], args := [d1, d2] }
  | _ => none }
def PolicyServersWrongFalsely : Prop := policyServersRow.holds Try.pinned (OpenSpec.ofChange policyServersWrong)

/-- 'fedchatlaw47.PolicyRules': WHATEVER THE INPUT: true; the input reads as it did. -/
def policyRulesSpec : ChangeSpec := { name := "policyRules", fn := fun _ => fun
  | [d] => { results := [.lit (.bool true)], args := [d] }
  | _ => none }
def policyRulesRow : OpenClaim := { program := "ythcbplameonjlaa", sum := "891a2bf8d06e5e6d312c81aa39c470b38e3b448e3e8ce082c3b2a2f97a8b5f6b", func := "fedchat/fedchatlaw47.PolicyRules", spec := "policyRules", inPlace := ["internal/bytealg.IndexByteString", "internal/bytealg.IndexString"], unfollowed := true, recurses := true, named := ["internal/bytealg.MaxLen"], apart := false }
def PolicyRulesSaid : Prop := policyRulesRow.holds Try.pinned (OpenSpec.ofChange policyRulesSpec)

/-- ITS FALSE NEIGHBOUR: 'it returns false'. Refute it at one input. -/
def policyRulesWrong : ChangeSpec := { name := "policyRules", fn := fun _ => fun
  | [d] => { results := [.lit (.bool false)], args := [d] }
  | _ => none }
def PolicyRulesWrongFalsely : Prop := policyRulesRow.holds Try.pinned (OpenSpec.ofChange policyRulesWrong)

/-- 'fedchatlaw47.PolicyMatches': WHATEVER THE INPUT: true; the input reads as it did. -/
def policyMatchesSpec : ChangeSpec := { name := "policyMatches", fn := fun _ => fun
  | [d1, d2, d3] => { results := [.lit (.bool true)], args := [d1, d2, d3] }
  | _ => none }
def policyMatchesRow : OpenClaim := { program := "ythcbplameonjlaa", sum := "891a2bf8d06e5e6d312c81aa39c470b38e3b448e3e8ce082c3b2a2f97a8b5f6b", func := "fedchat/fedchatlaw47.PolicyMatches", spec := "policyMatches", inPlace := ["internal/bytealg.IndexByteString", "internal/bytealg.IndexString"], unfollowed := true, recurses := true, named := ["internal/bytealg.MaxLen"], apart := false }
def PolicyMatchesSaid : Prop := policyMatchesRow.holds Try.pinned (OpenSpec.ofChange policyMatchesSpec)

/-- ITS FALSE NEIGHBOUR: 'it returns false'. Refute it at one input. -/
def policyMatchesWrong : ChangeSpec := { name := "policyMatches", fn := fun _ => fun
  | [d1, d2, d3] => { results := [.lit (.bool false)], args := [d1, d2, d3] }
  | _ => none }
def PolicyMatchesWrongFalsely : Prop := policyMatchesRow.holds Try.pinned (OpenSpec.ofChange policyMatchesWrong)

/-- 'fedchatlaw47.PolicyUsers': WHATEVER THE INPUT: true; the input reads as it did. -/
def policyUsersSpec : ChangeSpec := { name := "policyUsers", fn := fun _ => fun
  | [d1, d2] => { results := [.lit (.bool true)], args := [d1, d2] }
  | _ => none }
def policyUsersRow : OpenClaim := { program := "ythcbplameonjlaa", sum := "891a2bf8d06e5e6d312c81aa39c470b38e3b448e3e8ce082c3b2a2f97a8b5f6b", func := "fedchat/fedchatlaw47.PolicyUsers", spec := "policyUsers", inPlace := ["internal/bytealg.IndexByteString", "internal/bytealg.IndexString"], unfollowed := true, recurses := true, named := ["internal/bytealg.MaxLen"], apart := false }
def PolicyUsersSaid : Prop := policyUsersRow.holds Try.pinned (OpenSpec.ofChange policyUsersSpec)

/-- ITS FALSE NEIGHBOUR: 'it returns false'. Refute it at one input. -/
def policyUsersWrong : ChangeSpec := { name := "policyUsers", fn := fun _ => fun
  | [d1, d2] => { results := [.lit (.bool false)], args := [d1, d2] }
  | _ => none }
def PolicyUsersWrongFalsely : Prop := policyUsersRow.holds Try.pinned (OpenSpec.ofChange policyUsersWrong)

/-- 'fedchatlaw47.PolicyMerges': WHATEVER THE INPUT: true; the input reads as it did. -/
def policyMergesSpec : ChangeSpec := { name := "policyMerges", fn := fun _ => fun
  | [d1, d2] => { results := [.lit (.bool true)], args := [d1, d2] }
  | _ => none }
def policyMergesRow : OpenClaim := { program := "ythcbplameonjlaa", sum := "891a2bf8d06e5e6d312c81aa39c470b38e3b448e3e8ce082c3b2a2f97a8b5f6b", func := "fedchat/fedchatlaw47.PolicyMerges", spec := "policyMerges", inPlace := ["internal/bytealg.IndexByteString", "internal/bytealg.IndexString"], unfollowed := true, recurses := true, named := ["internal/bytealg.MaxLen"], apart := false }
def PolicyMergesSaid : Prop := policyMergesRow.holds Try.pinned (OpenSpec.ofChange policyMergesSpec)

/-- ITS FALSE NEIGHBOUR: 'it returns false'. Refute it at one input. -/
def policyMergesWrong : ChangeSpec := { name := "policyMerges", fn := fun _ => fun
  | [d1, d2] => { results := [.lit (.bool false)], args := [d1, d2] }
  | _ => none }
def PolicyMergesWrongFalsely : Prop := policyMergesRow.holds Try.pinned (OpenSpec.ofChange policyMergesWrong)

/- THE SECOND FORM. 'bulk': how many values and letters a reading holds, each counted each time it is reached (what is shared counts as often as it is met; a slice's spare places count too). A statement '..UptoSaid' is the law's where the arguments, and the package variables that the reading takes, are together of bulk at most 1048576: NARROWER than '..Said'. Prove '..Said' where nothing that the law and all that it calls make is longer than what came in: it says more and counts as full. Else prove '..UptoSaid'. A law counts once. -/
mutual
def uptoBulk {H : Type} : DataW H → Nat
  | .lit (.string bytes) => bytes.length + 1
  | .lit _ => 1
  | .nil => 1
  | .ptr d => uptoBulk d + 1
  | .slice elems spare => uptoBulkAll elems + uptoBulkAll spare + 1
  | .agg parts => uptoBulkAll parts + 1
  | .iface _ d => uptoBulk d + 1
  | .map entries => uptoBulkEntries entries + 1
  | .held _ => 1
def uptoBulkAll {H : Type} : List (DataW H) → Nat
  | [] => 0
  | d :: r => uptoBulk d + uptoBulkAll r
def uptoBulkEntries {H : Type} : List (Lit × DataW H) → Nat
  | [] => 0
  | x :: r => uptoBulkEntry x + uptoBulkEntries r
def uptoBulkEntry {H : Type} : Lit × DataW H → Nat
  | (.string bytes, d) => bytes.length + uptoBulk d + 1
  | (_, d) => uptoBulk d + 1
 end
def uptoSmall : (H : Type) → List (DataW H) → Bool := fun _ ds => decide (uptoBulkAll ds ≤ 1048576)
def OpenSpec.upto (s : _root_.Go.ChangeSpec) : _root_.Go.OpenSpec := { _root_.Go.OpenSpec.ofChange s with cond := some uptoSmall }

/-- 'fedchatlaw47.PolicyGrows', WHERE WHAT IT READS IS OF BULK AT MOST 1048576: true; the input reads as it did. -/
def policyGrowsUptoRow : OpenClaim := { program := "ythcbplameonjlaa", sum := "891a2bf8d06e5e6d312c81aa39c470b38e3b448e3e8ce082c3b2a2f97a8b5f6b", func := "fedchat/fedchatlaw47.PolicyGrows", spec := "policyGrows", inPlace := ["internal/bytealg.IndexByteString", "internal/bytealg.IndexString"], unfollowed := true, recurses := true, named := ["internal/bytealg.MaxLen"], apart := false, narrowed := true }
def PolicyGrowsUptoSaid : Prop := policyGrowsUptoRow.holds Try.pinned (OpenSpec.upto policyGrowsSpec)

/-- 'fedchatlaw47.PolicyServers', WHERE WHAT IT READS IS OF BULK AT MOST 1048576: true; the input reads as it did. -/
def policyServersUptoRow : OpenClaim := { program := "ythcbplameonjlaa", sum := "891a2bf8d06e5e6d312c81aa39c470b38e3b448e3e8ce082c3b2a2f97a8b5f6b", func := "fedchat/fedchatlaw47.PolicyServers", spec := "policyServers", inPlace := ["internal/bytealg.IndexByteString", "internal/bytealg.IndexString"], unfollowed := true, recurses := true, named := ["internal/bytealg.MaxLen"], apart := false, narrowed := true }
def PolicyServersUptoSaid : Prop := policyServersUptoRow.holds Try.pinned (OpenSpec.upto policyServersSpec)

/-- 'fedchatlaw47.PolicyRules', WHERE WHAT IT READS IS OF BULK AT MOST 1048576: true; the input reads as it did. -/
def policyRulesUptoRow : OpenClaim := { program := "ythcbplameonjlaa", sum := "891a2bf8d06e5e6d312c81aa39c470b38e3b448e3e8ce082c3b2a2f97a8b5f6b", func := "fedchat/fedchatlaw47.PolicyRules", spec := "policyRules", inPlace := ["internal/bytealg.IndexByteString", "internal/bytealg.IndexString"], unfollowed := true, recurses := true, named := ["internal/bytealg.MaxLen"], apart := false, narrowed := true }
def PolicyRulesUptoSaid : Prop := policyRulesUptoRow.holds Try.pinned (OpenSpec.upto policyRulesSpec)

/-- 'fedchatlaw47.PolicyMatches', WHERE WHAT IT READS IS OF BULK AT MOST 1048576: true; the input reads as it did. -/
def policyMatchesUptoRow : OpenClaim := { program := "ythcbplameonjlaa", sum := "891a2bf8d06e5e6d312c81aa39c470b38e3b448e3e8ce082c3b2a2f97a8b5f6b", func := "fedchat/fedchatlaw47.PolicyMatches", spec := "policyMatches", inPlace := ["internal/bytealg.IndexByteString", "internal/bytealg.IndexString"], unfollowed := true, recurses := true, named := ["internal/bytealg.MaxLen"], apart := false, narrowed := true }
def PolicyMatchesUptoSaid : Prop := policyMatchesUptoRow.holds Try.pinned (OpenSpec.upto policyMatchesSpec)

/-- 'fedchatlaw47.PolicyUsers', WHERE WHAT IT READS IS OF BULK AT MOST 1048576: true; the input reads as it did. -/
def policyUsersUptoRow : OpenClaim := { program := "ythcbplameonjlaa", sum := "891a2bf8d06e5e6d312c81aa39c470b38e3b448e3e8ce082c3b2a2f97a8b5f6b", func := "fedchat/fedchatlaw47.PolicyUsers", spec := "policyUsers", inPlace := ["internal/bytealg.IndexByteString", "internal/bytealg.IndexString"], unfollowed := true, recurses := true, named := ["internal/bytealg.MaxLen"], apart := false, narrowed := true }
def PolicyUsersUptoSaid : Prop := policyUsersUptoRow.holds Try.pinned (OpenSpec.upto policyUsersSpec)

/-- 'fedchatlaw47.PolicyMerges', WHERE WHAT IT READS IS OF BULK AT MOST 1048576: true; the input reads as it did. -/
def policyMergesUptoRow : OpenClaim := { program := "ythcbplameonjlaa", sum := "891a2bf8d06e5e6d312c81aa39c470b38e3b448e3e8ce082c3b2a2f97a8b5f6b", func := "fedchat/fedchatlaw47.PolicyMerges", spec := "policyMerges", inPlace := ["internal/bytealg.IndexByteString", "internal/bytealg.IndexString"], unfollowed := true, recurses := true, named := ["internal/bytealg.MaxLen"], apart := false, narrowed := true }
def PolicyMergesUptoSaid : Prop := policyMergesUptoRow.holds Try.pinned (OpenSpec.upto policyMergesSpec)

end Rows
end Go.Proofs.Ythcbplameonjlaa
