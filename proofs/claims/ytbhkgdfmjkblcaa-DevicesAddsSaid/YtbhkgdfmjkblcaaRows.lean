/-
  No cell of these rows narrows 'for every input' (looked for: loops, veiled, ifaces, maps, wideKeys, modest, calm, conditions, laid).
  DERIVED. THE GIVEN ROWS OF THIS SEAT. 12 by the template 'for every input the law returns true; each argument reads behind the call as it read before'; 0 by the template 'total and deterministic' (their statements: YtbhkgdfmjkblcaaTotals.lean).
  GIVEN WITH THE SEED: the statements are not yours to turn. If you find one false, say at which input.
  Laid BY PROGRAM, IN A SANDBOX (cutbox-rows.mjs): the forced cells as the released guide's own fill.sh prints them over the translation 748259f5c3c202d6… (all of the seat's roots in one cut). By AI agents, Wed Nov 11 2026. No macro, syntax, notation, axiom, sorry.
-/
import Derived.Test.YtbhkgdfmjkblcaaChecked
import GoSem.Claim
import GoSem.ClaimJoined
import GoSem.ClaimMapViews
import Derived.JoinedTies
import Derived.KernelRfl
namespace Go.Proofs.Ytbhkgdfmjkblcaa
/- THE CELL 'sum', in the pinned program and in every row, IS THE sha256 OF THE DUMP (.gsa) THAT YtbhkgdfmjkblcaaProg.lean LOADS. Nothing in Lean hashes anything: it is a label: what it is worth is what the hold of that sum in a sandbox is worth. -/
noncomputable def Try.pinned : Pinned := { name := "ytbhkgdfmjkblcaa", sum := "748259f5c3c202d6482bf592a2e70a73ec9326cc81ac1cc7c7f8204b41ae1f51", checked := Try.checked }
namespace Rows
def none {H : Type} : Left H := { results := [], args := [] }

/-- 'fedchatlaw38.TypingChecks': WHATEVER THE INPUT: true; the input reads as it did. -/
def typingChecksSpec : ChangeSpec := { name := "typingChecks", fn := fun _ => fun
  | [d] => { results := [.lit (.bool true)], args := [d] }
  | _ => none }
def typingChecksRow : OpenClaim := { program := "ytbhkgdfmjkblcaa", sum := "748259f5c3c202d6482bf592a2e70a73ec9326cc81ac1cc7c7f8204b41ae1f51", func := "fedchat/fedchatlaw38.TypingChecks", spec := "typingChecks", inPlace := ["internal/bytealg.IndexByteString", "internal/bytealg.IndexString"], unfollowed := true, recurses := true, named := ["internal/bytealg.MaxLen"], apart := false }
def TypingChecksSaid : Prop := typingChecksRow.holds Try.pinned (OpenSpec.ofChange typingChecksSpec)

/-- ITS FALSE NEIGHBOUR: 'it returns false'. Refute it at one input. -/
def typingChecksWrong : ChangeSpec := { name := "typingChecks", fn := fun _ => fun
  | [d] => { results := [.lit (.bool false)], args := [d] }
  | _ => none }
def TypingChecksWrongFalsely : Prop := typingChecksRow.holds Try.pinned (OpenSpec.ofChange typingChecksWrong)

/-- 'fedchatlaw38.TypingStarts': WHATEVER THE INPUT: true; the input reads as it did. -/
def typingStartsSpec : ChangeSpec := { name := "typingStarts", fn := fun _ => fun
  | [d1, d2] => { results := [.lit (.bool true)], args := [d1, d2] }
  | _ => none }
def typingStartsRow : OpenClaim := { program := "ytbhkgdfmjkblcaa", sum := "748259f5c3c202d6482bf592a2e70a73ec9326cc81ac1cc7c7f8204b41ae1f51", func := "fedchat/fedchatlaw38.TypingStarts", spec := "typingStarts", inPlace := ["internal/bytealg.IndexByteString", "internal/bytealg.IndexString"], unfollowed := true, recurses := true, named := ["internal/bytealg.MaxLen"], apart := false }
def TypingStartsSaid : Prop := typingStartsRow.holds Try.pinned (OpenSpec.ofChange typingStartsSpec)

/-- ITS FALSE NEIGHBOUR: 'it returns false'. Refute it at one input. -/
def typingStartsWrong : ChangeSpec := { name := "typingStarts", fn := fun _ => fun
  | [d1, d2] => { results := [.lit (.bool false)], args := [d1, d2] }
  | _ => none }
def TypingStartsWrongFalsely : Prop := typingStartsRow.holds Try.pinned (OpenSpec.ofChange typingStartsWrong)

/-- 'fedchatlaw38.TypingStops': WHATEVER THE INPUT: true; the input reads as it did. -/
def typingStopsSpec : ChangeSpec := { name := "typingStops", fn := fun _ => fun
  | [d1, d2, d3] => { results := [.lit (.bool true)], args := [d1, d2, d3] }
  | _ => none }
def typingStopsRow : OpenClaim := { program := "ytbhkgdfmjkblcaa", sum := "748259f5c3c202d6482bf592a2e70a73ec9326cc81ac1cc7c7f8204b41ae1f51", func := "fedchat/fedchatlaw38.TypingStops", spec := "typingStops", inPlace := ["internal/bytealg.IndexByteString", "internal/bytealg.IndexString"], unfollowed := true, recurses := true, named := ["internal/bytealg.MaxLen"], apart := false }
def TypingStopsSaid : Prop := typingStopsRow.holds Try.pinned (OpenSpec.ofChange typingStopsSpec)

/-- ITS FALSE NEIGHBOUR: 'it returns false'. Refute it at one input. -/
def typingStopsWrong : ChangeSpec := { name := "typingStops", fn := fun _ => fun
  | [d1, d2, d3] => { results := [.lit (.bool false)], args := [d1, d2, d3] }
  | _ => none }
def TypingStopsWrongFalsely : Prop := typingStopsRow.holds Try.pinned (OpenSpec.ofChange typingStopsWrong)

/-- 'fedchatlaw38.TypingStays': WHATEVER THE INPUT: true; the input reads as it did. -/
def typingStaysSpec : ChangeSpec := { name := "typingStays", fn := fun _ => fun
  | [d1, d2] => { results := [.lit (.bool true)], args := [d1, d2] }
  | _ => none }
def typingStaysRow : OpenClaim := { program := "ytbhkgdfmjkblcaa", sum := "748259f5c3c202d6482bf592a2e70a73ec9326cc81ac1cc7c7f8204b41ae1f51", func := "fedchat/fedchatlaw38.TypingStays", spec := "typingStays", inPlace := ["internal/bytealg.IndexByteString", "internal/bytealg.IndexString"], unfollowed := true, recurses := true, named := ["internal/bytealg.MaxLen"], apart := false }
def TypingStaysSaid : Prop := typingStaysRow.holds Try.pinned (OpenSpec.ofChange typingStaysSpec)

/-- ITS FALSE NEIGHBOUR: 'it returns false'. Refute it at one input. -/
def typingStaysWrong : ChangeSpec := { name := "typingStays", fn := fun _ => fun
  | [d1, d2] => { results := [.lit (.bool false)], args := [d1, d2] }
  | _ => none }
def TypingStaysWrongFalsely : Prop := typingStaysRow.holds Try.pinned (OpenSpec.ofChange typingStaysWrong)

/-- 'fedchatlaw38.TypingLasts': WHATEVER THE INPUT: true; the input reads as it did. -/
def typingLastsSpec : ChangeSpec := { name := "typingLasts", fn := fun _ => fun
  | [d1, d2, d3] => { results := [.lit (.bool true)], args := [d1, d2, d3] }
  | _ => none }
def typingLastsRow : OpenClaim := { program := "ytbhkgdfmjkblcaa", sum := "748259f5c3c202d6482bf592a2e70a73ec9326cc81ac1cc7c7f8204b41ae1f51", func := "fedchat/fedchatlaw38.TypingLasts", spec := "typingLasts", inPlace := ["internal/bytealg.IndexByteString", "internal/bytealg.IndexString"], unfollowed := true, recurses := true, named := ["internal/bytealg.MaxLen"], apart := false }
def TypingLastsSaid : Prop := typingLastsRow.holds Try.pinned (OpenSpec.ofChange typingLastsSpec)

/-- ITS FALSE NEIGHBOUR: 'it returns false'. Refute it at one input. -/
def typingLastsWrong : ChangeSpec := { name := "typingLasts", fn := fun _ => fun
  | [d1, d2, d3] => { results := [.lit (.bool false)], args := [d1, d2, d3] }
  | _ => none }
def TypingLastsWrongFalsely : Prop := typingLastsRow.holds Try.pinned (OpenSpec.ofChange typingLastsWrong)

/-- 'fedchatlaw38.TypingCleans': WHATEVER THE INPUT: true; the input reads as it did. -/
def typingCleansSpec : ChangeSpec := { name := "typingCleans", fn := fun _ => fun
  | [d1, d2, d3] => { results := [.lit (.bool true)], args := [d1, d2, d3] }
  | _ => none }
def typingCleansRow : OpenClaim := { program := "ytbhkgdfmjkblcaa", sum := "748259f5c3c202d6482bf592a2e70a73ec9326cc81ac1cc7c7f8204b41ae1f51", func := "fedchat/fedchatlaw38.TypingCleans", spec := "typingCleans", inPlace := ["internal/bytealg.IndexByteString", "internal/bytealg.IndexString"], unfollowed := true, recurses := true, named := ["internal/bytealg.MaxLen"], apart := false }
def TypingCleansSaid : Prop := typingCleansRow.holds Try.pinned (OpenSpec.ofChange typingCleansSpec)

/-- ITS FALSE NEIGHBOUR: 'it returns false'. Refute it at one input. -/
def typingCleansWrong : ChangeSpec := { name := "typingCleans", fn := fun _ => fun
  | [d1, d2, d3] => { results := [.lit (.bool false)], args := [d1, d2, d3] }
  | _ => none }
def TypingCleansWrongFalsely : Prop := typingCleansRow.holds Try.pinned (OpenSpec.ofChange typingCleansWrong)

/-- 'fedchatlaw43.DevicesChecks': WHATEVER THE INPUT: true; the input reads as it did. -/
def devicesChecksSpec : ChangeSpec := { name := "devicesChecks", fn := fun _ => fun
  | [d] => { results := [.lit (.bool true)], args := [d] }
  | _ => none }
def devicesChecksRow : OpenClaim := { program := "ytbhkgdfmjkblcaa", sum := "748259f5c3c202d6482bf592a2e70a73ec9326cc81ac1cc7c7f8204b41ae1f51", func := "fedchat/fedchatlaw43.DevicesChecks", spec := "devicesChecks", inPlace := ["internal/bytealg.IndexByteString", "internal/bytealg.IndexString"], unfollowed := true, recurses := true, named := ["internal/bytealg.MaxLen"], apart := false }
def DevicesChecksSaid : Prop := devicesChecksRow.holds Try.pinned (OpenSpec.ofChange devicesChecksSpec)

/-- ITS FALSE NEIGHBOUR: 'it returns false'. Refute it at one input. -/
def devicesChecksWrong : ChangeSpec := { name := "devicesChecks", fn := fun _ => fun
  | [d] => { results := [.lit (.bool false)], args := [d] }
  | _ => none }
def DevicesChecksWrongFalsely : Prop := devicesChecksRow.holds Try.pinned (OpenSpec.ofChange devicesChecksWrong)

/-- 'fedchatlaw43.DevicesAdds': WHATEVER THE INPUT: true; the input reads as it did. -/
def devicesAddsSpec : ChangeSpec := { name := "devicesAdds", fn := fun _ => fun
  | [d1, d2] => { results := [.lit (.bool true)], args := [d1, d2] }
  | _ => none }
def devicesAddsRow : OpenClaim := { program := "ytbhkgdfmjkblcaa", sum := "748259f5c3c202d6482bf592a2e70a73ec9326cc81ac1cc7c7f8204b41ae1f51", func := "fedchat/fedchatlaw43.DevicesAdds", spec := "devicesAdds", inPlace := ["internal/bytealg.IndexByteString", "internal/bytealg.IndexString"], unfollowed := true, recurses := true, named := ["internal/bytealg.MaxLen"], apart := false }
def DevicesAddsSaid : Prop := devicesAddsRow.holds Try.pinned (OpenSpec.ofChange devicesAddsSpec)

/-- ITS FALSE NEIGHBOUR: 'it returns false'. Refute it at one input. -/
def devicesAddsWrong : ChangeSpec := { name := "devicesAdds", fn := fun _ => fun
  | [d1, d2] => { results := [.lit (.bool false)], args := [d1, d2] }
  | _ => none }
def DevicesAddsWrongFalsely : Prop := devicesAddsRow.holds Try.pinned (OpenSpec.ofChange devicesAddsWrong)

/-- 'fedchatlaw43.DevicesSigns': WHATEVER THE INPUT: true; the input reads as it did. -/
def devicesSignsSpec : ChangeSpec := { name := "devicesSigns", fn := fun _ => fun
  | [d1, d2] => { results := [.lit (.bool true)], args := [d1, d2] }
  | _ => none }
def devicesSignsRow : OpenClaim := { program := "ytbhkgdfmjkblcaa", sum := "748259f5c3c202d6482bf592a2e70a73ec9326cc81ac1cc7c7f8204b41ae1f51", func := "fedchat/fedchatlaw43.DevicesSigns", spec := "devicesSigns", inPlace := ["internal/bytealg.IndexByteString", "internal/bytealg.IndexString"], unfollowed := true, recurses := true, named := ["internal/bytealg.MaxLen"], apart := false }
def DevicesSignsSaid : Prop := devicesSignsRow.holds Try.pinned (OpenSpec.ofChange devicesSignsSpec)

/-- ITS FALSE NEIGHBOUR: 'it returns false'. Refute it at one input. -/
def devicesSignsWrong : ChangeSpec := { name := "devicesSigns", fn := fun _ => fun
  | [d1, d2] => { results := [.lit (.bool false)], args := [d1, d2] }
  | _ => none }
def DevicesSignsWrongFalsely : Prop := devicesSignsRow.holds Try.pinned (OpenSpec.ofChange devicesSignsWrong)

/-- 'fedchatlaw43.DevicesLooks': WHATEVER THE INPUT: true; the input reads as it did. -/
def devicesLooksSpec : ChangeSpec := { name := "devicesLooks", fn := fun _ => fun
  | [d1, d2, d3] => { results := [.lit (.bool true)], args := [d1, d2, d3] }
  | _ => none }
def devicesLooksRow : OpenClaim := { program := "ytbhkgdfmjkblcaa", sum := "748259f5c3c202d6482bf592a2e70a73ec9326cc81ac1cc7c7f8204b41ae1f51", func := "fedchat/fedchatlaw43.DevicesLooks", spec := "devicesLooks", inPlace := ["internal/bytealg.IndexByteString", "internal/bytealg.IndexString"], unfollowed := true, recurses := true, named := ["internal/bytealg.MaxLen"], apart := false }
def DevicesLooksSaid : Prop := devicesLooksRow.holds Try.pinned (OpenSpec.ofChange devicesLooksSpec)

/-- ITS FALSE NEIGHBOUR: 'it returns false'. Refute it at one input. -/
def devicesLooksWrong : ChangeSpec := { name := "devicesLooks", fn := fun _ => fun
  | [d1, d2, d3] => { results := [.lit (.bool false)], args := [d1, d2, d3] }
  | _ => none }
def DevicesLooksWrongFalsely : Prop := devicesLooksRow.holds Try.pinned (OpenSpec.ofChange devicesLooksWrong)

/-- 'fedchatlaw43.DevicesKeeps': WHATEVER THE INPUT: true; the input reads as it did. -/
def devicesKeepsSpec : ChangeSpec := { name := "devicesKeeps", fn := fun _ => fun
  | [d1, d2] => { results := [.lit (.bool true)], args := [d1, d2] }
  | _ => none }
def devicesKeepsRow : OpenClaim := { program := "ytbhkgdfmjkblcaa", sum := "748259f5c3c202d6482bf592a2e70a73ec9326cc81ac1cc7c7f8204b41ae1f51", func := "fedchat/fedchatlaw43.DevicesKeeps", spec := "devicesKeeps", inPlace := ["internal/bytealg.IndexByteString", "internal/bytealg.IndexString"], unfollowed := true, recurses := true, named := ["internal/bytealg.MaxLen"], apart := false }
def DevicesKeepsSaid : Prop := devicesKeepsRow.holds Try.pinned (OpenSpec.ofChange devicesKeepsSpec)

/-- ITS FALSE NEIGHBOUR: 'it returns false'. Refute it at one input. -/
def devicesKeepsWrong : ChangeSpec := { name := "devicesKeeps", fn := fun _ => fun
  | [d1, d2] => { results := [.lit (.bool false)], args := [d1, d2] }
  | _ => none }
def DevicesKeepsWrongFalsely : Prop := devicesKeepsRow.holds Try.pinned (OpenSpec.ofChange devicesKeepsWrong)

/-- 'fedchatlaw43.DevicesTrust': WHATEVER THE INPUT: true; the input reads as it did. -/
def devicesTrustSpec : ChangeSpec := { name := "devicesTrust", fn := fun _ => fun
  | [d1, d2] => { results := [.lit (.bool true)], args := [d1, d2] }
  | _ => none }
def devicesTrustRow : OpenClaim := { program := "ytbhkgdfmjkblcaa", sum := "748259f5c3c202d6482bf592a2e70a73ec9326cc81ac1cc7c7f8204b41ae1f51", func := "fedchat/fedchatlaw43.DevicesTrust", spec := "devicesTrust", inPlace := ["internal/bytealg.IndexByteString", "internal/bytealg.IndexString"], unfollowed := true, recurses := true, named := ["internal/bytealg.MaxLen"], apart := false }
def DevicesTrustSaid : Prop := devicesTrustRow.holds Try.pinned (OpenSpec.ofChange devicesTrustSpec)

/-- ITS FALSE NEIGHBOUR: 'it returns false'. Refute it at one input. -/
def devicesTrustWrong : ChangeSpec := { name := "devicesTrust", fn := fun _ => fun
  | [d1, d2] => { results := [.lit (.bool false)], args := [d1, d2] }
  | _ => none }
def DevicesTrustWrongFalsely : Prop := devicesTrustRow.holds Try.pinned (OpenSpec.ofChange devicesTrustWrong)

/- THE SECOND FORM. 'bulk': how many values and letters a reading holds, each counted each time it is reached (what is shared counts as often as it is met; a slice's spare places count too). A statement '..UptoSaid' is the law's where the arguments, and the package variables that the reading takes, are together of bulk at most 1048576: NARROWER than '..Said'. Prove '..Said' where nothing that the law and all that it calls make is longer than what came in: it says more and counts as full. Else prove '..UptoSaid'. A law counts once. -/
mutual
def uptoBulk {H : Type} : DataW H → Nat
  | .lit (.string bytes) => bytes.length + 1
  | .lit _ => 1
  | .nil => 1
  | .ptr d => uptoBulk d + 1
  | .slice elems spare => uptoBulkAll elems + uptoBulkAll spare + 1
  | .agg parts => uptoBulkAll parts + 1
  | .iface _ d => uptoBulk d + 1
  | .map entries => uptoBulkEntries entries + 1
  | .held _ => 1
def uptoBulkAll {H : Type} : List (DataW H) → Nat
  | [] => 0
  | d :: r => uptoBulk d + uptoBulkAll r
def uptoBulkEntries {H : Type} : List (Lit × DataW H) → Nat
  | [] => 0
  | x :: r => uptoBulkEntry x + uptoBulkEntries r
def uptoBulkEntry {H : Type} : Lit × DataW H → Nat
  | (.string bytes, d) => bytes.length + uptoBulk d + 1
  | (_, d) => uptoBulk d + 1
 end
def uptoSmall : (H : Type) → List (DataW H) → Bool := fun _ ds => decide (uptoBulkAll ds ≤ 1048576)
def OpenSpec.upto (s : _root_.Go.ChangeSpec) : _root_.Go.OpenSpec := { _root_.Go.OpenSpec.ofChange s with cond := some uptoSmall }

/-- 'fedchatlaw38.TypingChecks', WHERE WHAT IT READS IS OF BULK AT MOST 1048576: true; the input reads as it did. -/
def typingChecksUptoRow : OpenClaim := { program := "ytbhkgdfmjkblcaa", sum := "748259f5c3c202d6482bf592a2e70a73ec9326cc81ac1cc7c7f8204b41ae1f51", func := "fedchat/fedchatlaw38.TypingChecks", spec := "typingChecks", inPlace := ["internal/bytealg.IndexByteString", "internal/bytealg.IndexString"], unfollowed := true, recurses := true, named := ["internal/bytealg.MaxLen"], apart := false, narrowed := true }
def TypingChecksUptoSaid : Prop := typingChecksUptoRow.holds Try.pinned (OpenSpec.upto typingChecksSpec)

/-- 'fedchatlaw38.TypingStarts', WHERE WHAT IT READS IS OF BULK AT MOST 1048576: true; the input reads as it did. -/
def typingStartsUptoRow : OpenClaim := { program := "ytbhkgdfmjkblcaa", sum := "748259f5c3c202d6482bf592a2e70a73ec9326cc81ac1cc7c7f8204b41ae1f51", func := "fedchat/fedchatlaw38.TypingStarts", spec := "typingStarts", inPlace := ["internal/bytealg.IndexByteString", "internal/bytealg.IndexString"], unfollowed := true, recurses := true, named := ["internal/bytealg.MaxLen"], apart := false, narrowed := true }
def TypingStartsUptoSaid : Prop := typingStartsUptoRow.holds Try.pinned (OpenSpec.upto typingStartsSpec)

/-- 'fedchatlaw38.TypingStops', WHERE WHAT IT READS IS OF BULK AT MOST 1048576: true; the input reads as it did. -/
def typingStopsUptoRow : OpenClaim := { program := "ytbhkgdfmjkblcaa", sum := "748259f5c3c202d6482bf592a2e70a73ec9326cc81ac1cc7c7f8204b41ae1f51", func := "fedchat/fedchatlaw38.TypingStops", spec := "typingStops", inPlace := ["internal/bytealg.IndexByteString", "internal/bytealg.IndexString"], unfollowed := true, recurses := true, named := ["internal/bytealg.MaxLen"], apart := false, narrowed := true }
def TypingStopsUptoSaid : Prop := typingStopsUptoRow.holds Try.pinned (OpenSpec.upto typingStopsSpec)

/-- 'fedchatlaw38.TypingStays', WHERE WHAT IT READS IS OF BULK AT MOST 1048576: true; the input reads as it did. -/
def typingStaysUptoRow : OpenClaim := { program := "ytbhkgdfmjkblcaa", sum := "748259f5c3c202d6482bf592a2e70a73ec9326cc81ac1cc7c7f8204b41ae1f51", func := "fedchat/fedchatlaw38.TypingStays", spec := "typingStays", inPlace := ["internal/bytealg.IndexByteString", "internal/bytealg.IndexString"], unfollowed := true, recurses := true, named := ["internal/bytealg.MaxLen"], apart := false, narrowed := true }
def TypingStaysUptoSaid : Prop := typingStaysUptoRow.holds Try.pinned (OpenSpec.upto typingStaysSpec)

/-- 'fedchatlaw38.TypingLasts', WHERE WHAT IT READS IS OF BULK AT MOST 1048576: true; the input reads as it did. -/
def typingLastsUptoRow : OpenClaim := { program := "ytbhkgdfmjkblcaa", sum := "748259f5c3c202d6482bf592a2e70a73ec9326cc81ac1cc7c7f8204b41ae1f51", func := "fedchat/fedchatlaw38.TypingLasts", spec := "typingLasts", inPlace := ["internal/bytealg.IndexByteString", "internal/bytealg.IndexString"], unfollowed := true, recurses := true, named := ["internal/bytealg.MaxLen"], apart := false, narrowed := true }
def TypingLastsUptoSaid : Prop := typingLastsUptoRow.holds Try.pinned (OpenSpec.upto typingLastsSpec)

/-- 'fedchatlaw38.TypingCleans', WHERE WHAT IT READS IS OF BULK AT MOST 1048576: true; the input reads as it did. -/
def typingCleansUptoRow : OpenClaim := { program := "ytbhkgdfmjkblcaa", sum := "748259f5c3c202d6482bf592a2e70a73ec9326cc81ac1cc7c7f8204b41ae1f51", func := "fedchat/fedchatlaw38.TypingCleans", spec := "typingCleans", inPlace := ["internal/bytealg.IndexByteString", "internal/bytealg.IndexString"], unfollowed := true, recurses := true, named := ["internal/bytealg.MaxLen"], apart := false, narrowed := true }
def TypingCleansUptoSaid : Prop := typingCleansUptoRow.holds Try.pinned (OpenSpec.upto typingCleansSpec)

/-- 'fedchatlaw43.DevicesChecks', WHERE WHAT IT READS IS OF BULK AT MOST 1048576: true; the input reads as it did. -/
def devicesChecksUptoRow : OpenClaim := { program := "ytbhkgdfmjkblcaa", sum := "748259f5c3c202d6482bf592a2e70a73ec9326cc81ac1cc7c7f8204b41ae1f51", func := "fedchat/fedchatlaw43.DevicesChecks", spec := "devicesChecks", inPlace := ["internal/bytealg.IndexByteString", "internal/bytealg.IndexString"], unfollowed := true, recurses := true, named := ["internal/bytealg.MaxLen"], apart := false, narrowed := true }
def DevicesChecksUptoSaid : Prop := devicesChecksUptoRow.holds Try.pinned (OpenSpec.upto devicesChecksSpec)

/-- 'fedchatlaw43.DevicesAdds', WHERE WHAT IT READS IS OF BULK AT MOST 1048576: true; the input reads as it did. -/
def devicesAddsUptoRow : OpenClaim := { program := "ytbhkgdfmjkblcaa", sum := "748259f5c3c202d6482bf592a2e70a73ec9326cc81ac1cc7c7f8204b41ae1f51", func := "fedchat/fedchatlaw43.DevicesAdds", spec := "devicesAdds", inPlace := ["internal/bytealg.IndexByteString", "internal/bytealg.IndexString"], unfollowed := true, recurses := true, named := ["internal/bytealg.MaxLen"], apart := false, narrowed := true }
def DevicesAddsUptoSaid : Prop := devicesAddsUptoRow.holds Try.pinned (OpenSpec.upto devicesAddsSpec)

/-- 'fedchatlaw43.DevicesSigns', WHERE WHAT IT READS IS OF BULK AT MOST 1048576: true; the input reads as it did. -/
def devicesSignsUptoRow : OpenClaim := { program := "ytbhkgdfmjkblcaa", sum := "748259f5c3c202d6482bf592a2e70a73ec9326cc81ac1cc7c7f8204b41ae1f51", func := "fedchat/fedchatlaw43.DevicesSigns", spec := "devicesSigns", inPlace := ["internal/bytealg.IndexByteString", "internal/bytealg.IndexString"], unfollowed := true, recurses := true, named := ["internal/bytealg.MaxLen"], apart := false, narrowed := true }
def DevicesSignsUptoSaid : Prop := devicesSignsUptoRow.holds Try.pinned (OpenSpec.upto devicesSignsSpec)

/-- 'fedchatlaw43.DevicesLooks', WHERE WHAT IT READS IS OF BULK AT MOST 1048576: true; the input reads as it did. -/
def devicesLooksUptoRow : OpenClaim := { program := "ytbhkgdfmjkblcaa", sum := "748259f5c3c202d6482bf592a2e70a73ec9326cc81ac1cc7c7f8204b41ae1f51", func := "fedchat/fedchatlaw43.DevicesLooks", spec := "devicesLooks", inPlace := ["internal/bytealg.IndexByteString", "internal/bytealg.IndexString"], unfollowed := true, recurses := true, named := ["internal/bytealg.MaxLen"], apart := false, narrowed := true }
def DevicesLooksUptoSaid : Prop := devicesLooksUptoRow.holds Try.pinned (OpenSpec.upto devicesLooksSpec)

/-- 'fedchatlaw43.DevicesKeeps', WHERE WHAT IT READS IS OF BULK AT MOST 1048576: true; the input reads as it did. -/
def devicesKeepsUptoRow : OpenClaim := { program := "ytbhkgdfmjkblcaa", sum := "748259f5c3c202d6482bf592a2e70a73ec9326cc81ac1cc7c7f8204b41ae1f51", func := "fedchat/fedchatlaw43.DevicesKeeps", spec := "devicesKeeps", inPlace := ["internal/bytealg.IndexByteString", "internal/bytealg.IndexString"], unfollowed := true, recurses := true, named := ["internal/bytealg.MaxLen"], apart := false, narrowed := true }
def DevicesKeepsUptoSaid : Prop := devicesKeepsUptoRow.holds Try.pinned (OpenSpec.upto devicesKeepsSpec)

/-- 'fedchatlaw43.DevicesTrust', WHERE WHAT IT READS IS OF BULK AT MOST 1048576: true; the input reads as it did. -/
def devicesTrustUptoRow : OpenClaim := { program := "ytbhkgdfmjkblcaa", sum := "748259f5c3c202d6482bf592a2e70a73ec9326cc81ac1cc7c7f8204b41ae1f51", func := "fedchat/fedchatlaw43.DevicesTrust", spec := "devicesTrust", inPlace := ["internal/bytealg.IndexByteString", "internal/bytealg.IndexString"], unfollowed := true, recurses := true, named := ["internal/bytealg.MaxLen"], apart := false, narrowed := true }
def DevicesTrustUptoSaid : Prop := devicesTrustUptoRow.holds Try.pinned (OpenSpec.upto devicesTrustSpec)

end Rows
end Go.Proofs.Ytbhkgdfmjkblcaa
