/-
  No cell of these rows narrows 'for every input' (looked for: loops, veiled, ifaces, maps, wideKeys, modest, calm, conditions, laid).
  DERIVED. THE GIVEN ROWS OF THIS SEAT. 6 by the template 'for every input the law returns true; each argument reads behind the call as it read before'; 0 by the template 'total and deterministic' (their statements: YtnkoibhjnahkiaaTotals.lean).
  GIVEN WITH THE SEED: the statements are not yours to turn. If you find one false, say at which input.
  Laid BY PROGRAM, IN A SANDBOX (cutbox-rows.mjs): the forced cells as the released guide's own fill.sh prints them over the translation 1baee88ab7ba62a3… (all of the seat's roots in one cut). By AI agents, Wed Nov 11 2026. No macro, syntax, notation, axiom, sorry.
-/
import Derived.Test.YtnkoibhjnahkiaaChecked
import GoSem.Claim
import GoSem.ClaimJoined
import GoSem.ClaimMapViews
import Derived.JoinedTies
import Derived.KernelRfl
namespace Go.Proofs.Ytnkoibhjnahkiaa
/- THE CELL 'sum', in the pinned program and in every row, IS THE sha256 OF THE DUMP (.gsa) THAT YtnkoibhjnahkiaaProg.lean LOADS. Nothing in Lean hashes anything: it is a label: what it is worth is what the hold of that sum in a sandbox is worth. -/
noncomputable def Try.pinned : Pinned := { name := "ytnkoibhjnahkiaa", sum := "1baee88ab7ba62a382a0f81b456adf561cec0dd8fc9b6851ac947325e04f9d31", checked := Try.checked }
namespace Rows
def none {H : Type} : Left H := { results := [], args := [] }

/-- 'spillwaylaw15.LocksNew': WHATEVER THE INPUT: true; the input reads as it did. -/
def locksNewSpec : ChangeSpec := { name := "locksNew", fn := fun _ => fun
  | [d1, d2, d3] => { results := [.lit (.bool true)], args := [d1, d2, d3] }
  | _ => none }
def locksNewRow : OpenClaim := { program := "ytnkoibhjnahkiaa", sum := "1baee88ab7ba62a382a0f81b456adf561cec0dd8fc9b6851ac947325e04f9d31", func := "spillway/spillwaylaw15.LocksNew", spec := "locksNew", unfollowed := true, recurses := true, apart := false }
def LocksNewSaid : Prop := locksNewRow.holds Try.pinned (OpenSpec.ofChange locksNewSpec)

/-- ITS FALSE NEIGHBOUR: 'it returns false'. Refute it at one input. -/
def locksNewWrong : ChangeSpec := { name := "locksNew", fn := fun _ => fun
  | [d1, d2, d3] => { results := [.lit (.bool false)], args := [d1, d2, d3] }
  | _ => none }
def LocksNewWrongFalsely : Prop := locksNewRow.holds Try.pinned (OpenSpec.ofChange locksNewWrong)

/-- 'spillwaylaw15.LocksStuck': WHATEVER THE INPUT: true; the input reads as it did. -/
def locksStuckSpec : ChangeSpec := { name := "locksStuck", fn := fun _ => fun
  | [d1, d2, d3] => { results := [.lit (.bool true)], args := [d1, d2, d3] }
  | _ => none }
def locksStuckRow : OpenClaim := { program := "ytnkoibhjnahkiaa", sum := "1baee88ab7ba62a382a0f81b456adf561cec0dd8fc9b6851ac947325e04f9d31", func := "spillway/spillwaylaw15.LocksStuck", spec := "locksStuck", unfollowed := true, recurses := true, apart := false }
def LocksStuckSaid : Prop := locksStuckRow.holds Try.pinned (OpenSpec.ofChange locksStuckSpec)

/-- ITS FALSE NEIGHBOUR: 'it returns false'. Refute it at one input. -/
def locksStuckWrong : ChangeSpec := { name := "locksStuck", fn := fun _ => fun
  | [d1, d2, d3] => { results := [.lit (.bool false)], args := [d1, d2, d3] }
  | _ => none }
def LocksStuckWrongFalsely : Prop := locksStuckRow.holds Try.pinned (OpenSpec.ofChange locksStuckWrong)

/-- 'spillwaylaw15.LocksPlays': WHATEVER THE INPUT: true; the input reads as it did. -/
def locksPlaysSpec : ChangeSpec := { name := "locksPlays", fn := fun _ => fun
  | [d1, d2] => { results := [.lit (.bool true)], args := [d1, d2] }
  | _ => none }
def locksPlaysRow : OpenClaim := { program := "ytnkoibhjnahkiaa", sum := "1baee88ab7ba62a382a0f81b456adf561cec0dd8fc9b6851ac947325e04f9d31", func := "spillway/spillwaylaw15.LocksPlays", spec := "locksPlays", inPlace := ["slices.overlaps[int]"], unfollowed := true, recurses := true, apart := false }
def LocksPlaysSaid : Prop := locksPlaysRow.holds Try.pinned (OpenSpec.ofChange locksPlaysSpec)

/-- ITS FALSE NEIGHBOUR: 'it returns false'. Refute it at one input. -/
def locksPlaysWrong : ChangeSpec := { name := "locksPlays", fn := fun _ => fun
  | [d1, d2] => { results := [.lit (.bool false)], args := [d1, d2] }
  | _ => none }
def LocksPlaysWrongFalsely : Prop := locksPlaysRow.holds Try.pinned (OpenSpec.ofChange locksPlaysWrong)

/-- 'spillwaylaw15.LocksQueues': WHATEVER THE INPUT: true; the input reads as it did. -/
def locksQueuesSpec : ChangeSpec := { name := "locksQueues", fn := fun _ => fun
  | [d] => { results := [.lit (.bool true)], args := [d] }
  | _ => none }
def locksQueuesRow : OpenClaim := { program := "ytnkoibhjnahkiaa", sum := "1baee88ab7ba62a382a0f81b456adf561cec0dd8fc9b6851ac947325e04f9d31", func := "spillway/spillwaylaw15.LocksQueues", spec := "locksQueues", inPlace := ["slices.overlaps[int]"], unfollowed := true, recurses := true, apart := false }
def LocksQueuesSaid : Prop := locksQueuesRow.holds Try.pinned (OpenSpec.ofChange locksQueuesSpec)

/-- ITS FALSE NEIGHBOUR: 'it returns false'. Refute it at one input. -/
def locksQueuesWrong : ChangeSpec := { name := "locksQueues", fn := fun _ => fun
  | [d] => { results := [.lit (.bool false)], args := [d] }
  | _ => none }
def LocksQueuesWrongFalsely : Prop := locksQueuesRow.holds Try.pinned (OpenSpec.ofChange locksQueuesWrong)

/-- 'spillwaylaw15.LocksBlocked': WHATEVER THE INPUT: true; the input reads as it did. -/
def locksBlockedSpec : ChangeSpec := { name := "locksBlocked", fn := fun _ => fun
  | [d1, d2, d3] => { results := [.lit (.bool true)], args := [d1, d2, d3] }
  | _ => none }
def locksBlockedRow : OpenClaim := { program := "ytnkoibhjnahkiaa", sum := "1baee88ab7ba62a382a0f81b456adf561cec0dd8fc9b6851ac947325e04f9d31", func := "spillway/spillwaylaw15.LocksBlocked", spec := "locksBlocked", inPlace := ["slices.overlaps[int]"], unfollowed := true, recurses := true, apart := false }
def LocksBlockedSaid : Prop := locksBlockedRow.holds Try.pinned (OpenSpec.ofChange locksBlockedSpec)

/-- ITS FALSE NEIGHBOUR: 'it returns false'. Refute it at one input. -/
def locksBlockedWrong : ChangeSpec := { name := "locksBlocked", fn := fun _ => fun
  | [d1, d2, d3] => { results := [.lit (.bool false)], args := [d1, d2, d3] }
  | _ => none }
def LocksBlockedWrongFalsely : Prop := locksBlockedRow.holds Try.pinned (OpenSpec.ofChange locksBlockedWrong)

/-- 'spillwaylaw15.LocksKnown': WHATEVER THE INPUT: true; the input reads as it did. -/
def locksKnownSpec : ChangeSpec := { name := "locksKnown", fn := fun _ => fun
  | [] => { results := [.lit (.bool true)], args := [] }
  | _ => none }
def locksKnownRow : OpenClaim := { program := "ytnkoibhjnahkiaa", sum := "1baee88ab7ba62a382a0f81b456adf561cec0dd8fc9b6851ac947325e04f9d31", func := "spillway/spillwaylaw15.LocksKnown", spec := "locksKnown", inPlace := ["slices.overlaps[int]"], unfollowed := true, recurses := true, apart := false }
def LocksKnownSaid : Prop := locksKnownRow.holds Try.pinned (OpenSpec.ofChange locksKnownSpec)

/-- ITS FALSE NEIGHBOUR: 'it returns false'. Refute it at one input. -/
def locksKnownWrong : ChangeSpec := { name := "locksKnown", fn := fun _ => fun
  | [] => { results := [.lit (.bool false)], args := [] }
  | _ => none }
def LocksKnownWrongFalsely : Prop := locksKnownRow.holds Try.pinned (OpenSpec.ofChange locksKnownWrong)

/- THE SECOND FORM. 'bulk': how many values and letters a reading holds, each counted each time it is reached (what is shared counts as often as it is met; a slice's spare places count too). A statement '..UptoSaid' is the law's where the arguments, and the package variables that the reading takes, are together of bulk at most 1048576: NARROWER than '..Said'. Prove '..Said' where nothing that the law and all that it calls make is longer than what came in: it says more and counts as full. Else prove '..UptoSaid'. A law counts once. -/
mutual
def uptoBulk {H : Type} : DataW H → Nat
  | .lit (.string bytes) => bytes.length + 1
  | .lit _ => 1
  | .nil => 1
  | .ptr d => uptoBulk d + 1
  | .slice elems spare => uptoBulkAll elems + uptoBulkAll spare + 1
  | .agg parts => uptoBulkAll parts + 1
  | .iface _ d => uptoBulk d + 1
  | .map entries => uptoBulkEntries entries + 1
  | .held _ => 1
def uptoBulkAll {H : Type} : List (DataW H) → Nat
  | [] => 0
  | d :: r => uptoBulk d + uptoBulkAll r
def uptoBulkEntries {H : Type} : List (Lit × DataW H) → Nat
  | [] => 0
  | x :: r => uptoBulkEntry x + uptoBulkEntries r
def uptoBulkEntry {H : Type} : Lit × DataW H → Nat
  | (.string bytes, d) => bytes.length + uptoBulk d + 1
  | (_, d) => uptoBulk d + 1
 end
def uptoSmall : (H : Type) → List (DataW H) → Bool := fun _ ds => decide (uptoBulkAll ds ≤ 1048576)
def OpenSpec.upto (s : _root_.Go.ChangeSpec) : _root_.Go.OpenSpec := { _root_.Go.OpenSpec.ofChange s with cond := some uptoSmall }

/-- 'spillwaylaw15.LocksNew', WHERE WHAT IT READS IS OF BULK AT MOST 1048576: true; the input reads as it did. -/
def locksNewUptoRow : OpenClaim := { program := "ytnkoibhjnahkiaa", sum := "1baee88ab7ba62a382a0f81b456adf561cec0dd8fc9b6851ac947325e04f9d31", func := "spillway/spillwaylaw15.LocksNew", spec := "locksNew", unfollowed := true, recurses := true, apart := false, narrowed := true }
def LocksNewUptoSaid : Prop := locksNewUptoRow.holds Try.pinned (OpenSpec.upto locksNewSpec)

/-- 'spillwaylaw15.LocksStuck', WHERE WHAT IT READS IS OF BULK AT MOST 1048576: true; the input reads as it did. -/
def locksStuckUptoRow : OpenClaim := { program := "ytnkoibhjnahkiaa", sum := "1baee88ab7ba62a382a0f81b456adf561cec0dd8fc9b6851ac947325e04f9d31", func := "spillway/spillwaylaw15.LocksStuck", spec := "locksStuck", unfollowed := true, recurses := true, apart := false, narrowed := true }
def LocksStuckUptoSaid : Prop := locksStuckUptoRow.holds Try.pinned (OpenSpec.upto locksStuckSpec)

/-- 'spillwaylaw15.LocksPlays', WHERE WHAT IT READS IS OF BULK AT MOST 1048576: true; the input reads as it did. -/
def locksPlaysUptoRow : OpenClaim := { program := "ytnkoibhjnahkiaa", sum := "1baee88ab7ba62a382a0f81b456adf561cec0dd8fc9b6851ac947325e04f9d31", func := "spillway/spillwaylaw15.LocksPlays", spec := "locksPlays", inPlace := ["slices.overlaps[int]"], unfollowed := true, recurses := true, apart := false, narrowed := true }
def LocksPlaysUptoSaid : Prop := locksPlaysUptoRow.holds Try.pinned (OpenSpec.upto locksPlaysSpec)

/-- 'spillwaylaw15.LocksQueues', WHERE WHAT IT READS IS OF BULK AT MOST 1048576: true; the input reads as it did. -/
def locksQueuesUptoRow : OpenClaim := { program := "ytnkoibhjnahkiaa", sum := "1baee88ab7ba62a382a0f81b456adf561cec0dd8fc9b6851ac947325e04f9d31", func := "spillway/spillwaylaw15.LocksQueues", spec := "locksQueues", inPlace := ["slices.overlaps[int]"], unfollowed := true, recurses := true, apart := false, narrowed := true }
def LocksQueuesUptoSaid : Prop := locksQueuesUptoRow.holds Try.pinned (OpenSpec.upto locksQueuesSpec)

/-- 'spillwaylaw15.LocksBlocked', WHERE WHAT IT READS IS OF BULK AT MOST 1048576: true; the input reads as it did. -/
def locksBlockedUptoRow : OpenClaim := { program := "ytnkoibhjnahkiaa", sum := "1baee88ab7ba62a382a0f81b456adf561cec0dd8fc9b6851ac947325e04f9d31", func := "spillway/spillwaylaw15.LocksBlocked", spec := "locksBlocked", inPlace := ["slices.overlaps[int]"], unfollowed := true, recurses := true, apart := false, narrowed := true }
def LocksBlockedUptoSaid : Prop := locksBlockedUptoRow.holds Try.pinned (OpenSpec.upto locksBlockedSpec)

/-- 'spillwaylaw15.LocksKnown', WHERE WHAT IT READS IS OF BULK AT MOST 1048576: true; the input reads as it did. -/
def locksKnownUptoRow : OpenClaim := { program := "ytnkoibhjnahkiaa", sum := "1baee88ab7ba62a382a0f81b456adf561cec0dd8fc9b6851ac947325e04f9d31", func := "spillway/spillwaylaw15.LocksKnown", spec := "locksKnown", inPlace := ["slices.overlaps[int]"], unfollowed := true, recurses := true, apart := false, narrowed := true }
def LocksKnownUptoSaid : Prop := locksKnownUptoRow.holds Try.pinned (OpenSpec.upto locksKnownSpec)

end Rows
end Go.Proofs.Ytnkoibhjnahkiaa
