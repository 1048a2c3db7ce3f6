/-
  No cell of these rows narrows 'for every input' (looked for: loops, veiled, ifaces, maps, wideKeys, modest, calm, conditions, laid).
  DERIVED. THE GIVEN ROWS OF THIS SEAT. 5 by the template 'for every input the law returns true; each argument reads behind the call as it read before'; 0 by the template 'total and deterministic' (their statements: YtgoklgibhmddoaaTotals.lean).
  GIVEN WITH THE SEED: the statements are not yours to turn. If you find one false, say at which input.
  Laid BY PROGRAM, IN A SANDBOX (cutbox-rows.mjs): the forced cells as the released guide's own fill.sh prints them over the translation 317e48d47ceecf0f… (all of the seat's roots in one cut). By AI agents, Wed Nov 11 2026. No macro, syntax, notation, axiom, sorry.
-/
import Derived.Test.YtgoklgibhmddoaaChecked
import GoSem.Claim
import GoSem.ClaimJoined
import GoSem.ClaimMapViews
import Derived.JoinedTies
import Derived.KernelRfl
namespace Go.Proofs.Ytgoklgibhmddoaa
/- THE CELL 'sum', in the pinned program and in every row, IS THE sha256 OF THE DUMP (.gsa) THAT YtgoklgibhmddoaaProg.lean LOADS. Nothing in Lean hashes anything: it is a label: what it is worth is what the hold of that sum in a sandbox is worth. -/
noncomputable def Try.pinned : Pinned := { name := "ytgoklgibhmddoaa", sum := "317e48d47ceecf0fbbce47be90b200171fa36c7f7997836e617fb2a9531db7fc", checked := Try.checked }
namespace Rows
def none {H : Type} : Left H := { results := [], args := [] }

/-- 'spillwaylaw12.NetworkKnown': WHATEVER THE INPUT: true; the input reads as it did. -/
def networkKnownSpec : ChangeSpec := { name := "networkKnown", fn := fun _ => fun
  | [] => { results := [.lit (.bool true)], args := [] }
  | _ => none }
def networkKnownRow : OpenClaim := { program := "ytgoklgibhmddoaa", sum := "317e48d47ceecf0fbbce47be90b200171fa36c7f7997836e617fb2a9531db7fc", func := "spillway/spillwaylaw12.NetworkKnown", spec := "networkKnown", unfollowed := true, recurses := true, apart := false }
def NetworkKnownSaid : Prop := networkKnownRow.holds Try.pinned (OpenSpec.ofChange networkKnownSpec)

/-- ITS FALSE NEIGHBOUR: 'it returns false'. Refute it at one input. -/
def networkKnownWrong : ChangeSpec := { name := "networkKnown", fn := fun _ => fun
  | [] => { results := [.lit (.bool false)], args := [] }
  | _ => none }
def NetworkKnownWrongFalsely : Prop := networkKnownRow.holds Try.pinned (OpenSpec.ofChange networkKnownWrong)

/-- 'spillwaylaw12.NetworkPlays': WHATEVER THE INPUT: true; the input reads as it did. -/
def networkPlaysSpec : ChangeSpec := { name := "networkPlays", fn := fun _ => fun
  | [d1, d2] => { results := [.lit (.bool true)], args := [d1, d2] }
  | _ => none }
def networkPlaysRow : OpenClaim := { program := "ytgoklgibhmddoaa", sum := "317e48d47ceecf0fbbce47be90b200171fa36c7f7997836e617fb2a9531db7fc", func := "spillway/spillwaylaw12.NetworkPlays", spec := "networkPlays", unfollowed := true, recurses := true, apart := false }
def NetworkPlaysSaid : Prop := networkPlaysRow.holds Try.pinned (OpenSpec.ofChange networkPlaysSpec)

/-- ITS FALSE NEIGHBOUR: 'it returns false'. Refute it at one input. -/
def networkPlaysWrong : ChangeSpec := { name := "networkPlays", fn := fun _ => fun
  | [d1, d2] => { results := [.lit (.bool false)], args := [d1, d2] }
  | _ => none }
def NetworkPlaysWrongFalsely : Prop := networkPlaysRow.holds Try.pinned (OpenSpec.ofChange networkPlaysWrong)

/-- 'spillwaylaw12.NetworkBytes': WHATEVER THE INPUT: true; the input reads as it did. -/
def networkBytesSpec : ChangeSpec := { name := "networkBytes", fn := fun _ => fun
  | [d1, d2] => { results := [.lit (.bool true)], args := [d1, d2] }
  | _ => none }
def networkBytesRow : OpenClaim := { program := "ytgoklgibhmddoaa", sum := "317e48d47ceecf0fbbce47be90b200171fa36c7f7997836e617fb2a9531db7fc", func := "spillway/spillwaylaw12.NetworkBytes", spec := "networkBytes", unfollowed := true, recurses := true, apart := false }
def NetworkBytesSaid : Prop := networkBytesRow.holds Try.pinned (OpenSpec.ofChange networkBytesSpec)

/-- ITS FALSE NEIGHBOUR: 'it returns false'. Refute it at one input. -/
def networkBytesWrong : ChangeSpec := { name := "networkBytes", fn := fun _ => fun
  | [d1, d2] => { results := [.lit (.bool false)], args := [d1, d2] }
  | _ => none }
def NetworkBytesWrongFalsely : Prop := networkBytesRow.holds Try.pinned (OpenSpec.ofChange networkBytesWrong)

/-- 'spillwaylaw12.NetworkReads': WHATEVER THE INPUT: true; the input reads as it did. -/
def networkReadsSpec : ChangeSpec := { name := "networkReads", fn := fun _ => fun
  | [d1, d2, d3] => { results := [.lit (.bool true)], args := [d1, d2, d3] }
  | _ => none }
def networkReadsRow : OpenClaim := { program := "ytgoklgibhmddoaa", sum := "317e48d47ceecf0fbbce47be90b200171fa36c7f7997836e617fb2a9531db7fc", func := "spillway/spillwaylaw12.NetworkReads", spec := "networkReads", unfollowed := true, recurses := true, apart := false }
def NetworkReadsSaid : Prop := networkReadsRow.holds Try.pinned (OpenSpec.ofChange networkReadsSpec)

/-- ITS FALSE NEIGHBOUR: 'it returns false'. Refute it at one input. -/
def networkReadsWrong : ChangeSpec := { name := "networkReads", fn := fun _ => fun
  | [d1, d2, d3] => { results := [.lit (.bool false)], args := [d1, d2, d3] }
  | _ => none }
def NetworkReadsWrongFalsely : Prop := networkReadsRow.holds Try.pinned (OpenSpec.ofChange networkReadsWrong)

/-- 'spillwaylaw12.NetworkOver': WHATEVER THE INPUT: true; the input reads as it did. -/
def networkOverSpec : ChangeSpec := { name := "networkOver", fn := fun _ => fun
  | [d1, d2] => { results := [.lit (.bool true)], args := [d1, d2] }
  | _ => none }
def networkOverRow : OpenClaim := { program := "ytgoklgibhmddoaa", sum := "317e48d47ceecf0fbbce47be90b200171fa36c7f7997836e617fb2a9531db7fc", func := "spillway/spillwaylaw12.NetworkOver", spec := "networkOver", unfollowed := true, recurses := true, apart := false }
def NetworkOverSaid : Prop := networkOverRow.holds Try.pinned (OpenSpec.ofChange networkOverSpec)

/-- ITS FALSE NEIGHBOUR: 'it returns false'. Refute it at one input. -/
def networkOverWrong : ChangeSpec := { name := "networkOver", fn := fun _ => fun
  | [d1, d2] => { results := [.lit (.bool false)], args := [d1, d2] }
  | _ => none }
def NetworkOverWrongFalsely : Prop := networkOverRow.holds Try.pinned (OpenSpec.ofChange networkOverWrong)

/- THE SECOND FORM. 'bulk': how many values and letters a reading holds, each counted each time it is reached (what is shared counts as often as it is met; a slice's spare places count too). A statement '..UptoSaid' is the law's where the arguments, and the package variables that the reading takes, are together of bulk at most 1048576: NARROWER than '..Said'. Prove '..Said' where nothing that the law and all that it calls make is longer than what came in: it says more and counts as full. Else prove '..UptoSaid'. A law counts once. -/
mutual
def uptoBulk {H : Type} : DataW H → Nat
  | .lit (.string bytes) => bytes.length + 1
  | .lit _ => 1
  | .nil => 1
  | .ptr d => uptoBulk d + 1
  | .slice elems spare => uptoBulkAll elems + uptoBulkAll spare + 1
  | .agg parts => uptoBulkAll parts + 1
  | .iface _ d => uptoBulk d + 1
  | .map entries => uptoBulkEntries entries + 1
  | .held _ => 1
def uptoBulkAll {H : Type} : List (DataW H) → Nat
  | [] => 0
  | d :: r => uptoBulk d + uptoBulkAll r
def uptoBulkEntries {H : Type} : List (Lit × DataW H) → Nat
  | [] => 0
  | x :: r => uptoBulkEntry x + uptoBulkEntries r
def uptoBulkEntry {H : Type} : Lit × DataW H → Nat
  | (.string bytes, d) => bytes.length + uptoBulk d + 1
  | (_, d) => uptoBulk d + 1
 end
def uptoSmall : (H : Type) → List (DataW H) → Bool := fun _ ds => decide (uptoBulkAll ds ≤ 1048576)
def OpenSpec.upto (s : _root_.Go.ChangeSpec) : _root_.Go.OpenSpec := { _root_.Go.OpenSpec.ofChange s with cond := some uptoSmall }

/-- 'spillwaylaw12.NetworkKnown', WHERE WHAT IT READS IS OF BULK AT MOST 1048576: true; the input reads as it did. -/
def networkKnownUptoRow : OpenClaim := { program := "ytgoklgibhmddoaa", sum := "317e48d47ceecf0fbbce47be90b200171fa36c7f7997836e617fb2a9531db7fc", func := "spillway/spillwaylaw12.NetworkKnown", spec := "networkKnown", unfollowed := true, recurses := true, apart := false, narrowed := true }
def NetworkKnownUptoSaid : Prop := networkKnownUptoRow.holds Try.pinned (OpenSpec.upto networkKnownSpec)

/-- 'spillwaylaw12.NetworkPlays', WHERE WHAT IT READS IS OF BULK AT MOST 1048576: true; the input reads as it did. -/
def networkPlaysUptoRow : OpenClaim := { program := "ytgoklgibhmddoaa", sum := "317e48d47ceecf0fbbce47be90b200171fa36c7f7997836e617fb2a9531db7fc", func := "spillway/spillwaylaw12.NetworkPlays", spec := "networkPlays", unfollowed := true, recurses := true, apart := false, narrowed := true }
def NetworkPlaysUptoSaid : Prop := networkPlaysUptoRow.holds Try.pinned (OpenSpec.upto networkPlaysSpec)

/-- 'spillwaylaw12.NetworkBytes', WHERE WHAT IT READS IS OF BULK AT MOST 1048576: true; the input reads as it did. -/
def networkBytesUptoRow : OpenClaim := { program := "ytgoklgibhmddoaa", sum := "317e48d47ceecf0fbbce47be90b200171fa36c7f7997836e617fb2a9531db7fc", func := "spillway/spillwaylaw12.NetworkBytes", spec := "networkBytes", unfollowed := true, recurses := true, apart := false, narrowed := true }
def NetworkBytesUptoSaid : Prop := networkBytesUptoRow.holds Try.pinned (OpenSpec.upto networkBytesSpec)

/-- 'spillwaylaw12.NetworkReads', WHERE WHAT IT READS IS OF BULK AT MOST 1048576: true; the input reads as it did. -/
def networkReadsUptoRow : OpenClaim := { program := "ytgoklgibhmddoaa", sum := "317e48d47ceecf0fbbce47be90b200171fa36c7f7997836e617fb2a9531db7fc", func := "spillway/spillwaylaw12.NetworkReads", spec := "networkReads", unfollowed := true, recurses := true, apart := false, narrowed := true }
def NetworkReadsUptoSaid : Prop := networkReadsUptoRow.holds Try.pinned (OpenSpec.upto networkReadsSpec)

/-- 'spillwaylaw12.NetworkOver', WHERE WHAT IT READS IS OF BULK AT MOST 1048576: true; the input reads as it did. -/
def networkOverUptoRow : OpenClaim := { program := "ytgoklgibhmddoaa", sum := "317e48d47ceecf0fbbce47be90b200171fa36c7f7997836e617fb2a9531db7fc", func := "spillway/spillwaylaw12.NetworkOver", spec := "networkOver", unfollowed := true, recurses := true, apart := false, narrowed := true }
def NetworkOverUptoSaid : Prop := networkOverUptoRow.holds Try.pinned (OpenSpec.upto networkOverSpec)

end Rows
end Go.Proofs.Ytgoklgibhmddoaa
