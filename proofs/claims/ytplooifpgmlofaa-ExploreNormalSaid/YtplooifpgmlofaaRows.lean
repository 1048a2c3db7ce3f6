/-
  No cell of these rows narrows 'for every input' (looked for: loops, veiled, ifaces, maps, wideKeys, modest, calm, conditions, laid).
  DERIVED. THE GIVEN ROWS OF THIS SEAT. 6 by the template 'for every input the law returns true; each argument reads behind the call as it read before'; 0 by the template 'total and deterministic' (their statements: YtplooifpgmlofaaTotals.lean).
  GIVEN WITH THE SEED: the statements are not yours to turn. If you find one false, say at which input.
  Laid BY PROGRAM, IN A SANDBOX (cutbox-rows.mjs): the forced cells as the released guide's own fill.sh prints them over the translation 80fd9aae82141781… (all of the seat's roots in one cut). By AI agents, Wed Nov 11 2026. No macro, syntax, notation, axiom, sorry.
-/
import Derived.Test.YtplooifpgmlofaaChecked
import GoSem.Claim
import GoSem.ClaimJoined
import GoSem.ClaimMapViews
import Derived.JoinedTies
import Derived.KernelRfl
namespace Go.Proofs.Ytplooifpgmlofaa
/- THE CELL 'sum', in the pinned program and in every row, IS THE sha256 OF THE DUMP (.gsa) THAT YtplooifpgmlofaaProg.lean LOADS. Nothing in Lean hashes anything: it is a label: what it is worth is what the hold of that sum in a sandbox is worth. -/
noncomputable def Try.pinned : Pinned := { name := "ytplooifpgmlofaa", sum := "80fd9aae8214178160489253362d7982733d043a82941bd355821fe8d8d5c64b", checked := Try.checked }
namespace Rows
def none {H : Type} : Left H := { results := [], args := [] }

/-- 'spillwaylaw33.ExploreNormal': WHATEVER THE INPUT: true; the input reads as it did. -/
def exploreNormalSpec : ChangeSpec := { name := "exploreNormal", fn := fun _ => fun
  | [d1, d2, d3] => { results := [.lit (.bool true)], args := [d1, d2, d3] }
  | _ => none }
def exploreNormalRow : OpenClaim := { program := "ytplooifpgmlofaa", sum := "80fd9aae8214178160489253362d7982733d043a82941bd355821fe8d8d5c64b", func := "spillway/spillwaylaw33.ExploreNormal", spec := "exploreNormal", unfollowed := true, recurses := true, apart := false }
def ExploreNormalSaid : Prop := exploreNormalRow.holds Try.pinned (OpenSpec.ofChange exploreNormalSpec)

/-- ITS FALSE NEIGHBOUR: 'it returns false'. Refute it at one input. -/
def exploreNormalWrong : ChangeSpec := { name := "exploreNormal", fn := fun _ => fun
  | [d1, d2, d3] => { results := [.lit (.bool false)], args := [d1, d2, d3] }
  | _ => none }
def ExploreNormalWrongFalsely : Prop := exploreNormalRow.holds Try.pinned (OpenSpec.ofChange exploreNormalWrong)

/-- 'spillwaylaw33.ExploreKnown': WHATEVER THE INPUT: true; the input reads as it did. -/
def exploreKnownSpec : ChangeSpec := { name := "exploreKnown", fn := fun _ => fun
  | [] => { results := [.lit (.bool true)], args := [] }
  | _ => none }
def exploreKnownRow : OpenClaim := { program := "ytplooifpgmlofaa", sum := "80fd9aae8214178160489253362d7982733d043a82941bd355821fe8d8d5c64b", func := "spillway/spillwaylaw33.ExploreKnown", spec := "exploreKnown", unfollowed := true, recurses := true, apart := false }
def ExploreKnownSaid : Prop := exploreKnownRow.holds Try.pinned (OpenSpec.ofChange exploreKnownSpec)

/-- ITS FALSE NEIGHBOUR: 'it returns false'. Refute it at one input. -/
def exploreKnownWrong : ChangeSpec := { name := "exploreKnown", fn := fun _ => fun
  | [] => { results := [.lit (.bool false)], args := [] }
  | _ => none }
def ExploreKnownWrongFalsely : Prop := exploreKnownRow.holds Try.pinned (OpenSpec.ofChange exploreKnownWrong)

/-- 'spillwaylaw33.ExploreAll': WHATEVER THE INPUT: true; the input reads as it did. -/
def exploreAllSpec : ChangeSpec := { name := "exploreAll", fn := fun _ => fun
  | [d1, d2, d3] => { results := [.lit (.bool true)], args := [d1, d2, d3] }
  | _ => none }
def exploreAllRow : OpenClaim := { program := "ytplooifpgmlofaa", sum := "80fd9aae8214178160489253362d7982733d043a82941bd355821fe8d8d5c64b", func := "spillway/spillwaylaw33.ExploreAll", spec := "exploreAll", unfollowed := true, recurses := true, apart := false }
def ExploreAllSaid : Prop := exploreAllRow.holds Try.pinned (OpenSpec.ofChange exploreAllSpec)

/-- ITS FALSE NEIGHBOUR: 'it returns false'. Refute it at one input. -/
def exploreAllWrong : ChangeSpec := { name := "exploreAll", fn := fun _ => fun
  | [d1, d2, d3] => { results := [.lit (.bool false)], args := [d1, d2, d3] }
  | _ => none }
def ExploreAllWrongFalsely : Prop := exploreAllRow.holds Try.pinned (OpenSpec.ofChange exploreAllWrong)

/-- 'spillwaylaw33.ExploreSleep': WHATEVER THE INPUT: true; the input reads as it did. -/
def exploreSleepSpec : ChangeSpec := { name := "exploreSleep", fn := fun _ => fun
  | [d1, d2] => { results := [.lit (.bool true)], args := [d1, d2] }
  | _ => none }
def exploreSleepRow : OpenClaim := { program := "ytplooifpgmlofaa", sum := "80fd9aae8214178160489253362d7982733d043a82941bd355821fe8d8d5c64b", func := "spillway/spillwaylaw33.ExploreSleep", spec := "exploreSleep", unfollowed := true, recurses := true, apart := false }
def ExploreSleepSaid : Prop := exploreSleepRow.holds Try.pinned (OpenSpec.ofChange exploreSleepSpec)

/-- ITS FALSE NEIGHBOUR: 'it returns false'. Refute it at one input. -/
def exploreSleepWrong : ChangeSpec := { name := "exploreSleep", fn := fun _ => fun
  | [d1, d2] => { results := [.lit (.bool false)], args := [d1, d2] }
  | _ => none }
def ExploreSleepWrongFalsely : Prop := exploreSleepRow.holds Try.pinned (OpenSpec.ofChange exploreSleepWrong)

/-- 'spillwaylaw33.ExploreIndependent': WHATEVER THE INPUT: true; the input reads as it did. -/
def exploreIndependentSpec : ChangeSpec := { name := "exploreIndependent", fn := fun _ => fun
  | [d1, d2] => { results := [.lit (.bool true)], args := [d1, d2] }
  | _ => none }
def exploreIndependentRow : OpenClaim := { program := "ytplooifpgmlofaa", sum := "80fd9aae8214178160489253362d7982733d043a82941bd355821fe8d8d5c64b", func := "spillway/spillwaylaw33.ExploreIndependent", spec := "exploreIndependent", unfollowed := true, recurses := true, apart := false }
def ExploreIndependentSaid : Prop := exploreIndependentRow.holds Try.pinned (OpenSpec.ofChange exploreIndependentSpec)

/-- ITS FALSE NEIGHBOUR: 'it returns false'. Refute it at one input. -/
def exploreIndependentWrong : ChangeSpec := { name := "exploreIndependent", fn := fun _ => fun
  | [d1, d2] => { results := [.lit (.bool false)], args := [d1, d2] }
  | _ => none }
def ExploreIndependentWrongFalsely : Prop := exploreIndependentRow.holds Try.pinned (OpenSpec.ofChange exploreIndependentWrong)

/-- 'spillwaylaw33.ExploreGrows': WHATEVER THE INPUT: true; the input reads as it did. -/
def exploreGrowsSpec : ChangeSpec := { name := "exploreGrows", fn := fun _ => fun
  | [d1, d2, d3] => { results := [.lit (.bool true)], args := [d1, d2, d3] }
  | _ => none }
def exploreGrowsRow : OpenClaim := { program := "ytplooifpgmlofaa", sum := "80fd9aae8214178160489253362d7982733d043a82941bd355821fe8d8d5c64b", func := "spillway/spillwaylaw33.ExploreGrows", spec := "exploreGrows", unfollowed := true, recurses := true, apart := false }
def ExploreGrowsSaid : Prop := exploreGrowsRow.holds Try.pinned (OpenSpec.ofChange exploreGrowsSpec)

/-- ITS FALSE NEIGHBOUR: 'it returns false'. Refute it at one input. -/
def exploreGrowsWrong : ChangeSpec := { name := "exploreGrows", fn := fun _ => fun
  | [d1, d2, d3] => { results := [.lit (.bool false)], args := [d1, d2, d3] }
  | _ => none }
def ExploreGrowsWrongFalsely : Prop := exploreGrowsRow.holds Try.pinned (OpenSpec.ofChange exploreGrowsWrong)

/- THE SECOND FORM. 'bulk': how many values and letters a reading holds, each counted each time it is reached (what is shared counts as often as it is met; a slice's spare places count too). A statement '..UptoSaid' is the law's where the arguments, and the package variables that the reading takes, are together of bulk at most 1048576: NARROWER than '..Said'. Prove '..Said' where nothing that the law and all that it calls make is longer than what came in: it says more and counts as full. Else prove '..UptoSaid'. A law counts once. -/
mutual
def uptoBulk {H : Type} : DataW H → Nat
  | .lit (.string bytes) => bytes.length + 1
  | .lit _ => 1
  | .nil => 1
  | .ptr d => uptoBulk d + 1
  | .slice elems spare => uptoBulkAll elems + uptoBulkAll spare + 1
  | .agg parts => uptoBulkAll parts + 1
  | .iface _ d => uptoBulk d + 1
  | .map entries => uptoBulkEntries entries + 1
  | .held _ => 1
def uptoBulkAll {H : Type} : List (DataW H) → Nat
  | [] => 0
  | d :: r => uptoBulk d + uptoBulkAll r
def uptoBulkEntries {H : Type} : List (Lit × DataW H) → Nat
  | [] => 0
  | x :: r => uptoBulkEntry x + uptoBulkEntries r
def uptoBulkEntry {H : Type} : Lit × DataW H → Nat
  | (.string bytes, d) => bytes.length + uptoBulk d + 1
  | (_, d) => uptoBulk d + 1
 end
def uptoSmall : (H : Type) → List (DataW H) → Bool := fun _ ds => decide (uptoBulkAll ds ≤ 1048576)
def OpenSpec.upto (s : _root_.Go.ChangeSpec) : _root_.Go.OpenSpec := { _root_.Go.OpenSpec.ofChange s with cond := some uptoSmall }

/-- 'spillwaylaw33.ExploreNormal', WHERE WHAT IT READS IS OF BULK AT MOST 1048576: true; the input reads as it did. -/
def exploreNormalUptoRow : OpenClaim := { program := "ytplooifpgmlofaa", sum := "80fd9aae8214178160489253362d7982733d043a82941bd355821fe8d8d5c64b", func := "spillway/spillwaylaw33.ExploreNormal", spec := "exploreNormal", unfollowed := true, recurses := true, apart := false, narrowed := true }
def ExploreNormalUptoSaid : Prop := exploreNormalUptoRow.holds Try.pinned (OpenSpec.upto exploreNormalSpec)

/-- 'spillwaylaw33.ExploreKnown', WHERE WHAT IT READS IS OF BULK AT MOST 1048576: true; the input reads as it did. -/
def exploreKnownUptoRow : OpenClaim := { program := "ytplooifpgmlofaa", sum := "80fd9aae8214178160489253362d7982733d043a82941bd355821fe8d8d5c64b", func := "spillway/spillwaylaw33.ExploreKnown", spec := "exploreKnown", unfollowed := true, recurses := true, apart := false, narrowed := true }
def ExploreKnownUptoSaid : Prop := exploreKnownUptoRow.holds Try.pinned (OpenSpec.upto exploreKnownSpec)

/-- 'spillwaylaw33.ExploreAll', WHERE WHAT IT READS IS OF BULK AT MOST 1048576: true; the input reads as it did. -/
def exploreAllUptoRow : OpenClaim := { program := "ytplooifpgmlofaa", sum := "80fd9aae8214178160489253362d7982733d043a82941bd355821fe8d8d5c64b", func := "spillway/spillwaylaw33.ExploreAll", spec := "exploreAll", unfollowed := true, recurses := true, apart := false, narrowed := true }
def ExploreAllUptoSaid : Prop := exploreAllUptoRow.holds Try.pinned (OpenSpec.upto exploreAllSpec)

/-- 'spillwaylaw33.ExploreSleep', WHERE WHAT IT READS IS OF BULK AT MOST 1048576: true; the input reads as it did. -/
def exploreSleepUptoRow : OpenClaim := { program := "ytplooifpgmlofaa", sum := "80fd9aae8214178160489253362d7982733d043a82941bd355821fe8d8d5c64b", func := "spillway/spillwaylaw33.ExploreSleep", spec := "exploreSleep", unfollowed := true, recurses := true, apart := false, narrowed := true }
def ExploreSleepUptoSaid : Prop := exploreSleepUptoRow.holds Try.pinned (OpenSpec.upto exploreSleepSpec)

/-- 'spillwaylaw33.ExploreIndependent', WHERE WHAT IT READS IS OF BULK AT MOST 1048576: true; the input reads as it did. -/
def exploreIndependentUptoRow : OpenClaim := { program := "ytplooifpgmlofaa", sum := "80fd9aae8214178160489253362d7982733d043a82941bd355821fe8d8d5c64b", func := "spillway/spillwaylaw33.ExploreIndependent", spec := "exploreIndependent", unfollowed := true, recurses := true, apart := false, narrowed := true }
def ExploreIndependentUptoSaid : Prop := exploreIndependentUptoRow.holds Try.pinned (OpenSpec.upto exploreIndependentSpec)

/-- 'spillwaylaw33.ExploreGrows', WHERE WHAT IT READS IS OF BULK AT MOST 1048576: true; the input reads as it did. -/
def exploreGrowsUptoRow : OpenClaim := { program := "ytplooifpgmlofaa", sum := "80fd9aae8214178160489253362d7982733d043a82941bd355821fe8d8d5c64b", func := "spillway/spillwaylaw33.ExploreGrows", spec := "exploreGrows", unfollowed := true, recurses := true, apart := false, narrowed := true }
def ExploreGrowsUptoSaid : Prop := exploreGrowsUptoRow.holds Try.pinned (OpenSpec.upto exploreGrowsSpec)

end Rows
end Go.Proofs.Ytplooifpgmlofaa
