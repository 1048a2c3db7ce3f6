/-
  No cell of these rows narrows 'for every input' (looked for: loops, veiled, ifaces, maps, wideKeys, modest, calm, conditions, laid).
  DERIVED. THE GIVEN ROWS OF THIS SEAT. 8 by the template 'for every input the law returns true; each argument reads behind the call as it read before'; 0 by the template 'total and deterministic' (their statements: YticgikpccbgjbaaTotals.lean).
  GIVEN WITH THE SEED: the statements are not yours to turn. If you find one false, say at which input.
  Laid BY PROGRAM, IN A SANDBOX (cutbox-rows.mjs): the forced cells as the released guide's own fill.sh prints them over the translation 4bf52aad2d18bc87… (all of the seat's roots in one cut). By AI agents, Wed Nov 11 2026. No macro, syntax, notation, axiom, sorry.
-/
import Derived.Test.YticgikpccbgjbaaChecked
import GoSem.Claim
import GoSem.ClaimJoined
import GoSem.ClaimMapViews
import Derived.JoinedTies
import Derived.KernelRfl
namespace Go.Proofs.Yticgikpccbgjbaa
/- THE CELL 'sum', in the pinned program and in every row, IS THE sha256 OF THE DUMP (.gsa) THAT YticgikpccbgjbaaProg.lean LOADS. Nothing in Lean hashes anything: it is a label: what it is worth is what the hold of that sum in a sandbox is worth. -/
noncomputable def Try.pinned : Pinned := { name := "yticgikpccbgjbaa", sum := "4bf52aad2d18bc8717d935b5d85f6e7549de53b0cf3cf15d36474dc0a14470f9", checked := Try.checked }
namespace Rows
def none {H : Type} : Left H := { results := [], args := [] }

/-- 'spillwaylaw18.HealthRuns': WHATEVER THE INPUT: true; the input reads as it did. -/
def healthRunsSpec : ChangeSpec := { name := "healthRuns", fn := fun _ => fun
  | [d1, d2] => { results := [.lit (.bool true)], args := [d1, d2] }
  | _ => none }
def healthRunsRow : OpenClaim := { program := "yticgikpccbgjbaa", sum := "4bf52aad2d18bc8717d935b5d85f6e7549de53b0cf3cf15d36474dc0a14470f9", func := "spillway/spillwaylaw18.HealthRuns", spec := "healthRuns", unfollowed := true, recurses := true, apart := false }
def HealthRunsSaid : Prop := healthRunsRow.holds Try.pinned (OpenSpec.ofChange healthRunsSpec)

/-- ITS FALSE NEIGHBOUR: 'it returns false'. Refute it at one input. -/
def healthRunsWrong : ChangeSpec := { name := "healthRuns", fn := fun _ => fun
  | [d1, d2] => { results := [.lit (.bool false)], args := [d1, d2] }
  | _ => none }
def HealthRunsWrongFalsely : Prop := healthRunsRow.holds Try.pinned (OpenSpec.ofChange healthRunsWrong)

/-- 'spillwaylaw18.HealthSteps': WHATEVER THE INPUT: true; the input reads as it did. -/
def healthStepsSpec : ChangeSpec := { name := "healthSteps", fn := fun _ => fun
  | [d1, d2] => { results := [.lit (.bool true)], args := [d1, d2] }
  | _ => none }
def healthStepsRow : OpenClaim := { program := "yticgikpccbgjbaa", sum := "4bf52aad2d18bc8717d935b5d85f6e7549de53b0cf3cf15d36474dc0a14470f9", func := "spillway/spillwaylaw18.HealthSteps", spec := "healthSteps", unfollowed := true, recurses := true, apart := false }
def HealthStepsSaid : Prop := healthStepsRow.holds Try.pinned (OpenSpec.ofChange healthStepsSpec)

/-- ITS FALSE NEIGHBOUR: 'it returns false'. Refute it at one input. -/
def healthStepsWrong : ChangeSpec := { name := "healthSteps", fn := fun _ => fun
  | [d1, d2] => { results := [.lit (.bool false)], args := [d1, d2] }
  | _ => none }
def HealthStepsWrongFalsely : Prop := healthStepsRow.holds Try.pinned (OpenSpec.ofChange healthStepsWrong)

/-- 'spillwaylaw18.HealthFlips': WHATEVER THE INPUT: true; the input reads as it did. -/
def healthFlipsSpec : ChangeSpec := { name := "healthFlips", fn := fun _ => fun
  | [d1, d2, d3] => { results := [.lit (.bool true)], args := [d1, d2, d3] }
  | _ => none }
def healthFlipsRow : OpenClaim := { program := "yticgikpccbgjbaa", sum := "4bf52aad2d18bc8717d935b5d85f6e7549de53b0cf3cf15d36474dc0a14470f9", func := "spillway/spillwaylaw18.HealthFlips", spec := "healthFlips", unfollowed := true, recurses := true, apart := false }
def HealthFlipsSaid : Prop := healthFlipsRow.holds Try.pinned (OpenSpec.ofChange healthFlipsSpec)

/-- ITS FALSE NEIGHBOUR: 'it returns false'. Refute it at one input. -/
def healthFlipsWrong : ChangeSpec := { name := "healthFlips", fn := fun _ => fun
  | [d1, d2, d3] => { results := [.lit (.bool false)], args := [d1, d2, d3] }
  | _ => none }
def HealthFlipsWrongFalsely : Prop := healthFlipsRow.holds Try.pinned (OpenSpec.ofChange healthFlipsWrong)

/-- 'spillwaylaw18.HealthTicks': WHATEVER THE INPUT: true; the input reads as it did. -/
def healthTicksSpec : ChangeSpec := { name := "healthTicks", fn := fun _ => fun
  | [d1, d2, d3] => { results := [.lit (.bool true)], args := [d1, d2, d3] }
  | _ => none }
def healthTicksRow : OpenClaim := { program := "yticgikpccbgjbaa", sum := "4bf52aad2d18bc8717d935b5d85f6e7549de53b0cf3cf15d36474dc0a14470f9", func := "spillway/spillwaylaw18.HealthTicks", spec := "healthTicks", unfollowed := true, recurses := true, apart := false }
def HealthTicksSaid : Prop := healthTicksRow.holds Try.pinned (OpenSpec.ofChange healthTicksSpec)

/-- ITS FALSE NEIGHBOUR: 'it returns false'. Refute it at one input. -/
def healthTicksWrong : ChangeSpec := { name := "healthTicks", fn := fun _ => fun
  | [d1, d2, d3] => { results := [.lit (.bool false)], args := [d1, d2, d3] }
  | _ => none }
def HealthTicksWrongFalsely : Prop := healthTicksRow.holds Try.pinned (OpenSpec.ofChange healthTicksWrong)

/-- 'spillwaylaw18.HealthApart': WHATEVER THE INPUT: true; the input reads as it did. -/
def healthApartSpec : ChangeSpec := { name := "healthApart", fn := fun _ => fun
  | [d1, d2] => { results := [.lit (.bool true)], args := [d1, d2] }
  | _ => none }
def healthApartRow : OpenClaim := { program := "yticgikpccbgjbaa", sum := "4bf52aad2d18bc8717d935b5d85f6e7549de53b0cf3cf15d36474dc0a14470f9", func := "spillway/spillwaylaw18.HealthApart", spec := "healthApart", unfollowed := true, recurses := true, apart := false }
def HealthApartSaid : Prop := healthApartRow.holds Try.pinned (OpenSpec.ofChange healthApartSpec)

/-- ITS FALSE NEIGHBOUR: 'it returns false'. Refute it at one input. -/
def healthApartWrong : ChangeSpec := { name := "healthApart", fn := fun _ => fun
  | [d1, d2] => { results := [.lit (.bool false)], args := [d1, d2] }
  | _ => none }
def HealthApartWrongFalsely : Prop := healthApartRow.holds Try.pinned (OpenSpec.ofChange healthApartWrong)

/-- 'spillwaylaw18.HealthTimes': WHATEVER THE INPUT: true; the input reads as it did. -/
def healthTimesSpec : ChangeSpec := { name := "healthTimes", fn := fun _ => fun
  | [d1, d2, d3] => { results := [.lit (.bool true)], args := [d1, d2, d3] }
  | _ => none }
def healthTimesRow : OpenClaim := { program := "yticgikpccbgjbaa", sum := "4bf52aad2d18bc8717d935b5d85f6e7549de53b0cf3cf15d36474dc0a14470f9", func := "spillway/spillwaylaw18.HealthTimes", spec := "healthTimes", unfollowed := true, recurses := true, apart := false }
def HealthTimesSaid : Prop := healthTimesRow.holds Try.pinned (OpenSpec.ofChange healthTimesSpec)

/-- ITS FALSE NEIGHBOUR: 'it returns false'. Refute it at one input. -/
def healthTimesWrong : ChangeSpec := { name := "healthTimes", fn := fun _ => fun
  | [d1, d2, d3] => { results := [.lit (.bool false)], args := [d1, d2, d3] }
  | _ => none }
def HealthTimesWrongFalsely : Prop := healthTimesRow.holds Try.pinned (OpenSpec.ofChange healthTimesWrong)

/-- 'spillwaylaw18.HealthChecks': WHATEVER THE INPUT: true; the input reads as it did. -/
def healthChecksSpec : ChangeSpec := { name := "healthChecks", fn := fun _ => fun
  | [d1, d2] => { results := [.lit (.bool true)], args := [d1, d2] }
  | _ => none }
def healthChecksRow : OpenClaim := { program := "yticgikpccbgjbaa", sum := "4bf52aad2d18bc8717d935b5d85f6e7549de53b0cf3cf15d36474dc0a14470f9", func := "spillway/spillwaylaw18.HealthChecks", spec := "healthChecks", unfollowed := true, recurses := true, apart := false }
def HealthChecksSaid : Prop := healthChecksRow.holds Try.pinned (OpenSpec.ofChange healthChecksSpec)

/-- ITS FALSE NEIGHBOUR: 'it returns false'. Refute it at one input. -/
def healthChecksWrong : ChangeSpec := { name := "healthChecks", fn := fun _ => fun
  | [d1, d2] => { results := [.lit (.bool false)], args := [d1, d2] }
  | _ => none }
def HealthChecksWrongFalsely : Prop := healthChecksRow.holds Try.pinned (OpenSpec.ofChange healthChecksWrong)

/-- 'spillwaylaw18.HealthKnown': WHATEVER THE INPUT: true; the input reads as it did. -/
def healthKnownSpec : ChangeSpec := { name := "healthKnown", fn := fun _ => fun
  | [] => { results := [.lit (.bool true)], args := [] }
  | _ => none }
def healthKnownRow : OpenClaim := { program := "yticgikpccbgjbaa", sum := "4bf52aad2d18bc8717d935b5d85f6e7549de53b0cf3cf15d36474dc0a14470f9", func := "spillway/spillwaylaw18.HealthKnown", spec := "healthKnown", unfollowed := true, recurses := true, apart := false }
def HealthKnownSaid : Prop := healthKnownRow.holds Try.pinned (OpenSpec.ofChange healthKnownSpec)

/-- ITS FALSE NEIGHBOUR: 'it returns false'. Refute it at one input. -/
def healthKnownWrong : ChangeSpec := { name := "healthKnown", fn := fun _ => fun
  | [] => { results := [.lit (.bool false)], args := [] }
  | _ => none }
def HealthKnownWrongFalsely : Prop := healthKnownRow.holds Try.pinned (OpenSpec.ofChange healthKnownWrong)

/- THE SECOND FORM. 'bulk': how many values and letters a reading holds, each counted each time it is reached (what is shared counts as often as it is met; a slice's spare places count too). A statement '..UptoSaid' is the law's where the arguments, and the package variables that the reading takes, are together of bulk at most 1048576: NARROWER than '..Said'. Prove '..Said' where nothing that the law and all that it calls make is longer than what came in: it says more and counts as full. Else prove '..UptoSaid'. A law counts once. -/
mutual
def uptoBulk {H : Type} : DataW H → Nat
  | .lit (.string bytes) => bytes.length + 1
  | .lit _ => 1
  | .nil => 1
  | .ptr d => uptoBulk d + 1
  | .slice elems spare => uptoBulkAll elems + uptoBulkAll spare + 1
  | .agg parts => uptoBulkAll parts + 1
  | .iface _ d => uptoBulk d + 1
  | .map entries => uptoBulkEntries entries + 1
  | .held _ => 1
def uptoBulkAll {H : Type} : List (DataW H) → Nat
  | [] => 0
  | d :: r => uptoBulk d + uptoBulkAll r
def uptoBulkEntries {H : Type} : List (Lit × DataW H) → Nat
  | [] => 0
  | x :: r => uptoBulkEntry x + uptoBulkEntries r
def uptoBulkEntry {H : Type} : Lit × DataW H → Nat
  | (.string bytes, d) => bytes.length + uptoBulk d + 1
  | (_, d) => uptoBulk d + 1
 end
def uptoSmall : (H : Type) → List (DataW H) → Bool := fun _ ds => decide (uptoBulkAll ds ≤ 1048576)
def OpenSpec.upto (s : _root_.Go.ChangeSpec) : _root_.Go.OpenSpec := { _root_.Go.OpenSpec.ofChange s with cond := some uptoSmall }

/-- 'spillwaylaw18.HealthRuns', WHERE WHAT IT READS IS OF BULK AT MOST 1048576: true; the input reads as it did. -/
def healthRunsUptoRow : OpenClaim := { program := "yticgikpccbgjbaa", sum := "4bf52aad2d18bc8717d935b5d85f6e7549de53b0cf3cf15d36474dc0a14470f9", func := "spillway/spillwaylaw18.HealthRuns", spec := "healthRuns", unfollowed := true, recurses := true, apart := false, narrowed := true }
def HealthRunsUptoSaid : Prop := healthRunsUptoRow.holds Try.pinned (OpenSpec.upto healthRunsSpec)

/-- 'spillwaylaw18.HealthSteps', WHERE WHAT IT READS IS OF BULK AT MOST 1048576: true; the input reads as it did. -/
def healthStepsUptoRow : OpenClaim := { program := "yticgikpccbgjbaa", sum := "4bf52aad2d18bc8717d935b5d85f6e7549de53b0cf3cf15d36474dc0a14470f9", func := "spillway/spillwaylaw18.HealthSteps", spec := "healthSteps", unfollowed := true, recurses := true, apart := false, narrowed := true }
def HealthStepsUptoSaid : Prop := healthStepsUptoRow.holds Try.pinned (OpenSpec.upto healthStepsSpec)

/-- 'spillwaylaw18.HealthFlips', WHERE WHAT IT READS IS OF BULK AT MOST 1048576: true; the input reads as it did. -/
def healthFlipsUptoRow : OpenClaim := { program := "yticgikpccbgjbaa", sum := "4bf52aad2d18bc8717d935b5d85f6e7549de53b0cf3cf15d36474dc0a14470f9", func := "spillway/spillwaylaw18.HealthFlips", spec := "healthFlips", unfollowed := true, recurses := true, apart := false, narrowed := true }
def HealthFlipsUptoSaid : Prop := healthFlipsUptoRow.holds Try.pinned (OpenSpec.upto healthFlipsSpec)

/-- 'spillwaylaw18.HealthTicks', WHERE WHAT IT READS IS OF BULK AT MOST 1048576: true; the input reads as it did. -/
def healthTicksUptoRow : OpenClaim := { program := "yticgikpccbgjbaa", sum := "4bf52aad2d18bc8717d935b5d85f6e7549de53b0cf3cf15d36474dc0a14470f9", func := "spillway/spillwaylaw18.HealthTicks", spec := "healthTicks", unfollowed := true, recurses := true, apart := false, narrowed := true }
def HealthTicksUptoSaid : Prop := healthTicksUptoRow.holds Try.pinned (OpenSpec.upto healthTicksSpec)

/-- 'spillwaylaw18.HealthApart', WHERE WHAT IT READS IS OF BULK AT MOST 1048576: true; the input reads as it did. -/
def healthApartUptoRow : OpenClaim := { program := "yticgikpccbgjbaa", sum := "4bf52aad2d18bc8717d935b5d85f6e7549de53b0cf3cf15d36474dc0a14470f9", func := "spillway/spillwaylaw18.HealthApart", spec := "healthApart", unfollowed := true, recurses := true, apart := false, narrowed := true }
def HealthApartUptoSaid : Prop := healthApartUptoRow.holds Try.pinned (OpenSpec.upto healthApartSpec)

/-- 'spillwaylaw18.HealthTimes', WHERE WHAT IT READS IS OF BULK AT MOST 1048576: true; the input reads as it did. -/
def healthTimesUptoRow : OpenClaim := { program := "yticgikpccbgjbaa", sum := "4bf52aad2d18bc8717d935b5d85f6e7549de53b0cf3cf15d36474dc0a14470f9", func := "spillway/spillwaylaw18.HealthTimes", spec := "healthTimes", unfollowed := true, recurses := true, apart := false, narrowed := true }
def HealthTimesUptoSaid : Prop := healthTimesUptoRow.holds Try.pinned (OpenSpec.upto healthTimesSpec)

/-- 'spillwaylaw18.HealthChecks', WHERE WHAT IT READS IS OF BULK AT MOST 1048576: true; the input reads as it did. -/
def healthChecksUptoRow : OpenClaim := { program := "yticgikpccbgjbaa", sum := "4bf52aad2d18bc8717d935b5d85f6e7549de53b0cf3cf15d36474dc0a14470f9", func := "spillway/spillwaylaw18.HealthChecks", spec := "healthChecks", unfollowed := true, recurses := true, apart := false, narrowed := true }
def HealthChecksUptoSaid : Prop := healthChecksUptoRow.holds Try.pinned (OpenSpec.upto healthChecksSpec)

/-- 'spillwaylaw18.HealthKnown', WHERE WHAT IT READS IS OF BULK AT MOST 1048576: true; the input reads as it did. -/
def healthKnownUptoRow : OpenClaim := { program := "yticgikpccbgjbaa", sum := "4bf52aad2d18bc8717d935b5d85f6e7549de53b0cf3cf15d36474dc0a14470f9", func := "spillway/spillwaylaw18.HealthKnown", spec := "healthKnown", unfollowed := true, recurses := true, apart := false, narrowed := true }
def HealthKnownUptoSaid : Prop := healthKnownUptoRow.holds Try.pinned (OpenSpec.upto healthKnownSpec)

end Rows
end Go.Proofs.Yticgikpccbgjbaa
