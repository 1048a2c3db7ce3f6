/-
  No cell of these rows narrows 'for every input' (looked for: loops, veiled, ifaces, maps, wideKeys, modest, calm, conditions, laid).
  DERIVED. THE GIVEN ROWS OF THIS SEAT. 6 by the template 'for every input the law returns true; each argument reads behind the call as it read before'; 0 by the template 'total and deterministic' (their statements: YtakmipccgpgfgaaTotals.lean).
  GIVEN WITH THE SEED: the statements are not yours to turn. If you find one false, say at which input.
  Laid BY PROGRAM, IN A SANDBOX (cutbox-rows.mjs): the forced cells as the released guide's own fill.sh prints them over the translation bfb1d9eafa7ffa93… (all of the seat's roots in one cut). By AI agents, Wed Nov 11 2026. No macro, syntax, notation, axiom, sorry.
-/
import Derived.Test.YtakmipccgpgfgaaChecked
import GoSem.Claim
import GoSem.ClaimJoined
import GoSem.ClaimMapViews
import Derived.JoinedTies
import Derived.KernelRfl
namespace Go.Proofs.Ytakmipccgpgfgaa
/- THE CELL 'sum', in the pinned program and in every row, IS THE sha256 OF THE DUMP (.gsa) THAT YtakmipccgpgfgaaProg.lean LOADS. Nothing in Lean hashes anything: it is a label: what it is worth is what the hold of that sum in a sandbox is worth. -/
noncomputable def Try.pinned : Pinned := { name := "ytakmipccgpgfgaa", sum := "bfb1d9eafa7ffa93081e6e162e46bae8acacad191c584a07d4ae07a9e4201810", checked := Try.checked }
namespace Rows
def none {H : Type} : Left H := { results := [], args := [] }

/-- 'spillwaylaw22.RetryDelays': WHATEVER THE INPUT: true; the input reads as it did. -/
def retryDelaysSpec : ChangeSpec := { name := "retryDelays", fn := fun _ => fun
  | [d] => { results := [.lit (.bool true)], args := [d] }
  | _ => none }
def retryDelaysRow : OpenClaim := { program := "ytakmipccgpgfgaa", sum := "bfb1d9eafa7ffa93081e6e162e46bae8acacad191c584a07d4ae07a9e4201810", func := "spillway/spillwaylaw22.RetryDelays", spec := "retryDelays", unfollowed := true, recurses := true, apart := false }
def RetryDelaysSaid : Prop := retryDelaysRow.holds Try.pinned (OpenSpec.ofChange retryDelaysSpec)

/-- ITS FALSE NEIGHBOUR: 'it returns false'. Refute it at one input. -/
def retryDelaysWrong : ChangeSpec := { name := "retryDelays", fn := fun _ => fun
  | [d] => { results := [.lit (.bool false)], args := [d] }
  | _ => none }
def RetryDelaysWrongFalsely : Prop := retryDelaysRow.holds Try.pinned (OpenSpec.ofChange retryDelaysWrong)

/-- 'spillwaylaw22.RetrySafer': WHATEVER THE INPUT: true; the input reads as it did. -/
def retrySaferSpec : ChangeSpec := { name := "retrySafer", fn := fun _ => fun
  | [d1, d2] => { results := [.lit (.bool true)], args := [d1, d2] }
  | _ => none }
def retrySaferRow : OpenClaim := { program := "ytakmipccgpgfgaa", sum := "bfb1d9eafa7ffa93081e6e162e46bae8acacad191c584a07d4ae07a9e4201810", func := "spillway/spillwaylaw22.RetrySafer", spec := "retrySafer", unfollowed := true, recurses := true, apart := false }
def RetrySaferSaid : Prop := retrySaferRow.holds Try.pinned (OpenSpec.ofChange retrySaferSpec)

/-- ITS FALSE NEIGHBOUR: 'it returns false'. Refute it at one input. -/
def retrySaferWrong : ChangeSpec := { name := "retrySafer", fn := fun _ => fun
  | [d1, d2] => { results := [.lit (.bool false)], args := [d1, d2] }
  | _ => none }
def RetrySaferWrongFalsely : Prop := retrySaferRow.holds Try.pinned (OpenSpec.ofChange retrySaferWrong)

/-- 'spillwaylaw22.RetryBudgets': WHATEVER THE INPUT: true; the input reads as it did. -/
def retryBudgetsSpec : ChangeSpec := { name := "retryBudgets", fn := fun _ => fun
  | [d1, d2] => { results := [.lit (.bool true)], args := [d1, d2] }
  | _ => none }
def retryBudgetsRow : OpenClaim := { program := "ytakmipccgpgfgaa", sum := "bfb1d9eafa7ffa93081e6e162e46bae8acacad191c584a07d4ae07a9e4201810", func := "spillway/spillwaylaw22.RetryBudgets", spec := "retryBudgets", unfollowed := true, recurses := true, apart := false }
def RetryBudgetsSaid : Prop := retryBudgetsRow.holds Try.pinned (OpenSpec.ofChange retryBudgetsSpec)

/-- ITS FALSE NEIGHBOUR: 'it returns false'. Refute it at one input. -/
def retryBudgetsWrong : ChangeSpec := { name := "retryBudgets", fn := fun _ => fun
  | [d1, d2] => { results := [.lit (.bool false)], args := [d1, d2] }
  | _ => none }
def RetryBudgetsWrongFalsely : Prop := retryBudgetsRow.holds Try.pinned (OpenSpec.ofChange retryBudgetsWrong)

/-- 'spillwaylaw22.RetryFull': WHATEVER THE INPUT: true; the input reads as it did. -/
def retryFullSpec : ChangeSpec := { name := "retryFull", fn := fun _ => fun
  | [d1, d2, d3] => { results := [.lit (.bool true)], args := [d1, d2, d3] }
  | _ => none }
def retryFullRow : OpenClaim := { program := "ytakmipccgpgfgaa", sum := "bfb1d9eafa7ffa93081e6e162e46bae8acacad191c584a07d4ae07a9e4201810", func := "spillway/spillwaylaw22.RetryFull", spec := "retryFull", unfollowed := true, recurses := true, apart := false }
def RetryFullSaid : Prop := retryFullRow.holds Try.pinned (OpenSpec.ofChange retryFullSpec)

/-- ITS FALSE NEIGHBOUR: 'it returns false'. Refute it at one input. -/
def retryFullWrong : ChangeSpec := { name := "retryFull", fn := fun _ => fun
  | [d1, d2, d3] => { results := [.lit (.bool false)], args := [d1, d2, d3] }
  | _ => none }
def RetryFullWrongFalsely : Prop := retryFullRow.holds Try.pinned (OpenSpec.ofChange retryFullWrong)

/-- 'spillwaylaw22.RetryWindows': WHATEVER THE INPUT: true; the input reads as it did. -/
def retryWindowsSpec : ChangeSpec := { name := "retryWindows", fn := fun _ => fun
  | [d1, d2] => { results := [.lit (.bool true)], args := [d1, d2] }
  | _ => none }
def retryWindowsRow : OpenClaim := { program := "ytakmipccgpgfgaa", sum := "bfb1d9eafa7ffa93081e6e162e46bae8acacad191c584a07d4ae07a9e4201810", func := "spillway/spillwaylaw22.RetryWindows", spec := "retryWindows", unfollowed := true, recurses := true, apart := false }
def RetryWindowsSaid : Prop := retryWindowsRow.holds Try.pinned (OpenSpec.ofChange retryWindowsSpec)

/-- ITS FALSE NEIGHBOUR: 'it returns false'. Refute it at one input. -/
def retryWindowsWrong : ChangeSpec := { name := "retryWindows", fn := fun _ => fun
  | [d1, d2] => { results := [.lit (.bool false)], args := [d1, d2] }
  | _ => none }
def RetryWindowsWrongFalsely : Prop := retryWindowsRow.holds Try.pinned (OpenSpec.ofChange retryWindowsWrong)

/-- 'spillwaylaw22.RetryOnce': WHATEVER THE INPUT: true; the input reads as it did. -/
def retryOnceSpec : ChangeSpec := { name := "retryOnce", fn := fun _ => fun
  | [d1, d2] => { results := [.lit (.bool true)], args := [d1, d2] }
  | _ => none }
def retryOnceRow : OpenClaim := { program := "ytakmipccgpgfgaa", sum := "bfb1d9eafa7ffa93081e6e162e46bae8acacad191c584a07d4ae07a9e4201810", func := "spillway/spillwaylaw22.RetryOnce", spec := "retryOnce", unfollowed := true, recurses := true, apart := false }
def RetryOnceSaid : Prop := retryOnceRow.holds Try.pinned (OpenSpec.ofChange retryOnceSpec)

/-- ITS FALSE NEIGHBOUR: 'it returns false'. Refute it at one input. -/
def retryOnceWrong : ChangeSpec := { name := "retryOnce", fn := fun _ => fun
  | [d1, d2] => { results := [.lit (.bool false)], args := [d1, d2] }
  | _ => none }
def RetryOnceWrongFalsely : Prop := retryOnceRow.holds Try.pinned (OpenSpec.ofChange retryOnceWrong)

/- THE SECOND FORM. 'bulk': how many values and letters a reading holds, each counted each time it is reached (what is shared counts as often as it is met; a slice's spare places count too). A statement '..UptoSaid' is the law's where the arguments, and the package variables that the reading takes, are together of bulk at most 1048576: NARROWER than '..Said'. Prove '..Said' where nothing that the law and all that it calls make is longer than what came in: it says more and counts as full. Else prove '..UptoSaid'. A law counts once. -/
mutual
def uptoBulk {H : Type} : DataW H → Nat
  | .lit (.string bytes) => bytes.length + 1
  | .lit _ => 1
  | .nil => 1
  | .ptr d => uptoBulk d + 1
  | .slice elems spare => uptoBulkAll elems + uptoBulkAll spare + 1
  | .agg parts => uptoBulkAll parts + 1
  | .iface _ d => uptoBulk d + 1
  | .map entries => uptoBulkEntries entries + 1
  | .held _ => 1
def uptoBulkAll {H : Type} : List (DataW H) → Nat
  | [] => 0
  | d :: r => uptoBulk d + uptoBulkAll r
def uptoBulkEntries {H : Type} : List (Lit × DataW H) → Nat
  | [] => 0
  | x :: r => uptoBulkEntry x + uptoBulkEntries r
def uptoBulkEntry {H : Type} : Lit × DataW H → Nat
  | (.string bytes, d) => bytes.length + uptoBulk d + 1
  | (_, d) => uptoBulk d + 1
 end
def uptoSmall : (H : Type) → List (DataW H) → Bool := fun _ ds => decide (uptoBulkAll ds ≤ 1048576)
def OpenSpec.upto (s : _root_.Go.ChangeSpec) : _root_.Go.OpenSpec := { _root_.Go.OpenSpec.ofChange s with cond := some uptoSmall }

/-- 'spillwaylaw22.RetryDelays', WHERE WHAT IT READS IS OF BULK AT MOST 1048576: true; the input reads as it did. -/
def retryDelaysUptoRow : OpenClaim := { program := "ytakmipccgpgfgaa", sum := "bfb1d9eafa7ffa93081e6e162e46bae8acacad191c584a07d4ae07a9e4201810", func := "spillway/spillwaylaw22.RetryDelays", spec := "retryDelays", unfollowed := true, recurses := true, apart := false, narrowed := true }
def RetryDelaysUptoSaid : Prop := retryDelaysUptoRow.holds Try.pinned (OpenSpec.upto retryDelaysSpec)

/-- 'spillwaylaw22.RetrySafer', WHERE WHAT IT READS IS OF BULK AT MOST 1048576: true; the input reads as it did. -/
def retrySaferUptoRow : OpenClaim := { program := "ytakmipccgpgfgaa", sum := "bfb1d9eafa7ffa93081e6e162e46bae8acacad191c584a07d4ae07a9e4201810", func := "spillway/spillwaylaw22.RetrySafer", spec := "retrySafer", unfollowed := true, recurses := true, apart := false, narrowed := true }
def RetrySaferUptoSaid : Prop := retrySaferUptoRow.holds Try.pinned (OpenSpec.upto retrySaferSpec)

/-- 'spillwaylaw22.RetryBudgets', WHERE WHAT IT READS IS OF BULK AT MOST 1048576: true; the input reads as it did. -/
def retryBudgetsUptoRow : OpenClaim := { program := "ytakmipccgpgfgaa", sum := "bfb1d9eafa7ffa93081e6e162e46bae8acacad191c584a07d4ae07a9e4201810", func := "spillway/spillwaylaw22.RetryBudgets", spec := "retryBudgets", unfollowed := true, recurses := true, apart := false, narrowed := true }
def RetryBudgetsUptoSaid : Prop := retryBudgetsUptoRow.holds Try.pinned (OpenSpec.upto retryBudgetsSpec)

/-- 'spillwaylaw22.RetryFull', WHERE WHAT IT READS IS OF BULK AT MOST 1048576: true; the input reads as it did. -/
def retryFullUptoRow : OpenClaim := { program := "ytakmipccgpgfgaa", sum := "bfb1d9eafa7ffa93081e6e162e46bae8acacad191c584a07d4ae07a9e4201810", func := "spillway/spillwaylaw22.RetryFull", spec := "retryFull", unfollowed := true, recurses := true, apart := false, narrowed := true }
def RetryFullUptoSaid : Prop := retryFullUptoRow.holds Try.pinned (OpenSpec.upto retryFullSpec)

/-- 'spillwaylaw22.RetryWindows', WHERE WHAT IT READS IS OF BULK AT MOST 1048576: true; the input reads as it did. -/
def retryWindowsUptoRow : OpenClaim := { program := "ytakmipccgpgfgaa", sum := "bfb1d9eafa7ffa93081e6e162e46bae8acacad191c584a07d4ae07a9e4201810", func := "spillway/spillwaylaw22.RetryWindows", spec := "retryWindows", unfollowed := true, recurses := true, apart := false, narrowed := true }
def RetryWindowsUptoSaid : Prop := retryWindowsUptoRow.holds Try.pinned (OpenSpec.upto retryWindowsSpec)

/-- 'spillwaylaw22.RetryOnce', WHERE WHAT IT READS IS OF BULK AT MOST 1048576: true; the input reads as it did. -/
def retryOnceUptoRow : OpenClaim := { program := "ytakmipccgpgfgaa", sum := "bfb1d9eafa7ffa93081e6e162e46bae8acacad191c584a07d4ae07a9e4201810", func := "spillway/spillwaylaw22.RetryOnce", spec := "retryOnce", unfollowed := true, recurses := true, apart := false, narrowed := true }
def RetryOnceUptoSaid : Prop := retryOnceUptoRow.holds Try.pinned (OpenSpec.upto retryOnceSpec)

end Rows
end Go.Proofs.Ytakmipccgpgfgaa
