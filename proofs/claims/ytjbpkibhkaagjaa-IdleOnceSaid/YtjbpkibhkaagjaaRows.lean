/-
  No cell of these rows narrows 'for every input' (looked for: loops, veiled, ifaces, maps, wideKeys, modest, calm, conditions, laid).
  DERIVED. THE GIVEN ROWS OF THIS SEAT. 7 by the template 'for every input the law returns true; each argument reads behind the call as it read before'; 0 by the template 'total and deterministic' (their statements: YtjbpkibhkaagjaaTotals.lean).
  GIVEN WITH THE SEED: the statements are not yours to turn. If you find one false, say at which input.
  Laid BY PROGRAM, IN A SANDBOX (cutbox-rows.mjs): the forced cells as the released guide's own fill.sh prints them over the translation f800d0c0eb65fa0b… (all of the seat's roots in one cut). By AI agents, Wed Nov 11 2026. No macro, syntax, notation, axiom, sorry.
-/
import Derived.Test.YtjbpkibhkaagjaaChecked
import GoSem.Claim
import GoSem.ClaimJoined
import GoSem.ClaimMapViews
import Derived.JoinedTies
import Derived.KernelRfl
namespace Go.Proofs.Ytjbpkibhkaagjaa
/- THE CELL 'sum', in the pinned program and in every row, IS THE sha256 OF THE DUMP (.gsa) THAT YtjbpkibhkaagjaaProg.lean LOADS. Nothing in Lean hashes anything: it is a label: what it is worth is what the hold of that sum in a sandbox is worth. -/
noncomputable def Try.pinned : Pinned := { name := "ytjbpkibhkaagjaa", sum := "f800d0c0eb65fa0b75b973349bb123485c37d238f84cf6a90c5af01b7ebe6024", checked := Try.checked }
namespace Rows
def none {H : Type} : Left H := { results := [], args := [] }

/-- 'spillwaylaw19.IdleTakes': WHATEVER THE INPUT: true; the input reads as it did. -/
def idleTakesSpec : ChangeSpec := { name := "idleTakes", fn := fun _ => fun
  | [d1, d2] => { results := [.lit (.bool true)], args := [d1, d2] }
  | _ => none }
def idleTakesRow : OpenClaim := { program := "ytjbpkibhkaagjaa", sum := "f800d0c0eb65fa0b75b973349bb123485c37d238f84cf6a90c5af01b7ebe6024", func := "spillway/spillwaylaw19.IdleTakes", spec := "idleTakes", unfollowed := true, recurses := true, apart := false }
def IdleTakesSaid : Prop := idleTakesRow.holds Try.pinned (OpenSpec.ofChange idleTakesSpec)

/-- ITS FALSE NEIGHBOUR: 'it returns false'. Refute it at one input. -/
def idleTakesWrong : ChangeSpec := { name := "idleTakes", fn := fun _ => fun
  | [d1, d2] => { results := [.lit (.bool false)], args := [d1, d2] }
  | _ => none }
def IdleTakesWrongFalsely : Prop := idleTakesRow.holds Try.pinned (OpenSpec.ofChange idleTakesWrong)

/-- 'spillwaylaw19.IdleNext': WHATEVER THE INPUT: true; the input reads as it did. -/
def idleNextSpec : ChangeSpec := { name := "idleNext", fn := fun _ => fun
  | [d1, d2] => { results := [.lit (.bool true)], args := [d1, d2] }
  | _ => none }
def idleNextRow : OpenClaim := { program := "ytjbpkibhkaagjaa", sum := "f800d0c0eb65fa0b75b973349bb123485c37d238f84cf6a90c5af01b7ebe6024", func := "spillway/spillwaylaw19.IdleNext", spec := "idleNext", unfollowed := true, recurses := true, apart := false }
def IdleNextSaid : Prop := idleNextRow.holds Try.pinned (OpenSpec.ofChange idleNextSpec)

/-- ITS FALSE NEIGHBOUR: 'it returns false'. Refute it at one input. -/
def idleNextWrong : ChangeSpec := { name := "idleNext", fn := fun _ => fun
  | [d1, d2] => { results := [.lit (.bool false)], args := [d1, d2] }
  | _ => none }
def IdleNextWrongFalsely : Prop := idleNextRow.holds Try.pinned (OpenSpec.ofChange idleNextWrong)

/-- 'spillwaylaw19.IdleKnown': WHATEVER THE INPUT: true; the input reads as it did. -/
def idleKnownSpec : ChangeSpec := { name := "idleKnown", fn := fun _ => fun
  | [] => { results := [.lit (.bool true)], args := [] }
  | _ => none }
def idleKnownRow : OpenClaim := { program := "ytjbpkibhkaagjaa", sum := "f800d0c0eb65fa0b75b973349bb123485c37d238f84cf6a90c5af01b7ebe6024", func := "spillway/spillwaylaw19.IdleKnown", spec := "idleKnown", unfollowed := true, recurses := true, apart := false }
def IdleKnownSaid : Prop := idleKnownRow.holds Try.pinned (OpenSpec.ofChange idleKnownSpec)

/-- ITS FALSE NEIGHBOUR: 'it returns false'. Refute it at one input. -/
def idleKnownWrong : ChangeSpec := { name := "idleKnown", fn := fun _ => fun
  | [] => { results := [.lit (.bool false)], args := [] }
  | _ => none }
def IdleKnownWrongFalsely : Prop := idleKnownRow.holds Try.pinned (OpenSpec.ofChange idleKnownWrong)

/-- 'spillwaylaw19.IdleOrder': WHATEVER THE INPUT: true; the input reads as it did. -/
def idleOrderSpec : ChangeSpec := { name := "idleOrder", fn := fun _ => fun
  | [d1, d2, d3] => { results := [.lit (.bool true)], args := [d1, d2, d3] }
  | _ => none }
def idleOrderRow : OpenClaim := { program := "ytjbpkibhkaagjaa", sum := "f800d0c0eb65fa0b75b973349bb123485c37d238f84cf6a90c5af01b7ebe6024", func := "spillway/spillwaylaw19.IdleOrder", spec := "idleOrder", unfollowed := true, recurses := true, apart := false }
def IdleOrderSaid : Prop := idleOrderRow.holds Try.pinned (OpenSpec.ofChange idleOrderSpec)

/-- ITS FALSE NEIGHBOUR: 'it returns false'. Refute it at one input. -/
def idleOrderWrong : ChangeSpec := { name := "idleOrder", fn := fun _ => fun
  | [d1, d2, d3] => { results := [.lit (.bool false)], args := [d1, d2, d3] }
  | _ => none }
def IdleOrderWrongFalsely : Prop := idleOrderRow.holds Try.pinned (OpenSpec.ofChange idleOrderWrong)

/-- 'spillwaylaw19.IdlePlays': WHATEVER THE INPUT: true; the input reads as it did. -/
def idlePlaysSpec : ChangeSpec := { name := "idlePlays", fn := fun _ => fun
  | [d1, d2] => { results := [.lit (.bool true)], args := [d1, d2] }
  | _ => none }
def idlePlaysRow : OpenClaim := { program := "ytjbpkibhkaagjaa", sum := "f800d0c0eb65fa0b75b973349bb123485c37d238f84cf6a90c5af01b7ebe6024", func := "spillway/spillwaylaw19.IdlePlays", spec := "idlePlays", unfollowed := true, recurses := true, apart := false }
def IdlePlaysSaid : Prop := idlePlaysRow.holds Try.pinned (OpenSpec.ofChange idlePlaysSpec)

/-- ITS FALSE NEIGHBOUR: 'it returns false'. Refute it at one input. -/
def idlePlaysWrong : ChangeSpec := { name := "idlePlays", fn := fun _ => fun
  | [d1, d2] => { results := [.lit (.bool false)], args := [d1, d2] }
  | _ => none }
def IdlePlaysWrongFalsely : Prop := idlePlaysRow.holds Try.pinned (OpenSpec.ofChange idlePlaysWrong)

/-- 'spillwaylaw19.IdleStates': WHATEVER THE INPUT: true; the input reads as it did. -/
def idleStatesSpec : ChangeSpec := { name := "idleStates", fn := fun _ => fun
  | [d1, d2] => { results := [.lit (.bool true)], args := [d1, d2] }
  | _ => none }
def idleStatesRow : OpenClaim := { program := "ytjbpkibhkaagjaa", sum := "f800d0c0eb65fa0b75b973349bb123485c37d238f84cf6a90c5af01b7ebe6024", func := "spillway/spillwaylaw19.IdleStates", spec := "idleStates", unfollowed := true, recurses := true, apart := false }
def IdleStatesSaid : Prop := idleStatesRow.holds Try.pinned (OpenSpec.ofChange idleStatesSpec)

/-- ITS FALSE NEIGHBOUR: 'it returns false'. Refute it at one input. -/
def idleStatesWrong : ChangeSpec := { name := "idleStates", fn := fun _ => fun
  | [d1, d2] => { results := [.lit (.bool false)], args := [d1, d2] }
  | _ => none }
def IdleStatesWrongFalsely : Prop := idleStatesRow.holds Try.pinned (OpenSpec.ofChange idleStatesWrong)

/-- 'spillwaylaw19.IdleOnce': WHATEVER THE INPUT: true; the input reads as it did. -/
def idleOnceSpec : ChangeSpec := { name := "idleOnce", fn := fun _ => fun
  | [d1, d2] => { results := [.lit (.bool true)], args := [d1, d2] }
  | _ => none }
def idleOnceRow : OpenClaim := { program := "ytjbpkibhkaagjaa", sum := "f800d0c0eb65fa0b75b973349bb123485c37d238f84cf6a90c5af01b7ebe6024", func := "spillway/spillwaylaw19.IdleOnce", spec := "idleOnce", unfollowed := true, recurses := true, apart := false }
def IdleOnceSaid : Prop := idleOnceRow.holds Try.pinned (OpenSpec.ofChange idleOnceSpec)

/-- ITS FALSE NEIGHBOUR: 'it returns false'. Refute it at one input. -/
def idleOnceWrong : ChangeSpec := { name := "idleOnce", fn := fun _ => fun
  | [d1, d2] => { results := [.lit (.bool false)], args := [d1, d2] }
  | _ => none }
def IdleOnceWrongFalsely : Prop := idleOnceRow.holds Try.pinned (OpenSpec.ofChange idleOnceWrong)

/- THE SECOND FORM. 'bulk': how many values and letters a reading holds, each counted each time it is reached (what is shared counts as often as it is met; a slice's spare places count too). A statement '..UptoSaid' is the law's where the arguments, and the package variables that the reading takes, are together of bulk at most 1048576: NARROWER than '..Said'. Prove '..Said' where nothing that the law and all that it calls make is longer than what came in: it says more and counts as full. Else prove '..UptoSaid'. A law counts once. -/
mutual
def uptoBulk {H : Type} : DataW H → Nat
  | .lit (.string bytes) => bytes.length + 1
  | .lit _ => 1
  | .nil => 1
  | .ptr d => uptoBulk d + 1
  | .slice elems spare => uptoBulkAll elems + uptoBulkAll spare + 1
  | .agg parts => uptoBulkAll parts + 1
  | .iface _ d => uptoBulk d + 1
  | .map entries => uptoBulkEntries entries + 1
  | .held _ => 1
def uptoBulkAll {H : Type} : List (DataW H) → Nat
  | [] => 0
  | d :: r => uptoBulk d + uptoBulkAll r
def uptoBulkEntries {H : Type} : List (Lit × DataW H) → Nat
  | [] => 0
  | x :: r => uptoBulkEntry x + uptoBulkEntries r
def uptoBulkEntry {H : Type} : Lit × DataW H → Nat
  | (.string bytes, d) => bytes.length + uptoBulk d + 1
  | (_, d) => uptoBulk d + 1
 end
def uptoSmall : (H : Type) → List (DataW H) → Bool := fun _ ds => decide (uptoBulkAll ds ≤ 1048576)
def OpenSpec.upto (s : _root_.Go.ChangeSpec) : _root_.Go.OpenSpec := { _root_.Go.OpenSpec.ofChange s with cond := some uptoSmall }

/-- 'spillwaylaw19.IdleTakes', WHERE WHAT IT READS IS OF BULK AT MOST 1048576: true; the input reads as it did. -/
def idleTakesUptoRow : OpenClaim := { program := "ytjbpkibhkaagjaa", sum := "f800d0c0eb65fa0b75b973349bb123485c37d238f84cf6a90c5af01b7ebe6024", func := "spillway/spillwaylaw19.IdleTakes", spec := "idleTakes", unfollowed := true, recurses := true, apart := false, narrowed := true }
def IdleTakesUptoSaid : Prop := idleTakesUptoRow.holds Try.pinned (OpenSpec.upto idleTakesSpec)

/-- 'spillwaylaw19.IdleNext', WHERE WHAT IT READS IS OF BULK AT MOST 1048576: true; the input reads as it did. -/
def idleNextUptoRow : OpenClaim := { program := "ytjbpkibhkaagjaa", sum := "f800d0c0eb65fa0b75b973349bb123485c37d238f84cf6a90c5af01b7ebe6024", func := "spillway/spillwaylaw19.IdleNext", spec := "idleNext", unfollowed := true, recurses := true, apart := false, narrowed := true }
def IdleNextUptoSaid : Prop := idleNextUptoRow.holds Try.pinned (OpenSpec.upto idleNextSpec)

/-- 'spillwaylaw19.IdleKnown', WHERE WHAT IT READS IS OF BULK AT MOST 1048576: true; the input reads as it did. -/
def idleKnownUptoRow : OpenClaim := { program := "ytjbpkibhkaagjaa", sum := "f800d0c0eb65fa0b75b973349bb123485c37d238f84cf6a90c5af01b7ebe6024", func := "spillway/spillwaylaw19.IdleKnown", spec := "idleKnown", unfollowed := true, recurses := true, apart := false, narrowed := true }
def IdleKnownUptoSaid : Prop := idleKnownUptoRow.holds Try.pinned (OpenSpec.upto idleKnownSpec)

/-- 'spillwaylaw19.IdleOrder', WHERE WHAT IT READS IS OF BULK AT MOST 1048576: true; the input reads as it did. -/
def idleOrderUptoRow : OpenClaim := { program := "ytjbpkibhkaagjaa", sum := "f800d0c0eb65fa0b75b973349bb123485c37d238f84cf6a90c5af01b7ebe6024", func := "spillway/spillwaylaw19.IdleOrder", spec := "idleOrder", unfollowed := true, recurses := true, apart := false, narrowed := true }
def IdleOrderUptoSaid : Prop := idleOrderUptoRow.holds Try.pinned (OpenSpec.upto idleOrderSpec)

/-- 'spillwaylaw19.IdlePlays', WHERE WHAT IT READS IS OF BULK AT MOST 1048576: true; the input reads as it did. -/
def idlePlaysUptoRow : OpenClaim := { program := "ytjbpkibhkaagjaa", sum := "f800d0c0eb65fa0b75b973349bb123485c37d238f84cf6a90c5af01b7ebe6024", func := "spillway/spillwaylaw19.IdlePlays", spec := "idlePlays", unfollowed := true, recurses := true, apart := false, narrowed := true }
def IdlePlaysUptoSaid : Prop := idlePlaysUptoRow.holds Try.pinned (OpenSpec.upto idlePlaysSpec)

/-- 'spillwaylaw19.IdleStates', WHERE WHAT IT READS IS OF BULK AT MOST 1048576: true; the input reads as it did. -/
def idleStatesUptoRow : OpenClaim := { program := "ytjbpkibhkaagjaa", sum := "f800d0c0eb65fa0b75b973349bb123485c37d238f84cf6a90c5af01b7ebe6024", func := "spillway/spillwaylaw19.IdleStates", spec := "idleStates", unfollowed := true, recurses := true, apart := false, narrowed := true }
def IdleStatesUptoSaid : Prop := idleStatesUptoRow.holds Try.pinned (OpenSpec.upto idleStatesSpec)

/-- 'spillwaylaw19.IdleOnce', WHERE WHAT IT READS IS OF BULK AT MOST 1048576: true; the input reads as it did. -/
def idleOnceUptoRow : OpenClaim := { program := "ytjbpkibhkaagjaa", sum := "f800d0c0eb65fa0b75b973349bb123485c37d238f84cf6a90c5af01b7ebe6024", func := "spillway/spillwaylaw19.IdleOnce", spec := "idleOnce", unfollowed := true, recurses := true, apart := false, narrowed := true }
def IdleOnceUptoSaid : Prop := idleOnceUptoRow.holds Try.pinned (OpenSpec.upto idleOnceSpec)

end Rows
end Go.Proofs.Ytjbpkibhkaagjaa
