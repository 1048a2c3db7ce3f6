/-
  No cell of these rows narrows 'for every input' (looked for: loops, veiled, ifaces, maps, wideKeys, modest, calm, conditions, laid).
  DERIVED. THE GIVEN ROWS OF THIS SEAT. 7 by the template 'for every input the law returns true; each argument reads behind the call as it read before'; 0 by the template 'total and deterministic' (their statements: YtajjmhpdiikjhaaGreatTotals.lean).
  GIVEN WITH THE SEED: the statements are not yours to turn. If you find one false, say at which input.
  Laid BY PROGRAM, IN A SANDBOX (cutbox-rows.mjs): the forced cells as the released guide's own fill.sh prints them over the translation e53ba747a221c596… (all of the seat's roots in one cut). By AI agents, Wed Nov 11 2026. No macro, syntax, notation, axiom, sorry.
-/
import Derived.Test.YtajjmhpdiikjhaaGreatChecked
import GoSem.Claim
import GoSem.ClaimJoined
import GoSem.ClaimMapViews
import Derived.JoinedTies
import Derived.KernelRfl
namespace Go.Proofs.YtajjmhpdiikjhaaGreat
/- THE CELL 'sum', in the pinned program and in every row, IS THE sha256 OF THE DUMP (.gsa) THAT YtajjmhpdiikjhaaGreatProg.lean LOADS. Nothing in Lean hashes anything: it is a label: what it is worth is what the hold of that sum in a sandbox is worth. -/
noncomputable def Tryz.pinned : Pinned := { name := "ytajjmhpdiikjhaagreat", sum := "e53ba747a221c59631df4448a6dbb8b2444df3ed7e879805d11318e27e879e3a", checked := Tryz.checked }
namespace Rows
def none {H : Type} : Left H := { results := [], args := [] }

/-- 'spillwaylaw21.PoolPlays': WHATEVER THE INPUT: true; the input reads as it did. -/
def poolPlaysSpec : ChangeSpec := { name := "poolPlays", fn := fun _ => fun
  | [d1, d2] => { results := [.lit (.bool true)], args := [d1, d2] }
  | _ => none }
def poolPlaysRow : OpenClaim := { program := "ytajjmhpdiikjhaagreat", sum := "e53ba747a221c59631df4448a6dbb8b2444df3ed7e879805d11318e27e879e3a", func := "spillway/spillwaylaw21.PoolPlays", spec := "poolPlays", inPlace := ["slices.overlaps[spillway/api.MdLease]", "slices.overlaps[spillway/api.MdDial]"], unfollowed := true, recurses := true, apart := false }
def PoolPlaysSaid : Prop := poolPlaysRow.holds Tryz.pinned (OpenSpec.ofChange poolPlaysSpec)

/-- ITS FALSE NEIGHBOUR: 'it returns false'. Refute it at one input. -/
def poolPlaysWrong : ChangeSpec := { name := "poolPlays", fn := fun _ => fun
  | [d1, d2] => { results := [.lit (.bool false)], args := [d1, d2] }
  | _ => none }
def PoolPlaysWrongFalsely : Prop := poolPlaysRow.holds Tryz.pinned (OpenSpec.ofChange poolPlaysWrong)

/-- 'spillwaylaw21.PoolStates': WHATEVER THE INPUT: true; the input reads as it did. -/
def poolStatesSpec : ChangeSpec := { name := "poolStates", fn := fun _ => fun
  | [d1, d2] => { results := [.lit (.bool true)], args := [d1, d2] }
  | _ => none }
def poolStatesRow : OpenClaim := { program := "ytajjmhpdiikjhaagreat", sum := "e53ba747a221c59631df4448a6dbb8b2444df3ed7e879805d11318e27e879e3a", func := "spillway/spillwaylaw21.PoolStates", spec := "poolStates", inPlace := ["slices.overlaps[spillway/api.MdLease]", "slices.overlaps[spillway/api.MdDial]"], unfollowed := true, recurses := true, apart := false }
def PoolStatesSaid : Prop := poolStatesRow.holds Tryz.pinned (OpenSpec.ofChange poolStatesSpec)

/-- ITS FALSE NEIGHBOUR: 'it returns false'. Refute it at one input. -/
def poolStatesWrong : ChangeSpec := { name := "poolStates", fn := fun _ => fun
  | [d1, d2] => { results := [.lit (.bool false)], args := [d1, d2] }
  | _ => none }
def PoolStatesWrongFalsely : Prop := poolStatesRow.holds Tryz.pinned (OpenSpec.ofChange poolStatesWrong)

/-- 'spillwaylaw21.PoolOnce': WHATEVER THE INPUT: true; the input reads as it did. -/
def poolOnceSpec : ChangeSpec := { name := "poolOnce", fn := fun _ => fun
  | [d1, d2] => { results := [.lit (.bool true)], args := [d1, d2] }
  | _ => none }
def poolOnceRow : OpenClaim := { program := "ytajjmhpdiikjhaagreat", sum := "e53ba747a221c59631df4448a6dbb8b2444df3ed7e879805d11318e27e879e3a", func := "spillway/spillwaylaw21.PoolOnce", spec := "poolOnce", inPlace := ["slices.overlaps[spillway/api.MdLease]", "slices.overlaps[spillway/api.MdDial]"], unfollowed := true, recurses := true, apart := false }
def PoolOnceSaid : Prop := poolOnceRow.holds Tryz.pinned (OpenSpec.ofChange poolOnceSpec)

/-- ITS FALSE NEIGHBOUR: 'it returns false'. Refute it at one input. -/
def poolOnceWrong : ChangeSpec := { name := "poolOnce", fn := fun _ => fun
  | [d1, d2] => { results := [.lit (.bool false)], args := [d1, d2] }
  | _ => none }
def PoolOnceWrongFalsely : Prop := poolOnceRow.holds Tryz.pinned (OpenSpec.ofChange poolOnceWrong)

/-- 'spillwaylaw21.PoolOrder': WHATEVER THE INPUT: true; the input reads as it did. -/
def poolOrderSpec : ChangeSpec := { name := "poolOrder", fn := fun _ => fun
  | [d1, d2] => { results := [.lit (.bool true)], args := [d1, d2] }
  | _ => none }
def poolOrderRow : OpenClaim := { program := "ytajjmhpdiikjhaagreat", sum := "e53ba747a221c59631df4448a6dbb8b2444df3ed7e879805d11318e27e879e3a", func := "spillway/spillwaylaw21.PoolOrder", spec := "poolOrder", inPlace := ["slices.overlaps[spillway/api.MdLease]", "slices.overlaps[spillway/api.MdDial]"], unfollowed := true, recurses := true, apart := false }
def PoolOrderSaid : Prop := poolOrderRow.holds Tryz.pinned (OpenSpec.ofChange poolOrderSpec)

/-- ITS FALSE NEIGHBOUR: 'it returns false'. Refute it at one input. -/
def poolOrderWrong : ChangeSpec := { name := "poolOrder", fn := fun _ => fun
  | [d1, d2] => { results := [.lit (.bool false)], args := [d1, d2] }
  | _ => none }
def PoolOrderWrongFalsely : Prop := poolOrderRow.holds Tryz.pinned (OpenSpec.ofChange poolOrderWrong)

/-- 'spillwaylaw21.PoolKnown': WHATEVER THE INPUT: true; the input reads as it did. -/
def poolKnownSpec : ChangeSpec := { name := "poolKnown", fn := fun _ => fun
  | [] => { results := [.lit (.bool true)], args := [] }
  | _ => none }
def poolKnownRow : OpenClaim := { program := "ytajjmhpdiikjhaagreat", sum := "e53ba747a221c59631df4448a6dbb8b2444df3ed7e879805d11318e27e879e3a", func := "spillway/spillwaylaw21.PoolKnown", spec := "poolKnown", inPlace := ["slices.overlaps[spillway/api.MdLease]", "slices.overlaps[spillway/api.MdDial]"], unfollowed := true, recurses := true, apart := false }
def PoolKnownSaid : Prop := poolKnownRow.holds Tryz.pinned (OpenSpec.ofChange poolKnownSpec)

/-- ITS FALSE NEIGHBOUR: 'it returns false'. Refute it at one input. -/
def poolKnownWrong : ChangeSpec := { name := "poolKnown", fn := fun _ => fun
  | [] => { results := [.lit (.bool false)], args := [] }
  | _ => none }
def PoolKnownWrongFalsely : Prop := poolKnownRow.holds Tryz.pinned (OpenSpec.ofChange poolKnownWrong)

/-- 'spillwaylaw21.PoolEnds': WHATEVER THE INPUT: true; the input reads as it did. -/
def poolEndsSpec : ChangeSpec := { name := "poolEnds", fn := fun _ => fun
  | [d1, d2, d3] => { results := [.lit (.bool true)], args := [d1, d2, d3] }
  | _ => none }
def poolEndsRow : OpenClaim := { program := "ytajjmhpdiikjhaagreat", sum := "e53ba747a221c59631df4448a6dbb8b2444df3ed7e879805d11318e27e879e3a", func := "spillway/spillwaylaw21.PoolEnds", spec := "poolEnds", inPlace := ["slices.overlaps[spillway/api.MdLease]", "slices.overlaps[spillway/api.MdDial]"], unfollowed := true, recurses := true, apart := false }
def PoolEndsSaid : Prop := poolEndsRow.holds Tryz.pinned (OpenSpec.ofChange poolEndsSpec)

/-- ITS FALSE NEIGHBOUR: 'it returns false'. Refute it at one input. -/
def poolEndsWrong : ChangeSpec := { name := "poolEnds", fn := fun _ => fun
  | [d1, d2, d3] => { results := [.lit (.bool false)], args := [d1, d2, d3] }
  | _ => none }
def PoolEndsWrongFalsely : Prop := poolEndsRow.holds Tryz.pinned (OpenSpec.ofChange poolEndsWrong)

/-- 'spillwaylaw21.PoolChecks': WHATEVER THE INPUT: true; the input reads as it did. -/
def poolChecksSpec : ChangeSpec := { name := "poolChecks", fn := fun _ => fun
  | [d1, d2, d3] => { results := [.lit (.bool true)], args := [d1, d2, d3] }
  | _ => none }
def poolChecksRow : OpenClaim := { program := "ytajjmhpdiikjhaagreat", sum := "e53ba747a221c59631df4448a6dbb8b2444df3ed7e879805d11318e27e879e3a", func := "spillway/spillwaylaw21.PoolChecks", spec := "poolChecks", inPlace := ["slices.overlaps[spillway/api.MdLease]", "slices.overlaps[spillway/api.MdDial]"], unfollowed := true, recurses := true, apart := false }
def PoolChecksSaid : Prop := poolChecksRow.holds Tryz.pinned (OpenSpec.ofChange poolChecksSpec)

/-- ITS FALSE NEIGHBOUR: 'it returns false'. Refute it at one input. -/
def poolChecksWrong : ChangeSpec := { name := "poolChecks", fn := fun _ => fun
  | [d1, d2, d3] => { results := [.lit (.bool false)], args := [d1, d2, d3] }
  | _ => none }
def PoolChecksWrongFalsely : Prop := poolChecksRow.holds Tryz.pinned (OpenSpec.ofChange poolChecksWrong)

/- THE SECOND FORM. 'bulk': how many values and letters a reading holds, each counted each time it is reached (what is shared counts as often as it is met; a slice's spare places count too). A statement '..UptoSaid' is the law's where the arguments, and the package variables that the reading takes, are together of bulk at most 1048576: NARROWER than '..Said'. Prove '..Said' where nothing that the law and all that it calls make is longer than what came in: it says more and counts as full. Else prove '..UptoSaid'. A law counts once. -/
mutual
def uptoBulk {H : Type} : DataW H → Nat
  | .lit (.string bytes) => bytes.length + 1
  | .lit _ => 1
  | .nil => 1
  | .ptr d => uptoBulk d + 1
  | .slice elems spare => uptoBulkAll elems + uptoBulkAll spare + 1
  | .agg parts => uptoBulkAll parts + 1
  | .iface _ d => uptoBulk d + 1
  | .map entries => uptoBulkEntries entries + 1
  | .held _ => 1
def uptoBulkAll {H : Type} : List (DataW H) → Nat
  | [] => 0
  | d :: r => uptoBulk d + uptoBulkAll r
def uptoBulkEntries {H : Type} : List (Lit × DataW H) → Nat
  | [] => 0
  | x :: r => uptoBulkEntry x + uptoBulkEntries r
def uptoBulkEntry {H : Type} : Lit × DataW H → Nat
  | (.string bytes, d) => bytes.length + uptoBulk d + 1
  | (_, d) => uptoBulk d + 1
 end
def uptoSmall : (H : Type) → List (DataW H) → Bool := fun _ ds => decide (uptoBulkAll ds ≤ 1048576)
def OpenSpec.upto (s : _root_.Go.ChangeSpec) : _root_.Go.OpenSpec := { _root_.Go.OpenSpec.ofChange s with cond := some uptoSmall }

/-- 'spillwaylaw21.PoolPlays', WHERE WHAT IT READS IS OF BULK AT MOST 1048576: true; the input reads as it did. -/
def poolPlaysUptoRow : OpenClaim := { program := "ytajjmhpdiikjhaagreat", sum := "e53ba747a221c59631df4448a6dbb8b2444df3ed7e879805d11318e27e879e3a", func := "spillway/spillwaylaw21.PoolPlays", spec := "poolPlays", inPlace := ["slices.overlaps[spillway/api.MdLease]", "slices.overlaps[spillway/api.MdDial]"], unfollowed := true, recurses := true, apart := false, narrowed := true }
def PoolPlaysUptoSaid : Prop := poolPlaysUptoRow.holds Tryz.pinned (OpenSpec.upto poolPlaysSpec)

/-- 'spillwaylaw21.PoolStates', WHERE WHAT IT READS IS OF BULK AT MOST 1048576: true; the input reads as it did. -/
def poolStatesUptoRow : OpenClaim := { program := "ytajjmhpdiikjhaagreat", sum := "e53ba747a221c59631df4448a6dbb8b2444df3ed7e879805d11318e27e879e3a", func := "spillway/spillwaylaw21.PoolStates", spec := "poolStates", inPlace := ["slices.overlaps[spillway/api.MdLease]", "slices.overlaps[spillway/api.MdDial]"], unfollowed := true, recurses := true, apart := false, narrowed := true }
def PoolStatesUptoSaid : Prop := poolStatesUptoRow.holds Tryz.pinned (OpenSpec.upto poolStatesSpec)

/-- 'spillwaylaw21.PoolOnce', WHERE WHAT IT READS IS OF BULK AT MOST 1048576: true; the input reads as it did. -/
def poolOnceUptoRow : OpenClaim := { program := "ytajjmhpdiikjhaagreat", sum := "e53ba747a221c59631df4448a6dbb8b2444df3ed7e879805d11318e27e879e3a", func := "spillway/spillwaylaw21.PoolOnce", spec := "poolOnce", inPlace := ["slices.overlaps[spillway/api.MdLease]", "slices.overlaps[spillway/api.MdDial]"], unfollowed := true, recurses := true, apart := false, narrowed := true }
def PoolOnceUptoSaid : Prop := poolOnceUptoRow.holds Tryz.pinned (OpenSpec.upto poolOnceSpec)

/-- 'spillwaylaw21.PoolOrder', WHERE WHAT IT READS IS OF BULK AT MOST 1048576: true; the input reads as it did. -/
def poolOrderUptoRow : OpenClaim := { program := "ytajjmhpdiikjhaagreat", sum := "e53ba747a221c59631df4448a6dbb8b2444df3ed7e879805d11318e27e879e3a", func := "spillway/spillwaylaw21.PoolOrder", spec := "poolOrder", inPlace := ["slices.overlaps[spillway/api.MdLease]", "slices.overlaps[spillway/api.MdDial]"], unfollowed := true, recurses := true, apart := false, narrowed := true }
def PoolOrderUptoSaid : Prop := poolOrderUptoRow.holds Tryz.pinned (OpenSpec.upto poolOrderSpec)

/-- 'spillwaylaw21.PoolKnown', WHERE WHAT IT READS IS OF BULK AT MOST 1048576: true; the input reads as it did. -/
def poolKnownUptoRow : OpenClaim := { program := "ytajjmhpdiikjhaagreat", sum := "e53ba747a221c59631df4448a6dbb8b2444df3ed7e879805d11318e27e879e3a", func := "spillway/spillwaylaw21.PoolKnown", spec := "poolKnown", inPlace := ["slices.overlaps[spillway/api.MdLease]", "slices.overlaps[spillway/api.MdDial]"], unfollowed := true, recurses := true, apart := false, narrowed := true }
def PoolKnownUptoSaid : Prop := poolKnownUptoRow.holds Tryz.pinned (OpenSpec.upto poolKnownSpec)

/-- 'spillwaylaw21.PoolEnds', WHERE WHAT IT READS IS OF BULK AT MOST 1048576: true; the input reads as it did. -/
def poolEndsUptoRow : OpenClaim := { program := "ytajjmhpdiikjhaagreat", sum := "e53ba747a221c59631df4448a6dbb8b2444df3ed7e879805d11318e27e879e3a", func := "spillway/spillwaylaw21.PoolEnds", spec := "poolEnds", inPlace := ["slices.overlaps[spillway/api.MdLease]", "slices.overlaps[spillway/api.MdDial]"], unfollowed := true, recurses := true, apart := false, narrowed := true }
def PoolEndsUptoSaid : Prop := poolEndsUptoRow.holds Tryz.pinned (OpenSpec.upto poolEndsSpec)

/-- 'spillwaylaw21.PoolChecks', WHERE WHAT IT READS IS OF BULK AT MOST 1048576: true; the input reads as it did. -/
def poolChecksUptoRow : OpenClaim := { program := "ytajjmhpdiikjhaagreat", sum := "e53ba747a221c59631df4448a6dbb8b2444df3ed7e879805d11318e27e879e3a", func := "spillway/spillwaylaw21.PoolChecks", spec := "poolChecks", inPlace := ["slices.overlaps[spillway/api.MdLease]", "slices.overlaps[spillway/api.MdDial]"], unfollowed := true, recurses := true, apart := false, narrowed := true }
def PoolChecksUptoSaid : Prop := poolChecksUptoRow.holds Tryz.pinned (OpenSpec.upto poolChecksSpec)

end Rows
end Go.Proofs.YtajjmhpdiikjhaaGreat
