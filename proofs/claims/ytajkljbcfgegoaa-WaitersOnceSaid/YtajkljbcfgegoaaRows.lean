/-
  No cell of these rows narrows 'for every input' (looked for: loops, veiled, ifaces, maps, wideKeys, modest, calm, conditions, laid).
  DERIVED. THE GIVEN ROWS OF THIS SEAT. 7 by the template 'for every input the law returns true; each argument reads behind the call as it read before'; 0 by the template 'total and deterministic' (their statements: YtajkljbcfgegoaaTotals.lean).
  GIVEN WITH THE SEED: the statements are not yours to turn. If you find one false, say at which input.
  Laid BY PROGRAM, IN A SANDBOX (cutbox-rows.mjs): the forced cells as the released guide's own fill.sh prints them over the translation ba68abfa66cdde17… (all of the seat's roots in one cut). By AI agents, Wed Nov 11 2026. No macro, syntax, notation, axiom, sorry.
-/
import Derived.Test.YtajkljbcfgegoaaChecked
import GoSem.Claim
import GoSem.ClaimJoined
import GoSem.ClaimMapViews
import Derived.JoinedTies
import Derived.KernelRfl
namespace Go.Proofs.Ytajkljbcfgegoaa
/- THE CELL 'sum', in the pinned program and in every row, IS THE sha256 OF THE DUMP (.gsa) THAT YtajkljbcfgegoaaProg.lean LOADS. Nothing in Lean hashes anything: it is a label: what it is worth is what the hold of that sum in a sandbox is worth. -/
noncomputable def Try.pinned : Pinned := { name := "ytajkljbcfgegoaa", sum := "ba68abfa66cdde175bb770764a2fa73c9554e1aa35c5e8dbe0222085cef2c24f", checked := Try.checked }
namespace Rows
def none {H : Type} : Left H := { results := [], args := [] }

/-- 'spillwaylaw20.WaitersOrder': WHATEVER THE INPUT: true; the input reads as it did. -/
def waitersOrderSpec : ChangeSpec := { name := "waitersOrder", fn := fun _ => fun
  | [d1, d2] => { results := [.lit (.bool true)], args := [d1, d2] }
  | _ => none }
def waitersOrderRow : OpenClaim := { program := "ytajkljbcfgegoaa", sum := "ba68abfa66cdde175bb770764a2fa73c9554e1aa35c5e8dbe0222085cef2c24f", func := "spillway/spillwaylaw20.WaitersOrder", spec := "waitersOrder", unfollowed := true, recurses := true, apart := false }
def WaitersOrderSaid : Prop := waitersOrderRow.holds Try.pinned (OpenSpec.ofChange waitersOrderSpec)

/-- ITS FALSE NEIGHBOUR: 'it returns false'. Refute it at one input. -/
def waitersOrderWrong : ChangeSpec := { name := "waitersOrder", fn := fun _ => fun
  | [d1, d2] => { results := [.lit (.bool false)], args := [d1, d2] }
  | _ => none }
def WaitersOrderWrongFalsely : Prop := waitersOrderRow.holds Try.pinned (OpenSpec.ofChange waitersOrderWrong)

/-- 'spillwaylaw20.WaitersDue': WHATEVER THE INPUT: true; the input reads as it did. -/
def waitersDueSpec : ChangeSpec := { name := "waitersDue", fn := fun _ => fun
  | [d1, d2] => { results := [.lit (.bool true)], args := [d1, d2] }
  | _ => none }
def waitersDueRow : OpenClaim := { program := "ytajkljbcfgegoaa", sum := "ba68abfa66cdde175bb770764a2fa73c9554e1aa35c5e8dbe0222085cef2c24f", func := "spillway/spillwaylaw20.WaitersDue", spec := "waitersDue", unfollowed := true, recurses := true, apart := false }
def WaitersDueSaid : Prop := waitersDueRow.holds Try.pinned (OpenSpec.ofChange waitersDueSpec)

/-- ITS FALSE NEIGHBOUR: 'it returns false'. Refute it at one input. -/
def waitersDueWrong : ChangeSpec := { name := "waitersDue", fn := fun _ => fun
  | [d1, d2] => { results := [.lit (.bool false)], args := [d1, d2] }
  | _ => none }
def WaitersDueWrongFalsely : Prop := waitersDueRow.holds Try.pinned (OpenSpec.ofChange waitersDueWrong)

/-- 'spillwaylaw20.WaitersKnown': WHATEVER THE INPUT: true; the input reads as it did. -/
def waitersKnownSpec : ChangeSpec := { name := "waitersKnown", fn := fun _ => fun
  | [] => { results := [.lit (.bool true)], args := [] }
  | _ => none }
def waitersKnownRow : OpenClaim := { program := "ytajkljbcfgegoaa", sum := "ba68abfa66cdde175bb770764a2fa73c9554e1aa35c5e8dbe0222085cef2c24f", func := "spillway/spillwaylaw20.WaitersKnown", spec := "waitersKnown", unfollowed := true, recurses := true, apart := false }
def WaitersKnownSaid : Prop := waitersKnownRow.holds Try.pinned (OpenSpec.ofChange waitersKnownSpec)

/-- ITS FALSE NEIGHBOUR: 'it returns false'. Refute it at one input. -/
def waitersKnownWrong : ChangeSpec := { name := "waitersKnown", fn := fun _ => fun
  | [] => { results := [.lit (.bool false)], args := [] }
  | _ => none }
def WaitersKnownWrongFalsely : Prop := waitersKnownRow.holds Try.pinned (OpenSpec.ofChange waitersKnownWrong)

/-- 'spillwaylaw20.WaitersPlaces': WHATEVER THE INPUT: true; the input reads as it did. -/
def waitersPlacesSpec : ChangeSpec := { name := "waitersPlaces", fn := fun _ => fun
  | [d1, d2, d3] => { results := [.lit (.bool true)], args := [d1, d2, d3] }
  | _ => none }
def waitersPlacesRow : OpenClaim := { program := "ytajkljbcfgegoaa", sum := "ba68abfa66cdde175bb770764a2fa73c9554e1aa35c5e8dbe0222085cef2c24f", func := "spillway/spillwaylaw20.WaitersPlaces", spec := "waitersPlaces", unfollowed := true, recurses := true, apart := false }
def WaitersPlacesSaid : Prop := waitersPlacesRow.holds Try.pinned (OpenSpec.ofChange waitersPlacesSpec)

/-- ITS FALSE NEIGHBOUR: 'it returns false'. Refute it at one input. -/
def waitersPlacesWrong : ChangeSpec := { name := "waitersPlaces", fn := fun _ => fun
  | [d1, d2, d3] => { results := [.lit (.bool false)], args := [d1, d2, d3] }
  | _ => none }
def WaitersPlacesWrongFalsely : Prop := waitersPlacesRow.holds Try.pinned (OpenSpec.ofChange waitersPlacesWrong)

/-- 'spillwaylaw20.WaitersOnce': WHATEVER THE INPUT: true; the input reads as it did. -/
def waitersOnceSpec : ChangeSpec := { name := "waitersOnce", fn := fun _ => fun
  | [d1, d2] => { results := [.lit (.bool true)], args := [d1, d2] }
  | _ => none }
def waitersOnceRow : OpenClaim := { program := "ytajkljbcfgegoaa", sum := "ba68abfa66cdde175bb770764a2fa73c9554e1aa35c5e8dbe0222085cef2c24f", func := "spillway/spillwaylaw20.WaitersOnce", spec := "waitersOnce", unfollowed := true, recurses := true, apart := false }
def WaitersOnceSaid : Prop := waitersOnceRow.holds Try.pinned (OpenSpec.ofChange waitersOnceSpec)

/-- ITS FALSE NEIGHBOUR: 'it returns false'. Refute it at one input. -/
def waitersOnceWrong : ChangeSpec := { name := "waitersOnce", fn := fun _ => fun
  | [d1, d2] => { results := [.lit (.bool false)], args := [d1, d2] }
  | _ => none }
def WaitersOnceWrongFalsely : Prop := waitersOnceRow.holds Try.pinned (OpenSpec.ofChange waitersOnceWrong)

/-- 'spillwaylaw20.WaitersPlays': WHATEVER THE INPUT: true; the input reads as it did. -/
def waitersPlaysSpec : ChangeSpec := { name := "waitersPlays", fn := fun _ => fun
  | [d1, d2] => { results := [.lit (.bool true)], args := [d1, d2] }
  | _ => none }
def waitersPlaysRow : OpenClaim := { program := "ytajkljbcfgegoaa", sum := "ba68abfa66cdde175bb770764a2fa73c9554e1aa35c5e8dbe0222085cef2c24f", func := "spillway/spillwaylaw20.WaitersPlays", spec := "waitersPlays", unfollowed := true, recurses := true, apart := false }
def WaitersPlaysSaid : Prop := waitersPlaysRow.holds Try.pinned (OpenSpec.ofChange waitersPlaysSpec)

/-- ITS FALSE NEIGHBOUR: 'it returns false'. Refute it at one input. -/
def waitersPlaysWrong : ChangeSpec := { name := "waitersPlays", fn := fun _ => fun
  | [d1, d2] => { results := [.lit (.bool false)], args := [d1, d2] }
  | _ => none }
def WaitersPlaysWrongFalsely : Prop := waitersPlaysRow.holds Try.pinned (OpenSpec.ofChange waitersPlaysWrong)

/-- 'spillwaylaw20.WaitersStates': WHATEVER THE INPUT: true; the input reads as it did. -/
def waitersStatesSpec : ChangeSpec := { name := "waitersStates", fn := fun _ => fun
  | [d1, d2] => { results := [.lit (.bool true)], args := [d1, d2] }
  | _ => none }
def waitersStatesRow : OpenClaim := { program := "ytajkljbcfgegoaa", sum := "ba68abfa66cdde175bb770764a2fa73c9554e1aa35c5e8dbe0222085cef2c24f", func := "spillway/spillwaylaw20.WaitersStates", spec := "waitersStates", unfollowed := true, recurses := true, apart := false }
def WaitersStatesSaid : Prop := waitersStatesRow.holds Try.pinned (OpenSpec.ofChange waitersStatesSpec)

/-- ITS FALSE NEIGHBOUR: 'it returns false'. Refute it at one input. -/
def waitersStatesWrong : ChangeSpec := { name := "waitersStates", fn := fun _ => fun
  | [d1, d2] => { results := [.lit (.bool false)], args := [d1, d2] }
  | _ => none }
def WaitersStatesWrongFalsely : Prop := waitersStatesRow.holds Try.pinned (OpenSpec.ofChange waitersStatesWrong)

/- THE SECOND FORM. 'bulk': how many values and letters a reading holds, each counted each time it is reached (what is shared counts as often as it is met; a slice's spare places count too). A statement '..UptoSaid' is the law's where the arguments, and the package variables that the reading takes, are together of bulk at most 1048576: NARROWER than '..Said'. Prove '..Said' where nothing that the law and all that it calls make is longer than what came in: it says more and counts as full. Else prove '..UptoSaid'. A law counts once. -/
mutual
def uptoBulk {H : Type} : DataW H → Nat
  | .lit (.string bytes) => bytes.length + 1
  | .lit _ => 1
  | .nil => 1
  | .ptr d => uptoBulk d + 1
  | .slice elems spare => uptoBulkAll elems + uptoBulkAll spare + 1
  | .agg parts => uptoBulkAll parts + 1
  | .iface _ d => uptoBulk d + 1
  | .map entries => uptoBulkEntries entries + 1
  | .held _ => 1
def uptoBulkAll {H : Type} : List (DataW H) → Nat
  | [] => 0
  | d :: r => uptoBulk d + uptoBulkAll r
def uptoBulkEntries {H : Type} : List (Lit × DataW H) → Nat
  | [] => 0
  | x :: r => uptoBulkEntry x + uptoBulkEntries r
def uptoBulkEntry {H : Type} : Lit × DataW H → Nat
  | (.string bytes, d) => bytes.length + uptoBulk d + 1
  | (_, d) => uptoBulk d + 1
 end
def uptoSmall : (H : Type) → List (DataW H) → Bool := fun _ ds => decide (uptoBulkAll ds ≤ 1048576)
def OpenSpec.upto (s : _root_.Go.ChangeSpec) : _root_.Go.OpenSpec := { _root_.Go.OpenSpec.ofChange s with cond := some uptoSmall }

/-- 'spillwaylaw20.WaitersOrder', WHERE WHAT IT READS IS OF BULK AT MOST 1048576: true; the input reads as it did. -/
def waitersOrderUptoRow : OpenClaim := { program := "ytajkljbcfgegoaa", sum := "ba68abfa66cdde175bb770764a2fa73c9554e1aa35c5e8dbe0222085cef2c24f", func := "spillway/spillwaylaw20.WaitersOrder", spec := "waitersOrder", unfollowed := true, recurses := true, apart := false, narrowed := true }
def WaitersOrderUptoSaid : Prop := waitersOrderUptoRow.holds Try.pinned (OpenSpec.upto waitersOrderSpec)

/-- 'spillwaylaw20.WaitersDue', WHERE WHAT IT READS IS OF BULK AT MOST 1048576: true; the input reads as it did. -/
def waitersDueUptoRow : OpenClaim := { program := "ytajkljbcfgegoaa", sum := "ba68abfa66cdde175bb770764a2fa73c9554e1aa35c5e8dbe0222085cef2c24f", func := "spillway/spillwaylaw20.WaitersDue", spec := "waitersDue", unfollowed := true, recurses := true, apart := false, narrowed := true }
def WaitersDueUptoSaid : Prop := waitersDueUptoRow.holds Try.pinned (OpenSpec.upto waitersDueSpec)

/-- 'spillwaylaw20.WaitersKnown', WHERE WHAT IT READS IS OF BULK AT MOST 1048576: true; the input reads as it did. -/
def waitersKnownUptoRow : OpenClaim := { program := "ytajkljbcfgegoaa", sum := "ba68abfa66cdde175bb770764a2fa73c9554e1aa35c5e8dbe0222085cef2c24f", func := "spillway/spillwaylaw20.WaitersKnown", spec := "waitersKnown", unfollowed := true, recurses := true, apart := false, narrowed := true }
def WaitersKnownUptoSaid : Prop := waitersKnownUptoRow.holds Try.pinned (OpenSpec.upto waitersKnownSpec)

/-- 'spillwaylaw20.WaitersPlaces', WHERE WHAT IT READS IS OF BULK AT MOST 1048576: true; the input reads as it did. -/
def waitersPlacesUptoRow : OpenClaim := { program := "ytajkljbcfgegoaa", sum := "ba68abfa66cdde175bb770764a2fa73c9554e1aa35c5e8dbe0222085cef2c24f", func := "spillway/spillwaylaw20.WaitersPlaces", spec := "waitersPlaces", unfollowed := true, recurses := true, apart := false, narrowed := true }
def WaitersPlacesUptoSaid : Prop := waitersPlacesUptoRow.holds Try.pinned (OpenSpec.upto waitersPlacesSpec)

/-- 'spillwaylaw20.WaitersOnce', WHERE WHAT IT READS IS OF BULK AT MOST 1048576: true; the input reads as it did. -/
def waitersOnceUptoRow : OpenClaim := { program := "ytajkljbcfgegoaa", sum := "ba68abfa66cdde175bb770764a2fa73c9554e1aa35c5e8dbe0222085cef2c24f", func := "spillway/spillwaylaw20.WaitersOnce", spec := "waitersOnce", unfollowed := true, recurses := true, apart := false, narrowed := true }
def WaitersOnceUptoSaid : Prop := waitersOnceUptoRow.holds Try.pinned (OpenSpec.upto waitersOnceSpec)

/-- 'spillwaylaw20.WaitersPlays', WHERE WHAT IT READS IS OF BULK AT MOST 1048576: true; the input reads as it did. -/
def waitersPlaysUptoRow : OpenClaim := { program := "ytajkljbcfgegoaa", sum := "ba68abfa66cdde175bb770764a2fa73c9554e1aa35c5e8dbe0222085cef2c24f", func := "spillway/spillwaylaw20.WaitersPlays", spec := "waitersPlays", unfollowed := true, recurses := true, apart := false, narrowed := true }
def WaitersPlaysUptoSaid : Prop := waitersPlaysUptoRow.holds Try.pinned (OpenSpec.upto waitersPlaysSpec)

/-- 'spillwaylaw20.WaitersStates', WHERE WHAT IT READS IS OF BULK AT MOST 1048576: true; the input reads as it did. -/
def waitersStatesUptoRow : OpenClaim := { program := "ytajkljbcfgegoaa", sum := "ba68abfa66cdde175bb770764a2fa73c9554e1aa35c5e8dbe0222085cef2c24f", func := "spillway/spillwaylaw20.WaitersStates", spec := "waitersStates", unfollowed := true, recurses := true, apart := false, narrowed := true }
def WaitersStatesUptoSaid : Prop := waitersStatesUptoRow.holds Try.pinned (OpenSpec.upto waitersStatesSpec)

end Rows
end Go.Proofs.Ytajkljbcfgegoaa
