/-
  No cell of these rows narrows 'for every input' (looked for: loops, veiled, ifaces, maps, wideKeys, modest, calm, conditions, laid).
  DERIVED. THE GIVEN ROWS OF THIS SEAT. 5 by the template 'for every input the law returns true; each argument reads behind the call as it read before'; 0 by the template 'total and deterministic' (their statements: YtcmakpkdliiigaaTotals.lean).
  GIVEN WITH THE SEED: the statements are not yours to turn. If you find one false, say at which input.
  Laid BY PROGRAM, IN A SANDBOX (cutbox-rows.mjs): the forced cells as the released guide's own fill.sh prints them over the translation 09273f74bf1f79a2… (all of the seat's roots in one cut). By AI agents, Wed Nov 11 2026. No macro, syntax, notation, axiom, sorry.
-/
import Derived.Test.YtcmakpkdliiigaaChecked
import GoSem.Claim
import GoSem.ClaimJoined
import GoSem.ClaimMapViews
import Derived.JoinedTies
import Derived.KernelRfl
namespace Go.Proofs.Ytcmakpkdliiigaa
/- THE CELL 'sum', in the pinned program and in every row, IS THE sha256 OF THE DUMP (.gsa) THAT YtcmakpkdliiigaaProg.lean LOADS. Nothing in Lean hashes anything: it is a label: what it is worth is what the hold of that sum in a sandbox is worth. -/
noncomputable def Try.pinned : Pinned := { name := "ytcmakpkdliiigaa", sum := "09273f74bf1f79a209097ea9d33fe086625d5894bc1655ef75b87e24fffa2834", checked := Try.checked }
namespace Rows
def none {H : Type} : Left H := { results := [], args := [] }

/-- 'coffretlaw13.SpaceRising': WHATEVER THE INPUT: true; the input reads as it did. -/
def spaceRisingSpec : ChangeSpec := { name := "spaceRising", fn := fun _ => fun
  | [d1, d2] => { results := [.lit (.bool true)], args := [d1, d2] }
  | _ => none }
def spaceRisingRow : OpenClaim := { program := "ytcmakpkdliiigaa", sum := "09273f74bf1f79a209097ea9d33fe086625d5894bc1655ef75b87e24fffa2834", func := "coffret/coffretlaw13.SpaceRising", spec := "spaceRising", apart := false }
def SpaceRisingSaid : Prop := spaceRisingRow.holds Try.pinned (OpenSpec.ofChange spaceRisingSpec)

/-- ITS FALSE NEIGHBOUR: 'it returns false'. Refute it at one input. -/
def spaceRisingWrong : ChangeSpec := { name := "spaceRising", fn := fun _ => fun
  | [d1, d2] => { results := [.lit (.bool false)], args := [d1, d2] }
  | _ => none }
def SpaceRisingWrongFalsely : Prop := spaceRisingRow.holds Try.pinned (OpenSpec.ofChange spaceRisingWrong)

/-- 'coffretlaw13.SpaceParts': WHATEVER THE INPUT: true; the input reads as it did. -/
def spacePartsSpec : ChangeSpec := { name := "spaceParts", fn := fun _ => fun
  | [d1, d2] => { results := [.lit (.bool true)], args := [d1, d2] }
  | _ => none }
def spacePartsRow : OpenClaim := { program := "ytcmakpkdliiigaa", sum := "09273f74bf1f79a209097ea9d33fe086625d5894bc1655ef75b87e24fffa2834", func := "coffret/coffretlaw13.SpaceParts", spec := "spaceParts", apart := false }
def SpacePartsSaid : Prop := spacePartsRow.holds Try.pinned (OpenSpec.ofChange spacePartsSpec)

/-- ITS FALSE NEIGHBOUR: 'it returns false'. Refute it at one input. -/
def spacePartsWrong : ChangeSpec := { name := "spaceParts", fn := fun _ => fun
  | [d1, d2] => { results := [.lit (.bool false)], args := [d1, d2] }
  | _ => none }
def SpacePartsWrongFalsely : Prop := spacePartsRow.holds Try.pinned (OpenSpec.ofChange spacePartsWrong)

/-- 'coffretlaw13.SpaceAlike': WHATEVER THE INPUT: true; the input reads as it did. -/
def spaceAlikeSpec : ChangeSpec := { name := "spaceAlike", fn := fun _ => fun
  | [d1, d2] => { results := [.lit (.bool true)], args := [d1, d2] }
  | _ => none }
def spaceAlikeRow : OpenClaim := { program := "ytcmakpkdliiigaa", sum := "09273f74bf1f79a209097ea9d33fe086625d5894bc1655ef75b87e24fffa2834", func := "coffret/coffretlaw13.SpaceAlike", spec := "spaceAlike", apart := false }
def SpaceAlikeSaid : Prop := spaceAlikeRow.holds Try.pinned (OpenSpec.ofChange spaceAlikeSpec)

/-- ITS FALSE NEIGHBOUR: 'it returns false'. Refute it at one input. -/
def spaceAlikeWrong : ChangeSpec := { name := "spaceAlike", fn := fun _ => fun
  | [d1, d2] => { results := [.lit (.bool false)], args := [d1, d2] }
  | _ => none }
def SpaceAlikeWrongFalsely : Prop := spaceAlikeRow.holds Try.pinned (OpenSpec.ofChange spaceAlikeWrong)

/-- 'coffretlaw13.SpaceUndo': WHATEVER THE INPUT: true; the input reads as it did. -/
def spaceUndoSpec : ChangeSpec := { name := "spaceUndo", fn := fun _ => fun
  | [d1, d2, d3] => { results := [.lit (.bool true)], args := [d1, d2, d3] }
  | _ => none }
def spaceUndoRow : OpenClaim := { program := "ytcmakpkdliiigaa", sum := "09273f74bf1f79a209097ea9d33fe086625d5894bc1655ef75b87e24fffa2834", func := "coffret/coffretlaw13.SpaceUndo", spec := "spaceUndo", apart := false }
def SpaceUndoSaid : Prop := spaceUndoRow.holds Try.pinned (OpenSpec.ofChange spaceUndoSpec)

/-- ITS FALSE NEIGHBOUR: 'it returns false'. Refute it at one input. -/
def spaceUndoWrong : ChangeSpec := { name := "spaceUndo", fn := fun _ => fun
  | [d1, d2, d3] => { results := [.lit (.bool false)], args := [d1, d2, d3] }
  | _ => none }
def SpaceUndoWrongFalsely : Prop := spaceUndoRow.holds Try.pinned (OpenSpec.ofChange spaceUndoWrong)

/-- 'coffretlaw13.SpacePlays': WHATEVER THE INPUT: true; the input reads as it did. -/
def spacePlaysSpec : ChangeSpec := { name := "spacePlays", fn := fun _ => fun
  | [d1, d2, d3] => { results := [.lit (.bool true)], args := [d1, d2, d3] }
  | _ => none }
def spacePlaysRow : OpenClaim := { program := "ytcmakpkdliiigaa", sum := "09273f74bf1f79a209097ea9d33fe086625d5894bc1655ef75b87e24fffa2834", func := "coffret/coffretlaw13.SpacePlays", spec := "spacePlays", apart := false }
def SpacePlaysSaid : Prop := spacePlaysRow.holds Try.pinned (OpenSpec.ofChange spacePlaysSpec)

/-- ITS FALSE NEIGHBOUR: 'it returns false'. Refute it at one input. -/
def spacePlaysWrong : ChangeSpec := { name := "spacePlays", fn := fun _ => fun
  | [d1, d2, d3] => { results := [.lit (.bool false)], args := [d1, d2, d3] }
  | _ => none }
def SpacePlaysWrongFalsely : Prop := spacePlaysRow.holds Try.pinned (OpenSpec.ofChange spacePlaysWrong)

/- THE SECOND FORM. 'bulk': how many values and letters a reading holds, each counted each time it is reached (what is shared counts as often as it is met; a slice's spare places count too). A statement '..UptoSaid' is the law's where the arguments, and the package variables that the reading takes, are together of bulk at most 1048576: NARROWER than '..Said'. Prove '..Said' where nothing that the law and all that it calls make is longer than what came in: it says more and counts as full. Else prove '..UptoSaid'. A law counts once. -/
mutual
def uptoBulk {H : Type} : DataW H → Nat
  | .lit (.string bytes) => bytes.length + 1
  | .lit _ => 1
  | .nil => 1
  | .ptr d => uptoBulk d + 1
  | .slice elems spare => uptoBulkAll elems + uptoBulkAll spare + 1
  | .agg parts => uptoBulkAll parts + 1
  | .iface _ d => uptoBulk d + 1
  | .map entries => uptoBulkEntries entries + 1
  | .held _ => 1
def uptoBulkAll {H : Type} : List (DataW H) → Nat
  | [] => 0
  | d :: r => uptoBulk d + uptoBulkAll r
def uptoBulkEntries {H : Type} : List (Lit × DataW H) → Nat
  | [] => 0
  | x :: r => uptoBulkEntry x + uptoBulkEntries r
def uptoBulkEntry {H : Type} : Lit × DataW H → Nat
  | (.string bytes, d) => bytes.length + uptoBulk d + 1
  | (_, d) => uptoBulk d + 1
 end
def uptoSmall : (H : Type) → List (DataW H) → Bool := fun _ ds => decide (uptoBulkAll ds ≤ 1048576)
def OpenSpec.upto (s : _root_.Go.ChangeSpec) : _root_.Go.OpenSpec := { _root_.Go.OpenSpec.ofChange s with cond := some uptoSmall }

/-- 'coffretlaw13.SpaceRising', WHERE WHAT IT READS IS OF BULK AT MOST 1048576: true; the input reads as it did. -/
def spaceRisingUptoRow : OpenClaim := { program := "ytcmakpkdliiigaa", sum := "09273f74bf1f79a209097ea9d33fe086625d5894bc1655ef75b87e24fffa2834", func := "coffret/coffretlaw13.SpaceRising", spec := "spaceRising", apart := false, narrowed := true }
def SpaceRisingUptoSaid : Prop := spaceRisingUptoRow.holds Try.pinned (OpenSpec.upto spaceRisingSpec)

/-- 'coffretlaw13.SpaceParts', WHERE WHAT IT READS IS OF BULK AT MOST 1048576: true; the input reads as it did. -/
def spacePartsUptoRow : OpenClaim := { program := "ytcmakpkdliiigaa", sum := "09273f74bf1f79a209097ea9d33fe086625d5894bc1655ef75b87e24fffa2834", func := "coffret/coffretlaw13.SpaceParts", spec := "spaceParts", apart := false, narrowed := true }
def SpacePartsUptoSaid : Prop := spacePartsUptoRow.holds Try.pinned (OpenSpec.upto spacePartsSpec)

/-- 'coffretlaw13.SpaceAlike', WHERE WHAT IT READS IS OF BULK AT MOST 1048576: true; the input reads as it did. -/
def spaceAlikeUptoRow : OpenClaim := { program := "ytcmakpkdliiigaa", sum := "09273f74bf1f79a209097ea9d33fe086625d5894bc1655ef75b87e24fffa2834", func := "coffret/coffretlaw13.SpaceAlike", spec := "spaceAlike", apart := false, narrowed := true }
def SpaceAlikeUptoSaid : Prop := spaceAlikeUptoRow.holds Try.pinned (OpenSpec.upto spaceAlikeSpec)

/-- 'coffretlaw13.SpaceUndo', WHERE WHAT IT READS IS OF BULK AT MOST 1048576: true; the input reads as it did. -/
def spaceUndoUptoRow : OpenClaim := { program := "ytcmakpkdliiigaa", sum := "09273f74bf1f79a209097ea9d33fe086625d5894bc1655ef75b87e24fffa2834", func := "coffret/coffretlaw13.SpaceUndo", spec := "spaceUndo", apart := false, narrowed := true }
def SpaceUndoUptoSaid : Prop := spaceUndoUptoRow.holds Try.pinned (OpenSpec.upto spaceUndoSpec)

/-- 'coffretlaw13.SpacePlays', WHERE WHAT IT READS IS OF BULK AT MOST 1048576: true; the input reads as it did. -/
def spacePlaysUptoRow : OpenClaim := { program := "ytcmakpkdliiigaa", sum := "09273f74bf1f79a209097ea9d33fe086625d5894bc1655ef75b87e24fffa2834", func := "coffret/coffretlaw13.SpacePlays", spec := "spacePlays", apart := false, narrowed := true }
def SpacePlaysUptoSaid : Prop := spacePlaysUptoRow.holds Try.pinned (OpenSpec.upto spacePlaysSpec)

end Rows
end Go.Proofs.Ytcmakpkdliiigaa
