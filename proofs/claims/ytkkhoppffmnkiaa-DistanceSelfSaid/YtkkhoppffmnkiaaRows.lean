/-
  No cell of these rows narrows 'for every input' (looked for: loops, veiled, ifaces, maps, wideKeys, modest, calm, conditions, laid).
  DERIVED. THE GIVEN ROWS OF THIS SEAT. 6 by the template 'for every input the law returns true; each argument reads behind the call as it read before'; 0 by the template 'total and deterministic' (their statements: YtkkhoppffmnkiaaTotals.lean).
  GIVEN WITH THE SEED: the statements are not yours to turn. If you find one false, say at which input.
  Laid BY PROGRAM, IN A SANDBOX (cutbox-rows.mjs): the forced cells as the released guide's own fill.sh prints them over the translation 4386f8528adc236b… (all of the seat's roots in one cut). By AI agents, Wed Nov 11 2026. No macro, syntax, notation, axiom, sorry.
-/
import Derived.Test.YtkkhoppffmnkiaaChecked
import GoSem.Claim
import GoSem.ClaimJoined
import GoSem.ClaimMapViews
import Derived.JoinedTies
import Derived.KernelRfl
namespace Go.Proofs.Ytkkhoppffmnkiaa
/- THE CELL 'sum', in the pinned program and in every row, IS THE sha256 OF THE DUMP (.gsa) THAT YtkkhoppffmnkiaaProg.lean LOADS. Nothing in Lean hashes anything: it is a label: what it is worth is what the hold of that sum in a sandbox is worth. -/
noncomputable def Try.pinned : Pinned := { name := "ytkkhoppffmnkiaa", sum := "4386f8528adc236b470bdb6d402fb38e6e8b442623d47620b2d1c2a405462765", checked := Try.checked }
namespace Rows
def none {H : Type} : Left H := { results := [], args := [] }

/-- 'gypsumlaw37.DistanceMoves': WHATEVER THE INPUT: true; the input reads as it did. -/
def distanceMovesSpec : ChangeSpec := { name := "distanceMoves", fn := fun _ => fun
  | [d1, d2, d3] => { results := [.lit (.bool true)], args := [d1, d2, d3] }
  | _ => none }
def distanceMovesRow : OpenClaim := { program := "ytkkhoppffmnkiaa", sum := "4386f8528adc236b470bdb6d402fb38e6e8b442623d47620b2d1c2a405462765", func := "gypsum/gypsumlaw37.DistanceMoves", spec := "distanceMoves", plainKeys := false, apart := false }
def DistanceMovesSaid : Prop := distanceMovesRow.holds Try.pinned (OpenSpec.ofChange distanceMovesSpec)

/-- ITS FALSE NEIGHBOUR: 'it returns false'. Refute it at one input. -/
def distanceMovesWrong : ChangeSpec := { name := "distanceMoves", fn := fun _ => fun
  | [d1, d2, d3] => { results := [.lit (.bool false)], args := [d1, d2, d3] }
  | _ => none }
def DistanceMovesWrongFalsely : Prop := distanceMovesRow.holds Try.pinned (OpenSpec.ofChange distanceMovesWrong)

/-- 'gypsumlaw37.DistanceSimplicial': WHATEVER THE INPUT: true; the input reads as it did. -/
def distanceSimplicialSpec : ChangeSpec := { name := "distanceSimplicial", fn := fun _ => fun
  | [d1, d2, d3] => { results := [.lit (.bool true)], args := [d1, d2, d3] }
  | _ => none }
def distanceSimplicialRow : OpenClaim := { program := "ytkkhoppffmnkiaa", sum := "4386f8528adc236b470bdb6d402fb38e6e8b442623d47620b2d1c2a405462765", func := "gypsum/gypsumlaw37.DistanceSimplicial", spec := "distanceSimplicial", plainKeys := false, apart := false }
def DistanceSimplicialSaid : Prop := distanceSimplicialRow.holds Try.pinned (OpenSpec.ofChange distanceSimplicialSpec)

/-- ITS FALSE NEIGHBOUR: 'it returns false'. Refute it at one input. -/
def distanceSimplicialWrong : ChangeSpec := { name := "distanceSimplicial", fn := fun _ => fun
  | [d1, d2, d3] => { results := [.lit (.bool false)], args := [d1, d2, d3] }
  | _ => none }
def DistanceSimplicialWrongFalsely : Prop := distanceSimplicialRow.holds Try.pinned (OpenSpec.ofChange distanceSimplicialWrong)

/-- 'gypsumlaw37.DistanceSquared': WHATEVER THE INPUT: true; the input reads as it did. -/
def distanceSquaredSpec : ChangeSpec := { name := "distanceSquared", fn := fun _ => fun
  | [d1, d2] => { results := [.lit (.bool true)], args := [d1, d2] }
  | _ => none }
def distanceSquaredRow : OpenClaim := { program := "ytkkhoppffmnkiaa", sum := "4386f8528adc236b470bdb6d402fb38e6e8b442623d47620b2d1c2a405462765", func := "gypsum/gypsumlaw37.DistanceSquared", spec := "distanceSquared", plainKeys := false, apart := false }
def DistanceSquaredSaid : Prop := distanceSquaredRow.holds Try.pinned (OpenSpec.ofChange distanceSquaredSpec)

/-- ITS FALSE NEIGHBOUR: 'it returns false'. Refute it at one input. -/
def distanceSquaredWrong : ChangeSpec := { name := "distanceSquared", fn := fun _ => fun
  | [d1, d2] => { results := [.lit (.bool false)], args := [d1, d2] }
  | _ => none }
def DistanceSquaredWrongFalsely : Prop := distanceSquaredRow.holds Try.pinned (OpenSpec.ofChange distanceSquaredWrong)

/-- 'gypsumlaw37.DistanceWithin': WHATEVER THE INPUT: true; the input reads as it did. -/
def distanceWithinSpec : ChangeSpec := { name := "distanceWithin", fn := fun _ => fun
  | [d1, d2, d3, d4, d5] => { results := [.lit (.bool true)], args := [d1, d2, d3, d4, d5] }
  | _ => none }
def distanceWithinRow : OpenClaim := { program := "ytkkhoppffmnkiaa", sum := "4386f8528adc236b470bdb6d402fb38e6e8b442623d47620b2d1c2a405462765", func := "gypsum/gypsumlaw37.DistanceWithin", spec := "distanceWithin", plainKeys := false, apart := false }
def DistanceWithinSaid : Prop := distanceWithinRow.holds Try.pinned (OpenSpec.ofChange distanceWithinSpec)

/-- ITS FALSE NEIGHBOUR: 'it returns false'. Refute it at one input. -/
def distanceWithinWrong : ChangeSpec := { name := "distanceWithin", fn := fun _ => fun
  | [d1, d2, d3, d4, d5] => { results := [.lit (.bool false)], args := [d1, d2, d3, d4, d5] }
  | _ => none }
def DistanceWithinWrongFalsely : Prop := distanceWithinRow.holds Try.pinned (OpenSpec.ofChange distanceWithinWrong)

/-- 'gypsumlaw37.DistanceSelf': WHATEVER THE INPUT: true; the input reads as it did. -/
def distanceSelfSpec : ChangeSpec := { name := "distanceSelf", fn := fun _ => fun
  | [d1, d2, d3] => { results := [.lit (.bool true)], args := [d1, d2, d3] }
  | _ => none }
def distanceSelfRow : OpenClaim := { program := "ytkkhoppffmnkiaa", sum := "4386f8528adc236b470bdb6d402fb38e6e8b442623d47620b2d1c2a405462765", func := "gypsum/gypsumlaw37.DistanceSelf", spec := "distanceSelf", plainKeys := false, apart := false }
def DistanceSelfSaid : Prop := distanceSelfRow.holds Try.pinned (OpenSpec.ofChange distanceSelfSpec)

/-- ITS FALSE NEIGHBOUR: 'it returns false'. Refute it at one input. -/
def distanceSelfWrong : ChangeSpec := { name := "distanceSelf", fn := fun _ => fun
  | [d1, d2, d3] => { results := [.lit (.bool false)], args := [d1, d2, d3] }
  | _ => none }
def DistanceSelfWrongFalsely : Prop := distanceSelfRow.holds Try.pinned (OpenSpec.ofChange distanceSelfWrong)

/-- 'gypsumlaw37.DistanceNone': WHATEVER THE INPUT: true; the input reads as it did. -/
def distanceNoneSpec : ChangeSpec := { name := "distanceNone", fn := fun _ => fun
  | [d1, d2, d3] => { results := [.lit (.bool true)], args := [d1, d2, d3] }
  | _ => none }
def distanceNoneRow : OpenClaim := { program := "ytkkhoppffmnkiaa", sum := "4386f8528adc236b470bdb6d402fb38e6e8b442623d47620b2d1c2a405462765", func := "gypsum/gypsumlaw37.DistanceNone", spec := "distanceNone", plainKeys := false, apart := false }
def DistanceNoneSaid : Prop := distanceNoneRow.holds Try.pinned (OpenSpec.ofChange distanceNoneSpec)

/-- ITS FALSE NEIGHBOUR: 'it returns false'. Refute it at one input. -/
def distanceNoneWrong : ChangeSpec := { name := "distanceNone", fn := fun _ => fun
  | [d1, d2, d3] => { results := [.lit (.bool false)], args := [d1, d2, d3] }
  | _ => none }
def DistanceNoneWrongFalsely : Prop := distanceNoneRow.holds Try.pinned (OpenSpec.ofChange distanceNoneWrong)

/- THE SECOND FORM. 'bulk': how many values and letters a reading holds, each counted each time it is reached (what is shared counts as often as it is met; a slice's spare places count too). A statement '..UptoSaid' is the law's where the arguments, and the package variables that the reading takes, are together of bulk at most 1048576: NARROWER than '..Said'. Prove '..Said' where nothing that the law and all that it calls make is longer than what came in: it says more and counts as full. Else prove '..UptoSaid'. A law counts once. -/
mutual
def uptoBulk {H : Type} : DataW H → Nat
  | .lit (.string bytes) => bytes.length + 1
  | .lit _ => 1
  | .nil => 1
  | .ptr d => uptoBulk d + 1
  | .slice elems spare => uptoBulkAll elems + uptoBulkAll spare + 1
  | .agg parts => uptoBulkAll parts + 1
  | .iface _ d => uptoBulk d + 1
  | .map entries => uptoBulkEntries entries + 1
  | .held _ => 1
def uptoBulkAll {H : Type} : List (DataW H) → Nat
  | [] => 0
  | d :: r => uptoBulk d + uptoBulkAll r
def uptoBulkEntries {H : Type} : List (Lit × DataW H) → Nat
  | [] => 0
  | x :: r => uptoBulkEntry x + uptoBulkEntries r
def uptoBulkEntry {H : Type} : Lit × DataW H → Nat
  | (.string bytes, d) => bytes.length + uptoBulk d + 1
  | (_, d) => uptoBulk d + 1
 end
def uptoSmall : (H : Type) → List (DataW H) → Bool := fun _ ds => decide (uptoBulkAll ds ≤ 1048576)
def OpenSpec.upto (s : _root_.Go.ChangeSpec) : _root_.Go.OpenSpec := { _root_.Go.OpenSpec.ofChange s with cond := some uptoSmall }

/-- 'gypsumlaw37.DistanceMoves', WHERE WHAT IT READS IS OF BULK AT MOST 1048576: true; the input reads as it did. -/
def distanceMovesUptoRow : OpenClaim := { program := "ytkkhoppffmnkiaa", sum := "4386f8528adc236b470bdb6d402fb38e6e8b442623d47620b2d1c2a405462765", func := "gypsum/gypsumlaw37.DistanceMoves", spec := "distanceMoves", plainKeys := false, apart := false, narrowed := true }
def DistanceMovesUptoSaid : Prop := distanceMovesUptoRow.holds Try.pinned (OpenSpec.upto distanceMovesSpec)

/-- 'gypsumlaw37.DistanceSimplicial', WHERE WHAT IT READS IS OF BULK AT MOST 1048576: true; the input reads as it did. -/
def distanceSimplicialUptoRow : OpenClaim := { program := "ytkkhoppffmnkiaa", sum := "4386f8528adc236b470bdb6d402fb38e6e8b442623d47620b2d1c2a405462765", func := "gypsum/gypsumlaw37.DistanceSimplicial", spec := "distanceSimplicial", plainKeys := false, apart := false, narrowed := true }
def DistanceSimplicialUptoSaid : Prop := distanceSimplicialUptoRow.holds Try.pinned (OpenSpec.upto distanceSimplicialSpec)

/-- 'gypsumlaw37.DistanceSquared', WHERE WHAT IT READS IS OF BULK AT MOST 1048576: true; the input reads as it did. -/
def distanceSquaredUptoRow : OpenClaim := { program := "ytkkhoppffmnkiaa", sum := "4386f8528adc236b470bdb6d402fb38e6e8b442623d47620b2d1c2a405462765", func := "gypsum/gypsumlaw37.DistanceSquared", spec := "distanceSquared", plainKeys := false, apart := false, narrowed := true }
def DistanceSquaredUptoSaid : Prop := distanceSquaredUptoRow.holds Try.pinned (OpenSpec.upto distanceSquaredSpec)

/-- 'gypsumlaw37.DistanceWithin', WHERE WHAT IT READS IS OF BULK AT MOST 1048576: true; the input reads as it did. -/
def distanceWithinUptoRow : OpenClaim := { program := "ytkkhoppffmnkiaa", sum := "4386f8528adc236b470bdb6d402fb38e6e8b442623d47620b2d1c2a405462765", func := "gypsum/gypsumlaw37.DistanceWithin", spec := "distanceWithin", plainKeys := false, apart := false, narrowed := true }
def DistanceWithinUptoSaid : Prop := distanceWithinUptoRow.holds Try.pinned (OpenSpec.upto distanceWithinSpec)

/-- 'gypsumlaw37.DistanceSelf', WHERE WHAT IT READS IS OF BULK AT MOST 1048576: true; the input reads as it did. -/
def distanceSelfUptoRow : OpenClaim := { program := "ytkkhoppffmnkiaa", sum := "4386f8528adc236b470bdb6d402fb38e6e8b442623d47620b2d1c2a405462765", func := "gypsum/gypsumlaw37.DistanceSelf", spec := "distanceSelf", plainKeys := false, apart := false, narrowed := true }
def DistanceSelfUptoSaid : Prop := distanceSelfUptoRow.holds Try.pinned (OpenSpec.upto distanceSelfSpec)

/-- 'gypsumlaw37.DistanceNone', WHERE WHAT IT READS IS OF BULK AT MOST 1048576: true; the input reads as it did. -/
def distanceNoneUptoRow : OpenClaim := { program := "ytkkhoppffmnkiaa", sum := "4386f8528adc236b470bdb6d402fb38e6e8b442623d47620b2d1c2a405462765", func := "gypsum/gypsumlaw37.DistanceNone", spec := "distanceNone", plainKeys := false, apart := false, narrowed := true }
def DistanceNoneUptoSaid : Prop := distanceNoneUptoRow.holds Try.pinned (OpenSpec.upto distanceNoneSpec)

end Rows
end Go.Proofs.Ytkkhoppffmnkiaa
