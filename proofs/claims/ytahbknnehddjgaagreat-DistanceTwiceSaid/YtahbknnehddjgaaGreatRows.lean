/-
  No cell of these rows narrows 'for every input' (looked for: loops, veiled, ifaces, maps, wideKeys, modest, calm, conditions, laid).
  DERIVED. THE GIVEN ROWS OF THIS SEAT. 6 by the template 'for every input the law returns true; each argument reads behind the call as it read before'; 0 by the template 'total and deterministic' (their statements: YtahbknnehddjgaaGreatTotals.lean).
  GIVEN WITH THE SEED: the statements are not yours to turn. If you find one false, say at which input.
  Laid BY PROGRAM, IN A SANDBOX (cutbox-rows.mjs): the forced cells as the released guide's own fill.sh prints them over the translation 2534fd1912273c0f… (all of the seat's roots in one cut). By AI agents, Wed Nov 11 2026. No macro, syntax, notation, axiom, sorry.
-/
import Derived.Test.YtahbknnehddjgaaGreatChecked
import GoSem.Claim
import GoSem.ClaimJoined
import GoSem.ClaimMapViews
import Derived.JoinedTies
import Derived.KernelRfl
namespace Go.Proofs.YtahbknnehddjgaaGreat
/- THE CELL 'sum', in the pinned program and in every row, IS THE sha256 OF THE DUMP (.gsa) THAT YtahbknnehddjgaaGreatProg.lean LOADS. Nothing in Lean hashes anything: it is a label: what it is worth is what the hold of that sum in a sandbox is worth. -/
noncomputable def Tryz.pinned : Pinned := { name := "ytahbknnehddjgaagreat", sum := "2534fd1912273c0f60f5167bf9717ee8aeaeede5b0f4dd74eac9b4bd81593abf", checked := Tryz.checked }
namespace Rows
def none {H : Type} : Left H := { results := [], args := [] }

/-- 'gypsumlaw35.CollapseDoes': WHATEVER THE INPUT: true; the input reads as it did. -/
def collapseDoesSpec : ChangeSpec := { name := "collapseDoes", fn := fun _ => fun
  | [d1, d2, d3] => { results := [.lit (.bool true)], args := [d1, d2, d3] }
  | _ => none }
def collapseDoesRow : OpenClaim := { program := "ytahbknnehddjgaagreat", sum := "2534fd1912273c0f60f5167bf9717ee8aeaeede5b0f4dd74eac9b4bd81593abf", func := "gypsum/gypsumlaw35.CollapseDoes", spec := "collapseDoes", unfollowed := true, recurses := true, plainKeys := false, apart := false }
def CollapseDoesSaid : Prop := collapseDoesRow.holds Tryz.pinned (OpenSpec.ofChange collapseDoesSpec)

/-- ITS FALSE NEIGHBOUR: 'it returns false'. Refute it at one input. -/
def collapseDoesWrong : ChangeSpec := { name := "collapseDoes", fn := fun _ => fun
  | [d1, d2, d3] => { results := [.lit (.bool false)], args := [d1, d2, d3] }
  | _ => none }
def CollapseDoesWrongFalsely : Prop := collapseDoesRow.holds Tryz.pinned (OpenSpec.ofChange collapseDoesWrong)

/-- 'gypsumlaw35.CollapseBack': WHATEVER THE INPUT: true; the input reads as it did. -/
def collapseBackSpec : ChangeSpec := { name := "collapseBack", fn := fun _ => fun
  | [d1, d2, d3] => { results := [.lit (.bool true)], args := [d1, d2, d3] }
  | _ => none }
def collapseBackRow : OpenClaim := { program := "ytahbknnehddjgaagreat", sum := "2534fd1912273c0f60f5167bf9717ee8aeaeede5b0f4dd74eac9b4bd81593abf", func := "gypsum/gypsumlaw35.CollapseBack", spec := "collapseBack", unfollowed := true, recurses := true, plainKeys := false, apart := false }
def CollapseBackSaid : Prop := collapseBackRow.holds Tryz.pinned (OpenSpec.ofChange collapseBackSpec)

/-- ITS FALSE NEIGHBOUR: 'it returns false'. Refute it at one input. -/
def collapseBackWrong : ChangeSpec := { name := "collapseBack", fn := fun _ => fun
  | [d1, d2, d3] => { results := [.lit (.bool false)], args := [d1, d2, d3] }
  | _ => none }
def CollapseBackWrongFalsely : Prop := collapseBackRow.holds Tryz.pinned (OpenSpec.ofChange collapseBackWrong)

/-- 'gypsumlaw35.CollapseUndoes': WHATEVER THE INPUT: true; the input reads as it did. -/
def collapseUndoesSpec : ChangeSpec := { name := "collapseUndoes", fn := fun _ => fun
  | [d1, d2] => { results := [.lit (.bool true)], args := [d1, d2] }
  | _ => none }
def collapseUndoesRow : OpenClaim := { program := "ytahbknnehddjgaagreat", sum := "2534fd1912273c0f60f5167bf9717ee8aeaeede5b0f4dd74eac9b4bd81593abf", func := "gypsum/gypsumlaw35.CollapseUndoes", spec := "collapseUndoes", unfollowed := true, recurses := true, plainKeys := false, apart := false }
def CollapseUndoesSaid : Prop := collapseUndoesRow.holds Tryz.pinned (OpenSpec.ofChange collapseUndoesSpec)

/-- ITS FALSE NEIGHBOUR: 'it returns false'. Refute it at one input. -/
def collapseUndoesWrong : ChangeSpec := { name := "collapseUndoes", fn := fun _ => fun
  | [d1, d2] => { results := [.lit (.bool false)], args := [d1, d2] }
  | _ => none }
def CollapseUndoesWrongFalsely : Prop := collapseUndoesRow.holds Tryz.pinned (OpenSpec.ofChange collapseUndoesWrong)

/-- 'gypsumlaw37.DistanceCollapses': WHATEVER THE INPUT: true; the input reads as it did. -/
def distanceCollapsesSpec : ChangeSpec := { name := "distanceCollapses", fn := fun _ => fun
  | [d1, d2, d3] => { results := [.lit (.bool true)], args := [d1, d2, d3] }
  | _ => none }
def distanceCollapsesRow : OpenClaim := { program := "ytahbknnehddjgaagreat", sum := "2534fd1912273c0f60f5167bf9717ee8aeaeede5b0f4dd74eac9b4bd81593abf", func := "gypsum/gypsumlaw37.DistanceCollapses", spec := "distanceCollapses", unfollowed := true, recurses := true, plainKeys := false, apart := false }
def DistanceCollapsesSaid : Prop := distanceCollapsesRow.holds Tryz.pinned (OpenSpec.ofChange distanceCollapsesSpec)

/-- ITS FALSE NEIGHBOUR: 'it returns false'. Refute it at one input. -/
def distanceCollapsesWrong : ChangeSpec := { name := "distanceCollapses", fn := fun _ => fun
  | [d1, d2, d3] => { results := [.lit (.bool false)], args := [d1, d2, d3] }
  | _ => none }
def DistanceCollapsesWrongFalsely : Prop := distanceCollapsesRow.holds Tryz.pinned (OpenSpec.ofChange distanceCollapsesWrong)

/-- 'gypsumlaw37.DistanceTwice': WHATEVER THE INPUT: true; the input reads as it did. -/
def distanceTwiceSpec : ChangeSpec := { name := "distanceTwice", fn := fun _ => fun
  | [d1, d2, d3, d4] => { results := [.lit (.bool true)], args := [d1, d2, d3, d4] }
  | _ => none }
def distanceTwiceRow : OpenClaim := { program := "ytahbknnehddjgaagreat", sum := "2534fd1912273c0f60f5167bf9717ee8aeaeede5b0f4dd74eac9b4bd81593abf", func := "gypsum/gypsumlaw37.DistanceTwice", spec := "distanceTwice", unfollowed := true, recurses := true, plainKeys := false, apart := false }
def DistanceTwiceSaid : Prop := distanceTwiceRow.holds Tryz.pinned (OpenSpec.ofChange distanceTwiceSpec)

/-- ITS FALSE NEIGHBOUR: 'it returns false'. Refute it at one input. -/
def distanceTwiceWrong : ChangeSpec := { name := "distanceTwice", fn := fun _ => fun
  | [d1, d2, d3, d4] => { results := [.lit (.bool false)], args := [d1, d2, d3, d4] }
  | _ => none }
def DistanceTwiceWrongFalsely : Prop := distanceTwiceRow.holds Tryz.pinned (OpenSpec.ofChange distanceTwiceWrong)

/-- 'gypsumlaw35.CollapseShape': WHATEVER THE INPUT: true; the input reads as it did. -/
def collapseShapeSpec : ChangeSpec := { name := "collapseShape", fn := fun _ => fun
  | [d1, d2, d3] => { results := [.lit (.bool true)], args := [d1, d2, d3] }
  | _ => none }
def collapseShapeRow : OpenClaim := { program := "ytahbknnehddjgaagreat", sum := "2534fd1912273c0f60f5167bf9717ee8aeaeede5b0f4dd74eac9b4bd81593abf", func := "gypsum/gypsumlaw35.CollapseShape", spec := "collapseShape", unfollowed := true, recurses := true, plainKeys := false, apart := false }
def CollapseShapeSaid : Prop := collapseShapeRow.holds Tryz.pinned (OpenSpec.ofChange collapseShapeSpec)

/-- ITS FALSE NEIGHBOUR: 'it returns false'. Refute it at one input. -/
def collapseShapeWrong : ChangeSpec := { name := "collapseShape", fn := fun _ => fun
  | [d1, d2, d3] => { results := [.lit (.bool false)], args := [d1, d2, d3] }
  | _ => none }
def CollapseShapeWrongFalsely : Prop := collapseShapeRow.holds Tryz.pinned (OpenSpec.ofChange collapseShapeWrong)

/- THE SECOND FORM. 'bulk': how many values and letters a reading holds, each counted each time it is reached (what is shared counts as often as it is met; a slice's spare places count too). A statement '..UptoSaid' is the law's where the arguments, and the package variables that the reading takes, are together of bulk at most 1048576: NARROWER than '..Said'. Prove '..Said' where nothing that the law and all that it calls make is longer than what came in: it says more and counts as full. Else prove '..UptoSaid'. A law counts once. -/
mutual
def uptoBulk {H : Type} : DataW H → Nat
  | .lit (.string bytes) => bytes.length + 1
  | .lit _ => 1
  | .nil => 1
  | .ptr d => uptoBulk d + 1
  | .slice elems spare => uptoBulkAll elems + uptoBulkAll spare + 1
  | .agg parts => uptoBulkAll parts + 1
  | .iface _ d => uptoBulk d + 1
  | .map entries => uptoBulkEntries entries + 1
  | .held _ => 1
def uptoBulkAll {H : Type} : List (DataW H) → Nat
  | [] => 0
  | d :: r => uptoBulk d + uptoBulkAll r
def uptoBulkEntries {H : Type} : List (Lit × DataW H) → Nat
  | [] => 0
  | x :: r => uptoBulkEntry x + uptoBulkEntries r
def uptoBulkEntry {H : Type} : Lit × DataW H → Nat
  | (.string bytes, d) => bytes.length + uptoBulk d + 1
  | (_, d) => uptoBulk d + 1
 end
def uptoSmall : (H : Type) → List (DataW H) → Bool := fun _ ds => decide (uptoBulkAll ds ≤ 1048576)
def OpenSpec.upto (s : _root_.Go.ChangeSpec) : _root_.Go.OpenSpec := { _root_.Go.OpenSpec.ofChange s with cond := some uptoSmall }

/-- 'gypsumlaw35.CollapseDoes', WHERE WHAT IT READS IS OF BULK AT MOST 1048576: true; the input reads as it did. -/
def collapseDoesUptoRow : OpenClaim := { program := "ytahbknnehddjgaagreat", sum := "2534fd1912273c0f60f5167bf9717ee8aeaeede5b0f4dd74eac9b4bd81593abf", func := "gypsum/gypsumlaw35.CollapseDoes", spec := "collapseDoes", unfollowed := true, recurses := true, plainKeys := false, apart := false, narrowed := true }
def CollapseDoesUptoSaid : Prop := collapseDoesUptoRow.holds Tryz.pinned (OpenSpec.upto collapseDoesSpec)

/-- 'gypsumlaw35.CollapseBack', WHERE WHAT IT READS IS OF BULK AT MOST 1048576: true; the input reads as it did. -/
def collapseBackUptoRow : OpenClaim := { program := "ytahbknnehddjgaagreat", sum := "2534fd1912273c0f60f5167bf9717ee8aeaeede5b0f4dd74eac9b4bd81593abf", func := "gypsum/gypsumlaw35.CollapseBack", spec := "collapseBack", unfollowed := true, recurses := true, plainKeys := false, apart := false, narrowed := true }
def CollapseBackUptoSaid : Prop := collapseBackUptoRow.holds Tryz.pinned (OpenSpec.upto collapseBackSpec)

/-- 'gypsumlaw35.CollapseUndoes', WHERE WHAT IT READS IS OF BULK AT MOST 1048576: true; the input reads as it did. -/
def collapseUndoesUptoRow : OpenClaim := { program := "ytahbknnehddjgaagreat", sum := "2534fd1912273c0f60f5167bf9717ee8aeaeede5b0f4dd74eac9b4bd81593abf", func := "gypsum/gypsumlaw35.CollapseUndoes", spec := "collapseUndoes", unfollowed := true, recurses := true, plainKeys := false, apart := false, narrowed := true }
def CollapseUndoesUptoSaid : Prop := collapseUndoesUptoRow.holds Tryz.pinned (OpenSpec.upto collapseUndoesSpec)

/-- 'gypsumlaw37.DistanceCollapses', WHERE WHAT IT READS IS OF BULK AT MOST 1048576: true; the input reads as it did. -/
def distanceCollapsesUptoRow : OpenClaim := { program := "ytahbknnehddjgaagreat", sum := "2534fd1912273c0f60f5167bf9717ee8aeaeede5b0f4dd74eac9b4bd81593abf", func := "gypsum/gypsumlaw37.DistanceCollapses", spec := "distanceCollapses", unfollowed := true, recurses := true, plainKeys := false, apart := false, narrowed := true }
def DistanceCollapsesUptoSaid : Prop := distanceCollapsesUptoRow.holds Tryz.pinned (OpenSpec.upto distanceCollapsesSpec)

/-- 'gypsumlaw37.DistanceTwice', WHERE WHAT IT READS IS OF BULK AT MOST 1048576: true; the input reads as it did. -/
def distanceTwiceUptoRow : OpenClaim := { program := "ytahbknnehddjgaagreat", sum := "2534fd1912273c0f60f5167bf9717ee8aeaeede5b0f4dd74eac9b4bd81593abf", func := "gypsum/gypsumlaw37.DistanceTwice", spec := "distanceTwice", unfollowed := true, recurses := true, plainKeys := false, apart := false, narrowed := true }
def DistanceTwiceUptoSaid : Prop := distanceTwiceUptoRow.holds Tryz.pinned (OpenSpec.upto distanceTwiceSpec)

/-- 'gypsumlaw35.CollapseShape', WHERE WHAT IT READS IS OF BULK AT MOST 1048576: true; the input reads as it did. -/
def collapseShapeUptoRow : OpenClaim := { program := "ytahbknnehddjgaagreat", sum := "2534fd1912273c0f60f5167bf9717ee8aeaeede5b0f4dd74eac9b4bd81593abf", func := "gypsum/gypsumlaw35.CollapseShape", spec := "collapseShape", unfollowed := true, recurses := true, plainKeys := false, apart := false, narrowed := true }
def CollapseShapeUptoSaid : Prop := collapseShapeUptoRow.holds Tryz.pinned (OpenSpec.upto collapseShapeSpec)

end Rows
end Go.Proofs.YtahbknnehddjgaaGreat
