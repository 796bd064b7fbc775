/-
  No cell of these rows narrows 'for every input' (looked for: loops, veiled, ifaces, maps, wideKeys, modest, calm, conditions, laid).
  DERIVED. THE GIVEN ROWS OF THIS SEAT. 6 by the template 'for every input the law returns true; each argument reads behind the call as it read before'; 0 by the template 'total and deterministic' (their statements: YtahbknnehddjgaaTotals.lean).
  GIVEN WITH THE SEED: the statements are not yours to turn. If you find one false, say at which input.
  Laid BY PROGRAM, IN A SANDBOX (cutbox-rows.mjs): the forced cells as the released guide's own fill.sh prints them over the translation d2c847b3d70adbd8… (all of the seat's roots in one cut). By AI agents, Wed Nov 11 2026. No macro, syntax, notation, axiom, sorry.
-/
import Derived.Test.YtahbknnehddjgaaChecked
import GoSem.Claim
import GoSem.ClaimJoined
import GoSem.ClaimMapViews
import Derived.JoinedTies
import Derived.KernelRfl
namespace Go.Proofs.Ytahbknnehddjgaa
/- THE CELL 'sum', in the pinned program and in every row, IS THE sha256 OF THE DUMP (.gsa) THAT YtahbknnehddjgaaProg.lean LOADS. Nothing in Lean hashes anything: it is a label: what it is worth is what the hold of that sum in a sandbox is worth. -/
noncomputable def Try.pinned : Pinned := { name := "ytahbknnehddjgaa", sum := "d2c847b3d70adbd84c7da7c85695ad1f8eeec2e094ebb674cc9a0398dff296d9", checked := Try.checked }
namespace Rows
def none {H : Type} : Left H := { results := [], args := [] }

/-- 'gypsumlaw35.CollapseMaps': WHATEVER THE INPUT: true; the input reads as it did. -/
def collapseMapsSpec : ChangeSpec := { name := "collapseMaps", fn := fun _ => fun
  | [d1, d2, d3] => { results := [.lit (.bool true)], args := [d1, d2, d3] }
  | _ => none }
def collapseMapsRow : OpenClaim := { program := "ytahbknnehddjgaa", sum := "d2c847b3d70adbd84c7da7c85695ad1f8eeec2e094ebb674cc9a0398dff296d9", func := "gypsum/gypsumlaw35.CollapseMaps", spec := "collapseMaps", unfollowed := true, recurses := true, plainKeys := false, apart := false }
def CollapseMapsSaid : Prop := collapseMapsRow.holds Try.pinned (OpenSpec.ofChange collapseMapsSpec)

/-- ITS FALSE NEIGHBOUR: 'it returns false'. Refute it at one input. -/
def collapseMapsWrong : ChangeSpec := { name := "collapseMaps", fn := fun _ => fun
  | [d1, d2, d3] => { results := [.lit (.bool false)], args := [d1, d2, d3] }
  | _ => none }
def CollapseMapsWrongFalsely : Prop := collapseMapsRow.holds Try.pinned (OpenSpec.ofChange collapseMapsWrong)

/-- 'gypsumlaw35.CollapseMany': WHATEVER THE INPUT: true; the input reads as it did. -/
def collapseManySpec : ChangeSpec := { name := "collapseMany", fn := fun _ => fun
  | [d1, d2] => { results := [.lit (.bool true)], args := [d1, d2] }
  | _ => none }
def collapseManyRow : OpenClaim := { program := "ytahbknnehddjgaa", sum := "d2c847b3d70adbd84c7da7c85695ad1f8eeec2e094ebb674cc9a0398dff296d9", func := "gypsum/gypsumlaw35.CollapseMany", spec := "collapseMany", unfollowed := true, recurses := true, plainKeys := false, apart := false }
def CollapseManySaid : Prop := collapseManyRow.holds Try.pinned (OpenSpec.ofChange collapseManySpec)

/-- ITS FALSE NEIGHBOUR: 'it returns false'. Refute it at one input. -/
def collapseManyWrong : ChangeSpec := { name := "collapseMany", fn := fun _ => fun
  | [d1, d2] => { results := [.lit (.bool false)], args := [d1, d2] }
  | _ => none }
def CollapseManyWrongFalsely : Prop := collapseManyRow.holds Try.pinned (OpenSpec.ofChange collapseManyWrong)

/-- 'gypsumlaw35.CollapseMay': WHATEVER THE INPUT: true; the input reads as it did. -/
def collapseMaySpec : ChangeSpec := { name := "collapseMay", fn := fun _ => fun
  | [d1, d2, d3] => { results := [.lit (.bool true)], args := [d1, d2, d3] }
  | _ => none }
def collapseMayRow : OpenClaim := { program := "ytahbknnehddjgaa", sum := "d2c847b3d70adbd84c7da7c85695ad1f8eeec2e094ebb674cc9a0398dff296d9", func := "gypsum/gypsumlaw35.CollapseMay", spec := "collapseMay", unfollowed := true, recurses := true, plainKeys := false, apart := false }
def CollapseMaySaid : Prop := collapseMayRow.holds Try.pinned (OpenSpec.ofChange collapseMaySpec)

/-- ITS FALSE NEIGHBOUR: 'it returns false'. Refute it at one input. -/
def collapseMayWrong : ChangeSpec := { name := "collapseMay", fn := fun _ => fun
  | [d1, d2, d3] => { results := [.lit (.bool false)], args := [d1, d2, d3] }
  | _ => none }
def CollapseMayWrongFalsely : Prop := collapseMayRow.holds Try.pinned (OpenSpec.ofChange collapseMayWrong)

/-- 'gypsumlaw35.CollapseCounts': WHATEVER THE INPUT: true; the input reads as it did. -/
def collapseCountsSpec : ChangeSpec := { name := "collapseCounts", fn := fun _ => fun
  | [d1, d2, d3] => { results := [.lit (.bool true)], args := [d1, d2, d3] }
  | _ => none }
def collapseCountsRow : OpenClaim := { program := "ytahbknnehddjgaa", sum := "d2c847b3d70adbd84c7da7c85695ad1f8eeec2e094ebb674cc9a0398dff296d9", func := "gypsum/gypsumlaw35.CollapseCounts", spec := "collapseCounts", unfollowed := true, recurses := true, plainKeys := false, apart := false }
def CollapseCountsSaid : Prop := collapseCountsRow.holds Try.pinned (OpenSpec.ofChange collapseCountsSpec)

/-- ITS FALSE NEIGHBOUR: 'it returns false'. Refute it at one input. -/
def collapseCountsWrong : ChangeSpec := { name := "collapseCounts", fn := fun _ => fun
  | [d1, d2, d3] => { results := [.lit (.bool false)], args := [d1, d2, d3] }
  | _ => none }
def CollapseCountsWrongFalsely : Prop := collapseCountsRow.holds Try.pinned (OpenSpec.ofChange collapseCountsWrong)

/-- 'gypsumlaw34.LinkTurned': WHATEVER THE INPUT: true; the input reads as it did. -/
def linkTurnedSpec : ChangeSpec := { name := "linkTurned", fn := fun _ => fun
  | [d1, d2, d3, d4] => { results := [.lit (.bool true)], args := [d1, d2, d3, d4] }
  | _ => none }
def linkTurnedRow : OpenClaim := { program := "ytahbknnehddjgaa", sum := "d2c847b3d70adbd84c7da7c85695ad1f8eeec2e094ebb674cc9a0398dff296d9", func := "gypsum/gypsumlaw34.LinkTurned", spec := "linkTurned", unfollowed := true, recurses := true, plainKeys := false, apart := false }
def LinkTurnedSaid : Prop := linkTurnedRow.holds Try.pinned (OpenSpec.ofChange linkTurnedSpec)

/-- ITS FALSE NEIGHBOUR: 'it returns false'. Refute it at one input. -/
def linkTurnedWrong : ChangeSpec := { name := "linkTurned", fn := fun _ => fun
  | [d1, d2, d3, d4] => { results := [.lit (.bool false)], args := [d1, d2, d3, d4] }
  | _ => none }
def LinkTurnedWrongFalsely : Prop := linkTurnedRow.holds Try.pinned (OpenSpec.ofChange linkTurnedWrong)

/-- 'gypsumlaw34.LinkLess': WHATEVER THE INPUT: true; the input reads as it did. -/
def linkLessSpec : ChangeSpec := { name := "linkLess", fn := fun _ => fun
  | [d1, d2] => { results := [.lit (.bool true)], args := [d1, d2] }
  | _ => none }
def linkLessRow : OpenClaim := { program := "ytahbknnehddjgaa", sum := "d2c847b3d70adbd84c7da7c85695ad1f8eeec2e094ebb674cc9a0398dff296d9", func := "gypsum/gypsumlaw34.LinkLess", spec := "linkLess", unfollowed := true, recurses := true, plainKeys := false, apart := false }
def LinkLessSaid : Prop := linkLessRow.holds Try.pinned (OpenSpec.ofChange linkLessSpec)

/-- ITS FALSE NEIGHBOUR: 'it returns false'. Refute it at one input. -/
def linkLessWrong : ChangeSpec := { name := "linkLess", fn := fun _ => fun
  | [d1, d2] => { results := [.lit (.bool false)], args := [d1, d2] }
  | _ => none }
def LinkLessWrongFalsely : Prop := linkLessRow.holds Try.pinned (OpenSpec.ofChange linkLessWrong)

/- THE SECOND FORM. 'bulk': how many values and letters a reading holds, each counted each time it is reached (what is shared counts as often as it is met; a slice's spare places count too). A statement '..UptoSaid' is the law's where the arguments, and the package variables that the reading takes, are together of bulk at most 1048576: NARROWER than '..Said'. Prove '..Said' where nothing that the law and all that it calls make is longer than what came in: it says more and counts as full. Else prove '..UptoSaid'. A law counts once. -/
mutual
def uptoBulk {H : Type} : DataW H → Nat
  | .lit (.string bytes) => bytes.length + 1
  | .lit _ => 1
  | .nil => 1
  | .ptr d => uptoBulk d + 1
  | .slice elems spare => uptoBulkAll elems + uptoBulkAll spare + 1
  | .agg parts => uptoBulkAll parts + 1
  | .iface _ d => uptoBulk d + 1
  | .map entries => uptoBulkEntries entries + 1
  | .held _ => 1
def uptoBulkAll {H : Type} : List (DataW H) → Nat
  | [] => 0
  | d :: r => uptoBulk d + uptoBulkAll r
def uptoBulkEntries {H : Type} : List (Lit × DataW H) → Nat
  | [] => 0
  | x :: r => uptoBulkEntry x + uptoBulkEntries r
def uptoBulkEntry {H : Type} : Lit × DataW H → Nat
  | (.string bytes, d) => bytes.length + uptoBulk d + 1
  | (_, d) => uptoBulk d + 1
 end
def uptoSmall : (H : Type) → List (DataW H) → Bool := fun _ ds => decide (uptoBulkAll ds ≤ 1048576)
def OpenSpec.upto (s : _root_.Go.ChangeSpec) : _root_.Go.OpenSpec := { _root_.Go.OpenSpec.ofChange s with cond := some uptoSmall }

/-- 'gypsumlaw35.CollapseMaps', WHERE WHAT IT READS IS OF BULK AT MOST 1048576: true; the input reads as it did. -/
def collapseMapsUptoRow : OpenClaim := { program := "ytahbknnehddjgaa", sum := "d2c847b3d70adbd84c7da7c85695ad1f8eeec2e094ebb674cc9a0398dff296d9", func := "gypsum/gypsumlaw35.CollapseMaps", spec := "collapseMaps", unfollowed := true, recurses := true, plainKeys := false, apart := false, narrowed := true }
def CollapseMapsUptoSaid : Prop := collapseMapsUptoRow.holds Try.pinned (OpenSpec.upto collapseMapsSpec)

/-- 'gypsumlaw35.CollapseMany', WHERE WHAT IT READS IS OF BULK AT MOST 1048576: true; the input reads as it did. -/
def collapseManyUptoRow : OpenClaim := { program := "ytahbknnehddjgaa", sum := "d2c847b3d70adbd84c7da7c85695ad1f8eeec2e094ebb674cc9a0398dff296d9", func := "gypsum/gypsumlaw35.CollapseMany", spec := "collapseMany", unfollowed := true, recurses := true, plainKeys := false, apart := false, narrowed := true }
def CollapseManyUptoSaid : Prop := collapseManyUptoRow.holds Try.pinned (OpenSpec.upto collapseManySpec)

/-- 'gypsumlaw35.CollapseMay', WHERE WHAT IT READS IS OF BULK AT MOST 1048576: true; the input reads as it did. -/
def collapseMayUptoRow : OpenClaim := { program := "ytahbknnehddjgaa", sum := "d2c847b3d70adbd84c7da7c85695ad1f8eeec2e094ebb674cc9a0398dff296d9", func := "gypsum/gypsumlaw35.CollapseMay", spec := "collapseMay", unfollowed := true, recurses := true, plainKeys := false, apart := false, narrowed := true }
def CollapseMayUptoSaid : Prop := collapseMayUptoRow.holds Try.pinned (OpenSpec.upto collapseMaySpec)

/-- 'gypsumlaw35.CollapseCounts', WHERE WHAT IT READS IS OF BULK AT MOST 1048576: true; the input reads as it did. -/
def collapseCountsUptoRow : OpenClaim := { program := "ytahbknnehddjgaa", sum := "d2c847b3d70adbd84c7da7c85695ad1f8eeec2e094ebb674cc9a0398dff296d9", func := "gypsum/gypsumlaw35.CollapseCounts", spec := "collapseCounts", unfollowed := true, recurses := true, plainKeys := false, apart := false, narrowed := true }
def CollapseCountsUptoSaid : Prop := collapseCountsUptoRow.holds Try.pinned (OpenSpec.upto collapseCountsSpec)

/-- 'gypsumlaw34.LinkTurned', WHERE WHAT IT READS IS OF BULK AT MOST 1048576: true; the input reads as it did. -/
def linkTurnedUptoRow : OpenClaim := { program := "ytahbknnehddjgaa", sum := "d2c847b3d70adbd84c7da7c85695ad1f8eeec2e094ebb674cc9a0398dff296d9", func := "gypsum/gypsumlaw34.LinkTurned", spec := "linkTurned", unfollowed := true, recurses := true, plainKeys := false, apart := false, narrowed := true }
def LinkTurnedUptoSaid : Prop := linkTurnedUptoRow.holds Try.pinned (OpenSpec.upto linkTurnedSpec)

/-- 'gypsumlaw34.LinkLess', WHERE WHAT IT READS IS OF BULK AT MOST 1048576: true; the input reads as it did. -/
def linkLessUptoRow : OpenClaim := { program := "ytahbknnehddjgaa", sum := "d2c847b3d70adbd84c7da7c85695ad1f8eeec2e094ebb674cc9a0398dff296d9", func := "gypsum/gypsumlaw34.LinkLess", spec := "linkLess", unfollowed := true, recurses := true, plainKeys := false, apart := false, narrowed := true }
def LinkLessUptoSaid : Prop := linkLessUptoRow.holds Try.pinned (OpenSpec.upto linkLessSpec)

end Rows
end Go.Proofs.Ytahbknnehddjgaa
