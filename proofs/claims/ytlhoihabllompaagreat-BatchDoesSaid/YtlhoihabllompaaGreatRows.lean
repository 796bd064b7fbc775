/-
  No cell of these rows narrows 'for every input' (looked for: loops, veiled, ifaces, maps, wideKeys, modest, calm, conditions, laid).
  DERIVED. THE GIVEN ROWS OF THIS SEAT. 10 by the template 'for every input the law returns true; each argument reads behind the call as it read before'; 0 by the template 'total and deterministic' (their statements: YtlhoihabllompaaGreatTotals.lean).
  GIVEN WITH THE SEED: the statements are not yours to turn. If you find one false, say at which input.
  Laid BY PROGRAM, IN A SANDBOX (cutbox-rows.mjs): the forced cells as the released guide's own fill.sh prints them over the translation 2bf2674894985327… (all of the seat's roots in one cut). By AI agents, Wed Nov 11 2026. No macro, syntax, notation, axiom, sorry.
-/
import Derived.Test.YtlhoihabllompaaGreatChecked
import GoSem.Claim
import GoSem.ClaimJoined
import GoSem.ClaimMapViews
import Derived.JoinedTies
import Derived.KernelRfl
namespace Go.Proofs.YtlhoihabllompaaGreat
/- THE CELL 'sum', in the pinned program and in every row, IS THE sha256 OF THE DUMP (.gsa) THAT YtlhoihabllompaaGreatProg.lean LOADS. Nothing in Lean hashes anything: it is a label: what it is worth is what the hold of that sum in a sandbox is worth. -/
noncomputable def Tryz.pinned : Pinned := { name := "ytlhoihabllompaagreat", sum := "2bf267489498532737560956d0176c084b15d8b4642a385f9154e6aed7c48b9c", checked := Tryz.checked }
namespace Rows
def none {H : Type} : Left H := { results := [], args := [] }

/-- 'gypsumlaw36.BatchIs': WHATEVER THE INPUT: true; the input reads as it did. -/
def batchIsSpec : ChangeSpec := { name := "batchIs", fn := fun _ => fun
  | [d1, d2] => { results := [.lit (.bool true)], args := [d1, d2] }
  | _ => none }
def batchIsRow : OpenClaim := { program := "ytlhoihabllompaagreat", sum := "2bf267489498532737560956d0176c084b15d8b4642a385f9154e6aed7c48b9c", func := "gypsum/gypsumlaw36.BatchIs", spec := "batchIs", unfollowed := true, recurses := true, plainKeys := false, apart := false }
def BatchIsSaid : Prop := batchIsRow.holds Tryz.pinned (OpenSpec.ofChange batchIsSpec)

/-- ITS FALSE NEIGHBOUR: 'it returns false'. Refute it at one input. -/
def batchIsWrong : ChangeSpec := { name := "batchIs", fn := fun _ => fun
  | [d1, d2] => { results := [.lit (.bool false)], args := [d1, d2] }
  | _ => none }
def BatchIsWrongFalsely : Prop := batchIsRow.holds Tryz.pinned (OpenSpec.ofChange batchIsWrong)

/-- 'gypsumlaw36.BatchUndoes': WHATEVER THE INPUT: true; the input reads as it did. -/
def batchUndoesSpec : ChangeSpec := { name := "batchUndoes", fn := fun _ => fun
  | [d1, d2] => { results := [.lit (.bool true)], args := [d1, d2] }
  | _ => none }
def batchUndoesRow : OpenClaim := { program := "ytlhoihabllompaagreat", sum := "2bf267489498532737560956d0176c084b15d8b4642a385f9154e6aed7c48b9c", func := "gypsum/gypsumlaw36.BatchUndoes", spec := "batchUndoes", unfollowed := true, recurses := true, plainKeys := false, apart := false }
def BatchUndoesSaid : Prop := batchUndoesRow.holds Tryz.pinned (OpenSpec.ofChange batchUndoesSpec)

/-- ITS FALSE NEIGHBOUR: 'it returns false'. Refute it at one input. -/
def batchUndoesWrong : ChangeSpec := { name := "batchUndoes", fn := fun _ => fun
  | [d1, d2] => { results := [.lit (.bool false)], args := [d1, d2] }
  | _ => none }
def BatchUndoesWrongFalsely : Prop := batchUndoesRow.holds Tryz.pinned (OpenSpec.ofChange batchUndoesWrong)

/-- 'gypsumlaw36.BatchChooses': WHATEVER THE INPUT: true; the input reads as it did. -/
def batchChoosesSpec : ChangeSpec := { name := "batchChooses", fn := fun _ => fun
  | [d1, d2] => { results := [.lit (.bool true)], args := [d1, d2] }
  | _ => none }
def batchChoosesRow : OpenClaim := { program := "ytlhoihabllompaagreat", sum := "2bf267489498532737560956d0176c084b15d8b4642a385f9154e6aed7c48b9c", func := "gypsum/gypsumlaw36.BatchChooses", spec := "batchChooses", unfollowed := true, recurses := true, plainKeys := false, apart := false }
def BatchChoosesSaid : Prop := batchChoosesRow.holds Tryz.pinned (OpenSpec.ofChange batchChoosesSpec)

/-- ITS FALSE NEIGHBOUR: 'it returns false'. Refute it at one input. -/
def batchChoosesWrong : ChangeSpec := { name := "batchChooses", fn := fun _ => fun
  | [d1, d2] => { results := [.lit (.bool false)], args := [d1, d2] }
  | _ => none }
def BatchChoosesWrongFalsely : Prop := batchChoosesRow.holds Tryz.pinned (OpenSpec.ofChange batchChoosesWrong)

/-- 'gypsumlaw36.BatchApart': WHATEVER THE INPUT: true; the input reads as it did. -/
def batchApartSpec : ChangeSpec := { name := "batchApart", fn := fun _ => fun
  | [d1, d2, d3, d4] => { results := [.lit (.bool true)], args := [d1, d2, d3, d4] }
  | _ => none }
def batchApartRow : OpenClaim := { program := "ytlhoihabllompaagreat", sum := "2bf267489498532737560956d0176c084b15d8b4642a385f9154e6aed7c48b9c", func := "gypsum/gypsumlaw36.BatchApart", spec := "batchApart", unfollowed := true, recurses := true, plainKeys := false, apart := false }
def BatchApartSaid : Prop := batchApartRow.holds Tryz.pinned (OpenSpec.ofChange batchApartSpec)

/-- ITS FALSE NEIGHBOUR: 'it returns false'. Refute it at one input. -/
def batchApartWrong : ChangeSpec := { name := "batchApart", fn := fun _ => fun
  | [d1, d2, d3, d4] => { results := [.lit (.bool false)], args := [d1, d2, d3, d4] }
  | _ => none }
def BatchApartWrongFalsely : Prop := batchApartRow.holds Tryz.pinned (OpenSpec.ofChange batchApartWrong)

/-- 'gypsumlaw36.BatchDoes': WHATEVER THE INPUT: true; the input reads as it did. -/
def batchDoesSpec : ChangeSpec := { name := "batchDoes", fn := fun _ => fun
  | [d1, d2] => { results := [.lit (.bool true)], args := [d1, d2] }
  | _ => none }
def batchDoesRow : OpenClaim := { program := "ytlhoihabllompaagreat", sum := "2bf267489498532737560956d0176c084b15d8b4642a385f9154e6aed7c48b9c", func := "gypsum/gypsumlaw36.BatchDoes", spec := "batchDoes", unfollowed := true, recurses := true, plainKeys := false, apart := false }
def BatchDoesSaid : Prop := batchDoesRow.holds Tryz.pinned (OpenSpec.ofChange batchDoesSpec)

/-- ITS FALSE NEIGHBOUR: 'it returns false'. Refute it at one input. -/
def batchDoesWrong : ChangeSpec := { name := "batchDoes", fn := fun _ => fun
  | [d1, d2] => { results := [.lit (.bool false)], args := [d1, d2] }
  | _ => none }
def BatchDoesWrongFalsely : Prop := batchDoesRow.holds Tryz.pinned (OpenSpec.ofChange batchDoesWrong)

/-- 'gypsumlaw36.BatchOrder': WHATEVER THE INPUT: true; the input reads as it did. -/
def batchOrderSpec : ChangeSpec := { name := "batchOrder", fn := fun _ => fun
  | [d1, d2, d3, d4] => { results := [.lit (.bool true)], args := [d1, d2, d3, d4] }
  | _ => none }
def batchOrderRow : OpenClaim := { program := "ytlhoihabllompaagreat", sum := "2bf267489498532737560956d0176c084b15d8b4642a385f9154e6aed7c48b9c", func := "gypsum/gypsumlaw36.BatchOrder", spec := "batchOrder", unfollowed := true, recurses := true, plainKeys := false, apart := false }
def BatchOrderSaid : Prop := batchOrderRow.holds Tryz.pinned (OpenSpec.ofChange batchOrderSpec)

/-- ITS FALSE NEIGHBOUR: 'it returns false'. Refute it at one input. -/
def batchOrderWrong : ChangeSpec := { name := "batchOrder", fn := fun _ => fun
  | [d1, d2, d3, d4] => { results := [.lit (.bool false)], args := [d1, d2, d3, d4] }
  | _ => none }
def BatchOrderWrongFalsely : Prop := batchOrderRow.holds Tryz.pinned (OpenSpec.ofChange batchOrderWrong)

/-- 'gypsumlaw36.BatchNone': WHATEVER THE INPUT: true; the input reads as it did. -/
def batchNoneSpec : ChangeSpec := { name := "batchNone", fn := fun _ => fun
  | [d1, d2, d3, d4] => { results := [.lit (.bool true)], args := [d1, d2, d3, d4] }
  | _ => none }
def batchNoneRow : OpenClaim := { program := "ytlhoihabllompaagreat", sum := "2bf267489498532737560956d0176c084b15d8b4642a385f9154e6aed7c48b9c", func := "gypsum/gypsumlaw36.BatchNone", spec := "batchNone", unfollowed := true, recurses := true, plainKeys := false, apart := false }
def BatchNoneSaid : Prop := batchNoneRow.holds Tryz.pinned (OpenSpec.ofChange batchNoneSpec)

/-- ITS FALSE NEIGHBOUR: 'it returns false'. Refute it at one input. -/
def batchNoneWrong : ChangeSpec := { name := "batchNone", fn := fun _ => fun
  | [d1, d2, d3, d4] => { results := [.lit (.bool false)], args := [d1, d2, d3, d4] }
  | _ => none }
def BatchNoneWrongFalsely : Prop := batchNoneRow.holds Tryz.pinned (OpenSpec.ofChange batchNoneWrong)

/-- 'gypsumlaw44.CarveBalls': WHATEVER THE INPUT: true; the input reads as it did. -/
def carveBallsSpec : ChangeSpec := { name := "carveBalls", fn := fun _ => fun
  | [d1, d2, d3] => { results := [.lit (.bool true)], args := [d1, d2, d3] }
  | _ => none }
def carveBallsRow : OpenClaim := { program := "ytlhoihabllompaagreat", sum := "2bf267489498532737560956d0176c084b15d8b4642a385f9154e6aed7c48b9c", func := "gypsum/gypsumlaw44.CarveBalls", spec := "carveBalls", unfollowed := true, recurses := true, plainKeys := false, apart := false }
def CarveBallsSaid : Prop := carveBallsRow.holds Tryz.pinned (OpenSpec.ofChange carveBallsSpec)

/-- ITS FALSE NEIGHBOUR: 'it returns false'. Refute it at one input. -/
def carveBallsWrong : ChangeSpec := { name := "carveBalls", fn := fun _ => fun
  | [d1, d2, d3] => { results := [.lit (.bool false)], args := [d1, d2, d3] }
  | _ => none }
def CarveBallsWrongFalsely : Prop := carveBallsRow.holds Tryz.pinned (OpenSpec.ofChange carveBallsWrong)

/-- 'gypsumlaw44.CarveTakes': WHATEVER THE INPUT: true; the input reads as it did. -/
def carveTakesSpec : ChangeSpec := { name := "carveTakes", fn := fun _ => fun
  | [d1, d2] => { results := [.lit (.bool true)], args := [d1, d2] }
  | _ => none }
def carveTakesRow : OpenClaim := { program := "ytlhoihabllompaagreat", sum := "2bf267489498532737560956d0176c084b15d8b4642a385f9154e6aed7c48b9c", func := "gypsum/gypsumlaw44.CarveTakes", spec := "carveTakes", unfollowed := true, recurses := true, plainKeys := false, apart := false }
def CarveTakesSaid : Prop := carveTakesRow.holds Tryz.pinned (OpenSpec.ofChange carveTakesSpec)

/-- ITS FALSE NEIGHBOUR: 'it returns false'. Refute it at one input. -/
def carveTakesWrong : ChangeSpec := { name := "carveTakes", fn := fun _ => fun
  | [d1, d2] => { results := [.lit (.bool false)], args := [d1, d2] }
  | _ => none }
def CarveTakesWrongFalsely : Prop := carveTakesRow.holds Tryz.pinned (OpenSpec.ofChange carveTakesWrong)

/-- 'gypsumlaw44.CarveOwn': WHATEVER THE INPUT: true; the input reads as it did. -/
def carveOwnSpec : ChangeSpec := { name := "carveOwn", fn := fun _ => fun
  | [d1, d2] => { results := [.lit (.bool true)], args := [d1, d2] }
  | _ => none }
def carveOwnRow : OpenClaim := { program := "ytlhoihabllompaagreat", sum := "2bf267489498532737560956d0176c084b15d8b4642a385f9154e6aed7c48b9c", func := "gypsum/gypsumlaw44.CarveOwn", spec := "carveOwn", unfollowed := true, recurses := true, plainKeys := false, apart := false }
def CarveOwnSaid : Prop := carveOwnRow.holds Tryz.pinned (OpenSpec.ofChange carveOwnSpec)

/-- ITS FALSE NEIGHBOUR: 'it returns false'. Refute it at one input. -/
def carveOwnWrong : ChangeSpec := { name := "carveOwn", fn := fun _ => fun
  | [d1, d2] => { results := [.lit (.bool false)], args := [d1, d2] }
  | _ => none }
def CarveOwnWrongFalsely : Prop := carveOwnRow.holds Tryz.pinned (OpenSpec.ofChange carveOwnWrong)

/- THE SECOND FORM. 'bulk': how many values and letters a reading holds, each counted each time it is reached (what is shared counts as often as it is met; a slice's spare places count too). A statement '..UptoSaid' is the law's where the arguments, and the package variables that the reading takes, are together of bulk at most 1048576: NARROWER than '..Said'. Prove '..Said' where nothing that the law and all that it calls make is longer than what came in: it says more and counts as full. Else prove '..UptoSaid'. A law counts once. -/
mutual
def uptoBulk {H : Type} : DataW H → Nat
  | .lit (.string bytes) => bytes.length + 1
  | .lit _ => 1
  | .nil => 1
  | .ptr d => uptoBulk d + 1
  | .slice elems spare => uptoBulkAll elems + uptoBulkAll spare + 1
  | .agg parts => uptoBulkAll parts + 1
  | .iface _ d => uptoBulk d + 1
  | .map entries => uptoBulkEntries entries + 1
  | .held _ => 1
def uptoBulkAll {H : Type} : List (DataW H) → Nat
  | [] => 0
  | d :: r => uptoBulk d + uptoBulkAll r
def uptoBulkEntries {H : Type} : List (Lit × DataW H) → Nat
  | [] => 0
  | x :: r => uptoBulkEntry x + uptoBulkEntries r
def uptoBulkEntry {H : Type} : Lit × DataW H → Nat
  | (.string bytes, d) => bytes.length + uptoBulk d + 1
  | (_, d) => uptoBulk d + 1
 end
def uptoSmall : (H : Type) → List (DataW H) → Bool := fun _ ds => decide (uptoBulkAll ds ≤ 1048576)
def OpenSpec.upto (s : _root_.Go.ChangeSpec) : _root_.Go.OpenSpec := { _root_.Go.OpenSpec.ofChange s with cond := some uptoSmall }

/-- 'gypsumlaw36.BatchIs', WHERE WHAT IT READS IS OF BULK AT MOST 1048576: true; the input reads as it did. -/
def batchIsUptoRow : OpenClaim := { program := "ytlhoihabllompaagreat", sum := "2bf267489498532737560956d0176c084b15d8b4642a385f9154e6aed7c48b9c", func := "gypsum/gypsumlaw36.BatchIs", spec := "batchIs", unfollowed := true, recurses := true, plainKeys := false, apart := false, narrowed := true }
def BatchIsUptoSaid : Prop := batchIsUptoRow.holds Tryz.pinned (OpenSpec.upto batchIsSpec)

/-- 'gypsumlaw36.BatchUndoes', WHERE WHAT IT READS IS OF BULK AT MOST 1048576: true; the input reads as it did. -/
def batchUndoesUptoRow : OpenClaim := { program := "ytlhoihabllompaagreat", sum := "2bf267489498532737560956d0176c084b15d8b4642a385f9154e6aed7c48b9c", func := "gypsum/gypsumlaw36.BatchUndoes", spec := "batchUndoes", unfollowed := true, recurses := true, plainKeys := false, apart := false, narrowed := true }
def BatchUndoesUptoSaid : Prop := batchUndoesUptoRow.holds Tryz.pinned (OpenSpec.upto batchUndoesSpec)

/-- 'gypsumlaw36.BatchChooses', WHERE WHAT IT READS IS OF BULK AT MOST 1048576: true; the input reads as it did. -/
def batchChoosesUptoRow : OpenClaim := { program := "ytlhoihabllompaagreat", sum := "2bf267489498532737560956d0176c084b15d8b4642a385f9154e6aed7c48b9c", func := "gypsum/gypsumlaw36.BatchChooses", spec := "batchChooses", unfollowed := true, recurses := true, plainKeys := false, apart := false, narrowed := true }
def BatchChoosesUptoSaid : Prop := batchChoosesUptoRow.holds Tryz.pinned (OpenSpec.upto batchChoosesSpec)

/-- 'gypsumlaw36.BatchApart', WHERE WHAT IT READS IS OF BULK AT MOST 1048576: true; the input reads as it did. -/
def batchApartUptoRow : OpenClaim := { program := "ytlhoihabllompaagreat", sum := "2bf267489498532737560956d0176c084b15d8b4642a385f9154e6aed7c48b9c", func := "gypsum/gypsumlaw36.BatchApart", spec := "batchApart", unfollowed := true, recurses := true, plainKeys := false, apart := false, narrowed := true }
def BatchApartUptoSaid : Prop := batchApartUptoRow.holds Tryz.pinned (OpenSpec.upto batchApartSpec)

/-- 'gypsumlaw36.BatchDoes', WHERE WHAT IT READS IS OF BULK AT MOST 1048576: true; the input reads as it did. -/
def batchDoesUptoRow : OpenClaim := { program := "ytlhoihabllompaagreat", sum := "2bf267489498532737560956d0176c084b15d8b4642a385f9154e6aed7c48b9c", func := "gypsum/gypsumlaw36.BatchDoes", spec := "batchDoes", unfollowed := true, recurses := true, plainKeys := false, apart := false, narrowed := true }
def BatchDoesUptoSaid : Prop := batchDoesUptoRow.holds Tryz.pinned (OpenSpec.upto batchDoesSpec)

/-- 'gypsumlaw36.BatchOrder', WHERE WHAT IT READS IS OF BULK AT MOST 1048576: true; the input reads as it did. -/
def batchOrderUptoRow : OpenClaim := { program := "ytlhoihabllompaagreat", sum := "2bf267489498532737560956d0176c084b15d8b4642a385f9154e6aed7c48b9c", func := "gypsum/gypsumlaw36.BatchOrder", spec := "batchOrder", unfollowed := true, recurses := true, plainKeys := false, apart := false, narrowed := true }
def BatchOrderUptoSaid : Prop := batchOrderUptoRow.holds Tryz.pinned (OpenSpec.upto batchOrderSpec)

/-- 'gypsumlaw36.BatchNone', WHERE WHAT IT READS IS OF BULK AT MOST 1048576: true; the input reads as it did. -/
def batchNoneUptoRow : OpenClaim := { program := "ytlhoihabllompaagreat", sum := "2bf267489498532737560956d0176c084b15d8b4642a385f9154e6aed7c48b9c", func := "gypsum/gypsumlaw36.BatchNone", spec := "batchNone", unfollowed := true, recurses := true, plainKeys := false, apart := false, narrowed := true }
def BatchNoneUptoSaid : Prop := batchNoneUptoRow.holds Tryz.pinned (OpenSpec.upto batchNoneSpec)

/-- 'gypsumlaw44.CarveBalls', WHERE WHAT IT READS IS OF BULK AT MOST 1048576: true; the input reads as it did. -/
def carveBallsUptoRow : OpenClaim := { program := "ytlhoihabllompaagreat", sum := "2bf267489498532737560956d0176c084b15d8b4642a385f9154e6aed7c48b9c", func := "gypsum/gypsumlaw44.CarveBalls", spec := "carveBalls", unfollowed := true, recurses := true, plainKeys := false, apart := false, narrowed := true }
def CarveBallsUptoSaid : Prop := carveBallsUptoRow.holds Tryz.pinned (OpenSpec.upto carveBallsSpec)

/-- 'gypsumlaw44.CarveTakes', WHERE WHAT IT READS IS OF BULK AT MOST 1048576: true; the input reads as it did. -/
def carveTakesUptoRow : OpenClaim := { program := "ytlhoihabllompaagreat", sum := "2bf267489498532737560956d0176c084b15d8b4642a385f9154e6aed7c48b9c", func := "gypsum/gypsumlaw44.CarveTakes", spec := "carveTakes", unfollowed := true, recurses := true, plainKeys := false, apart := false, narrowed := true }
def CarveTakesUptoSaid : Prop := carveTakesUptoRow.holds Tryz.pinned (OpenSpec.upto carveTakesSpec)

/-- 'gypsumlaw44.CarveOwn', WHERE WHAT IT READS IS OF BULK AT MOST 1048576: true; the input reads as it did. -/
def carveOwnUptoRow : OpenClaim := { program := "ytlhoihabllompaagreat", sum := "2bf267489498532737560956d0176c084b15d8b4642a385f9154e6aed7c48b9c", func := "gypsum/gypsumlaw44.CarveOwn", spec := "carveOwn", unfollowed := true, recurses := true, plainKeys := false, apart := false, narrowed := true }
def CarveOwnUptoSaid : Prop := carveOwnUptoRow.holds Tryz.pinned (OpenSpec.upto carveOwnSpec)

end Rows
end Go.Proofs.YtlhoihabllompaaGreat
