/-
  No cell of these rows narrows 'for every input' (looked for: loops, veiled, ifaces, maps, wideKeys, modest, calm, conditions, laid).
  DERIVED. THE GIVEN ROWS OF THIS SEAT. 4 by the template 'for every input the law returns true; each argument reads behind the call as it read before'; 0 by the template 'total and deterministic' (their statements: YtbfghjbhfgbdnaaGreatTotals.lean).
  GIVEN WITH THE SEED: the statements are not yours to turn. If you find one false, say at which input.
  Laid BY PROGRAM, IN A SANDBOX (cutbox-rows.mjs): the forced cells as the released guide's own fill.sh prints them over the translation e794c7e9253dd9e7… (all of the seat's roots in one cut). By AI agents, Wed Nov 11 2026. No macro, syntax, notation, axiom, sorry.
-/
import Derived.Test.YtbfghjbhfgbdnaaGreatChecked
import GoSem.Claim
import GoSem.ClaimJoined
import GoSem.ClaimMapViews
import Derived.JoinedTies
import Derived.KernelRfl
namespace Go.Proofs.YtbfghjbhfgbdnaaGreat
/- THE CELL 'sum', in the pinned program and in every row, IS THE sha256 OF THE DUMP (.gsa) THAT YtbfghjbhfgbdnaaGreatProg.lean LOADS. Nothing in Lean hashes anything: it is a label: what it is worth is what the hold of that sum in a sandbox is worth. -/
noncomputable def Tryz.pinned : Pinned := { name := "ytbfghjbhfgbdnaagreat", sum := "e794c7e9253dd9e793c5bd9a5832fdb64a312d7b6e2d4231fd22c2596f583212", checked := Tryz.checked }
namespace Rows
def none {H : Type} : Left H := { results := [], args := [] }

/-- 'gypsumlaw36.BatchKinds': WHATEVER THE INPUT: true; the input reads as it did. -/
def batchKindsSpec : ChangeSpec := { name := "batchKinds", fn := fun _ => fun
  | [d1, d2] => { results := [.lit (.bool true)], args := [d1, d2] }
  | _ => none }
def batchKindsRow : OpenClaim := { program := "ytbfghjbhfgbdnaagreat", sum := "e794c7e9253dd9e793c5bd9a5832fdb64a312d7b6e2d4231fd22c2596f583212", func := "gypsum/gypsumlaw36.BatchKinds", spec := "batchKinds", unfollowed := true, recurses := true, plainKeys := false, apart := false }
def BatchKindsSaid : Prop := batchKindsRow.holds Tryz.pinned (OpenSpec.ofChange batchKindsSpec)

/-- ITS FALSE NEIGHBOUR: 'it returns false'. Refute it at one input. -/
def batchKindsWrong : ChangeSpec := { name := "batchKinds", fn := fun _ => fun
  | [d1, d2] => { results := [.lit (.bool false)], args := [d1, d2] }
  | _ => none }
def BatchKindsWrongFalsely : Prop := batchKindsRow.holds Tryz.pinned (OpenSpec.ofChange batchKindsWrong)

/-- 'gypsumlaw35.CollapseShape': WHATEVER THE INPUT: true; the input reads as it did. -/
def collapseShapeSpec : ChangeSpec := { name := "collapseShape", fn := fun _ => fun
  | [d1, d2, d3] => { results := [.lit (.bool true)], args := [d1, d2, d3] }
  | _ => none }
def collapseShapeRow : OpenClaim := { program := "ytbfghjbhfgbdnaagreat", sum := "e794c7e9253dd9e793c5bd9a5832fdb64a312d7b6e2d4231fd22c2596f583212", func := "gypsum/gypsumlaw35.CollapseShape", spec := "collapseShape", unfollowed := true, recurses := true, plainKeys := false, apart := false }
def CollapseShapeSaid : Prop := collapseShapeRow.holds Tryz.pinned (OpenSpec.ofChange collapseShapeSpec)

/-- ITS FALSE NEIGHBOUR: 'it returns false'. Refute it at one input. -/
def collapseShapeWrong : ChangeSpec := { name := "collapseShape", fn := fun _ => fun
  | [d1, d2, d3] => { results := [.lit (.bool false)], args := [d1, d2, d3] }
  | _ => none }
def CollapseShapeWrongFalsely : Prop := collapseShapeRow.holds Tryz.pinned (OpenSpec.ofChange collapseShapeWrong)

/-- 'gypsumlaw17.StarHoles': WHATEVER THE INPUT: true; the input reads as it did. -/
def starHolesSpec : ChangeSpec := { name := "starHoles", fn := fun _ => fun
  | [d1, d2] => { results := [.lit (.bool true)], args := [d1, d2] }
  | _ => none }
def starHolesRow : OpenClaim := { program := "ytbfghjbhfgbdnaagreat", sum := "e794c7e9253dd9e793c5bd9a5832fdb64a312d7b6e2d4231fd22c2596f583212", func := "gypsum/gypsumlaw17.StarHoles", spec := "starHoles", unfollowed := true, recurses := true, plainKeys := false, apart := false }
def StarHolesSaid : Prop := starHolesRow.holds Tryz.pinned (OpenSpec.ofChange starHolesSpec)

/-- ITS FALSE NEIGHBOUR: 'it returns false'. Refute it at one input. -/
def starHolesWrong : ChangeSpec := { name := "starHoles", fn := fun _ => fun
  | [d1, d2] => { results := [.lit (.bool false)], args := [d1, d2] }
  | _ => none }
def StarHolesWrongFalsely : Prop := starHolesRow.holds Tryz.pinned (OpenSpec.ofChange starHolesWrong)

/-- 'gypsumlaw34.LinkJust': WHATEVER THE INPUT: true; the input reads as it did. -/
def linkJustSpec : ChangeSpec := { name := "linkJust", fn := fun _ => fun
  | [d1, d2, d3] => { results := [.lit (.bool true)], args := [d1, d2, d3] }
  | _ => none }
def linkJustRow : OpenClaim := { program := "ytbfghjbhfgbdnaagreat", sum := "e794c7e9253dd9e793c5bd9a5832fdb64a312d7b6e2d4231fd22c2596f583212", func := "gypsum/gypsumlaw34.LinkJust", spec := "linkJust", unfollowed := true, recurses := true, plainKeys := false, apart := false }
def LinkJustSaid : Prop := linkJustRow.holds Tryz.pinned (OpenSpec.ofChange linkJustSpec)

/-- ITS FALSE NEIGHBOUR: 'it returns false'. Refute it at one input. -/
def linkJustWrong : ChangeSpec := { name := "linkJust", fn := fun _ => fun
  | [d1, d2, d3] => { results := [.lit (.bool false)], args := [d1, d2, d3] }
  | _ => none }
def LinkJustWrongFalsely : Prop := linkJustRow.holds Tryz.pinned (OpenSpec.ofChange linkJustWrong)

/- THE SECOND FORM. 'bulk': how many values and letters a reading holds, each counted each time it is reached (what is shared counts as often as it is met; a slice's spare places count too). A statement '..UptoSaid' is the law's where the arguments, and the package variables that the reading takes, are together of bulk at most 1048576: NARROWER than '..Said'. Prove '..Said' where nothing that the law and all that it calls make is longer than what came in: it says more and counts as full. Else prove '..UptoSaid'. A law counts once. -/
mutual
def uptoBulk {H : Type} : DataW H → Nat
  | .lit (.string bytes) => bytes.length + 1
  | .lit _ => 1
  | .nil => 1
  | .ptr d => uptoBulk d + 1
  | .slice elems spare => uptoBulkAll elems + uptoBulkAll spare + 1
  | .agg parts => uptoBulkAll parts + 1
  | .iface _ d => uptoBulk d + 1
  | .map entries => uptoBulkEntries entries + 1
  | .held _ => 1
def uptoBulkAll {H : Type} : List (DataW H) → Nat
  | [] => 0
  | d :: r => uptoBulk d + uptoBulkAll r
def uptoBulkEntries {H : Type} : List (Lit × DataW H) → Nat
  | [] => 0
  | x :: r => uptoBulkEntry x + uptoBulkEntries r
def uptoBulkEntry {H : Type} : Lit × DataW H → Nat
  | (.string bytes, d) => bytes.length + uptoBulk d + 1
  | (_, d) => uptoBulk d + 1
 end
def uptoSmall : (H : Type) → List (DataW H) → Bool := fun _ ds => decide (uptoBulkAll ds ≤ 1048576)
def OpenSpec.upto (s : _root_.Go.ChangeSpec) : _root_.Go.OpenSpec := { _root_.Go.OpenSpec.ofChange s with cond := some uptoSmall }

/-- 'gypsumlaw36.BatchKinds', WHERE WHAT IT READS IS OF BULK AT MOST 1048576: true; the input reads as it did. -/
def batchKindsUptoRow : OpenClaim := { program := "ytbfghjbhfgbdnaagreat", sum := "e794c7e9253dd9e793c5bd9a5832fdb64a312d7b6e2d4231fd22c2596f583212", func := "gypsum/gypsumlaw36.BatchKinds", spec := "batchKinds", unfollowed := true, recurses := true, plainKeys := false, apart := false, narrowed := true }
def BatchKindsUptoSaid : Prop := batchKindsUptoRow.holds Tryz.pinned (OpenSpec.upto batchKindsSpec)

/-- 'gypsumlaw35.CollapseShape', WHERE WHAT IT READS IS OF BULK AT MOST 1048576: true; the input reads as it did. -/
def collapseShapeUptoRow : OpenClaim := { program := "ytbfghjbhfgbdnaagreat", sum := "e794c7e9253dd9e793c5bd9a5832fdb64a312d7b6e2d4231fd22c2596f583212", func := "gypsum/gypsumlaw35.CollapseShape", spec := "collapseShape", unfollowed := true, recurses := true, plainKeys := false, apart := false, narrowed := true }
def CollapseShapeUptoSaid : Prop := collapseShapeUptoRow.holds Tryz.pinned (OpenSpec.upto collapseShapeSpec)

/-- 'gypsumlaw17.StarHoles', WHERE WHAT IT READS IS OF BULK AT MOST 1048576: true; the input reads as it did. -/
def starHolesUptoRow : OpenClaim := { program := "ytbfghjbhfgbdnaagreat", sum := "e794c7e9253dd9e793c5bd9a5832fdb64a312d7b6e2d4231fd22c2596f583212", func := "gypsum/gypsumlaw17.StarHoles", spec := "starHoles", unfollowed := true, recurses := true, plainKeys := false, apart := false, narrowed := true }
def StarHolesUptoSaid : Prop := starHolesUptoRow.holds Tryz.pinned (OpenSpec.upto starHolesSpec)

/-- 'gypsumlaw34.LinkJust', WHERE WHAT IT READS IS OF BULK AT MOST 1048576: true; the input reads as it did. -/
def linkJustUptoRow : OpenClaim := { program := "ytbfghjbhfgbdnaagreat", sum := "e794c7e9253dd9e793c5bd9a5832fdb64a312d7b6e2d4231fd22c2596f583212", func := "gypsum/gypsumlaw34.LinkJust", spec := "linkJust", unfollowed := true, recurses := true, plainKeys := false, apart := false, narrowed := true }
def LinkJustUptoSaid : Prop := linkJustUptoRow.holds Tryz.pinned (OpenSpec.upto linkJustSpec)

end Rows
end Go.Proofs.YtbfghjbhfgbdnaaGreat
