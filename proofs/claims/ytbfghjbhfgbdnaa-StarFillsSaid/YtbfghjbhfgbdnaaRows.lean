/-
  No cell of these rows narrows 'for every input' (looked for: loops, veiled, ifaces, maps, wideKeys, modest, calm, conditions, laid).
  DERIVED. THE GIVEN ROWS OF THIS SEAT. 3 by the template 'for every input the law returns true; each argument reads behind the call as it read before'; 0 by the template 'total and deterministic' (their statements: YtbfghjbhfgbdnaaTotals.lean).
  GIVEN WITH THE SEED: the statements are not yours to turn. If you find one false, say at which input.
  Laid BY PROGRAM, IN A SANDBOX (cutbox-rows.mjs): the forced cells as the released guide's own fill.sh prints them over the translation 567d1db26b6b4bc3… (all of the seat's roots in one cut). By AI agents, Wed Nov 11 2026. No macro, syntax, notation, axiom, sorry.
-/
import Derived.Test.YtbfghjbhfgbdnaaChecked
import GoSem.Claim
import GoSem.ClaimJoined
import GoSem.ClaimMapViews
import Derived.JoinedTies
import Derived.KernelRfl
namespace Go.Proofs.Ytbfghjbhfgbdnaa
/- THE CELL 'sum', in the pinned program and in every row, IS THE sha256 OF THE DUMP (.gsa) THAT YtbfghjbhfgbdnaaProg.lean LOADS. Nothing in Lean hashes anything: it is a label: what it is worth is what the hold of that sum in a sandbox is worth. -/
noncomputable def Try.pinned : Pinned := { name := "ytbfghjbhfgbdnaa", sum := "567d1db26b6b4bc31ba2dc91e9c1539b7dfba57fb849602ac6687cb8c96793dd", checked := Try.checked }
namespace Rows
def none {H : Type} : Left H := { results := [], args := [] }

/-- 'gypsumlaw34.LinkLess': WHATEVER THE INPUT: true; the input reads as it did. -/
def linkLessSpec : ChangeSpec := { name := "linkLess", fn := fun _ => fun
  | [d1, d2] => { results := [.lit (.bool true)], args := [d1, d2] }
  | _ => none }
def linkLessRow : OpenClaim := { program := "ytbfghjbhfgbdnaa", sum := "567d1db26b6b4bc31ba2dc91e9c1539b7dfba57fb849602ac6687cb8c96793dd", func := "gypsum/gypsumlaw34.LinkLess", spec := "linkLess", unfollowed := true, recurses := true, plainKeys := false, apart := false }
def LinkLessSaid : Prop := linkLessRow.holds Try.pinned (OpenSpec.ofChange linkLessSpec)

/-- ITS FALSE NEIGHBOUR: 'it returns false'. Refute it at one input. -/
def linkLessWrong : ChangeSpec := { name := "linkLess", fn := fun _ => fun
  | [d1, d2] => { results := [.lit (.bool false)], args := [d1, d2] }
  | _ => none }
def LinkLessWrongFalsely : Prop := linkLessRow.holds Try.pinned (OpenSpec.ofChange linkLessWrong)

/-- 'gypsumlaw17.StarCloses': WHATEVER THE INPUT: true; the input reads as it did. -/
def starClosesSpec : ChangeSpec := { name := "starCloses", fn := fun _ => fun
  | [d] => { results := [.lit (.bool true)], args := [d] }
  | _ => none }
def starClosesRow : OpenClaim := { program := "ytbfghjbhfgbdnaa", sum := "567d1db26b6b4bc31ba2dc91e9c1539b7dfba57fb849602ac6687cb8c96793dd", func := "gypsum/gypsumlaw17.StarCloses", spec := "starCloses", unfollowed := true, recurses := true, plainKeys := false, apart := false }
def StarClosesSaid : Prop := starClosesRow.holds Try.pinned (OpenSpec.ofChange starClosesSpec)

/-- ITS FALSE NEIGHBOUR: 'it returns false'. Refute it at one input. -/
def starClosesWrong : ChangeSpec := { name := "starCloses", fn := fun _ => fun
  | [d] => { results := [.lit (.bool false)], args := [d] }
  | _ => none }
def StarClosesWrongFalsely : Prop := starClosesRow.holds Try.pinned (OpenSpec.ofChange starClosesWrong)

/-- 'gypsumlaw17.StarFills': WHATEVER THE INPUT: true; the input reads as it did. -/
def starFillsSpec : ChangeSpec := { name := "starFills", fn := fun _ => fun
  | [d] => { results := [.lit (.bool true)], args := [d] }
  | _ => none }
def starFillsRow : OpenClaim := { program := "ytbfghjbhfgbdnaa", sum := "567d1db26b6b4bc31ba2dc91e9c1539b7dfba57fb849602ac6687cb8c96793dd", func := "gypsum/gypsumlaw17.StarFills", spec := "starFills", unfollowed := true, recurses := true, plainKeys := false, apart := false }
def StarFillsSaid : Prop := starFillsRow.holds Try.pinned (OpenSpec.ofChange starFillsSpec)

/-- ITS FALSE NEIGHBOUR: 'it returns false'. Refute it at one input. -/
def starFillsWrong : ChangeSpec := { name := "starFills", fn := fun _ => fun
  | [d] => { results := [.lit (.bool false)], args := [d] }
  | _ => none }
def StarFillsWrongFalsely : Prop := starFillsRow.holds Try.pinned (OpenSpec.ofChange starFillsWrong)

/- THE SECOND FORM. 'bulk': how many values and letters a reading holds, each counted each time it is reached (what is shared counts as often as it is met; a slice's spare places count too). A statement '..UptoSaid' is the law's where the arguments, and the package variables that the reading takes, are together of bulk at most 1048576: NARROWER than '..Said'. Prove '..Said' where nothing that the law and all that it calls make is longer than what came in: it says more and counts as full. Else prove '..UptoSaid'. A law counts once. -/
mutual
def uptoBulk {H : Type} : DataW H → Nat
  | .lit (.string bytes) => bytes.length + 1
  | .lit _ => 1
  | .nil => 1
  | .ptr d => uptoBulk d + 1
  | .slice elems spare => uptoBulkAll elems + uptoBulkAll spare + 1
  | .agg parts => uptoBulkAll parts + 1
  | .iface _ d => uptoBulk d + 1
  | .map entries => uptoBulkEntries entries + 1
  | .held _ => 1
def uptoBulkAll {H : Type} : List (DataW H) → Nat
  | [] => 0
  | d :: r => uptoBulk d + uptoBulkAll r
def uptoBulkEntries {H : Type} : List (Lit × DataW H) → Nat
  | [] => 0
  | x :: r => uptoBulkEntry x + uptoBulkEntries r
def uptoBulkEntry {H : Type} : Lit × DataW H → Nat
  | (.string bytes, d) => bytes.length + uptoBulk d + 1
  | (_, d) => uptoBulk d + 1
 end
def uptoSmall : (H : Type) → List (DataW H) → Bool := fun _ ds => decide (uptoBulkAll ds ≤ 1048576)
def OpenSpec.upto (s : _root_.Go.ChangeSpec) : _root_.Go.OpenSpec := { _root_.Go.OpenSpec.ofChange s with cond := some uptoSmall }

/-- 'gypsumlaw34.LinkLess', WHERE WHAT IT READS IS OF BULK AT MOST 1048576: true; the input reads as it did. -/
def linkLessUptoRow : OpenClaim := { program := "ytbfghjbhfgbdnaa", sum := "567d1db26b6b4bc31ba2dc91e9c1539b7dfba57fb849602ac6687cb8c96793dd", func := "gypsum/gypsumlaw34.LinkLess", spec := "linkLess", unfollowed := true, recurses := true, plainKeys := false, apart := false, narrowed := true }
def LinkLessUptoSaid : Prop := linkLessUptoRow.holds Try.pinned (OpenSpec.upto linkLessSpec)

/-- 'gypsumlaw17.StarCloses', WHERE WHAT IT READS IS OF BULK AT MOST 1048576: true; the input reads as it did. -/
def starClosesUptoRow : OpenClaim := { program := "ytbfghjbhfgbdnaa", sum := "567d1db26b6b4bc31ba2dc91e9c1539b7dfba57fb849602ac6687cb8c96793dd", func := "gypsum/gypsumlaw17.StarCloses", spec := "starCloses", unfollowed := true, recurses := true, plainKeys := false, apart := false, narrowed := true }
def StarClosesUptoSaid : Prop := starClosesUptoRow.holds Try.pinned (OpenSpec.upto starClosesSpec)

/-- 'gypsumlaw17.StarFills', WHERE WHAT IT READS IS OF BULK AT MOST 1048576: true; the input reads as it did. -/
def starFillsUptoRow : OpenClaim := { program := "ytbfghjbhfgbdnaa", sum := "567d1db26b6b4bc31ba2dc91e9c1539b7dfba57fb849602ac6687cb8c96793dd", func := "gypsum/gypsumlaw17.StarFills", spec := "starFills", unfollowed := true, recurses := true, plainKeys := false, apart := false, narrowed := true }
def StarFillsUptoSaid : Prop := starFillsUptoRow.holds Try.pinned (OpenSpec.upto starFillsSpec)

end Rows
end Go.Proofs.Ytbfghjbhfgbdnaa
