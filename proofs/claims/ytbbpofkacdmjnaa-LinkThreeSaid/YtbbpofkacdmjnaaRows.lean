/-
  No cell of these rows narrows 'for every input' (looked for: loops, veiled, ifaces, maps, wideKeys, modest, calm, conditions, laid).
  DERIVED. THE GIVEN ROWS OF THIS SEAT. 11 by the template 'for every input the law returns true; each argument reads behind the call as it read before'; 0 by the template 'total and deterministic' (their statements: YtbbpofkacdmjnaaTotals.lean).
  GIVEN WITH THE SEED: the statements are not yours to turn. If you find one false, say at which input.
  Laid BY PROGRAM, IN A SANDBOX (cutbox-rows.mjs): the forced cells as the released guide's own fill.sh prints them over the translation 7067e04ed961a738… (all of the seat's roots in one cut). By AI agents, Wed Nov 11 2026. No macro, syntax, notation, axiom, sorry.
-/
import Derived.Test.YtbbpofkacdmjnaaChecked
import GoSem.Claim
import GoSem.ClaimJoined
import GoSem.ClaimMapViews
import Derived.JoinedTies
import Derived.KernelRfl
namespace Go.Proofs.Ytbbpofkacdmjnaa
/- THE CELL 'sum', in the pinned program and in every row, IS THE sha256 OF THE DUMP (.gsa) THAT YtbbpofkacdmjnaaProg.lean LOADS. Nothing in Lean hashes anything: it is a label: what it is worth is what the hold of that sum in a sandbox is worth. -/
noncomputable def Try.pinned : Pinned := { name := "ytbbpofkacdmjnaa", sum := "7067e04ed961a738b391f90ed36178c6772c9f493fdbb423b24534af85e4b91f", checked := Try.checked }
namespace Rows
def none {H : Type} : Left H := { results := [], args := [] }

/-- 'gypsumlaw34.LinkWhy': WHATEVER THE INPUT: true; the input reads as it did. -/
def linkWhySpec : ChangeSpec := { name := "linkWhy", fn := fun _ => fun
  | [d1, d2, d3] => { results := [.lit (.bool true)], args := [d1, d2, d3] }
  | _ => none }
def linkWhyRow : OpenClaim := { program := "ytbbpofkacdmjnaa", sum := "7067e04ed961a738b391f90ed36178c6772c9f493fdbb423b24534af85e4b91f", func := "gypsum/gypsumlaw34.LinkWhy", spec := "linkWhy", unfollowed := true, recurses := true, plainKeys := false, apart := false }
def LinkWhySaid : Prop := linkWhyRow.holds Try.pinned (OpenSpec.ofChange linkWhySpec)

/-- ITS FALSE NEIGHBOUR: 'it returns false'. Refute it at one input. -/
def linkWhyWrong : ChangeSpec := { name := "linkWhy", fn := fun _ => fun
  | [d1, d2, d3] => { results := [.lit (.bool false)], args := [d1, d2, d3] }
  | _ => none }
def LinkWhyWrongFalsely : Prop := linkWhyRow.holds Try.pinned (OpenSpec.ofChange linkWhyWrong)

/-- 'gypsumlaw34.LinkCommon': WHATEVER THE INPUT: true; the input reads as it did. -/
def linkCommonSpec : ChangeSpec := { name := "linkCommon", fn := fun _ => fun
  | [d1, d2] => { results := [.lit (.bool true)], args := [d1, d2] }
  | _ => none }
def linkCommonRow : OpenClaim := { program := "ytbbpofkacdmjnaa", sum := "7067e04ed961a738b391f90ed36178c6772c9f493fdbb423b24534af85e4b91f", func := "gypsum/gypsumlaw34.LinkCommon", spec := "linkCommon", unfollowed := true, recurses := true, plainKeys := false, apart := false }
def LinkCommonSaid : Prop := linkCommonRow.holds Try.pinned (OpenSpec.ofChange linkCommonSpec)

/-- ITS FALSE NEIGHBOUR: 'it returns false'. Refute it at one input. -/
def linkCommonWrong : ChangeSpec := { name := "linkCommon", fn := fun _ => fun
  | [d1, d2] => { results := [.lit (.bool false)], args := [d1, d2] }
  | _ => none }
def LinkCommonWrongFalsely : Prop := linkCommonRow.holds Try.pinned (OpenSpec.ofChange linkCommonWrong)

/-- 'gypsumlaw34.LinkThree': WHATEVER THE INPUT: true; the input reads as it did. -/
def linkThreeSpec : ChangeSpec := { name := "linkThree", fn := fun _ => fun
  | [d1, d2] => { results := [.lit (.bool true)], args := [d1, d2] }
  | _ => none }
def linkThreeRow : OpenClaim := { program := "ytbbpofkacdmjnaa", sum := "7067e04ed961a738b391f90ed36178c6772c9f493fdbb423b24534af85e4b91f", func := "gypsum/gypsumlaw34.LinkThree", spec := "linkThree", unfollowed := true, recurses := true, plainKeys := false, apart := false }
def LinkThreeSaid : Prop := linkThreeRow.holds Try.pinned (OpenSpec.ofChange linkThreeSpec)

/-- ITS FALSE NEIGHBOUR: 'it returns false'. Refute it at one input. -/
def linkThreeWrong : ChangeSpec := { name := "linkThree", fn := fun _ => fun
  | [d1, d2] => { results := [.lit (.bool false)], args := [d1, d2] }
  | _ => none }
def LinkThreeWrongFalsely : Prop := linkThreeRow.holds Try.pinned (OpenSpec.ofChange linkThreeWrong)

/-- 'gypsumlaw17.StarFills': WHATEVER THE INPUT: true; the input reads as it did. -/
def starFillsSpec : ChangeSpec := { name := "starFills", fn := fun _ => fun
  | [d] => { results := [.lit (.bool true)], args := [d] }
  | _ => none }
def starFillsRow : OpenClaim := { program := "ytbbpofkacdmjnaa", sum := "7067e04ed961a738b391f90ed36178c6772c9f493fdbb423b24534af85e4b91f", func := "gypsum/gypsumlaw17.StarFills", spec := "starFills", unfollowed := true, recurses := true, plainKeys := false, apart := false }
def StarFillsSaid : Prop := starFillsRow.holds Try.pinned (OpenSpec.ofChange starFillsSpec)

/-- ITS FALSE NEIGHBOUR: 'it returns false'. Refute it at one input. -/
def starFillsWrong : ChangeSpec := { name := "starFills", fn := fun _ => fun
  | [d] => { results := [.lit (.bool false)], args := [d] }
  | _ => none }
def StarFillsWrongFalsely : Prop := starFillsRow.holds Try.pinned (OpenSpec.ofChange starFillsWrong)

/-- 'gypsumlaw17.StarOpens': WHATEVER THE INPUT: true; the input reads as it did. -/
def starOpensSpec : ChangeSpec := { name := "starOpens", fn := fun _ => fun
  | [d1, d2] => { results := [.lit (.bool true)], args := [d1, d2] }
  | _ => none }
def starOpensRow : OpenClaim := { program := "ytbbpofkacdmjnaa", sum := "7067e04ed961a738b391f90ed36178c6772c9f493fdbb423b24534af85e4b91f", func := "gypsum/gypsumlaw17.StarOpens", spec := "starOpens", unfollowed := true, recurses := true, plainKeys := false, apart := false }
def StarOpensSaid : Prop := starOpensRow.holds Try.pinned (OpenSpec.ofChange starOpensSpec)

/-- ITS FALSE NEIGHBOUR: 'it returns false'. Refute it at one input. -/
def starOpensWrong : ChangeSpec := { name := "starOpens", fn := fun _ => fun
  | [d1, d2] => { results := [.lit (.bool false)], args := [d1, d2] }
  | _ => none }
def StarOpensWrongFalsely : Prop := starOpensRow.holds Try.pinned (OpenSpec.ofChange starOpensWrong)

/-- 'gypsumlaw17.StarBack': WHATEVER THE INPUT: true; the input reads as it did. -/
def starBackSpec : ChangeSpec := { name := "starBack", fn := fun _ => fun
  | [d] => { results := [.lit (.bool true)], args := [d] }
  | _ => none }
def starBackRow : OpenClaim := { program := "ytbbpofkacdmjnaa", sum := "7067e04ed961a738b391f90ed36178c6772c9f493fdbb423b24534af85e4b91f", func := "gypsum/gypsumlaw17.StarBack", spec := "starBack", unfollowed := true, recurses := true, plainKeys := false, apart := false }
def StarBackSaid : Prop := starBackRow.holds Try.pinned (OpenSpec.ofChange starBackSpec)

/-- ITS FALSE NEIGHBOUR: 'it returns false'. Refute it at one input. -/
def starBackWrong : ChangeSpec := { name := "starBack", fn := fun _ => fun
  | [d] => { results := [.lit (.bool false)], args := [d] }
  | _ => none }
def StarBackWrongFalsely : Prop := starBackRow.holds Try.pinned (OpenSpec.ofChange starBackWrong)

/-- 'gypsumlaw17.StarRings': WHATEVER THE INPUT: true; the input reads as it did. -/
def starRingsSpec : ChangeSpec := { name := "starRings", fn := fun _ => fun
  | [d] => { results := [.lit (.bool true)], args := [d] }
  | _ => none }
def starRingsRow : OpenClaim := { program := "ytbbpofkacdmjnaa", sum := "7067e04ed961a738b391f90ed36178c6772c9f493fdbb423b24534af85e4b91f", func := "gypsum/gypsumlaw17.StarRings", spec := "starRings", unfollowed := true, recurses := true, plainKeys := false, apart := false }
def StarRingsSaid : Prop := starRingsRow.holds Try.pinned (OpenSpec.ofChange starRingsSpec)

/-- ITS FALSE NEIGHBOUR: 'it returns false'. Refute it at one input. -/
def starRingsWrong : ChangeSpec := { name := "starRings", fn := fun _ => fun
  | [d] => { results := [.lit (.bool false)], args := [d] }
  | _ => none }
def StarRingsWrongFalsely : Prop := starRingsRow.holds Try.pinned (OpenSpec.ofChange starRingsWrong)

/-- 'gypsumlaw17.StarStays': WHATEVER THE INPUT: true; the input reads as it did. -/
def starStaysSpec : ChangeSpec := { name := "starStays", fn := fun _ => fun
  | [d] => { results := [.lit (.bool true)], args := [d] }
  | _ => none }
def starStaysRow : OpenClaim := { program := "ytbbpofkacdmjnaa", sum := "7067e04ed961a738b391f90ed36178c6772c9f493fdbb423b24534af85e4b91f", func := "gypsum/gypsumlaw17.StarStays", spec := "starStays", unfollowed := true, recurses := true, plainKeys := false, apart := false }
def StarStaysSaid : Prop := starStaysRow.holds Try.pinned (OpenSpec.ofChange starStaysSpec)

/-- ITS FALSE NEIGHBOUR: 'it returns false'. Refute it at one input. -/
def starStaysWrong : ChangeSpec := { name := "starStays", fn := fun _ => fun
  | [d] => { results := [.lit (.bool false)], args := [d] }
  | _ => none }
def StarStaysWrongFalsely : Prop := starStaysRow.holds Try.pinned (OpenSpec.ofChange starStaysWrong)

/-- 'gypsumlaw17.StarNone': WHATEVER THE INPUT: true; the input reads as it did. -/
def starNoneSpec : ChangeSpec := { name := "starNone", fn := fun _ => fun
  | [d1, d2] => { results := [.lit (.bool true)], args := [d1, d2] }
  | _ => none }
def starNoneRow : OpenClaim := { program := "ytbbpofkacdmjnaa", sum := "7067e04ed961a738b391f90ed36178c6772c9f493fdbb423b24534af85e4b91f", func := "gypsum/gypsumlaw17.StarNone", spec := "starNone", unfollowed := true, recurses := true, plainKeys := false, apart := false }
def StarNoneSaid : Prop := starNoneRow.holds Try.pinned (OpenSpec.ofChange starNoneSpec)

/-- ITS FALSE NEIGHBOUR: 'it returns false'. Refute it at one input. -/
def starNoneWrong : ChangeSpec := { name := "starNone", fn := fun _ => fun
  | [d1, d2] => { results := [.lit (.bool false)], args := [d1, d2] }
  | _ => none }
def StarNoneWrongFalsely : Prop := starNoneRow.holds Try.pinned (OpenSpec.ofChange starNoneWrong)

/-- 'gypsumlaw34.LinkTurned': WHATEVER THE INPUT: true; the input reads as it did. -/
def linkTurnedSpec : ChangeSpec := { name := "linkTurned", fn := fun _ => fun
  | [d1, d2, d3, d4] => { results := [.lit (.bool true)], args := [d1, d2, d3, d4] }
  | _ => none }
def linkTurnedRow : OpenClaim := { program := "ytbbpofkacdmjnaa", sum := "7067e04ed961a738b391f90ed36178c6772c9f493fdbb423b24534af85e4b91f", func := "gypsum/gypsumlaw34.LinkTurned", spec := "linkTurned", unfollowed := true, recurses := true, plainKeys := false, apart := false }
def LinkTurnedSaid : Prop := linkTurnedRow.holds Try.pinned (OpenSpec.ofChange linkTurnedSpec)

/-- ITS FALSE NEIGHBOUR: 'it returns false'. Refute it at one input. -/
def linkTurnedWrong : ChangeSpec := { name := "linkTurned", fn := fun _ => fun
  | [d1, d2, d3, d4] => { results := [.lit (.bool false)], args := [d1, d2, d3, d4] }
  | _ => none }
def LinkTurnedWrongFalsely : Prop := linkTurnedRow.holds Try.pinned (OpenSpec.ofChange linkTurnedWrong)

/-- 'gypsumlaw34.LinkLess': WHATEVER THE INPUT: true; the input reads as it did. -/
def linkLessSpec : ChangeSpec := { name := "linkLess", fn := fun _ => fun
  | [d1, d2] => { results := [.lit (.bool true)], args := [d1, d2] }
  | _ => none }
def linkLessRow : OpenClaim := { program := "ytbbpofkacdmjnaa", sum := "7067e04ed961a738b391f90ed36178c6772c9f493fdbb423b24534af85e4b91f", func := "gypsum/gypsumlaw34.LinkLess", spec := "linkLess", unfollowed := true, recurses := true, plainKeys := false, apart := false }
def LinkLessSaid : Prop := linkLessRow.holds Try.pinned (OpenSpec.ofChange linkLessSpec)

/-- ITS FALSE NEIGHBOUR: 'it returns false'. Refute it at one input. -/
def linkLessWrong : ChangeSpec := { name := "linkLess", fn := fun _ => fun
  | [d1, d2] => { results := [.lit (.bool false)], args := [d1, d2] }
  | _ => none }
def LinkLessWrongFalsely : Prop := linkLessRow.holds Try.pinned (OpenSpec.ofChange linkLessWrong)

/- THE SECOND FORM. 'bulk': how many values and letters a reading holds, each counted each time it is reached (what is shared counts as often as it is met; a slice's spare places count too). A statement '..UptoSaid' is the law's where the arguments, and the package variables that the reading takes, are together of bulk at most 1048576: NARROWER than '..Said'. Prove '..Said' where nothing that the law and all that it calls make is longer than what came in: it says more and counts as full. Else prove '..UptoSaid'. A law counts once. -/
mutual
def uptoBulk {H : Type} : DataW H → Nat
  | .lit (.string bytes) => bytes.length + 1
  | .lit _ => 1
  | .nil => 1
  | .ptr d => uptoBulk d + 1
  | .slice elems spare => uptoBulkAll elems + uptoBulkAll spare + 1
  | .agg parts => uptoBulkAll parts + 1
  | .iface _ d => uptoBulk d + 1
  | .map entries => uptoBulkEntries entries + 1
  | .held _ => 1
def uptoBulkAll {H : Type} : List (DataW H) → Nat
  | [] => 0
  | d :: r => uptoBulk d + uptoBulkAll r
def uptoBulkEntries {H : Type} : List (Lit × DataW H) → Nat
  | [] => 0
  | x :: r => uptoBulkEntry x + uptoBulkEntries r
def uptoBulkEntry {H : Type} : Lit × DataW H → Nat
  | (.string bytes, d) => bytes.length + uptoBulk d + 1
  | (_, d) => uptoBulk d + 1
 end
def uptoSmall : (H : Type) → List (DataW H) → Bool := fun _ ds => decide (uptoBulkAll ds ≤ 1048576)
def OpenSpec.upto (s : _root_.Go.ChangeSpec) : _root_.Go.OpenSpec := { _root_.Go.OpenSpec.ofChange s with cond := some uptoSmall }

/-- 'gypsumlaw34.LinkWhy', WHERE WHAT IT READS IS OF BULK AT MOST 1048576: true; the input reads as it did. -/
def linkWhyUptoRow : OpenClaim := { program := "ytbbpofkacdmjnaa", sum := "7067e04ed961a738b391f90ed36178c6772c9f493fdbb423b24534af85e4b91f", func := "gypsum/gypsumlaw34.LinkWhy", spec := "linkWhy", unfollowed := true, recurses := true, plainKeys := false, apart := false, narrowed := true }
def LinkWhyUptoSaid : Prop := linkWhyUptoRow.holds Try.pinned (OpenSpec.upto linkWhySpec)

/-- 'gypsumlaw34.LinkCommon', WHERE WHAT IT READS IS OF BULK AT MOST 1048576: true; the input reads as it did. -/
def linkCommonUptoRow : OpenClaim := { program := "ytbbpofkacdmjnaa", sum := "7067e04ed961a738b391f90ed36178c6772c9f493fdbb423b24534af85e4b91f", func := "gypsum/gypsumlaw34.LinkCommon", spec := "linkCommon", unfollowed := true, recurses := true, plainKeys := false, apart := false, narrowed := true }
def LinkCommonUptoSaid : Prop := linkCommonUptoRow.holds Try.pinned (OpenSpec.upto linkCommonSpec)

/-- 'gypsumlaw34.LinkThree', WHERE WHAT IT READS IS OF BULK AT MOST 1048576: true; the input reads as it did. -/
def linkThreeUptoRow : OpenClaim := { program := "ytbbpofkacdmjnaa", sum := "7067e04ed961a738b391f90ed36178c6772c9f493fdbb423b24534af85e4b91f", func := "gypsum/gypsumlaw34.LinkThree", spec := "linkThree", unfollowed := true, recurses := true, plainKeys := false, apart := false, narrowed := true }
def LinkThreeUptoSaid : Prop := linkThreeUptoRow.holds Try.pinned (OpenSpec.upto linkThreeSpec)

/-- 'gypsumlaw17.StarFills', WHERE WHAT IT READS IS OF BULK AT MOST 1048576: true; the input reads as it did. -/
def starFillsUptoRow : OpenClaim := { program := "ytbbpofkacdmjnaa", sum := "7067e04ed961a738b391f90ed36178c6772c9f493fdbb423b24534af85e4b91f", func := "gypsum/gypsumlaw17.StarFills", spec := "starFills", unfollowed := true, recurses := true, plainKeys := false, apart := false, narrowed := true }
def StarFillsUptoSaid : Prop := starFillsUptoRow.holds Try.pinned (OpenSpec.upto starFillsSpec)

/-- 'gypsumlaw17.StarOpens', WHERE WHAT IT READS IS OF BULK AT MOST 1048576: true; the input reads as it did. -/
def starOpensUptoRow : OpenClaim := { program := "ytbbpofkacdmjnaa", sum := "7067e04ed961a738b391f90ed36178c6772c9f493fdbb423b24534af85e4b91f", func := "gypsum/gypsumlaw17.StarOpens", spec := "starOpens", unfollowed := true, recurses := true, plainKeys := false, apart := false, narrowed := true }
def StarOpensUptoSaid : Prop := starOpensUptoRow.holds Try.pinned (OpenSpec.upto starOpensSpec)

/-- 'gypsumlaw17.StarBack', WHERE WHAT IT READS IS OF BULK AT MOST 1048576: true; the input reads as it did. -/
def starBackUptoRow : OpenClaim := { program := "ytbbpofkacdmjnaa", sum := "7067e04ed961a738b391f90ed36178c6772c9f493fdbb423b24534af85e4b91f", func := "gypsum/gypsumlaw17.StarBack", spec := "starBack", unfollowed := true, recurses := true, plainKeys := false, apart := false, narrowed := true }
def StarBackUptoSaid : Prop := starBackUptoRow.holds Try.pinned (OpenSpec.upto starBackSpec)

/-- 'gypsumlaw17.StarRings', WHERE WHAT IT READS IS OF BULK AT MOST 1048576: true; the input reads as it did. -/
def starRingsUptoRow : OpenClaim := { program := "ytbbpofkacdmjnaa", sum := "7067e04ed961a738b391f90ed36178c6772c9f493fdbb423b24534af85e4b91f", func := "gypsum/gypsumlaw17.StarRings", spec := "starRings", unfollowed := true, recurses := true, plainKeys := false, apart := false, narrowed := true }
def StarRingsUptoSaid : Prop := starRingsUptoRow.holds Try.pinned (OpenSpec.upto starRingsSpec)

/-- 'gypsumlaw17.StarStays', WHERE WHAT IT READS IS OF BULK AT MOST 1048576: true; the input reads as it did. -/
def starStaysUptoRow : OpenClaim := { program := "ytbbpofkacdmjnaa", sum := "7067e04ed961a738b391f90ed36178c6772c9f493fdbb423b24534af85e4b91f", func := "gypsum/gypsumlaw17.StarStays", spec := "starStays", unfollowed := true, recurses := true, plainKeys := false, apart := false, narrowed := true }
def StarStaysUptoSaid : Prop := starStaysUptoRow.holds Try.pinned (OpenSpec.upto starStaysSpec)

/-- 'gypsumlaw17.StarNone', WHERE WHAT IT READS IS OF BULK AT MOST 1048576: true; the input reads as it did. -/
def starNoneUptoRow : OpenClaim := { program := "ytbbpofkacdmjnaa", sum := "7067e04ed961a738b391f90ed36178c6772c9f493fdbb423b24534af85e4b91f", func := "gypsum/gypsumlaw17.StarNone", spec := "starNone", unfollowed := true, recurses := true, plainKeys := false, apart := false, narrowed := true }
def StarNoneUptoSaid : Prop := starNoneUptoRow.holds Try.pinned (OpenSpec.upto starNoneSpec)

/-- 'gypsumlaw34.LinkTurned', WHERE WHAT IT READS IS OF BULK AT MOST 1048576: true; the input reads as it did. -/
def linkTurnedUptoRow : OpenClaim := { program := "ytbbpofkacdmjnaa", sum := "7067e04ed961a738b391f90ed36178c6772c9f493fdbb423b24534af85e4b91f", func := "gypsum/gypsumlaw34.LinkTurned", spec := "linkTurned", unfollowed := true, recurses := true, plainKeys := false, apart := false, narrowed := true }
def LinkTurnedUptoSaid : Prop := linkTurnedUptoRow.holds Try.pinned (OpenSpec.upto linkTurnedSpec)

/-- 'gypsumlaw34.LinkLess', WHERE WHAT IT READS IS OF BULK AT MOST 1048576: true; the input reads as it did. -/
def linkLessUptoRow : OpenClaim := { program := "ytbbpofkacdmjnaa", sum := "7067e04ed961a738b391f90ed36178c6772c9f493fdbb423b24534af85e4b91f", func := "gypsum/gypsumlaw34.LinkLess", spec := "linkLess", unfollowed := true, recurses := true, plainKeys := false, apart := false, narrowed := true }
def LinkLessUptoSaid : Prop := linkLessUptoRow.holds Try.pinned (OpenSpec.upto linkLessSpec)

end Rows
end Go.Proofs.Ytbbpofkacdmjnaa
