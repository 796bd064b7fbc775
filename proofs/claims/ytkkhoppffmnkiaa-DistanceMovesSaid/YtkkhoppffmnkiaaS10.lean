/- The statement Rows.DistanceMovesSaid is proved: whatever the input, the law hands back true, and each argument reads as before; no condition. -/
import Derived.Test.YtkkhoppffmnkiaaS9
import Derived.Test.YtkkhoppffmnkiaaVmFrame
import Derived.ProofKit
import Derived.WalkKit
import Derived.Test.YtkkhoppffmnkiaaRows
open Go Go.Vm Go.Proofs Go.RowKit Go.ChangeShapes Go.WideShapes Go.ChangeAt S1
namespace Go.Proofs.Ytkkhoppffmnkiaa
set_option maxRecDepth 100000

theorem own : ownKnob Try.prog.godebug = none := by kernel_rfl
theorem laidOut : laidOutB Try.prog = true := by kernel_rfl

theorem moves_law : ∀ l, AvAll [.sl .arr3, .sl (.int .i64), .sl .arr3] l → FnOk Try.prog 3 l (none, none, .s (.bool true))
  | [_, _, _], ⟨⟨x, hx⟩, ⟨y, hy⟩, ⟨z, hz⟩, _⟩ => by subst hx; subst hy; subst hz; exact lawMovesRow.1 _ _ rfl

theorem moves_lifted (os : Os) (started : os.Started) (H : Type) (enc : TypeId × Value → H) :
    ReturnsInHanded {} Try.checked os 3 .any (Rows.distanceMovesSpec.pre6 enc Try.prog Try.f3 Rows.distanceMovesRow.domain false) (Rows.distanceMovesSpec.post enc Try.prog Try.f3 false true false false) :=
  law_lifted (C := Try.checked) started own (by kernel_rfl) Try.func3 rfl laidOut (by kernel_rfl) (tyAllB_ok (by kernel_rfl)) (by kernel_rfl) Try.underlying4
    (fun ds h => by match ds, h with | [_, _, _], _ => rfl) moves_law
    (ChangeSpec.witness6 (enc := enc) (C := Try.checked) false ⟨#[], #[.slice none 0 0, .slice none 0 0, .slice none 0 0], []⟩ 8 (by kernel_rfl) (by kernel_rfl) (by kernel_rfl) (by kernel_rfl))

theorem moves_over : Rows.distanceMovesRow.holds Try.pinned (OpenSpec.ofChange Rows.distanceMovesSpec) :=
  OpenClaim.holds_of_wide 3 Try.f3 rfl rfl rfl rfl rfl rfl rfl ⟨rfl, rfl, rfl, rfl, rfl⟩ rfl rfl rfl rfl rfl (by kernel_rfl) Try.func3 (by kernel_rfl)
    (of_decide_eq_true (by kernel_rfl)) (by unfold Func.isWrapper; first | (rw [if_pos (by decide +kernel)]; kernel_rfl) | (rw [if_neg (by decide +kernel)]; exact ⟨rfl, rfl⟩))
    (fun os started H enc _ => moves_lifted os started H enc)

theorem moves_proved : Rows.DistanceMovesSaid := moves_over
#print axioms moves_proved
end Go.Proofs.Ytkkhoppffmnkiaa
