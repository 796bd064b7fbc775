/- The statement Rows.LinkThreeSaid is proved: whatever the input, the law hands back true, and each argument reads as before; no condition. -/
import Derived.Test.YtbbpofkacdmjnaaW4toW7
import Derived.Test.YtbbpofkacdmjnaaC0
set_option linter.unusedSimpArgs false
set_option linter.unusedVariables false
set_option maxHeartbeats 2000000
open Go Go.Vm Go.Proofs Go.RowKit Go.ChangeShapes Go.WideShapes Go.ChangeAt S1
namespace Go.Proofs.Ytbbpofkacdmjnaa
set_option maxRecDepth 100000
theorem lawL3_law : ∀ l, AvAll [soupE, .int .u8] l → FnOk Try.prog 5 l (none, none, .s (.bool true))
  | [_, _], ⟨⟨x0, hx0⟩, ⟨x1, hx1⟩, _⟩ => by subst hx0; subst hx1; exact lawL3Row.1 _ _ rfl
theorem lawL3_lifted (os : Os) (started : os.Started) (H : Type) (enc : TypeId × Value → H) :
    ReturnsInHanded {} Try.checked os 5 .any (Rows.linkThreeSpec.pre6 enc Try.prog Try.f5 Rows.linkThreeRow.domain false) (Rows.linkThreeSpec.post enc Try.prog Try.f5 false true false false) :=
  law_lifted (C := Try.checked) started own (by kernel_rfl) Try.func5 rfl laidOut (by kernel_rfl) (tyAllB_ok (by kernel_rfl)) (by kernel_rfl) Try.underlying4
    (fun ds h => by match ds, h with | [_, _], _ => rfl) lawL3_law
    (ChangeSpec.witness6 (enc := enc) (C := Try.checked) false ⟨#[], #[.agg #[.int .i64 0, .slice none 0 0], .int .u8 0], []⟩ 8 (by kernel_rfl) (by kernel_rfl) (by kernel_rfl) (by kernel_rfl))
theorem lawL3_over : Rows.linkThreeRow.holds Try.pinned (OpenSpec.ofChange Rows.linkThreeSpec) :=
  OpenClaim.holds_of_wide 5 Try.f5 rfl rfl rfl rfl rfl rfl rfl ⟨rfl, rfl, rfl, rfl, rfl⟩ rfl rfl rfl rfl rfl (by kernel_rfl) Try.func5 (by kernel_rfl)
    (of_decide_eq_true (by kernel_rfl)) (by unfold Func.isWrapper; first | (rw [if_pos (by decide +kernel)]; kernel_rfl) | (rw [if_neg (by decide +kernel)]; exact ⟨rfl, rfl⟩))
    (fun os started H enc _ => lawL3_lifted os started H enc)
theorem lawL3_proved : Rows.LinkThreeSaid := lawL3_over
#print axioms lawL3_proved
end Go.Proofs.Ytbbpofkacdmjnaa
