/- The statement Rows.DistanceWithinSaid is proved: whatever the input, the law hands back true, and each argument reads as before; no condition. -/
import Derived.Test.YtkkhoppffmnkiaaS15
import Derived.Test.YtkkhoppffmnkiaaC0
set_option linter.unusedSimpArgs false
set_option linter.unusedVariables false
open Go Go.Vm Go.Proofs Go.RowKit Go.ChangeShapes Go.WideShapes Go.ChangeAt S1
namespace Go.Proofs.Ytkkhoppffmnkiaa
set_option maxRecDepth 100000
theorem lawW_law : ∀ l, AvAll [soupE, .sl .arr3, .sl (.int .i64), .sl .arr3, shE] l → FnOk Try.prog 6 l (none, none, .s (.bool true))
  | [_, _, _, _, _], ⟨⟨x0, hx0⟩, ⟨x1, hx1⟩, ⟨x2, hx2⟩, ⟨x3, hx3⟩, ⟨x4, hx4⟩, _⟩ => by subst hx0; subst hx1; subst hx2; subst hx3; subst hx4; exact lawWRow.1 _ _ rfl
theorem lawW_lifted (os : Os) (started : os.Started) (H : Type) (enc : TypeId × Value → H) :
    ReturnsInHanded {} Try.checked os 6 .any (Rows.distanceWithinSpec.pre6 enc Try.prog Try.f6 Rows.distanceWithinRow.domain false) (Rows.distanceWithinSpec.post enc Try.prog Try.f6 false true false false) :=
  law_lifted (C := Try.checked) started own (by kernel_rfl) Try.func6 rfl laidOut (by kernel_rfl) (tyAllB_ok (by kernel_rfl)) (by kernel_rfl) Try.underlying4
    (fun ds h => by match ds, h with | [_, _, _, _, _], _ => rfl) lawW_law
    (ChangeSpec.witness6 (enc := enc) (C := Try.checked) false ⟨#[], #[.agg #[.int .i64 0, .slice none 0 0], .slice none 0 0, .slice none 0 0, .slice none 0 0, .agg #[.int .u8 0, .int .u8 0, .int .u8 0]], []⟩ 8 (by kernel_rfl) (by kernel_rfl) (by kernel_rfl) (by kernel_rfl))
theorem lawW_over : Rows.distanceWithinRow.holds Try.pinned (OpenSpec.ofChange Rows.distanceWithinSpec) :=
  OpenClaim.holds_of_wide 6 Try.f6 rfl rfl rfl rfl rfl rfl rfl ⟨rfl, rfl, rfl, rfl, rfl⟩ rfl rfl rfl rfl rfl (by kernel_rfl) Try.func6 (by kernel_rfl)
    (of_decide_eq_true (by kernel_rfl)) (by unfold Func.isWrapper; first | (rw [if_pos (by decide +kernel)]; kernel_rfl) | (rw [if_neg (by decide +kernel)]; exact ⟨rfl, rfl⟩))
    (fun os started H enc _ => lawW_lifted os started H enc)
theorem lawW_proved : Rows.DistanceWithinSaid := lawW_over
#print axioms lawW_proved
end Go.Proofs.Ytkkhoppffmnkiaa
