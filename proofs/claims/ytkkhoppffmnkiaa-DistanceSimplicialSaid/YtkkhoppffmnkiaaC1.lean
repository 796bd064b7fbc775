/- The statement Rows.DistanceSimplicialSaid is proved: whatever the input, the law hands back true, and each argument reads as before; no condition. -/
import Derived.Test.YtkkhoppffmnkiaaS14
import Derived.Test.YtkkhoppffmnkiaaC0
set_option linter.unusedSimpArgs false
set_option linter.unusedVariables false
open Go Go.Vm Go.Proofs Go.RowKit Go.ChangeShapes Go.WideShapes Go.ChangeAt S1
namespace Go.Proofs.Ytkkhoppffmnkiaa
set_option maxRecDepth 100000
theorem lawSimp_law : ∀ l, AvAll [soupE, soupE, .sl (.int .i64)] l → FnOk Try.prog 4 l (none, none, .s (.bool true))
  | [_, _, _], ⟨⟨x0, hx0⟩, ⟨x1, hx1⟩, ⟨x2, hx2⟩, _⟩ => by subst hx0; subst hx1; subst hx2; exact lawSimpRow.1 _ _ rfl
theorem lawSimp_lifted (os : Os) (started : os.Started) (H : Type) (enc : TypeId × Value → H) :
    ReturnsInHanded {} Try.checked os 4 .any (Rows.distanceSimplicialSpec.pre6 enc Try.prog Try.f4 Rows.distanceSimplicialRow.domain false) (Rows.distanceSimplicialSpec.post enc Try.prog Try.f4 false true false false) :=
  law_lifted (C := Try.checked) started own (by kernel_rfl) Try.func4 rfl laidOut (by kernel_rfl) (tyAllB_ok (by kernel_rfl)) (by kernel_rfl) Try.underlying4
    (fun ds h => by match ds, h with | [_, _, _], _ => rfl) lawSimp_law
    (ChangeSpec.witness6 (enc := enc) (C := Try.checked) false ⟨#[], #[.agg #[.int .i64 0, .slice none 0 0], .agg #[.int .i64 0, .slice none 0 0], .slice none 0 0], []⟩ 8 (by kernel_rfl) (by kernel_rfl) (by kernel_rfl) (by kernel_rfl))
theorem lawSimp_over : Rows.distanceSimplicialRow.holds Try.pinned (OpenSpec.ofChange Rows.distanceSimplicialSpec) :=
  OpenClaim.holds_of_wide 4 Try.f4 rfl rfl rfl rfl rfl rfl rfl ⟨rfl, rfl, rfl, rfl, rfl⟩ rfl rfl rfl rfl rfl (by kernel_rfl) Try.func4 (by kernel_rfl)
    (of_decide_eq_true (by kernel_rfl)) (by unfold Func.isWrapper; first | (rw [if_pos (by decide +kernel)]; kernel_rfl) | (rw [if_neg (by decide +kernel)]; exact ⟨rfl, rfl⟩))
    (fun os started H enc _ => lawSimp_lifted os started H enc)
theorem lawSimp_proved : Rows.DistanceSimplicialSaid := lawSimp_over
#print axioms lawSimp_proved
end Go.Proofs.Ytkkhoppffmnkiaa
