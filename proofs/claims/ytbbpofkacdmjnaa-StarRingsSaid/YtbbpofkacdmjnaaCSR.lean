/- The statement Rows.StarRingsSaid is proved: whatever the input, the law hands back true, and each argument reads as before; no condition. -/
import Derived.Test.YtbbpofkacdmjnaaF12toU10
import Derived.Test.YtbbpofkacdmjnaaC0
set_option linter.unusedSimpArgs false
set_option linter.unusedVariables false
set_option maxHeartbeats 2000000
open Go Go.Vm Go.Proofs Go.RowKit Go.ChangeShapes Go.WideShapes Go.ChangeAt S1
namespace Go.Proofs.Ytbbpofkacdmjnaa
set_option maxRecDepth 100000
theorem lawSR_law : ∀ l, AvAll [soupE] l → FnOk Try.prog 9 l (none, none, .s (.bool true))
  | [_], ⟨⟨x0, hx0⟩, _⟩ => by subst hx0; exact lawSRRow.1 _ _ rfl
theorem lawSR_lifted (os : Os) (started : os.Started) (H : Type) (enc : TypeId × Value → H) :
    ReturnsInHanded {} Try.checked os 9 .any (Rows.starRingsSpec.pre6 enc Try.prog Try.f9 Rows.starRingsRow.domain false) (Rows.starRingsSpec.post enc Try.prog Try.f9 false true false false) :=
  law_lifted (C := Try.checked) started own (by kernel_rfl) Try.func9 rfl laidOut (by kernel_rfl) (tyAllB_ok (by kernel_rfl)) (by kernel_rfl) Try.underlying4
    (fun ds h => by match ds, h with | [_], _ => rfl) lawSR_law
    (ChangeSpec.witness6 (enc := enc) (C := Try.checked) false ⟨#[], #[.agg #[.int .i64 0, .slice none 0 0]], []⟩ 8 (by kernel_rfl) (by kernel_rfl) (by kernel_rfl) (by kernel_rfl))
theorem lawSR_over : Rows.starRingsRow.holds Try.pinned (OpenSpec.ofChange Rows.starRingsSpec) :=
  OpenClaim.holds_of_wide 9 Try.f9 rfl rfl rfl rfl rfl rfl rfl ⟨rfl, rfl, rfl, rfl, rfl⟩ rfl rfl rfl rfl rfl (by kernel_rfl) Try.func9 (by kernel_rfl)
    (of_decide_eq_true (by kernel_rfl)) (by unfold Func.isWrapper; first | (rw [if_pos (by decide +kernel)]; kernel_rfl) | (rw [if_neg (by decide +kernel)]; exact ⟨rfl, rfl⟩))
    (fun os started H enc _ => lawSR_lifted os started H enc)
theorem lawSR_proved : Rows.StarRingsSaid := lawSR_over
#print axioms lawSR_proved
end Go.Proofs.Ytbbpofkacdmjnaa
