/- The statement Rows.DistanceNoneSaid is proved: whatever the input, the law hands back true, and each argument reads as before; no condition. -/
import Derived.Test.YtkkhoppffmnkiaaS16
import Derived.Test.YtkkhoppffmnkiaaC0
set_option linter.unusedSimpArgs false
set_option linter.unusedVariables false
open Go Go.Vm Go.Proofs Go.RowKit Go.ChangeShapes Go.WideShapes Go.ChangeAt S1
namespace Go.Proofs.Ytkkhoppffmnkiaa
set_option maxRecDepth 100000
theorem lawN_law : ∀ l, AvAll [soupE, .sl .arr3, .int .i64] l → FnOk Try.prog 8 l (none, none, .s (.bool true))
  | [_, _, _], ⟨⟨x0, hx0⟩, ⟨x1, hx1⟩, ⟨x2, hx2⟩, _⟩ => by subst hx0; subst hx1; subst hx2; exact lawNRow.1 _ _ rfl
theorem lawN_lifted (os : Os) (started : os.Started) (H : Type) (enc : TypeId × Value → H) :
    ReturnsInHanded {} Try.checked os 8 .any (Rows.distanceNoneSpec.pre6 enc Try.prog Try.f8 Rows.distanceNoneRow.domain false) (Rows.distanceNoneSpec.post enc Try.prog Try.f8 false true false false) :=
  law_lifted (C := Try.checked) started own (by kernel_rfl) Try.func8 rfl laidOut (by kernel_rfl) (tyAllB_ok (by kernel_rfl)) (by kernel_rfl) Try.underlying4
    (fun ds h => by match ds, h with | [_, _, _], _ => rfl) lawN_law
    (ChangeSpec.witness6 (enc := enc) (C := Try.checked) false ⟨#[], #[.agg #[.int .i64 0, .slice none 0 0], .slice none 0 0, .int .i64 0], []⟩ 8 (by kernel_rfl) (by kernel_rfl) (by kernel_rfl) (by kernel_rfl))
theorem lawN_over : Rows.distanceNoneRow.holds Try.pinned (OpenSpec.ofChange Rows.distanceNoneSpec) :=
  OpenClaim.holds_of_wide 8 Try.f8 rfl rfl rfl rfl rfl rfl rfl ⟨rfl, rfl, rfl, rfl, rfl⟩ rfl rfl rfl rfl rfl (by kernel_rfl) Try.func8 (by kernel_rfl)
    (of_decide_eq_true (by kernel_rfl)) (by unfold Func.isWrapper; first | (rw [if_pos (by decide +kernel)]; kernel_rfl) | (rw [if_neg (by decide +kernel)]; exact ⟨rfl, rfl⟩))
    (fun os started H enc _ => lawN_lifted os started H enc)
theorem lawN_proved : Rows.DistanceNoneSaid := lawN_over
#print axioms lawN_proved
end Go.Proofs.Ytkkhoppffmnkiaa
