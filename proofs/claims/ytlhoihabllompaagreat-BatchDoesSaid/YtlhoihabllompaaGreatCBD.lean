/- The statement Rows.BatchDoesSaid is proved: whatever the input, the law hands back true, and each argument reads as before; no condition. -/
import Derived.Test.YtlhoihabllompaaGreatK3ptoJ8
import Derived.Test.YtlhoihabllompaaGreatC0
set_option linter.unusedSimpArgs false
set_option linter.unusedVariables false
set_option maxHeartbeats 8000000
set_option maxRecDepth 100000
open Go.Proofs.Tryz
open Go Go.Vm Go.Proofs Go.RowKit Go.ChangeShapes Go.WideShapes Go.ChangeAt S1
namespace Go.Proofs.YtlhoihabllompaaGreat
theorem lawBD_law: ∀ l,z0Z [qP,.sl .arr2] l->zCn prog 7 l (none,none,.s (.bool true))
 | [_,_],⟨⟨x0,hx0⟩,⟨x1,hx1⟩,_⟩=>by subst hx0;subst hx1;exact lawBDRow.1 _ _ rfl
theorem lawBD_lifted (os:Os) (started:os.Started) (H:Type) (enc:TypeId×Value->H) :
 ReturnsInHanded {} Tryz.checked os 7 .any (Rows.batchDoesSpec.pre6 enc prog Tryz.f7 Rows.batchDoesRow.domain false) (Rows.batchDoesSpec.post enc prog Tryz.f7 false true false false) :=
 law_lifted (C:=Tryz.checked) started own (by kernel_rfl) func7 rfl laidOut (by kernel_rfl) (zMo (by kernel_rfl)) (by kernel_rfl) Tryz.underlying4
  (fun ds h=>by match ds,h with|[_,_],_=>rfl) lawBD_law
  (ChangeSpec.witness6 (enc:=enc) (C:=Tryz.checked) false ⟨#[],#[.agg #[.int .i64 0,.slice none 0 0],.slice none 0 0],[]⟩ 8 (by kernel_rfl) (by kernel_rfl) (by kernel_rfl) (by kernel_rfl))
theorem lawBD_over:Rows.batchDoesRow.holds Tryz.pinned (OpenSpec.ofChange Rows.batchDoesSpec) :=
 OpenClaim.holds_of_wide 7 Tryz.f7 rfl rfl rfl rfl rfl rfl rfl ⟨rfl,rfl,rfl,rfl,rfl⟩ rfl rfl rfl rfl rfl (by kernel_rfl) func7 (by kernel_rfl)
  (of_decide_eq_true (by kernel_rfl)) (by unfold Func.isWrapper;first|(rw [if_pos (by decide +kernel)];kernel_rfl)|(rw [if_neg (by decide +kernel)];exact ⟨rfl,rfl⟩))
  (fun os started H enc _=>lawBD_lifted os started H enc)
theorem lawBD_proved:Rows.BatchDoesSaid:=lawBD_over
#print axioms lawBD_proved
end Go.Proofs.YtlhoihabllompaaGreat
