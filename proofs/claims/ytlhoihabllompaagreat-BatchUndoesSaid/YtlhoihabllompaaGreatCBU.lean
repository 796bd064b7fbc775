/- The statement Rows.BatchUndoesSaid is proved: whatever the input, the law hands back true, and each argument reads as before; no condition. -/
import Derived.Test.YtlhoihabllompaaGreatY2btoH8
import Derived.Test.YtlhoihabllompaaGreatC0
set_option linter.unusedSimpArgs false
set_option linter.unusedVariables false
set_option maxHeartbeats 8000000
set_option maxRecDepth 100000
open Go Go.Vm Go.Proofs Go.RowKit Go.ChangeShapes Go.WideShapes Go.ChangeAt S1
namespace Go.Proofs.YtlhoihabllompaaGreat
theorem lawBU_law: ∀ l,zYq [qP,.sl .arr2] l->zDL Tryz.prog 4 l (none,none,.s (.bool true))
 | [_,_],⟨⟨x0,hx0⟩,⟨x1,hx1⟩,_⟩=>by subst hx0;subst hx1;exact lawBURow.1 _ _ rfl
theorem lawBU_lifted (os:Os) (started:os.Started) (H:Type) (enc:TypeId×Value->H) :
 ReturnsInHanded {} Tryz.checked os 4 .any (Rows.batchUndoesSpec.pre6 enc Tryz.prog Tryz.f4 Rows.batchUndoesRow.domain false) (Rows.batchUndoesSpec.post enc Tryz.prog Tryz.f4 false true false false) :=
 law_lifted (C:=Tryz.checked) started own (by kernel_rfl) Tryz.func4 rfl laidOut (by kernel_rfl) (zNh (by kernel_rfl)) (by kernel_rfl) Tryz.underlying4
  (fun ds h=>by match ds,h with|[_,_],_=>rfl) lawBU_law
  (ChangeSpec.witness6 (enc:=enc) (C:=Tryz.checked) false ⟨#[],#[.agg #[.int .i64 0,.slice none 0 0],.slice none 0 0],[]⟩ 8 (by kernel_rfl) (by kernel_rfl) (by kernel_rfl) (by kernel_rfl))
theorem lawBU_over:Rows.batchUndoesRow.holds Tryz.pinned (OpenSpec.ofChange Rows.batchUndoesSpec) :=
 OpenClaim.holds_of_wide 4 Tryz.f4 rfl rfl rfl rfl rfl rfl rfl ⟨rfl,rfl,rfl,rfl,rfl⟩ rfl rfl rfl rfl rfl (by kernel_rfl) Tryz.func4 (by kernel_rfl)
  (of_decide_eq_true (by kernel_rfl)) (by unfold Func.isWrapper;first|(rw [if_pos (by decide +kernel)];kernel_rfl)|(rw [if_neg (by decide +kernel)];exact ⟨rfl,rfl⟩))
  (fun os started H enc _=>lawBU_lifted os started H enc)
theorem lawBU_proved:Rows.BatchUndoesSaid:=lawBU_over
#print axioms lawBU_proved
end Go.Proofs.YtlhoihabllompaaGreat
