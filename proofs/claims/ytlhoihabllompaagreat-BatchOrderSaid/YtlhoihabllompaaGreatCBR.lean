/- The statement Rows.BatchOrderSaid is proved: whatever the input, the law hands back true, and each argument reads as before; no condition. -/
import Derived.Test.YtlhoihabllompaaGreatY2btoH10
import Derived.Test.YtlhoihabllompaaGreatC0
set_option linter.unusedSimpArgs false
set_option linter.unusedVariables false
set_option maxHeartbeats 8000000
set_option maxRecDepth 100000
open Go Go.Vm Go.Proofs Go.RowKit Go.ChangeShapes Go.WideShapes Go.ChangeAt S1
namespace Go.Proofs.YtlhoihabllompaaGreat
theorem lawBR_law: ∀ l,z0Z [qP,.sl .arr2,.int .u8,.int .u8] l->zCn Tryz.prog 8 l (none,none,.s (.bool true))
 | [_,_,_,_],⟨⟨x0,hx0⟩,⟨x1,hx1⟩,⟨x2,hx2⟩,⟨x3,hx3⟩,_⟩=>by subst hx0;subst hx1;subst hx2;subst hx3;exact lawBRRow.1 _ _ rfl
theorem lawBR_lifted (os:Os) (started:os.Started) (H:Type) (enc:TypeId×Value->H) :
 ReturnsInHanded {} Tryz.checked os 8 .any (Rows.batchOrderSpec.pre6 enc Tryz.prog Tryz.f8 Rows.batchOrderRow.domain false) (Rows.batchOrderSpec.post enc Tryz.prog Tryz.f8 false true false false) :=
 law_lifted (C:=Tryz.checked) started own (by kernel_rfl) Tryz.func8 rfl laidOut (by kernel_rfl) (zMo (by kernel_rfl)) (by kernel_rfl) Tryz.underlying4
  (fun ds h=>by match ds,h with|[_,_,_,_],_=>rfl) lawBR_law
  (ChangeSpec.witness6 (enc:=enc) (C:=Tryz.checked) false ⟨#[],#[.agg #[.int .i64 0,.slice none 0 0],.slice none 0 0,.int .u8 0,.int .u8 0],[]⟩ 8 (by kernel_rfl) (by kernel_rfl) (by kernel_rfl) (by kernel_rfl))
theorem lawBR_over:Rows.batchOrderRow.holds Tryz.pinned (OpenSpec.ofChange Rows.batchOrderSpec) :=
 OpenClaim.holds_of_wide 8 Tryz.f8 rfl rfl rfl rfl rfl rfl rfl ⟨rfl,rfl,rfl,rfl,rfl⟩ rfl rfl rfl rfl rfl (by kernel_rfl) Tryz.func8 (by kernel_rfl)
  (of_decide_eq_true (by kernel_rfl)) (by unfold Func.isWrapper;first|(rw [if_pos (by decide +kernel)];kernel_rfl)|(rw [if_neg (by decide +kernel)];exact ⟨rfl,rfl⟩))
  (fun os started H enc _=>lawBR_lifted os started H enc)
theorem lawBR_proved:Rows.BatchOrderSaid:=lawBR_over
#print axioms lawBR_proved
end Go.Proofs.YtlhoihabllompaaGreat
