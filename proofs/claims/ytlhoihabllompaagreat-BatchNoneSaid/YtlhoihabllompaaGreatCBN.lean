/- The statement Rows.BatchNoneSaid is proved: whatever the input, the law hands back true, and each argument reads as before; no condition. -/
import Derived.Test.YtlhoihabllompaaGreatY2btoH9
import Derived.Test.YtlhoihabllompaaGreatC0
set_option linter.unusedSimpArgs false
set_option linter.unusedVariables false
set_option maxHeartbeats 8000000
set_option maxRecDepth 100000
open Go Go.Vm Go.Proofs Go.RowKit Go.ChangeShapes Go.WideShapes Go.ChangeAt S1
namespace Go.Proofs.YtlhoihabllompaaGreat
theorem lawBN_law: ∀ l,z0H [qR,y7,.arr2,.arr2] l->zCr Tryz.prog 9 l (none,none,.s (.bool true))
 | [_,_,_,_],⟨⟨x0,hx0⟩,⟨x1,hx1⟩,⟨x2,hx2⟩,⟨x3,hx3⟩,_⟩=>by subst hx0;subst hx1;subst hx2;subst hx3;exact lawBNRow.1 _ _ rfl
theorem lawBN_lifted (os:Os) (started:os.Started) (H:Type) (enc:TypeId×Value->H) :
 ReturnsInHanded {} Tryz.checked os 9 .any (Rows.batchNoneSpec.pre6 enc Tryz.prog Tryz.f9 Rows.batchNoneRow.domain false) (Rows.batchNoneSpec.post enc Tryz.prog Tryz.f9 false true false false) :=
 law_lifted (C:=Tryz.checked) started own (by kernel_rfl) Tryz.func9 rfl laidOut (by kernel_rfl) (zNi (by kernel_rfl)) (by kernel_rfl) Tryz.underlying4
  (fun ds h=>by match ds,h with|[_,_,_,_],_=>rfl) lawBN_law
  (ChangeSpec.witness6 (enc:=enc) (C:=Tryz.checked) false ⟨#[],#[.agg #[.int .i64 0,.slice none 0 0],.int .i64 0,.agg #[.int .i64 0,.int .i64 0],.agg #[.int .i64 0,.int .i64 0]],[]⟩ 8 (by kernel_rfl) (by kernel_rfl) (by kernel_rfl) (by kernel_rfl))
theorem lawBN_over:Rows.batchNoneRow.holds Tryz.pinned (OpenSpec.ofChange Rows.batchNoneSpec) :=
 OpenClaim.holds_of_wide 9 Tryz.f9 rfl rfl rfl rfl rfl rfl rfl ⟨rfl,rfl,rfl,rfl,rfl⟩ rfl rfl rfl rfl rfl (by kernel_rfl) Tryz.func9 (by kernel_rfl)
  (of_decide_eq_true (by kernel_rfl)) (by unfold Func.isWrapper;first|(rw [if_pos (by decide +kernel)];kernel_rfl)|(rw [if_neg (by decide +kernel)];exact ⟨rfl,rfl⟩))
  (fun os started H enc _=>lawBN_lifted os started H enc)
theorem lawBN_proved:Rows.BatchNoneSaid:=lawBN_over
#print axioms lawBN_proved
end Go.Proofs.YtlhoihabllompaaGreat
