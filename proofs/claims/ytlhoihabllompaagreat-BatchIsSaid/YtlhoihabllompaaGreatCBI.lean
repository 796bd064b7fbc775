/- The statement Rows.BatchIsSaid is proved: whatever the input, the law hands back true, and each argument reads as before; no condition. -/
import Derived.Test.YtlhoihabllompaaGreatK3ptoJ7
import Derived.Test.YtlhoihabllompaaGreatC0
set_option linter.unusedSimpArgs false
set_option linter.unusedVariables false
set_option maxHeartbeats 8000000
set_option maxRecDepth 100000
open Go.Proofs.Tryz
open Go Go.Vm Go.Proofs Go.RowKit Go.ChangeShapes Go.WideShapes Go.ChangeAt S1
namespace Go.Proofs.YtlhoihabllompaaGreat
theorem lawBI_law: ∀ l,z0Z [qP,.sl .arr2] l->zCn prog 3 l (none,none,.s (.bool true))
 | [_,_],⟨⟨x0,hx0⟩,⟨x1,hx1⟩,_⟩=>by subst hx0;subst hx1;exact lawBIRow.1 _ _ rfl
theorem lawBI_lifted (os:Os) (started:os.Started) (H:Type) (enc:TypeId×Value->H) :
 ReturnsInHanded {} Tryz.checked os 3 .any (Rows.batchIsSpec.pre6 enc prog Tryz.f3 Rows.batchIsRow.domain false) (Rows.batchIsSpec.post enc prog Tryz.f3 false true false false) :=
 law_lifted (C:=Tryz.checked) started own (by kernel_rfl) func3 rfl laidOut (by kernel_rfl) (zMo (by kernel_rfl)) (by kernel_rfl) Tryz.underlying4
  (fun ds h=>by match ds,h with|[_,_],_=>rfl) lawBI_law
  (ChangeSpec.witness6 (enc:=enc) (C:=Tryz.checked) false ⟨#[],#[.agg #[.int .i64 0,.slice none 0 0],.slice none 0 0],[]⟩ 8 (by kernel_rfl) (by kernel_rfl) (by kernel_rfl) (by kernel_rfl))
theorem lawBI_over:Rows.batchIsRow.holds Tryz.pinned (OpenSpec.ofChange Rows.batchIsSpec) :=
 OpenClaim.holds_of_wide 3 Tryz.f3 rfl rfl rfl rfl rfl rfl rfl ⟨rfl,rfl,rfl,rfl,rfl⟩ rfl rfl rfl rfl rfl (by kernel_rfl) func3 (by kernel_rfl)
  (of_decide_eq_true (by kernel_rfl)) (by unfold Func.isWrapper;first|(rw [if_pos (by decide +kernel)];kernel_rfl)|(rw [if_neg (by decide +kernel)];exact ⟨rfl,rfl⟩))
  (fun os started H enc _=>lawBI_lifted os started H enc)
theorem lawBI_proved:Rows.BatchIsSaid:=lawBI_over
#print axioms lawBI_proved
end Go.Proofs.YtlhoihabllompaaGreat
