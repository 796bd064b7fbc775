/- The statement Rows.BatchApartSaid is proved: whatever the input, the law hands back true, and each argument reads as before; no condition. -/
import Derived.Test.YtlhoihabllompaaGreatR3toI4
import Derived.Test.YtlhoihabllompaaGreatC0
set_option linter.unusedSimpArgs false
set_option linter.unusedVariables false
set_option maxHeartbeats 8000000
set_option maxRecDepth 100000
open Go.Proofs.Tryz
open Go Go.Vm Go.Proofs Go.RowKit Go.ChangeShapes Go.WideShapes Go.ChangeAt S1
namespace Go.Proofs.YtlhoihabllompaaGreat
theorem lawBA_law: ∀ l,z0Z [qP,qP,.sl .arr2,.int .u8] l->zCn prog 6 l (none,none,.s (.bool true))
 | [_,_,_,_],⟨⟨x0,hx0⟩,⟨x1,hx1⟩,⟨x2,hx2⟩,⟨x3,hx3⟩,_⟩=>by subst hx0;subst hx1;subst hx2;subst hx3;exact lawBARow.1 _ _ rfl
theorem lawBA_lifted (os:Os) (started:os.Started) (H:Type) (enc:TypeId×Value->H) :
 ReturnsInHanded {} Tryz.checked os 6 .any (Rows.batchApartSpec.pre6 enc prog Tryz.f6 Rows.batchApartRow.domain false) (Rows.batchApartSpec.post enc prog Tryz.f6 false true false false) :=
 law_lifted (C:=Tryz.checked) started own (by kernel_rfl) func6 rfl laidOut (by kernel_rfl) (zMo (by kernel_rfl)) (by kernel_rfl) Tryz.underlying4
  (fun ds h=>by match ds,h with|[_,_,_,_],_=>rfl) lawBA_law
  (ChangeSpec.witness6 (enc:=enc) (C:=Tryz.checked) false ⟨#[],#[.agg #[.int .i64 0,.slice none 0 0],.agg #[.int .i64 0,.slice none 0 0],.slice none 0 0,.int .u8 0],[]⟩ 8 (by kernel_rfl) (by kernel_rfl) (by kernel_rfl) (by kernel_rfl))
theorem lawBA_over:Rows.batchApartRow.holds Tryz.pinned (OpenSpec.ofChange Rows.batchApartSpec) :=
 OpenClaim.holds_of_wide 6 Tryz.f6 rfl rfl rfl rfl rfl rfl rfl ⟨rfl,rfl,rfl,rfl,rfl⟩ rfl rfl rfl rfl rfl (by kernel_rfl) func6 (by kernel_rfl)
  (of_decide_eq_true (by kernel_rfl)) (by unfold Func.isWrapper;first|(rw [if_pos (by decide +kernel)];kernel_rfl)|(rw [if_neg (by decide +kernel)];exact ⟨rfl,rfl⟩))
  (fun os started H enc _=>lawBA_lifted os started H enc)
theorem lawBA_proved:Rows.BatchApartSaid:=lawBA_over
#print axioms lawBA_proved
end Go.Proofs.YtlhoihabllompaaGreat
