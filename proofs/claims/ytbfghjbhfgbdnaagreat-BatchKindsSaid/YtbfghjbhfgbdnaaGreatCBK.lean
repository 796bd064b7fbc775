/- The statement Rows.BatchKindsSaid is proved: whatever the input, the law hands back true, and each argument reads as before; no condition. -/
import Derived.Test.YtbfghjbhfgbdnaaGreatY2btoE10
import Derived.Test.YtbfghjbhfgbdnaaGreatC0
set_option linter.unusedSimpArgs false
set_option linter.unusedVariables false
set_option maxHeartbeats 8000000
set_option maxRecDepth 100000
open Go.Proofs.Tryz
open Go Go.Vm Go.Proofs Go.RowKit Go.ChangeShapes Go.WideShapes Go.ChangeAt S1
namespace Go.Proofs.YtbfghjbhfgbdnaaGreat
theorem lawBK_law: ∀ l,zY4 [jQ,.sl .arr2] l->zDY prog 3 l (none,none,.s (.bool true))
 | [_,_],⟨⟨x0,hx0⟩,⟨x1,hx1⟩,_⟩=>by subst hx0;subst hx1;exact lawBKRow.1 _ _ rfl
theorem lawBK_lifted (os:Os) (started:os.Started) (H:Type) (enc:TypeId×Value->H) :
 ReturnsInHanded {} Tryz.checked os 3 .any (Rows.batchKindsSpec.pre6 enc prog Tryz.f3 Rows.batchKindsRow.domain false) (Rows.batchKindsSpec.post enc prog Tryz.f3 false true false false) :=
 law_lifted (C:=Tryz.checked) started own (by kernel_rfl) func3 rfl laidOut (by kernel_rfl) (zN0 (by kernel_rfl)) (by kernel_rfl) Tryz.underlying4
  (fun ds h=>by match ds,h with|[_,_],_=>rfl) lawBK_law
  (ChangeSpec.witness6 (enc:=enc) (C:=Tryz.checked) false ⟨#[],#[.agg #[.int .i64 0,.slice none 0 0],.slice none 0 0],[]⟩ 8 (by kernel_rfl) (by kernel_rfl) (by kernel_rfl) (by kernel_rfl))
theorem lawBK_over:Rows.batchKindsRow.holds Tryz.pinned (OpenSpec.ofChange Rows.batchKindsSpec) :=
 OpenClaim.holds_of_wide 3 Tryz.f3 rfl rfl rfl rfl rfl rfl rfl ⟨rfl,rfl,rfl,rfl,rfl⟩ rfl rfl rfl rfl rfl (by kernel_rfl) func3 (by kernel_rfl)
  (of_decide_eq_true (by kernel_rfl)) (by unfold Func.isWrapper;first|(rw [if_pos (by decide +kernel)];kernel_rfl)|(rw [if_neg (by decide +kernel)];exact ⟨rfl,rfl⟩))
  (fun os started H enc _=>lawBK_lifted os started H enc)
theorem lawBK_proved:Rows.BatchKindsSaid:=lawBK_over
#print axioms lawBK_proved
end Go.Proofs.YtbfghjbhfgbdnaaGreat
