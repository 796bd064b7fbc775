/- The statement Rows.LinkTurnedSaid is proved: whatever the input, the law hands back true, and each argument reads as before; no condition. -/
import Derived.Test.YtahbknnehddjgaaT14LtoZ4
import Derived.Test.YtahbknnehddjgaaC0
set_option linter.unusedSimpArgs false
set_option linter.unusedVariables false
set_option maxHeartbeats 8000000
set_option maxRecDepth 100000
open Go Go.Vm Go.Proofs Go.RowKit Go.ChangeShapes Go.WideShapes Go.ChangeAt S1
namespace Go.Proofs.Ytahbknnehddjgaa
theorem lawLU_law: ∀ l,AvAll [soupE,i64E,i64E,.sl i64E] l→FnOk Try.prog 7 l (none,none,.s (.bool true))
  | [_,_,_,_],⟨⟨x0,hx0⟩,⟨x1,hx1⟩,⟨x2,hx2⟩,⟨x3,hx3⟩,_⟩=>by subst hx0;subst hx1;subst hx2;subst hx3;exact lawLURow.1 _ _ rfl
theorem lawLU_lifted (os:Os) (started:os.Started) (H:Type) (enc:TypeId×Value→H) :
    ReturnsInHanded {} Try.checked os 7 .any (Rows.linkTurnedSpec.pre6 enc Try.prog Try.f7 Rows.linkTurnedRow.domain false) (Rows.linkTurnedSpec.post enc Try.prog Try.f7 false true false false) :=
  law_lifted (C:=Try.checked) started own (by kernel_rfl) Try.func7 rfl laidOut (by kernel_rfl) (tyAllB_ok (by kernel_rfl)) (by kernel_rfl) Try.underlying4
    (fun ds h=>by match ds,h with | [_,_,_,_],_=>rfl) lawLU_law
    (ChangeSpec.witness6 (enc:=enc) (C:=Try.checked) false ⟨#[],#[.agg #[.int .i64 0,.slice none 0 0],.int .i64 0,.int .i64 0,.slice none 0 0],[]⟩ 8 (by kernel_rfl) (by kernel_rfl) (by kernel_rfl) (by kernel_rfl))
theorem lawLU_over:Rows.linkTurnedRow.holds Try.pinned (OpenSpec.ofChange Rows.linkTurnedSpec) :=
  OpenClaim.holds_of_wide 7 Try.f7 rfl rfl rfl rfl rfl rfl rfl ⟨rfl,rfl,rfl,rfl,rfl⟩ rfl rfl rfl rfl rfl (by kernel_rfl) Try.func7 (by kernel_rfl)
    (of_decide_eq_true (by kernel_rfl)) (by unfold Func.isWrapper;first | (rw [if_pos (by decide +kernel)];kernel_rfl) | (rw [if_neg (by decide +kernel)];exact ⟨rfl,rfl⟩))
    (fun os started H enc _=>lawLU_lifted os started H enc)
theorem lawLU_proved:Rows.LinkTurnedSaid:=lawLU_over
#print axioms lawLU_proved
end Go.Proofs.Ytahbknnehddjgaa
