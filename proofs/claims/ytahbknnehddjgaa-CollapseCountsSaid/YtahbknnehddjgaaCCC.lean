/- The statement Rows.CollapseCountsSaid is proved: whatever the input, the law hands back true, and each argument reads as before; no condition. -/
import Derived.Test.YtahbknnehddjgaaY6toY17
import Derived.Test.YtahbknnehddjgaaC0
set_option linter.unusedSimpArgs false
set_option linter.unusedVariables false
set_option maxHeartbeats 8000000
set_option maxRecDepth 100000
open Go Go.Vm Go.Proofs Go.RowKit Go.ChangeShapes Go.WideShapes Go.ChangeAt S1
namespace Go.Proofs.Ytahbknnehddjgaa
theorem lawCC_law: ∀ l,AvAll [soupE,i64E,i64E] l→FnOk Try.prog 6 l (none,none,.s (.bool true))
  | [_,_,_],⟨⟨x0,hx0⟩,⟨x1,hx1⟩,⟨x2,hx2⟩,_⟩=>by subst hx0;subst hx1;subst hx2;exact lawCCRow.1 _ _ rfl
theorem lawCC_lifted (os:Os) (started:os.Started) (H:Type) (enc:TypeId×Value→H) :
    ReturnsInHanded {} Try.checked os 6 .any (Rows.collapseCountsSpec.pre6 enc Try.prog Try.f6 Rows.collapseCountsRow.domain false) (Rows.collapseCountsSpec.post enc Try.prog Try.f6 false true false false) :=
  law_lifted (C:=Try.checked) started own (by kernel_rfl) Try.func6 rfl laidOut (by kernel_rfl) (tyAllB_ok (by kernel_rfl)) (by kernel_rfl) Try.underlying4
    (fun ds h=>by match ds,h with | [_,_,_],_=>rfl) lawCC_law
    (ChangeSpec.witness6 (enc:=enc) (C:=Try.checked) false ⟨#[],#[.agg #[.int .i64 0,.slice none 0 0],.int .i64 0,.int .i64 0],[]⟩ 8 (by kernel_rfl) (by kernel_rfl) (by kernel_rfl) (by kernel_rfl))
theorem lawCC_over:Rows.collapseCountsRow.holds Try.pinned (OpenSpec.ofChange Rows.collapseCountsSpec) :=
  OpenClaim.holds_of_wide 6 Try.f6 rfl rfl rfl rfl rfl rfl rfl ⟨rfl,rfl,rfl,rfl,rfl⟩ rfl rfl rfl rfl rfl (by kernel_rfl) Try.func6 (by kernel_rfl)
    (of_decide_eq_true (by kernel_rfl)) (by unfold Func.isWrapper;first | (rw [if_pos (by decide +kernel)];kernel_rfl) | (rw [if_neg (by decide +kernel)];exact ⟨rfl,rfl⟩))
    (fun os started H enc _=>lawCC_lifted os started H enc)
theorem lawCC_proved:Rows.CollapseCountsSaid:=lawCC_over
#print axioms lawCC_proved
end Go.Proofs.Ytahbknnehddjgaa
