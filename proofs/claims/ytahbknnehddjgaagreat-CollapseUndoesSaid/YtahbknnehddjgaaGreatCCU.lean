/- The statement Rows.CollapseUndoesSaid is proved: whatever the input, the law hands back true, and each argument reads as before; no condition. -/
import Derived.Test.YtahbknnehddjgaaGreatY2btoY18
import Derived.Test.YtahbknnehddjgaaGreatC0
set_option linter.unusedSimpArgs false
set_option linter.unusedVariables false
set_option maxHeartbeats 8000000
set_option maxRecDepth 100000
open Go Go.Vm Go.Proofs Go.RowKit Go.ChangeShapes Go.WideShapes Go.ChangeAt S1
namespace Go.Proofs.YtahbknnehddjgaaGreat
theorem lawCU_law: ∀ l,AvAll [soupE,recE] l→FnOk Tryz.prog 5 l (none,none,.s (.bool true))
  | [_,_],⟨⟨x0,hx0⟩,⟨x1,hx1⟩,_⟩=>by subst hx0;subst hx1;exact lawCURow.1 _ _ rfl
theorem lawCU_lifted (os:Os) (started:os.Started) (H:Type) (enc:TypeId×Value→H) :
    ReturnsInHanded {} Tryz.checked os 5 .any (Rows.collapseUndoesSpec.pre6 enc Tryz.prog Tryz.f5 Rows.collapseUndoesRow.domain false) (Rows.collapseUndoesSpec.post enc Tryz.prog Tryz.f5 false true false false) :=
  law_lifted (C:=Tryz.checked) started own (by kernel_rfl) Tryz.func5 rfl laidOut (by kernel_rfl) (tyAllB_ok (by kernel_rfl)) (by kernel_rfl) Tryz.underlying4
    (fun ds h=>by match ds,h with | [_,_],_=>rfl) lawCU_law
    (ChangeSpec.witness6 (enc:=enc) (C:=Tryz.checked) false ⟨#[],#[.agg #[.int .i64 0,.slice none 0 0],.agg #[.int .i64 0,.int .i64 0,.slice none 0 0,.slice none 0 0,.slice none 0 0]],[]⟩ 8 (by kernel_rfl) (by kernel_rfl) (by kernel_rfl) (by kernel_rfl))
theorem lawCU_over:Rows.collapseUndoesRow.holds Tryz.pinned (OpenSpec.ofChange Rows.collapseUndoesSpec) :=
  OpenClaim.holds_of_wide 5 Tryz.f5 rfl rfl rfl rfl rfl rfl rfl ⟨rfl,rfl,rfl,rfl,rfl⟩ rfl rfl rfl rfl rfl (by kernel_rfl) Tryz.func5 (by kernel_rfl)
    (of_decide_eq_true (by kernel_rfl)) (by unfold Func.isWrapper;first | (rw [if_pos (by decide +kernel)];kernel_rfl) | (rw [if_neg (by decide +kernel)];exact ⟨rfl,rfl⟩))
    (fun os started H enc _=>lawCU_lifted os started H enc)
theorem lawCU_proved:Rows.CollapseUndoesSaid:=lawCU_over
#print axioms lawCU_proved
end Go.Proofs.YtahbknnehddjgaaGreat
