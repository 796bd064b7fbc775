/- The statement Rows.CollapseManySaid is proved: whatever the input, the law hands back true, and each argument reads as before; no condition. -/
import Derived.Test.YtahbknnehddjgaaY6toY15
import Derived.Test.YtahbknnehddjgaaC0
set_option linter.unusedSimpArgs false
set_option linter.unusedVariables false
set_option maxHeartbeats 8000000
set_option maxRecDepth 100000
open Go Go.Vm Go.Proofs Go.RowKit Go.ChangeShapes Go.WideShapes Go.ChangeAt S1
namespace Go.Proofs.Ytahbknnehddjgaa
theorem lawCN_law: ∀ l,AvAll [soupE,.sl .arr2] l→FnOk Try.prog 4 l (none,none,.s (.bool true))
  | [_,_],⟨⟨x0,hx0⟩,⟨x1,hx1⟩,_⟩=>by subst hx0;subst hx1;exact lawCNRow.1 _ _ rfl
theorem lawCN_lifted (os:Os) (started:os.Started) (H:Type) (enc:TypeId×Value→H) :
    ReturnsInHanded {} Try.checked os 4 .any (Rows.collapseManySpec.pre6 enc Try.prog Try.f4 Rows.collapseManyRow.domain false) (Rows.collapseManySpec.post enc Try.prog Try.f4 false true false false) :=
  law_lifted (C:=Try.checked) started own (by kernel_rfl) Try.func4 rfl laidOut (by kernel_rfl) (tyAllB_ok (by kernel_rfl)) (by kernel_rfl) Try.underlying4
    (fun ds h=>by match ds,h with | [_,_],_=>rfl) lawCN_law
    (ChangeSpec.witness6 (enc:=enc) (C:=Try.checked) false ⟨#[],#[.agg #[.int .i64 0,.slice none 0 0],.slice none 0 0],[]⟩ 8 (by kernel_rfl) (by kernel_rfl) (by kernel_rfl) (by kernel_rfl))
theorem lawCN_over:Rows.collapseManyRow.holds Try.pinned (OpenSpec.ofChange Rows.collapseManySpec) :=
  OpenClaim.holds_of_wide 4 Try.f4 rfl rfl rfl rfl rfl rfl rfl ⟨rfl,rfl,rfl,rfl,rfl⟩ rfl rfl rfl rfl rfl (by kernel_rfl) Try.func4 (by kernel_rfl)
    (of_decide_eq_true (by kernel_rfl)) (by unfold Func.isWrapper;first | (rw [if_pos (by decide +kernel)];kernel_rfl) | (rw [if_neg (by decide +kernel)];exact ⟨rfl,rfl⟩))
    (fun os started H enc _=>lawCN_lifted os started H enc)
theorem lawCN_proved:Rows.CollapseManySaid:=lawCN_over
#print axioms lawCN_proved
end Go.Proofs.Ytahbknnehddjgaa
