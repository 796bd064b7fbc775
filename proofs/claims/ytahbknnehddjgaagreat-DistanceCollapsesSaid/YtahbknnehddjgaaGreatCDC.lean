/- The statement Rows.DistanceCollapsesSaid is proved: whatever the input, the law hands back true, and each argument reads as before; no condition. -/
import Derived.Test.YtahbknnehddjgaaGreatD2toD3
import Derived.Test.YtahbknnehddjgaaGreatC0
set_option linter.unusedSimpArgs false
set_option linter.unusedVariables false
set_option maxHeartbeats 8000000
set_option maxRecDepth 100000
open Go Go.Vm Go.Proofs Go.RowKit Go.ChangeShapes Go.WideShapes Go.ChangeAt S1
namespace Go.Proofs.YtahbknnehddjgaaGreat
theorem lawDC_law: ∀ l,AvAll [soupE,.int .u8,.sl .arr3] l→FnOk Tryz.prog 6 l (none,none,.s (.bool true))
  | [_,_,_],⟨⟨x0,hx0⟩,⟨x1,hx1⟩,⟨x2,hx2⟩,_⟩=>by subst hx0;subst hx1;subst hx2;exact lawDCRow.1 _ _ rfl
theorem lawDC_lifted (os:Os) (started:os.Started) (H:Type) (enc:TypeId×Value→H) :
    ReturnsInHanded {} Tryz.checked os 6 .any (Rows.distanceCollapsesSpec.pre6 enc Tryz.prog Tryz.f6 Rows.distanceCollapsesRow.domain false) (Rows.distanceCollapsesSpec.post enc Tryz.prog Tryz.f6 false true false false) :=
  law_lifted (C:=Tryz.checked) started own (by kernel_rfl) Tryz.func6 rfl laidOut (by kernel_rfl) (tyAllB_ok (by kernel_rfl)) (by kernel_rfl) Tryz.underlying4
    (fun ds h=>by match ds,h with | [_,_,_],_=>rfl) lawDC_law
    (ChangeSpec.witness6 (enc:=enc) (C:=Tryz.checked) false ⟨#[],#[.agg #[.int .i64 0,.slice none 0 0],.int .u8 0,.slice none 0 0],[]⟩ 8 (by kernel_rfl) (by kernel_rfl) (by kernel_rfl) (by kernel_rfl))
theorem lawDC_over:Rows.distanceCollapsesRow.holds Tryz.pinned (OpenSpec.ofChange Rows.distanceCollapsesSpec) :=
  OpenClaim.holds_of_wide 6 Tryz.f6 rfl rfl rfl rfl rfl rfl rfl ⟨rfl,rfl,rfl,rfl,rfl⟩ rfl rfl rfl rfl rfl (by kernel_rfl) Tryz.func6 (by kernel_rfl)
    (of_decide_eq_true (by kernel_rfl)) (by unfold Func.isWrapper;first | (rw [if_pos (by decide +kernel)];kernel_rfl) | (rw [if_neg (by decide +kernel)];exact ⟨rfl,rfl⟩))
    (fun os started H enc _=>lawDC_lifted os started H enc)
theorem lawDC_proved:Rows.DistanceCollapsesSaid:=lawDC_over
#print axioms lawDC_proved
end Go.Proofs.YtahbknnehddjgaaGreat
