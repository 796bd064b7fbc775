/- The statement Rows.DistanceTwiceSaid is proved: whatever the input, the law hands back true, and each argument reads as before; no condition. -/
import Derived.Test.YtahbknnehddjgaaGreatD2toD4
import Derived.Test.YtahbknnehddjgaaGreatC0
set_option linter.unusedSimpArgs false
set_option linter.unusedVariables false
set_option maxHeartbeats 8000000
set_option maxRecDepth 100000
open Go Go.Vm Go.Proofs Go.RowKit Go.ChangeShapes Go.WideShapes Go.ChangeAt S1
namespace Go.Proofs.YtahbknnehddjgaaGreat
theorem lawDT_law: ∀ l,AvAll [soupE,.int .u8,.int .u8,.sl .arr3] l→FnOk Tryz.prog 7 l (none,none,.s (.bool true))
  | [_,_,_,_],⟨⟨x0,hx0⟩,⟨x1,hx1⟩,⟨x2,hx2⟩,⟨x3,hx3⟩,_⟩=>by subst hx0;subst hx1;subst hx2;subst hx3;exact lawDTRow.1 _ _ rfl
theorem lawDT_lifted (os:Os) (started:os.Started) (H:Type) (enc:TypeId×Value→H) :
    ReturnsInHanded {} Tryz.checked os 7 .any (Rows.distanceTwiceSpec.pre6 enc Tryz.prog Tryz.f7 Rows.distanceTwiceRow.domain false) (Rows.distanceTwiceSpec.post enc Tryz.prog Tryz.f7 false true false false) :=
  law_lifted (C:=Tryz.checked) started own (by kernel_rfl) Tryz.func7 rfl laidOut (by kernel_rfl) (tyAllB_ok (by kernel_rfl)) (by kernel_rfl) Tryz.underlying4
    (fun ds h=>by match ds,h with | [_,_,_,_],_=>rfl) lawDT_law
    (ChangeSpec.witness6 (enc:=enc) (C:=Tryz.checked) false ⟨#[],#[.agg #[.int .i64 0,.slice none 0 0],.int .u8 0,.int .u8 0,.slice none 0 0],[]⟩ 8 (by kernel_rfl) (by kernel_rfl) (by kernel_rfl) (by kernel_rfl))
theorem lawDT_over:Rows.distanceTwiceRow.holds Tryz.pinned (OpenSpec.ofChange Rows.distanceTwiceSpec) :=
  OpenClaim.holds_of_wide 7 Tryz.f7 rfl rfl rfl rfl rfl rfl rfl ⟨rfl,rfl,rfl,rfl,rfl⟩ rfl rfl rfl rfl rfl (by kernel_rfl) Tryz.func7 (by kernel_rfl)
    (of_decide_eq_true (by kernel_rfl)) (by unfold Func.isWrapper;first | (rw [if_pos (by decide +kernel)];kernel_rfl) | (rw [if_neg (by decide +kernel)];exact ⟨rfl,rfl⟩))
    (fun os started H enc _=>lawDT_lifted os started H enc)
theorem lawDT_proved:Rows.DistanceTwiceSaid:=lawDT_over
#print axioms lawDT_proved
end Go.Proofs.YtahbknnehddjgaaGreat
