/- The statement Rows.CollapseShapeSaid is proved: whatever the input, the law hands back true, and each argument reads as before; no condition. -/
import Derived.Test.YtbfghjbhfgbdnaaGreatB7ptoE9
import Derived.Test.YtbfghjbhfgbdnaaGreatC0
set_option linter.unusedSimpArgs false
set_option linter.unusedVariables false
set_option maxHeartbeats 8000000
set_option maxRecDepth 100000
open Go.Proofs.Tryz
open Go Go.Vm Go.Proofs Go.RowKit Go.ChangeShapes Go.WideShapes Go.ChangeAt S1
namespace Go.Proofs.YtbfghjbhfgbdnaaGreat
theorem lawCH_law: ∀ l,zY4 [jQ,qX,qX] l->zDY prog 4 l (none,none,.s (.bool true))
 | [_,_,_],⟨⟨x0,hx0⟩,⟨x1,hx1⟩,⟨x2,hx2⟩,_⟩=>by subst hx0;subst hx1;subst hx2;exact lawCHRow.1 _ _ rfl
theorem lawCH_lifted (os:Os) (started:os.Started) (H:Type) (enc:TypeId×Value->H) :
 ReturnsInHanded {} Tryz.checked os 4 .any (Rows.collapseShapeSpec.pre6 enc prog Tryz.f4 Rows.collapseShapeRow.domain false) (Rows.collapseShapeSpec.post enc prog Tryz.f4 false true false false) :=
 law_lifted (C:=Tryz.checked) started own (by kernel_rfl) func4 rfl laidOut (by kernel_rfl) (zN0 (by kernel_rfl)) (by kernel_rfl) Tryz.underlying4
  (fun ds h=>by match ds,h with|[_,_,_],_=>rfl) lawCH_law
  (ChangeSpec.witness6 (enc:=enc) (C:=Tryz.checked) false ⟨#[],#[.agg #[.int .i64 0,.slice none 0 0],.int .i64 0,.int .i64 0],[]⟩ 8 (by kernel_rfl) (by kernel_rfl) (by kernel_rfl) (by kernel_rfl))
theorem lawCH_over:Rows.collapseShapeRow.holds Tryz.pinned (OpenSpec.ofChange Rows.collapseShapeSpec) :=
 OpenClaim.holds_of_wide 4 Tryz.f4 rfl rfl rfl rfl rfl rfl rfl ⟨rfl,rfl,rfl,rfl,rfl⟩ rfl rfl rfl rfl rfl (by kernel_rfl) func4 (by kernel_rfl)
  (of_decide_eq_true (by kernel_rfl)) (by unfold Func.isWrapper;first|(rw [if_pos (by decide +kernel)];kernel_rfl)|(rw [if_neg (by decide +kernel)];exact ⟨rfl,rfl⟩))
  (fun os started H enc _=>lawCH_lifted os started H enc)
theorem lawCH_proved:Rows.CollapseShapeSaid:=lawCH_over
#print axioms lawCH_proved
end Go.Proofs.YtbfghjbhfgbdnaaGreat
