/- The statement Rows.LinkLessSaid is proved: whatever the input, the law hands back true, and each argument reads as before; no condition. -/
import Derived.Test.YtbfghjbhfgbdnaaE2toE4
import Derived.Test.YtbfghjbhfgbdnaaC0
set_option linter.unusedSimpArgs false
set_option linter.unusedVariables false
set_option maxHeartbeats 8000000
set_option maxRecDepth 100000
open Go.Proofs.Try
open Go Go.Vm Go.Proofs Go.RowKit Go.ChangeShapes Go.WideShapes Go.ChangeAt S1
namespace Go.Proofs.Ytbfghjbhfgbdnaa
theorem lawLL_law: ∀ l,zVU [zAa,.int .u8] l->zDn prog 3 l (none,none,.s (.bool true))
 | [_,_],⟨⟨x0,hx0⟩,⟨x1,hx1⟩,_⟩=>by subst hx0;subst hx1;exact lawLLRow.1 _ _ rfl
theorem lawLL_lifted (os:Os) (started:os.Started) (H:Type) (enc:TypeId×Value->H) :
 ReturnsInHanded {} Try.checked os 3 .any (Rows.linkLessSpec.pre6 enc prog Try.f3 Rows.linkLessRow.domain false) (Rows.linkLessSpec.post enc prog Try.f3 false true false false) :=
 law_lifted (C:=Try.checked) started own (by kernel_rfl) func3 rfl laidOut (by kernel_rfl) (zNC (by kernel_rfl)) (by kernel_rfl) Try.underlying4
  (fun ds h=>by match ds,h with|[_,_],_=>rfl) lawLL_law
  (ChangeSpec.witness6 (enc:=enc) (C:=Try.checked) false ⟨#[],#[.agg #[.int .i64 0,.slice none 0 0],.int .u8 0],[]⟩ 8 (by kernel_rfl) (by kernel_rfl) (by kernel_rfl) (by kernel_rfl))
theorem lawLL_over:Rows.linkLessRow.holds Try.pinned (OpenSpec.ofChange Rows.linkLessSpec) :=
 OpenClaim.holds_of_wide 3 Try.f3 rfl rfl rfl rfl rfl rfl rfl ⟨rfl,rfl,rfl,rfl,rfl⟩ rfl rfl rfl rfl rfl (by kernel_rfl) func3 (by kernel_rfl)
  (of_decide_eq_true (by kernel_rfl)) (by unfold Func.isWrapper;first|(rw [if_pos (by decide +kernel)];kernel_rfl)|(rw [if_neg (by decide +kernel)];exact ⟨rfl,rfl⟩))
  (fun os started H enc _=>lawLL_lifted os started H enc)
theorem lawLL_proved:Rows.LinkLessSaid:=lawLL_over
#print axioms lawLL_proved
end Go.Proofs.Ytbfghjbhfgbdnaa
