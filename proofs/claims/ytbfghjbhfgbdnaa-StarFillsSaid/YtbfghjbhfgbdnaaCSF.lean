/- The statement Rows.StarFillsSaid is proved: whatever the input, the law hands back true, and each argument reads as before; no condition. -/
import Derived.Test.YtbfghjbhfgbdnaaU3toE7
import Derived.Test.YtbfghjbhfgbdnaaC0
set_option linter.unusedSimpArgs false
set_option linter.unusedVariables false
set_option maxHeartbeats 8000000
set_option maxRecDepth 100000
open Go.Proofs.Try
open Go Go.Vm Go.Proofs Go.RowKit Go.ChangeShapes Go.WideShapes Go.ChangeAt S1
namespace Go.Proofs.Ytbfghjbhfgbdnaa
theorem lawSF_law: ∀ l,zVU [zAa] l->zDn prog 5 l (none,none,.s (.bool true))
 | [_],⟨⟨x0,hx0⟩,_⟩=>by subst hx0;exact lawSFRow.1 _ _ rfl
theorem lawSF_lifted (os:Os) (started:os.Started) (H:Type) (enc:TypeId×Value->H) :
 ReturnsInHanded {} Try.checked os 5 .any (Rows.starFillsSpec.pre6 enc prog Try.f5 Rows.starFillsRow.domain false) (Rows.starFillsSpec.post enc prog Try.f5 false true false false) :=
 law_lifted (C:=Try.checked) started own (by kernel_rfl) func5 rfl laidOut (by kernel_rfl) (zNC (by kernel_rfl)) (by kernel_rfl) Try.underlying4
  (fun ds h=>by match ds,h with|[_],_=>rfl) lawSF_law
  (ChangeSpec.witness6 (enc:=enc) (C:=Try.checked) false ⟨#[],#[.agg #[.int .i64 0,.slice none 0 0]],[]⟩ 8 (by kernel_rfl) (by kernel_rfl) (by kernel_rfl) (by kernel_rfl))
theorem lawSF_over:Rows.starFillsRow.holds Try.pinned (OpenSpec.ofChange Rows.starFillsSpec) :=
 OpenClaim.holds_of_wide 5 Try.f5 rfl rfl rfl rfl rfl rfl rfl ⟨rfl,rfl,rfl,rfl,rfl⟩ rfl rfl rfl rfl rfl (by kernel_rfl) func5 (by kernel_rfl)
  (of_decide_eq_true (by kernel_rfl)) (by unfold Func.isWrapper;first|(rw [if_pos (by decide +kernel)];kernel_rfl)|(rw [if_neg (by decide +kernel)];exact ⟨rfl,rfl⟩))
  (fun os started H enc _=>lawSF_lifted os started H enc)
theorem lawSF_proved:Rows.StarFillsSaid:=lawSF_over
#print axioms lawSF_proved
end Go.Proofs.Ytbfghjbhfgbdnaa
