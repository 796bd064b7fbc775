/- A part of the proofs of the laws of this seat: contracts of functions, each for every input that its text names. -/
import Derived.Test.YtkkhoppffmnkiaaS1
set_option linter.unusedSimpArgs false
set_option linter.unusedVariables false
open Go Go.Vm Go.Proofs
namespace S1
set_option maxRecDepth 100000

theorem kit_int {k : IntKind} {m n : Int} (h : m = n) : AV.s (.int k m) = AV.s (.int k n) := by rw [h]
theorem kit_bool {m n : Bool} (h : m = n) : AV.s (.bool m) = AV.s (.bool n) := by rw [h]

def far1 (p q : Int) : Int := min ((p - q).natAbs : Int) 9223372036854775807
def farI (p q : Int × Int × Int) : Int := max (max (far1 p.1 q.1) (far1 p.2.1 q.2.1)) (far1 p.2.2 q.2.2)

theorem far1_eq (p q : Int) (hp : i64ok p) (hq : i64ok q) : ((min ((max p q - min p q) % 18446744073709551616) 9223372036854775807 + 9223372036854775808) % 18446744073709551616 - 9223372036854775808) = far1 p q := by
  unfold i64ok at hp hq
  unfold far1
  have e : max p q - min p q = ((p - q).natAbs : Int) := by omega
  rw [e]; omega

theorem far_vc {fn} (p q : Int × Int × Int) (h : goodArgs [ETy.arr3.av p, ETy.arr3.av q]) : afun ⟨tyL, fn, []⟩ Try.f18 [ETy.arr3.av p, ETy.arr3.av q] (fun v => v = .s (.int .i64 (farI p q))) := by
  obtain ⟨p0, p1, p2⟩ := p
  obtain ⟨q0, q1, q2⟩ := q
  obtain ⟨⟨h0, h1, h2, _⟩, ⟨k0, k1, k2, _⟩, _⟩ := h
  repeat' (conv => whnf
           first
            | refine Need.intro (by first | omega | (simp only [i64ok] at *; omega)) ?_
            | refine Give.intro fun _ => ?_
            | refine Or.inl ⟨4, ?_⟩
            | refine BIf.eqi (fun _ => ?_) (fun _ => ?_)
            | refine BIf.dec (fun _ => ?_) (fun _ => ?_))
  conv => whnf
  refine kit_int ?_
  simp [farI, IntKind.wrap_u64, IntKind.wrap_i64]
  rw [far1_eq _ _ h0 k0, far1_eq _ _ h1 k1, far1_eq _ _ h2 k2]
  simp only [far1]
  omega

abbrev P3 := Int × Int × Int
theorem far_ok : ∀ args r, con2 .arr3 .arr3 (fun p q => some (none, none, .s (.int .i64 (farI p q)))) args = some r → FnOk Try.prog 18 args r :=
  con2_ok fun p q r h => by
    cases h
    exact fn_by (rules (fn := []) trivial) Try.func18 (by kernel_rfl) fun h _ => far_vc p q h
end S1
