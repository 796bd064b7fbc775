/- A part of the proofs of the laws of this seat: contracts of functions, each for every input that its text names. -/
import Derived.Test.YtkkhoppffmnkiaaS3
set_option linter.unusedSimpArgs false
set_option linter.unusedVariables false
open Go Go.Vm Go.Proofs
namespace S1
set_option maxRecDepth 100000

/-! great -/
def greatR (s : Int × List P3) : Bool := decide ((s.2.length : Int) > 40) || decide (s.1 > 120)
abbrev soupE : ETy := .pair (.int .i64) (.sl .arr3)
theorem great_vc {fn} (s : Int × List P3) : afun ⟨tyL, fn, []⟩ Try.f14 [soupE.av s] (fun v => v = .s (.bool (greatR s))) := by
  repeat' (conv => whnf
           first
            | done
            | refine Need.intro (by first | omega | (simp only [i64ok] at *; omega)) ?_
            | refine Need.intro (Hold.out ?_) ?_
            | refine Give.intro fun _ => ?_
            | refine BIf.and ?_
            | refine BIf.or ?_
            | refine BIf.eqi (fun _ => ?_) (fun _ => ?_)
            | refine BIf.nei (fun _ => ?_) (fun _ => ?_)
            | refine BIf.dec (fun _ => ?_) (fun _ => ?_)
            | refine BIf.nt ?_
            | refine BIf.intro (fun _ => ?_) (fun _ => ?_)
            | refine And.intro rfl ?_
            | refine And.intro (HoldEq.out ?_) ?_
            | refine And.intro (HoldOb.out ?_) ?_
            | exact True.intro
            | refine HoldEq.out ?_
            | refine HoldObs.out ?_
            | refine HoldOr.out ?_)
  all_goals refine HoldEq.bool ?_
  all_goals simp [greatR, *]
def greatC : List AV → Option Res := con1 soupE (fun s => some (none, none, .s (.bool (greatR s))))
theorem greatRow : FnRow Try.prog 14 greatC := ⟨con1_ok fun s r h => by cases h; exact fn_by (rules (fn := []) trivial) Try.func14 (by kernel_rfl) fun _ _ => great_vc s, _, Try.func14, by kernel_rfl, by kernel_rfl⟩

/-! small -/
def coordOk (x : Int) : Bool := !(decide (x > 536870912) || decide (x < -536870912))
def ptOk (p : P3) : Bool := coordOk p.1 && (coordOk p.2.1 && coordOk p.2.2)
def smallR (l : List P3) : Bool := l.all ptOk && decide ((l.length : Int) ≤ 120)
def loopSmall (l : List P3) : Spec Nat where
  inv i := i ≤ l.length ∧ l.all ptOk = (l.drop i).all ptOk
  live i := [(3, .s (.int .i64 i))]
  keep := [0]
  heap _ := []
  keepH := []
  mu i := l.length - i
theorem small_vc {fn} (l : List P3) : afun ⟨tyL, fn, []⟩ Try.f10 [(ETy.sl .arr3).av l] (fun v => v = .s (.bool (smallR l))) := by
  repeat' (conv => whnf
           first
            | done
            | refine Need.intro (by first | omega | (simp only [i64ok] at *; omega)) ?_
            | refine Need.intro (Hold.out ?_) ?_
            | refine Give.intro fun _ => ?_
            | refine BIf.and ?_
            | refine BIf.or ?_
            | refine BIf.eqi (fun _ => ?_) (fun _ => ?_)
            | refine BIf.nei (fun _ => ?_) (fun _ => ?_)
            | refine BIf.dec (fun _ => ?_) (fun _ => ?_)
            | refine BIf.nt ?_
            | refine BIf.intro (fun _ => ?_) (fun _ => ?_)
            | refine And.intro rfl ?_
            | refine And.intro (HoldEq.out ?_) ?_
            | refine And.intro (HoldOb.out ?_) ?_
            | exact True.intro
            | refine HoldEq.out ?_
            | refine HoldObs.out ?_
            | refine HoldOr.out ?_)
  refine HoldOr.intro ?_
  refine Or.inr (Exists.intro (Nat) (Exists.intro (loopSmall l) (And.intro (Exists.intro (0) (And.intro (Hold.out ?_) (And.intro ?_ (And.intro ?_ rfl)))) (fun x hi => ?_))))
  repeat' (conv => whnf
           first
            | done
            | refine Need.intro (by first | omega | (simp only [i64ok] at *; omega)) ?_
            | refine Need.intro (Hold.out ?_) ?_
            | refine Give.intro fun _ => ?_
            | refine BIf.and ?_
            | refine BIf.or ?_
            | refine BIf.eqi (fun _ => ?_) (fun _ => ?_)
            | refine BIf.nei (fun _ => ?_) (fun _ => ?_)
            | refine BIf.dec (fun _ => ?_) (fun _ => ?_)
            | refine BIf.nt ?_
            | refine BIf.intro (fun _ => ?_) (fun _ => ?_)
            | refine Or.inl (Exists.intro (4) ?_)
            | refine Exists.intro (x + 1) (And.intro (Hold.out ?_) (And.intro (And.intro ?_ (And.intro ?_ rfl)) (Hold.out ?_)))
            | refine And.intro rfl ?_
            | refine And.intro (HoldEq.out ?_) ?_
            | refine And.intro (HoldOb.out ?_) ?_
            | exact True.intro
            | refine HoldEq.out ?_
            | refine HoldObs.out ?_
            | refine HoldOr.out ?_)
  · exact Hold.intro ⟨Nat.zero_le _, rfl⟩
  all_goals (try (refine HoldEq.bool ?_; simp only [smallR]; rw [show l.all ptOk = (l.drop x).all ptOk from hi.2, drop_now ETy.arr3.dflt (by omega)]; simp [ptOk, coordOk, -List.all_eq_true] at *; omega))
  all_goals (try (refine HoldEq.bool ?_; simp only [smallR]; rw [show l.all ptOk = (l.drop x).all ptOk from hi.2, drop_all (by omega)]; simp; done))
  · refine Hold.intro ⟨by omega, ?_⟩
    have hp : ptOk (l.getD x ETy.arr3.dflt) = true := by simp [ptOk, coordOk] at *; omega
    rw [show l.all ptOk = (l.drop x).all ptOk from hi.2, drop_now ETy.arr3.dflt (by omega), List.all_cons, hp, Bool.true_and]
  · refine Hold.intro ?_
    show l.length - (x + 1) < l.length - x
    omega
def smallC : List AV → Option Res := con1 (.sl .arr3) (fun s => some (none, none, .s (.bool (smallR s))))
theorem smallRow : FnRow Try.prog 10 smallC := ⟨con1_ok fun s r h => by cases h; exact fn_by (rules (fn := []) trivial) Try.func10 (by kernel_rfl) fun _ _ => small_vc s, _, Try.func10, by kernel_rfl, by kernel_rfl⟩
/-! Squared -/
def sq (p q : Int) : Int := (p - q) * (p - q)
def sqR (p q : P3) : Int := sq p.1 q.1 + sq p.2.1 q.2.1 + sq p.2.2 q.2.2
def near (p q : P3) : Prop := ptOk p = true ∧ ptOk q = true
theorem sq_le (a : Int) (h1 : -1073741824 ≤ a) (h2 : a ≤ 1073741824) : 0 ≤ a * a ∧ a * a ≤ 1152921504606846976 := by
  have e : a * a = ((a.natAbs * a.natAbs : Nat) : Int) := by rw [Int.natAbs_mul_self]
  have : a.natAbs * a.natAbs ≤ 1073741824 * 1073741824 := Nat.mul_le_mul (by omega) (by omega)
  omega
theorem sq_vc {fn} (p q : P3) (h : near p q) : afun ⟨tyL, fn, []⟩ Try.f17 [ETy.arr3.av p, ETy.arr3.av q] (fun v => v = .s (.int .i64 (sqR p q))) := by
  simp [near, ptOk, coordOk] at h
  have b1 := sq_le (p.1 - q.1) (by omega) (by omega)
  have b2 := sq_le (p.2.1 - q.2.1) (by omega) (by omega)
  have b3 := sq_le (p.2.2 - q.2.2) (by omega) (by omega)
  repeat' (conv => whnf
           first
            | done
            | refine Need.intro (by first | omega | (simp only [i64ok] at *; omega)) ?_
            | refine Need.intro (Hold.out ?_) ?_
            | refine Give.intro fun _ => ?_
            | refine BIf.and ?_
            | refine BIf.or ?_
            | refine BIf.eqi (fun _ => ?_) (fun _ => ?_)
            | refine BIf.nei (fun _ => ?_) (fun _ => ?_)
            | refine BIf.dec (fun _ => ?_) (fun _ => ?_)
            | refine BIf.nt ?_
            | refine BIf.intro (fun _ => ?_) (fun _ => ?_)
            | refine Or.inl (Exists.intro (4) ?_)
            | refine And.intro rfl ?_
            | refine And.intro (HoldEq.out ?_) ?_
            | refine And.intro (HoldOb.out ?_) ?_
            | exact True.intro
            | refine HoldEq.out ?_
            | refine HoldObs.out ?_
            | refine HoldOr.out ?_)
  all_goals first
    | (refine Hold.intro ?_; simp [i64ok]; omega)
    | (refine HoldEq.int ?_; simp [sqR, sq])
def sqC : List AV → Option Res := con2 .arr3 .arr3 (fun p q => some (none, some (near p q), .s (.int .i64 (sqR p q))))
theorem sqRow : FnRow Try.prog 17 sqC := ⟨con2_ok fun p q r h => by cases h; exact fn_by (rules (fn := []) trivial) Try.func17 (by kernel_rfl) fun _ h => sq_vc p q h, _, Try.func17, by kernel_rfl, by kernel_rfl⟩
end S1
