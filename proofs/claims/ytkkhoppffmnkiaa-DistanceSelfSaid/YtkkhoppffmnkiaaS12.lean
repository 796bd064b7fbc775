/- A part of the proofs of the laws of this seat: contracts of functions, each for every input that its text names. -/
import Derived.Test.YtkkhoppffmnkiaaS6
set_option linter.unusedSimpArgs false
set_option linter.unusedVariables false
open Go Go.Vm Go.Proofs
namespace S1
set_option maxRecDepth 100000

/-! ref.right -/
def loopRight (n : Int) (l : List P3) : Spec Nat where
  inv i := i ≤ l.length ∧ l.all (triIn n) = (l.drop i).all (triIn n)
  live i := [(3, .s (.int .i64 i))]
  keep := [0, 1]
  heap _ := []
  keepH := [0]
  mu i := l.length - i
theorem right_vc {fn} (n : Int) (l : List P3) : afun ⟨tyL, fn, []⟩ Try.f25 [soupE.av (n, l)] (fun v => v = .s (.bool (fitsR (n, l)))) := by
  repeat' (conv => whnf
           first
            | done
            | refine Need.intro (by first | omega | (simp only [i64ok] at *; omega)) ?_
            | refine Need.intro (Hold.out ?_) ?_
            | refine Give.intro fun _ => ?_
            | refine BIf.and ?_
            | refine BIf.or ?_
            | refine BIf.eqi (fun _ => ?_) (fun _ => ?_)
            | refine BIf.nei (fun _ => ?_) (fun _ => ?_)
            | refine BIf.dec (fun _ => ?_) (fun _ => ?_)
            | refine BIf.nt ?_
            | refine BIf.intro (fun _ => ?_) (fun _ => ?_)
            | ((first | (with_reducible show Or (∃ n, rounds (acode _ (Code.seq (Code.region 2 _ _) _)) _ n _) _) | (with_reducible show Or (∃ n, rounds (acode _ (Code.seq (Code.seq (Code.region 2 _ _) _) _)) _ n _) _) | (with_reducible show Or (∃ n, rounds (acode _ (Code.seq (Code.seq (Code.seq (Code.region 2 _ _) _) _) _)) _ n _) _) | (with_reducible show Or (∃ n, rounds (acode _ (Code.seq (Code.seq (Code.seq (Code.seq (Code.region 2 _ _) _) _) _) _)) _ n _) _)); refine Or.inr (Exists.intro (Nat) (Exists.intro (loopRight n l) (And.intro (Exists.intro (0) (And.intro (Hold.out ?_) (And.intro ?_ (And.intro ?_ rfl)))) (fun x hx => ?_)))))
            | ((with_reducible show (∃ y, And (Spec.inv (loopRight _ _) y) _)); refine Exists.intro (x + 1) (And.intro (Hold.out ?_) (And.intro (And.intro ?_ (And.intro ?_ rfl)) (Hold.out ?_))))
            | ((first | (with_reducible show Or (∃ n, rounds (acode _ (Code.seq (Code.region 5 _ _) _)) _ n _) _) | (with_reducible show Or (∃ n, rounds (acode _ (Code.seq (Code.seq (Code.region 5 _ _) _) _)) _ n _) _) | (with_reducible show Or (∃ n, rounds (acode _ (Code.seq (Code.seq (Code.seq (Code.region 5 _ _) _) _) _)) _ n _) _) | (with_reducible show Or (∃ n, rounds (acode _ (Code.seq (Code.seq (Code.seq (Code.seq (Code.region 5 _ _) _) _) _) _)) _ n _) _)); refine Or.inl (Exists.intro (4) ?_))
            | refine And.intro rfl ?_
            | refine And.intro (HoldEq.out ?_) ?_
            | refine And.intro (HoldOb.out ?_) ?_
            | exact True.intro
            | refine HoldEq.out ?_
            | refine HoldObs.out ?_
            | refine HoldOr.out ?_)
  all_goals try first | refine HoldEq.int ?_ | refine HoldEq.bool ?_ | refine HoldEq.sl ?_ | refine HoldEq.own ?_ | refine HoldOb.row ?_ | refine HoldOb.map ?_ | refine HoldObs.row ?_
  all_goals try simp only [take_one, take_one', set_one, take_all, List.length_singleton, rec_self, Int.toNat_natCast, pair_eta, ETy.dflt, List.getD_cons_zero, List.getD_cons_succ, Int.reduceToNat, Int.reduceAdd, Int.reduceSub, Int.reduceNeg, Nat.reduceAdd, Nat.zero_add, loopRight, fitsR] at *
  · exact Hold.intro ⟨Nat.zero_le _, rfl⟩
  all_goals first
    | (refine Hold.intro ?_; omega)
    | exact all_end hx (by assumption)
    | (refine all_bad hx (by assumption) ?_; simp [triIn, vIn] at *; omega)
    | (refine Hold.intro (all_step hx (by assumption) ?_); simp [triIn, vIn] at *; omega)
def rightC : List AV → Option Res := con1 soupE (fun s => some (none, none, .s (.bool (fitsR s))))
theorem rightRow : FnRow Try.prog 25 rightC := ⟨con1_ok fun s r h => by cases h; exact fn_by (rulesF (fn := []) (fr := []) trivial trivial) Try.func25 (by kernel_rfl) fun _ _ => right_vc s.1 s.2, _, Try.func25, by kernel_rfl, by kernel_rfl⟩

/-! ref.has -/
@[irreducible] def hasR (t : P3) (v : Int) : Bool := t.1 == v || (t.2.1 == v || t.2.2 == v)
theorem has_vc {fn} (t : P3) (v : Int) : afun ⟨tyL, fn, []⟩ Try.f26 [ETy.arr3.av t, (ETy.int .i64).av v] (fun r => r = .s (.bool (hasR t v))) := by
  repeat' (conv => whnf
           first
            | done
            | refine Need.intro (by first | omega | (simp only [i64ok] at *; omega)) ?_
            | refine Need.intro (Hold.out ?_) ?_
            | refine Give.intro fun _ => ?_
            | refine BIf.and ?_
            | refine BIf.or ?_
            | refine BIf.eqi (fun _ => ?_) (fun _ => ?_)
            | refine BIf.nei (fun _ => ?_) (fun _ => ?_)
            | refine BIf.dec (fun _ => ?_) (fun _ => ?_)
            | refine BIf.nt ?_
            | refine BIf.intro (fun _ => ?_) (fun _ => ?_)
            | refine And.intro rfl ?_
            | refine And.intro (HoldEq.out ?_) ?_
            | refine And.intro (HoldOb.out ?_) ?_
            | exact True.intro
            | refine HoldEq.out ?_
            | refine HoldObs.out ?_
            | refine HoldOr.out ?_)
  all_goals try first | refine HoldEq.int ?_ | refine HoldEq.bool ?_ | refine HoldEq.sl ?_ | refine HoldEq.own ?_ | refine HoldOb.row ?_ | refine HoldOb.map ?_ | refine HoldObs.row ?_
  all_goals try simp only [take_one, take_one', set_one, take_all, List.length_singleton, rec_self, Int.toNat_natCast, pair_eta, ETy.dflt, List.getD_cons_zero, List.getD_cons_succ, Int.reduceToNat, Int.reduceAdd, Int.reduceSub, Int.reduceNeg, Nat.reduceAdd, Nat.zero_add, hasR] at *
  · rename_i h; rw [h]; simp
  · rename_i h1 h; rw [h]; simp
  · rename_i h1 h2; rw [beq_false_of_ne h1, beq_false_of_ne h2]; rfl
def hasC : List AV → Option Res := con2 .arr3 (.int .i64) (fun t v => some (none, none, .s (.bool (hasR t v))))
theorem hasRow : FnRow Try.prog 26 hasC := ⟨con2_ok fun t v r h => by cases h; exact fn_by (rulesF (fn := []) (fr := []) trivial trivial) Try.func26 (by kernel_rfl) fun _ _ => has_vc t v, _, Try.func26, by kernel_rfl, by kernel_rfl⟩
end S1
