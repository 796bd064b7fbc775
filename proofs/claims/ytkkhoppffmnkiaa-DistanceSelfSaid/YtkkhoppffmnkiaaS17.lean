/- A part of the proofs of the laws of this seat: contracts of functions, each for every input that its text names. -/
import Derived.Test.YtkkhoppffmnkiaaS14
set_option linter.unusedSimpArgs false
set_option linter.unusedVariables false
open Go Go.Vm Go.Proofs
namespace S1
set_option maxRecDepth 100000

/-! gypsumref09: Edge, Has, twice -/
abbrev witE : ETy := .pair (.int .i64) (.pair (.int .i64) (.int .i64))
abbrev Wit := Int × Int × Int
@[irreducible] def edgeR (t : P3) (a b : Int) : Bool := (t.1 == a && t.2.1 == b) || ((t.2.1 == a && t.2.2 == b) || (t.2.2 == a && t.1 == b))
theorem edge_vc {fn} (t : P3) (a b : Int) : afun ⟨tyL, fn, []⟩ Try.f33 [ETy.arr3.av t, (ETy.int .i64).av a, (ETy.int .i64).av b] (fun r => r = .s (.bool (edgeR t a b))) := by
  repeat' (conv => whnf
           first
            | done
            | refine Need.intro (by first | omega | (simp only [i64ok] at *; omega)) ?_
            | refine Need.intro (Hold.out ?_) ?_
            | refine Give.intro fun _ => ?_
            | refine BIf.and ?_
            | refine BIf.or ?_
            | refine BIf.eqi (fun _ => ?_) (fun _ => ?_)
            | refine BIf.nei (fun _ => ?_) (fun _ => ?_)
            | refine BIf.dec (fun _ => ?_) (fun _ => ?_)
            | refine BIf.nt ?_
            | refine BIf.intro (fun _ => ?_) (fun _ => ?_)
            | refine And.intro rfl ?_
            | refine And.intro (HoldEq.out ?_) ?_
            | refine And.intro (HoldOb.out ?_) ?_
            | exact True.intro
            | refine HoldEq.out ?_
            | refine HoldObs.out ?_
            | refine HoldOr.out ?_)
  all_goals try first | refine HoldEq.int ?_ | refine HoldEq.bool ?_ | refine HoldEq.sl ?_ | refine HoldEq.own ?_ | refine HoldOb.row ?_ | refine HoldOb.map ?_ | refine HoldObs.row ?_
  all_goals try simp only [take_one, take_one', set_one, take_all, List.length_singleton, rec_self, Int.toNat_natCast, pair_eta, ETy.dflt, List.getD_cons_zero, List.getD_cons_succ, Int.reduceToNat, Int.reduceAdd, Int.reduceSub, Int.reduceNeg, Nat.reduceAdd, Nat.zero_add, edgeR] at *
  all_goals rw [Bool.eq_iff_iff]; simp only [Bool.or_eq_true, Bool.and_eq_true, beq_iff_eq, Bool.false_eq_true, true_iff, iff_true, false_iff, iff_false]; omega
def edgeC : List AV → Option Res := con3 .arr3 (.int .i64) (.int .i64) (fun t a b => some (none, none, .s (.bool (edgeR t a b))))
theorem edgeRow : FnRow Try.prog 33 edgeC := ⟨con3_ok fun t a b r h => by cases h; exact fn_by (rulesF (fn := []) (fr := []) trivial trivial) Try.func33 (by kernel_rfl) fun _ _ => edge_vc t a b, _, Try.func33, by kernel_rfl, by kernel_rfl⟩
theorem has9_vc {fn} (t : P3) (v : Int) : afun ⟨tyL, fn, []⟩ Try.f30 [ETy.arr3.av t, (ETy.int .i64).av v] (fun r => r = .s (.bool (hasR t v))) := by
  repeat' (conv => whnf
           first
            | done
            | refine Need.intro (by first | omega | (simp only [i64ok] at *; omega)) ?_
            | refine Need.intro (Hold.out ?_) ?_
            | refine Give.intro fun _ => ?_
            | refine BIf.and ?_
            | refine BIf.or ?_
            | refine BIf.eqi (fun _ => ?_) (fun _ => ?_)
            | refine BIf.nei (fun _ => ?_) (fun _ => ?_)
            | refine BIf.dec (fun _ => ?_) (fun _ => ?_)
            | refine BIf.nt ?_
            | refine BIf.intro (fun _ => ?_) (fun _ => ?_)
            | refine And.intro rfl ?_
            | refine And.intro (HoldEq.out ?_) ?_
            | refine And.intro (HoldOb.out ?_) ?_
            | exact True.intro
            | refine HoldEq.out ?_
            | refine HoldObs.out ?_
            | refine HoldOr.out ?_)
  all_goals try first | refine HoldEq.int ?_ | refine HoldEq.bool ?_ | refine HoldEq.sl ?_ | refine HoldEq.own ?_ | refine HoldOb.row ?_ | refine HoldOb.map ?_ | refine HoldObs.row ?_
  all_goals try simp only [take_one, take_one', set_one, take_all, List.length_singleton, rec_self, Int.toNat_natCast, pair_eta, ETy.dflt, List.getD_cons_zero, List.getD_cons_succ, Int.reduceToNat, Int.reduceAdd, Int.reduceSub, Int.reduceNeg, Nat.reduceAdd, Nat.zero_add, hasR] at *
  · rename_i h; rw [h]; simp
  · rename_i h1 h; rw [h]; simp
  · rename_i h1 h2; rw [beq_false_of_ne h1, beq_false_of_ne h2]; rfl
def has9C : List AV → Option Res := con2 .arr3 (.int .i64) (fun t v => some (none, none, .s (.bool (hasR t v))))
theorem has9Row : FnRow Try.prog 30 has9C := ⟨con2_ok fun t v r h => by cases h; exact fn_by (rulesF (fn := []) (fr := []) trivial trivial) Try.func30 (by kernel_rfl) fun _ _ => has9_vc t v, _, Try.func30, by kernel_rfl, by kernel_rfl⟩
@[irreducible] def twiceR (t u : P3) : Bool := edgeR u t.1 t.2.1 || (edgeR u t.2.1 t.2.2 || edgeR u t.2.2 t.1)
theorem twice_vc (t u : P3) : afun ⟨tyL, [(33, edgeC)], []⟩ Try.f32 [ETy.arr3.av t, ETy.arr3.av u] (fun r => r = .s (.bool (twiceR t u))) := by
  repeat' (conv => whnf
           first
            | done
            | refine Need.intro (by first | omega | (simp only [i64ok] at *; omega)) ?_
            | refine Need.intro (Hold.out ?_) ?_
            | refine Give.intro fun _ => ?_
            | refine BIf.and ?_
            | refine BIf.or ?_
            | refine BIf.eqi (fun _ => ?_) (fun _ => ?_)
            | refine BIf.nei (fun _ => ?_) (fun _ => ?_)
            | refine BIf.dec (fun _ => ?_) (fun _ => ?_)
            | refine BIf.nt ?_
            | refine BIf.intro (fun _ => ?_) (fun _ => ?_)
            | refine And.intro rfl ?_
            | refine And.intro (HoldEq.out ?_) ?_
            | refine And.intro (HoldOb.out ?_) ?_
            | exact True.intro
            | refine HoldEq.out ?_
            | refine HoldObs.out ?_
            | refine HoldOr.out ?_)
  all_goals try first | refine HoldEq.int ?_ | refine HoldEq.bool ?_ | refine HoldEq.sl ?_ | refine HoldEq.own ?_ | refine HoldOb.row ?_ | refine HoldOb.map ?_ | refine HoldObs.row ?_
  all_goals try simp only [take_one, take_one', set_one, take_all, List.length_singleton, rec_self, Int.toNat_natCast, pair_eta, ETy.dflt, List.getD_cons_zero, List.getD_cons_succ, Int.reduceToNat, Int.reduceAdd, Int.reduceSub, Int.reduceNeg, Nat.reduceAdd, Nat.zero_add, twiceR] at *
  all_goals simp [*]
def twiceC : List AV → Option Res := con2 .arr3 .arr3 (fun t u => some (none, none, .s (.bool (twiceR t u))))
theorem twiceRow : FnRow Try.prog 32 twiceC := ⟨con2_ok fun t u r h => by cases h; exact fn_by (rulesF (fn := [(33, edgeC)]) (fr := []) ⟨edgeRow, trivial⟩ trivial) Try.func32 (by kernel_rfl) fun _ _ => twice_vc t u, _, Try.func32, by kernel_rfl, by kernel_rfl⟩

/-! index -/
def idxL (n : Int) : Nat → List P3 → List Wit
  | _, [] => []
  | i, t :: r => if triIn n t then idxL n (i + 1) r else (1, (i : Int), 0) :: idxL n (i + 1) r
def bigR (s : Int × List P3) : Bool := decide (s.1 < 0) || (decide (s.1 > 4096) || decide ((s.2.length : Int) > 8192))
def indexR (s : Int × List P3) : List Wit := if bigR s then [(1, -1, 0)] else idxL s.1 0 s.2
def loopI (n : Int) (l : List P3) : Spec (Nat × List Wit) where
  inv x := x.1 ≤ l.length ∧ x.2.length ≤ x.1 ∧ idxL n 0 l = x.2 ++ idxL n x.1 (l.drop x.1)
  live x := [(4, .s (.int .i64 x.1)), (3, .s (.own 2 0 x.2.length))]
  keep := [1]
  heap x := [(2, .row witE 60 x.2)]
  keepH := [0]
  mu x := l.length - x.1
theorem tri_bad {n : Int} {t : P3} (h : t.1 < 0 ∨ t.1 ≥ n ∨ t.2.1 < 0 ∨ t.2.1 ≥ n ∨ t.2.2 < 0 ∨ t.2.2 ≥ n) : triIn n t = false := by
  rw [← Bool.not_eq_true]; intro e; have := triIn_spec e; omega
theorem tri_good {n : Int} {t : P3} (h : ¬ (t.1 < 0 ∨ t.1 ≥ n ∨ t.2.1 < 0 ∨ t.2.1 ≥ n ∨ t.2.2 < 0 ∨ t.2.2 ≥ n)) : triIn n t = true := by
  simp only [triIn, vIn, Bool.and_eq_true, Bool.not_eq_true', Bool.or_eq_false_iff, decide_eq_false_iff_not]; omega
theorem index9_vc {fn} (n : Int) (l : List P3) : afunF ⟨tyL, fn, []⟩ Try.f28 [soupE.av (n, l)] (fun v obs => v = .s (.own 0 0 (indexR (n, l)).length) ∧ obs = [.row witE 60 (indexR (n, l))]) := by
  repeat' (conv => whnf
           first
            | done
            | refine Need.intro (by first | omega | (simp only [i64ok] at *; omega)) ?_
            | refine Need.intro (Hold.out ?_) ?_
            | refine Give.intro fun _ => ?_
            | refine BIf.and ?_
            | refine BIf.or ?_
            | refine BIf.eqi (fun _ => ?_) (fun _ => ?_)
            | refine BIf.nei (fun _ => ?_) (fun _ => ?_)
            | refine BIf.dec (fun _ => ?_) (fun _ => ?_)
            | refine BIf.nt ?_
            | refine BIf.intro (fun _ => ?_) (fun _ => ?_)
            | ((first | (with_reducible show Or (∃ n, rounds (acode _ (Code.seq (Code.region 5 _ _) _)) _ n _) _) | (with_reducible show Or (∃ n, rounds (acode _ (Code.seq (Code.seq (Code.region 5 _ _) _) _)) _ n _) _) | (with_reducible show Or (∃ n, rounds (acode _ (Code.seq (Code.seq (Code.seq (Code.region 5 _ _) _) _) _)) _ n _) _) | (with_reducible show Or (∃ n, rounds (acode _ (Code.seq (Code.seq (Code.seq (Code.seq (Code.region 5 _ _) _) _) _) _)) _ n _) _)); refine Or.inr (Exists.intro (Nat × List Wit) (Exists.intro (loopI n l) (And.intro (Exists.intro ((0, [])) (And.intro (Hold.out ?_) (And.intro ?_ (And.intro ?_ rfl)))) (fun x hx => ?_)))))
            | ((first | (with_reducible show Or (∃ n, rounds (acode _ (Code.seq (Code.region 9 _ _) _)) _ n _) _) | (with_reducible show Or (∃ n, rounds (acode _ (Code.seq (Code.seq (Code.region 9 _ _) _) _)) _ n _) _) | (with_reducible show Or (∃ n, rounds (acode _ (Code.seq (Code.seq (Code.seq (Code.region 9 _ _) _) _) _)) _ n _) _) | (with_reducible show Or (∃ n, rounds (acode _ (Code.seq (Code.seq (Code.seq (Code.seq (Code.region 9 _ _) _) _) _) _)) _ n _) _)); refine Or.inl (Exists.intro (4) ?_))
            | ((with_reducible show (∃ y, And (Spec.inv (loopI _ _) y) _)); refine Exists.intro ((x.1 + 1, if triIn n (l.getD x.1 (0, 0, 0)) then x.2 else x.2 ++ [(1, (x.1 : Int), 0)])) (And.intro (Hold.out ?_) (And.intro (And.intro ?_ (And.intro ?_ rfl)) (Hold.out ?_))))
            | refine And.intro rfl ?_
            | refine And.intro (HoldEq.out ?_) ?_
            | refine And.intro (HoldOb.out ?_) ?_
            | exact True.intro
            | refine HoldEq.out ?_
            | refine HoldObs.out ?_
            | refine HoldOr.out ?_)
  all_goals try first | refine HoldEq.int ?_ | refine HoldEq.bool ?_ | refine HoldEq.sl ?_ | refine HoldEq.own ?_ | refine HoldOb.row ?_ | refine HoldOb.map ?_ | refine HoldObs.row ?_
  all_goals try simp only [take_one, take_one', set_one, take_all, List.length_singleton, rec_self, Int.toNat_natCast, pair_eta, ETy.dflt, List.getD_cons_zero, List.getD_cons_succ, Int.reduceToNat, Int.reduceAdd, Int.reduceSub, Int.reduceNeg, Nat.reduceAdd, Nat.zero_add, loopI] at *
  all_goals try (refine Hold.intro ?_; omega)
  all_goals try (refine Hold.intro ?_; simp only [List.length_singleton]; omega)
  · rename_i h; simp only [indexR, bigR, decide_eq_true h, Bool.true_or, if_true]; rfl
  · rename_i h; simp only [indexR, bigR, decide_eq_true h, Bool.true_or, if_true]
  · rename_i h; simp only [indexR, bigR, decide_eq_true h, Bool.true_or, Bool.or_true, if_true]; rfl
  · rename_i h; simp only [indexR, bigR, decide_eq_true h, Bool.true_or, Bool.or_true, if_true]
  · rename_i h; simp only [indexR, bigR, decide_eq_true h, Bool.true_or, Bool.or_true, if_true]; rfl
  · rename_i h; simp only [indexR, bigR, decide_eq_true h, Bool.true_or, Bool.or_true, if_true]
  · exact Hold.intro ⟨Nat.zero_le _, Nat.le_refl _, rfl⟩
  all_goals try
    (have ht : triIn n (l.getD x.1 (0, 0, 0)) = false := tri_bad (by omega)
     (simp only [ht, Bool.false_eq_true, if_false, List.length_append, List.length_singleton]) <;>
     (refine Hold.intro ⟨by omega, by omega, ?_⟩; rw [hx.2.2, drop_now (0, 0, 0) (by assumption), idxL, ht]; simp; done))
  all_goals try
    (have ht : triIn n (l.getD x.1 (0, 0, 0)) = true := tri_good (by omega)
     (simp only [ht, if_true]) <;>
     (refine Hold.intro ⟨by omega, by omega, ?_⟩; rw [hx.2.2, drop_now (0, 0, 0) (by assumption), idxL, ht]; simp; done))
  all_goals
    have e : indexR (n, l) = x.2 := by
      have hb : bigR (n, l) = false := by simp only [bigR, Bool.or_eq_false_iff, decide_eq_false_iff_not]; omega
      simp only [indexR, hb, Bool.false_eq_true, if_false]
      rw [hx.2.2, drop_all (by assumption)]; simp [idxL]
    rw [e]
def index9C : List AV → Option ResF := con1 soupE (fun s => some (none, none, .s (.own 0 0 (indexR s).length), [.row witE 60 (indexR s)]))
theorem index9Row : FnRowF Try.prog 28 index9C := ⟨con1_okF fun s r h => by cases h; exact fn_byF (rulesF (fn := []) (fr := []) trivial trivial) Try.func28 (by kernel_rfl) fun _ _ => index9_vc s.1 s.2, _, Try.func28, by kernel_rfl, by kernel_rfl⟩
end S1
