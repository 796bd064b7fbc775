/- A part of the proofs of the laws of this seat: contracts of functions, each for every input that its text names. -/
import Derived.Test.YtkkhoppffmnkiaaS14
import Derived.Test.YtkkhoppffmnkiaaS9
set_option linter.unusedSimpArgs false
set_option linter.unusedVariables false
open Go Go.Vm Go.Proofs
namespace S1
set_option maxRecDepth 100000

/-! DistanceNone -/
def fillR (n : Nat) (c : Int) (i : Nat) : List Int := List.replicate i c ++ List.replicate (n - i) 0
def loopN (n : Nat) (c : Int) : Spec Nat where
  inv i := i ≤ n
  live i := [(64, .s (.int .i64 i))]
  keep := [1, 2, 3, 7, 8, 9, 10, 11, 12, 13, 14, 15, 16, 63]
  heap i := [(2, .row (.int .i64) 3 (fillR n c i))]
  keepH := [0, 1]
  mu i := n - i
theorem none_1 (p : List P3) : moveR p (List.take ((p.length : Int) + 1).toNat (List.drop 0 (List.replicate ((p.length : Int) + 1).toNat (0 : Int)))) p = (0, 1) := by
  have h : checkR p (List.take ((p.length : Int) + 1).toNat (List.drop 0 (List.replicate ((p.length : Int) + 1).toNat (0 : Int)))) p = 1 := by
    unfold checkR; rw [if_pos (by simp; omega)]
  unfold moveR; rw [h, if_pos (by decide)]
theorem none_2 (p : List P3) : worstR p (List.take ((p.length : Int) + 1).toNat (List.drop 0 (List.replicate ((p.length : Int) + 1).toNat (0 : Int)))) p = (0, false) := by
  unfold worstR; rw [none_1, if_pos (by decide)]
theorem none_3 {sn : Int} {sl : List P3} {l : List Int} (h : (l.length : Int) ≠ sn) : simpR (sn, sl) (sn, sl) l = false := by
  have : simpG (sn, sl) (sn, sl) l = false := by simp only [simpG, beq_false_of_ne h, Bool.false_and, Bool.and_false]
  simp only [simpR, this, Bool.false_and]
theorem fill_all (n : Nat) (c : Int) {x : Nat} (h : x ≤ n) (h2 : ¬ (x : Int) < n) : List.take n (List.drop 0 (fillR n c x)) = List.replicate n c := by
  have : x = n := by omega
  subst this; simp [fillR]
theorem fill_step (n : Nat) (c : Int) {x : Nat} (h : (x : Int) < n) : (fillR n c x).set (0 + x) c = fillR n c (x + 1) := by
  have e : n - x = (n - (x + 1)) + 1 := by omega
  unfold fillR
  rw [e, List.replicate_succ, Nat.zero_add, List.set_append_right _ _ (by simp), List.length_replicate, Nat.sub_self, List.set_cons_zero, List.replicate_succ']
  simp
theorem none_4 (p : List P3) (c : Int) (hc : (p.length : Int) ≤ c) : moveR p (List.replicate p.length c) p = (0, if p.length = 0 then 0 else 2) := by
  cases p with
  | nil => rfl
  | cons a p =>
    have h : checkR (a :: p) (List.replicate (a :: p).length c) (a :: p) = 2 := by
      unfold checkR; rw [if_neg (by simp), if_pos]
      rw [List.length_cons, List.replicate_succ]; unfold badAny
      have hc : c ≥ ((p.length + 1 : Nat) : Int) := by simpa using hc
      rw [decide_eq_true hc]; simp
    unfold moveR; rw [h, if_pos (by decide)]; rfl
set_option maxHeartbeats 4000000 in
theorem lawN_vc (s : Int × List P3) (p : List P3) (n : Int) : afun ⟨tyL, ([(9, awakeC), (14, greatC), (10, smallC), (11, moveC), (12, worstC), (15, simpC)])⟩ Try.f8 [soupE.av s, (ETy.sl .arr3).av p, (ETy.int .i64).av n] (fun v => v = .s (.bool true)) := by
  obtain ⟨sn, sl⟩ := s
  repeat' (conv => whnf
           first
            | done
            | refine Need.intro (by first | omega | (simp only [i64ok] at *; omega)) ?_
            | refine Need.intro (Hold.out ?_) ?_
            | refine Give.intro fun _ => ?_
            | refine BIf.and ?_
            | refine BIf.or ?_
            | refine BIf.eqi (fun _ => ?_) (fun _ => ?_)
            | refine BIf.nei (fun _ => ?_) (fun _ => ?_)
            | refine BIf.dec (fun _ => ?_) (fun _ => ?_)
            | refine BIf.nt ?_
            | refine BIf.intro (fun _ => ?_) (fun _ => ?_)
            | ((first | (with_reducible show Or (∃ n, rounds (acode _ (Code.seq (Code.region 10 _ _) _)) _ n _) _) | (with_reducible show Or (∃ n, rounds (acode _ (Code.seq (Code.seq (Code.region 10 _ _) _) _)) _ n _) _) | (with_reducible show Or (∃ n, rounds (acode _ (Code.seq (Code.seq (Code.seq (Code.region 10 _ _) _) _) _)) _ n _) _) | (with_reducible show Or (∃ n, rounds (acode _ (Code.seq (Code.seq (Code.seq (Code.seq (Code.region 10 _ _) _) _) _) _)) _ n _) _)); refine Or.inr (Exists.intro (Nat) (Exists.intro (loopN p.length (p.length + (max n 0).tmod 100)) (And.intro (Exists.intro (0) (And.intro (Hold.out ?_) (And.intro ?_ (And.intro ?_ rfl)))) (fun x hx => ?_)))))
            | ((with_reducible show (∃ y, And (Spec.inv (loopN _ _) y) _)); refine Exists.intro (x + 1) (And.intro (Hold.out ?_) (And.intro (And.intro ?_ (And.intro ?_ rfl)) (Hold.out ?_))))
            | refine And.intro rfl ?_
            | refine And.intro (HoldEq.out ?_) ?_
            | refine And.intro (HoldOb.out ?_) ?_
            | exact True.intro
            | refine HoldEq.out ?_
            | refine HoldOr.out ?_)
  all_goals try first | refine HoldEq.int ?_ | refine HoldEq.bool ?_ | refine HoldEq.sl ?_ | refine HoldOb.row ?_ | refine HoldOb.map ?_
  all_goals try simp only [rec_self, Int.toNat_natCast, pair_eta, ETy.dflt, List.getD_cons_zero, List.getD_cons_succ, Int.reduceToNat, Int.reduceAdd, Int.reduceSub, Int.reduceNeg, Nat.reduceAdd, loopN] at *
  all_goals try (refine Hold.intro ?_; omega)
  all_goals try (simp only [none_1, none_2] at *; first | contradiction | (rename_i h; exact absurd rfl h); done)
  · have := Int.tmod_nonneg 100 (show 0 ≤ max n 0 by omega)
    have := Int.tmod_lt_of_pos (max n 0) (show (0 : Int) < 100 by omega)
    refine Hold.intro ?_; simp only [i64ok]; omega
  · exact (fill_step _ _ (by assumption)).symm
  all_goals try (rw [none_3 (by simpa using (by assumption))]; rfl)
  all_goals
    have t := Int.tmod_nonneg 100 (show 0 ≤ max n 0 by omega)
    rename_i h
    rw [fill_all _ _ hx (by assumption), none_4 p _ (by omega)] at *
    first
    | exact absurd rfl h
    | (have h0 : ¬ p.length = 0 := by omega
       exact absurd (if_neg h0) (by assumption))
def lawNC : List AV → Option Res := con3 soupE (.sl .arr3) (.int .i64) (fun _ _ _ => some (none, none, .s (.bool true)))
theorem lawNRow : FnRow Try.prog 8 lawNC := ⟨con3_ok fun s p n r h => by cases h; exact fn_by (rules (fn := [(9, awakeC), (14, greatC), (10, smallC), (11, moveC), (12, worstC), (15, simpC)]) ⟨awakeRow, greatRow, smallRow, moveRow, worstRow, simpRow, trivial⟩) Try.func8 (by kernel_rfl) fun _ _ => lawN_vc s p n, _, Try.func8, by kernel_rfl, by kernel_rfl⟩
end S1
