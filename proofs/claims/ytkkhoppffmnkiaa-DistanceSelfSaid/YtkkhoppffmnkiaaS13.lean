/- A part of the proofs of the laws of this seat: contracts of functions, each for every input that its text names. -/
import Derived.Test.YtkkhoppffmnkiaaS12
set_option linter.unusedSimpArgs false
set_option linter.unusedVariables false
open Go Go.Vm Go.Proofs
namespace S1
set_option maxRecDepth 100000

/-! ref.Simplicial -/
def img3 (image : List Int) (t : P3) : P3 := (image.getD t.1.toNat 0, image.getD t.2.1.toNat 0, image.getD t.2.2.toNat 0)
def hasAll (a : P3) (u : P3) : Bool := hasR u a.1 && (hasR u a.2.1 && hasR u a.2.2)
def same3 (a : P3) : Bool := a.1 == a.2.1 && a.2.1 == a.2.2
def rsT (cl : List P3) (image : List Int) (t : P3) : Bool := same3 (img3 image t) || cl.any (hasAll (img3 image t))
def rsG (fine coarse : Int × List P3) (image : List Int) : Bool :=
  (image.length : Int) == fine.1 && (fitsR fine && (fitsR coarse && !badAny coarse.1 image))
def rsimpR (fine coarse : Int × List P3) (image : List Int) : Bool := rsG fine coarse image && fine.2.all (rsT coarse.2 image)
def loopR1 (image : List Int) (n : Int) : Spec Nat where
  inv i := i ≤ image.length ∧ badAny n image = badAny n (image.drop i)
  live i := [(7, .s (.int .i64 i))]
  keep := [2, 3, 4]
  heap _ := []
  keepH := [0, 1]
  mu i := image.length - i
def loopR2 (l : List P3) (f : P3 → Bool) : Spec Nat where
  inv i := i ≤ l.length ∧ l.all f = (l.drop i).all f
  live i := [(8, .s (.int .i64 i))]
  keep := [2, 3, 4]
  heap _ := []
  keepH := [0, 1]
  mu i := l.length - i
def loopR3 (l : List P3) (b : Bool) (f : P3 → Bool) : Spec (Nat × Bool) where
  inv x := x.1 ≤ l.length ∧ (b || l.any f) = (x.2 || (l.drop x.1).any f)
  live x := [(14, .s (.int .i64 x.1)), (13, .s (.bool x.2))]
  keep := [2, 3, 4, 8, 10, 11, 12]
  heap _ := []
  keepH := [0, 1]
  mu x := l.length - x.1
theorem any_step {l : List P3} {f : P3 → Bool} {b z : Bool} {x : Nat} (hi : x ≤ l.length ∧ (b || l.any f) = (z || (l.drop x).any f)) (h : (x : Int) < l.length) : x + 1 ≤ l.length ∧ (b || l.any f) = (z || f (l.getD x (0, 0, 0)) || (l.drop (x + 1)).any f) :=
  ⟨by omega, by rw [hi.2, drop_now (0, 0, 0) h, List.any_cons, Bool.or_assoc]⟩
theorem any_end {l : List P3} {f : P3 → Bool} {b z : Bool} {x : Nat} (hi : x ≤ l.length ∧ (b || l.any f) = (z || (l.drop x).any f)) (h : ¬ (x : Int) < l.length) : (b || l.any f) = z := by
  rw [hi.2, drop_all h]; simp
theorem triIn_spec {n : Int} {t : P3} (h : triIn n t = true) : (0 ≤ t.1 ∧ t.1 < n) ∧ (0 ≤ t.2.1 ∧ t.2.1 < n) ∧ (0 ≤ t.2.2 ∧ t.2.2 < n) := by
  simp only [triIn, Bool.and_eq_true] at h
  exact ⟨vIn_spec h.1, vIn_spec h.2.1, vIn_spec h.2.2⟩
theorem rs_1 {fn cn : Int} {fl cl : List P3} {image : List Int} (h0 : (image.length : Int) = fn) (h1 : fitsR (fn, fl) = true) (h2 : fitsR (cn, cl) = true) : rsimpR (fn, fl) (cn, cl) image = (!badAny cn image && fl.all (rsT cl image)) := by
  simp only [rsimpR, rsG, beq_iff_eq.2 h0, h1, h2, Bool.true_and]
set_option maxHeartbeats 4000000 in
theorem rsimp_vc (fine coarse : Int × List P3) (image : List Int) : afun ⟨tyL, ([(25, rightC), (26, hasC)]), []⟩ Try.f16 [soupE.av fine, soupE.av coarse, (ETy.sl (.int .i64)).av image] (fun v => v = .s (.bool (rsimpR fine coarse image))) := by
  obtain ⟨fn, fl⟩ := fine
  obtain ⟨cn, cl⟩ := coarse
  repeat' (conv => whnf
           first
            | done
            | refine Need.intro (by first | omega | (simp only [i64ok] at *; omega)) ?_
            | refine Need.intro (Hold.out ?_) ?_
            | refine Give.intro fun _ => ?_
            | refine BIf.and ?_
            | refine BIf.or ?_
            | refine BIf.eqi (fun _ => ?_) (fun _ => ?_)
            | refine BIf.nei (fun _ => ?_) (fun _ => ?_)
            | refine BIf.dec (fun _ => ?_) (fun _ => ?_)
            | refine BIf.nt ?_
            | refine BIf.intro (fun _ => ?_) (fun _ => ?_)
            | ((first | (with_reducible show Or (∃ n, rounds (acode _ (Code.seq (Code.region 4 _ _) _)) _ n _) _) | (with_reducible show Or (∃ n, rounds (acode _ (Code.seq (Code.seq (Code.region 4 _ _) _) _)) _ n _) _) | (with_reducible show Or (∃ n, rounds (acode _ (Code.seq (Code.seq (Code.seq (Code.region 4 _ _) _) _) _)) _ n _) _) | (with_reducible show Or (∃ n, rounds (acode _ (Code.seq (Code.seq (Code.seq (Code.seq (Code.region 4 _ _) _) _) _) _)) _ n _) _)); refine Or.inr (Exists.intro (Nat) (Exists.intro (loopR1 image cn) (And.intro (Exists.intro (0) (And.intro (Hold.out ?_) (And.intro ?_ (And.intro ?_ rfl)))) (fun x hx => ?_)))))
            | ((with_reducible show (∃ y, And (Spec.inv (loopR1 _ _) y) _)); refine Exists.intro (x + 1) (And.intro (Hold.out ?_) (And.intro (And.intro ?_ (And.intro ?_ rfl)) (Hold.out ?_))))
            | ((first | (with_reducible show Or (∃ n, rounds (acode _ (Code.seq (Code.region 9 _ _) _)) _ n _) _) | (with_reducible show Or (∃ n, rounds (acode _ (Code.seq (Code.seq (Code.region 9 _ _) _) _)) _ n _) _) | (with_reducible show Or (∃ n, rounds (acode _ (Code.seq (Code.seq (Code.seq (Code.region 9 _ _) _) _) _)) _ n _) _) | (with_reducible show Or (∃ n, rounds (acode _ (Code.seq (Code.seq (Code.seq (Code.seq (Code.region 9 _ _) _) _) _) _)) _ n _) _)); refine Or.inr (Exists.intro (Nat) (Exists.intro (loopR2 fl (rsT cl image)) (And.intro (Exists.intro (0) (And.intro (Hold.out ?_) (And.intro ?_ (And.intro ?_ rfl)))) (fun y hy => ?_)))))
            | ((with_reducible show (∃ y, And (Spec.inv (loopR2 _ _) y) _)); refine Exists.intro (y + 1) (And.intro (Hold.out ?_) (And.intro (And.intro ?_ (And.intro ?_ rfl)) (Hold.out ?_))))
            | ((first | (with_reducible show Or (∃ n, rounds (acode _ (Code.seq (Code.region 15 _ _) _)) _ n _) _) | (with_reducible show Or (∃ n, rounds (acode _ (Code.seq (Code.seq (Code.region 15 _ _) _) _)) _ n _) _) | (with_reducible show Or (∃ n, rounds (acode _ (Code.seq (Code.seq (Code.seq (Code.region 15 _ _) _) _) _)) _ n _) _) | (with_reducible show Or (∃ n, rounds (acode _ (Code.seq (Code.seq (Code.seq (Code.seq (Code.region 15 _ _) _) _) _) _)) _ n _) _)); refine Or.inr (Exists.intro (Nat × Bool) (Exists.intro (loopR3 cl (same3 (img3 image (fl.getD y (0, 0, 0)))) (hasAll (img3 image (fl.getD y (0, 0, 0))))) (And.intro (Exists.intro ((0, same3 (img3 image (fl.getD y (0, 0, 0))))) (And.intro (Hold.out ?_) (And.intro ?_ (And.intro ?_ rfl)))) (fun z hz => ?_)))))
            | ((with_reducible show (∃ y, And (Spec.inv (loopR3 _ _ _) y) _)); refine Exists.intro ((z.1 + 1, z.2 || hasAll (img3 image (fl.getD y (0, 0, 0))) (cl.getD z.1 (0, 0, 0)))) (And.intro (Hold.out ?_) (And.intro (And.intro ?_ (And.intro ?_ rfl)) (Hold.out ?_))))
            | refine And.intro rfl ?_
            | refine And.intro (HoldEq.out ?_) ?_
            | refine And.intro (HoldOb.out ?_) ?_
            | exact True.intro
            | refine HoldEq.out ?_
            | refine HoldObs.out ?_
            | refine HoldOr.out ?_)
  all_goals try first | refine HoldEq.int ?_ | refine HoldEq.bool ?_ | refine HoldEq.sl ?_ | refine HoldEq.own ?_ | refine HoldOb.row ?_ | refine HoldOb.map ?_ | refine HoldObs.row ?_
  all_goals try simp only [take_one, take_one', set_one, take_all, List.length_singleton, rec_self, Int.toNat_natCast, pair_eta, ETy.dflt, List.getD_cons_zero, List.getD_cons_succ, Int.reduceToNat, Int.reduceAdd, Int.reduceSub, Int.reduceNeg, Nat.reduceAdd, Nat.zero_add, loopR1, loopR2, loopR3] at *
  all_goals try (refine Hold.intro ?_; omega)
  all_goals try first
    | exact Hold.intro ⟨Nat.zero_le _, rfl⟩
    | exact Hold.intro (any_step hz (by assumption))
    | exact Hold.intro (all_step hy (by assumption) ((any_end hz (by assumption)).trans (by assumption)))
    | (simp only [same3, img3, hasAll, *]; done)
    | (rename_i h1 h2; simp only [hasAll, img3, h1, h2, Bool.false_and, Bool.or_false]; done)
    | (simp only [same3, img3, hasAll, *]; simp; done)
  · rename_i h; simp only [rsimpR, rsG, beq_false_of_ne h, Bool.false_and]
  · rw [rs_1 (by assumption) (by assumption) (by assumption), hx.2, drop_now 0 (by assumption)]; simp only [badAny, decide_eq_true, Bool.true_or, Bool.not_true, Bool.false_and, *]
  · rw [rs_1 (by assumption) (by assumption) (by assumption), hx.2, drop_now 0 (by assumption)]; rename_i h; simp only [badAny, decide_eq_true h, Bool.true_or, Bool.or_true, Bool.not_true, Bool.false_and]
  · rename_i h3 h4 h5
    refine Hold.intro ⟨by omega, ?_⟩
    rw [hx.2, drop_now 0 h3]; simp only [badAny, decide_eq_false h4, decide_eq_false h5, Bool.false_or]
  · have e : (image.length : Int) = fn := by assumption
    rw [e]; exact Hold.intro (triIn_spec (fits_at (by assumption) (by assumption))).1
  · have e : (image.length : Int) = fn := by assumption
    rw [e]; exact Hold.intro (triIn_spec (fits_at (by assumption) (by assumption))).2.1
  · have e : (image.length : Int) = fn := by assumption
    rw [e]; exact Hold.intro (triIn_spec (fits_at (by assumption) (by assumption))).2.2
  · rw [rs_1 (by assumption) (by assumption) (by assumption), ← all_bad hy (by assumption) ((any_end hz (by assumption)).trans (by assumption)), Bool.and_false]
  · rename_i h; simp only [same3, img3, beq_false_of_ne h, Bool.false_and]
  · rw [rs_1 (by assumption) (by assumption) (by assumption), ← all_bad hy (by assumption) ((any_end hz (by assumption)).trans (by assumption)), Bool.and_false]
  · rw [rs_1 (by assumption) (by assumption) (by assumption), hx.2, drop_all (by assumption), ← all_end hy (by assumption)]; rfl
  · rename_i h2; simp only [rsimpR, rsG, h2, Bool.false_and, Bool.and_false]
  · rename_i h1; simp only [rsimpR, rsG, h1, Bool.false_and, Bool.and_false]
def rsimpC : List AV → Option Res := con3 soupE soupE (.sl (.int .i64)) (fun s t im => some (none, none, .s (.bool (rsimpR s t im))))
theorem rsimpRow : FnRow Try.prog 16 rsimpC := ⟨con3_ok fun s t im r h => by cases h; exact fn_by (rulesF (fn := [(25, rightC), (26, hasC)]) (fr := []) ⟨rightRow, hasRow, trivial⟩ trivial) Try.func16 (by kernel_rfl) fun _ _ => rsimp_vc s t im, _, Try.func16, by kernel_rfl, by kernel_rfl⟩
end S1
