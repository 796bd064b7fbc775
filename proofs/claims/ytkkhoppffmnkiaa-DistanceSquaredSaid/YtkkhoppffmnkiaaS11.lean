/- A part of the proofs of the laws of this seat: contracts of functions, each for every input that its text names. -/
import Derived.Test.YtkkhoppffmnkiaaS7
set_option linter.unusedSimpArgs false
set_option linter.unusedVariables false
open Go Go.Vm Go.Proofs
namespace S1
set_option maxRecDepth 100000

/-! DistanceSquared -/
theorem mul_mono {a b : Int} (h : 0 ≤ a) (h2 : a ≤ b) : a * a ≤ b * b := Int.mul_le_mul h2 h2 h (by omega)
theorem sq_abs (p q : Int) : sq p q = ((p - q).natAbs : Int) * ((p - q).natAbs : Int) := by
  unfold sq; rw [← Int.natAbs_mul_self (a := p - q)]; simp
theorem sq_sym (p q : Int) : sq p q = sq q p := by
  rw [sq_abs, sq_abs, show (p - q).natAbs = (q - p).natAbs by omega]
theorem sqR_sym (p q : P3) : sqR p q = sqR q p := by
  unfold sqR; rw [sq_sym p.1, sq_sym p.2.1, sq_sym p.2.2]
theorem sq_self (p : Int) : sq p p = 0 := by unfold sq; simp
theorem sqR_self (p : P3) : sqR p p = 0 := by unfold sqR; simp [sq_self]
theorem sq_zero {p q : Int} (h : sq p q = 0) : p = q := by
  have := Int.mul_eq_zero.1 h
  omega
theorem sq_nn (p q : Int) : 0 ≤ sq p q := by
  rw [sq_abs]; exact Int.mul_nonneg (by omega) (by omega)
theorem sqR_zero {p q : P3} (h : sqR p q = 0) : p = q := by
  obtain ⟨p0, p1, p2⟩ := p
  obtain ⟨q0, q1, q2⟩ := q
  simp only [sqR] at h
  have h0 := sq_nn p0 q0
  have h1 := sq_nn p1 q1
  have h2 := sq_nn p2 q2
  rw [sq_zero (p := p0) (q := q0) (by omega), sq_zero (p := p1) (q := q1) (by omega), sq_zero (p := p2) (q := q2) (by omega)]
theorem sq_far {p q : P3} (h : near p q) : farI p q * farI p q ≤ sqR p q ∧ sqR p q ≤ 3 * farI p q * farI p q ∧ (0 ≤ farI p q * farI p q ∧ farI p q * farI p q ≤ 1152921504606846976) ∧ 0 ≤ farI p q ∧ farI p q ≤ 1073741824 := by
  have hb := near_far h
  obtain ⟨p0, p1, p2⟩ := p
  obtain ⟨q0, q1, q2⟩ := q
  simp [near, ptOk, coordOk] at h
  have e : farI (p0, p1, p2) (q0, q1, q2) = max (max ((p0 - q0).natAbs : Int) (p1 - q1).natAbs) (p2 - q2).natAbs := by
    simp only [farI, far1]; omega
  have hs : sqR (p0, p1, p2) (q0, q1, q2) = ((p0 - q0).natAbs : Int) * (p0 - q0).natAbs + ((p1 - q1).natAbs : Int) * (p1 - q1).natAbs + ((p2 - q2).natAbs : Int) * (p2 - q2).natAbs := by
    simp only [sqR, sq_abs]
  generalize farI (p0, p1, p2) (q0, q1, q2) = n at *
  rw [hs]
  have b := sq_le n (by omega) (by omega)
  have h0 : 0 ≤ ((p0 - q0).natAbs : Int) := by omega
  have h1 : 0 ≤ ((p1 - q1).natAbs : Int) := by omega
  have h2 : 0 ≤ ((p2 - q2).natAbs : Int) := by omega
  generalize ((p0 - q0).natAbs : Int) = x at *
  generalize ((p1 - q1).natAbs : Int) = y at *
  generalize ((p2 - q2).natAbs : Int) = z at *
  have m0 := mul_mono (a := x) (b := n) h0 (by omega)
  have m1 := mul_mono (a := y) (b := n) h1 (by omega)
  have m2 := mul_mono (a := z) (b := n) h2 (by omega)
  have k0 := Int.mul_nonneg h0 h0
  have k1 := Int.mul_nonneg h1 h1
  have k2 := Int.mul_nonneg h2 h2
  have hn : n = x ∨ n = y ∨ n = z := by omega
  refine ⟨?_, ?_, b, by omega, by omega⟩
  · rcases hn with e | e | e <;> rw [e] <;> omega
  · rw [Int.mul_assoc]; omega
theorem lawSq_vc (p q : P3) : afun ⟨tyL, ([(9, awakeC), (10, smallC), (17, sqC), (18, farC)])⟩ Try.f5 [ETy.arr3.av p, ETy.arr3.av q] (fun v => v = .s (.bool true)) := by
  by_cases hn : near p q
  · have H := sq_far hn
    repeat' (conv => whnf
             first
              | done
              | refine Need.intro (by first | omega | (simp only [i64ok] at *; omega)) ?_
              | refine Need.intro (Hold.out ?_) ?_
              | refine Give.intro fun _ => ?_
              | refine BIf.and ?_
              | refine BIf.or ?_
              | refine BIf.eqi (fun _ => ?_) (fun _ => ?_)
              | refine BIf.nei (fun _ => ?_) (fun _ => ?_)
              | refine BIf.dec (fun _ => ?_) (fun _ => ?_)
              | refine BIf.nt ?_
              | refine BIf.intro (fun _ => ?_) (fun _ => ?_)
              | refine And.intro rfl ?_
              | refine And.intro (HoldEq.out ?_) ?_
              | exact True.intro
              | refine HoldEq.out ?_
              | refine HoldOr.out ?_)
    all_goals try first | refine HoldEq.int ?_ | refine HoldEq.bool ?_ | refine HoldEq.sl ?_
    all_goals try simp only [rec_self, Int.toNat_natCast, pair_eta, ETy.dflt, List.getD_cons_zero, List.getD_cons_succ, Int.reduceToNat, Int.reduceAdd, Int.reduceSub, Int.reduceNeg, Nat.reduceAdd] at *
    all_goals first
      | exact Hold.intro hn
      | exact Hold.intro ⟨hn.2, hn.1⟩
      | exact Hold.intro ⟨hn.1, hn.1⟩
      | (refine Hold.intro ?_; simp only [i64ok]; first | omega | (rw [Int.mul_assoc]; omega))
      | (rename_i h; exact absurd H.2.1 h)
      | (rename_i h; exact absurd H.1 h)
      | (rename_i h; exact absurd (sqR_self p) h)
      | (rename_i h; exact absurd (sqR_sym p q) h)
      | skip
    refine beq_iff_eq.2 ?_
    by_cases e : p = q
    · subst e; rw [sqR_self]; simp
    · rw [beq_false_of_ne (fun h => e (sqR_zero h))]
      symm
      obtain ⟨p0, p1, p2⟩ := p
      obtain ⟨q0, q1, q2⟩ := q
      simp at e ⊢
      exact e
  · skip
    repeat' (conv => whnf
             first
              | done
              | refine Need.intro (by first | omega | (simp only [i64ok] at *; omega)) ?_
              | refine Need.intro (Hold.out ?_) ?_
              | refine Give.intro fun _ => ?_
              | refine BIf.and ?_
              | refine BIf.or ?_
              | refine BIf.eqi (fun _ => ?_) (fun _ => ?_)
              | refine BIf.nei (fun _ => ?_) (fun _ => ?_)
              | refine BIf.dec (fun _ => ?_) (fun _ => ?_)
              | refine BIf.nt ?_
              | refine BIf.intro (fun _ => ?_) (fun _ => ?_)
              | refine And.intro rfl ?_
              | refine And.intro (HoldEq.out ?_) ?_
              | exact True.intro
              | refine HoldEq.out ?_
              | refine HoldOr.out ?_)
    all_goals try first | refine HoldEq.int ?_ | refine HoldEq.bool ?_ | refine HoldEq.sl ?_
    all_goals try simp only [rec_self, Int.toNat_natCast, pair_eta, ETy.dflt, List.getD_cons_zero, List.getD_cons_succ, Int.reduceToNat, Int.reduceAdd, Int.reduceSub, Int.reduceNeg, Nat.reduceAdd] at *
    all_goals exfalso; apply hn; simp [near, ptOk, coordOk]; omega
def lawSqC : List AV → Option Res := con2 .arr3 .arr3 (fun _ _ => some (none, none, .s (.bool true)))
theorem lawSqRow : FnRow Try.prog 5 lawSqC := ⟨con2_ok fun p q r h => by cases h; exact fn_by (rules (fn := [(9, awakeC), (10, smallC), (17, sqC), (18, farC)]) ⟨awakeRow, smallRow, sqRow, farRow, trivial⟩) Try.func5 (by kernel_rfl) fun _ _ => lawSq_vc p q, _, Try.func5, by kernel_rfl, by kernel_rfl⟩
end S1
