/- A part of the proofs of the laws of this seat: contracts of functions, each for every input that its text names. -/
import Derived.Test.YtkkhoppffmnkiaaS5
set_option linter.unusedSimpArgs false
set_option linter.unusedVariables false
open Go Go.Vm Go.Proofs
namespace S1
set_option maxRecDepth 100000
def simpC : List AV → Option Res := con3 soupE soupE (.sl (.int .i64)) (fun s t im => some (none, none, .s (.bool (simpR s t im))))
theorem simpRow : FnRow Try.prog 15 simpC := ⟨con3_ok fun s t im r h => by cases h; exact fn_by (rules (fn := ([(22, fitsC), (23, knownC), (24, sortC)])) ⟨fitsRow, knownRow, sortRow, trivial⟩) Try.func15 (by kernel_rfl) fun _ _ => simp_vc s t im, _, Try.func15, by kernel_rfl, by kernel_rfl⟩

/-! Worst -/
def worstFind (p q : List P3) (far : Int) : Nat → List Int → Int × Bool
  | _, [] => (0, false)
  | i, k :: r => if farI (p.getD i (0, 0, 0)) (q.getD k.toNat (0, 0, 0)) = far then (i, true) else worstFind p q far (i + 1) r
def worstR (p : List P3) (image : List Int) (q : List P3) : Int × Bool :=
  if (moveR p image q).2 ≠ 0 then (0, false) else worstFind p q (moveR p image q).1 0 image
def loopWorst (p : List P3) (image : List Int) (q : List P3) (far : Int) : Spec Nat where
  inv x := x ≤ image.length ∧ worstFind p q far 0 image = worstFind p q far x (image.drop x)
  live x := [(23, .s (.int .i64 x))]
  keep := [0, 1, 2, 8, 21, 22]
  heap _ := []
  keepH := []
  mu x := image.length - x
theorem move_zero {p : List P3} {image : List Int} {q : List P3} (h : (moveR p image q).2 = 0) : ¬ checkR p image q ≠ 0 := by
  unfold moveR at h
  split at h
  · exact fun _ => by omega
  · assumption
theorem worst_vc (p : List P3) (image : List Int) (q : List P3) : afun ⟨tyL, ([(11, moveC), (18, farC)]), []⟩ Try.f12 [(ETy.sl .arr3).av p, (ETy.sl (.int .i64)).av image, (ETy.sl .arr3).av q]
    (fun v => v = .tup [.s (.int .i64 (worstR p image q).1), .s (.bool (worstR p image q).2)]) := by
  repeat' (conv => whnf
           first
            | done
            | refine Need.intro (by first | omega | (simp only [i64ok] at *; omega)) ?_
            | refine Need.intro (Hold.out ?_) ?_
            | refine Give.intro fun _ => ?_
            | refine BIf.and ?_
            | refine BIf.or ?_
            | refine BIf.eqi (fun _ => ?_) (fun _ => ?_)
            | refine BIf.nei (fun _ => ?_) (fun _ => ?_)
            | refine BIf.dec (fun _ => ?_) (fun _ => ?_)
            | refine BIf.nt ?_
            | refine BIf.intro (fun _ => ?_) (fun _ => ?_)
            | refine And.intro rfl ?_
            | refine And.intro (HoldEq.out ?_) ?_
            | refine And.intro (HoldOb.out ?_) ?_
            | exact True.intro
            | refine HoldEq.out ?_
            | refine HoldObs.out ?_
            | refine HoldOr.out ?_)
  · rename_i h
    have h : (moveR p image q).2 ≠ 0 := h
    refine HoldEq.intro ?_
    simp only [worstR, if_pos h]
  · rename_i h0 _
    have h0 : (moveR p image q).2 = 0 := h0
    have hz := check_zero (move_zero h0)
    have hw : worstR p image q = worstFind p q (moveR p image q).1 0 image := if_neg (by omega)
    refine HoldOr.intro ?_
    refine Or.inr (Exists.intro (Nat) (Exists.intro (loopWorst p image q (moveR p image q).1) (And.intro (Exists.intro (0) (And.intro (Hold.out ?_) (And.intro ?_ (And.intro ?_ rfl)))) (fun x hi => ?_))))
    repeat' (conv => whnf
             first
              | done
              | refine Need.intro (by first | omega | (simp only [i64ok] at *; omega)) ?_
              | refine Need.intro (Hold.out ?_) ?_
              | refine Give.intro fun _ => ?_
              | refine BIf.and ?_
              | refine BIf.or ?_
              | refine BIf.eqi (fun _ => ?_) (fun _ => ?_)
              | refine BIf.nei (fun _ => ?_) (fun _ => ?_)
              | refine BIf.dec (fun _ => ?_) (fun _ => ?_)
              | refine BIf.nt ?_
              | refine BIf.intro (fun _ => ?_) (fun _ => ?_)
              | refine Exists.intro (x + 1) (And.intro (Hold.out ?_) (And.intro (And.intro ?_ (And.intro ?_ rfl)) (Hold.out ?_)))
              | refine And.intro rfl ?_
              | refine And.intro (HoldEq.out ?_) ?_
              | refine And.intro (HoldOb.out ?_) ?_
              | exact True.intro
              | refine HoldEq.out ?_
              | refine HoldObs.out ?_
              | refine HoldOr.out ?_)
    all_goals try first | refine HoldEq.int ?_ | refine HoldEq.bool ?_ | refine HoldEq.sl ?_ | refine HoldEq.own ?_ | refine HoldOb.row ?_ | refine HoldOb.map ?_ | refine HoldObs.row ?_
    all_goals try simp only [take_one, take_one', set_one, take_all, List.length_singleton, rec_self, Int.toNat_natCast, pair_eta, ETy.dflt, List.getD_cons_zero, List.getD_cons_succ, Int.reduceToNat, Int.reduceAdd, Int.reduceSub, Int.reduceNeg, Nat.reduceAdd, Nat.zero_add] at *
    · exact Hold.intro ⟨Nat.zero_le _, rfl⟩
    · rename_i h1
      exact Hold.intro (bad_at hz.2 (by omega))
    · rename_i h1 h2
      have hi : _ ∧ _ := hi
      refine HoldEq.intro ?_
      have e : worstFind p q (moveR p image q).1 x (image.drop x) = ((x : Int), true) := by
        rw [drop_now 0 h1]
        exact if_pos h2
      rw [hw, hi.2, e]
    · rename_i h1 h2
      have hi : _ ∧ _ := hi
      refine Hold.intro ⟨by omega, ?_⟩
      rw [hi.2, drop_now 0 h1]
      exact if_neg h2
    · rename_i h1 h2
      have h1 : (x : Int) < image.length := h1
      exact Hold.intro (show image.length - (x + 1) < image.length - x by omega)
    · rename_i h1
      have hi : _ ∧ _ := hi
      refine HoldEq.intro ?_
      rw [hw, hi.2, drop_all h1]; rfl
def worstC : List AV → Option Res := con3 (.sl .arr3) (.sl (.int .i64)) (.sl .arr3) (fun p im q => some (none, none, .tup [.s (.int .i64 (worstR p im q).1), .s (.bool (worstR p im q).2)]))
theorem worstRow : FnRow Try.prog 12 worstC := ⟨con3_ok fun s t im r h => by cases h; exact fn_by (rules (fn := ([(11, moveC), (18, farC)])) ⟨moveRow, farRow, trivial⟩) Try.func12 (by kernel_rfl) fun _ _ => worst_vc s t im, _, Try.func12, by kernel_rfl, by kernel_rfl⟩

/-! awake -/
theorem awake_vc : afun ⟨tyL, ([(11, moveC), (12, worstC), (15, simpC), (17, sqC)]), []⟩ Try.f9 [] (fun v => v = .s (.bool true)) := by
  repeat' (conv => whnf
           first
            | done
            | refine Need.intro (by first | omega | (simp only [i64ok] at *; omega)) ?_
            | refine Need.intro (Hold.out ?_) ?_
            | refine Give.intro fun _ => ?_
            | refine BIf.and ?_
            | refine BIf.or ?_
            | refine BIf.eqi (fun _ => ?_) (fun _ => ?_)
            | refine BIf.nei (fun _ => ?_) (fun _ => ?_)
            | refine BIf.dec (fun _ => ?_) (fun _ => ?_)
            | refine BIf.nt ?_
            | refine BIf.intro (fun _ => ?_) (fun _ => ?_)
            | refine And.intro rfl ?_
            | refine And.intro (HoldEq.out ?_) ?_
            | refine And.intro (HoldOb.out ?_) ?_
            | exact True.intro
            | refine HoldEq.out ?_
            | refine HoldObs.out ?_
            | refine HoldOr.out ?_)
  · refine Hold.intro ?_; unfold near; decide
  · exact HoldEq.intro rfl
def awakeC : List AV → Option Res
  | [] => some (none, none, .s (.bool true))
  | _ => none
theorem awakeRow : FnRow Try.prog 9 awakeC := ⟨fun args r h => by
  match args, h with
  | [], h => cases h; exact fn_by (rules (fn := ([(11, moveC), (12, worstC), (15, simpC), (17, sqC)])) ⟨moveRow, worstRow, simpRow, sqRow, trivial⟩) Try.func9 (by kernel_rfl) fun _ _ => awake_vc, _, Try.func9, by kernel_rfl, by kernel_rfl⟩
end S1
