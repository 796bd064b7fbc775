/- A part of the proofs of the laws of this seat: contracts of functions, each for every input that its text names. -/
import Derived.Test.YtkkhoppffmnkiaaS8
set_option linter.unusedSimpArgs false
set_option linter.unusedVariables false
open Go Go.Vm Go.Proofs
namespace S1
set_option maxRecDepth 100000

/-! DistanceMoves -/
theorem farI_nn (p q : P3) : 0 ≤ farI p q := by simp only [farI, far1]; omega
theorem farFold_ge (p q : List P3) : ∀ (l : List Int) (i : Nat) (m : Int), m ≤ farFold p q i l m
  | [], _, _ => Int.le_refl _
  | k :: r, i, m => by
    have := farFold_ge p q r (i + 1) (max m (farI (p.getD i (0, 0, 0)) (q.getD k.toNat (0, 0, 0))))
    simp only [farFold]; omega
theorem rfold_eq (p q : List P3) : ∀ (l : List Int) (i : Nat) (m w : Int), 0 ≤ w →
    (rfold p q i l (m, w)).1 = farFold p q i l m ∧
    (farFold p q i l m = m → (rfold p q i l (m, w)).2 = w) ∧
    (farFold p q i l m ≠ m → worstFind p q (farFold p q i l m) i l = ((rfold p q i l (m, w)).2, true) ∧ 0 ≤ (rfold p q i l (m, w)).2)
  | [], _, _, _, _ => ⟨rfl, fun _ => rfl, fun h => absurd rfl h⟩
  | k :: r, i, m, w, hw => by
    by_cases hd : farI (p.getD i (0, 0, 0)) (q.getD k.toNat (0, 0, 0)) > m
    · have ih := rfold_eq p q r (i + 1) (farI (p.getD i (0, 0, 0)) (q.getD k.toNat (0, 0, 0))) (i : Int) (by omega)
      have hg := farFold_ge p q r (i + 1) (farI (p.getD i (0, 0, 0)) (q.getD k.toNat (0, 0, 0)))
      have e1 : rfold p q i (k :: r) (m, w) = rfold p q (i + 1) r (farI (p.getD i (0, 0, 0)) (q.getD k.toNat (0, 0, 0)), (i : Int)) := by
        simp only [rfold]; rw [if_pos (.inr hd)]
      have e2 : farFold p q i (k :: r) m = farFold p q (i + 1) r (farI (p.getD i (0, 0, 0)) (q.getD k.toNat (0, 0, 0))) := by
        simp only [farFold]; rw [show max m (farI (p.getD i (0, 0, 0)) (q.getD k.toNat (0, 0, 0))) = farI (p.getD i (0, 0, 0)) (q.getD k.toNat (0, 0, 0)) by omega]
      rw [e1, e2]
      refine ⟨ih.1, fun h => by omega, fun _ => ?_⟩
      simp only [worstFind]
      by_cases hF : farI (p.getD i (0, 0, 0)) (q.getD k.toNat (0, 0, 0)) = farFold p q (i + 1) r (farI (p.getD i (0, 0, 0)) (q.getD k.toNat (0, 0, 0)))
      · rw [if_pos hF, ih.2.1 hF.symm]; exact ⟨rfl, by omega⟩
      · rw [if_neg hF]; exact ih.2.2 (fun h => hF h.symm)
    · have ih := rfold_eq p q r (i + 1) m w hw
      have hg := farFold_ge p q r (i + 1) m
      have e1 : rfold p q i (k :: r) (m, w) = rfold p q (i + 1) r (m, w) := by
        simp only [rfold]; rw [if_neg (by rintro (h | h) <;> omega)]
      have e2 : farFold p q i (k :: r) m = farFold p q (i + 1) r m := by
        simp only [farFold]; rw [show max m (farI (p.getD i (0, 0, 0)) (q.getD k.toNat (0, 0, 0))) = m by omega]
      rw [e1, e2]
      refine ⟨ih.1, ih.2.1, fun h => ?_⟩
      simp only [worstFind]
      rw [if_neg (by omega)]
      exact ih.2.2 h
theorem moves_eq (p q : List P3) (image : List Int) : (moveR p image q).1 = (rmoveR p image q).1 ∧ (moveR p image q).2 = (rmoveR p image q).2.2 ∧ (worstR p image q).2 = decide ((rmoveR p image q).2.1 ≥ 0) ∧ (worstR p image q).1 = max (rmoveR p image q).2.1 0 := by
  by_cases h1 : (image.length : Int) ≠ p.length
  · have hc : checkR p image q = 1 := if_pos h1
    have hm : moveR p image q = (0, 1) := by simp only [moveR, hc]; rfl
    have hr : rmoveR p image q = (0, -1, 1) := if_pos h1
    have hw : worstR p image q = (0, false) := by unfold worstR; rw [hm]; rfl
    rw [hm, hr, hw]; exact ⟨rfl, rfl, rfl, rfl⟩
  · cases h2 : badAny q.length image with
    | true =>
      have hc : checkR p image q = 2 := by unfold checkR; rw [if_neg h1, h2]; rfl
      have hm : moveR p image q = (0, 2) := by simp only [moveR, hc]; rfl
      have hr : rmoveR p image q = (0, -1, 2) := by unfold rmoveR; rw [if_neg h1, h2]; rfl
      have hw : worstR p image q = (0, false) := by unfold worstR; rw [hm]; rfl
      rw [hm, hr, hw]; exact ⟨rfl, rfl, rfl, rfl⟩
    | false =>
      have hc : checkR p image q = 0 := by unfold checkR; rw [if_neg h1, h2]; rfl
      have hm : moveR p image q = (farFold p q 0 image 0, 0) := by simp only [moveR, hc]; rfl
      have hr : rmoveR p image q = ((rfold p q 0 image (0, -1)).1, (rfold p q 0 image (0, -1)).2, 0) := by unfold rmoveR; rw [if_neg h1, h2]; rfl
      have hw : worstR p image q = worstFind p q (farFold p q 0 image 0) 0 image := by unfold worstR; rw [hm]; rfl
      rw [hm, hr, hw]
      clear hm hr hw hc h1 h2
      cases image with
      | nil => exact ⟨rfl, rfl, rfl, rfl⟩
      | cons k r =>
        have ih := rfold_eq p q r 1 (farI (p.getD 0 (0, 0, 0)) (q.getD k.toNat (0, 0, 0))) 0 (by omega)
        have hn := farI_nn (p.getD 0 (0, 0, 0)) (q.getD k.toNat (0, 0, 0))
        have e1 : rfold p q 0 (k :: r) (0, -1) = rfold p q 1 r (farI (p.getD 0 (0, 0, 0)) (q.getD k.toNat (0, 0, 0)), 0) := by
          simp only [rfold]; rw [if_pos (.inl (by omega))]; rfl
        have e2 : farFold p q 0 (k :: r) 0 = farFold p q 1 r (farI (p.getD 0 (0, 0, 0)) (q.getD k.toNat (0, 0, 0))) := by
          simp only [farFold]; rw [show max 0 (farI (p.getD 0 (0, 0, 0)) (q.getD k.toNat (0, 0, 0))) = farI (p.getD 0 (0, 0, 0)) (q.getD k.toNat (0, 0, 0)) by omega]
        have e3 : worstFind p q (farFold p q 1 r (farI (p.getD 0 (0, 0, 0)) (q.getD k.toNat (0, 0, 0)))) 0 (k :: r) = ((rfold p q 1 r (farI (p.getD 0 (0, 0, 0)) (q.getD k.toNat (0, 0, 0)), 0)).2, true) ∧ 0 ≤ (rfold p q 1 r (farI (p.getD 0 (0, 0, 0)) (q.getD k.toNat (0, 0, 0)), 0)).2 := by
          simp only [worstFind]
          by_cases hF : farI (p.getD 0 (0, 0, 0)) (q.getD k.toNat (0, 0, 0)) = farFold p q 1 r (farI (p.getD 0 (0, 0, 0)) (q.getD k.toNat (0, 0, 0)))
          · rw [if_pos hF, ih.2.1 hF.symm]; exact ⟨rfl, by omega⟩
          · rw [if_neg hF]; exact ih.2.2 (fun h => hF h.symm)
        rw [e1, e2, e3.1]
        refine ⟨ih.1.symm, rfl, ?_, ?_⟩
        · exact (decide_eq_true e3.2).symm
        · show (rfold p q 1 r _).2 = max (rfold p q 1 r _).2 0
          omega
theorem lawMoves_vc (p : List P3) (image : List Int) (q : List P3) : afun ⟨tyL, ([(9, awakeC), (10, smallC), (11, moveC), (12, worstC), (13, rmoveC)]), []⟩ Try.f3 [(ETy.sl .arr3).av p, (ETy.sl (.int .i64)).av image, (ETy.sl .arr3).av q] (fun v => v = .s (.bool true)) := by
  have H := moves_eq p q image
  repeat' (conv => whnf
           first
            | done
            | refine Need.intro (by first | omega | (simp only [i64ok] at *; omega)) ?_
            | refine Need.intro (Hold.out ?_) ?_
            | refine Give.intro fun _ => ?_
            | refine BIf.and ?_
            | refine BIf.or ?_
            | refine BIf.eqi (fun _ => ?_) (fun _ => ?_)
            | refine BIf.nei (fun _ => ?_) (fun _ => ?_)
            | refine BIf.dec (fun _ => ?_) (fun _ => ?_)
            | refine BIf.nt ?_
            | refine BIf.intro (fun _ => ?_) (fun _ => ?_)
            | refine And.intro rfl ?_
            | refine And.intro (HoldEq.out ?_) ?_
            | refine And.intro (HoldOb.out ?_) ?_
            | exact True.intro
            | refine HoldEq.out ?_
            | refine HoldObs.out ?_
            | refine HoldOr.out ?_)
  all_goals try first | refine HoldEq.int ?_ | refine HoldEq.bool ?_ | refine HoldEq.sl ?_ | refine HoldEq.own ?_ | refine HoldOb.row ?_ | refine HoldOb.map ?_ | refine HoldObs.row ?_
  all_goals try simp only [take_one, take_one', set_one, take_all, List.length_singleton, rec_self, Int.toNat_natCast, pair_eta, ETy.dflt, List.getD_cons_zero, List.getD_cons_succ, Int.reduceToNat, Int.reduceAdd, Int.reduceSub, Int.reduceNeg, Nat.reduceAdd, Nat.zero_add] at *
  · rename_i h1 _ h2 _ _ _
    exact Hold.intro ⟨h1, h2⟩
  · exact beq_iff_eq.2 H.2.2.2
  · rename_i h; exact absurd H.2.2.1 h
  · rename_i h; exact absurd H.2.1 h
  · rename_i h; exact absurd H.1 h
def lawMovesC : List AV → Option Res := con3 (.sl .arr3) (.sl (.int .i64)) (.sl .arr3) (fun _ _ _ => some (none, none, .s (.bool true)))
theorem lawMovesRow : FnRow Try.prog 3 lawMovesC := ⟨con3_ok fun p im q r h => by cases h; exact fn_by (rulesF (fn := [(9, awakeC), (10, smallC), (11, moveC), (12, worstC), (13, rmoveC)]) (fr := []) ⟨awakeRow, smallRow, moveRow, worstRow, rmoveRow, trivial⟩ trivial) Try.func3 (by kernel_rfl) fun _ _ => lawMoves_vc p im q, _, Try.func3, by kernel_rfl, by kernel_rfl⟩
end S1
