/- A part of the proofs of the laws of this seat: contracts of functions, each for every input that its text names. -/
import Derived.Test.YtkkhoppffmnkiaaS6
set_option linter.unusedSimpArgs false
set_option linter.unusedVariables false
open Go Go.Vm Go.Proofs
namespace S1
set_option maxRecDepth 100000

/-! ref.Far -/
set_option maxHeartbeats 1000000 in
theorem rfar_vc {fn} (p q : P3) (h : near p q) : afun ⟨tyL, fn, []⟩ Try.f21 [ETy.arr3.av p, ETy.arr3.av q] (fun v => v = .s (.int .i64 (farI p q))) := by
  obtain ⟨p0, p1, p2⟩ := p
  obtain ⟨q0, q1, q2⟩ := q
  simp [near, ptOk, coordOk] at h
  repeat' (conv => whnf
           first
            | done
            | refine Need.intro (by first | omega | (simp only [i64ok] at *; omega)) ?_
            | refine Need.intro (Hold.out ?_) ?_
            | refine Give.intro fun _ => ?_
            | refine BIf.and ?_
            | refine BIf.or ?_
            | refine BIf.eqi (fun _ => ?_) (fun _ => ?_)
            | refine BIf.nei (fun _ => ?_) (fun _ => ?_)
            | refine BIf.dec (fun _ => ?_) (fun _ => ?_)
            | refine BIf.nt ?_
            | refine BIf.intro (fun _ => ?_) (fun _ => ?_)
            | refine Or.inl (Exists.intro (4) ?_)
            | refine And.intro rfl ?_
            | refine And.intro (HoldEq.out ?_) ?_
            | refine And.intro (HoldOb.out ?_) ?_
            | exact True.intro
            | refine HoldEq.out ?_
            | refine HoldObs.out ?_
            | refine HoldOr.out ?_)
  all_goals try first | refine HoldEq.int ?_ | refine HoldEq.bool ?_ | refine HoldEq.sl ?_ | refine HoldEq.own ?_ | refine HoldOb.row ?_ | refine HoldOb.map ?_ | refine HoldObs.row ?_
  all_goals try simp only [take_one, take_one', set_one, take_all, List.length_singleton, rec_self, Int.toNat_natCast, pair_eta, ETy.dflt, List.getD_cons_zero, List.getD_cons_succ, Int.reduceToNat, Int.reduceAdd, Int.reduceSub, Int.reduceNeg, Nat.reduceAdd, Nat.zero_add] at *
  all_goals first
    | (refine Hold.intro ?_; simp only [i64ok]; omega)
    | (simp only [farI, far1]; omega)
def rfarC : List AV → Option Res := con2 .arr3 .arr3 (fun p q => some (none, some (near p q), .s (.int .i64 (farI p q))))
theorem rfarRow : FnRow Try.prog 21 rfarC := ⟨con2_ok fun p q r h => by cases h; exact fn_by (rulesF (fn := []) (fr := []) trivial trivial) Try.func21 (by kernel_rfl) fun _ h => rfar_vc p q h, _, Try.func21, by kernel_rfl, by kernel_rfl⟩
theorem near_far {p q : P3} (h : near p q) : 0 ≤ farI p q ∧ farI p q ≤ 1073741824 := by
  obtain ⟨p0, p1, p2⟩ := p
  obtain ⟨q0, q1, q2⟩ := q
  simp [near, ptOk, coordOk] at h
  simp only [farI, far1]; omega
end S1
