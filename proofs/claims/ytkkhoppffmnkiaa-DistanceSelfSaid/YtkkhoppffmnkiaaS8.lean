/- A part of the proofs of the laws of this seat: contracts of functions, each for every input that its text names. -/
import Derived.Test.YtkkhoppffmnkiaaS7
set_option linter.unusedSimpArgs false
set_option linter.unusedVariables false
open Go Go.Vm Go.Proofs
namespace S1
set_option maxRecDepth 100000

/-! ref.Move -/
/-- From vertex i on: what moves most. -/
def rfold (p q : List P3) : Nat → List Int → Int × Int → Int × Int
  | _, [], a => a
  | i, k :: r, a => rfold p q (i + 1) r (if a.2 < 0 ∨ farI (p.getD i (0, 0, 0)) (q.getD k.toNat (0, 0, 0)) > a.1 then (farI (p.getD i (0, 0, 0)) (q.getD k.toNat (0, 0, 0)), i) else a)
def rmoveR (p : List P3) (image : List Int) (q : List P3) : Int × Int × Int :=
  if (image.length : Int) ≠ p.length then (0, -1, 1) else if badAny q.length image then (0, -1, 2)
  else ((rfold p q 0 image (0, -1)).1, (rfold p q 0 image (0, -1)).2, 0)
def loopRM1 (image : List Int) (n : Int) : Spec Nat where
  inv i := i ≤ image.length ∧ badAny n image = badAny n (image.drop i)
  live i := [(9, .s (.int .i64 i))]
  keep := [0, 1, 2]
  heap _ := []
  keepH := []
  mu i := image.length - i
def loopRM2 (p q : List P3) (image : List Int) : Spec (Nat × Int × Int) where
  inv x := x.1 ≤ image.length ∧ rfold p q 0 image (0, -1) = rfold p q x.1 (image.drop x.1) x.2
  live x := [(12, .s (.int .i64 x.1)), (10, .s (.int .i64 x.2.1)), (11, .s (.int .i64 x.2.2))]
  keep := [0, 1, 2]
  heap _ := []
  keepH := []
  mu x := image.length - x.1
theorem ok_at {l : List P3} (h : l.all ptOk = true) (x : Nat) : ptOk (l.getD x (0, 0, 0)) = true := by
  rw [List.getD_eq_getElem?_getD]
  cases e : l[x]? with
  | none => rfl
  | some v => exact List.all_eq_true.1 h v (List.mem_of_getElem? e)
theorem rmove_vc (p : List P3) (image : List Int) (q : List P3) (hp : p.all ptOk = true ∧ q.all ptOk = true) : afun ⟨tyL, ([(21, rfarC)]), []⟩ Try.f13 [(ETy.sl .arr3).av p, (ETy.sl (.int .i64)).av image, (ETy.sl .arr3).av q]
    (fun v => v = .tup [.s (.int .i64 (rmoveR p image q).1), .s (.int .i64 (rmoveR p image q).2.1), .s (.int .i64 (rmoveR p image q).2.2)]) := by
  repeat' (conv => whnf
           first
            | done
            | refine Need.intro (by first | omega | (simp only [i64ok] at *; omega)) ?_
            | refine Need.intro (Hold.out ?_) ?_
            | refine Give.intro fun _ => ?_
            | refine BIf.and ?_
            | refine BIf.or ?_
            | refine BIf.eqi (fun _ => ?_) (fun _ => ?_)
            | refine BIf.nei (fun _ => ?_) (fun _ => ?_)
            | refine BIf.dec (fun _ => ?_) (fun _ => ?_)
            | refine BIf.nt ?_
            | refine BIf.intro (fun _ => ?_) (fun _ => ?_)
            | ((first | (with_reducible show Or (∃ n, rounds (acode _ (Code.seq (Code.region 4 _ _) _)) _ n _) _) | (with_reducible show Or (∃ n, rounds (acode _ (Code.seq (Code.seq (Code.region 4 _ _) _) _)) _ n _) _) | (with_reducible show Or (∃ n, rounds (acode _ (Code.seq (Code.seq (Code.seq (Code.region 4 _ _) _) _) _)) _ n _) _) | (with_reducible show Or (∃ n, rounds (acode _ (Code.seq (Code.seq (Code.seq (Code.seq (Code.region 4 _ _) _) _) _) _)) _ n _) _)); refine Or.inr (Exists.intro (Nat) (Exists.intro (loopRM1 image q.length) (And.intro (Exists.intro (0) (And.intro (Hold.out ?_) (And.intro ?_ (And.intro ?_ rfl)))) (fun x hx => ?_)))))
            | ((first | (with_reducible show Or (∃ n, rounds (acode _ (Code.seq (Code.region 10 _ _) _)) _ n _) _) | (with_reducible show Or (∃ n, rounds (acode _ (Code.seq (Code.seq (Code.region 10 _ _) _) _)) _ n _) _) | (with_reducible show Or (∃ n, rounds (acode _ (Code.seq (Code.seq (Code.seq (Code.region 10 _ _) _) _) _)) _ n _) _) | (with_reducible show Or (∃ n, rounds (acode _ (Code.seq (Code.seq (Code.seq (Code.seq (Code.region 10 _ _) _) _) _) _)) _ n _) _)); refine Or.inr (Exists.intro (Nat × Int × Int) (Exists.intro (loopRM2 p q image) (And.intro (Exists.intro ((0, 0, -1)) (And.intro (Hold.out ?_) (And.intro ?_ (And.intro ?_ rfl)))) (fun y hy => ?_)))))
            | ((with_reducible show (∃ y, And (Spec.inv (loopRM1 _ _) y) _)); refine Exists.intro (x + 1) (And.intro (Hold.out ?_) (And.intro (And.intro ?_ (And.intro ?_ rfl)) (Hold.out ?_))))
            | ((with_reducible show (∃ y, And (Spec.inv (loopRM2 _ _ _) y) _)); refine Exists.intro ((y.1 + 1, if y.2.2 < 0 ∨ farI (p.getD y.1 (0, 0, 0)) (q.getD (image.getD y.1 0).toNat (0, 0, 0)) > y.2.1 then (farI (p.getD y.1 (0, 0, 0)) (q.getD (image.getD y.1 0).toNat (0, 0, 0)), y.1) else y.2)) (And.intro (Hold.out ?_) (And.intro (And.intro ?_ (And.intro ?_ rfl)) (Hold.out ?_))))
            | refine And.intro rfl ?_
            | refine And.intro (HoldEq.out ?_) ?_
            | refine And.intro (HoldOb.out ?_) ?_
            | exact True.intro
            | refine HoldEq.out ?_
            | refine HoldObs.out ?_
            | refine HoldOr.out ?_)
  all_goals try first | refine HoldEq.int ?_ | refine HoldEq.bool ?_ | refine HoldEq.sl ?_ | refine HoldEq.own ?_ | refine HoldOb.row ?_ | refine HoldOb.map ?_ | refine HoldObs.row ?_
  all_goals try simp only [take_one, take_one', set_one, take_all, List.length_singleton, rec_self, Int.toNat_natCast, pair_eta, ETy.dflt, List.getD_cons_zero, List.getD_cons_succ, Int.reduceToNat, Int.reduceAdd, Int.reduceSub, Int.reduceNeg, Nat.reduceAdd, Nat.zero_add, loopRM1, loopRM2] at *
  · rename_i h
    refine HoldEq.intro ?_
    simp only [rmoveR, if_pos h]
  · exact Hold.intro ⟨Nat.zero_le _, rfl⟩
  · rename_i h0 h1 h2
    refine HoldEq.intro ?_
    have hb : badAny q.length image = true := by
      rw [hx.2, drop_now 0 h1]; simp only [badAny, decide_eq_true h2, Bool.true_or]
    have h0 : ¬ (image.length : Int) ≠ p.length := by omega
    simp only [rmoveR, if_neg h0, hb, if_true]
  · rename_i h0 _ h1 h2 _ h3
    refine HoldEq.intro ?_
    have hb : badAny q.length image = true := by
      rw [hx.2, drop_now 0 h1]; simp only [badAny, decide_eq_true h3, Bool.true_or, Bool.or_true]
    have h0 : ¬ (image.length : Int) ≠ p.length := by omega
    simp only [rmoveR, if_neg h0, hb, if_true]
  · rename_i h0 _ h1 h2 _ h3
    refine Hold.intro ⟨by omega, ?_⟩
    rw [hx.2, drop_now 0 h1]; simp only [badAny, decide_eq_false h2, decide_eq_false h3, Bool.false_or]
  · rename_i h0 _ h1 h2 _ h3
    exact Hold.intro (by omega)
  · exact Hold.intro ⟨Nat.zero_le _, rfl⟩
  · rename_i h0 _ h1 _ h2
    exact Hold.intro (bad_at (by rw [hx.2, drop_all h1]; rfl) (by omega))
  · exact Hold.intro ⟨ok_at hp.1 _, ok_at hp.2 _⟩
  all_goals try (refine Hold.intro ?_; omega)
  · refine Hold.intro ⟨by omega, ?_⟩
    rw [hy.2, drop_now 0 (by omega)]; rfl
  · rename_i h; exact congrArg Prod.fst (if_pos (.inl h))
  · rename_i h; exact congrArg Prod.snd (if_pos (.inl h))
  · refine Hold.intro ⟨by omega, ?_⟩
    rw [hy.2, drop_now 0 (by omega)]; rfl
  · rename_i _ h; exact congrArg Prod.fst (if_pos (.inr h))
  · rename_i _ h; exact congrArg Prod.snd (if_pos (.inr h))
  · refine Hold.intro ⟨by omega, ?_⟩
    rw [hy.2, drop_now 0 (by omega)]; rfl
  · rename_i h1 h2; exact congrArg Prod.fst (if_neg (by rintro (h | h) <;> contradiction))
  · rename_i h1 h2; exact congrArg Prod.snd (if_neg (by rintro (h | h) <;> contradiction))
  · rename_i h0 _ h1 _ h2
    refine HoldEq.intro ?_
    have h0' : ¬ (image.length : Int) ≠ p.length := by omega
    have hb : badAny q.length image = false := by rw [hx.2, drop_all h1]; rfl
    have hf : rfold p q 0 image (0, -1) = y.2 := by rw [hy.2, drop_all (by omega)]; rfl
    simp only [rmoveR, if_neg h0', hb, hf, Bool.false_eq_true, if_false]
def rmoveC : List AV → Option Res := con3 (.sl .arr3) (.sl (.int .i64)) (.sl .arr3) (fun p im q => some (none, some (p.all ptOk = true ∧ q.all ptOk = true), .tup [.s (.int .i64 (rmoveR p im q).1), .s (.int .i64 (rmoveR p im q).2.1), .s (.int .i64 (rmoveR p im q).2.2)]))
theorem rmoveRow : FnRow Try.prog 13 rmoveC := ⟨con3_ok fun p im q r h => by cases h; exact fn_by (rulesF (fn := [(21, rfarC)]) (fr := []) ⟨rfarRow, trivial⟩ trivial) Try.func13 (by kernel_rfl) fun _ h => rmove_vc p im q h, _, Try.func13, by kernel_rfl, by kernel_rfl⟩
end S1
