/- A part of the proofs of the laws of this seat: contracts of functions, each for every input that its text names. -/
import Derived.Test.YtkkhoppffmnkiaaS14
import Derived.Test.YtkkhoppffmnkiaaS9
set_option linter.unusedSimpArgs false
set_option linter.unusedVariables false
open Go Go.Vm Go.Proofs
namespace S1
set_option maxRecDepth 100000

/-! DistanceWithin -/
abbrev shE : ETy := .pair (.int .u8) (.pair (.int .u8) (.int .u8))
def loopW1 (l : List P3) : Spec Nat where
  inv i := i ≤ l.length
  live i := [(73, .s (.int .i64 i))]
  keep := [1, 2, 3, 5, 9, 11, 12, 13, 71, 72]
  heap _ := []
  keepH := [0, 1]
  mu i := l.length - i
theorem farFold_max (p q : List P3) : ∀ (l : List Int) (i : Nat) (m : Int) (k : Nat), k < l.length → farI (p.getD (i + k) (0, 0, 0)) (q.getD (l.getD k 0).toNat (0, 0, 0)) ≤ farFold p q i l m
  | [], _, _, _, h => by simp at h
  | a :: r, i, m, 0, _ => by
    simp only [farFold]
    have := farFold_ge p q r (i + 1) (max m (farI (p.getD i (0, 0, 0)) (q.getD a.toNat (0, 0, 0))))
    simp only [Nat.add_zero, List.getD_cons_zero]
    omega
  | a :: r, i, m, k + 1, h => by
    simp only [farFold, List.getD_cons_succ]
    have := farFold_max p q r (i + 1) (max m (farI (p.getD i (0, 0, 0)) (q.getD a.toNat (0, 0, 0)))) k (by simpa using h)
    rw [show i + (k + 1) = i + 1 + k by omega]; exact this
theorem farFold_le (p q : List P3) (hp : p.all ptOk = true) (hq : q.all ptOk = true) : ∀ (l : List Int) (i : Nat) (m : Int), m ≤ 1073741824 → farFold p q i l m ≤ 1073741824
  | [], _, _, h => h
  | a :: r, i, m, h => by
    simp only [farFold]
    have := near_far (p := p.getD i (0, 0, 0)) (q := q.getD a.toNat (0, 0, 0)) ⟨ok_at hp _, ok_at hq _⟩
    exact farFold_le p q hp hq r (i + 1) _ (by omega)
theorem mulB {s d n : Int} (hs : 0 ≤ s ∧ s ≤ 255) (hd : -n ≤ d ∧ d ≤ n) (hn : 0 ≤ n ∧ n ≤ 1073741824) : (-(s * n) ≤ s * d ∧ s * d ≤ s * n) ∧ 0 ≤ s * n ∧ s * n ≤ 273804165120 := by
  have h1 := Int.mul_le_mul_of_nonneg_left hd.2 hs.1
  have h2 := Int.mul_le_mul_of_nonneg_left hd.1 hs.1
  have h3 := Int.mul_nonneg hs.1 hn.1
  have h4 := Int.mul_le_mul hs.2 hn.2 hn.1 (by omega : (0 : Int) ≤ 255)
  rw [Int.mul_neg] at h2
  exact ⟨⟨h2, h1⟩, h3, by omega⟩
theorem wb {p q : List P3} {image : List Int} {s : Int} (v : Int) (hp : p.all ptOk = true) (hq : q.all ptOk = true) (h : (moveR p image q).2 = 0) (hv : 0 ≤ v ∧ v < image.length) (hs : 0 ≤ s ∧ s ≤ 255) :
    (0 ≤ image.getD v.toNat 0 ∧ image.getD v.toNat 0 < q.length) ∧ (0 ≤ (moveR p image q).1 ∧ (moveR p image q).1 ≤ 1073741824) ∧ (0 ≤ s * (moveR p image q).1 ∧ s * (moveR p image q).1 ≤ 273804165120) ∧
    ((-1073741824 ≤ (p.getD v.toNat (0, 0, 0)).1 - (q.getD (Int.toNat (image.getD v.toNat 0)) (0, 0, 0)).1 ∧ (p.getD v.toNat (0, 0, 0)).1 - (q.getD (Int.toNat (image.getD v.toNat 0)) (0, 0, 0)).1 ≤ 1073741824) ∧
     (-(s * (moveR p image q).1) ≤ s * ((p.getD v.toNat (0, 0, 0)).1 - (q.getD (Int.toNat (image.getD v.toNat 0)) (0, 0, 0)).1) ∧ s * ((p.getD v.toNat (0, 0, 0)).1 - (q.getD (Int.toNat (image.getD v.toNat 0)) (0, 0, 0)).1) ≤ s * (moveR p image q).1)) ∧
    ((-1073741824 ≤ (p.getD v.toNat (0, 0, 0)).2.1 - (q.getD (Int.toNat (image.getD v.toNat 0)) (0, 0, 0)).2.1 ∧ (p.getD v.toNat (0, 0, 0)).2.1 - (q.getD (Int.toNat (image.getD v.toNat 0)) (0, 0, 0)).2.1 ≤ 1073741824) ∧
     (-(s * (moveR p image q).1) ≤ s * ((p.getD v.toNat (0, 0, 0)).2.1 - (q.getD (Int.toNat (image.getD v.toNat 0)) (0, 0, 0)).2.1) ∧ s * ((p.getD v.toNat (0, 0, 0)).2.1 - (q.getD (Int.toNat (image.getD v.toNat 0)) (0, 0, 0)).2.1) ≤ s * (moveR p image q).1)) ∧
    ((-1073741824 ≤ (p.getD v.toNat (0, 0, 0)).2.2 - (q.getD (Int.toNat (image.getD v.toNat 0)) (0, 0, 0)).2.2 ∧ (p.getD v.toNat (0, 0, 0)).2.2 - (q.getD (Int.toNat (image.getD v.toNat 0)) (0, 0, 0)).2.2 ≤ 1073741824) ∧
     (-(s * (moveR p image q).1) ≤ s * ((p.getD v.toNat (0, 0, 0)).2.2 - (q.getD (Int.toNat (image.getD v.toNat 0)) (0, 0, 0)).2.2) ∧ s * ((p.getD v.toNat (0, 0, 0)).2.2 - (q.getD (Int.toNat (image.getD v.toNat 0)) (0, 0, 0)).2.2) ≤ s * (moveR p image q).1)) := by
  have hc := check_zero (move_zero h)
  have hb := bad_at hc.2 (i := v.toNat) (by omega)
  have hm : (moveR p image q).1 = farFold p q 0 image 0 := by unfold moveR; rw [if_neg (move_zero h)]
  have h1 := farFold_max p q image 0 0 v.toNat (by omega)
  have h2 := farFold_le p q hp hq image 0 0 (by omega)
  have h3 := farFold_ge p q image 0 0
  rw [hm]
  generalize farFold p q 0 image 0 = n at *
  rw [Nat.zero_add] at h1
  have k1 := ok_at hp v.toNat
  have k2 := ok_at hq (image.getD v.toNat 0).toNat
  generalize p.getD v.toNat (0, 0, 0) = P at *
  generalize q.getD (image.getD v.toNat 0).toNat (0, 0, 0) = Q at *
  obtain ⟨p0, p1, p2⟩ := P
  obtain ⟨q0, q1, q2⟩ := Q
  simp [ptOk, coordOk] at k1 k2
  simp only [farI, far1] at h1
  dsimp only
  have d0 : -n ≤ p0 - q0 ∧ p0 - q0 ≤ n := by omega
  have d1 : -n ≤ p1 - q1 ∧ p1 - q1 ≤ n := by omega
  have d2 : -n ≤ p2 - q2 ∧ p2 - q2 ≤ n := by omega
  have m0 := mulB hs d0 ⟨h3, h2⟩
  exact ⟨hb, ⟨h3, h2⟩, m0.2, ⟨by omega, m0.1⟩, ⟨by omega, (mulB hs d1 ⟨h3, h2⟩).1⟩, ⟨by omega, (mulB hs d2 ⟨h3, h2⟩).1⟩⟩
set_option maxHeartbeats 4000000 in
theorem lawW_vc (s : Int × List P3) (p : List P3) (image : List Int) (q : List P3) (sh : Int × Int × Int) : afun ⟨tyL, ([(9, awakeC), (14, greatC), (10, smallC), (11, moveC)]), []⟩ Try.f6 [soupE.av s, (ETy.sl .arr3).av p, (ETy.sl (.int .i64)).av image, (ETy.sl .arr3).av q, shE.av sh] (fun v => v = .s (.bool true)) := by
  obtain ⟨sn, sl⟩ := s
  repeat' (conv => whnf
           first
            | done
            | refine Need.intro (by first | omega | (simp only [i64ok] at *; omega)) ?_
            | refine Need.intro (Hold.out ?_) ?_
            | refine Give.intro fun _ => ?_
            | refine BIf.and ?_
            | refine BIf.or ?_
            | refine BIf.eqi (fun _ => ?_) (fun _ => ?_)
            | refine BIf.nei (fun _ => ?_) (fun _ => ?_)
            | refine BIf.dec (fun _ => ?_) (fun _ => ?_)
            | refine BIf.nt ?_
            | refine BIf.intro (fun _ => ?_) (fun _ => ?_)
            | ((first | (with_reducible show Or (∃ n, rounds (acode _ (Code.seq (Code.region 8 _ _) _)) _ n _) _) | (with_reducible show Or (∃ n, rounds (acode _ (Code.seq (Code.seq (Code.region 8 _ _) _) _)) _ n _) _) | (with_reducible show Or (∃ n, rounds (acode _ (Code.seq (Code.seq (Code.seq (Code.region 8 _ _) _) _) _)) _ n _) _) | (with_reducible show Or (∃ n, rounds (acode _ (Code.seq (Code.seq (Code.seq (Code.seq (Code.region 8 _ _) _) _) _) _)) _ n _) _)); refine Or.inr (Exists.intro (Nat) (Exists.intro (loopW1 sl) (And.intro (Exists.intro (0) (And.intro (Hold.out ?_) (And.intro ?_ (And.intro ?_ rfl)))) (fun x hx => ?_)))))
            | ((with_reducible show (∃ y, And (Spec.inv (loopW1 _) y) _)); refine Exists.intro (x + 1) (And.intro (Hold.out ?_) (And.intro (And.intro ?_ (And.intro ?_ rfl)) (Hold.out ?_))))
            | ((first | (with_reducible show Or (∃ n, rounds (acode _ (Code.seq (Code.region 11 _ _) _)) _ n _) _) | (with_reducible show Or (∃ n, rounds (acode _ (Code.seq (Code.seq (Code.region 11 _ _) _) _)) _ n _) _) | (with_reducible show Or (∃ n, rounds (acode _ (Code.seq (Code.seq (Code.seq (Code.region 11 _ _) _) _) _)) _ n _) _) | (with_reducible show Or (∃ n, rounds (acode _ (Code.seq (Code.seq (Code.seq (Code.seq (Code.region 11 _ _) _) _) _) _)) _ n _) _)); refine Or.inl (Exists.intro (4) ?_))
            | ((first | (with_reducible show Or (∃ n, rounds (acode _ (Code.seq (Code.region 15 _ _) _)) _ n _) _) | (with_reducible show Or (∃ n, rounds (acode _ (Code.seq (Code.seq (Code.region 15 _ _) _) _)) _ n _) _) | (with_reducible show Or (∃ n, rounds (acode _ (Code.seq (Code.seq (Code.seq (Code.region 15 _ _) _) _) _)) _ n _) _) | (with_reducible show Or (∃ n, rounds (acode _ (Code.seq (Code.seq (Code.seq (Code.seq (Code.region 15 _ _) _) _) _) _)) _ n _) _)); refine Or.inl (Exists.intro (4) ?_))
            | refine And.intro rfl ?_
            | refine And.intro (HoldEq.out ?_) ?_
            | refine And.intro (HoldOb.out ?_) ?_
            | exact True.intro
            | refine HoldEq.out ?_
            | refine HoldObs.out ?_
            | refine HoldOr.out ?_)
  all_goals try first | refine HoldEq.int ?_ | refine HoldEq.bool ?_ | refine HoldEq.sl ?_ | refine HoldEq.own ?_ | refine HoldOb.row ?_ | refine HoldOb.map ?_ | refine HoldObs.row ?_
  all_goals try simp only [take_one, take_one', set_one, take_all, List.length_singleton, rec_self, Int.toNat_natCast, pair_eta, ETy.dflt, List.getD_cons_zero, List.getD_cons_succ, Int.reduceToNat, Int.reduceAdd, Int.reduceSub, Int.reduceNeg, Nat.reduceAdd, Nat.zero_add, loopW1] at *
  all_goals try (refine Hold.intro ?_; omega)
  all_goals
    have hpk : p.all ptOk = true := by assumption
    have hqk : q.all ptOk = true := by assumption
    have hmz : (moveR p image q).2 = 0 := by assumption
    have b1 := wb (sl.getD x (0, 0, 0)).1 hpk hqk hmz ⟨by omega, by omega⟩ (by assumption : 0 ≤ sh.1 ∧ sh.1 ≤ 255)
    try first
    | exact Hold.intro b1.1
    | (refine Hold.intro ?_; simp only [i64ok]; omega)
  all_goals
    have b2 := wb (sl.getD x (0, 0, 0)).2.1 hpk hqk hmz ⟨by omega, by omega⟩ (by assumption : 0 ≤ sh.2.1 ∧ sh.2.1 ≤ 255)
    try first
    | exact Hold.intro b2.1
    | (refine Hold.intro ?_; simp only [i64ok]; omega)
  all_goals
    have b3 := wb (sl.getD x (0, 0, 0)).2.2 hpk hqk hmz ⟨by omega, by omega⟩ (by assumption : 0 ≤ sh.2.2 ∧ sh.2.2 ≤ 255)
    try first
    | exact Hold.intro b3.1
    | (refine Hold.intro ?_; simp only [i64ok, Int.neg_mul, Int.add_mul]; omega)
    | (exfalso; rename_i h; simp only [Int.neg_mul, Int.add_mul] at h; omega)
def lawWC : List AV → Option Res := con5 soupE (.sl .arr3) (.sl (.int .i64)) (.sl .arr3) shE (fun _ _ _ _ _ => some (none, none, .s (.bool true)))
theorem lawWRow : FnRow Try.prog 6 lawWC := ⟨con5_ok fun s p im q sh r h => by cases h; exact fn_by (rulesF (fn := [(9, awakeC), (14, greatC), (10, smallC), (11, moveC)]) (fr := []) ⟨awakeRow, greatRow, smallRow, moveRow, trivial⟩ trivial) Try.func6 (by kernel_rfl) fun _ _ => lawW_vc s p im q sh, _, Try.func6, by kernel_rfl, by kernel_rfl⟩
end S1
