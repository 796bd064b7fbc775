/- A part of the proofs of the laws of this seat: contracts of functions, each for every input that its text names. -/
import Derived.Test.YtkkhoppffmnkiaaS18
set_option linter.unusedSimpArgs false
set_option linter.unusedVariables false
open Go Go.Vm Go.Proofs
namespace S1
set_option maxRecDepth 100000

/-! All -/
@[irreducible] def degR (t : P3) : Bool := t.1 == t.2.1 || (t.2.1 == t.2.2 || t.2.2 == t.1)
def dgG (l : List P3) (i : Nat) : Option Wit := if degR (l.getD i (0, 0, 0)) then some (2, (i : Int), 0) else none
def dgL (l : List P3) (i : Nat) : List Wit := (List.range i).filterMap (dgG l)
def loG (l : List P3) (v : Nat) : Option Wit := if l.any (hasR · v) then none else some (5, (v : Int), 0)
def loL (l : List P3) (v : Nat) : List Wit := (List.range v).filterMap (loG l)
def piG (l : List P3) (v : Nat) : Option Wit := if pinchR l v then some (6, (v : Int), 0) else none
def piL (l : List P3) (v : Nat) : List Wit := (List.range v).filterMap (piG l)
def allR (s : Int × List P3) : List Wit :=
  if 0 < (indexR s).length then indexR s else if 0 < (dgL s.2 s.2.length).length then dgL s.2 s.2.length else if 0 < (prO s.2 3 s.2.length).length then prO s.2 3 s.2.length else
  if 0 < (prO s.2 4 s.2.length).length then prO s.2 4 s.2.length else if 0 < (loL s.2 s.1.toNat).length then loL s.2 s.1.toNat else piL s.2 s.1.toNat
theorem fm_succ {α : Type _} (f : Nat → Option α) (i : Nat) : (List.range (i + 1)).filterMap f = (List.range i).filterMap f ++ (f i).toList := by
  rw [List.range_succ, List.filterMap_append]; simp only [List.filterMap_cons, List.filterMap_nil]; cases f i <;> rfl
theorem fm_len {α : Type _} (f : Nat → Option α) (i : Nat) : ((List.range i).filterMap f).length ≤ i := Nat.le_trans (List.length_filterMap_le _ _) (by simp)
theorem index_small {s : Int × List P3} (h : ¬ ((indexR s).length : Int) > 0) : bigR s = false ∧ indexR s = [] := by
  have h : (indexR s).length = 0 := by omega
  refine ⟨?_, List.eq_nil_of_length_eq_zero h⟩
  cases hb : bigR s with
  | false => rfl
  | true => unfold indexR at h; rw [hb] at h; simp at h
theorem big_spec {n : Int} {l : List P3} (h : bigR (n, l) = false) : 0 ≤ n ∧ n ≤ 4096 ∧ l.length ≤ 8192 := by
  simp only [bigR, Bool.or_eq_false_iff, decide_eq_false_iff_not] at h; omega
theorem deg_t {t : P3} (h : t.1 = t.2.1 ∨ t.2.1 = t.2.2 ∨ t.2.2 = t.1) : degR t = true := by
  unfold degR; simp only [Bool.or_eq_true, beq_iff_eq]; exact h
theorem deg_f {t : P3} (h1 : t.1 ≠ t.2.1) (h2 : t.2.1 ≠ t.2.2) (h3 : t.2.2 ≠ t.1) : degR t = false := by
  unfold degR; rw [beq_false_of_ne h1, beq_false_of_ne h2, beq_false_of_ne h3]; rfl
theorem dg_t {l : List P3} {i : Nat} (h : degR (l.getD i (0, 0, 0)) = true) : dgL l (i + 1) = dgL l i ++ [(2, (i : Int), 0)] := by
  unfold dgL; rw [fm_succ, dgG, if_pos h]; rfl
theorem dg_f {l : List P3} {i : Nat} (h : degR (l.getD i (0, 0, 0)) = false) : dgL l (i + 1) = dgL l i := by
  unfold dgL; rw [fm_succ, dgG, if_neg (by rw [h]; decide)]; simp
theorem lo_t {l : List P3} {v : Nat} (h : (l.any (hasR · v)) = true) : loL l (v + 1) = loL l v := by
  unfold loL; rw [fm_succ, loG, if_pos h]; simp
theorem lo_f {l : List P3} {v : Nat} (h : (l.any (hasR · v)) = false) : loL l (v + 1) = loL l v ++ [(5, (v : Int), 0)] := by
  unfold loL; rw [fm_succ, loG, if_neg (by rw [h]; decide)]; rfl
theorem pi_t {l : List P3} {v : Nat} (h : pinchR l v = true) : piL l (v + 1) = piL l v ++ [(6, (v : Int), 0)] := by
  unfold piL; rw [fm_succ, piG, if_pos h]; rfl
theorem pi_f {l : List P3} {v : Nat} (h : pinchR l v = false) : piL l (v + 1) = piL l v := by
  unfold piL; rw [fm_succ, piG, if_neg (by rw [h]; decide)]; simp
section
variable {n : Int} {l : List P3}
theorem all_1 (h : ((indexR (n, l)).length : Int) > 0) : allR (n, l) = indexR (n, l) := by
  unfold allR; rw [if_pos (by omega)]
theorem all_2 (h1 : ¬ ((indexR (n, l)).length : Int) > 0) {i : Nat} (hi : i = l.length) (h2 : ((dgL l i).length : Int) > 0) : allR (n, l) = dgL l i := by
  subst hi; unfold allR; rw [if_neg (by omega), if_pos (by dsimp only; omega)]
theorem all_3 (h1 : ¬ ((indexR (n, l)).length : Int) > 0) {i : Nat} (hi : i = l.length) (h2 : ¬ ((dgL l i).length : Int) > 0) (h3 : ((prO l 3 l.length).length : Int) > 0) : allR (n, l) = prO l 3 l.length := by
  subst hi; unfold allR; rw [if_neg (by omega), if_neg (by dsimp only; omega), if_pos (by dsimp only; omega)]
theorem all_4 (h1 : ¬ ((indexR (n, l)).length : Int) > 0) {i : Nat} (hi : i = l.length) (h2 : ¬ ((dgL l i).length : Int) > 0) (h3 : ¬ ((prO l 3 l.length).length : Int) > 0) (h4 : ((prO l 4 l.length).length : Int) > 0) : allR (n, l) = prO l 4 l.length := by
  subst hi; unfold allR; rw [if_neg (by omega), if_neg (by dsimp only; omega), if_neg (by dsimp only; omega), if_pos (by dsimp only; omega)]
theorem all_5 (h1 : ¬ ((indexR (n, l)).length : Int) > 0) {i : Nat} (hi : i = l.length) (h2 : ¬ ((dgL l i).length : Int) > 0) (h3 : ¬ ((prO l 3 l.length).length : Int) > 0) (h4 : ¬ ((prO l 4 l.length).length : Int) > 0) {v : Nat} (hv : v = n.toNat) (h5 : ((loL l v).length : Int) > 0) : allR (n, l) = loL l v := by
  subst hi; subst hv; unfold allR; rw [if_neg (by omega), if_neg (by dsimp only; omega), if_neg (by dsimp only; omega), if_neg (by dsimp only; omega), if_pos (by dsimp only; omega)]
theorem all_6 (h1 : ¬ ((indexR (n, l)).length : Int) > 0) {i : Nat} (hi : i = l.length) (h2 : ¬ ((dgL l i).length : Int) > 0) (h3 : ¬ ((prO l 3 l.length).length : Int) > 0) (h4 : ¬ ((prO l 4 l.length).length : Int) > 0) {v : Nat} (hv : v = n.toNat) (h5 : ¬ ((loL l v).length : Int) > 0) {y : Nat} (hy : y = n.toNat) : allR (n, l) = piL l y := by
  subst hi; subst hv; subst hy; unfold allR; rw [if_neg (by omega), if_neg (by dsimp only; omega), if_neg (by dsimp only; omega), if_neg (by dsimp only; omega), if_neg (by dsimp only; omega)]
end
def loopA1 (l : List P3) : Spec Nat where
  inv i := i ≤ l.length
  live i := [(4, .s (.int .i64 i)), (3, .s (.own 2 0 (dgL l i).length))]
  keep := [1]
  heap i := [(2, .row witE 60 (dgL l i))]
  keepH := [0]
  mu i := l.length - i
def loopA2 (n : Int) (l : List P3) : Spec Nat where
  inv v := (v : Int) ≤ n
  live v := [(6, .s (.int .i64 v)), (3, .s (.own 4 0 (loL l v).length))]
  keep := [1]
  heap v := [(4, .row witE 60 (loL l v))]
  keepH := [0]
  mu v := n.toNat - v
def loopA3 (l : List P3) (v : Nat) : Spec (Nat × Bool) where
  inv x := x.1 ≤ l.length ∧ (false || l.any (hasR · v)) = (x.2 || (l.drop x.1).any (hasR · v))
  live x := [(8, .s (.int .i64 x.1)), (7, .s (.bool x.2))]
  keep := [1, 3, 6]
  heap _ := []
  keepH := [0, 4]
  mu x := l.length - x.1
def loopA4 (n : Int) (l : List P3) : Spec Nat where
  inv v := (v : Int) ≤ n
  live v := [(9, .s (.int .i64 v)), (3, .s (.own 4 0 (piL l v).length))]
  keep := [1]
  heap v := [(4, .row witE 60 (piL l v))]
  keepH := [0]
  mu v := n.toNat - v
set_option maxHeartbeats 4000000 in
theorem all9_vc (n : Int) (l : List P3) : afunF ⟨tyL, [(30, has9C), (31, pinch9C)], [(28, index9C), (29, pairs9C)]⟩ Try.f27 [soupE.av (n, l)] (fun v obs => v = .s (.own 0 0 (allR (n, l)).length) ∧ obs = [.row witE 60 (allR (n, l))]) := by
  repeat' (conv => whnf
           first
            | done
            | refine Need.intro (by first | omega | (simp only [i64ok] at *; omega)) ?_
            | refine Need.intro (Hold.out ?_) ?_
            | refine Give.intro fun _ => ?_
            | refine BIf.and ?_
            | refine BIf.or ?_
            | refine BIf.eqi (fun _ => ?_) (fun _ => ?_)
            | refine BIf.nei (fun _ => ?_) (fun _ => ?_)
            | refine BIf.dec (fun _ => ?_) (fun _ => ?_)
            | refine BIf.nt ?_
            | refine BIf.intro (fun _ => ?_) (fun _ => ?_)
            | ((first | (with_reducible show Or (∃ n, rounds (acode _ (Code.seq (Code.region 5 _ _) _)) _ n _) _) | (with_reducible show Or (∃ n, rounds (acode _ (Code.seq (Code.seq (Code.region 5 _ _) _) _)) _ n _) _) | (with_reducible show Or (∃ n, rounds (acode _ (Code.seq (Code.seq (Code.seq (Code.region 5 _ _) _) _) _)) _ n _) _) | (with_reducible show Or (∃ n, rounds (acode _ (Code.seq (Code.seq (Code.seq (Code.seq (Code.region 5 _ _) _) _) _) _)) _ n _) _)); refine Or.inr (Exists.intro (Nat) (Exists.intro (loopA1 l) (And.intro (Exists.intro (0) (And.intro (Hold.out ?_) (And.intro ?_ (And.intro ?_ rfl)))) (fun i hi => ?_)))))
            | ((with_reducible show (∃ y, And (Spec.inv (loopA1 _) y) _)); refine Exists.intro (i + 1) (And.intro (Hold.out ?_) (And.intro (And.intro ?_ (And.intro ?_ rfl)) (Hold.out ?_))))
            | ((first | (with_reducible show Or (∃ n, rounds (acode _ (Code.seq (Code.region 19 _ _) _)) _ n _) _) | (with_reducible show Or (∃ n, rounds (acode _ (Code.seq (Code.seq (Code.region 19 _ _) _) _)) _ n _) _) | (with_reducible show Or (∃ n, rounds (acode _ (Code.seq (Code.seq (Code.seq (Code.region 19 _ _) _) _) _)) _ n _) _) | (with_reducible show Or (∃ n, rounds (acode _ (Code.seq (Code.seq (Code.seq (Code.seq (Code.region 19 _ _) _) _) _) _)) _ n _) _)); refine Or.inr (Exists.intro (Nat) (Exists.intro (loopA2 n l) (And.intro (Exists.intro (0) (And.intro (Hold.out ?_) (And.intro ?_ (And.intro ?_ rfl)))) (fun v hv => ?_)))))
            | ((with_reducible show (∃ y, And (Spec.inv (loopA2 _ _) y) _)); refine Exists.intro (v + 1) (And.intro (Hold.out ?_) (And.intro (And.intro ?_ (And.intro ?_ rfl)) (Hold.out ?_))))
            | ((first | (with_reducible show Or (∃ n, rounds (acode _ (Code.seq (Code.region 23 _ _) _)) _ n _) _) | (with_reducible show Or (∃ n, rounds (acode _ (Code.seq (Code.seq (Code.region 23 _ _) _) _)) _ n _) _) | (with_reducible show Or (∃ n, rounds (acode _ (Code.seq (Code.seq (Code.seq (Code.region 23 _ _) _) _) _)) _ n _) _) | (with_reducible show Or (∃ n, rounds (acode _ (Code.seq (Code.seq (Code.seq (Code.seq (Code.region 23 _ _) _) _) _) _)) _ n _) _)); refine Or.inr (Exists.intro (Nat × Bool) (Exists.intro (loopA3 l v) (And.intro (Exists.intro ((0, false)) (And.intro (Hold.out ?_) (And.intro ?_ (And.intro ?_ rfl)))) (fun x hx => ?_)))))
            | ((with_reducible show (∃ y, And (Spec.inv (loopA3 _ _) y) _)); refine Exists.intro ((x.1 + 1, x.2 || hasR (l.getD x.1 (0, 0, 0)) v)) (And.intro (Hold.out ?_) (And.intro (And.intro ?_ (And.intro ?_ rfl)) (Hold.out ?_))))
            | ((first | (with_reducible show Or (∃ n, rounds (acode _ (Code.seq (Code.region 31 _ _) _)) _ n _) _) | (with_reducible show Or (∃ n, rounds (acode _ (Code.seq (Code.seq (Code.region 31 _ _) _) _)) _ n _) _) | (with_reducible show Or (∃ n, rounds (acode _ (Code.seq (Code.seq (Code.seq (Code.region 31 _ _) _) _) _)) _ n _) _) | (with_reducible show Or (∃ n, rounds (acode _ (Code.seq (Code.seq (Code.seq (Code.seq (Code.region 31 _ _) _) _) _) _)) _ n _) _)); refine Or.inr (Exists.intro (Nat) (Exists.intro (loopA4 n l) (And.intro (Exists.intro (0) (And.intro (Hold.out ?_) (And.intro ?_ (And.intro ?_ rfl)))) (fun y hy => ?_)))))
            | ((with_reducible show (∃ y, And (Spec.inv (loopA4 _ _) y) _)); refine Exists.intro (y + 1) (And.intro (Hold.out ?_) (And.intro (And.intro ?_ (And.intro ?_ rfl)) (Hold.out ?_))))
            | refine And.intro rfl ?_
            | refine And.intro (HoldEq.out ?_) ?_
            | refine And.intro (HoldOb.out ?_) ?_
            | exact True.intro
            | refine HoldEq.out ?_
            | refine HoldObs.out ?_
            | refine HoldOr.out ?_)
  all_goals try first | refine HoldEq.int ?_ | refine HoldEq.bool ?_ | refine HoldEq.sl ?_ | refine HoldEq.own ?_ | refine HoldOb.row ?_ | refine HoldOb.map ?_ | refine HoldObs.row ?_
  all_goals try simp only [take_one, take_one', set_one, take_all, List.length_singleton, rec_self, Int.toNat_natCast, pair_eta, ETy.dflt, List.getD_cons_zero, List.getD_cons_succ, Int.reduceToNat, Int.reduceAdd, Int.reduceSub, Int.reduceNeg, Nat.reduceAdd, Nat.zero_add, loopA1, loopA2, loopA3, loopA4] at *
  all_goals try (refine Hold.intro ?_; omega)
  all_goals try
    (have hb := big_spec (index_small (s := (n, l)) (by assumption)).1
     refine Hold.intro ?_; first | omega | (simp only [i64ok]; omega))
  all_goals try
    (have hb := big_spec (index_small (s := (n, l)) (by assumption)).1
     have h1 := fm_len (dgG l) i
     refine Hold.intro ?_; simp only [dgL, loL, piL]; first | omega | (have h2 := fm_len (loG l) v; first | omega | (have h3 := fm_len (piG l) y; omega)))
  all_goals try first
    | rw [all_1 (by assumption)]
    | rw [all_2 (i := i) (by assumption) (by omega) (by assumption)]
    | rw [all_3 (i := i) (by assumption) (by omega) (by assumption) (by assumption)]
    | rw [all_4 (i := i) (by assumption) (by omega) (by assumption) (by assumption) (by assumption)]
    | rw [all_5 (i := i) (v := v) (by assumption) (by omega) (by assumption) (by assumption) (by assumption) (by omega) (by assumption)]
    | rw [all_6 (i := i) (v := v) (y := y) (by assumption) (by omega) (by assumption) (by assumption) (by assumption) (by omega) (by assumption) (by omega)]
  all_goals try
    (have hd : degR (l.getD i (0, 0, 0)) = true := deg_t (by omega)
     rw [dg_t hd]; (try simp only [List.length_append, List.length_singleton]); done)
  all_goals try
    (have hd : degR (l.getD i (0, 0, 0)) = false := deg_f (by omega) (by omega) (by omega)
     rw [dg_f hd]; done)
  all_goals try (rw [(index_small (s := (n, l)) (by assumption)).2]; rfl)
  all_goals try (rw [List.eq_nil_of_length_eq_zero (l := prO l 4 l.length) (by omega)]; rfl)
  all_goals try (rw [List.eq_nil_of_length_eq_zero (l := loL l v) (by omega)]; rfl)
  all_goals try first
    | exact Hold.intro ⟨Nat.zero_le _, rfl⟩
    | exact Hold.intro (any_step hx (by assumption))
    | (simp only [*]; done)
    | (simp only [*]; simp; done)
  all_goals try (rw [pi_f (by assumption)]; done)
  all_goals try (rw [pi_t (by assumption)]; (try simp only [List.length_append, List.length_singleton]); done)
  all_goals
    have hu := any_end hx (by assumption)
    rw [Bool.false_or] at hu
  all_goals first
    | (rw [lo_t (hu.trans (by assumption))]; done)
    | (rw [lo_f (hu.trans (by assumption))]; (try simp only [List.length_append, List.length_singleton]); done)
def all9C : List AV → Option ResF := con1 soupE (fun s => some (none, none, .s (.own 0 0 (allR s).length), [.row witE 60 (allR s)]))
theorem all9Row : FnRowF Try.prog 27 all9C := ⟨con1_okF fun s r h => by cases h; exact fn_byF (rulesF (fn := [(30, has9C), (31, pinch9C)]) (fr := [(28, index9C), (29, pairs9C)]) ⟨has9Row, pinch9Row, trivial⟩ ⟨index9Row, pairs9Row, trivial⟩) Try.func27 (by kernel_rfl) fun _ _ => all9_vc s.1 s.2, _, Try.func27, by kernel_rfl, by kernel_rfl⟩

/-! Surface -/
def surfR (s : Int × List P3) : Bool := (allR s).length == 0
theorem surf9_vc (s : Int × List P3) : afun ⟨tyL, [], [(27, all9C)]⟩ Try.f19 [soupE.av s] (fun v => v = .s (.bool (surfR s))) := by
  repeat' (conv => whnf
           first
            | done
            | refine Need.intro (by first | omega | (simp only [i64ok] at *; omega)) ?_
            | refine Need.intro (Hold.out ?_) ?_
            | refine Give.intro fun _ => ?_
            | refine BIf.and ?_
            | refine BIf.or ?_
            | refine BIf.eqi (fun _ => ?_) (fun _ => ?_)
            | refine BIf.nei (fun _ => ?_) (fun _ => ?_)
            | refine BIf.dec (fun _ => ?_) (fun _ => ?_)
            | refine BIf.nt ?_
            | refine BIf.intro (fun _ => ?_) (fun _ => ?_)
            | refine And.intro rfl ?_
            | refine And.intro (HoldEq.out ?_) ?_
            | refine And.intro (HoldOb.out ?_) ?_
            | exact True.intro
            | refine HoldEq.out ?_
            | refine HoldObs.out ?_
            | refine HoldOr.out ?_)
  all_goals try first | refine HoldEq.int ?_ | refine HoldEq.bool ?_ | refine HoldEq.sl ?_ | refine HoldEq.own ?_ | refine HoldOb.row ?_ | refine HoldOb.map ?_ | refine HoldObs.row ?_
  all_goals try simp only [take_one, take_one', set_one, take_all, List.length_singleton, rec_self, Int.toNat_natCast, pair_eta, ETy.dflt, List.getD_cons_zero, List.getD_cons_succ, Int.reduceToNat, Int.reduceAdd, Int.reduceSub, Int.reduceNeg, Nat.reduceAdd, Nat.zero_add, surfR] at *
  rw [Bool.eq_iff_iff, beq_iff_eq, beq_iff_eq]; omega
def surf9C : List AV → Option Res := con1 soupE (fun s => some (none, none, .s (.bool (surfR s))))
theorem surf9Row : FnRow Try.prog 19 surf9C := ⟨con1_ok fun s r h => by cases h; exact fn_by (rulesF (fn := []) (fr := [(27, all9C)]) trivial ⟨all9Row, trivial⟩) Try.func19 (by kernel_rfl) fun _ _ => surf9_vc s, _, Try.func19, by kernel_rfl, by kernel_rfl⟩
theorem surf_fits {n : Int} {l : List P3} (h : surfR (n, l) = true) : fitsR (n, l) = true ∧ bigR (n, l) = false := by
  have h : (allR (n, l)).length = 0 := by simpa [surfR] using h
  have hi : ¬ ((indexR (n, l)).length : Int) > 0 := by
    intro hp; rw [all_1 hp] at h; omega
  obtain ⟨hb, he⟩ := index_small hi
  refine ⟨?_, hb⟩
  have he : idxL n 0 l = [] := by simpa [indexR, hb] using he
  have key : ∀ (l : List P3) (i : Nat), idxL n i l = [] → l.all (triIn n) = true := by
    intro l
    induction l with
    | nil => intro _ _; rfl
    | cons t r ih =>
      intro i h
      simp only [idxL] at h
      split at h
      · rename_i ht; rw [List.all_cons, ht, ih _ h]; rfl
      · cases h
  exact key l 0 he
end S1
