/- A part of the proofs of the laws of this seat: contracts of functions, each for every input that its text names. -/
import Derived.Test.YtbbpofkacdmjnaaU4toR2
import Derived.Test.YtbbpofkacdmjnaaF3toU1
set_option linter.unusedSimpArgs false
set_option linter.unusedVariables false
set_option maxHeartbeats 2000000
open Go Go.Vm Go.Proofs
namespace S9
open S1
set_option maxRecDepth 100000

/-! All -/
theorem any_step {l : List P3} {f : P3 → Bool} {b z : Bool} {x : Nat} (hi : x ≤ l.length ∧ (b || l.any f) = (z || (l.drop x).any f)) (h : (x : Int) < l.length) : x + 1 ≤ l.length ∧ (b || l.any f) = (z || f (l.getD x (0, 0, 0)) || (l.drop (x + 1)).any f) :=
  ⟨by omega, by rw [hi.2, drop_now (0, 0, 0) h, List.any_cons, Bool.or_assoc]⟩
theorem any_end {l : List P3} {f : P3 → Bool} {b z : Bool} {x : Nat} (hi : x ≤ l.length ∧ (b || l.any f) = (z || (l.drop x).any f)) (h : ¬ (x : Int) < l.length) : (b || l.any f) = z := by
  rw [hi.2, drop_all h]; simp
@[irreducible] def degR (t : P3) : Bool := t.1 == t.2.1 || (t.2.1 == t.2.2 || t.2.2 == t.1)
def dgG (l : List P3) (i : Nat) : Option Wit := if degR (l.getD i (0, 0, 0)) then some (2, (i : Int), 0) else none
def dgL (l : List P3) (i : Nat) : List Wit := (List.range i).filterMap (dgG l)
def loG (l : List P3) (v : Nat) : Option Wit := if l.any (hasR · v) then none else some (5, (v : Int), 0)
def loL (l : List P3) (v : Nat) : List Wit := (List.range v).filterMap (loG l)
def piG (l : List P3) (v : Nat) : Option Wit := if pinchR l v then some (6, (v : Int), 0) else none
def piL (l : List P3) (v : Nat) : List Wit := (List.range v).filterMap (piG l)
def allR (s : Int × List P3) : List Wit :=
  if 0 < (indexR s).length then indexR s else if 0 < (dgL s.2 s.2.length).length then dgL s.2 s.2.length else if 0 < (prO s.2 3 s.2.length).length then prO s.2 3 s.2.length else
  if 0 < (prO s.2 4 s.2.length).length then prO s.2 4 s.2.length else if 0 < (loL s.2 s.1.toNat).length then loL s.2 s.1.toNat else piL s.2 s.1.toNat
theorem fm_succ {α : Type _} (f : Nat → Option α) (i : Nat) : (List.range (i + 1)).filterMap f = (List.range i).filterMap f ++ (f i).toList := by
  rw [List.range_succ, List.filterMap_append]; simp only [List.filterMap_cons, List.filterMap_nil]; cases f i <;> rfl
theorem fm_len {α : Type _} (f : Nat → Option α) (i : Nat) : ((List.range i).filterMap f).length ≤ i := Nat.le_trans (List.length_filterMap_le _ _) (by simp)
theorem index_small {s : Int × List P3} (h : ¬ ((indexR s).length : Int) > 0) : bigR s = false ∧ indexR s = [] := by
  have h : (indexR s).length = 0 := by omega
  refine ⟨?_, List.eq_nil_of_length_eq_zero h⟩
  cases hb : bigR s with
  | false => rfl
  | true => unfold indexR at h; rw [hb] at h; simp at h
theorem big_spec {n : Int} {l : List P3} (h : bigR (n, l) = false) : 0 ≤ n ∧ n ≤ 4096 ∧ l.length ≤ 8192 := by
  simp only [bigR, Bool.or_eq_false_iff, decide_eq_false_iff_not] at h; omega
theorem deg_t {t : P3} (h : t.1 = t.2.1 ∨ t.2.1 = t.2.2 ∨ t.2.2 = t.1) : degR t = true := by
  unfold degR; simp only [Bool.or_eq_true, beq_iff_eq]; exact h
theorem deg_f {t : P3} (h1 : t.1 ≠ t.2.1) (h2 : t.2.1 ≠ t.2.2) (h3 : t.2.2 ≠ t.1) : degR t = false := by
  unfold degR; rw [beq_false_of_ne h1, beq_false_of_ne h2, beq_false_of_ne h3]; rfl
theorem dg_t {l : List P3} {i : Nat} (h : degR (l.getD i (0, 0, 0)) = true) : dgL l (i + 1) = dgL l i ++ [(2, (i : Int), 0)] := by
  unfold dgL; rw [fm_succ, dgG, if_pos h]; rfl
theorem dg_f {l : List P3} {i : Nat} (h : degR (l.getD i (0, 0, 0)) = false) : dgL l (i + 1) = dgL l i := by
  unfold dgL; rw [fm_succ, dgG, if_neg (by rw [h]; decide)]; simp
theorem lo_t {l : List P3} {v : Nat} (h : (l.any (hasR · v)) = true) : loL l (v + 1) = loL l v := by
  unfold loL; rw [fm_succ, loG, if_pos h]; simp
theorem lo_f {l : List P3} {v : Nat} (h : (l.any (hasR · v)) = false) : loL l (v + 1) = loL l v ++ [(5, (v : Int), 0)] := by
  unfold loL; rw [fm_succ, loG, if_neg (by rw [h]; decide)]; rfl
theorem pi_t {l : List P3} {v : Nat} (h : pinchR l v = true) : piL l (v + 1) = piL l v ++ [(6, (v : Int), 0)] := by
  unfold piL; rw [fm_succ, piG, if_pos h]; rfl
theorem pi_f {l : List P3} {v : Nat} (h : pinchR l v = false) : piL l (v + 1) = piL l v := by
  unfold piL; rw [fm_succ, piG, if_neg (by rw [h]; decide)]; simp
section
variable {n : Int} {l : List P3}
theorem all_1 (h : ((indexR (n, l)).length : Int) > 0) : allR (n, l) = indexR (n, l) := by
  unfold allR; rw [if_pos (by omega)]
theorem all_2 (h1 : ¬ ((indexR (n, l)).length : Int) > 0) {i : Nat} (hi : i = l.length) (h2 : ((dgL l i).length : Int) > 0) : allR (n, l) = dgL l i := by
  subst hi; unfold allR; rw [if_neg (by omega), if_pos (by dsimp only; omega)]
theorem all_3 (h1 : ¬ ((indexR (n, l)).length : Int) > 0) {i : Nat} (hi : i = l.length) (h2 : ¬ ((dgL l i).length : Int) > 0) (h3 : ((prO l 3 l.length).length : Int) > 0) : allR (n, l) = prO l 3 l.length := by
  subst hi; unfold allR; rw [if_neg (by omega), if_neg (by dsimp only; omega), if_pos (by dsimp only; omega)]
theorem all_4 (h1 : ¬ ((indexR (n, l)).length : Int) > 0) {i : Nat} (hi : i = l.length) (h2 : ¬ ((dgL l i).length : Int) > 0) (h3 : ¬ ((prO l 3 l.length).length : Int) > 0) (h4 : ((prO l 4 l.length).length : Int) > 0) : allR (n, l) = prO l 4 l.length := by
  subst hi; unfold allR; rw [if_neg (by omega), if_neg (by dsimp only; omega), if_neg (by dsimp only; omega), if_pos (by dsimp only; omega)]
theorem all_5 (h1 : ¬ ((indexR (n, l)).length : Int) > 0) {i : Nat} (hi : i = l.length) (h2 : ¬ ((dgL l i).length : Int) > 0) (h3 : ¬ ((prO l 3 l.length).length : Int) > 0) (h4 : ¬ ((prO l 4 l.length).length : Int) > 0) {v : Nat} (hv : v = n.toNat) (h5 : ((loL l v).length : Int) > 0) : allR (n, l) = loL l v := by
  subst hi; subst hv; unfold allR; rw [if_neg (by omega), if_neg (by dsimp only; omega), if_neg (by dsimp only; omega), if_neg (by dsimp only; omega), if_pos (by dsimp only; omega)]
theorem all_6 (h1 : ¬ ((indexR (n, l)).length : Int) > 0) {i : Nat} (hi : i = l.length) (h2 : ¬ ((dgL l i).length : Int) > 0) (h3 : ¬ ((prO l 3 l.length).length : Int) > 0) (h4 : ¬ ((prO l 4 l.length).length : Int) > 0) {v : Nat} (hv : v = n.toNat) (h5 : ¬ ((loL l v).length : Int) > 0) {y : Nat} (hy : y = n.toNat) : allR (n, l) = piL l y := by
  subst hi; subst hv; subst hy; unfold allR; rw [if_neg (by omega), if_neg (by dsimp only; omega), if_neg (by dsimp only; omega), if_neg (by dsimp only; omega), if_neg (by dsimp only; omega)]
end
def loopA1 (l : List P3) : Spec Nat where
  inv i := i ≤ l.length
  live i := [(4, .s (.int .i64 i)), (3, .s (.own 2 0 (dgL l i).length))]
  keep := [1]
  heap i := [(2, .row witE 116 (dgL l i))]
  keepH := [0]
  mu i := l.length - i
def loopA2 (n : Int) (l : List P3) : Spec Nat where
  inv v := (v : Int) ≤ n
  live v := [(6, .s (.int .i64 v)), (3, .s (.own 4 0 (loL l v).length))]
  keep := [1]
  heap v := [(4, .row witE 116 (loL l v))]
  keepH := [0]
  mu v := n.toNat - v
def loopA3 (l : List P3) (v : Nat) : Spec (Nat × Bool) where
  inv x := x.1 ≤ l.length ∧ (false || l.any (hasR · v)) = (x.2 || (l.drop x.1).any (hasR · v))
  live x := [(8, .s (.int .i64 x.1)), (7, .s (.bool x.2))]
  keep := [1, 3, 6]
  heap _ := []
  keepH := [0, 4]
  mu x := l.length - x.1
def loopA4 (n : Int) (l : List P3) : Spec Nat where
  inv v := (v : Int) ≤ n
  live v := [(9, .s (.int .i64 v)), (3, .s (.own 4 0 (piL l v).length))]
  keep := [1]
  heap v := [(4, .row witE 116 (piL l v))]
  keepH := [0]
  mu v := n.toNat - v
set_option maxHeartbeats 4000000 in
theorem all9_vc (n : Int) (l : List P3) : afunF ⟨tyL, [(95, has9C), (96, pinch9C)], [(93, .res index9C), (94, .res pairs9C)]⟩ Try.f68 [soupE.av (n, l)] (fun v obs => v = .s (.own 0 0 (allR (n, l)).length) ∧ obs = [.row witE 116 (allR (n, l))]) := by
  repeat' (conv => whnf
           first | done | refine Need.intro (by first | rfl | omega | (simp only [i64ok] at *; omega)) ?_ | refine Need.intro (Hold.out ?_) ?_ | refine Give.intro fun _ => ?_ | refine Both.intro ?_ ?_ | refine BIf.and ?_ | refine BIf.or ?_ | refine BIf.eqi (fun _ => ?_) (fun _ => ?_) | refine BIf.nei (fun _ => ?_) (fun _ => ?_) | refine BIf.dec (fun _ => ?_) (fun _ => ?_) | refine BIf.nt ?_ | refine BIf.intro (fun _ => ?_) (fun _ => ?_) | ((first | (with_reducible show Or (∃ n, rounds (acode _ (Code.seq (Code.region 5 _ _) _)) _ n _) _) | (with_reducible show Or (∃ n, rounds (acode _ (Code.seq (Code.seq (Code.region 5 _ _) _) _)) _ n _) _) | (with_reducible show Or (∃ n, rounds (acode _ (Code.seq (Code.seq (Code.seq (Code.region 5 _ _) _) _) _)) _ n _) _) | (with_reducible show Or (∃ n, rounds (acode _ (Code.seq (Code.seq (Code.seq (Code.seq (Code.region 5 _ _) _) _) _) _)) _ n _) _) | (with_reducible show Or (∃ n, rounds (acode _ (Code.block _ (Code.seq (Code.region 5 _ _) _))) _ n _) _) | (with_reducible show Or (∃ n, rounds (acode _ (Code.block _ (Code.seq (Code.seq (Code.region 5 _ _) _) _))) _ n _) _) | (with_reducible show Or (∃ n, rounds (acode _ (Code.block _ (Code.seq (Code.seq (Code.seq (Code.region 5 _ _) _) _) _))) _ n _) _) | (with_reducible show Or (∃ n, rounds (acode _ (Code.block _ (Code.seq (Code.seq (Code.seq (Code.seq (Code.region 5 _ _) _) _) _) _))) _ n _) _)); refine Or.inr (Exists.intro (Nat) (Exists.intro (loopA1 l) (And.intro (Exists.intro (0) (And.intro (Hold.out ?_) (And.intro ?_ (And.intro ?_ rfl)))) (fun i hi => ?_))))) | ((with_reducible show (∃ y, And (Spec.inv (loopA1 _) y) _)); refine Exists.intro (i + 1) (And.intro (Hold.out ?_) (And.intro (And.intro ?_ (And.intro ?_ rfl)) (Hold.out ?_)))) | ((first | (with_reducible show Or (∃ n, rounds (acode _ (Code.seq (Code.region 19 _ _) _)) _ n _) _) | (with_reducible show Or (∃ n, rounds (acode _ (Code.seq (Code.seq (Code.region 19 _ _) _) _)) _ n _) _) | (with_reducible show Or (∃ n, rounds (acode _ (Code.seq (Code.seq (Code.seq (Code.region 19 _ _) _) _) _)) _ n _) _) | (with_reducible show Or (∃ n, rounds (acode _ (Code.seq (Code.seq (Code.seq (Code.seq (Code.region 19 _ _) _) _) _) _)) _ n _) _) | (with_reducible show Or (∃ n, rounds (acode _ (Code.block _ (Code.seq (Code.region 19 _ _) _))) _ n _) _) | (with_reducible show Or (∃ n, rounds (acode _ (Code.block _ (Code.seq (Code.seq (Code.region 19 _ _) _) _))) _ n _) _) | (with_reducible show Or (∃ n, rounds (acode _ (Code.block _ (Code.seq (Code.seq (Code.seq (Code.region 19 _ _) _) _) _))) _ n _) _) | (with_reducible show Or (∃ n, rounds (acode _ (Code.block _ (Code.seq (Code.seq (Code.seq (Code.seq (Code.region 19 _ _) _) _) _) _))) _ n _) _)); refine Or.inr (Exists.intro (Nat) (Exists.intro (loopA2 n l) (And.intro (Exists.intro (0) (And.intro (Hold.out ?_) (And.intro ?_ (And.intro ?_ rfl)))) (fun v hv => ?_))))) | ((with_reducible show (∃ y, And (Spec.inv (loopA2 _ _) y) _)); refine Exists.intro (v + 1) (And.intro (Hold.out ?_) (And.intro (And.intro ?_ (And.intro ?_ rfl)) (Hold.out ?_)))) | ((first | (with_reducible show Or (∃ n, rounds (acode _ (Code.seq (Code.region 23 _ _) _)) _ n _) _) | (with_reducible show Or (∃ n, rounds (acode _ (Code.seq (Code.seq (Code.region 23 _ _) _) _)) _ n _) _) | (with_reducible show Or (∃ n, rounds (acode _ (Code.seq (Code.seq (Code.seq (Code.region 23 _ _) _) _) _)) _ n _) _) | (with_reducible show Or (∃ n, rounds (acode _ (Code.seq (Code.seq (Code.seq (Code.seq (Code.region 23 _ _) _) _) _) _)) _ n _) _) | (with_reducible show Or (∃ n, rounds (acode _ (Code.block _ (Code.seq (Code.region 23 _ _) _))) _ n _) _) | (with_reducible show Or (∃ n, rounds (acode _ (Code.block _ (Code.seq (Code.seq (Code.region 23 _ _) _) _))) _ n _) _) | (with_reducible show Or (∃ n, rounds (acode _ (Code.block _ (Code.seq (Code.seq (Code.seq (Code.region 23 _ _) _) _) _))) _ n _) _) | (with_reducible show Or (∃ n, rounds (acode _ (Code.block _ (Code.seq (Code.seq (Code.seq (Code.seq (Code.region 23 _ _) _) _) _) _))) _ n _) _)); refine Or.inr (Exists.intro (Nat × Bool) (Exists.intro (loopA3 l v) (And.intro (Exists.intro ((0, false)) (And.intro (Hold.out ?_) (And.intro ?_ (And.intro ?_ rfl)))) (fun x hx => ?_))))) | ((with_reducible show (∃ y, And (Spec.inv (loopA3 _ _) y) _)); refine Exists.intro ((x.1 + 1, x.2 || hasR (l.getD x.1 (0, 0, 0)) v)) (And.intro (Hold.out ?_) (And.intro (And.intro ?_ (And.intro ?_ rfl)) (Hold.out ?_)))) | ((first | (with_reducible show Or (∃ n, rounds (acode _ (Code.seq (Code.region 31 _ _) _)) _ n _) _) | (with_reducible show Or (∃ n, rounds (acode _ (Code.seq (Code.seq (Code.region 31 _ _) _) _)) _ n _) _) | (with_reducible show Or (∃ n, rounds (acode _ (Code.seq (Code.seq (Code.seq (Code.region 31 _ _) _) _) _)) _ n _) _) | (with_reducible show Or (∃ n, rounds (acode _ (Code.seq (Code.seq (Code.seq (Code.seq (Code.region 31 _ _) _) _) _) _)) _ n _) _) | (with_reducible show Or (∃ n, rounds (acode _ (Code.block _ (Code.seq (Code.region 31 _ _) _))) _ n _) _) | (with_reducible show Or (∃ n, rounds (acode _ (Code.block _ (Code.seq (Code.seq (Code.region 31 _ _) _) _))) _ n _) _) | (with_reducible show Or (∃ n, rounds (acode _ (Code.block _ (Code.seq (Code.seq (Code.seq (Code.region 31 _ _) _) _) _))) _ n _) _) | (with_reducible show Or (∃ n, rounds (acode _ (Code.block _ (Code.seq (Code.seq (Code.seq (Code.seq (Code.region 31 _ _) _) _) _) _))) _ n _) _)); refine Or.inr (Exists.intro (Nat) (Exists.intro (loopA4 n l) (And.intro (Exists.intro (0) (And.intro (Hold.out ?_) (And.intro ?_ (And.intro ?_ rfl)))) (fun y hy => ?_))))) | ((with_reducible show (∃ y, And (Spec.inv (loopA4 _ _) y) _)); refine Exists.intro (y + 1) (And.intro (Hold.out ?_) (And.intro (And.intro ?_ (And.intro ?_ rfl)) (Hold.out ?_)))) | refine And.intro rfl ?_ | refine And.intro (HoldEq.out ?_) ?_ | refine And.intro (HoldOb.out ?_) ?_ | exact True.intro | refine HoldEq.out ?_ | refine HoldObs.out ?_ | refine KCheck.intro (by kernel_rfl) ?_ | refine HoldOr.out ?_)
  all_goals try first | refine HoldEq.int ?_ | refine HoldEq.bool ?_ | refine HoldEq.sl ?_ | refine HoldEq.own ?_ | refine HoldEq.ownS ?_ ?_ | refine HoldOb.row ?_ | refine HoldOb.map ?_ | refine HoldOb.gmap ?_ | refine HoldOb.grow ?_ | refine HoldObs.row ?_
  all_goals try simp only [take_one, take_one', set_one, take_all, List.length_singleton, rec_self, Int.toNat_natCast, pair_eta, ETy.dflt, List.getD_cons_zero, List.getD_cons_succ, Int.reduceToNat, Int.reduceAdd, Int.reduceSub, Int.reduceNeg, Nat.reduceAdd, Nat.zero_add, loopA1, loopA2, loopA3, loopA4] at *
  all_goals try (refine Hold.intro ?_; omega)
  all_goals try
    (have hb := big_spec (index_small (s := (n, l)) (by assumption)).1
     refine Hold.intro ?_; first | omega | (simp only [i64ok]; omega))
  all_goals try
    (have hb := big_spec (index_small (s := (n, l)) (by assumption)).1
     have h1 := fm_len (dgG l) i
     refine Hold.intro ?_; simp only [dgL, loL, piL]; first | omega | (have h2 := fm_len (loG l) v; first | omega | (have h3 := fm_len (piG l) y; omega)))
  all_goals try first
    | rw [all_1 (by assumption)]
    | rw [all_2 (i := i) (by assumption) (by omega) (by assumption)]
    | rw [all_3 (i := i) (by assumption) (by omega) (by assumption) (by assumption)]
    | rw [all_4 (i := i) (by assumption) (by omega) (by assumption) (by assumption) (by assumption)]
    | rw [all_5 (i := i) (v := v) (by assumption) (by omega) (by assumption) (by assumption) (by assumption) (by omega) (by assumption)]
    | rw [all_6 (i := i) (v := v) (y := y) (by assumption) (by omega) (by assumption) (by assumption) (by assumption) (by omega) (by assumption) (by omega)]
  all_goals try
    (have hd : degR (l.getD i (0, 0, 0)) = true := deg_t (by omega)
     rw [dg_t hd]; (try simp only [List.length_append, List.length_singleton]); done)
  all_goals try
    (have hd : degR (l.getD i (0, 0, 0)) = false := deg_f (by omega) (by omega) (by omega)
     rw [dg_f hd]; done)
  all_goals try (rw [(index_small (s := (n, l)) (by assumption)).2]; rfl)
  all_goals try (rw [List.eq_nil_of_length_eq_zero (l := prO l 4 l.length) (by omega)]; rfl)
  all_goals try (rw [List.eq_nil_of_length_eq_zero (l := loL l v) (by omega)]; rfl)
  all_goals try first
    | exact Hold.intro ⟨Nat.zero_le _, rfl⟩
    | exact Hold.intro (any_step hx (by assumption))
    | (simp only [*]; done)
    | (simp only [*]; simp; done)
  all_goals try (rw [pi_f (by assumption)]; done)
  all_goals try (rw [pi_t (by assumption)]; (try simp only [List.length_append, List.length_singleton]); done)
  all_goals
    have hu := any_end hx (by assumption)
    rw [Bool.false_or] at hu
  all_goals first
    | (rw [lo_t (hu.trans (by assumption))]; done)
    | (rw [lo_f (hu.trans (by assumption))]; (try simp only [List.length_append, List.length_singleton]); done)
def all9C : List AV → Option ResF := con1 soupE (fun s => some (none, none, .s (.own 0 0 (allR s).length), [.row witE 116 (allR s)]))
theorem all9Row : FnRowF Try.prog 68 all9C := ⟨con1_okF fun s r h => by cases h; exact fn_byF (rulesF (fn := [(95, has9C), (96, pinch9C)]) (fr := [(93, .res index9C), (94, .res pairs9C)]) ⟨has9Row, pinch9Row, trivial⟩ ⟨index9Row, pairs9Row, trivial⟩) Try.func68 (by kernel_rfl) fun _ _ => all9_vc s.1 s.2, _, Try.func68, by kernel_rfl, by kernel_rfl⟩

/-! Surface -/
def surfR (s : Int × List P3) : Bool := (allR s).length == 0
theorem surf9_vc (s : Int × List P3) : afun ⟨tyL, [], [(68, .res all9C)]⟩ Try.f34 [soupE.av s] (fun v => v = .s (.bool (surfR s))) := by
  repeat' (conv => whnf
           first | done | refine Need.intro (by first | rfl | omega | (simp only [i64ok] at *; omega)) ?_ | refine Need.intro (Hold.out ?_) ?_ | refine Give.intro fun _ => ?_ | refine Both.intro ?_ ?_ | refine BIf.and ?_ | refine BIf.or ?_ | refine BIf.eqi (fun _ => ?_) (fun _ => ?_) | refine BIf.nei (fun _ => ?_) (fun _ => ?_) | refine BIf.dec (fun _ => ?_) (fun _ => ?_) | refine BIf.nt ?_ | refine BIf.intro (fun _ => ?_) (fun _ => ?_) | refine And.intro rfl ?_ | refine And.intro (HoldEq.out ?_) ?_ | refine And.intro (HoldOb.out ?_) ?_ | exact True.intro | refine HoldEq.out ?_ | refine HoldObs.out ?_ | refine KCheck.intro (by kernel_rfl) ?_ | refine HoldOr.out ?_)
  all_goals try first | refine HoldEq.int ?_ | refine HoldEq.bool ?_ | refine HoldEq.sl ?_ | refine HoldEq.own ?_ | refine HoldEq.ownS ?_ ?_ | refine HoldOb.row ?_ | refine HoldOb.map ?_ | refine HoldOb.gmap ?_ | refine HoldOb.grow ?_ | refine HoldObs.row ?_
  all_goals try simp only [take_one, take_one', set_one, take_all, List.length_singleton, rec_self, Int.toNat_natCast, pair_eta, ETy.dflt, List.getD_cons_zero, List.getD_cons_succ, Int.reduceToNat, Int.reduceAdd, Int.reduceSub, Int.reduceNeg, Nat.reduceAdd, Nat.zero_add, surfR] at *
  rw [Bool.eq_iff_iff, beq_iff_eq, beq_iff_eq]; omega
def surf9C : List AV → Option Res := con1 soupE (fun s => some (none, none, .s (.bool (surfR s))))
theorem surf9Row : FnRow Try.prog 34 surf9C := ⟨con1_ok fun s r h => by cases h; exact fn_by (rulesF (fn := []) (fr := [(68, .res all9C)]) trivial ⟨all9Row, trivial⟩) Try.func34 (by kernel_rfl) fun _ _ => surf9_vc s, _, Try.func34, by kernel_rfl, by kernel_rfl⟩
end S9

open Go Go.Vm Go.Proofs
namespace S9
open S1
set_option maxRecDepth 100000

/-! the reference's surfaces are the certified soups -/
theorem hasR_iff {t : P3} {v : Int} : hasR t v = true ↔ hasV t v := by
  unfold hasR hasV
  simp only [Bool.or_eq_true, beq_iff_eq]
theorem edgeR_iff {t : P3} {a b : Int} : edgeR t a b = true ↔ dE t a b := by
  unfold edgeR dE
  simp only [Bool.or_eq_true, Bool.and_eq_true, beq_iff_eq]
theorem twiceR_iff {t u : P3} : twiceR t u = true ↔ ∃ a b, dE t a b ∧ dE u a b := by
  unfold twiceR
  simp only [Bool.or_eq_true, edgeR_iff]
  constructor
  · rintro (h | h | h)
    · exact ⟨_, _, .inl ⟨rfl, rfl⟩, h⟩
    · exact ⟨_, _, .inr (.inl ⟨rfl, rfl⟩), h⟩
    · exact ⟨_, _, .inr (.inr ⟨rfl, rfl⟩), h⟩
  · rintro ⟨a, b, (⟨rfl, rfl⟩ | ⟨rfl, rfl⟩ | ⟨rfl, rfl⟩), h⟩
    · exact .inl h
    · exact .inr (.inl h)
    · exact .inr (.inr h)
theorem idxL_nil {n : Int} : ∀ {l : List P3} {i : Nat}, idxL n i l = [] ↔ ∀ t ∈ l, triIn n t = true
  | [], _ => ⟨fun _ t h => (by cases h), fun _ => rfl⟩
  | t :: r, i => by
    unfold idxL
    split
    · rename_i h
      rw [idxL_nil]
      exact ⟨fun k u hu => by
        rcases List.mem_cons.1 hu with e | hu
        · rw [e]; exact h
        · exact k u hu, fun k u hu => k u (List.mem_cons_of_mem _ hu)⟩
    · rename_i h
      exact ⟨fun k => (by cases k), fun k => absurd (k t (List.mem_cons_self ..)) h⟩
theorem all_getD {l : List P3} {p : P3 → Prop} : (∀ t ∈ l, p t) ↔ ∀ i, i < l.length → p (tg l i) := by
  constructor
  · intro h i hi
    unfold tg
    rw [List.getD_eq_getElem?_getD, List.getElem?_eq_getElem hi]
    exact h _ (List.getElem_mem hi)
  · intro h t ht
    obtain ⟨i, hi, e⟩ := List.mem_iff_getElem.1 ht
    have := h i hi
    unfold tg at this
    rw [List.getD_eq_getElem?_getD, List.getElem?_eq_getElem hi] at this
    rw [← e]; exact this
theorem idx9_iff {s : Int × List P3} : indexR s = [] ↔ fitS s := by
  obtain ⟨n, l⟩ := s
  unfold indexR
  constructor
  · intro h
    cases hb : bigR (n, l) with
    | true => rw [hb] at h; cases h
    | false =>
      rw [hb] at h
      have h : idxL n 0 l = [] := h
      have := big_spec hb
      exact ⟨this.1, this.2.1, this.2.2, all_getD.1 (idxL_nil.1 h)⟩
  · intro h
    have h1 : 0 ≤ n := h.1
    have h2 : n ≤ 4096 := h.2.1
    have h3 : l.length ≤ 8192 := h.2.2.1
    have hb : bigR (n, l) = false := by
      unfold bigR
      simp only [Bool.or_eq_false_iff, decide_eq_false_iff_not]
      omega
    rw [hb]
    exact idxL_nil.2 (all_getD.2 h.2.2.2)
theorem dg9_iff {l : List P3} : dgL l l.length = [] ↔ ∀ i, i < l.length → ¬ dgn (tg l i) := by
  unfold dgL
  rw [List.filterMap_eq_nil_iff]
  constructor
  · intro h i hi e
    have := h i (List.mem_range.2 hi)
    unfold dgG at this
    rw [if_pos (deg_t e)] at this
    cases this
  · intro h i hi
    have h := h i (List.mem_range.1 hi)
    unfold dgn at h
    unfold dgG
    rw [if_neg ?_]
    rw [deg_f (fun e => h (.inl e)) (fun e => h (.inr (.inl e))) (fun e => h (.inr (.inr e)))]
    simp
theorem prO_iff {l : List P3} {k : Int} : prO l k l.length = [] ↔ ∀ i j, i < j → j < l.length → ptR k (tg l i) (tg l j) = false := by
  unfold prO prI
  rw [List.flatMap_eq_nil_iff]
  constructor
  · intro h i j hij hj
    have := List.filterMap_eq_nil_iff.1 (h j (List.mem_range.2 hj)) i (List.mem_range.2 hij)
    unfold prG at this
    split at this
    · cases this
    · rename_i e; rw [← Bool.not_eq_true]; exact e
  · intro h j hj
    refine List.filterMap_eq_nil_iff.2 fun i hi => ?_
    unfold prG
    rw [if_neg (by rw [h i j (List.mem_range.1 hi) (List.mem_range.1 hj)]; simp)]
theorem pt3 {t u : P3} : ptR 3 t u = twiceR t u := by unfold ptR; simp
theorem pt4 {t u : P3} : ptR 4 t u = (hasR u t.1 && (hasR u t.2.1 && hasR u t.2.2)) := by unfold ptR; simp
theorem lo9_iff {l : List P3} {n : Nat} : loL l n = [] ↔ ∀ v : Nat, v < n → ∃ j, j < l.length ∧ hasV (tg l j) v := by
  unfold loL
  rw [List.filterMap_eq_nil_iff]
  have key : ∀ v : Nat, l.any (hasR · v) = true ↔ ∃ j, j < l.length ∧ hasV (tg l j) v := fun v => by
    rw [List.any_eq_true]
    constructor
    · rintro ⟨t, ht, hv⟩
      obtain ⟨i, hi, e⟩ := List.mem_iff_getElem.1 ht
      refine ⟨i, hi, ?_⟩
      unfold tg
      rw [List.getD_eq_getElem?_getD, List.getElem?_eq_getElem hi]
      exact hasR_iff.1 (by rw [← e] at hv; exact hv)
    · rintro ⟨j, hj, h⟩
      unfold tg at h
      rw [List.getD_eq_getElem?_getD, List.getElem?_eq_getElem hj] at h
      exact ⟨_, List.getElem_mem hj, hasR_iff.2 h⟩
  constructor
  · intro h v hv
    have := h v (List.mem_range.2 hv)
    unfold loG at this
    split at this
    · rename_i e; exact (key v).1 e
    · cases this
  · intro h v hv
    unfold loG
    rw [if_pos ((key v).2 (h v (List.mem_range.1 hv)))]

/-! Pinched -/
theorem touch_iff {m : List P3} {v : Int} {i k : Nat} : touch m v i k = true ↔ ∃ w, w ≠ v ∧ hasV (tg m i) w ∧ hasV (tg m k) w := by
  unfold touch tch
  simp only [Bool.or_eq_true, Bool.and_eq_true, decide_eq_true_eq, hasR_iff]
  constructor
  · rintro (⟨h1, h2⟩ | ⟨h1, h2⟩ | ⟨h1, h2⟩)
    · exact ⟨_, h1, .inl rfl, h2⟩
    · exact ⟨_, h1, .inr (.inl rfl), h2⟩
    · exact ⟨_, h1, .inr (.inr rfl), h2⟩
  · rintro ⟨w, h1, (h2 | h2 | h2), h3⟩
    · subst h2; exact .inl ⟨h1, h3⟩
    · subst h2; exact .inr (.inl ⟨h1, h3⟩)
    · subst h2; exact .inr (.inr ⟨h1, h3⟩)
section
variable {m : List P3} {v : Int}
theorem set_getD {s : List Bool} {k j : Nat} : (s.set k true).getD j false = if k = j ∧ j < s.length then true else s.getD j false := by
  rw [List.getD_eq_getElem?_getD, List.getElem?_set, List.getD_eq_getElem?_getD]
  by_cases e : k = j
  · subst e
    by_cases h : k < s.length
    · simp [h]
    · simp [h]
  · simp [e]
theorem pk_len {i k : Nat} {s : List Bool} : (pk m v i s k).length = s.length := by
  unfold pk; split
  · rfl
  · split
    · rw [List.length_set]
    · rfl
theorem pk_keep {i k j : Nat} {s : List Bool} (h : s.getD j false = true) : (pk m v i s k).getD j false = true := by
  unfold pk; split
  · exact h
  · split
    · rw [set_getD]; split
      · rfl
      · exact h
    · exact h
theorem foldK_len {i : Nat} {s : List Bool} : ∀ k, (foldK m v i s k).length = s.length
  | 0 => rfl
  | k + 1 => by rw [foldK_succ, pk_len, foldK_len k]
theorem foldI_len {s : List Bool} : ∀ i, (foldI m v s i).length = s.length
  | 0 => rfl
  | i + 1 => by rw [foldI_succ, foldK_len, foldI_len i]
theorem foldR_len : ∀ r, (foldR m v r).length = m.length
  | 0 => by show ((List.replicate m.length false).set 0 true).length = _; simp
  | r + 1 => by rw [foldR_succ, foldI_len, foldR_len r]
theorem foldK_keep {i j : Nat} {s : List Bool} (h : s.getD j false = true) : ∀ k, (foldK m v i s k).getD j false = true
  | 0 => h
  | k + 1 => by rw [foldK_succ]; exact pk_keep (foldK_keep h k)
theorem foldI_keep {j : Nat} {s : List Bool} (h : s.getD j false = true) : ∀ i, (foldI m v s i).getD j false = true
  | 0 => h
  | i + 1 => by rw [foldI_succ]; exact foldK_keep (foldI_keep h i) _
theorem foldK_put {i k : Nat} {s : List Bool} (hi : s.getD i false = true) (ht : touch m v i k = true) (hk : k < s.length) : ∀ n, k < n → (foldK m v i s n).getD k false = true
  | n + 1, h => by
    rw [foldK_succ]
    by_cases e : k = n
    · subst e
      have h1 := foldK_keep (m := m) (v := v) (i := i) hi k
      cases h2 : (foldK m v i s k).getD k false with
      | true => exact pk_keep h2
      | false =>
        unfold pk
        rw [if_neg (not_or_t h1 h2), if_pos ht, set_getD, if_pos ⟨rfl, by rw [foldK_len]; exact hk⟩]
    · exact pk_keep (foldK_put hi ht hk n (by omega))
theorem foldI_put {i k : Nat} {s : List Bool} (hi : s.getD i false = true) (ht : touch m v i k = true) (hk : k < s.length) (hm : k < m.length) : ∀ n, i < n → (foldI m v s n).getD k false = true
  | n + 1, h => by
    rw [foldI_succ]
    by_cases e : i = n
    · subst e
      exact foldK_put (foldI_keep hi i) ht (by rw [foldI_len]; exact hk) _ hm
    · exact foldK_keep (foldI_put hi ht hk hm n (by omega)) _
def Clo (m : List P3) (v : Int) (s : List Bool) : Prop := ∀ i k, i < m.length → k < m.length → s.getD i false = true → touch m v i k = true → s.getD k false = true
def unset (m : List P3) (s : List Bool) : Nat := ((List.range m.length).filter fun j => !s.getD j false).length
theorem pk_clo {i k : Nat} {s : List Bool} (h : Clo m v s) (hi : i < m.length) (hk : k < m.length) : pk m v i s k = s := by
  unfold pk
  split
  · rfl
  · rename_i hn
    split
    · rename_i ht
      have h1 : s.getD i false = true := by cases e : s.getD i false with | true => rfl | false => exact absurd (.inl e) hn
      exact absurd (.inr (h i k hi hk h1 ht)) hn
    · rfl
theorem foldK_clo {i : Nat} {s : List Bool} (h : Clo m v s) (hi : i < m.length) : ∀ k, k ≤ m.length → foldK m v i s k = s
  | 0, _ => rfl
  | k + 1, hk => by rw [foldK_succ, foldK_clo h hi k (by omega), pk_clo h hi (by omega)]
theorem foldI_clo {s : List Bool} (h : Clo m v s) : ∀ i, i ≤ m.length → foldI m v s i = s
  | 0, _ => rfl
  | i + 1, hi => by rw [foldI_succ, foldI_clo h i (by omega), foldK_clo h (by omega) _ (Nat.le_refl _)]
theorem round_dec {s : List Bool} (hl : s.length = m.length) : Clo m v s ∨ unset m (foldI m v s m.length) + 1 ≤ unset m s := by
  by_cases h : Clo m v s
  · exact .inl h
  · right
    unfold Clo at h
    have : ∃ i k, i < m.length ∧ k < m.length ∧ s.getD i false = true ∧ touch m v i k = true ∧ s.getD k false = false := by
      refine Classical.byContradiction fun hn => h fun i k hi hk h1 h2 => ?_
      cases e : s.getD k false with
      | true => rfl
      | false => exact absurd ⟨i, k, hi, hk, h1, h2, e⟩ hn
    obtain ⟨i, k, hi, hk, h1, h2, h3⟩ := this
    unfold unset
    refine filt_lt (a := k) (fun j hj => ?_) (by rw [h3]; rfl) (by rw [foldI_put h1 h2 (by rw [hl]; exact hk) hk _ hi]; simp) (List.mem_range.2 hk)
    cases e : s.getD j false with
    | false => rfl
    | true => rw [foldI_keep e] at hj; exact absurd hj (by simp)
theorem rounds_clo (hm : 0 < m.length) : ∀ r, Clo m v (foldR m v r) ∨ unset m (foldR m v r) + r + 1 ≤ m.length
  | 0 => by
    right
    have h0 : ((List.replicate m.length false).set 0 true).getD 0 false = true := by rw [set_getD, if_pos ⟨rfl, by simpa using hm⟩]
    have := filt_lt (p := fun _ : Nat => true) (q := fun j => !((List.replicate m.length false).set 0 true).getD j false) (fun _ _ => rfl) (a := 0) rfl (by rw [h0]; simp) (l := List.range m.length) (List.mem_range.2 hm)
    have e : ((List.range m.length).filter fun _ : Nat => true).length = m.length := by rw [List.filter_eq_self.2 (fun _ _ => rfl), List.length_range]
    show ((List.range m.length).filter fun j => !((List.replicate m.length false).set 0 true).getD j false).length + 0 + 1 ≤ _
    rw [e] at this; omega
  | r + 1 => by
    rcases rounds_clo hm r with h | h
    · left; rw [foldR_succ, foldI_clo h _ (Nat.le_refl _)]; exact h
    · rcases round_dec (m := m) (v := v) (foldR_len (m := m) (v := v) r) with h' | h'
      · left; rw [foldR_succ, foldI_clo h' _ (Nat.le_refl _)]; exact h'
      · right; rw [foldR_succ]; omega
theorem foldR_all (hm : 0 < m.length) : Clo m v (foldR m v m.length) := by
  rcases rounds_clo (v := v) hm m.length with h | h
  · exact h
  · omega
theorem foldR_zero (hm : 0 < m.length) : ∀ r, (foldR m v r).getD 0 false = true
  | 0 => by
    show ((List.replicate m.length false).set 0 true).getD 0 false = true
    rw [set_getD, if_pos ⟨rfl, by simpa using hm⟩]
  | r + 1 => by rw [foldR_succ]; exact foldI_keep (foldR_zero hm r) _
/-- What is marked can be reached. -/
theorem pk_in {Q : Nat → Prop} (hc : ∀ i k, k < m.length → Q i → touch m v i k = true → Q k) {i k : Nat} {s : List Bool} (hl : s.length = m.length) (h : ∀ j, s.getD j false = true → Q j) : ∀ j, (pk m v i s k).getD j false = true → Q j := by
  unfold pk
  split
  · exact h
  · rename_i hn
    split
    · rename_i ht
      intro j hj
      rw [set_getD] at hj
      split at hj
      · rename_i e
        obtain ⟨rfl, e2⟩ := e
        refine hc i _ (by rw [← hl]; exact e2) (h i ?_) ht
        cases e : s.getD i false with | true => rfl | false => exact absurd (.inl e) hn
      · exact h j hj
    · exact h
theorem foldK_in {Q : Nat → Prop} (hc : ∀ i k, k < m.length → Q i → touch m v i k = true → Q k) {i : Nat} {s : List Bool} (hl : s.length = m.length) (h : ∀ j, s.getD j false = true → Q j) : ∀ k j, (foldK m v i s k).getD j false = true → Q j
  | 0 => h
  | k + 1 => by rw [foldK_succ]; exact pk_in hc (by rw [foldK_len]; exact hl) (foldK_in hc hl h k)
theorem foldI_in {Q : Nat → Prop} (hc : ∀ i k, k < m.length → Q i → touch m v i k = true → Q k) {s : List Bool} (hl : s.length = m.length) (h : ∀ j, s.getD j false = true → Q j) : ∀ i j, (foldI m v s i).getD j false = true → Q j
  | 0 => h
  | i + 1 => by rw [foldI_succ]; exact foldK_in hc (by rw [foldI_len]; exact hl) (foldI_in hc hl h i) _
theorem foldR_in {Q : Nat → Prop} (hc : ∀ i k, k < m.length → Q i → touch m v i k = true → Q k) (h : Q 0) : ∀ r j, (foldR m v r).getD j false = true → Q j
  | 0 => fun j hj => by
    have hj : ((List.replicate m.length false).set 0 true).getD j false = true := hj
    rw [set_getD] at hj
    split at hj
    · rename_i e; rw [← e.1]; exact h
    · rw [List.getD_eq_getElem?_getD, List.getElem?_replicate] at hj
      split at hj <;> cases hj
  | r + 1 => by rw [foldR_succ]; exact foldI_in hc (foldR_len r) (foldR_in hc h r) _
end
theorem ring_mem {l : List P3} {v : Int} {t : P3} : t ∈ ringL l v ↔ ∃ i, i < l.length ∧ tg l i = t ∧ hasV t v := by
  unfold ringL
  rw [List.mem_filter, hasR_iff]
  constructor
  · rintro ⟨ht, hv⟩
    obtain ⟨i, hi, e⟩ := List.mem_iff_getElem.1 ht
    exact ⟨i, hi, by unfold tg; rw [List.getD_eq_getElem?_getD, List.getElem?_eq_getElem hi]; exact e, hv⟩
  · rintro ⟨i, hi, e, hv⟩
    unfold tg at e
    rw [List.getD_eq_getElem?_getD, List.getElem?_eq_getElem hi] at e
    have e : l[i] = t := e
    exact ⟨by rw [← e]; exact List.getElem_mem hi, hv⟩
theorem tg_mem {m : List P3} {j : Nat} (h : j < m.length) : tg m j ∈ m := by
  unfold tg; rw [List.getD_eq_getElem?_getD, List.getElem?_eq_getElem h]; exact List.getElem_mem h
theorem mem_tg {m : List P3} {t : P3} (h : t ∈ m) : ∃ j, j < m.length ∧ tg m j = t := by
  obtain ⟨i, hi, e⟩ := List.mem_iff_getElem.1 h
  exact ⟨i, hi, by unfold tg; rw [List.getD_eq_getElem?_getD, List.getElem?_eq_getElem hi]; exact e⟩
/-- A triangle at a vertex has another one. -/
theorem other {t : P3} {v : Int} (hd : ¬ dgn t) : ∃ w, w ≠ v ∧ hasV t w := by
  unfold dgn at hd
  by_cases h : t.1 = v
  · exact ⟨t.2.1, by omega, .inr (.inl rfl)⟩
  · exact ⟨t.1, h, .inl rfl⟩
theorem pinch_iff {l : List P3} {v : Int} (hd : ∀ i, i < l.length → ¬ dgn (tg l i)) : pinchR l v = false ↔ PinP l v := by
  unfold pinchR
  rw [Bool.not_eq_false', List.all_eq_true]
  constructor
  · intro h Q hQ a ha hva hQa i hi hvi
    have hpos : 0 < (ringL l v).length := List.length_pos_of_mem (ring_mem.2 ⟨a, ha, rfl, hva⟩)
    have key : ∀ R : Nat → Prop, (∀ i j : Nat, i < l.length → j < l.length → hasV (tg l i) v → hasV (tg l j) v → (∃ w : Int, w ≠ v ∧ hasV (tg l i) w ∧ hasV (tg l j) w) → R i → R j) →
        (∃ z, z < l.length ∧ tg l z = tg (ringL l v) 0 ∧ hasV (tg l z) v ∧ R z) → ∀ i, i < l.length → hasV (tg l i) v → R i := fun R hR ⟨z, hz, ez, hzv, hRz⟩ i hi hvi => by
      have hin := foldR_in (m := ringL l v) (v := v) (Q := fun j => j < (ringL l v).length ∧ ∀ i, i < l.length → tg l i = tg (ringL l v) j → hasV (tg l i) v → R i) (fun j k hk hj ht => ⟨hk, fun i hi ei hvi => by
        obtain ⟨w, hw, h1, h2⟩ := touch_iff.1 ht
        obtain ⟨i', hi', ei', hvi'⟩ := ring_mem.1 (tg_mem hj.1)
        exact hR i' i hi' hi (by rw [ei']; exact hvi') hvi ⟨w, hw, by rw [ei']; exact h1, by rw [ei]; exact h2⟩ (hj.2 i' hi' ei' (by rw [ei']; exact hvi'))⟩)
        ⟨hpos, fun i hi ei hvi => by
          obtain ⟨w, hw, h1⟩ := other (v := v) (hd z hz)
          exact hR z i hz hi hzv hvi ⟨w, hw, h1, by rw [ei, ← ez]; exact h1⟩ hRz⟩ (ringL l v).length
      obtain ⟨j, hj, ej⟩ := mem_tg (ring_mem.2 ⟨i, hi, rfl, hvi⟩)
      exact (hin j (h j (List.mem_range.2 hj))).2 i hi ej.symm hvi
    obtain ⟨z, hz, ez, hzv⟩ := ring_mem.1 (tg_mem hpos)
    by_cases hq : Q z
    · exact key Q hQ ⟨z, hz, ez, by rw [ez]; exact hzv, hq⟩ i hi hvi
    · exact absurd hQa (key (fun i => ¬ Q i) (fun i j hi hj h1 h2 ⟨w, h3, h4, h5⟩ hn hq => hn (hQ j i hj hi h2 h1 ⟨w, h3, h5, h4⟩ hq)) ⟨z, hz, ez, by rw [ez]; exact hzv, hq⟩ a ha hva)
  · intro h j hj
    have hj := List.mem_range.1 hj
    have hpos : 0 < (ringL l v).length := by omega
    have hc := foldR_all (m := ringL l v) (v := v) hpos
    have hz := foldR_zero (m := ringL l v) (v := v) hpos (ringL l v).length
    obtain ⟨z, hz1, hz2, hz3⟩ := ring_mem.1 (tg_mem hpos)
    obtain ⟨i, hi1, hi2, hi3⟩ := ring_mem.1 (tg_mem hj)
    have := h (fun i => ∃ j, j < (ringL l v).length ∧ tg (ringL l v) j = tg l i ∧ (foldR (ringL l v) v (ringL l v).length).getD j false = true) (fun a b ha hb hva hvb ⟨w, hw, h1, h2⟩ ⟨j, hj, e, hs⟩ => by
      obtain ⟨k, hk, ek⟩ := mem_tg (ring_mem.2 ⟨b, hb, rfl, hvb⟩)
      exact ⟨k, hk, ek, hc j k hj hk hs (touch_iff.2 ⟨w, hw, by rw [e]; exact h1, by rw [ek]; exact h2⟩)⟩) z hz1 (by rw [hz2]; exact hz3) ⟨0, hpos, hz2.symm, hz⟩ i hi1 (by rw [hi2]; exact hi3)
    obtain ⟨k, hk, ek, hs⟩ := this
    obtain ⟨w, hw, h1⟩ := other (v := v) (hd i hi1)
    exact hc k j hk hj hs (touch_iff.2 ⟨w, hw, by rw [ek]; exact h1, by rw [← hi2]; exact h1⟩)
theorem pi9_iff {l : List P3} {n : Nat} (hd : ∀ i, i < l.length → ¬ dgn (tg l i)) : piL l n = [] ↔ ∀ v : Nat, v < n → PinP l v := by
  unfold piL
  rw [List.filterMap_eq_nil_iff]
  constructor
  · intro h v hv
    have := h v (List.mem_range.2 hv)
    unfold piG at this
    split at this
    · cases this
    · rename_i e
      exact (pinch_iff hd).1 (by rw [← Bool.not_eq_true]; exact e)
  · intro h v hv
    unfold piG
    rw [if_neg (by rw [(pinch_iff hd).2 (h v (List.mem_range.1 hv))]; simp)]
theorem all9_iff (s : Int × List P3) : allR s = [] ↔ (indexR s = [] ∧ dgL s.2 s.2.length = [] ∧ prO s.2 3 s.2.length = [] ∧ prO s.2 4 s.2.length = [] ∧ loL s.2 s.1.toNat = [] ∧ piL s.2 s.1.toNat = []) := by
  unfold allR
  constructor
  · intro h
    repeat' split at h
    all_goals first
      | (rename_i hh; rw [h] at hh; exact absurd hh (by decide))
      | skip
    rename_i h1 h2 h3 h4 h5
    exact ⟨List.length_eq_zero_iff.1 (by omega), List.length_eq_zero_iff.1 (by omega), List.length_eq_zero_iff.1 (by omega), List.length_eq_zero_iff.1 (by omega), List.length_eq_zero_iff.1 (by omega), h⟩
  · rintro ⟨h1, h2, h3, h4, h5, h6⟩
    simp [h1, h2, h3, h4, h5, h6]
/-- THE REFERENCE's surfaces. -/
theorem surf9_iff (s : Int × List P3) : surfR s = true ↔ Surf s := by
  unfold surfR
  rw [beq_iff_eq, List.length_eq_zero_iff, all9_iff, idx9_iff, dg9_iff, prO_iff, prO_iff, lo9_iff]
  constructor
  · rintro ⟨hf, hd, h3, h4, hu, hp⟩
    have h0 : 0 ≤ s.1 := hf.1
    refine ⟨hf, hd, fun i j hij hj a b h1 h2 => ?_, fun i j hij hj h => ?_, fun v hv => hu v (by omega), fun v hv => (pi9_iff hd).1 hp v (by omega)⟩
    · have := h3 i j hij hj
      rw [pt3] at this
      rw [twiceR_iff.2 ⟨a, b, h1, h2⟩] at this; cases this
    · have := h4 i j hij hj
      rw [pt4, hasR_iff.2 h.1, hasR_iff.2 h.2.1, hasR_iff.2 h.2.2] at this; cases this
  · intro h
    have h0 : 0 ≤ s.1 := h.fit.1
    refine ⟨h.fit, h.deg, fun i j hij hj => ?_, fun i j hij hj => ?_, fun v hv => h.use v (by omega), (pi9_iff h.deg).2 fun v hv => h.pin v (by omega)⟩
    · rw [pt3, ← Bool.not_eq_true]
      intro e
      obtain ⟨a, b, h1, h2⟩ := twiceR_iff.1 e
      exact h.dif i j hij hj a b h1 h2
    · rw [pt4, ← Bool.not_eq_true]
      intro e
      simp only [Bool.and_eq_true, hasR_iff] at e
      exact h.mir i j hij hj e
theorem chk_surf (s : Int × List P3) : (chkR s).1 = 0 ↔ surfR s = true := by rw [surf_iff, surf9_iff]
end S9

open Go Go.Vm Go.Proofs
open S9 (surf9C surf9Row surfR surf9_iff chk_surf)
namespace S1
set_option maxRecDepth 100000

/-! the laws of star: what they share -/
def sameR (a b : Int × List P3) : Bool := decide (a = b)
theorem same_vc (a b : Int) (l m : List P3) : afun ⟨tyL, [(70, equalC)], []⟩ Try.f36 [soupE.av (a, l), soupE.av (b, m)] (fun r => r = .s (.bool (sameR (a, l) (b, m)))) := by
  repeat' (conv => whnf
           first | done | refine Need.intro (by first | rfl | omega | (simp only [i64ok] at *; omega)) ?_ | refine Need.intro (Hold.out ?_) ?_ | refine Give.intro fun _ => ?_ | refine Both.intro ?_ ?_ | refine BIf.and ?_ | refine BIf.or ?_ | refine BIf.eqi (fun _ => ?_) (fun _ => ?_) | refine BIf.nei (fun _ => ?_) (fun _ => ?_) | refine BIf.dec (fun _ => ?_) (fun _ => ?_) | refine BIf.nt ?_ | refine BIf.intro (fun _ => ?_) (fun _ => ?_) | refine And.intro rfl ?_ | refine And.intro (HoldEq.out ?_) ?_ | refine And.intro (HoldOb.out ?_) ?_ | exact True.intro | refine HoldEq.out ?_ | refine HoldObs.out ?_ | refine KCheck.intro (by kernel_rfl) ?_ | refine HoldOr.out ?_)
  all_goals try first | refine HoldEq.int ?_ | refine HoldEq.bool ?_ | refine HoldEq.sl ?_ | refine HoldEq.own ?_ | refine HoldEq.ownS ?_ ?_ | refine HoldOb.row ?_ | refine HoldOb.map ?_ | refine HoldOb.gmap ?_ | refine HoldOb.grow ?_ | refine HoldObs.row ?_
  all_goals try simp only [take_one, take_one', set_one, take_all, List.length_singleton, rec_self, Int.toNat_natCast, pair_eta, ETy.dflt, List.getD_cons_zero, List.getD_cons_succ, Int.reduceToNat, Int.reduceAdd, Int.reduceSub, Int.reduceNeg, Nat.reduceAdd, Nat.zero_add, sameR, eqR] at *
  · rename_i h; subst h
    rw [decide_eq_decide]
    exact ⟨fun e => by rw [e], fun e => congrArg Prod.snd e⟩
  · rename_i h; symm; rw [decide_eq_false_iff_not]; exact fun e => h (congrArg Prod.fst e)
def sameC : List AV → Option Res := con2 soupE soupE (fun a b => some (none, none, .s (.bool (sameR a b))))
theorem sameRow : FnRow Try.prog 36 sameC := ⟨con2_ok fun a b r h => by cases h; exact fn_by (rulesF (fn := [(70, equalC)]) (fr := []) ⟨equalRow, trivial⟩ trivial) Try.func36 (by kernel_rfl) fun _ _ => same_vc a.1 b.1 a.2 b.2, _, Try.func36, by kernel_rfl, by kernel_rfl⟩
def great17R (s : Int × List P3) : Bool := decide (s.2.length > 40 ∨ s.1 > 120)
theorem great17_vc {fn} (n : Int) (l : List P3) : afun ⟨tyL, fn, []⟩ Try.f32 [soupE.av (n, l)] (fun r => r = .s (.bool (great17R (n, l)))) := by
  repeat' (conv => whnf
           first | done | refine Need.intro (by first | rfl | omega | (simp only [i64ok] at *; omega)) ?_ | refine Need.intro (Hold.out ?_) ?_ | refine Give.intro fun _ => ?_ | refine Both.intro ?_ ?_ | refine BIf.and ?_ | refine BIf.or ?_ | refine BIf.eqi (fun _ => ?_) (fun _ => ?_) | refine BIf.nei (fun _ => ?_) (fun _ => ?_) | refine BIf.dec (fun _ => ?_) (fun _ => ?_) | refine BIf.nt ?_ | refine BIf.intro (fun _ => ?_) (fun _ => ?_) | refine And.intro rfl ?_ | refine And.intro (HoldEq.out ?_) ?_ | refine And.intro (HoldOb.out ?_) ?_ | exact True.intro | refine HoldEq.out ?_ | refine HoldObs.out ?_ | refine KCheck.intro (by kernel_rfl) ?_ | refine HoldOr.out ?_)
  all_goals try first | refine HoldEq.int ?_ | refine HoldEq.bool ?_ | refine HoldEq.sl ?_ | refine HoldEq.own ?_ | refine HoldEq.ownS ?_ ?_ | refine HoldOb.row ?_ | refine HoldOb.map ?_ | refine HoldOb.gmap ?_ | refine HoldOb.grow ?_ | refine HoldObs.row ?_
  all_goals try simp only [take_one, take_one', set_one, take_all, List.length_singleton, rec_self, Int.toNat_natCast, pair_eta, ETy.dflt, List.getD_cons_zero, List.getD_cons_succ, Int.reduceToNat, Int.reduceAdd, Int.reduceSub, Int.reduceNeg, Nat.reduceAdd, Nat.zero_add, great17R] at *
  · symm; rw [decide_eq_true_eq]; exact .inl (by omega)
  · rw [decide_eq_decide]; exact ⟨.inr, fun e => e.resolve_left (by omega)⟩
def great17C : List AV → Option Res := con1 soupE (fun s => some (none, none, .s (.bool (great17R s))))
theorem great17Row : FnRow Try.prog 32 great17C := ⟨con1_ok fun s r h => by cases h; exact fn_by (rulesF (fn := []) (fr := []) trivial trivial) Try.func32 (by kernel_rfl) fun _ _ => great17_vc s.1 s.2, _, Try.func32, by kernel_rfl, by kernel_rfl⟩
def intsR (a b : List Int) : Bool := decide (a = b)
def loopIs (a b : List Int) : Spec Nat where
  inv x := x ≤ a.length ∧ ∀ i, i < x → a.getD i 0 = b.getD i 0
  live x := [(13, .s (.int .i64 x))]
  keep := [0, 1, 12]
  heap _ := []
  keepH := []
  mu x := a.length - x
theorem ints_vc {fn} (a b : List Int) : afun ⟨tyL, fn, []⟩ Try.f39 [(ETy.sl i64E).av a, (ETy.sl i64E).av b] (fun v => v = .s (.bool (intsR a b))) := by
  repeat' (conv => whnf
           first | done | refine Need.intro (by first | rfl | omega | (simp only [i64ok] at *; omega)) ?_ | refine Need.intro (Hold.out ?_) ?_ | refine Give.intro fun _ => ?_ | refine Both.intro ?_ ?_ | refine BIf.and ?_ | refine BIf.or ?_ | refine BIf.eqi (fun _ => ?_) (fun _ => ?_) | refine BIf.nei (fun _ => ?_) (fun _ => ?_) | refine BIf.dec (fun _ => ?_) (fun _ => ?_) | refine BIf.nt ?_ | refine BIf.intro (fun _ => ?_) (fun _ => ?_) | ((first | (with_reducible show Or (∃ n, rounds (acode _ (Code.seq (Code.region 4 _ _) _)) _ n _) _) | (with_reducible show Or (∃ n, rounds (acode _ (Code.seq (Code.seq (Code.region 4 _ _) _) _)) _ n _) _) | (with_reducible show Or (∃ n, rounds (acode _ (Code.seq (Code.seq (Code.seq (Code.region 4 _ _) _) _) _)) _ n _) _) | (with_reducible show Or (∃ n, rounds (acode _ (Code.seq (Code.seq (Code.seq (Code.seq (Code.region 4 _ _) _) _) _) _)) _ n _) _) | (with_reducible show Or (∃ n, rounds (acode _ (Code.block _ (Code.seq (Code.region 4 _ _) _))) _ n _) _) | (with_reducible show Or (∃ n, rounds (acode _ (Code.block _ (Code.seq (Code.seq (Code.region 4 _ _) _) _))) _ n _) _) | (with_reducible show Or (∃ n, rounds (acode _ (Code.block _ (Code.seq (Code.seq (Code.seq (Code.region 4 _ _) _) _) _))) _ n _) _) | (with_reducible show Or (∃ n, rounds (acode _ (Code.block _ (Code.seq (Code.seq (Code.seq (Code.seq (Code.region 4 _ _) _) _) _) _))) _ n _) _)); refine Or.inr (Exists.intro (Nat) (Exists.intro (loopIs a b) (And.intro (Exists.intro (0) (And.intro (Hold.out ?_) (And.intro ?_ (And.intro ?_ rfl)))) (fun x hx => ?_))))) | ((with_reducible show (∃ y, And (Spec.inv (loopIs _ _) y) _)); refine Exists.intro (x + 1) (And.intro (Hold.out ?_) (And.intro (And.intro ?_ (And.intro ?_ rfl)) (Hold.out ?_)))) | refine And.intro rfl ?_ | refine And.intro (HoldEq.out ?_) ?_ | refine And.intro (HoldOb.out ?_) ?_ | exact True.intro | refine HoldEq.out ?_ | refine HoldObs.out ?_ | refine KCheck.intro (by kernel_rfl) ?_ | refine HoldOr.out ?_)
  all_goals try first | refine HoldEq.int ?_ | refine HoldEq.bool ?_ | refine HoldEq.sl ?_ | refine HoldEq.own ?_ | refine HoldEq.ownS ?_ ?_ | refine HoldOb.row ?_ | refine HoldOb.map ?_ | refine HoldOb.gmap ?_ | refine HoldOb.grow ?_ | refine HoldObs.row ?_
  all_goals try simp only [take_one, take_one', set_one, take_all, List.length_singleton, rec_self, Int.toNat_natCast, pair_eta, ETy.dflt, List.getD_cons_zero, List.getD_cons_succ, Int.reduceToNat, Int.reduceAdd, Int.reduceSub, Int.reduceNeg, Nat.reduceAdd, Nat.zero_add, loopIs, intsR] at *
  · symm; rw [decide_eq_false_iff_not]; intro e; subst e; exact absurd rfl (by assumption)
  · exact Hold.intro ⟨Nat.zero_le _, fun i hi => by omega⟩
  · symm; rw [decide_eq_false_iff_not]; intro e; subst e; exact absurd rfl (by assumption)
  · refine Hold.intro ⟨by omega, fun i hi => ?_⟩
    by_cases e : i = x
    · subst e; assumption
    · exact hx.2 i (by omega)
  · refine Hold.intro ?_; omega
  · symm; rw [decide_eq_true_eq]
    apply List.ext_getElem
    · omega
    · intro i h1 h2
      have := hx.2 i (by omega)
      rw [List.getD_eq_getElem?_getD, List.getD_eq_getElem?_getD, List.getElem?_eq_getElem h1, List.getElem?_eq_getElem h2] at this
      exact this
def intsC : List AV → Option Res := con2 (.sl i64E) (.sl i64E) (fun a b => some (none, none, .s (.bool (intsR a b))))
theorem intsRow : FnRow Try.prog 39 intsC := ⟨con2_ok fun a b r h => by cases h; exact fn_by (rulesF (fn := []) (fr := []) trivial trivial) Try.func39 (by kernel_rfl) fun _ _ => ints_vc a b, _, Try.func39, by kernel_rfl, by kernel_rfl⟩
/-! awake -/
abbrev aw17 : Int × List P3 := (3, [(0, 1, 2)])
abbrev aw18 : Int × List P3 := (4, [(0, 1, 2), (0, 2, 3), (2, 1, 3), (1, 0, 3)])
theorem aw17_ok : (chkR' aw17).1 = 0 := by decide +kernel
theorem aw18_ok : (chkR' aw18).1 = 0 := by decide +kernel
theorem aw17_fil : fillR (newT aw17) = (aw18, [3], 0) := by decide +kernel
theorem aw17_fill : fillO aw17 = (aw18, [3], 0) := by
  unfold fillO
  rw [newO_ok aw17_ok]
  exact aw17_fil
theorem aw18_ck : checkR (newT aw18) [3] = 0 := by decide +kernel
theorem aw18_op : openS aw18 [3] = aw17 := by decide +kernel
theorem aw18_old : oldL [3] 4 = [0, 1, 2] := by decide +kernel
theorem aw17_open : openO aw18 [3] = (aw17, [0, 1, 2], 0) := by
  unfold openO
  rw [newO_ok aw18_ok]
  show openR (newT aw18) [3] = _
  have e : (newT aw18).1 = aw18 := rfl
  unfold openR
  rw [if_neg (fun k => k aw18_ck), e, aw18_op, if_pos (by rw [chkR_eq]; exact aw17_ok)]
  exact congrArg (fun z => (aw17, z, (0 : Int))) aw18_old
/-! what is known of Fill's and Open's answers -/
abbrev FoR := (Int × List P3) × List Int × Int
def filKC (r : FoR) : List AV → Option Res := con1 soupE (fun s => some (none, some (fillO s = r), openV r))
theorem filKRow (r : FoR) : FnRow Try.prog 33 (filKC r) := ⟨con1_ok fun s r' h => by
  cases h
  intro σ vals w hag hv
  refine ⟨trivial, fun hq => ?_⟩
  have hq : fillO s = r := hq
  have := (filRow.1 _ _ (rfl : filC [soupE.av s] = _) σ vals w hag hv).2 trivial
  rw [hq] at this
  exact this, _, Try.func33, by kernel_rfl, by kernel_rfl⟩
def opnKC (r : FoR) : List AV → Option Res := con2 soupE (.sl i64E) (fun s ap => some (none, some (openO s ap = r), openV r))
theorem opnKRow (r : FoR) : FnRow Try.prog 37 (opnKC r) := ⟨con2_ok fun s ap r' h => by
  cases h
  intro σ vals w hag hv
  refine ⟨trivial, fun hq => ?_⟩
  have hq : openO s ap = r := hq
  have := (opnRow.1 _ _ (rfl : opnC [soupE.av s, (ETy.sl i64E).av ap] = _) σ vals w hag hv).2 trivial
  rw [hq] at this
  exact this, _, Try.func37, by kernel_rfl, by kernel_rfl⟩
def opnFC (F : Int × List P3 → List Int → FoR) : List AV → Option Res := con2 soupE (.sl i64E) (fun s ap => some (none, some (F = openO), openV (F s ap)))
theorem opnFRow (F : Int × List P3 → List Int → FoR) : FnRow Try.prog 37 (opnFC F) := ⟨con2_ok fun s ap r' h => by
  cases h
  intro σ vals w hag hv
  refine ⟨trivial, fun hq => ?_⟩
  have hq : F = openO := hq
  subst hq
  exact (opnRow.1 _ _ (rfl : opnC [soupE.av s, (ETy.sl i64E).av ap] = _) σ vals w hag hv).2 trivial, _, Try.func37, by kernel_rfl, by kernel_rfl⟩
def filFC (F : Int × List P3 → FoR) : List AV → Option Res := con1 soupE (fun s => some (none, some (F = fillO), openV (F s)))
theorem filFRow (F : Int × List P3 → FoR) : FnRow Try.prog 33 (filFC F) := ⟨con1_ok fun s r' h => by
  cases h
  intro σ vals w hag hv
  refine ⟨trivial, fun hq => ?_⟩
  have hq : F = fillO := hq
  subst hq
  exact (filRow.1 _ _ (rfl : filC [soupE.av s] = _) σ vals w hag hv).2 trivial, _, Try.func33, by kernel_rfl, by kernel_rfl⟩
abbrev aw17r : FoR := (aw18, [3], 0)
abbrev aw18r : FoR := (aw17, [0, 1, 2], 0)
theorem awake17_vc : afun ⟨tyL, [(33, filKC aw17r), (37, opnKC aw18r), (36, sameC)], []⟩ Try.f31 [] (fun r => r = .s (.bool true)) := by
  repeat' (conv => whnf
           first | done | refine Need.intro (by first | rfl | omega | (simp only [i64ok] at *; omega)) ?_ | refine Need.intro (Hold.out ?_) ?_ | refine Give.intro fun _ => ?_ | refine Both.intro ?_ ?_ | refine BIf.and ?_ | refine BIf.or ?_ | refine BIf.eqi (fun _ => ?_) (fun _ => ?_) | refine BIf.nei (fun _ => ?_) (fun _ => ?_) | refine BIf.dec (fun _ => ?_) (fun _ => ?_) | refine BIf.nt ?_ | refine BIf.intro (fun _ => ?_) (fun _ => ?_) | refine And.intro rfl ?_ | refine And.intro (HoldEq.out ?_) ?_ | refine And.intro (HoldOb.out ?_) ?_ | exact True.intro | refine HoldEq.out ?_ | refine HoldObs.out ?_ | refine KCheck.intro (by kernel_rfl) ?_ | refine HoldOr.out ?_)
  all_goals try first | refine HoldEq.int ?_ | refine HoldEq.bool ?_ | refine HoldEq.sl ?_ | refine HoldEq.own ?_ | refine HoldEq.ownS ?_ ?_ | refine HoldOb.row ?_ | refine HoldOb.map ?_ | refine HoldOb.gmap ?_ | refine HoldOb.grow ?_ | refine HoldObs.row ?_
  all_goals try simp only [take_one, take_one', set_one, take_all, List.length_singleton, rec_self, Int.toNat_natCast, pair_eta, ETy.dflt, List.getD_cons_zero, List.getD_cons_succ, Int.reduceToNat, Int.reduceAdd, Int.reduceSub, Int.reduceNeg, Nat.reduceAdd, Nat.zero_add] at *
  · exact Hold.intro aw17_fill
  · exact Hold.intro aw17_open
  · refine Hold.intro ?_; omega
  · rfl
def awake17C : List AV → Option Res := fun l => match l with
  | [] => some (none, none, .s (.bool true))
  | _ => none
theorem awake17Row : FnRow Try.prog 31 awake17C := ⟨fun args r h => by
  cases args with
  | nil => cases h; exact fn_by (rulesF (fn := [(33, filKC aw17r), (37, opnKC aw18r), (36, sameC)]) (fr := []) ⟨(filKRow aw17r), (opnKRow aw18r), sameRow, trivial⟩ trivial) Try.func31 (by kernel_rfl) fun _ _ => awake17_vc
  | cons a l => (cases h), _, Try.func31, by kernel_rfl, by kernel_rfl⟩
end S1

open Go Go.Vm Go.Proofs
open S9 (surf9C surf9Row surfR surf9_iff chk_surf)
namespace S1
set_option maxRecDepth 100000

/-! gypsumref13.Facing, gypsumref17.After -/
def fac1 (t : P3) (a b : Int) : Option Nat := if t.2.1 = a ∧ t.2.2 = b then some 0 else if t.2.2 = a ∧ t.1 = b then some 1 else if t.1 = a ∧ t.2.1 = b then some 2 else none
def fac13 (l : List P3) (a b : Int) : Nat → Nat → Int
  | 0, _ => -1
  | m + 1, i => match fac1 (l.getD i (0, 0, 0)) a b with
    | some k => 3 * (i : Int) + (k : Nat)
    | none => fac13 l a b m (i + 1)
def fac13R (l : List P3) (a b : Int) : Int := fac13 l a b l.length 0
def loop13 (l : List P3) (a b : Int) : Spec Nat where
  inv i := i ≤ l.length ∧ fac13R l a b = fac13 l a b (l.length - i) i
  live i := [(7, .s (.int .i64 i))]
  keep := [1, 2, 3]
  heap _ := []
  keepH := [0]
  mu i := l.length - i
theorem fac13_step {l : List P3} {a b : Int} {i : Nat} (h : i < l.length) : fac13 l a b (l.length - i) i = match fac1 (l.getD i (0, 0, 0)) a b with
    | some k => 3 * (i : Int) + (k : Nat)
    | none => fac13 l a b (l.length - (i + 1)) (i + 1) := by
  rw [show l.length - i = (l.length - (i + 1)) + 1 by omega]; rfl
set_option maxHeartbeats 1000000 in
theorem fac13_vc {fn} (n : Int) (l : List P3) (a b : Int) (hl : l.length ≤ 8192) : afun ⟨tyL, fn, []⟩ Try.f97 [soupE.av (n, l), i64E.av a, i64E.av b] (fun r => r = .s (.int .i64 (fac13R l a b))) := by
  repeat' (conv => whnf
           first | done | refine Need.intro (by first | rfl | omega | (simp only [i64ok] at *; omega)) ?_ | refine Need.intro (Hold.out ?_) ?_ | refine Give.intro fun _ => ?_ | refine Both.intro ?_ ?_ | refine BIf.and ?_ | refine BIf.or ?_ | refine BIf.eqi (fun _ => ?_) (fun _ => ?_) | refine BIf.nei (fun _ => ?_) (fun _ => ?_) | refine BIf.dec (fun _ => ?_) (fun _ => ?_) | refine BIf.nt ?_ | refine BIf.intro (fun _ => ?_) (fun _ => ?_) | ((first | (with_reducible show Or (∃ n, rounds (acode _ (Code.seq (Code.region 2 _ _) _)) _ n _) _) | (with_reducible show Or (∃ n, rounds (acode _ (Code.seq (Code.seq (Code.region 2 _ _) _) _)) _ n _) _) | (with_reducible show Or (∃ n, rounds (acode _ (Code.seq (Code.seq (Code.seq (Code.region 2 _ _) _) _) _)) _ n _) _) | (with_reducible show Or (∃ n, rounds (acode _ (Code.seq (Code.seq (Code.seq (Code.seq (Code.region 2 _ _) _) _) _) _)) _ n _) _) | (with_reducible show Or (∃ n, rounds (acode _ (Code.block _ (Code.seq (Code.region 2 _ _) _))) _ n _) _) | (with_reducible show Or (∃ n, rounds (acode _ (Code.block _ (Code.seq (Code.seq (Code.region 2 _ _) _) _))) _ n _) _) | (with_reducible show Or (∃ n, rounds (acode _ (Code.block _ (Code.seq (Code.seq (Code.seq (Code.region 2 _ _) _) _) _))) _ n _) _) | (with_reducible show Or (∃ n, rounds (acode _ (Code.block _ (Code.seq (Code.seq (Code.seq (Code.seq (Code.region 2 _ _) _) _) _) _))) _ n _) _)); refine Or.inr (Exists.intro (Nat) (Exists.intro (loop13 l a b) (And.intro (Exists.intro (0) (And.intro (Hold.out ?_) (And.intro ?_ (And.intro ?_ rfl)))) (fun i hi => ?_))))) | ((with_reducible show (∃ y, And (Spec.inv (loop13 _ _ _) y) _)); refine Exists.intro (i + 1) (And.intro (Hold.out ?_) (And.intro (And.intro ?_ (And.intro ?_ rfl)) (Hold.out ?_)))) | ((first | (with_reducible show Or (∃ n, rounds (acode _ (Code.seq (Code.region 5 _ _) _)) _ n _) _) | (with_reducible show Or (∃ n, rounds (acode _ (Code.seq (Code.seq (Code.region 5 _ _) _) _)) _ n _) _) | (with_reducible show Or (∃ n, rounds (acode _ (Code.seq (Code.seq (Code.seq (Code.region 5 _ _) _) _) _)) _ n _) _) | (with_reducible show Or (∃ n, rounds (acode _ (Code.seq (Code.seq (Code.seq (Code.seq (Code.region 5 _ _) _) _) _) _)) _ n _) _) | (with_reducible show Or (∃ n, rounds (acode _ (Code.block _ (Code.seq (Code.region 5 _ _) _))) _ n _) _) | (with_reducible show Or (∃ n, rounds (acode _ (Code.block _ (Code.seq (Code.seq (Code.region 5 _ _) _) _))) _ n _) _) | (with_reducible show Or (∃ n, rounds (acode _ (Code.block _ (Code.seq (Code.seq (Code.seq (Code.region 5 _ _) _) _) _))) _ n _) _) | (with_reducible show Or (∃ n, rounds (acode _ (Code.block _ (Code.seq (Code.seq (Code.seq (Code.seq (Code.region 5 _ _) _) _) _) _))) _ n _) _)); refine Or.inl (Exists.intro (4) ?_)) | refine And.intro rfl ?_ | refine And.intro (HoldEq.out ?_) ?_ | refine And.intro (HoldOb.out ?_) ?_ | exact True.intro | refine HoldEq.out ?_ | refine HoldObs.out ?_ | refine KCheck.intro (by kernel_rfl) ?_ | refine HoldOr.out ?_)
  all_goals try first | refine HoldEq.int ?_ | refine HoldEq.bool ?_ | refine HoldEq.sl ?_ | refine HoldEq.own ?_ | refine HoldEq.ownS ?_ ?_ | refine HoldOb.row ?_ | refine HoldOb.map ?_ | refine HoldOb.gmap ?_ | refine HoldOb.grow ?_ | refine HoldObs.row ?_
  all_goals try simp only [take_one, take_one', set_one, take_all, List.length_singleton, rec_self, Int.toNat_natCast, pair_eta, ETy.dflt, List.getD_cons_zero, List.getD_cons_succ, Int.reduceToNat, Int.reduceAdd, Int.reduceSub, Int.reduceNeg, Nat.reduceAdd, Nat.zero_add, loop13] at *
  all_goals try simp only [show Int.tmod 1 3 = 1 from rfl, show Int.tmod 2 3 = 2 from rfl, show Int.tmod 3 3 = 0 from rfl, show Int.tmod 4 3 = 1 from rfl, Int.reduceToNat, List.getD_cons_succ, List.getD_cons_zero] at *
  all_goals try (refine Hold.intro ?_; omega)
  · exact Hold.intro ⟨Nat.zero_le _, rfl⟩
  all_goals try (have e := hi.2; rw [fac13_step (by omega)] at e)
  all_goals try first
    | (have hk : fac1 (l.getD i (0, 0, 0)) a b = some 0 := by (unfold fac1; (repeat' split) <;> first | rfl | (exfalso; omega))
       rw [hk] at e; exact e.symm)
    | (have hk : fac1 (l.getD i (0, 0, 0)) a b = some 1 := by (unfold fac1; (repeat' split) <;> first | rfl | (exfalso; omega))
       rw [hk] at e; exact e.symm)
    | (have hk : fac1 (l.getD i (0, 0, 0)) a b = some 2 := by (unfold fac1; (repeat' split) <;> first | rfl | (exfalso; omega))
       rw [hk] at e; exact e.symm)
    | (have hk : fac1 (l.getD i (0, 0, 0)) a b = none := by (unfold fac1; (repeat' split) <;> first | rfl | (exfalso; omega))
       rw [hk] at e; exact Hold.intro ⟨by omega, e⟩)
  rw [hi.2, show l.length - i = 0 by omega]; rfl
def fac13C : List AV → Option Res := con3 soupE i64E i64E (fun s a b => some (none, some (s.2.length ≤ 8192), .s (.int .i64 (fac13R s.2 a b))))
theorem fac13Row : FnRow Try.prog 97 fac13C := ⟨con3_ok fun s a b r h => by cases h; exact fn_by (rulesF (fn := []) (fr := []) trivial trivial) Try.func97 (by kernel_rfl) fun _ h => fac13_vc s.1 s.2 a b h, _, Try.func97, by kernel_rfl, by kernel_rfl⟩

theorem fac1_none {t : P3} {a b : Int} : fac1 t a b = none ↔ ¬ dE t a b := by
  unfold fac1 dE
  constructor
  · intro h
    split at h
    · cases h
    · split at h
      · cases h
      · split at h
        · cases h
        · omega
  · intro h
    rw [if_neg (by omega), if_neg (by omega), if_neg (by omega)]
theorem fac13_ge {l : List P3} {a b : Int} : ∀ m i, 0 ≤ fac13 l a b m i ↔ ∃ j, i ≤ j ∧ j < i + m ∧ dE (tg l j) a b
  | 0, i => ⟨fun h => absurd h (by show ¬ (0 : Int) ≤ -1; omega), fun ⟨j, h1, h2, _⟩ => by omega⟩
  | m + 1, i => by
    unfold fac13
    cases e : fac1 (l.getD i (0, 0, 0)) a b with
    | some k =>
      refine ⟨fun _ => ⟨i, Nat.le_refl _, by omega, ?_⟩, fun _ => by show (0 : Int) ≤ 3 * (i : Int) + (k : Nat); omega⟩
      apply Classical.byContradiction
      intro h
      rw [fac1_none.2 h] at e; cases e
    | none =>
      have hn := fac1_none.1 e
      show 0 ≤ fac13 l a b m (i + 1) ↔ _
      rw [fac13_ge m (i + 1)]
      constructor
      · rintro ⟨j, h1, h2, h3⟩; exact ⟨j, by omega, by omega, h3⟩
      · rintro ⟨j, h1, h2, h3⟩
        refine ⟨j, ?_, by omega, h3⟩
        by_cases ej : j = i
        · subst ej; exact absurd h3 hn
        · omega
theorem fac13_iff {l : List P3} {a b : Int} : 0 ≤ fac13R l a b ↔ eE l a b := by
  unfold fac13R eE
  rw [fac13_ge]
  constructor
  · rintro ⟨j, _, h2, h3⟩; exact ⟨j, by omega, h3⟩
  · rintro ⟨j, h2, h3⟩; exact ⟨j, Nat.zero_le _, by omega, h3⟩
def aftF (s : Int × List P3) (v : Int) : Nat → Nat → Int
  | 0, _ => -1
  | m + 1, u => if fac13R s.2 u v ≥ 0 ∧ fac13R s.2 v u < 0 then (u : Int) else aftF s v m (u + 1)
def aftR (s : Int × List P3) (v : Int) : Int := aftF s v s.1.toNat 0
def loopAf (s : Int × List P3) (v : Int) : Spec Nat where
  inv u := u ≤ s.1.toNat ∧ aftR s v = aftF s v (s.1.toNat - u) u
  live u := [(5, .s (.int .i64 u))]
  keep := [1, 2]
  heap _ := []
  keepH := [0]
  mu u := s.1.toNat - u
theorem aftF_step {s : Int × List P3} {v : Int} {u : Nat} (h : u < s.1.toNat) : aftF s v (s.1.toNat - u) u = if fac13R s.2 u v ≥ 0 ∧ fac13R s.2 v u < 0 then (u : Int) else aftF s v (s.1.toNat - (u + 1)) (u + 1) := by
  rw [show s.1.toNat - u = (s.1.toNat - (u + 1)) + 1 by omega]; rfl
theorem after17_vc (n : Int) (l : List P3) (v : Int) (h : l.length ≤ 8192 ∧ n ≤ 4096) : afun ⟨tyL, [(97, fac13C)], []⟩ Try.f73 [soupE.av (n, l), i64E.av v] (fun r => r = .s (.int .i64 (aftR (n, l) v))) := by
  repeat' (conv => whnf
           first | done | refine Need.intro (by first | rfl | omega | (simp only [i64ok] at *; omega)) ?_ | refine Need.intro (Hold.out ?_) ?_ | refine Give.intro fun _ => ?_ | refine Both.intro ?_ ?_ | refine BIf.and ?_ | refine BIf.or ?_ | refine BIf.eqi (fun _ => ?_) (fun _ => ?_) | refine BIf.nei (fun _ => ?_) (fun _ => ?_) | refine BIf.dec (fun _ => ?_) (fun _ => ?_) | refine BIf.nt ?_ | refine BIf.intro (fun _ => ?_) (fun _ => ?_) | ((first | (with_reducible show Or (∃ n, rounds (acode _ (Code.seq (Code.region 2 _ _) _)) _ n _) _) | (with_reducible show Or (∃ n, rounds (acode _ (Code.seq (Code.seq (Code.region 2 _ _) _) _)) _ n _) _) | (with_reducible show Or (∃ n, rounds (acode _ (Code.seq (Code.seq (Code.seq (Code.region 2 _ _) _) _) _)) _ n _) _) | (with_reducible show Or (∃ n, rounds (acode _ (Code.seq (Code.seq (Code.seq (Code.seq (Code.region 2 _ _) _) _) _) _)) _ n _) _) | (with_reducible show Or (∃ n, rounds (acode _ (Code.block _ (Code.seq (Code.region 2 _ _) _))) _ n _) _) | (with_reducible show Or (∃ n, rounds (acode _ (Code.block _ (Code.seq (Code.seq (Code.region 2 _ _) _) _))) _ n _) _) | (with_reducible show Or (∃ n, rounds (acode _ (Code.block _ (Code.seq (Code.seq (Code.seq (Code.region 2 _ _) _) _) _))) _ n _) _) | (with_reducible show Or (∃ n, rounds (acode _ (Code.block _ (Code.seq (Code.seq (Code.seq (Code.seq (Code.region 2 _ _) _) _) _) _))) _ n _) _)); refine Or.inr (Exists.intro (Nat) (Exists.intro (loopAf (n, l) v) (And.intro (Exists.intro (0) (And.intro (Hold.out ?_) (And.intro ?_ (And.intro ?_ rfl)))) (fun u hu => ?_))))) | ((with_reducible show (∃ y, And (Spec.inv (loopAf _ _) y) _)); refine Exists.intro (u + 1) (And.intro (Hold.out ?_) (And.intro (And.intro ?_ (And.intro ?_ rfl)) (Hold.out ?_)))) | refine And.intro rfl ?_ | refine And.intro (HoldEq.out ?_) ?_ | refine And.intro (HoldOb.out ?_) ?_ | exact True.intro | refine HoldEq.out ?_ | refine HoldObs.out ?_ | refine KCheck.intro (by kernel_rfl) ?_ | refine HoldOr.out ?_)
  all_goals try first | refine HoldEq.int ?_ | refine HoldEq.bool ?_ | refine HoldEq.sl ?_ | refine HoldEq.own ?_ | refine HoldEq.ownS ?_ ?_ | refine HoldOb.row ?_ | refine HoldOb.map ?_ | refine HoldOb.gmap ?_ | refine HoldOb.grow ?_ | refine HoldObs.row ?_
  all_goals try simp only [take_one, take_one', set_one, take_all, List.length_singleton, rec_self, Int.toNat_natCast, pair_eta, ETy.dflt, List.getD_cons_zero, List.getD_cons_succ, Int.reduceToNat, Int.reduceAdd, Int.reduceSub, Int.reduceNeg, Nat.reduceAdd, Nat.zero_add, loopAf] at *
  all_goals try have hlt : (u : Int) < n := by assumption
  all_goals try (refine Hold.intro ?_; omega)
  · exact Hold.intro ⟨Nat.zero_le _, rfl⟩
  · rw [hu.2, aftF_step (s := (n, l)) (by show u < n.toNat; omega), if_pos ⟨by assumption, by assumption⟩]
  · refine Hold.intro ⟨by omega, ?_⟩
    rw [hu.2, aftF_step (s := (n, l)) (by show u < n.toNat; omega), if_neg (fun k => absurd k.2 (by assumption))]
  · refine Hold.intro ⟨by omega, ?_⟩
    rw [hu.2, aftF_step (s := (n, l)) (by show u < n.toNat; omega), if_neg (fun k => absurd k.1 (by assumption))]
  · rw [hu.2, show n.toNat - u = 0 by omega]; rfl
def after17C : List AV → Option Res := con2 soupE i64E (fun s v => some (none, some (s.2.length ≤ 8192 ∧ s.1 ≤ 4096), .s (.int .i64 (aftR s v))))
theorem after17Row : FnRow Try.prog 73 after17C := ⟨con2_ok fun s v r h => by cases h; exact fn_by (rulesF (fn := [(97, fac13C)]) (fr := []) ⟨fac13Row, trivial⟩ trivial) Try.func73 (by kernel_rfl) fun _ h => after17_vc s.1 s.2 v h, _, Try.func73, by kernel_rfl, by kernel_rfl⟩
theorem aftF_ge {s : Int × List P3} {v : Int} : ∀ m u, 0 ≤ aftF s v m u ↔ ∃ w : Nat, u ≤ w ∧ w < u + m ∧ eE s.2 w v ∧ ¬ eE s.2 v w
  | 0, u => ⟨fun h => absurd h (by show ¬ (0 : Int) ≤ -1; omega), fun ⟨j, h1, h2, _⟩ => by omega⟩
  | m + 1, u => by
    unfold aftF
    have hb : (fac13R s.2 u v ≥ 0 ∧ fac13R s.2 v u < 0) ↔ eE s.2 u v ∧ ¬ eE s.2 v u := by
      rw [← fac13_iff, ← fac13_iff]; omega
    by_cases e : fac13R s.2 u v ≥ 0 ∧ fac13R s.2 v u < 0
    · rw [if_pos e]
      exact ⟨fun _ => ⟨u, Nat.le_refl _, by omega, hb.1 e⟩, fun _ => by omega⟩
    · rw [if_neg e, aftF_ge m (u + 1)]
      constructor
      · rintro ⟨j, h1, h2, h3⟩; exact ⟨j, by omega, by omega, h3⟩
      · rintro ⟨j, h1, h2, h3⟩
        refine ⟨j, ?_, by omega, h3⟩
        by_cases ej : j = u
        · subst ej; exact absurd (hb.2 h3) e
        · omega
theorem aft_iff {x : tabE.T} (g : Full x) {v : Int} : 0 ≤ aftR x.1 v ↔ ∃ w, bE x w v := by
  unfold aftR
  rw [aftF_ge]
  constructor
  · rintro ⟨w, _, _, h⟩; exact ⟨w, (bE_iff g).2 h⟩
  · rintro ⟨w, hw⟩
    have hin := bE_inN g hw
    have hn := fitN g
    refine ⟨w.toNat, Nat.zero_le _, ?_, ?_⟩
    · have e : (x.1.1 : Int) = vN x := rfl
      rw [Nat.zero_add]
      show w.toNat < (vN x).toNat
      omega
    · rw [Int.toNat_of_nonneg hin.1.1]; exact (bE_iff g).1 hw
end S1
