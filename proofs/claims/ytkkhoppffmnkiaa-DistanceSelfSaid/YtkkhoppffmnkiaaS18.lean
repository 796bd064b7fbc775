/- A part of the proofs of the laws of this seat: contracts of functions, each for every input that its text names. -/
import Derived.Test.YtkkhoppffmnkiaaS17
set_option linter.unusedSimpArgs false
set_option linter.unusedVariables false
open Go Go.Vm Go.Proofs
namespace S1
set_option maxRecDepth 100000

/-! pairs -/
@[irreducible] def ptR (k : Int) (t u : P3) : Bool := (k == 3 && twiceR t u) || (k == 4 && (hasR u t.1 && (hasR u t.2.1 && hasR u t.2.2)))
def prG (l : List P3) (k : Int) (b a : Nat) : Option Wit := if ptR k (l.getD a (0, 0, 0)) (l.getD b (0, 0, 0)) then some (k, (a : Int), (b : Int)) else none
def prI (l : List P3) (k : Int) (b a : Nat) : List Wit := (List.range a).filterMap (prG l k b)
def prO (l : List P3) (k : Int) (b : Nat) : List Wit := (List.range b).flatMap fun b => prI l k b b
theorem prI_succ (l : List P3) (k : Int) (b a : Nat) : prI l k b (a + 1) = prI l k b a ++ (prG l k b a).toList := by
  unfold prI; rw [List.range_succ, List.filterMap_append]; simp only [List.filterMap_cons, List.filterMap_nil]; cases prG l k b a <;> rfl
theorem prO_succ (l : List P3) (k : Int) (b : Nat) : prO l k (b + 1) = prO l k b ++ prI l k b b := by
  unfold prO; rw [List.range_succ, List.flatMap_append]; simp
theorem prI_len (l : List P3) (k : Int) (b a : Nat) : (prI l k b a).length ≤ a := by
  unfold prI; exact Nat.le_trans (List.length_filterMap_le _ _) (by simp)
theorem prO_len (l : List P3) (k : Int) : ∀ b : Nat, b ≤ 8192 → (prO l k b).length ≤ b * 8192
  | 0, _ => by simp [prO]
  | b + 1, h => by
    rw [prO_succ, List.length_append]
    have := prO_len l k b (by omega)
    have := prI_len l k b b
    omega
def loopP1 (l : List P3) (k : Int) : Spec Nat where
  inv b := b ≤ l.length
  live b := [(6, .s (.int .i64 b)), (5, .s (.own 2 0 (prO l k b).length))]
  keep := [1, 2]
  heap b := [(2, .row witE 60 (prO l k b))]
  keepH := [0]
  mu b := l.length - b
def loopP2 (l : List P3) (k : Int) (b : Nat) : Spec Nat where
  inv a := a ≤ b
  live a := [(7, .s (.int .i64 a)), (5, .s (.own 2 0 (prO l k b ++ prI l k b a).length))]
  keep := [1, 2, 6]
  heap a := [(2, .row witE 60 (prO l k b ++ prI l k b a))]
  keepH := [0]
  mu a := b - a
set_option maxHeartbeats 4000000 in
theorem pairs9_vc (n : Int) (l : List P3) (k : Int) (hl : l.length ≤ 8192) : afunF ⟨tyL, [(32, twiceC), (30, has9C)], []⟩ Try.f29 [soupE.av (n, l), (ETy.int .i64).av k] (fun v obs => v = .s (.own 0 0 (prO l k l.length).length) ∧ obs = [.row witE 60 (prO l k l.length)]) := by
  repeat' (conv => whnf
           first
            | done
            | refine Need.intro (by first | omega | (simp only [i64ok] at *; omega)) ?_
            | refine Need.intro (Hold.out ?_) ?_
            | refine Give.intro fun _ => ?_
            | refine BIf.and ?_
            | refine BIf.or ?_
            | refine BIf.eqi (fun _ => ?_) (fun _ => ?_)
            | refine BIf.nei (fun _ => ?_) (fun _ => ?_)
            | refine BIf.dec (fun _ => ?_) (fun _ => ?_)
            | refine BIf.nt ?_
            | refine BIf.intro (fun _ => ?_) (fun _ => ?_)
            | ((first | (with_reducible show Or (∃ n, rounds (acode _ (Code.seq (Code.region 3 _ _) _)) _ n _) _) | (with_reducible show Or (∃ n, rounds (acode _ (Code.seq (Code.seq (Code.region 3 _ _) _) _)) _ n _) _) | (with_reducible show Or (∃ n, rounds (acode _ (Code.seq (Code.seq (Code.seq (Code.region 3 _ _) _) _) _)) _ n _) _) | (with_reducible show Or (∃ n, rounds (acode _ (Code.seq (Code.seq (Code.seq (Code.seq (Code.region 3 _ _) _) _) _) _)) _ n _) _)); refine Or.inr (Exists.intro (Nat) (Exists.intro (loopP1 l k) (And.intro (Exists.intro (0) (And.intro (Hold.out ?_) (And.intro ?_ (And.intro ?_ rfl)))) (fun b hb => ?_)))))
            | ((with_reducible show (∃ y, And (Spec.inv (loopP1 _ _) y) _)); refine Exists.intro (b + 1) (And.intro (Hold.out ?_) (And.intro (And.intro ?_ (And.intro ?_ rfl)) (Hold.out ?_))))
            | ((first | (with_reducible show Or (∃ n, rounds (acode _ (Code.seq (Code.region 6 _ _) _)) _ n _) _) | (with_reducible show Or (∃ n, rounds (acode _ (Code.seq (Code.seq (Code.region 6 _ _) _) _)) _ n _) _) | (with_reducible show Or (∃ n, rounds (acode _ (Code.seq (Code.seq (Code.seq (Code.region 6 _ _) _) _) _)) _ n _) _) | (with_reducible show Or (∃ n, rounds (acode _ (Code.seq (Code.seq (Code.seq (Code.seq (Code.region 6 _ _) _) _) _) _)) _ n _) _)); refine Or.inr (Exists.intro (Nat) (Exists.intro (loopP2 l k b) (And.intro (Exists.intro (0) (And.intro (Hold.out ?_) (And.intro ?_ (And.intro ?_ rfl)))) (fun a ha => ?_)))))
            | ((with_reducible show (∃ y, And (Spec.inv (loopP2 _ _ _) y) _)); refine Exists.intro (a + 1) (And.intro (Hold.out ?_) (And.intro (And.intro ?_ (And.intro ?_ rfl)) (Hold.out ?_))))
            | refine And.intro rfl ?_
            | refine And.intro (HoldEq.out ?_) ?_
            | refine And.intro (HoldOb.out ?_) ?_
            | exact True.intro
            | refine HoldEq.out ?_
            | refine HoldObs.out ?_
            | refine HoldOr.out ?_)
  all_goals try first | refine HoldEq.int ?_ | refine HoldEq.bool ?_ | refine HoldEq.sl ?_ | refine HoldEq.own ?_ | refine HoldOb.row ?_ | refine HoldOb.map ?_ | refine HoldObs.row ?_
  all_goals try simp only [take_one, take_one', set_one, take_all, List.length_singleton, rec_self, Int.toNat_natCast, pair_eta, ETy.dflt, List.getD_cons_zero, List.getD_cons_succ, Int.reduceToNat, Int.reduceAdd, Int.reduceSub, Int.reduceNeg, Nat.reduceAdd, Nat.zero_add, loopP1, loopP2] at *
  all_goals try (refine Hold.intro ?_; omega)
  all_goals try
    (have h1 := prO_len l k b (by omega)
     have h2 := prI_len l k b a
     refine Hold.intro ?_; rw [List.length_append]; omega)
  all_goals try (simp [prI]; done)
  all_goals try (exfalso; omega)
  all_goals try
    (have hp : ptR k (l.getD a (0, 0, 0)) (l.getD b (0, 0, 0)) = true := by unfold ptR; simp only [*]; simp
     rw [prI_succ, prG, if_pos hp]; simp [Nat.add_assoc]; done)
  all_goals try
    (have hp : ptR k (l.getD a (0, 0, 0)) (l.getD b (0, 0, 0)) = false := by unfold ptR; simp only [*]; simp [*]
     rw [prI_succ, prG, if_neg (by rw [hp]; decide)]; simp; done)
  all_goals try
    (have hp : ptR k (l.getD a (0, 0, 0)) (l.getD b (0, 0, 0)) = false := by
       unfold ptR; rw [beq_false_of_ne (by assumption : k ≠ 3), beq_false_of_ne (by assumption : k ≠ 4)]; rfl
     rw [prI_succ, prG, if_neg (by rw [hp]; decide)]; simp; done)
  all_goals try
    (have e : a = b := by omega
     subst e; rw [prO_succ])
  all_goals
    have e : b = l.length := by omega
    rw [e]
def pairs9C : List AV → Option ResF := con2 soupE (.int .i64) (fun s k => some (none, some (s.2.length ≤ 8192), .s (.own 0 0 (prO s.2 k s.2.length).length), [.row witE 60 (prO s.2 k s.2.length)]))
theorem pairs9Row : FnRowF Try.prog 29 pairs9C := ⟨con2_okF fun s k r h => by cases h; exact fn_byF (rulesF (fn := [(32, twiceC), (30, has9C)]) (fr := []) ⟨twiceRow, has9Row, trivial⟩ trivial) Try.func29 (by kernel_rfl) fun _ h => pairs9_vc s.1 s.2 k h, _, Try.func29, by kernel_rfl, by kernel_rfl⟩

/-! Pinched -/
def ringL (l : List P3) (v : Int) : List P3 := l.filter (hasR · v)
def tch (v w : Int) (u : P3) : Bool := decide (w ≠ v) && hasR u w
@[irreducible] def touch (m : List P3) (v : Int) (i k : Nat) : Bool :=
  tch v (m.getD i (0, 0, 0)).1 (m.getD k (0, 0, 0)) || (tch v (m.getD i (0, 0, 0)).2.1 (m.getD k (0, 0, 0)) || tch v (m.getD i (0, 0, 0)).2.2 (m.getD k (0, 0, 0)))
def pk (m : List P3) (v : Int) (i : Nat) (s : List Bool) (k : Nat) : List Bool := if s.getD i false = false ∨ s.getD k false = true then s else if touch m v i k then s.set k true else s
def foldK (m : List P3) (v : Int) (i : Nat) (s : List Bool) (k : Nat) : List Bool := (List.range k).foldl (pk m v i) s
def foldI (m : List P3) (v : Int) (s : List Bool) (i : Nat) : List Bool := (List.range i).foldl (fun s i => foldK m v i s m.length) s
def foldR (m : List P3) (v : Int) (r : Nat) : List Bool := (List.range r).foldl (fun s _ => foldI m v s m.length) ((List.replicate m.length false).set 0 true)
@[irreducible] def pinchR (l : List P3) (v : Int) : Bool := !(List.range (ringL l v).length).all fun j => (foldR (ringL l v) v (ringL l v).length).getD j false
theorem foldK_succ (m : List P3) (v : Int) (i : Nat) (s : List Bool) (k : Nat) : foldK m v i s (k + 1) = pk m v i (foldK m v i s k) k := by
  unfold foldK; rw [List.range_succ, List.foldl_append]; rfl
theorem foldI_succ (m : List P3) (v : Int) (s : List Bool) (i : Nat) : foldI m v s (i + 1) = foldK m v i (foldI m v s i) m.length := by
  unfold foldI; rw [List.range_succ, List.foldl_append]; rfl
theorem foldR_succ (m : List P3) (v : Int) (r : Nat) : foldR m v (r + 1) = foldI m v (foldR m v r) m.length := by
  unfold foldR; rw [List.range_succ, List.foldl_append]; rfl
theorem ringL_take (l : List P3) (v : Int) {i : Nat} (h : (i : Int) < l.length) : ringL (l.take (i + 1)) v = ringL (l.take i) v ++ (if hasR (l.getD i (0, 0, 0)) v then [l.getD i (0, 0, 0)] else []) := by
  have h : i < l.length := by omega
  unfold ringL
  rw [List.take_add_one, List.filter_append, List.getD_eq_getElem?_getD, List.getElem?_eq_getElem h]
  simp only [Option.toList_some, Option.getD_some, List.filter_cons, List.filter_nil]
theorem ringL_len (l : List P3) (v : Int) (i : Nat) : (ringL (l.take i) v).length ≤ l.length := by
  unfold ringL
  exact Nat.le_trans (List.length_filter_le _ _) (by simp; omega)
theorem not_or_t {s : List Bool} {i k : Nat} (h1 : s.getD i false = true) (h2 : s.getD k false = false) : ¬ (s.getD i false = false ∨ s.getD k false = true) := by
  rw [h1, h2]; decide
theorem touch_t {m : List P3} {v : Int} {i k : Nat} (h : ((m.getD i (0, 0, 0)).1 ≠ v ∧ hasR (m.getD k (0, 0, 0)) (m.getD i (0, 0, 0)).1 = true) ∨ ((m.getD i (0, 0, 0)).2.1 ≠ v ∧ hasR (m.getD k (0, 0, 0)) (m.getD i (0, 0, 0)).2.1 = true) ∨
    ((m.getD i (0, 0, 0)).2.2 ≠ v ∧ hasR (m.getD k (0, 0, 0)) (m.getD i (0, 0, 0)).2.2 = true)) : touch m v i k = true := by
  unfold touch tch
  simp only [Bool.or_eq_true, Bool.and_eq_true, decide_eq_true_eq]; exact h
theorem touch_f {m : List P3} {v : Int} {i k : Nat} (h1 : (m.getD i (0, 0, 0)).1 = v ∨ hasR (m.getD k (0, 0, 0)) (m.getD i (0, 0, 0)).1 = false) (h2 : (m.getD i (0, 0, 0)).2.1 = v ∨ hasR (m.getD k (0, 0, 0)) (m.getD i (0, 0, 0)).2.1 = false)
    (h3 : (m.getD i (0, 0, 0)).2.2 = v ∨ hasR (m.getD k (0, 0, 0)) (m.getD i (0, 0, 0)).2.2 = false) : ¬ touch m v i k = true := by
  have key : ∀ {w : Int} {u : P3}, w = v ∨ hasR u w = false → ¬ (w ≠ v ∧ hasR u w = true) := by
    rintro w u (h | h) ⟨a, b⟩
    · exact a h
    · rw [h] at b; cases b
  unfold touch tch
  simp only [Bool.or_eq_true, Bool.and_eq_true, decide_eq_true_eq]
  rintro (h | h | h)
  · exact key h1 h
  · exact key h2 h
  · exact key h3 h
def loopV1 (l : List P3) (v : Int) : Spec Nat where
  inv i := i ≤ l.length
  live i := [(6, .s (.int .i64 i)), (5, .s (.own 1 0 (ringL (l.take i) v).length))]
  keep := [1, 2]
  heap i := [(1, .row .arr3 44 (ringL (l.take i) v))]
  keepH := [0]
  mu i := l.length - i
def loopV2 (m : List P3) (v : Int) : Spec Nat where
  inv r := r ≤ m.length
  live r := [(45, .s (.int .i64 r))]
  keep := [1, 5, 7, 44]
  heap r := [(2, .row .bool 4 (foldR m v r))]
  keepH := [1]
  mu r := m.length - r
def loopV3 (m : List P3) (v : Int) (s : List Bool) : Spec Nat where
  inv i := i ≤ m.length
  live i := [(8, .s (.int .i64 i))]
  keep := [1, 5, 7, 44, 45]
  heap i := [(2, .row .bool 4 (foldI m v s i))]
  keepH := [1]
  mu i := m.length - i
def loopV4 (m : List P3) (v : Int) (i : Nat) (s : List Bool) : Spec Nat where
  inv k := k ≤ m.length
  live k := [(9, .s (.int .i64 k))]
  keep := [1, 5, 7, 8, 44, 45]
  heap k := [(2, .row .bool 4 (foldK m v i s k))]
  keepH := [1]
  mu k := m.length - k
def loopV5 (n : Nat) (s : List Bool) : Spec Nat where
  inv i := i ≤ n ∧ ∀ j, j < i → s.getD j false = true
  live i := [(12, .s (.int .i64 i))]
  keep := [1, 5, 7]
  heap _ := []
  keepH := [1, 2]
  mu i := n - i
set_option maxHeartbeats 4000000 in
theorem pinch9_vc (n : Int) (l : List P3) (v : Int) (hl : l.length ≤ 8192) : afun ⟨tyL, [(30, has9C)], []⟩ Try.f31 [soupE.av (n, l), (ETy.int .i64).av v] (fun r => r = .s (.bool (pinchR l v))) := by
  repeat' (conv => whnf
           first
            | done
            | refine Need.intro (by first | omega | (simp only [i64ok] at *; omega)) ?_
            | refine Need.intro (Hold.out ?_) ?_
            | refine Give.intro fun _ => ?_
            | refine BIf.and ?_
            | refine BIf.or ?_
            | refine BIf.eqi (fun _ => ?_) (fun _ => ?_)
            | refine BIf.nei (fun _ => ?_) (fun _ => ?_)
            | refine BIf.dec (fun _ => ?_) (fun _ => ?_)
            | refine BIf.nt ?_
            | refine BIf.intro (fun _ => ?_) (fun _ => ?_)
            | ((first | (with_reducible show Or (∃ n, rounds (acode _ (Code.seq (Code.region 3 _ _) _)) _ n _) _) | (with_reducible show Or (∃ n, rounds (acode _ (Code.seq (Code.seq (Code.region 3 _ _) _) _)) _ n _) _) | (with_reducible show Or (∃ n, rounds (acode _ (Code.seq (Code.seq (Code.seq (Code.region 3 _ _) _) _) _)) _ n _) _) | (with_reducible show Or (∃ n, rounds (acode _ (Code.seq (Code.seq (Code.seq (Code.seq (Code.region 3 _ _) _) _) _) _)) _ n _) _)); refine Or.inr (Exists.intro (Nat) (Exists.intro (loopV1 l v) (And.intro (Exists.intro (0) (And.intro (Hold.out ?_) (And.intro ?_ (And.intro ?_ rfl)))) (fun i hi => ?_)))))
            | ((with_reducible show (∃ y, And (Spec.inv (loopV1 _ _) y) _)); refine Exists.intro (i + 1) (And.intro (Hold.out ?_) (And.intro (And.intro ?_ (And.intro ?_ rfl)) (Hold.out ?_))))
            | ((first | (with_reducible show Or (∃ n, rounds (acode _ (Code.seq (Code.region 12 _ _) _)) _ n _) _) | (with_reducible show Or (∃ n, rounds (acode _ (Code.seq (Code.seq (Code.region 12 _ _) _) _)) _ n _) _) | (with_reducible show Or (∃ n, rounds (acode _ (Code.seq (Code.seq (Code.seq (Code.region 12 _ _) _) _) _)) _ n _) _) | (with_reducible show Or (∃ n, rounds (acode _ (Code.seq (Code.seq (Code.seq (Code.seq (Code.region 12 _ _) _) _) _) _)) _ n _) _)); refine Or.inr (Exists.intro (Nat) (Exists.intro (loopV2 (ringL (l.take i) v) v) (And.intro (Exists.intro (0) (And.intro (Hold.out ?_) (And.intro ?_ (And.intro ?_ rfl)))) (fun r hr => ?_)))))
            | ((with_reducible show (∃ y, And (Spec.inv (loopV2 _ _) y) _)); refine Exists.intro (r + 1) (And.intro (Hold.out ?_) (And.intro (And.intro ?_ (And.intro ?_ rfl)) (Hold.out ?_))))
            | ((first | (with_reducible show Or (∃ n, rounds (acode _ (Code.seq (Code.region 14 _ _) _)) _ n _) _) | (with_reducible show Or (∃ n, rounds (acode _ (Code.seq (Code.seq (Code.region 14 _ _) _) _)) _ n _) _) | (with_reducible show Or (∃ n, rounds (acode _ (Code.seq (Code.seq (Code.seq (Code.region 14 _ _) _) _) _)) _ n _) _) | (with_reducible show Or (∃ n, rounds (acode _ (Code.seq (Code.seq (Code.seq (Code.seq (Code.region 14 _ _) _) _) _) _)) _ n _) _)); refine Or.inr (Exists.intro (Nat) (Exists.intro (loopV3 (ringL (l.take i) v) v (foldR (ringL (l.take i) v) v r)) (And.intro (Exists.intro (0) (And.intro (Hold.out ?_) (And.intro ?_ (And.intro ?_ rfl)))) (fun x hx => ?_)))))
            | ((with_reducible show (∃ y, And (Spec.inv (loopV3 _ _ _) y) _)); refine Exists.intro (x + 1) (And.intro (Hold.out ?_) (And.intro (And.intro ?_ (And.intro ?_ rfl)) (Hold.out ?_))))
            | ((first | (with_reducible show Or (∃ n, rounds (acode _ (Code.seq (Code.region 17 _ _) _)) _ n _) _) | (with_reducible show Or (∃ n, rounds (acode _ (Code.seq (Code.seq (Code.region 17 _ _) _) _)) _ n _) _) | (with_reducible show Or (∃ n, rounds (acode _ (Code.seq (Code.seq (Code.seq (Code.region 17 _ _) _) _) _)) _ n _) _) | (with_reducible show Or (∃ n, rounds (acode _ (Code.seq (Code.seq (Code.seq (Code.seq (Code.region 17 _ _) _) _) _) _)) _ n _) _)); refine Or.inr (Exists.intro (Nat) (Exists.intro (loopV4 (ringL (l.take i) v) v x (foldI (ringL (l.take i) v) v (foldR (ringL (l.take i) v) v r) x)) (And.intro (Exists.intro (0) (And.intro (Hold.out ?_) (And.intro ?_ (And.intro ?_ rfl)))) (fun k hk => ?_)))))
            | ((with_reducible show (∃ y, And (Spec.inv (loopV4 _ _ _ _) y) _)); refine Exists.intro (k + 1) (And.intro (Hold.out ?_) (And.intro (And.intro ?_ (And.intro ?_ rfl)) (Hold.out ?_))))
            | ((first | (with_reducible show Or (∃ n, rounds (acode _ (Code.seq (Code.region 21 _ _) _)) _ n _) _) | (with_reducible show Or (∃ n, rounds (acode _ (Code.seq (Code.seq (Code.region 21 _ _) _) _)) _ n _) _) | (with_reducible show Or (∃ n, rounds (acode _ (Code.seq (Code.seq (Code.seq (Code.region 21 _ _) _) _) _)) _ n _) _) | (with_reducible show Or (∃ n, rounds (acode _ (Code.seq (Code.seq (Code.seq (Code.seq (Code.region 21 _ _) _) _) _) _)) _ n _) _)); refine Or.inl (Exists.intro (4) ?_))
            | ((first | (with_reducible show Or (∃ n, rounds (acode _ (Code.seq (Code.region 28 _ _) _)) _ n _) _) | (with_reducible show Or (∃ n, rounds (acode _ (Code.seq (Code.seq (Code.region 28 _ _) _) _)) _ n _) _) | (with_reducible show Or (∃ n, rounds (acode _ (Code.seq (Code.seq (Code.seq (Code.region 28 _ _) _) _) _)) _ n _) _) | (with_reducible show Or (∃ n, rounds (acode _ (Code.seq (Code.seq (Code.seq (Code.seq (Code.region 28 _ _) _) _) _) _)) _ n _) _)); refine Or.inr (Exists.intro (Nat) (Exists.intro (loopV5 (ringL (l.take i) v).length (foldR (ringL (l.take i) v) v r)) (And.intro (Exists.intro (0) (And.intro (Hold.out ?_) (And.intro ?_ (And.intro ?_ rfl)))) (fun y hy => ?_)))))
            | ((with_reducible show (∃ y, And (Spec.inv (loopV5 _ _) y) _)); refine Exists.intro (y + 1) (And.intro (Hold.out ?_) (And.intro (And.intro ?_ (And.intro ?_ rfl)) (Hold.out ?_))))
            | refine And.intro rfl ?_
            | refine And.intro (HoldEq.out ?_) ?_
            | refine And.intro (HoldOb.out ?_) ?_
            | exact True.intro
            | refine HoldEq.out ?_
            | refine HoldObs.out ?_
            | refine HoldOr.out ?_)
  all_goals try first | refine HoldEq.int ?_ | refine HoldEq.bool ?_ | refine HoldEq.sl ?_ | refine HoldEq.own ?_ | refine HoldOb.row ?_ | refine HoldOb.map ?_ | refine HoldObs.row ?_
  all_goals try simp only [take_one, take_one', set_one, take_all, List.length_singleton, rec_self, Int.toNat_natCast, pair_eta, ETy.dflt, List.getD_cons_zero, List.getD_cons_succ, Int.reduceToNat, Int.reduceAdd, Int.reduceSub, Int.reduceNeg, Nat.reduceAdd, Nat.zero_add, loopV1, loopV2, loopV3, loopV4, loopV5] at *
  all_goals try (refine Hold.intro ?_; omega)
  all_goals try rfl
  all_goals try
    (have h := ringL_len l v i
     refine Hold.intro ?_; omega)
  all_goals try (rw [foldK_succ, pk, if_pos (Or.inl (by assumption))]; done)
  all_goals try (rw [foldK_succ, pk, if_pos (Or.inr (by assumption))]; done)
  all_goals try (rw [foldK_succ, pk, if_neg (not_or_t (by assumption) (by assumption)), if_pos (touch_t (by first | exact .inl ⟨by assumption, by assumption⟩ | exact .inr (.inl ⟨by assumption, by assumption⟩) | exact .inr (.inr ⟨by assumption, by assumption⟩)))]; (try simp only [List.set_set]); done)
  all_goals try (rw [foldK_succ, pk, if_neg (not_or_t (by assumption) (by assumption)), if_neg (touch_f (by first | exact .inl (by assumption) | exact .inr (by assumption)) (by first | exact .inl (by assumption) | exact .inr (by assumption)) (by first | exact .inl (by assumption) | exact .inr (by assumption)))]; done)
  all_goals try
    (have e : k = (ringL (l.take i) v).length := by omega
     rw [foldI_succ, ← e]; done)
  all_goals try
    (have e : x = (ringL (l.take i) v).length := by omega
     rw [foldR_succ, ← e]; done)
  · rw [ringL_take _ _ (by assumption), if_pos (by assumption)]; simp
  · rw [ringL_take _ _ (by assumption), if_pos (by assumption)]
  · rw [ringL_take _ _ (by assumption), if_neg (by rw [‹hasR _ _ = false›]; decide)]; simp
  · rw [ringL_take _ _ (by assumption), if_neg (by rw [‹hasR _ _ = false›]; decide)]; simp
  · have e : l.take i = l := List.take_of_length_le (by omega)
    rename_i h; rw [e] at h
    have h : (ringL l v).length = 0 := by omega
    unfold pinchR; rw [h]; rfl
  · exact Hold.intro ⟨Nat.zero_le _, fun j hj => absurd hj (by omega)⟩
  · refine Hold.intro ⟨by omega, fun j hj => ?_⟩
    by_cases e : j = y
    · subst e; assumption
    · exact hy.2 j (by omega)
  all_goals
    have e : l.take i = l := List.take_of_length_le (by omega)
    have er : r = (ringL (l.take i) v).length := by omega
    rw [er] at hy
    rw [e] at hy
  · rename_i h
    have hyl : y < (ringL l v).length := by rw [← e]; omega
    rw [er, e] at h
    unfold pinchR
    symm
    rw [Bool.not_eq_true', ← Bool.not_eq_true, List.all_eq_true]
    intro hh
    rw [hh y (List.mem_range.2 hyl)] at h; cases h
  · rename_i h; rw [e] at h
    have hyl : (ringL l v).length ≤ y := by omega
    unfold pinchR
    symm
    rw [Bool.not_eq_false', List.all_eq_true]
    intro j hj
    exact hy.2 j (by have := List.mem_range.1 hj; omega)
def pinch9C : List AV → Option Res := con2 soupE (.int .i64) (fun s v => some (none, some (s.2.length ≤ 8192), .s (.bool (pinchR s.2 v))))
theorem pinch9Row : FnRow Try.prog 31 pinch9C := ⟨con2_ok fun s v r h => by cases h; exact fn_by (rulesF (fn := [(30, has9C)]) (fr := []) ⟨has9Row, trivial⟩ trivial) Try.func31 (by kernel_rfl) fun _ h => pinch9_vc s.1 s.2 v h, _, Try.func31, by kernel_rfl, by kernel_rfl⟩
end S1
