/- A part of the proofs of the laws of this seat: contracts of functions, each for every input that its text names. -/
import Derived.Test.YtbbpofkacdmjnaaF3toT15
import Derived.Test.YtbbpofkacdmjnaaVmRng2toFan2
import Derived.Test.YtbbpofkacdmjnaaT0toVmInl
set_option linter.unusedSimpArgs false
set_option linter.unusedVariables false
set_option maxHeartbeats 2000000
open Go Go.Vm Go.Proofs
namespace S1
set_option maxRecDepth 100000

/-! shell.Of -/
abbrev OS := List Int × List Int
def ofC (x : tabE.T) (k : Int) (j : Nat) (s : OS) (c : Nat) : OS :=
  if 0 ≤ tOpp x (3 * s.2.getD j 0 + c) ∧ s.1.getD (tOpp x (3 * s.2.getD j 0 + c) / 3).toNat 0 < 0 then
    (s.1.set (tOpp x (3 * s.2.getD j 0 + c) / 3).toNat k, s.2 ++ [tOpp x (3 * s.2.getD j 0 + c) / 3]) else s
def ofJ (x : tabE.T) (k : Int) (s : OS) (j : Nat) : OS := irec (ofC x k j) s 3
def bfs (x : tabE.T) (k : Int) : Nat → Nat → OS → OS
  | 0, _, s => s
  | f + 1, j, s => if j < s.2.length then bfs x k f (j + 1) (ofJ x k s j) else s
def ofI (x : tabE.T) (s : List Int × Int) (i : Nat) : List Int × Int :=
  if s.1.getD i 0 ≥ 0 then s else ((bfs x s.2 10000 0 (s.1.set i s.2, [(i : Int)])).1, s.2 + 1)
def ofL (x : tabE.T) (i : Nat) : List Int × Int := irec (ofI x) (List.replicate x.1.2.length (-1), 0) i
def ofR (x : tabE.T) : List Int := (ofL x x.1.2.length).1
def unm : List Int → Nat
  | [] => 0
  | a :: r => (if a < 0 then 1 else 0) + unm r
theorem unm_le : ∀ l : List Int, unm l ≤ l.length
  | [] => Nat.le_refl _
  | a :: r => by have := unm_le r; simp only [unm, List.length_cons]; split <;> omega
theorem unm_set {k : Int} (hk : 0 ≤ k) : ∀ (l : List Int) (i : Nat), i < l.length → l.getD i 0 < 0 → unm (l.set i k) + 1 = unm l
  | a :: r, 0, _, h => by
    have h : a < 0 := h
    simp only [List.set_cons_zero, unm]; rw [if_pos h, if_neg (by omega)]; omega
  | a :: r, i + 1, hi, h => by
    have := unm_set hk r i (by simpa using hi) (by simpa using h)
    simp only [List.set_cons_succ, unm]; omega
structure OOk (n : Nat) (s : OS) : Prop where
  len : s.1.length = n
  td : ∀ j, j < s.2.length → 0 ≤ s.2.getD j 0 ∧ s.2.getD j 0 < n
  cnt : s.2.length + unm s.1 ≤ n
theorem opp_in {x : tabE.T} (g : Good x) {d : Int} (h : 0 ≤ tOpp x d) : tOpp x d < 3 * (x.1.2.length : Int) := (tHas_iff.1 (g.opp h).2.1).2
theorem ofC_ok {x : tabE.T} (g : Good x) {k : Int} (hk : 0 ≤ k) {j : Nat} {s : OS} (h : OOk x.1.2.length s) (c : Nat) : OOk x.1.2.length (ofC x k j s c) := by
  unfold ofC
  split
  · rename_i hc
    have hi := opp_in g hc.1
    refine ⟨by rw [List.length_set]; exact h.len, fun j' hj => ?_, ?_⟩
    · by_cases e : j' < s.2.length
      · have := h.td j' e
        have e2 : (s.2 ++ [tOpp x (3 * s.2.getD j 0 + c) / 3]).getD j' 0 = s.2.getD j' 0 := by
          rw [List.getD_eq_getElem?_getD, List.getElem?_append_left e, ← List.getD_eq_getElem?_getD]
        show 0 ≤ (s.2 ++ _).getD j' 0 ∧ _
        rw [e2]; exact this
      · have hj : j' < (s.2 ++ [tOpp x (3 * s.2.getD j 0 + c) / 3]).length := hj
        rw [List.length_append, List.length_singleton] at hj
        have e3 : j' = s.2.length := by omega
        subst e3
        have e2 : (s.2 ++ [tOpp x (3 * s.2.getD j 0 + c) / 3]).getD s.2.length 0 = tOpp x (3 * s.2.getD j 0 + c) / 3 := by
          rw [List.getD_eq_getElem?_getD, List.getElem?_append_right (Nat.le_refl _)]; simp
        show 0 ≤ (s.2 ++ _).getD s.2.length 0 ∧ _
        rw [e2]; omega
    · have := unm_set hk s.1 _ (by rw [h.len]; omega) hc.2
      have h3 := h.cnt
      show (s.2 ++ [_]).length + unm (s.1.set (tOpp x (3 * s.2.getD j 0 + c) / 3).toNat k) ≤ x.1.2.length
      rw [List.length_append, List.length_singleton]; omega
  · exact h
theorem ofCs_ok {x : tabE.T} (g : Good x) {k : Int} (hk : 0 ≤ k) {j : Nat} {s : OS} (h : OOk x.1.2.length s) : ∀ c, OOk x.1.2.length (irec (ofC x k j) s c)
  | 0 => h
  | c + 1 => ofC_ok g hk (ofCs_ok g hk h c) c
theorem ofJ_ok {x : tabE.T} (g : Good x) {k : Int} (hk : 0 ≤ k) {j : Nat} {s : OS} (h : OOk x.1.2.length s) : OOk x.1.2.length (ofJ x k s j) := by
  unfold ofJ; exact ofCs_ok g hk h 3
theorem ofJs_ok {x : tabE.T} (g : Good x) {k : Int} (hk : 0 ≤ k) {s : OS} (h : OOk x.1.2.length s) : ∀ j, OOk x.1.2.length (irec (ofJ x k) s j)
  | 0 => h
  | j + 1 => ofJ_ok g hk (ofJs_ok g hk h j)
theorem bfs_ok {x : tabE.T} (g : Good x) {k : Int} (hk : 0 ≤ k) : ∀ (f j : Nat) {s : OS}, OOk x.1.2.length s → OOk x.1.2.length (bfs x k f j s)
  | 0, _, _, h => h
  | f + 1, j, s, h => by
    unfold bfs; split
    · exact bfs_ok g hk f (j + 1) (ofJ_ok g hk h)
    · exact h
theorem start_ok {n i : Nat} {l : List Int} {k : Int} (hk : 0 ≤ k) (hl : l.length = n) (hi : i < n) (h : ¬ l.getD i 0 ≥ 0) : OOk n (l.set i k, [(i : Int)]) := by
  refine ⟨by rw [List.length_set]; exact hl, fun j hj => ?_, ?_⟩
  · have hj : j < 1 := hj
    have : j = 0 := by omega
    subst this
    show (0 : Int) ≤ i ∧ (i : Int) < n
    omega
  · have := unm_set hk l i (by omega) (by omega)
    have h2 := unm_le l
    show 1 + unm (l.set i k) ≤ n
    omega
theorem ofL_ok {x : tabE.T} (g : Good x) : ∀ i, i ≤ x.1.2.length → (ofL x i).1.length = x.1.2.length ∧ 0 ≤ (ofL x i).2 ∧ (ofL x i).2 ≤ i
  | 0, _ => ⟨List.length_replicate, Int.le_refl 0, Int.le_refl 0⟩
  | i + 1, hi => by
    obtain ⟨h1, h2, h3⟩ := ofL_ok g i (by omega)
    show (ofI x (ofL x i) i).1.length = _ ∧ 0 ≤ (ofI x (ofL x i) i).2 ∧ (ofI x (ofL x i) i).2 ≤ _
    unfold ofI
    split
    · exact ⟨h1, h2, by omega⟩
    · rename_i hn
      exact ⟨(bfs_ok g h2 10000 0 (start_ok h2 h1 (by omega) hn)).len, by show 0 ≤ (ofL x i).2 + 1; omega, by show (ofL x i).2 + 1 ≤ _; omega⟩
theorem ofC_t {x : tabE.T} {k : Int} {j c : Nat} {s : OS} (h1 : tOpp x (3 * s.2.getD j 0 + c) ≥ 0) (h2 : s.1.getD ((tOpp x (3 * s.2.getD j 0 + c)).tdiv 3).toNat 0 < 0) :
    ofC x k j s c = (s.1.set ((tOpp x (3 * s.2.getD j 0 + c)).tdiv 3).toNat k, s.2 ++ [(tOpp x (3 * s.2.getD j 0 + c)).tdiv 3]) := by
  rw [td3 h1] at *; unfold ofC; rw [if_pos ⟨h1, h2⟩]
theorem ofC_f1 {x : tabE.T} {k : Int} {j c : Nat} {s : OS} (h1 : tOpp x (3 * s.2.getD j 0 + c) ≥ 0) (h2 : ¬ s.1.getD ((tOpp x (3 * s.2.getD j 0 + c)).tdiv 3).toNat 0 < 0) : ofC x k j s c = s := by
  rw [td3 h1] at *; unfold ofC; rw [if_neg (fun e => h2 e.2)]
theorem ofC_f2 {x : tabE.T} {k : Int} {j c : Nat} {s : OS} (h1 : ¬ tOpp x (3 * s.2.getD j 0 + c) ≥ 0) : ofC x k j s c = s := by
  unfold ofC; rw [if_neg (fun e => h1 e.1)]
theorem ofC_len {x : tabE.T} {k : Int} {j c : Nat} {s : OS} : s.2.length ≤ (ofC x k j s c).2.length := by
  unfold ofC; split
  · show _ ≤ (s.2 ++ [_]).length
    rw [List.length_append]; omega
  · exact Nat.le_refl _
theorem ofCs_len {x : tabE.T} {k : Int} {j : Nat} {s : OS} : ∀ c, s.2.length ≤ (irec (ofC x k j) s c).2.length
  | 0 => Nat.le_refl _
  | c + 1 => Nat.le_trans (ofCs_len c) ofC_len
theorem ofC_s (x : tabE.T) (k : Int) (j : Nat) (s : OS) (c : Nat) : irec (ofC x k j) s (c + 1) = ofC x k j (irec (ofC x k j) s c) c := rfl
theorem ofJ_s (x : tabE.T) (k : Int) (s : OS) (j : Nat) : irec (ofJ x k) s (j + 1) = irec (ofC x k j) (irec (ofJ x k) s j) 3 := by
  rw [irec, ofJ]
theorem bfs_go {x : tabE.T} {k : Int} {j : Nat} {s s0 : OS} (hj : j < 10000) (h : (j : Int) < s.2.length) (e : bfs x k 10000 0 s0 = bfs x k (10000 - j) j s) : bfs x k 10000 0 s0 = bfs x k (10000 - (j + 1)) (j + 1) (ofJ x k s j) := by
  rw [e, show 10000 - j = (10000 - (j + 1)) + 1 by omega, bfs, if_pos (by omega)]
theorem bfs_end {x : tabE.T} {k : Int} {j : Nat} {s : OS} (h : ¬ (j : Int) < s.2.length) : ∀ f, bfs x k f j s = s
  | 0 => rfl
  | f + 1 => by rw [bfs, if_neg (by omega)]
theorem ofI_skip {x : tabE.T} {i : Nat} (h : (ofL x i).1.getD i 0 ≥ 0) : ofL x (i + 1) = ofL x i := by
  show ofI x (ofL x i) i = _
  unfold ofI; rw [if_pos h]
theorem ofI_go {x : tabE.T} {i : Nat} (h : ¬ (ofL x i).1.getD i 0 ≥ 0) : ofL x (i + 1) = ((bfs x (ofL x i).2 10000 0 ((ofL x i).1.set i (ofL x i).2, [(i : Int)])).1, (ofL x i).2 + 1) := by
  show ofI x (ofL x i) i = _
  unfold ofI; rw [if_neg h]
theorem rep_step {α : Type} {a b : α} : ∀ (i n : Nat), i < n → List.replicate (i + 1) a ++ List.replicate (n - (i + 1)) b = (List.replicate i a ++ List.replicate (n - i) b).set i a
  | 0, n + 1, _ => by simp [List.replicate_succ]
  | i + 1, n + 1, h => by
    have := rep_step (a := a) (b := b) i n (by omega)
    show a :: (List.replicate (i + 1) a ++ List.replicate (n + 1 - (i + 1 + 1)) b) = (a :: (List.replicate i a ++ List.replicate (n + 1 - (i + 1)) b)).set (i + 1) a
    rw [List.set_cons_succ, show n + 1 - (i + 1 + 1) = n - (i + 1) by omega, show n + 1 - (i + 1) = n - i by omega, this]
attribute [irreducible] ofC ofJ bfs ofI
def loopO1 (n : Nat) : Spec Nat where
  inv i := i ≤ n
  live i := [(16, .s (.int .i64 i))]
  keep := [0, 3, 14, 15]
  heap i := [(1, .row i64E 3 (List.replicate i (-1) ++ List.replicate (n - i) 0))]
  keepH := [0]
  mu i := n - i
def loopO2 (x : tabE.T) : Spec Nat where
  inv i := i ≤ x.1.2.length
  live i := [(25, .s (.int .i64 i)), (5, .s (.int .i64 (ofL x i).2))]
  keep := [0, 3, 23, 24]
  heap i := [(1, .row i64E 3 (ofL x i).1)]
  keepH := [0]
  mu i := x.1.2.length - i
def loopO3 (x : tabE.T) (k : Int) (s : OS) : Spec Nat where
  inv j := j ≤ (irec (ofJ x k) s j).2.length ∧ bfs x k 10000 0 s = bfs x k (10000 - j) j (irec (ofJ x k) s j)
  live j := [(8, .s (.int .i64 j)), (7, .s (.own 2 0 (irec (ofJ x k) s j).2.length))]
  keep := [0, 3, 5, 6, 23, 24, 25]
  heap j := [(1, .row i64E 3 (irec (ofJ x k) s j).1), (2, .row i64E 3 (irec (ofJ x k) s j).2)]
  keepH := [0]
  mu j := 10000 - j
def loopO4 (x : tabE.T) (k : Int) (j : Nat) (s : OS) : Spec Nat where
  inv c := c ≤ 3
  live c := [(45, .s (.int .i64 c)), (7, .s (.own 2 0 (irec (ofC x k j) s c).2.length))]
  keep := [0, 3, 5, 6, 8, 23, 24, 25]
  heap c := [(1, .row i64E 3 (irec (ofC x k j) s c).1), (2, .row i64E 3 (irec (ofC x k j) s c).2)]
  keepH := [0]
  mu c := 3 - c
set_option maxHeartbeats 8000000 in
theorem shOf_vc (x : tabE.T) (g : Good x) : afun ⟨tyL, [(30, trianglesC), (22, oppC)], []⟩ Try.f86 [(ETy.pt tabE).av (some x)] (fun v => v = .s (.sl i64E (ofR x))) := by
  have hn : x.1.2.length ≤ 8192 := g.fit.2.2.1
  repeat' (conv => whnf
           first | done | refine Need.intro (by first | rfl | omega | (simp only [i64ok] at *; omega)) ?_ | refine Need.intro (Hold.out ?_) ?_ | refine Give.intro fun _ => ?_ | refine Both.intro ?_ ?_ | refine BIf.and ?_ | refine BIf.or ?_ | refine BIf.eqi (fun _ => ?_) (fun _ => ?_) | refine BIf.nei (fun _ => ?_) (fun _ => ?_) | refine BIf.dec (fun _ => ?_) (fun _ => ?_) | refine BIf.nt ?_ | refine BIf.intro (fun _ => ?_) (fun _ => ?_) | ((first | (with_reducible show Or (∃ n, rounds (acode _ (Code.seq (Code.region 3 _ _) _)) _ n _) _) | (with_reducible show Or (∃ n, rounds (acode _ (Code.seq (Code.seq (Code.region 3 _ _) _) _)) _ n _) _) | (with_reducible show Or (∃ n, rounds (acode _ (Code.seq (Code.seq (Code.seq (Code.region 3 _ _) _) _) _)) _ n _) _) | (with_reducible show Or (∃ n, rounds (acode _ (Code.seq (Code.seq (Code.seq (Code.seq (Code.region 3 _ _) _) _) _) _)) _ n _) _) | (with_reducible show Or (∃ n, rounds (acode _ (Code.block _ (Code.seq (Code.region 3 _ _) _))) _ n _) _) | (with_reducible show Or (∃ n, rounds (acode _ (Code.block _ (Code.seq (Code.seq (Code.region 3 _ _) _) _))) _ n _) _) | (with_reducible show Or (∃ n, rounds (acode _ (Code.block _ (Code.seq (Code.seq (Code.seq (Code.region 3 _ _) _) _) _))) _ n _) _) | (with_reducible show Or (∃ n, rounds (acode _ (Code.block _ (Code.seq (Code.seq (Code.seq (Code.seq (Code.region 3 _ _) _) _) _) _))) _ n _) _)); refine Or.inr (Exists.intro (Nat) (Exists.intro (loopO1 x.1.2.length) (And.intro (Exists.intro (0) (And.intro (Hold.out ?_) (And.intro ?_ (And.intro ?_ rfl)))) (fun i hi => ?_))))) | ((with_reducible show (∃ y, And (Spec.inv (loopO1 _) y) _)); refine Exists.intro (i + 1) (And.intro (Hold.out ?_) (And.intro (And.intro ?_ (And.intro ?_ rfl)) (Hold.out ?_)))) | ((first | (with_reducible show Or (∃ n, rounds (acode _ (Code.seq (Code.region 9 _ _) _)) _ n _) _) | (with_reducible show Or (∃ n, rounds (acode _ (Code.seq (Code.seq (Code.region 9 _ _) _) _)) _ n _) _) | (with_reducible show Or (∃ n, rounds (acode _ (Code.seq (Code.seq (Code.seq (Code.region 9 _ _) _) _) _)) _ n _) _) | (with_reducible show Or (∃ n, rounds (acode _ (Code.seq (Code.seq (Code.seq (Code.seq (Code.region 9 _ _) _) _) _) _)) _ n _) _) | (with_reducible show Or (∃ n, rounds (acode _ (Code.block _ (Code.seq (Code.region 9 _ _) _))) _ n _) _) | (with_reducible show Or (∃ n, rounds (acode _ (Code.block _ (Code.seq (Code.seq (Code.region 9 _ _) _) _))) _ n _) _) | (with_reducible show Or (∃ n, rounds (acode _ (Code.block _ (Code.seq (Code.seq (Code.seq (Code.region 9 _ _) _) _) _))) _ n _) _) | (with_reducible show Or (∃ n, rounds (acode _ (Code.block _ (Code.seq (Code.seq (Code.seq (Code.seq (Code.region 9 _ _) _) _) _) _))) _ n _) _)); refine Or.inr (Exists.intro (Nat) (Exists.intro (loopO2 x) (And.intro (Exists.intro (0) (And.intro (Hold.out ?_) (And.intro ?_ (And.intro ?_ rfl)))) (fun i hi => ?_))))) | ((with_reducible show (∃ y, And (Spec.inv (loopO2 _) y) _)); refine Exists.intro (i + 1) (And.intro (Hold.out ?_) (And.intro (And.intro ?_ (And.intro ?_ rfl)) (Hold.out ?_)))) | ((first | (with_reducible show Or (∃ n, rounds (acode _ (Code.seq (Code.region 15 _ _) _)) _ n _) _) | (with_reducible show Or (∃ n, rounds (acode _ (Code.seq (Code.seq (Code.region 15 _ _) _) _)) _ n _) _) | (with_reducible show Or (∃ n, rounds (acode _ (Code.seq (Code.seq (Code.seq (Code.region 15 _ _) _) _) _)) _ n _) _) | (with_reducible show Or (∃ n, rounds (acode _ (Code.seq (Code.seq (Code.seq (Code.seq (Code.region 15 _ _) _) _) _) _)) _ n _) _) | (with_reducible show Or (∃ n, rounds (acode _ (Code.block _ (Code.seq (Code.region 15 _ _) _))) _ n _) _) | (with_reducible show Or (∃ n, rounds (acode _ (Code.block _ (Code.seq (Code.seq (Code.region 15 _ _) _) _))) _ n _) _) | (with_reducible show Or (∃ n, rounds (acode _ (Code.block _ (Code.seq (Code.seq (Code.seq (Code.region 15 _ _) _) _) _))) _ n _) _) | (with_reducible show Or (∃ n, rounds (acode _ (Code.block _ (Code.seq (Code.seq (Code.seq (Code.seq (Code.region 15 _ _) _) _) _) _))) _ n _) _)); refine Or.inr (Exists.intro (Nat) (Exists.intro (loopO3 x (ofL x i).2 ((ofL x i).1.set i (ofL x i).2, [(i : Int)])) (And.intro (Exists.intro (0) (And.intro (Hold.out ?_) (And.intro ?_ (And.intro ?_ rfl)))) (fun j hj => ?_))))) | ((with_reducible show (∃ y, And (Spec.inv (loopO3 _ _ _) y) _)); refine Exists.intro (j + 1) (And.intro (Hold.out ?_) (And.intro (And.intro ?_ (And.intro ?_ rfl)) (Hold.out ?_)))) | ((first | (with_reducible show Or (∃ n, rounds (acode _ (Code.seq (Code.region 18 _ _) _)) _ n _) _) | (with_reducible show Or (∃ n, rounds (acode _ (Code.seq (Code.seq (Code.region 18 _ _) _) _)) _ n _) _) | (with_reducible show Or (∃ n, rounds (acode _ (Code.seq (Code.seq (Code.seq (Code.region 18 _ _) _) _) _)) _ n _) _) | (with_reducible show Or (∃ n, rounds (acode _ (Code.seq (Code.seq (Code.seq (Code.seq (Code.region 18 _ _) _) _) _) _)) _ n _) _) | (with_reducible show Or (∃ n, rounds (acode _ (Code.block _ (Code.seq (Code.region 18 _ _) _))) _ n _) _) | (with_reducible show Or (∃ n, rounds (acode _ (Code.block _ (Code.seq (Code.seq (Code.region 18 _ _) _) _))) _ n _) _) | (with_reducible show Or (∃ n, rounds (acode _ (Code.block _ (Code.seq (Code.seq (Code.seq (Code.region 18 _ _) _) _) _))) _ n _) _) | (with_reducible show Or (∃ n, rounds (acode _ (Code.block _ (Code.seq (Code.seq (Code.seq (Code.seq (Code.region 18 _ _) _) _) _) _))) _ n _) _)); refine Or.inr (Exists.intro (Nat) (Exists.intro (loopO4 x (ofL x i).2 j (irec (ofJ x (ofL x i).2) ((ofL x i).1.set i (ofL x i).2, [(i : Int)]) j)) (And.intro (Exists.intro (0) (And.intro (Hold.out ?_) (And.intro ?_ (And.intro ?_ rfl)))) (fun c hc => ?_))))) | ((with_reducible show (∃ y, And (Spec.inv (loopO4 _ _ _ _) y) _)); refine Exists.intro (c + 1) (And.intro (Hold.out ?_) (And.intro (And.intro ?_ (And.intro ?_ rfl)) (Hold.out ?_)))) | refine And.intro rfl ?_ | refine And.intro (HoldEq.out ?_) ?_ | refine And.intro (HoldOb.out ?_) ?_ | exact True.intro | refine HoldEq.out ?_ | refine HoldObs.out ?_ | refine KCheck.intro (by kernel_rfl) ?_ | refine HoldOr.out ?_)
  all_goals try first | refine HoldEq.int ?_ | refine HoldEq.bool ?_ | refine HoldEq.sl ?_ | refine HoldEq.own ?_ | refine HoldEq.ownS ?_ ?_ | refine HoldOb.row ?_ | refine HoldOb.map ?_ | refine HoldOb.gmap ?_ | refine HoldOb.grow ?_ | refine HoldObs.row ?_
  all_goals try simp only [take_one, take_one', set_one, take_all, List.length_singleton, rec_self, Int.toNat_natCast, pair_eta, ETy.dflt, List.getD_cons_zero, List.getD_cons_succ, Int.reduceToNat, Int.reduceAdd, Int.reduceSub, Int.reduceNeg, Nat.reduceAdd, Nat.zero_add, loopO1, loopO2, loopO3, loopO4] at *
  all_goals try (refine Hold.intro ?_; omega)
  · exact rep_step _ _ (by omega)
  · have e : i = x.1.2.length := by omega
    subst e
    rw [Nat.sub_self]; simp only [List.replicate_zero, List.append_nil]; rfl
  · rw [ofI_skip (by assumption)]
  · rw [ofI_skip (by assumption)]
  all_goals try
    have hL := ofL_ok g i (by omega)
    have h0 := start_ok (n := x.1.2.length) (i := i) hL.2.1 hL.1 (by omega) (by assumption)
  · exact Hold.intro ⟨Nat.zero_le _, rfl⟩
  · rfl
  all_goals try have hJ := ofJs_ok g hL.2.1 h0 j
  all_goals try
    have hC := ofCs_ok g hL.2.1 (j := j) hJ c
    have hlen := ofCs_len (x := x) (k := (ofL x i).2) (j := j) (s := irec (ofJ x (ofL x i).2) ((ofL x i).1.set i (ofL x i).2, [(i : Int)]) j) c
    have hd := hC.td j (by omega)
  all_goals try have hjc := hJ.cnt
  all_goals try have hcc := hC.cnt
  all_goals try (refine Hold.intro ?_; (try unfold i64ok); omega)
  all_goals try (exact Hold.intro (show @LE.le Int _ (3 * (irec (ofC x (ofL x i).2 j) (irec (ofJ x (ofL x i).2) ((ofL x i).1.set i (ofL x i).2, [(i : Int)]) j) c).2.getD j 0 + c) (1000000 : Int) by omega))
  all_goals try (rw [ofC_s, ofC_t (by assumption) (by assumption)]; first | done | exact List.length_append)
  all_goals try (rw [ofC_s, ofC_f1 (by assumption) (by assumption)]; done)
  all_goals try (rw [ofC_s, ofC_f2 (by assumption)]; done)
  all_goals try (
    have := opp_in g ‹_›
    first
      | (refine Hold.intro ⟨by decide, ?_⟩; rw [td3 (by assumption)]; unfold i64ok; omega)
      | (refine Hold.intro ?_; rw [td3 (by assumption)]; omega))
  all_goals try (
    have e : c = 3 := by omega
    subst e
    first
      | (rw [ofJ_s]; done)
      | exact Hold.intro ⟨by rw [ofJ_s]; omega, bfs_go (by omega) (by assumption) hj.2⟩)
  · rw [ofI_go (by assumption)]
  · rw [ofI_go (by assumption), hj.2, bfs_end (by assumption)]
  · have e : i = x.1.2.length := by omega
    rw [e]; unfold ofR
    rw [List.drop_zero, List.take_of_length_le (by rw [(ofL_ok g _ (Nat.le_refl _)).1]; exact Nat.le_refl _)]
def shOfC : List AV → Option Res := con1P tabE (fun x => some (none, some (Good x), .s (.sl i64E (ofR x))))
theorem shOfRow : FnRow Try.prog 86 shOfC := ⟨con1P_ok fun x r h => by cases h; exact fn_by (rulesF (fn := [(30, trianglesC), (22, oppC)]) (fr := []) ⟨trianglesRow, oppRow, trivial⟩ trivial) Try.func86 (by kernel_rfl) fun _ h => shOf_vc x h, _, Try.func86, by kernel_rfl, by kernel_rfl⟩
end S1

open Go Go.Vm Go.Proofs
namespace S1
set_option maxRecDepth 100000

/-! shells -/
inductive Conn (A : Nat → Nat → Prop) : Nat → Nat → Prop
  | refl (t : Nat) : Conn A t t
  | step {t u w : Nat} : Conn A t u → A u w → Conn A t w
theorem Conn.trans {A : Nat → Nat → Prop} {t u w : Nat} (h : Conn A t u) (k : Conn A u w) : Conn A t w := by
  induction k with
  | refl => exact h
  | step _ a ih => exact .step ih a
theorem Conn.symm {A : Nat → Nat → Prop} (hs : ∀ t u, A t u → A u t) {t u : Nat} (h : Conn A t u) : Conn A u t := by
  induction h with
  | refl => exact .refl _
  | step _ a ih => exact Conn.trans (.step (.refl _) (hs _ _ a)) ih
theorem Conn.mono {A B : Nat → Nat → Prop} (h : ∀ t u, A t u → B t u) {t u : Nat} (k : Conn A t u) : Conn B t u := by
  induction k with
  | refl => exact .refl _
  | step _ a ih => exact .step ih (h _ _ a)
/-- Triangles with an edge in common. -/
def Adj (x : tabE.T) (i j : Nat) : Prop := ∃ c, tHas x c = true ∧ (c / 3).toNat = i ∧ 0 ≤ tOpp x c ∧ (tOpp x c / 3).toNat = j
theorem Full.opp_opp {x : tabE.T} (g : Full x) {c : Int} (h : 0 ≤ tOpp x c) : tOpp x (tOpp x c) = c := by
  obtain ⟨h1, h2, h3⟩ := g.opp h
  exact g.opp_is h1 (by rw [h3])
theorem Full.adj_symm {x : tabE.T} (g : Full x) {i j : Nat} (h : Adj x i j) : Adj x j i := by
  obtain ⟨c, h1, h2, h3, h4⟩ := h
  exact ⟨tOpp x c, (g.opp h3).2.1, h4, by rw [g.opp_opp h3]; exact (tHas_iff.1 h1).1, by rw [g.opp_opp h3]; exact h2⟩
theorem adj_lt {x : tabE.T} (g : Good x) {i j : Nat} (h : Adj x i j) : i < x.1.2.length ∧ j < x.1.2.length := by
  obtain ⟨c, h1, h2, h3, h4⟩ := h
  exact ⟨by rw [← h2]; exact (cor_tri h1).1, by rw [← h4]; exact (cor_tri (g.opp h3).2.1).1⟩
abbrev lb (l : List Int) (t : Nat) : Int := l.getD t 0
theorem lb_set {l : List Int} {i t : Nat} {k : Int} (hi : i < l.length) : lb (l.set i k) t = if i = t then k else lb l t := by
  unfold lb
  rw [List.getD_eq_getElem?_getD, List.getElem?_set, List.getD_eq_getElem?_getD]
  split
  · rfl
  · rfl
/-- Labels: closed, and each label's triangles hang together. -/
structure Lab (x : tabE.T) (out : List Int) (n : Int) : Prop where
  len : out.length = x.1.2.length
  lt : ∀ t, t < x.1.2.length → lb out t < n
  clo : ∀ t u, Adj x t u → 0 ≤ lb out t → lb out u = lb out t
  con : ∀ t u, t < x.1.2.length → u < x.1.2.length → 0 ≤ lb out t → lb out t = lb out u → Conn (Adj x) t u
/-- One shell, as far as it is known. -/
structure Bf (x : tabE.T) (o0 : List Int) (n : Int) (f : Nat) (s : OS) : Prop where
  len : s.1.length = x.1.2.length
  old : ∀ t, t < x.1.2.length → lb s.1 t = lb o0 t ∨ (lb s.1 t = n ∧ lb o0 t < 0)
  q : ∀ t, t < x.1.2.length → lb s.1 t = n → (t : Int) ∈ s.2
  qn : ∀ t ∈ s.2, 0 ≤ t ∧ t.toNat < x.1.2.length ∧ lb s.1 t.toNat = n
  con : ∀ t ∈ s.2, Conn (Adj x) f t.toNat
theorem bf_step {x : tabE.T} (g : Full x) {o0 : List Int} {n : Int} {f : Nat} (hn : 0 ≤ n) (ho : ∀ t, t < x.1.2.length → lb o0 t < n) {j : Nat} {s : OS} (h : Bf x o0 n f s) (hj : j < s.2.length) (c : Nat) (hc : c < 3) :
    Bf x o0 n f (ofC x n j s c) ∧ (ofC x n j s c).2.getD j 0 = s.2.getD j 0 ∧ (∀ t, t < x.1.2.length → 0 ≤ lb s.1 t → lb (ofC x n j s c).1 t = lb s.1 t) ∧ (s.2.length ≤ (ofC x n j s c).2.length) ∧
    (0 ≤ tOpp x (3 * s.2.getD j 0 + c) → 0 ≤ lb (ofC x n j s c).1 (tOpp x (3 * s.2.getD j 0 + c) / 3).toNat) ∧ (∀ i, i < s.2.length → (ofC x n j s c).2.getD i 0 = s.2.getD i 0) := by
  unfold ofC
  split
  · rename_i hh
    obtain ⟨h1, h2⟩ := hh
    obtain ⟨k1, k2, _⟩ := g.opp h1
    have hm : s.2.getD j 0 ∈ s.2 := getD_mem hj
    obtain ⟨q1, q2, q3⟩ := h.qn _ hm
    have hu := cor_tri k2
    have ho' := tHas_iff.1 k2
    have hu1 := hu.1
    have happ : ∀ i, i < s.2.length → (s.2 ++ [tOpp x (3 * s.2.getD j 0 + c) / 3]).getD i 0 = s.2.getD i 0 := fun i hi => by
      rw [List.getD_eq_getElem?_getD, List.getElem?_append_left hi, ← List.getD_eq_getElem?_getD]
    have hadj : Adj x (s.2.getD j 0).toNat (tOpp x (3 * s.2.getD j 0 + c) / 3).toNat := ⟨_, k1, by omega, h1, rfl⟩
    refine ⟨⟨by show (s.1.set _ _).length = _; rw [List.length_set]; exact h.len, fun t ht => ?_, fun t ht e => ?_, fun t ht => ?_, fun t ht => ?_⟩, happ j hj, fun t ht h0 => ?_, by show _ ≤ (s.2 ++ [_]).length; rw [List.length_append]; omega, fun _ => ?_, happ⟩
    · show lb (s.1.set _ n) t = _ ∨ (lb (s.1.set _ n) t = _ ∧ _)
      rw [lb_set (by rw [h.len]; exact hu1)]
      split
      · rename_i e
        refine .inr ⟨rfl, ?_⟩
        rcases h.old t ht with e2 | e2
        · rw [← e2, ← e]; exact h2
        · exact e2.2
      · exact h.old t ht
    · have e : lb (s.1.set (tOpp x (3 * s.2.getD j 0 + c) / 3).toNat n) t = n := e
      show (t : Int) ∈ s.2 ++ [_]
      rw [lb_set (by rw [h.len]; exact hu1)] at e
      split at e
      · rename_i e2
        exact List.mem_append_right _ (List.mem_singleton.2 (by omega))
      · exact List.mem_append_left _ (h.q t ht e)
    · have ht : t ∈ s.2 ++ [_] := ht
      show 0 ≤ t ∧ t.toNat < _ ∧ lb (s.1.set _ n) t.toNat = n
      rw [lb_set (by rw [h.len]; exact hu1)]
      rcases List.mem_append.1 ht with ht | ht
      · obtain ⟨a, b, d⟩ := h.qn t ht
        refine ⟨a, b, ?_⟩
        split
        · rfl
        · exact d
      · rw [List.mem_singleton] at ht
        refine ⟨by omega, by rw [ht]; exact hu1, ?_⟩
        rw [if_pos (by rw [ht])]
    · have ht : t ∈ s.2 ++ [_] := ht
      rcases List.mem_append.1 ht with ht | ht
      · exact h.con t ht
      · rw [List.mem_singleton.1 ht]
        exact .step (h.con _ hm) hadj
    · show lb (s.1.set _ n) t = _
      rw [lb_set (by rw [h.len]; exact hu1), if_neg (fun e => by rw [← e] at h0; have : lb s.1 (tOpp x (3 * s.2.getD j 0 + c) / 3).toNat < 0 := h2; omega)]
    · show 0 ≤ lb (s.1.set _ n) _
      rw [lb_set (by rw [h.len]; exact hu1), if_pos rfl]; exact hn
  · rename_i hh
    exact ⟨h, rfl, fun _ _ _ => rfl, Nat.le_refl _, fun h0 => by
      by_cases e : s.1.getD (tOpp x (3 * s.2.getD j 0 + c) / 3).toNat 0 < 0
      · exact absurd ⟨h0, e⟩ hh
      · show 0 ≤ s.1.getD _ 0; omega, fun _ _ => rfl⟩
/-- What is beside the triangles looked at so far has a label. -/
def Seen (x : tabE.T) (s : OS) (j : Nat) : Prop := ∀ i, i < j → ∀ u, Adj x (s.2.getD i 0).toNat u → 0 ≤ lb s.1 u
theorem bf_J {x : tabE.T} (g : Full x) {o0 : List Int} {n : Int} {f : Nat} (hn : 0 ≤ n) (ho : ∀ t, t < x.1.2.length → lb o0 t < n) {j : Nat} {s : OS} (h : Bf x o0 n f s) (hj : j < s.2.length) (hs : Seen x s j) :
    Bf x o0 n f (ofJ x n s j) ∧ Seen x (ofJ x n s j) (j + 1) ∧ s.2.length ≤ (ofJ x n s j).2.length := by
  have key : ∀ c, c ≤ 3 → Bf x o0 n f (irec (ofC x n j) s c) ∧ (irec (ofC x n j) s c).2.getD j 0 = s.2.getD j 0 ∧ (∀ t, t < x.1.2.length → 0 ≤ lb s.1 t → 0 ≤ lb (irec (ofC x n j) s c).1 t) ∧ s.2.length ≤ (irec (ofC x n j) s c).2.length ∧
      (∀ d : Nat, d < c → 0 ≤ tOpp x (3 * s.2.getD j 0 + d) → 0 ≤ lb (irec (ofC x n j) s c).1 (tOpp x (3 * s.2.getD j 0 + d) / 3).toNat) ∧ (∀ i, i < s.2.length → (irec (ofC x n j) s c).2.getD i 0 = s.2.getD i 0) := by
    intro c
    induction c with
    | zero => exact fun _ => ⟨h, rfl, fun _ _ h => h, Nat.le_refl _, fun d hd => by omega, fun _ _ => rfl⟩
    | succ c ih =>
      intro hc
      obtain ⟨i1, i2, i3, i4, i5, i6⟩ := ih (by omega)
      obtain ⟨b1, b2, b3, b4, b5, b6⟩ := bf_step g hn ho (j := j) i1 (Nat.lt_of_lt_of_le hj i4) c (by omega)
      rw [ofC_s]
      rw [i2] at b2 b5
      refine ⟨b1, b2, fun t ht h0 => ?_, by omega, fun d hd h0 => ?_, fun i hi => by rw [b6 i (by omega), i6 i hi]⟩
      · have := i3 t ht h0
        rw [b3 t ht this]; exact this
      · have hlt := (cor_tri (g.opp h0).2.1).1
        by_cases e : d = c
        · subst e; exact b5 h0
        · have := i5 d (by omega) h0
          rw [b3 _ hlt this]; exact this
  obtain ⟨i1, i2, i3, i4, i5, i6⟩ := key 3 (Nat.le_refl _)
  unfold ofJ
  refine ⟨i1, fun i hi u hu => ?_, i4⟩
  rw [i6 i (by omega)] at hu
  by_cases e : i = j
  · subst e
    obtain ⟨c, c1, c2, c3, c4⟩ := hu
    have hq := h.qn _ (getD_mem hj)
    have hc := tHas_iff.1 c1
    have e : c = 3 * s.2.getD i 0 + ((c % 3).toNat : Nat) := by omega
    rw [← c4, e]
    exact i5 (c % 3).toNat (by omega) (by rw [← e]; exact c3)
  · exact i3 u (adj_lt g.toGood hu).2 (hs i (by omega) u hu)
theorem bf_all {x : tabE.T} (g : Full x) {o0 : List Int} {n : Int} {f : Nat} (hn : 0 ≤ n) (ho : ∀ t, t < x.1.2.length → lb o0 t < n) : ∀ (k j : Nat) {s : OS}, Bf x o0 n f s → OOk x.1.2.length s → j ≤ s.2.length → Seen x s j → x.1.2.length < k + j →
    Bf x o0 n f (bfs x n k j s) ∧ Seen x (bfs x n k j s) (bfs x n k j s).2.length
  | 0, j, s, h, ok, hj, hs, hk => by
    have := ok.cnt; omega
  | k + 1, j, s, h, ok, hj, hs, hk => by
    unfold bfs
    split
    · rename_i hlt
      obtain ⟨b1, b2, b3⟩ := bf_J g hn ho h hlt hs
      exact bf_all g hn ho k (j + 1) b1 (ofJ_ok g.toGood hn ok) (by omega) b2 (by omega)
    · have e : s.2.length = j := by omega
      exact ⟨h, by rw [e]; exact hs⟩
theorem lab_next {x : tabE.T} (g : Full x) {out : List Int} {n : Int} (hn : 0 ≤ n) (h : Lab x out n) {i : Nat} (hi : i < x.1.2.length) (hl : ¬ lb out i ≥ 0) :
    Lab x (bfs x n 10000 0 (out.set i n, [(i : Int)])).1 (n + 1) ∧ lb (bfs x n 10000 0 (out.set i n, [(i : Int)])).1 i = n ∧ (∀ t, t < x.1.2.length → 0 ≤ lb out t → lb (bfs x n 10000 0 (out.set i n, [(i : Int)])).1 t = lb out t) ∧
    ∀ t, t < x.1.2.length → lb (bfs x n 10000 0 (out.set i n, [(i : Int)])).1 t = lb out t ∨ (lb (bfs x n 10000 0 (out.set i n, [(i : Int)])).1 t = n ∧ lb out t < 0) := by
  have hlen : x.1.2.length ≤ 8192 := g.fit.2.2.1
  have h0 : Bf x out n i (out.set i n, [(i : Int)]) := by
    refine ⟨by rw [List.length_set]; exact h.len, fun t ht => ?_, fun t ht e => ?_, fun t ht => ?_, fun t ht => ?_⟩
    · show lb (out.set i n) t = _ ∨ (lb (out.set i n) t = n ∧ _)
      rw [lb_set (by rw [h.len]; exact hi)]
      split
      · rename_i e; subst e; exact .inr ⟨rfl, by omega⟩
      · exact .inl rfl
    · have e : lb (out.set i n) t = n := e
      rw [lb_set (by rw [h.len]; exact hi)] at e
      split at e
      · rename_i e2; exact List.mem_singleton.2 (by omega)
      · have := h.lt t ht; omega
    · rw [List.mem_singleton.1 ht]
      refine ⟨by omega, by omega, ?_⟩
      show lb (out.set i n) _ = n
      rw [lb_set (by rw [h.len]; exact hi), if_pos (by omega)]
    · rw [List.mem_singleton.1 ht]; exact .refl _
  obtain ⟨b, hs⟩ := bf_all g hn h.lt 10000 0 h0 (start_ok hn h.len hi hl) (Nat.zero_le _) (fun i hi => by omega) (by omega)
  have hin : (i : Int) ∈ (bfs x n 10000 0 (out.set i n, [(i : Int)])).2 := by
    have key : ∀ (k j : Nat) (s : OS), (i : Int) ∈ s.2 → (i : Int) ∈ (bfs x n k j s).2 := fun k => by
      induction k with
      | zero => exact fun j s h => (by unfold bfs; exact h)
      | succ k ih =>
        intro j s hm
        unfold bfs
        split
        · refine ih _ _ ?_
          have : ∀ c, (i : Int) ∈ (irec (ofC x n j) s c).2 := fun c => by
            induction c with
            | zero => exact hm
            | succ c ih2 =>
              rw [ofC_s]
              generalize irec (ofC x n j) s c = S at ih2
              unfold ofC; split
              · exact List.mem_append_left _ ih2
              · exact ih2
          unfold ofJ
          exact this 3
        · exact hm
    exact key _ _ _ (List.mem_singleton.2 rfl)
  generalize bfs x n 10000 0 (out.set i n, [(i : Int)]) = s at *
  have hold : ∀ t, t < x.1.2.length → 0 ≤ lb out t → lb s.1 t = lb out t := fun t ht h0 => by
    rcases b.old t ht with e | e
    · exact e
    · omega
  refine ⟨⟨b.len, fun t ht => ?_, fun t u ha h0 => ?_, fun t u ht hu h0 e => ?_⟩, (b.qn _ hin).2.2, hold, b.old⟩
  · rcases b.old t ht with e | e
    · rw [e]; have := h.lt t ht; omega
    · rw [e.1]; omega
  · obtain ⟨ht, hu⟩ := adj_lt g.toGood ha
    rcases b.old t ht with e | e
    · rw [e] at h0 ⊢
      have k := h.clo t u ha h0
      rw [hold u hu (by rw [k]; exact h0)]; exact k
    · obtain ⟨idx, hidx, e2⟩ := List.mem_iff_getElem.1 (b.q t ht e.1)
      have hsu : 0 ≤ lb s.1 u := hs idx hidx u (by rw [List.getD_eq_getElem?_getD, List.getElem?_eq_getElem hidx]; show Adj x (s.2[idx]).toNat u; rw [e2]; exact ha)
      rcases b.old u hu with k | k
      · rw [k] at hsu
        have := h.clo u t (g.adj_symm ha) hsu
        omega
      · rw [k.1, e.1]
  · rcases b.old t ht with k | k
    · rw [k] at h0 e
      rcases b.old u hu with k2 | k2
      · rw [k2] at e; exact h.con t u ht hu h0 e
      · have := h.lt t ht; omega
    · rw [k.1] at e
      have c1 := b.con _ (b.q t ht k.1)
      have c2 := b.con _ (b.q u hu e.symm)
      exact Conn.trans (c1.symm fun _ _ => g.adj_symm) c2
theorem lab_all {x : tabE.T} (g : Full x) : ∀ i, i ≤ x.1.2.length → Lab x (ofL x i).1 (ofL x i).2 ∧ 0 ≤ (ofL x i).2 ∧ ∀ t, t < i → 0 ≤ lb (ofL x i).1 t
  | 0, _ => by
    have e : ∀ t, t < x.1.2.length → lb (ofL x 0).1 t = -1 := fun t ht => by
      show (List.replicate x.1.2.length (-1 : Int)).getD t 0 = -1
      rw [List.getD_eq_getElem?_getD, List.getElem?_replicate, if_pos ht]; rfl
    refine ⟨⟨List.length_replicate, fun t ht => ?_, fun t u ha h0 => ?_, fun t u ht hu h0 => ?_⟩, Int.le_refl 0, fun t ht => by omega⟩
    · rw [e t ht]; show (-1 : Int) < 0; decide
    · rw [e t (adj_lt g.toGood ha).1] at h0; omega
    · rw [e t ht] at h0; omega
  | i + 1, hi => by
    obtain ⟨h1, h2, h3⟩ := lab_all g i (by omega)
    show Lab x (ofI x (ofL x i) i).1 (ofI x (ofL x i) i).2 ∧ 0 ≤ (ofI x (ofL x i) i).2 ∧ ∀ t, t < i + 1 → 0 ≤ lb (ofI x (ofL x i) i).1 t
    unfold ofI
    split
    · rename_i h
      refine ⟨h1, h2, fun t ht => ?_⟩
      by_cases e : t = i
      · subst e; exact h
      · exact h3 t (by omega)
    · rename_i h
      obtain ⟨k1, k2, k3, _⟩ := lab_next g h2 h1 (by omega) h
      refine ⟨k1, by show 0 ≤ (ofL x i).2 + 1; omega, fun t ht => ?_⟩
      by_cases e : t = i
      · subst e
        show 0 ≤ lb (bfs x _ _ _ _).1 t
        rw [k2]; exact h2
      · show 0 ≤ lb (bfs x _ _ _ _).1 t
        rw [k3 t (by omega) (h3 t (by omega))]; exact h3 t (by omega)
/-- THE SHELLS: two triangles have one number just if they hang together. -/
theorem shell_iff {x : tabE.T} (g : Full x) {t u : Nat} (ht : t < x.1.2.length) (hu : u < x.1.2.length) : (ofR x).getD t 0 = (ofR x).getD u 0 ↔ Conn (Adj x) t u := by
  obtain ⟨h1, h2, h3⟩ := lab_all g x.1.2.length (Nat.le_refl _)
  constructor
  · exact fun e => h1.con t u ht hu (h3 t ht) e
  · intro h
    clear hu
    induction h with
    | refl => rfl
    | step _ a ih =>
      have hb := (adj_lt g.toGood a).1
      rw [ih]
      exact (h1.clo _ _ a (h3 _ hb)).symm
end S1

open Go Go.Vm Go.Proofs
namespace S1
set_option maxRecDepth 100000

/-! a table that is known -/
def laidXC (x : tabE.T) : List AV → Option Res := con1 soupE (fun s => some (none, some (laidO s = some x), (ETy.pt tabE).av (some x)))
theorem laidXRow (x : tabE.T) : FnRow Try.prog 15 (laidXC x) := ⟨con1_ok fun s r h => by
  cases h
  intro σ vals w hag hv
  refine ⟨trivial, fun hq => ?_⟩
  have := (laidRow.1 _ _ (rfl : laidC [soupE.av s] = _) σ vals w hag hv).2 trivial
  rw [show laidO s = some x from hq] at this
  exact this, _, Try.func15, by kernel_rfl, by kernel_rfl⟩
theorem nil_av {σ : Sig} {β : Places} {v : Value} (h : VRep σ β ((ETy.pt tabE).av none) v) : VRep σ β (nilO none) v := by
  have h : [v] = [Value.pointer none] := h
  exact ⟨(List.cons.inj h).1, by simp [Scal]⟩
def laidNC : List AV → Option Res := con1 soupE (fun s => some (none, some (laidO s = none), nilO none))
theorem laidNRow : FnRow Try.prog 15 laidNC := ⟨con1_ok fun s r h => by
  cases h
  intro σ vals w hag hv
  refine ⟨trivial, fun hq => ?_⟩
  have hv0 := hv
  have := (laidRow.1 _ _ (rfl : laidC [soupE.av s] = _) σ vals w hag hv).2 trivial
  rw [show laidO s = none from hq] at this
  refine this.mono fun e w' ⟨v, σ', e1, e2, e3, e4, e5, e6⟩ => ⟨v, σ', e1, e2, e3, e4, ?_, e6⟩
  exact nil_av e5, _, Try.func15, by kernel_rfl, by kernel_rfl⟩
/-! sets as maps -/
def insM (l : List Int) : ReM := l.foldl (fun m v => mset (.int .i64) m v true) []
theorem insM_succ {l : List Int} {k : Nat} (h : k < l.length) : insM (l.take (k + 1)) = mset (.int .i64) (insM (l.take k)) (l.getD k 0) true := by
  unfold insM
  rw [List.take_succ_eq_append_getElem h, List.foldl_append, List.getD_eq_getElem?_getD, List.getElem?_eq_getElem h]; rfl
theorem insM_had (l : List Int) (v : Int) : had (insM l) v = true ↔ v ∈ l := by
  have key : ∀ (l : List Int) (m : ReM), had (l.foldl (fun m v => mset (.int .i64) m v true) m) v = true ↔ (had m v = true ∨ v ∈ l) := fun l => by
    induction l with
    | nil => exact fun m => ⟨.inl, fun h => h.resolve_right (fun h => by cases h)⟩
    | cons a r ih =>
      intro m
      rw [List.foldl_cons, ih, had_set, List.mem_cons]
      by_cases e : a = v
      · subst e; simp
      · rw [if_neg e]
        exact ⟨fun h => h.imp id .inr, fun h => h.imp id (fun h => h.resolve_left (fun k => e k.symm))⟩
  unfold insM
  rw [key]
  exact ⟨fun h => h.resolve_left (fun h => by cases h), .inr⟩
theorem insM_keys (l : List Int) : (keysR (insM l)).Nodup ∧ ∀ v ∈ keysR (insM l), v ∈ l := by
  have key : ∀ (l : List Int) (m : ReM), (keysR m).Nodup → (keysR (l.foldl (fun m v => mset (.int .i64) m v true) m)).Nodup ∧ ∀ v ∈ keysR (l.foldl (fun m v => mset (.int .i64) m v true) m), v ∈ keysR m ∨ v ∈ l := fun l => by
    induction l with
    | nil => exact fun m h => ⟨h, fun v h => .inl h⟩
    | cons a r ih =>
      intro m h
      obtain ⟨k1, k2⟩ := keysR_set a m
      obtain ⟨i1, i2⟩ := ih (mset (.int .i64) m a true) (k2 h)
      refine ⟨i1, fun v hv => ?_⟩
      rcases i2 v hv with h | h
      · rcases k1 v h with h | h
        · exact .inr (by rw [h]; exact List.mem_cons_self ..)
        · exact .inl h
      · exact .inr (List.mem_cons_of_mem _ h)
  obtain ⟨a, b⟩ := key l [] List.nodup_nil
  exact ⟨a, fun v hv => (b v hv).resolve_left (fun h => by cases h)⟩
theorem insM_len (l : List Int) : (insM l).length = (keysR (insM l)).length := by unfold keysR; rw [List.length_map]
/-- How many there are: at least as many as are told, at most as many as it lies within. -/
theorem insM_ge {l F : List Int} (hn : F.Nodup) (h : ∀ v ∈ F, v ∈ l) : F.length ≤ (insM l).length := by
  rw [insM_len]
  exact len_sub F _ hn fun v hv => had_key ((insM_had l v).2 (h v hv))
theorem insM_le {l F : List Int} (h : ∀ v ∈ l, v ∈ F) : (insM l).length ≤ F.length := by
  rw [insM_len]
  exact len_sub _ F (insM_keys l).1 fun v hv => h v ((insM_keys l).2 v hv)
end S1

/- Functions with ranges over functions at their top that hand rows over. -/
namespace Go.Vm
open Go.RowKit

def afunRF (T : Tab) (SQ : SeqTab) (fn : Func) (args : List AV) (R : AV → List Ob → Prop) : Prop :=
  match fn.body with
  | some c => (St.init args).forceAll fun s => acodeR T SQ c s (postF T fn R)
  | none => False

section
variable {P : Program} {T : Tab} {SQ : SeqTab} {B B0 : Base} {w w' : World} {σ τ : Sig} {β : Places} {st : St} {tmps : Array Value} {N : Nat} {a : Act}

/-- The marks of ranges that are over, one by one. -/
theorem marks_leave {fn : Func} {st' : St} {R : Ending → World → Prop}
    (hend : ∀ (B1 : Base) (σ1 : Sig) (β1 : Places) (w' : World), B1.w = w → Grew ⟨w, σ, []⟩ B1.sg → GG B1 σ1 β1 st' tmps w' → ∃ v, (results fn tmps).run P w' = .ok v w' ∧ R (.returned v) w') (hag : Ag σ w) :
    ∀ (Ds : List Nat) (B1 : Base) (σ1 : Sig) (β1 : Places) (w' : World), Ds.Nodup → (∀ D ∈ Ds, B1.sg D = some (.deferred (some [])) ∧ w.heap.size ≤ D) → B1.w = w → Grew ⟨w, σ, []⟩ B1.sg → GG B1 σ1 β1 st' tmps w' →
      LeavesInM (FR none) 0 P fn tmps R (Ds.map mark) .returning w' := by
  intro Ds
  induction Ds with
  | cons D r ih =>
    intro B1 σ1 β1 w' hn hD hw hgr hg
    obtain ⟨hn1, hn2⟩ := List.nodup_cons.1 hn
    obtain ⟨d1, d2⟩ := hD D (List.mem_cons_self ..)
    rw [Base.relock B1 d1] at hg
    obtain ⟨_, hl2, _⟩ := hg.locked rfl
    have hdel : ∀ b, b ≠ D → (B1.sg.del D) b = B1.sg b := fun b hb => by unfold Sig.del; rw [if_neg hb]
    obtain ⟨hg2, _⟩ := hg.unlock rfl (by show B1.w.heap.size ≤ D; rw [hw]; exact d2) (by show (B1.sg.del D) D = none; unfold Sig.del; rw [if_pos rfl]) (.deferred none)
    refine ⟨by simp, .inl ⟨D, _, rfl, run_takeDeferred hl2, ih { B1 with sg := B1.sg.del D } _ _ _ hn2 (fun D' hD' => ?_) hw ⟨fun b o e => ?_, fun b hb => ?_⟩ hg2⟩⟩
    · obtain ⟨k1, k2⟩ := hD D' (List.mem_cons_of_mem _ hD')
      exact ⟨by show (B1.sg.del D) D' = _; rw [hdel _ (fun e => hn1 (e ▸ hD'))]; exact k1, k2⟩
    · have hb : b ≠ D := fun hb => by subst hb; have := hag.lt e; omega
      show ∃ o', (B1.sg.del D) b = some o' ∧ _
      rw [hdel b hb]; exact hgr.1 b o e
    · have hb : b < w.heap.size := hb
      show (B1.sg.del D) b = _
      rw [hdel b (by omega)]; exact hgr.2 b hb
  | nil =>
    intro B1 σ1 β1 w' _ _ hw hgr hg
    exact hend B1 σ1 β1 w' hw hgr hg

theorem fn_okRF (R : Rules P T) (hSQ : SeqTabOk P SQ) {f : FuncId} {fn : Func} {c : Code} (hf : P.funcs[f]? = some fn) (hb : fn.body = some c) (hok : codeOkR fn.ntmps c = true)
    {args : List AV} (hl : args.length ≤ fn.ntmps) {q : Option Prop} {u : AV} {us : List Ob} (h : goodArgs args → Opt q → afunRF T SQ fn args (fun v obs => v = u ∧ obs = us)) : FnOkF P f args (none, q, u, us) := by
  intro σ vals w hag hv
  refine ⟨trivial, fun hq => ?_⟩
  have hga := ga_init (N := fn.ntmps) hag hv hl
  have hk := h (vreps_good hv) hq
  simp only [afunRF, hb, St.forceAll_eq] at hk
  refine (callsIn_of_wp_marks (F := Fence.wide) (n := 0) hf hb trivial ?_).calls (fun _ _ hd => by cases hd)
  rw [← FR.none]
  refine acodeR_wp (B0 := ⟨w, σ, []⟩) R hSQ c hok ⟨rfl, ⟨Sig.le.refl _, fun _ _ => rfl⟩, [], rfl, List.nodup_nil, fun D hD => by cases hD⟩ hga hk fun e B1 st' a' w' hm hp h' => ?_
  have fin : (match fn.results.toList.all (resOk T st') && (nodupB (rowIds (rawAll T fn st').parts) && rowsB st'.hp (rowIds (rawAll T fn st').parts)) with
      | true => (rawAll T fn st').mapAS (renAS (rowIds (rawAll T fn st').parts)) = u ∧ obsOf st'.hp (rowIds (rawAll T fn st').parts) = us
      | false => False) → LeavesInM (FR none) 0 P fn a'.tmps (fun e w' => ∃ v σ' β', e = .returned v ∧ σ.le σ' ∧ Ag σ' w' ∧
      (∀ b, b < w.heap.size → σ' b = σ b) ∧ VRep σ' β' u v ∧ FreshL σ' w.heap.size w' us β' ∧ Below w.heap.size w w') a'.defers .returning w' := by
    intro hu
    split at hu
    case h_2 => exact hu.elim
    rename_i hallok
    rw [Bool.and_eq_true, Bool.and_eq_true] at hallok
    obtain ⟨hallok, hnd, hrows⟩ := hallok
    obtain ⟨σ1, β1, hg⟩ := h'.gg
    obtain ⟨Ds, e1, e2, e3⟩ := hm.ds
    rw [h'.defers, e1]
    refine marks_leave (w := w) (σ := σ) (st' := st') (fun B1 σ1 β1 w' hw hgr hg => ?_) hag Ds B1 σ1 β1 w' e2 e3 hm.w hm.grew hg
    have hsl : σ.le σ1 := Sig.le.trans hgr.1 hg.grew.1
    have hsb : ∀ b, b < w.heap.size → σ1 b = σ b := fun b hb => (hg.grew.2 b (by rw [hw]; exact hb)).trans (hgr.2 b hb)
    have hbel : Below w.heap.size w w' := by have := hg.bel; rw [hw] at this; exact this
    obtain ⟨vs, hrun, hall⟩ := results_run (P := P) (w := w') (fn := fn) (tmps := a'.tmps) (Q := fun r v => VRep σ1 β1 (rawOne T st' r) v) (fun r hr => by
      have hro := List.all_eq_true.1 hallok r hr
      cases r with
      | tmp t => exact ⟨_, rfl, hg.env t⟩
      | cell a t =>
        simp only [resOk] at hro
        simp only [rawOne]
        have hx := hg.env a
        split at hro
        · rename_i id i k hea
          rw [hea] at hx
          split at hro
          · rename_i v hv
            obtain ⟨p, _, hptr, _⟩ := hx
            obtain ⟨_, hrun⟩ := cLoad_sound (w := w') R.ty R.one hg.mem (t := t) (hg.env a) (p := none) (q := none) (v := v) (by rw [hea]; exact hv)
            obtain ⟨val, h1, h2⟩ := hrun trivial
            refine ⟨val, ?_, h2⟩
            rw [hptr] at h1 ⊢
            rw [loadAt_run] at h1
            simp only [asAddr, Sem.run_bind, Sem.run_pure, Result.andThen_ok]
            exact h1
          · cases hro
        · cases hro)
    refine ⟨_, hrun, _, σ1, (rowIds (rawAll T fn st').parts).map fun i => (β1[i]?).getD none, rfl, hsl, hg.mem.ag, hsb, ?_, ?_, hbel⟩
    · exact ((rawAll_rep hall).mapAS fun a v ha => ARep.ren (ids := rowIds (rawAll T fn st').parts) ha) |> fun h => by rw [hu.1] at h; exact h
    · have := nodup_fresh (w := w') hg.mem.ob (fun id ob p hi hp => by have := hg.sep id ob p hi hp; rw [hw] at this; exact this) _ hnd hrows
      rw [hu.2] at this; exact this
  cases e with
  | normal => simp only [postF, AV.force_eq] at hp; exact fin hp
  | ret => simp only [postF, AV.force_eq] at hp; exact fin hp
  | _ => exact hp.elim
end
end Go.Vm

open Go Go.Vm Go.Proofs
namespace S1
set_option maxRecDepth 100000

/-! ring.Link again: it hands its row over -/
set_option maxHeartbeats 400000 in
theorem linkF_vc (x : tabE.T) (v : Int) (g : Good x) : afunRF ⟨tyL, [(64, aroundC), (58, nextC), (59, prevC), (65, afterC), (24, vertexC)], []⟩ seqT Try.f27 [(ETy.pt tabE).av (some x), i64E.av v] (fun r obs => r = .s (.own 0 0 (linkR x v).length) ∧ obs = [.row i64E 3 (linkR x v)]) := by
  obtain ⟨hl, ha⟩ := aroundL_le g v
  have hd := getD_le ha
  have hL := lkLast_le ha (aroundL (some x) v).length
  have ho := lkO_len x (aroundL (some x) v)
  have ho2 := ho _ (Nat.le_refl _)
  repeat' (conv => whnf
           first | done | refine Need.intro (by first | rfl | omega | (simp only [i64ok] at *; omega)) ?_ | refine Need.intro (Hold.out ?_) ?_ | refine Give.intro fun _ => ?_ | refine Both.intro ?_ ?_ | refine BIf.and ?_ | refine BIf.or ?_ | refine BIf.eqi (fun _ => ?_) (fun _ => ?_) | refine BIf.nei (fun _ => ?_) (fun _ => ?_) | refine BIf.dec (fun _ => ?_) (fun _ => ?_) | refine BIf.nt ?_ | refine BIf.intro (fun _ => ?_) (fun _ => ?_) | refine Exists.intro (aroundL (some x) v) (And.intro (Hold.out ?_) (Exists.intro (loopK x (aroundL (some x) v)) ?_)) | (refine And.intro (fun X => ?_) (fun X => ?_)) | (refine And.intro (And.intro ?_ (And.intro ?_ rfl)) (fun k hk => ?_)) | (refine And.intro ?_ (And.intro ?_ rfl)) | refine And.intro rfl ?_ | refine And.intro (HoldEq.out ?_) ?_ | refine And.intro (HoldOb.out ?_) ?_ | exact True.intro | refine HoldEq.out ?_ | refine HoldObs.out ?_ | refine KCheck.intro (by kernel_rfl) ?_ | refine HoldOr.out ?_)
  all_goals try first | refine HoldEq.int ?_ | refine HoldEq.bool ?_ | refine HoldEq.sl ?_ | refine HoldEq.own ?_ | refine HoldEq.ownS ?_ ?_ | refine HoldOb.row ?_ | refine HoldOb.map ?_ | refine HoldOb.gmap ?_ | refine HoldOb.grow ?_ | refine HoldObs.row ?_
  all_goals try simp only [take_one, take_one', set_one, take_all, List.length_singleton, rec_self, Int.toNat_natCast, pair_eta, ETy.dflt, List.getD_cons_zero, List.getD_cons_succ, Int.reduceToNat, Int.reduceAdd, Int.reduceSub, Int.reduceNeg, Nat.reduceAdd, Nat.zero_add] at *
  · exact Hold.intro ⟨rfl, some x, v, rfl, fun y e => by cases e; exact g, rfl⟩
  · exact Hold.intro (Int.le_trans (hd k) (by decide))
  · exact Hold.intro (Int.le_trans (next_le g _) (by decide))
  · have := ho k (Nat.le_of_lt hk)
    refine Hold.intro ?_; omega
  · rw [lkO_succ _ _ _ hk, List.length_append]; exact HoldOb.intro rfl
  · exact lkO_succ _ _ _ hk
  · exact Hold.intro ⟨g, hL⟩
  · exact Hold.intro (Int.le_trans hL (by decide))
  · exact Hold.intro (Int.le_trans (prev_le g _) (by decide))
  · refine Hold.intro ?_; omega
  · rename_i h1 h2
    unfold linkR
    rw [if_pos ⟨h1, h2⟩, List.length_append]; rfl
  · rename_i h1 h2
    unfold linkR
    rw [if_pos ⟨h1, h2⟩]
  · rename_i h1 h2
    unfold linkR
    rw [if_neg (fun e => h2 e.2), List.append_nil]
  · rename_i h1 h2
    unfold linkR
    rw [if_neg (fun e => h2 e.2), List.append_nil]
  · rename_i h1
    unfold linkR
    rw [if_neg (fun e => h1 e.1), List.append_nil]
  · rename_i h1
    unfold linkR
    rw [if_neg (fun e => h1 e.1), List.append_nil]
set_option maxHeartbeats 4000000 in
theorem linkF0_vc (v : Int) : afunRF ⟨tyL, [(64, aroundC), (58, nextC), (59, prevC), (65, afterC), (24, vertexC)], []⟩ seqT Try.f27 [(ETy.pt tabE).av none, i64E.av v] (fun r obs => r = .s (.own 0 0 0) ∧ obs = [.row i64E 3 []]) := by
  repeat' (conv => whnf
           first | done | refine Need.intro (by first | rfl | omega | (simp only [i64ok] at *; omega)) ?_ | refine Need.intro (Hold.out ?_) ?_ | refine Give.intro fun _ => ?_ | refine Both.intro ?_ ?_ | refine BIf.and ?_ | refine BIf.or ?_ | refine BIf.eqi (fun _ => ?_) (fun _ => ?_) | refine BIf.nei (fun _ => ?_) (fun _ => ?_) | refine BIf.dec (fun _ => ?_) (fun _ => ?_) | refine BIf.nt ?_ | refine BIf.intro (fun _ => ?_) (fun _ => ?_) | refine Exists.intro [] (And.intro (Hold.out ?_) (Exists.intro loopK0 ?_)) | (refine And.intro (fun X => ?_) (fun X => ?_)) | (refine And.intro (And.intro ?_ (And.intro ?_ rfl)) (fun k hk => absurd hk (Nat.not_lt_zero _))) | refine And.intro rfl ?_ | refine And.intro (HoldEq.out ?_) ?_ | refine And.intro (HoldOb.out ?_) ?_ | exact True.intro | refine HoldEq.out ?_ | refine HoldObs.out ?_ | refine KCheck.intro (by kernel_rfl) ?_ | refine HoldOr.out ?_)
  all_goals try first | refine HoldEq.int ?_ | refine HoldEq.bool ?_ | refine HoldEq.sl ?_ | refine HoldEq.own ?_ | refine HoldEq.ownS ?_ ?_ | refine HoldOb.row ?_ | refine HoldOb.map ?_ | refine HoldOb.gmap ?_ | refine HoldOb.grow ?_ | refine HoldObs.row ?_
  all_goals try simp only [take_one, take_one', set_one, take_all, List.length_singleton, rec_self, Int.toNat_natCast, pair_eta, ETy.dflt, List.getD_cons_zero, List.getD_cons_succ, Int.reduceToNat, Int.reduceAdd, Int.reduceSub, Int.reduceNeg, Nat.reduceAdd, Nat.zero_add] at *
  exact Hold.intro ⟨rfl, none, v, rfl, fun y e => (by cases e), rfl⟩
def linkFC : List AV → Option ResF := con2 (.pt tabE) i64E (fun o v => some (none, some (∀ x, o = some x → Good x), .s (.own 0 0 (linkO o v).length), [.row i64E 3 (linkO o v)]))
theorem linkFRow : FnRowF Try.prog 27 linkFC := ⟨con2_okF fun o v r h => by
  cases h
  cases o with
  | none => exact fn_okRF (rulesF (fn := [(64, aroundC), (58, nextC), (59, prevC), (65, afterC), (24, vertexC)]) (fr := []) ⟨aroundRow, nextRow, prevRow, afterRow, vertexRow, trivial⟩ trivial) seqS Try.func27 rfl (by kernel_rfl) (Nat.le_of_ble_eq_true rfl) fun _ _ => linkF0_vc v
  | some x => exact fn_okRF (rulesF (fn := [(64, aroundC), (58, nextC), (59, prevC), (65, afterC), (24, vertexC)]) (fr := []) ⟨aroundRow, nextRow, prevRow, afterRow, vertexRow, trivial⟩ trivial) seqS Try.func27 rfl (by kernel_rfl) (Nat.le_of_ble_eq_true rfl) fun _ h => linkF_vc x v (h x rfl), _, Try.func27, by kernel_rfl, by kernel_rfl⟩
end S1

open Go Go.Vm Go.Proofs
namespace S1
set_option maxRecDepth 100000

/-! link.small -/
def smC (x : tabE.T) (i : Nat) (b : Bool) (c : Nat) : Bool := b || decide (tOpp x (3 * i + c) < 0)
def smI (x : tabE.T) (l : List Int) (m : Int) (s : Int × Bool) (i : Nat) : Int × Bool :=
  if l.getD i 0 ≠ m then s else (s.1 + 1, irec (smC x i) s.2 3)
def smS (x : tabE.T) (m : Int) (i : Nat) : Int × Bool := irec (smI x (ofR x) m) (0, false) i
def smM (x : tabE.T) (v : Int) : Int := (ofR x).getD (tCorner x v / 3).toNat 0
def smallR (x : tabE.T) (v : Int) : Bool := decide ((smS x (smM x v) (ofR x).length).1 = 1) || (decide ((smS x (smM x v) (ofR x).length).1 = 4) && !(smS x (smM x v) (ofR x).length).2)
theorem ofR_len {x : tabE.T} (g : Good x) : (ofR x).length = x.1.2.length := (ofL_ok g _ (Nat.le_refl _)).1
theorem smS_s (x : tabE.T) (m : Int) (i : Nat) : smS x m (i + 1) = smI x (ofR x) m (smS x m i) i := rfl
theorem smS_no {x : tabE.T} {m : Int} {i : Nat} (h : (ofR x).getD i 0 ≠ m) : smS x m (i + 1) = smS x m i := by
  rw [smS_s]; unfold smI; rw [if_pos h]
theorem smS_yes {x : tabE.T} {m : Int} {i : Nat} (h : (ofR x).getD i 0 = m) : smS x m (i + 1) = ((smS x m i).1 + 1, irec (smC x i) (smS x m i).2 3) := by
  rw [smS_s]; unfold smI; rw [if_neg (fun e => e h)]
theorem smS_le (x : tabE.T) (m : Int) : ∀ i, 0 ≤ (smS x m i).1 ∧ (smS x m i).1 ≤ i
  | 0 => ⟨Int.le_refl 0, Int.le_refl 0⟩
  | i + 1 => by
    have := smS_le x m i
    by_cases h : (ofR x).getD i 0 = m
    · rw [smS_yes h]; show 0 ≤ (smS x m i).1 + 1 ∧ (smS x m i).1 + 1 ≤ _; omega
    · rw [smS_no h]; omega
theorem smC_s (x : tabE.T) (i : Nat) (b : Bool) (c : Nat) : irec (smC x i) b (c + 1) = (irec (smC x i) b c || decide (tOpp x (3 * i + c) < 0)) := rfl
def loopS1 (x : tabE.T) (m : Int) : Spec Nat where
  inv i := i ≤ (ofR x).length
  live i := [(23, .s (.int .i64 i)), (7, .s (.int .i64 (smS x m i).1)), (8, .s (.bool (smS x m i).2))]
  keep := [0, 1, 6, 21, 22]
  heap _ := []
  keepH := []
  mu i := (ofR x).length - i
def loopS2 (x : tabE.T) (i : Nat) (b : Bool) : Spec Nat where
  inv c := c ≤ 3
  live c := [(11, .s (.int .i64 (3 * i + c))), (8, .s (.bool (irec (smC x i) b c)))]
  keep := [0, 1, 6, 7, 9, 21, 22, 23]
  heap _ := []
  keepH := []
  mu c := 3 - c
set_option maxHeartbeats 4000000 in
theorem small_vc (x : tabE.T) (v : Int) (h : Good x ∧ tHas x (tCorner x v) = true) : afun ⟨tyL, [(86, shOfC), (87, cornerC), (22, oppC)], []⟩ Try.f51 [(ETy.pt tabE).av (some x), i64E.av v] (fun r => r = .s (.bool (smallR x v))) := by
  have hn : x.1.2.length ≤ 8192 := h.1.fit.2.2.1
  have hl := ofR_len h.1
  have hc0 := tHas_iff.1 h.2
  have hm : (ofR x).getD ((tCorner x v).tdiv 3).toNat 0 = smM x v := by rw [td3 hc0.1]; rfl
  repeat' (conv => whnf
           first | done | refine Need.intro (by first | rfl | omega | (simp only [i64ok] at *; omega)) ?_ | refine Need.intro (Hold.out ?_) ?_ | refine Give.intro fun _ => ?_ | refine Both.intro ?_ ?_ | refine BIf.and ?_ | refine BIf.or ?_ | refine BIf.eqi (fun _ => ?_) (fun _ => ?_) | refine BIf.nei (fun _ => ?_) (fun _ => ?_) | refine BIf.dec (fun _ => ?_) (fun _ => ?_) | refine BIf.nt ?_ | refine BIf.intro (fun _ => ?_) (fun _ => ?_) | ((first | (with_reducible show Or (∃ n, rounds (acode _ (Code.seq (Code.region 5 _ _) _)) _ n _) _) | (with_reducible show Or (∃ n, rounds (acode _ (Code.seq (Code.seq (Code.region 5 _ _) _) _)) _ n _) _) | (with_reducible show Or (∃ n, rounds (acode _ (Code.seq (Code.seq (Code.seq (Code.region 5 _ _) _) _) _)) _ n _) _) | (with_reducible show Or (∃ n, rounds (acode _ (Code.seq (Code.seq (Code.seq (Code.seq (Code.region 5 _ _) _) _) _) _)) _ n _) _) | (with_reducible show Or (∃ n, rounds (acode _ (Code.block _ (Code.seq (Code.region 5 _ _) _))) _ n _) _) | (with_reducible show Or (∃ n, rounds (acode _ (Code.block _ (Code.seq (Code.seq (Code.region 5 _ _) _) _))) _ n _) _) | (with_reducible show Or (∃ n, rounds (acode _ (Code.block _ (Code.seq (Code.seq (Code.seq (Code.region 5 _ _) _) _) _))) _ n _) _) | (with_reducible show Or (∃ n, rounds (acode _ (Code.block _ (Code.seq (Code.seq (Code.seq (Code.seq (Code.region 5 _ _) _) _) _) _))) _ n _) _)); refine Or.inr (Exists.intro (Nat) (Exists.intro (loopS1 x (smM x v)) (And.intro (Exists.intro (0) (And.intro (Hold.out ?_) (And.intro ?_ (And.intro ?_ rfl)))) (fun i hi => ?_))))) | ((with_reducible show (∃ y, And (Spec.inv (loopS1 _ _) y) _)); refine Exists.intro (i + 1) (And.intro (Hold.out ?_) (And.intro (And.intro ?_ (And.intro ?_ rfl)) (Hold.out ?_)))) | ((first | (with_reducible show Or (∃ n, rounds (acode _ (Code.seq (Code.region 10 _ _) _)) _ n _) _) | (with_reducible show Or (∃ n, rounds (acode _ (Code.seq (Code.seq (Code.region 10 _ _) _) _)) _ n _) _) | (with_reducible show Or (∃ n, rounds (acode _ (Code.seq (Code.seq (Code.seq (Code.region 10 _ _) _) _) _)) _ n _) _) | (with_reducible show Or (∃ n, rounds (acode _ (Code.seq (Code.seq (Code.seq (Code.seq (Code.region 10 _ _) _) _) _) _)) _ n _) _) | (with_reducible show Or (∃ n, rounds (acode _ (Code.block _ (Code.seq (Code.region 10 _ _) _))) _ n _) _) | (with_reducible show Or (∃ n, rounds (acode _ (Code.block _ (Code.seq (Code.seq (Code.region 10 _ _) _) _))) _ n _) _) | (with_reducible show Or (∃ n, rounds (acode _ (Code.block _ (Code.seq (Code.seq (Code.seq (Code.region 10 _ _) _) _) _))) _ n _) _) | (with_reducible show Or (∃ n, rounds (acode _ (Code.block _ (Code.seq (Code.seq (Code.seq (Code.seq (Code.region 10 _ _) _) _) _) _))) _ n _) _)); refine Or.inr (Exists.intro (Nat) (Exists.intro (loopS2 x i (smS x (smM x v) i).2) (And.intro (Exists.intro (0) (And.intro (Hold.out ?_) (And.intro ?_ (And.intro ?_ rfl)))) (fun c hc => ?_))))) | ((with_reducible show (∃ y, And (Spec.inv (loopS2 _ _ _) y) _)); refine Exists.intro (c + 1) (And.intro (Hold.out ?_) (And.intro (And.intro ?_ (And.intro ?_ rfl)) (Hold.out ?_)))) | refine And.intro rfl ?_ | refine And.intro (HoldEq.out ?_) ?_ | refine And.intro (HoldOb.out ?_) ?_ | exact True.intro | refine HoldEq.out ?_ | refine HoldObs.out ?_ | refine KCheck.intro (by kernel_rfl) ?_ | refine HoldOr.out ?_)
  all_goals try first | refine HoldEq.int ?_ | refine HoldEq.bool ?_ | refine HoldEq.sl ?_ | refine HoldEq.own ?_ | refine HoldEq.ownS ?_ ?_ | refine HoldOb.row ?_ | refine HoldOb.map ?_ | refine HoldOb.gmap ?_ | refine HoldOb.grow ?_ | refine HoldObs.row ?_
  all_goals try simp only [take_one, take_one', set_one, take_all, List.length_singleton, rec_self, Int.toNat_natCast, pair_eta, ETy.dflt, List.getD_cons_zero, List.getD_cons_succ, Int.reduceToNat, Int.reduceAdd, Int.reduceSub, Int.reduceNeg, Nat.reduceAdd, Nat.zero_add, loopS1, loopS2] at *
  all_goals try (refine Hold.intro ?_; omega)
  all_goals try have hS := smS_le x (smM x v) i
  all_goals try rw [hm] at *
  · exact Hold.intro h.1
  · refine Hold.intro ⟨by decide, ?_⟩; rw [td3 hc0.1]; unfold i64ok; omega
  · refine Hold.intro ?_; rw [td3 hc0.1, hl]; omega
  · rw [smS_no (by assumption)]
  · rw [smS_no (by assumption)]
  · refine Hold.intro ?_; unfold i64ok; omega
  · rename_i h1; rw [smC_s, h1]; rfl
  · exact Hold.intro (show @LE.le Int _ (3 * (i : Int) + c) (1000000 : Int) by omega)
  · rename_i h1; rw [smC_s, h1]; rfl
  · rw [smS_yes (by assumption)]
  · rw [smS_yes (by assumption)]
    have e : c = 3 := by omega
    rw [e]
  all_goals (
    have e : i = (ofR x).length := by omega
    unfold smallR; rw [← e])
  · rename_i h1; rw [h1]; rfl
  · rename_i h1 h2; rw [h2]; rfl
  · rename_i h1 h2; rw [decide_eq_false h1, decide_eq_false h2]; rfl
def smallC : List AV → Option Res := con2P tabE i64E (fun x v => some (none, some (Good x ∧ tHas x (tCorner x v) = true), .s (.bool (smallR x v))))
theorem smallRow : FnRow Try.prog 51 smallC := ⟨con2P_ok fun x v r h => by cases h; exact fn_by (rulesF (fn := [(86, shOfC), (87, cornerC), (22, oppC)]) (fr := []) ⟨shOfRow, cornerRow, oppRow, trivial⟩ trivial) Try.func51 (by kernel_rfl) fun _ h => small_vc x v h, _, Try.func51, by kernel_rfl, by kernel_rfl⟩
end S1

open Go Go.Vm Go.Proofs
namespace S1
set_option maxRecDepth 100000

/-! link.Why, May (by link.Common's contract, still to be proved) -/
def comR (x : tabE.T) (a b : Int) : List Int := if a = b then [] else sortI ((linkR x a).filter fun v => hasI v (linkR x b))
def comO (o : Option tabE.T) (a b : Int) : List Int := onO o [] fun x => comR x a b
def comC : List AV → Option Res := con3 (.pt tabE) i64E i64E (fun o a b => some (none, some (∀ x, o = some x → Good x), .s (.sl i64E (comO o a b))))
def whyL (f : List Int) : List Int → Bool
  | [] => true
  | v :: r => hasI v f && whyL f r
def whyR (x : tabE.T) (a b : Int) : Int :=
  if !nearR x a b then 1 else if (facR x a b).length = 2 ∧ innerR x a = false ∧ innerR x b = false then 2
  else if whyL (facR x a b) (comR x a b) = false then 3 else if smallR x a then 4 else 0
theorem near_cor {x : tabE.T} (g : Good x) {a b : Int} (h : nearR x a b = true) : tHas x (tCorner x a) = true ∧ tHas x (tCorner x b) = true := by
  have key : ∀ {a b : Int}, 0 ≤ tFacing x (a, b) → tHas x (tCorner x a) = true ∧ tHas x (tCorner x b) = true := fun {a b} h => by
    unfold tFacing at h
    cases e : mget .arr2 x.2.1 (a, b) with
    | none => rw [e] at h; exact absurd h (by decide)
    | some c =>
      obtain ⟨h1, h2⟩ := g.map _ _ e
      have e1 : tVert x (tNext x c) = a := congrArg Prod.fst h2
      have e2 : tVert x (tPrev x c) = b := congrArg Prod.snd h2
      have k1 := g.cor _ (hasNP h1).1
      have k2 := g.cor _ (hasNP h1).2
      rw [e1] at k1; rw [e2] at k2
      exact ⟨k1, k2⟩
  unfold nearR at h
  rw [Bool.or_eq_true, decide_eq_true_eq, decide_eq_true_eq] at h
  rcases h with h | h
  · exact key h
  · exact (key h).symm
theorem onO_some {α : Type} {x : tabE.T} {d : α} {f : tabE.T → α} : onO (some x) d f = f x := rfl
theorem comO_some {x : tabE.T} {a b : Int} : comO (some x) a b = comR x a b := rfl
attribute [local irreducible] nearR innerR hasI smallR
def loopW (x : tabE.T) (a b : Int) : Spec Nat where
  inv i := i ≤ (comR x a b).length ∧ whyL (facR x a b) (comR x a b) = whyL (facR x a b) ((comR x a b).drop i)
  live i := [(39, .s (.int .i64 i))]
  keep := [0, 1, 2, 7, 37, 38]
  heap _ := []
  keepH := []
  mu i := (comR x a b).length - i
set_option maxHeartbeats 2000000 in
theorem why_vc (x : tabE.T) (a b : Int) (g : Good x) : afun ⟨tyL, [(23, nearC), (50, facing2C), (25, innerC), (16, comC), (47, containsC), (51, smallC)], []⟩ Try.f18 [(ETy.pt tabE).av (some x), i64E.av a, i64E.av b] (fun r => r = .s (.int .i64 (whyR x a b))) := by
  repeat' (conv => whnf
           first | done | refine Need.intro (by first | rfl | omega | (simp only [i64ok] at *; omega)) ?_ | refine Need.intro (Hold.out ?_) ?_ | refine Give.intro fun _ => ?_ | refine Both.intro ?_ ?_ | refine BIf.and ?_ | refine BIf.or ?_ | refine BIf.eqi (fun _ => ?_) (fun _ => ?_) | refine BIf.nei (fun _ => ?_) (fun _ => ?_) | refine BIf.dec (fun _ => ?_) (fun _ => ?_) | refine BIf.nt ?_ | refine BIf.intro (fun _ => ?_) (fun _ => ?_) | ((first | (with_reducible show Or (∃ n, rounds (acode _ (Code.seq (Code.region 7 _ _) _)) _ n _) _) | (with_reducible show Or (∃ n, rounds (acode _ (Code.seq (Code.seq (Code.region 7 _ _) _) _)) _ n _) _) | (with_reducible show Or (∃ n, rounds (acode _ (Code.seq (Code.seq (Code.seq (Code.region 7 _ _) _) _) _)) _ n _) _) | (with_reducible show Or (∃ n, rounds (acode _ (Code.seq (Code.seq (Code.seq (Code.seq (Code.region 7 _ _) _) _) _) _)) _ n _) _) | (with_reducible show Or (∃ n, rounds (acode _ (Code.block _ (Code.seq (Code.region 7 _ _) _))) _ n _) _) | (with_reducible show Or (∃ n, rounds (acode _ (Code.block _ (Code.seq (Code.seq (Code.region 7 _ _) _) _))) _ n _) _) | (with_reducible show Or (∃ n, rounds (acode _ (Code.block _ (Code.seq (Code.seq (Code.seq (Code.region 7 _ _) _) _) _))) _ n _) _) | (with_reducible show Or (∃ n, rounds (acode _ (Code.block _ (Code.seq (Code.seq (Code.seq (Code.seq (Code.region 7 _ _) _) _) _) _))) _ n _) _)); refine Or.inr (Exists.intro (Nat) (Exists.intro (loopW x a b) (And.intro (Exists.intro (0) (And.intro (Hold.out ?_) (And.intro ?_ (And.intro ?_ rfl)))) (fun i hi => ?_))))) | ((with_reducible show (∃ y, And (Spec.inv (loopW _ _ _) y) _)); refine Exists.intro (i + 1) (And.intro (Hold.out ?_) (And.intro (And.intro ?_ (And.intro ?_ rfl)) (Hold.out ?_)))) | refine And.intro rfl ?_ | refine And.intro (HoldEq.out ?_) ?_ | refine And.intro (HoldOb.out ?_) ?_ | exact True.intro | refine HoldEq.out ?_ | refine HoldObs.out ?_ | refine KCheck.intro (by kernel_rfl) ?_ | refine HoldOr.out ?_)
  all_goals try first | refine HoldEq.int ?_ | refine HoldEq.bool ?_ | refine HoldEq.sl ?_ | refine HoldEq.own ?_ | refine HoldEq.ownS ?_ ?_ | refine HoldOb.row ?_ | refine HoldOb.map ?_ | refine HoldOb.gmap ?_ | refine HoldOb.grow ?_ | refine HoldObs.row ?_
  all_goals try simp only [take_one, take_one', set_one, take_all, List.length_singleton, rec_self, Int.toNat_natCast, pair_eta, ETy.dflt, List.getD_cons_zero, List.getD_cons_succ, Int.reduceToNat, Int.reduceAdd, Int.reduceSub, Int.reduceNeg, Nat.reduceAdd, Nat.zero_add, loopW, onO_some, comO_some] at *
  all_goals try have hnear : nearR x a b = true := by assumption
  all_goals try have hlt : (i : Int) < ((comR x a b).length : Int) := by assumption
  all_goals try have hge : ¬ (i : Int) < ((comR x a b).length : Int) := by assumption
  all_goals try have hh : hasI ((comR x a b).getD i 0) (facR x a b) = true := by assumption
  all_goals try have hf : hasI ((comR x a b).getD i 0) (facR x a b) = false := by assumption
  all_goals try have hno : nearR x a b = false := by assumption
  all_goals first
    | exact Hold.intro (fun y e => by cases e; exact g)
    | exact Hold.intro ⟨Nat.zero_le _, rfl⟩
    | exact Hold.intro ⟨g, (near_cor g hnear).1⟩
    | (refine Hold.intro ⟨by omega, ?_⟩; rw [hi.2, drop_now 0 hlt, whyL, hh]; rfl)
    | exact Hold.intro (by omega)
    | (have hw : whyL (facR x a b) (comR x a b) = true := by rw [hi.2, drop_all hge]; rfl
       clear hi; unfold whyR; (try have hfl : (facR x a b).length = 2 := by omega); (try have hfn : ¬ (facR x a b).length = 2 := by omega); simp [*]; done)
    | (have hw : whyL (facR x a b) (comR x a b) = false := by rw [hi.2, drop_now 0 hlt, whyL, hf]; rfl
       clear hi; unfold whyR; (try have hfl : (facR x a b).length = 2 := by omega); (try have hfn : ¬ (facR x a b).length = 2 := by omega); simp [*]; done)
    | (unfold whyR; (try have hfl : (facR x a b).length = 2 := by omega); simp [*]; done)
    | skip
end S1

open Go Go.Vm Go.Proofs
namespace S1
set_option maxRecDepth 100000

/-! link.Common -/
theorem notin_vc (v : Int) (l : List Int) : afun ⟨tyL, [(47, containsC)], []⟩ Try.f46 [i64E.av v, (ETy.pt (.sl i64E)).av (some l)] (fun r => r = .s (.bool (!hasI v l))) := by
  repeat' (conv => whnf
           first | done | refine Need.intro (by first | rfl | omega | (simp only [i64ok] at *; omega)) ?_ | refine Need.intro (Hold.out ?_) ?_ | refine Give.intro fun _ => ?_ | refine Both.intro ?_ ?_ | refine BIf.and ?_ | refine BIf.or ?_ | refine BIf.eqi (fun _ => ?_) (fun _ => ?_) | refine BIf.nei (fun _ => ?_) (fun _ => ?_) | refine BIf.dec (fun _ => ?_) (fun _ => ?_) | refine BIf.nt ?_ | refine BIf.intro (fun _ => ?_) (fun _ => ?_) | refine And.intro rfl ?_ | refine And.intro (HoldEq.out ?_) ?_ | refine And.intro (HoldOb.out ?_) ?_ | exact True.intro | refine HoldEq.out ?_ | refine HoldObs.out ?_ | refine KCheck.intro (by kernel_rfl) ?_ | refine HoldOr.out ?_)
  all_goals try first | refine HoldEq.int ?_ | refine HoldEq.bool ?_ | refine HoldEq.sl ?_ | refine HoldEq.own ?_ | refine HoldEq.ownS ?_ ?_ | refine HoldOb.row ?_ | refine HoldOb.map ?_ | refine HoldOb.gmap ?_ | refine HoldOb.grow ?_ | refine HoldObs.row ?_
  all_goals try simp only [take_one, take_one', set_one, take_all, List.length_singleton, rec_self, Int.toNat_natCast, pair_eta, ETy.dflt, List.getD_cons_zero, List.getD_cons_succ, Int.reduceToNat, Int.reduceAdd, Int.reduceSub, Int.reduceNeg, Nat.reduceAdd, Nat.zero_add, Option.getD_some] at *
def notinC : List AV → Option Res := con2 i64E (.pt (.sl i64E)) (fun v o => match o with | some l => some (none, none, .s (.bool (!hasI v l))) | none => none)
theorem notinRow : FnRow Try.prog 46 notinC := ⟨con2_ok fun v o r h => by
  cases o with
  | none => cases h
  | some l => cases h; exact fn_by (rulesF (fn := [(47, containsC)]) (fr := []) ⟨containsRow, trivial⟩ trivial) Try.func46 (by kernel_rfl) fun _ _ => notin_vc v l, _, Try.func46, by kernel_rfl, by kernel_rfl⟩
attribute [local irreducible] hasI
/-- The first one that is to go. -/
def idxF (p : Int → Bool) : List Int → Nat → Int
  | [], _ => -1
  | a :: r, i => if p a = true then (i : Int) else idxF p r (i + 1)
def loopIF (p : Int → Bool) (l : List Int) : Spec Nat where
  inv x := x ≤ l.length ∧ idxF p l 0 = idxF p (l.drop x) x
  live x := [(8, .s (.int .i64 x))]
  keep := [0, 1, 7]
  heap _ := []
  keepH := []
  mu x := l.length - x
theorem idxF_vc (l m : List Int) : afun ⟨tyL, [(46, notinC)], []⟩ Try.f82 [(ETy.sl i64E).av l, .s (.clo 46 [⟨.sl i64E, m⟩])] (fun r => r = .s (.int .i64 (idxF (fun v => !hasI v m) l 0))) := by
  repeat' (conv => whnf
           first | done | refine Need.intro (by first | rfl | omega | (simp only [i64ok] at *; omega)) ?_ | refine Need.intro (Hold.out ?_) ?_ | refine Give.intro fun _ => ?_ | refine Both.intro ?_ ?_ | refine BIf.and ?_ | refine BIf.or ?_ | refine BIf.eqi (fun _ => ?_) (fun _ => ?_) | refine BIf.nei (fun _ => ?_) (fun _ => ?_) | refine BIf.dec (fun _ => ?_) (fun _ => ?_) | refine BIf.nt ?_ | refine BIf.intro (fun _ => ?_) (fun _ => ?_) | ((first | (with_reducible show Or (∃ n, rounds (acode _ (Code.seq (Code.region 2 _ _) _)) _ n _) _) | (with_reducible show Or (∃ n, rounds (acode _ (Code.seq (Code.seq (Code.region 2 _ _) _) _)) _ n _) _) | (with_reducible show Or (∃ n, rounds (acode _ (Code.seq (Code.seq (Code.seq (Code.region 2 _ _) _) _) _)) _ n _) _) | (with_reducible show Or (∃ n, rounds (acode _ (Code.seq (Code.seq (Code.seq (Code.seq (Code.region 2 _ _) _) _) _) _)) _ n _) _) | (with_reducible show Or (∃ n, rounds (acode _ (Code.block _ (Code.seq (Code.region 2 _ _) _))) _ n _) _) | (with_reducible show Or (∃ n, rounds (acode _ (Code.block _ (Code.seq (Code.seq (Code.region 2 _ _) _) _))) _ n _) _) | (with_reducible show Or (∃ n, rounds (acode _ (Code.block _ (Code.seq (Code.seq (Code.seq (Code.region 2 _ _) _) _) _))) _ n _) _) | (with_reducible show Or (∃ n, rounds (acode _ (Code.block _ (Code.seq (Code.seq (Code.seq (Code.seq (Code.region 2 _ _) _) _) _) _))) _ n _) _)); refine Or.inr (Exists.intro (Nat) (Exists.intro (loopIF (fun v => !hasI v m) l) (And.intro (Exists.intro (0) (And.intro (Hold.out ?_) (And.intro ?_ (And.intro ?_ rfl)))) (fun x hx => ?_))))) | ((with_reducible show (∃ y, And (Spec.inv (loopIF _ _) y) _)); refine Exists.intro (x + 1) (And.intro (Hold.out ?_) (And.intro (And.intro ?_ (And.intro ?_ rfl)) (Hold.out ?_)))) | refine And.intro rfl ?_ | refine And.intro (HoldEq.out ?_) ?_ | refine And.intro (HoldOb.out ?_) ?_ | exact True.intro | refine HoldEq.out ?_ | refine HoldObs.out ?_ | refine KCheck.intro (by kernel_rfl) ?_ | refine HoldOr.out ?_)
  all_goals try first | refine HoldEq.int ?_ | refine HoldEq.bool ?_ | refine HoldEq.sl ?_ | refine HoldEq.own ?_ | refine HoldEq.ownS ?_ ?_ | refine HoldOb.row ?_ | refine HoldOb.map ?_ | refine HoldOb.gmap ?_ | refine HoldOb.grow ?_ | refine HoldObs.row ?_
  all_goals try simp only [take_one, take_one', set_one, take_all, List.length_singleton, rec_self, Int.toNat_natCast, pair_eta, ETy.dflt, List.getD_cons_zero, List.getD_cons_succ, Int.reduceToNat, Int.reduceAdd, Int.reduceSub, Int.reduceNeg, Nat.reduceAdd, Nat.zero_add, loopIF] at *
  all_goals try (refine Hold.intro ?_; omega)
  · exact Hold.intro ⟨Nat.zero_le _, rfl⟩
  · rename_i h1 h2
    exact Hold.intro ⟨by omega, by rw [hx.2, drop_now 0 h1, idxF, if_neg (by rw [h2]; simp)]⟩
  · rename_i h1 h2
    rw [hx.2, drop_now 0 h1, idxF, if_pos (by rw [h2]; rfl)]
  · rw [hx.2, drop_all (by assumption)]; rfl
def idxFC : List AV → Option Res
  | [.s (.sl (.int .i64) l), .s (.clo f [⟨.sl (.int .i64), m⟩])] => match Nat.beq f 46 with
    | true => some (none, none, .s (.int .i64 (idxF (fun v => !hasI v m) l 0)))
    | false => none
  | _ => none
theorem idxFRow : FnRow Try.prog 82 idxFC := ⟨fun args r h => by
  unfold idxFC at h
  split at h
  case h_2 => cases h
  split at h
  case h_2 => cases h
  rename_i he
  cases h
  rw [Nat.eq_of_beq_eq_true he]
  exact fn_by (rulesF (fn := [(46, notinC)]) (fr := []) ⟨notinRow, trivial⟩ trivial) Try.func82 (by kernel_rfl) fun _ _ => idxF_vc _ _, _, Try.func82, by kernel_rfl, by kernel_rfl⟩
/-- slices.DeleteFunc: its body, run in its caller's memory. -/
def delH : List AV → St → (AV → St → Prop) → Prop := inlRun ⟨tyL, [(46, notinC), (82, idxFC)], []⟩ Try.f45
theorem delRow : RunOk Try.prog 45 delH ∧ ∃ fn, Try.prog.funcs[45]? = some fn ∧ (fn.name == "runtime.NumGoroutine") = false ∧ fn.body.isNone = false :=
  ⟨inline_ok (rulesF (fn := [(46, notinC), (82, idxFC)]) (fr := []) ⟨notinRow, idxFRow, trivial⟩ trivial) Try.func45 rfl (by kernel_rfl), _, Try.func45, by kernel_rfl, by kernel_rfl⟩
/-- The walk of DeleteFunc: where it is, how many it has kept, and the row as it stands. -/
def loopDF (p : Int → Bool) (xs : List Int) : Spec (Nat × Nat × List Int) where
  inv x := x.2.1 < x.1 ∧ x.1 ≤ xs.length ∧ x.2.2.length = xs.length ∧ x.2.2.take x.2.1 = (xs.take x.1).filter (fun v => !p v) ∧ x.2.2.drop x.1 = xs.drop x.1
  live x := [(5, .s (.int .i64 x.2.1)), (6, .s (.int .i64 x.1))]
  keep := [0, 1]
  heap x := [(3, .row i64E 3 x.2.2)]
  keepH := [0, 4, 5]
  mu x := xs.length - x.1
theorem linkO_len (o : Option tabE.T) (a : Int) (hg : ∀ x, o = some x → Good x) : (linkO o a).length ≤ 40000 := by
  cases o with
  | none => exact Nat.zero_le _
  | some x =>
    have := (aroundL_le (hg x rfl) a).1
    show (linkR x a).length ≤ 40000
    unfold linkR
    rw [List.length_append, lkO_len _ _ _ (Nat.le_refl _)]
    split
    · simp only [List.length_singleton]; omega
    · simp only [List.length_nil]; omega
theorem idxF_lt (p : Int → Bool) : ∀ (l : List Int) (i : Nat), (idxF p l i = -1 ∧ l.filter (fun v => !p v) = l) ∨ (∃ k : Nat, idxF p l i = ((i + k : Nat) : Int) ∧ k < l.length ∧ (l.take k).filter (fun v => !p v) = l.take k ∧ p (l.getD k 0) = true)
  | [], i => .inl ⟨rfl, rfl⟩
  | a :: r, i => by
    unfold idxF
    cases h : p a with
    | true => exact .inr ⟨0, by simp, by simp, rfl, by simpa using h⟩
    | false =>
      rw [if_neg (by simp)]
      rcases idxF_lt p r (i + 1) with ⟨h1, h2⟩ | ⟨k, h1, h2, h3, h4⟩
      · exact .inl ⟨h1, by rw [List.filter_cons_of_pos (by simp [h]), h2]⟩
      · exact .inr ⟨k + 1, by rw [h1]; congr 1; omega, by simp; omega, by rw [List.take_succ_cons, List.filter_cons_of_pos (by simp [h]), h3], by simpa using h4⟩
theorem com_eq {o : Option tabE.T} {a b : Int} (h : a ≠ b) : comO o a b = sortI ((linkO o a).filter fun v => hasI v (linkO o b)) := by
  cases o with
  | none => show [] = sortI []; exact (List.length_eq_zero_iff.1 (sortI_len [])).symm
  | some x => show comR x a b = _; unfold comR; rw [if_neg h]; rfl
theorem del_keep {p : Int → Bool} {xs : List Int} {x : Nat × Nat × List Int} (h : (loopDF p xs).inv x) (hlt : x.1 < xs.length) (hp : p (x.2.2.getD x.1 0) = false) : (loopDF p xs).inv (x.1 + 1, x.2.1 + 1, x.2.2.set x.2.1 (x.2.2.getD x.1 0)) := by
  obtain ⟨h1, h2, h3, h4, h5⟩ := h
  have e : x.2.2.getD x.1 0 = xs.getD x.1 0 := by
    have := congrArg (fun l => l.getD 0 0) h5
    simpa [List.getD_eq_getElem?_getD] using this
  refine ⟨by show x.2.1 + 1 < x.1 + 1; omega, by show x.1 + 1 ≤ _; omega, by show (x.2.2.set _ _).length = _; rw [List.length_set]; exact h3, ?_, ?_⟩
  · show (x.2.2.set x.2.1 (x.2.2.getD x.1 0)).take (x.2.1 + 1) = (xs.take (x.1 + 1)).filter _
    rw [List.take_succ_eq_append_getElem (by rw [List.length_set]; omega), List.take_set_of_le (Nat.le_refl _), h4, List.getElem_set_self, List.take_succ_eq_append_getElem hlt, List.filter_append]
    rw [e] at hp ⊢
    rw [List.getD_eq_getElem?_getD, List.getElem?_eq_getElem hlt] at hp ⊢
    have hp : p xs[x.1] = false := hp
    rw [List.filter_cons_of_pos (by rw [hp]; rfl)]; rfl
  · show (x.2.2.set x.2.1 _).drop (x.1 + 1) = xs.drop (x.1 + 1)
    rw [List.drop_set_of_lt (by omega), ← List.drop_drop, h5, List.drop_drop]
theorem del_skip {p : Int → Bool} {xs : List Int} {x : Nat × Nat × List Int} (h : (loopDF p xs).inv x) (hlt : x.1 < xs.length) (hp : p (x.2.2.getD x.1 0) = true) : (loopDF p xs).inv (x.1 + 1, x.2.1, x.2.2) := by
  obtain ⟨h1, h2, h3, h4, h5⟩ := h
  have e : x.2.2.getD x.1 0 = xs.getD x.1 0 := by
    have := congrArg (fun l => l.getD 0 0) h5
    simpa [List.getD_eq_getElem?_getD] using this
  refine ⟨by show x.2.1 < x.1 + 1; omega, by show x.1 + 1 ≤ _; omega, h3, ?_, ?_⟩
  · show x.2.2.take x.2.1 = (xs.take (x.1 + 1)).filter _
    rw [h4, List.take_succ_eq_append_getElem hlt, List.filter_append]
    rw [e, List.getD_eq_getElem?_getD, List.getElem?_eq_getElem hlt] at hp
    have hp : p xs[x.1] = true := hp
    rw [List.filter_cons_of_neg (by rw [hp]; simp)]; simp
  · show x.2.2.drop (x.1 + 1) = xs.drop (x.1 + 1)
    rw [← List.drop_drop, h5, List.drop_drop]
theorem keep_eq (xs m : List Int) : xs.filter (fun v => !!hasI v m) = xs.filter fun v => hasI v m := by simp
theorem com_vc (o : Option tabE.T) (a b : Int) (hg : ∀ x, o = some x → Good x) : afun ⟨tyL, [], [(27, .res linkFC), (45, .run delH), (48, .run sortNH)]⟩ Try.f16 [(ETy.pt tabE).av o, i64E.av a, i64E.av b] (fun r => r = .s (.sl i64E (comO o a b))) := by
  have hlt := idxF_lt (fun v => !hasI v (linkO o b)) (linkO o a) 0
  have hlen := linkO_len o a hg
  repeat' (conv => whnf
           first | done | refine Need.intro (by first | rfl | omega | (simp only [i64ok] at *; omega)) ?_ | refine Need.intro (Hold.out ?_) ?_ | refine Give.intro fun _ => ?_ | refine Both.intro ?_ ?_ | refine BIf.and ?_ | refine BIf.or ?_ | refine BIf.eqi (fun _ => ?_) (fun _ => ?_) | refine BIf.nei (fun _ => ?_) (fun _ => ?_) | refine BIf.dec (fun _ => ?_) (fun _ => ?_) | refine BIf.nt ?_ | refine BIf.intro (fun _ => ?_) (fun _ => ?_) | (refine (fun (X : Array Value) => ?_)) | ((first | (with_reducible show Or (∃ n, rounds (acode _ (Code.seq (Code.region 5 _ _) _)) _ n _) _) | (with_reducible show Or (∃ n, rounds (acode _ (Code.seq (Code.seq (Code.region 5 _ _) _) _)) _ n _) _) | (with_reducible show Or (∃ n, rounds (acode _ (Code.seq (Code.seq (Code.seq (Code.region 5 _ _) _) _) _)) _ n _) _) | (with_reducible show Or (∃ n, rounds (acode _ (Code.seq (Code.seq (Code.seq (Code.seq (Code.region 5 _ _) _) _) _) _)) _ n _) _) | (with_reducible show Or (∃ n, rounds (acode _ (Code.block _ (Code.seq (Code.region 5 _ _) _))) _ n _) _) | (with_reducible show Or (∃ n, rounds (acode _ (Code.block _ (Code.seq (Code.seq (Code.region 5 _ _) _) _))) _ n _) _) | (with_reducible show Or (∃ n, rounds (acode _ (Code.block _ (Code.seq (Code.seq (Code.seq (Code.region 5 _ _) _) _) _))) _ n _) _) | (with_reducible show Or (∃ n, rounds (acode _ (Code.block _ (Code.seq (Code.seq (Code.seq (Code.seq (Code.region 5 _ _) _) _) _) _))) _ n _) _)); refine Or.inr (Exists.intro (Nat × Nat × List Int) (Exists.intro (loopDF (fun v => !hasI v (linkO o b)) (linkO o a)) (And.intro (Exists.intro (((idxF (fun v => !hasI v (linkO o b)) (linkO o a) 0).toNat + 1, (idxF (fun v => !hasI v (linkO o b)) (linkO o a) 0).toNat, linkO o a)) (And.intro (Hold.out ?_) (And.intro ?_ (And.intro ?_ rfl)))) (fun x hx => ?_))))) | ((with_reducible show (∃ y, And (Spec.inv (loopDF _ _) y) _)); refine Exists.intro ((x.1 + 1, if hasI (x.2.2.getD x.1 0) (linkO o b) = true then x.2.1 + 1 else x.2.1, if hasI (x.2.2.getD x.1 0) (linkO o b) = true then x.2.2.set x.2.1 (x.2.2.getD x.1 0) else x.2.2)) (And.intro (Hold.out ?_) (And.intro (And.intro ?_ (And.intro ?_ rfl)) (Hold.out ?_)))) | refine And.intro rfl ?_ | refine And.intro (HoldEq.out ?_) ?_ | refine And.intro (HoldOb.out ?_) ?_ | exact True.intro | refine HoldEq.out ?_ | refine HoldObs.out ?_ | refine KCheck.intro (by kernel_rfl) ?_ | refine HoldOr.out ?_)
  all_goals try first | refine HoldEq.int ?_ | refine HoldEq.bool ?_ | refine HoldEq.sl ?_ | refine HoldEq.own ?_ | refine HoldEq.ownS ?_ ?_ | refine HoldOb.row ?_ | refine HoldOb.map ?_ | refine HoldOb.gmap ?_ | refine HoldOb.grow ?_ | refine HoldObs.row ?_
  all_goals try simp only [take_one, take_one', set_one, take_all, List.length_singleton, rec_self, Int.toNat_natCast, pair_eta, ETy.dflt, List.getD_cons_zero, List.getD_cons_succ, Int.reduceToNat, Int.reduceAdd, Int.reduceSub, Int.reduceNeg, Nat.reduceAdd, Nat.zero_add, loopDF] at *
  · rename_i h
    cases o with
    | none => rfl
    | some x => show [] = comR x a b; unfold comR; rw [if_pos h]
  · have hne : a ≠ b := by assumption
    have hi : idxF (fun v => !hasI v (linkO o b)) (linkO o a) 0 = -1 := by assumption
    rcases hlt with ⟨_, hf⟩ | ⟨k, hk, _⟩
    · rw [com_eq hne, ← keep_eq (linkO o a) (linkO o b), hf]
      simp only [List.take_zero, List.nil_append, List.drop_zero, List.drop_length, List.append_nil]
      exact List.take_of_length_le (Nat.le_of_eq (sortI_len _))
    · rw [hk] at hi; omega
  all_goals
    have hne : a ≠ b := by assumption
    have hi : ¬ idxF (fun v => !hasI v (linkO o b)) (linkO o a) 0 = -1 := by assumption
    obtain ⟨k, hk, hk2, hk3, hk4⟩ := hlt.resolve_left (fun e => hi e.1)
  · rw [hk]; refine Hold.intro ?_; unfold i64ok; omega
  · rw [hk]
    refine Hold.intro ⟨by show ((k : Nat) : Int).toNat < ((k : Nat) : Int).toNat + 1; omega, by show ((k : Nat) : Int).toNat + 1 ≤ _; omega, True.intro, ?_, True.intro⟩
    rw [Int.toNat_natCast, List.take_succ_eq_append_getElem hk2, List.filter_append, hk3]
    rw [List.getD_eq_getElem?_getD, List.getElem?_eq_getElem hk2] at hk4
    have hk4 : (!hasI (linkO o a)[k] (linkO o b)) = true := hk4
    rw [List.filter_cons_of_neg (by rw [hk4]; simp)]; simp
  · rw [hk]; rfl
  · rw [hk]; rfl
  · refine Hold.intro ?_; omega
  · refine Hold.intro ?_; unfold i64ok; omega
  · rename_i hq
    rw [if_pos hq, if_pos hq]
    exact Hold.intro (del_keep hx (by omega) (by rw [hq]; rfl))
  · rename_i hq
    rw [if_pos hq]; rfl
  · rename_i hq
    rw [if_pos hq]
  · refine Hold.intro ?_; omega
  · rename_i hq
    rw [if_neg (by rw [hq]; simp), if_neg (by rw [hq]; simp)]
    exact Hold.intro (del_skip hx (by omega) (by rw [hq]; rfl))
  · rename_i hq
    rw [if_neg (by rw [hq]; simp)]
  · rename_i hq
    rw [if_neg (by rw [hq]; simp)]
  · refine Hold.intro ?_; omega
  · refine Hold.intro ?_; omega
  · refine Hold.intro ?_; omega
  · obtain ⟨h1, h2, h3, h4, h5⟩ := hx
    have he : x.1 = (linkO o a).length := by omega
    rw [he, List.take_length] at h4
    rw [com_eq hne, ← keep_eq (linkO o a) (linkO o b), ← h4]
    have hl : (x.2.2.take x.2.1).length = x.2.1 := by rw [List.length_take]; omega
    simp only [List.drop_zero, List.take_zero, List.nil_append]
    have e2 : ∀ z : List Int, List.take x.2.1 (x.2.2.take x.2.1 ++ z) = x.2.2.take x.2.1 := fun z => by rw [List.take_append_of_le_length (Nat.le_of_eq hl.symm), List.take_of_length_le (Nat.le_of_eq hl)]
    rw [e2, List.take_append_of_le_length (by rw [sortI_len]; omega), List.take_of_length_le (by rw [sortI_len]; omega)]
theorem comRow : FnRow Try.prog 16 comC := ⟨con3_ok fun o a b r h => by
  cases h
  exact fn_by (rulesF (fn := []) (fr := [(27, .res linkFC), (45, .run delH), (48, .run sortNH)]) trivial ⟨linkFRow, delRow, sortNRow, trivial⟩) Try.func16 (by kernel_rfl) fun _ h => com_vc o a b h, _, Try.func16, by kernel_rfl, by kernel_rfl⟩
end S1
