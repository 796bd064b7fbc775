/- A part of the proofs of the laws of this seat: contracts of functions, each for every input that its text names. -/
import Derived.Test.YtbbpofkacdmjnaaF8toF7
import Derived.Test.YtbbpofkacdmjnaaVmRng2toFan2
import Derived.Test.YtbbpofkacdmjnaaF3toU1
import Derived.Test.YtbbpofkacdmjnaaT0toVmInl
set_option linter.unusedSimpArgs false
set_option linter.unusedVariables false
set_option maxHeartbeats 2000000
open Go Go.Vm Go.Proofs
namespace S1
set_option maxRecDepth 100000

/-! link.small -/
def smC (x : tabE.T) (i : Nat) (b : Bool) (c : Nat) : Bool := b || decide (tOpp x (3 * i + c) < 0)
def smI (x : tabE.T) (l : List Int) (m : Int) (s : Int × Bool) (i : Nat) : Int × Bool :=
  if l.getD i 0 ≠ m then s else (s.1 + 1, irec (smC x i) s.2 3)
def smS (x : tabE.T) (m : Int) (i : Nat) : Int × Bool := irec (smI x (ofR x) m) (0, false) i
def smM (x : tabE.T) (v : Int) : Int := (ofR x).getD (tCorner x v / 3).toNat 0
def smallR (x : tabE.T) (v : Int) : Bool := decide ((smS x (smM x v) (ofR x).length).1 = 1) || (decide ((smS x (smM x v) (ofR x).length).1 = 4) && !(smS x (smM x v) (ofR x).length).2)
theorem ofR_len {x : tabE.T} (g : Good x) : (ofR x).length = x.1.2.length := (ofL_ok g _ (Nat.le_refl _)).1
theorem smS_s (x : tabE.T) (m : Int) (i : Nat) : smS x m (i + 1) = smI x (ofR x) m (smS x m i) i := rfl
theorem smS_no {x : tabE.T} {m : Int} {i : Nat} (h : (ofR x).getD i 0 ≠ m) : smS x m (i + 1) = smS x m i := by
  rw [smS_s]; unfold smI; rw [if_pos h]
theorem smS_yes {x : tabE.T} {m : Int} {i : Nat} (h : (ofR x).getD i 0 = m) : smS x m (i + 1) = ((smS x m i).1 + 1, irec (smC x i) (smS x m i).2 3) := by
  rw [smS_s]; unfold smI; rw [if_neg (fun e => e h)]
theorem smS_le (x : tabE.T) (m : Int) : ∀ i, 0 ≤ (smS x m i).1 ∧ (smS x m i).1 ≤ i
  | 0 => ⟨Int.le_refl 0, Int.le_refl 0⟩
  | i + 1 => by
    have := smS_le x m i
    by_cases h : (ofR x).getD i 0 = m
    · rw [smS_yes h]; show 0 ≤ (smS x m i).1 + 1 ∧ (smS x m i).1 + 1 ≤ _; omega
    · rw [smS_no h]; omega
theorem smC_s (x : tabE.T) (i : Nat) (b : Bool) (c : Nat) : irec (smC x i) b (c + 1) = (irec (smC x i) b c || decide (tOpp x (3 * i + c) < 0)) := rfl
def loopS1 (x : tabE.T) (m : Int) : Spec Nat where
  inv i := i ≤ (ofR x).length
  live i := [(23, .s (.int .i64 i)), (7, .s (.int .i64 (smS x m i).1)), (8, .s (.bool (smS x m i).2))]
  keep := [0, 1, 6, 21, 22]
  heap _ := []
  keepH := []
  mu i := (ofR x).length - i
def loopS2 (x : tabE.T) (i : Nat) (b : Bool) : Spec Nat where
  inv c := c ≤ 3
  live c := [(11, .s (.int .i64 (3 * i + c))), (8, .s (.bool (irec (smC x i) b c)))]
  keep := [0, 1, 6, 7, 9, 21, 22, 23]
  heap _ := []
  keepH := []
  mu c := 3 - c
set_option maxHeartbeats 4000000 in
theorem small_vc (x : tabE.T) (v : Int) (h : Good x ∧ tHas x (tCorner x v) = true) : afun ⟨tyL, [(86, shOfC), (87, cornerC), (22, oppC)], []⟩ Try.f51 [(ETy.pt tabE).av (some x), i64E.av v] (fun r => r = .s (.bool (smallR x v))) := by
  have hn : x.1.2.length ≤ 8192 := h.1.fit.2.2.1
  have hl := ofR_len h.1
  have hc0 := tHas_iff.1 h.2
  have hm : (ofR x).getD ((tCorner x v).tdiv 3).toNat 0 = smM x v := by rw [td3 hc0.1]; rfl
  repeat' (conv => whnf
           first | done | refine Need.intro (by first | rfl | omega | (simp only [i64ok] at *; omega)) ?_ | refine Need.intro (Hold.out ?_) ?_ | refine Give.intro fun _ => ?_ | refine Both.intro ?_ ?_ | refine BIf.and ?_ | refine BIf.or ?_ | refine BIf.eqi (fun _ => ?_) (fun _ => ?_) | refine BIf.nei (fun _ => ?_) (fun _ => ?_) | refine BIf.dec (fun _ => ?_) (fun _ => ?_) | refine BIf.nt ?_ | refine BIf.intro (fun _ => ?_) (fun _ => ?_) | ((first | (with_reducible show Or (∃ n, rounds (acode _ (Code.seq (Code.region 5 _ _) _)) _ n _) _) | (with_reducible show Or (∃ n, rounds (acode _ (Code.seq (Code.seq (Code.region 5 _ _) _) _)) _ n _) _) | (with_reducible show Or (∃ n, rounds (acode _ (Code.seq (Code.seq (Code.seq (Code.region 5 _ _) _) _) _)) _ n _) _) | (with_reducible show Or (∃ n, rounds (acode _ (Code.seq (Code.seq (Code.seq (Code.seq (Code.region 5 _ _) _) _) _) _)) _ n _) _) | (with_reducible show Or (∃ n, rounds (acode _ (Code.block _ (Code.seq (Code.region 5 _ _) _))) _ n _) _) | (with_reducible show Or (∃ n, rounds (acode _ (Code.block _ (Code.seq (Code.seq (Code.region 5 _ _) _) _))) _ n _) _) | (with_reducible show Or (∃ n, rounds (acode _ (Code.block _ (Code.seq (Code.seq (Code.seq (Code.region 5 _ _) _) _) _))) _ n _) _) | (with_reducible show Or (∃ n, rounds (acode _ (Code.block _ (Code.seq (Code.seq (Code.seq (Code.seq (Code.region 5 _ _) _) _) _) _))) _ n _) _)); refine Or.inr (Exists.intro (Nat) (Exists.intro (loopS1 x (smM x v)) (And.intro (Exists.intro (0) (And.intro (Hold.out ?_) (And.intro ?_ (And.intro ?_ rfl)))) (fun i hi => ?_))))) | ((with_reducible show (∃ y, And (Spec.inv (loopS1 _ _) y) _)); refine Exists.intro (i + 1) (And.intro (Hold.out ?_) (And.intro (And.intro ?_ (And.intro ?_ rfl)) (Hold.out ?_)))) | ((first | (with_reducible show Or (∃ n, rounds (acode _ (Code.seq (Code.region 10 _ _) _)) _ n _) _) | (with_reducible show Or (∃ n, rounds (acode _ (Code.seq (Code.seq (Code.region 10 _ _) _) _)) _ n _) _) | (with_reducible show Or (∃ n, rounds (acode _ (Code.seq (Code.seq (Code.seq (Code.region 10 _ _) _) _) _)) _ n _) _) | (with_reducible show Or (∃ n, rounds (acode _ (Code.seq (Code.seq (Code.seq (Code.seq (Code.region 10 _ _) _) _) _) _)) _ n _) _) | (with_reducible show Or (∃ n, rounds (acode _ (Code.block _ (Code.seq (Code.region 10 _ _) _))) _ n _) _) | (with_reducible show Or (∃ n, rounds (acode _ (Code.block _ (Code.seq (Code.seq (Code.region 10 _ _) _) _))) _ n _) _) | (with_reducible show Or (∃ n, rounds (acode _ (Code.block _ (Code.seq (Code.seq (Code.seq (Code.region 10 _ _) _) _) _))) _ n _) _) | (with_reducible show Or (∃ n, rounds (acode _ (Code.block _ (Code.seq (Code.seq (Code.seq (Code.seq (Code.region 10 _ _) _) _) _) _))) _ n _) _)); refine Or.inr (Exists.intro (Nat) (Exists.intro (loopS2 x i (smS x (smM x v) i).2) (And.intro (Exists.intro (0) (And.intro (Hold.out ?_) (And.intro ?_ (And.intro ?_ rfl)))) (fun c hc => ?_))))) | ((with_reducible show (∃ y, And (Spec.inv (loopS2 _ _ _) y) _)); refine Exists.intro (c + 1) (And.intro (Hold.out ?_) (And.intro (And.intro ?_ (And.intro ?_ rfl)) (Hold.out ?_)))) | refine And.intro rfl ?_ | refine And.intro (HoldEq.out ?_) ?_ | refine And.intro (HoldOb.out ?_) ?_ | exact True.intro | refine HoldEq.out ?_ | refine HoldObs.out ?_ | refine KCheck.intro (by kernel_rfl) ?_ | refine HoldOr.out ?_)
  all_goals try first | refine HoldEq.int ?_ | refine HoldEq.bool ?_ | refine HoldEq.sl ?_ | refine HoldEq.own ?_ | refine HoldEq.ownS ?_ ?_ | refine HoldOb.row ?_ | refine HoldOb.map ?_ | refine HoldOb.gmap ?_ | refine HoldOb.grow ?_ | refine HoldObs.row ?_
  all_goals try simp only [take_one, take_one', set_one, take_all, List.length_singleton, rec_self, Int.toNat_natCast, pair_eta, ETy.dflt, List.getD_cons_zero, List.getD_cons_succ, Int.reduceToNat, Int.reduceAdd, Int.reduceSub, Int.reduceNeg, Nat.reduceAdd, Nat.zero_add, loopS1, loopS2] at *
  all_goals try (refine Hold.intro ?_; omega)
  all_goals try have hS := smS_le x (smM x v) i
  all_goals try rw [hm] at *
  · exact Hold.intro h.1
  · refine Hold.intro ⟨by decide, ?_⟩; rw [td3 hc0.1]; unfold i64ok; omega
  · refine Hold.intro ?_; rw [td3 hc0.1, hl]; omega
  · rw [smS_no (by assumption)]
  · rw [smS_no (by assumption)]
  · refine Hold.intro ?_; unfold i64ok; omega
  · rename_i h1; rw [smC_s, h1]; rfl
  · exact Hold.intro (show @LE.le Int _ (3 * (i : Int) + c) (1000000 : Int) by omega)
  · rename_i h1; rw [smC_s, h1]; rfl
  · rw [smS_yes (by assumption)]
  · rw [smS_yes (by assumption)]
    have e : c = 3 := by omega
    rw [e]
  all_goals (
    have e : i = (ofR x).length := by omega
    unfold smallR; rw [← e])
  · rename_i h1; rw [h1]; rfl
  · rename_i h1 h2; rw [h2]; rfl
  · rename_i h1 h2; rw [decide_eq_false h1, decide_eq_false h2]; rfl
def smallC : List AV → Option Res := con2P tabE i64E (fun x v => some (none, some (Good x ∧ tHas x (tCorner x v) = true), .s (.bool (smallR x v))))
theorem smallRow : FnRow Try.prog 51 smallC := ⟨con2P_ok fun x v r h => by cases h; exact fn_by (rulesF (fn := [(86, shOfC), (87, cornerC), (22, oppC)]) (fr := []) ⟨shOfRow, cornerRow, oppRow, trivial⟩ trivial) Try.func51 (by kernel_rfl) fun _ h => small_vc x v h, _, Try.func51, by kernel_rfl, by kernel_rfl⟩
end S1

open Go Go.Vm Go.Proofs
namespace S1
set_option maxRecDepth 100000

/-! ring.Link again: it hands its row over -/
set_option maxHeartbeats 400000 in
theorem linkF_vc (x : tabE.T) (v : Int) (g : Good x) : afunRF ⟨tyL, [(64, aroundC), (58, nextC), (59, prevC), (65, afterC), (24, vertexC)], []⟩ seqT Try.f27 [(ETy.pt tabE).av (some x), i64E.av v] (fun r obs => r = .s (.own 0 0 (linkR x v).length) ∧ obs = [.row i64E 3 (linkR x v)]) := by
  obtain ⟨hl, ha⟩ := aroundL_le g v
  have hd := getD_le ha
  have hL := lkLast_le ha (aroundL (some x) v).length
  have ho := lkO_len x (aroundL (some x) v)
  have ho2 := ho _ (Nat.le_refl _)
  repeat' (conv => whnf
           first | done | refine Need.intro (by first | rfl | omega | (simp only [i64ok] at *; omega)) ?_ | refine Need.intro (Hold.out ?_) ?_ | refine Give.intro fun _ => ?_ | refine Both.intro ?_ ?_ | refine BIf.and ?_ | refine BIf.or ?_ | refine BIf.eqi (fun _ => ?_) (fun _ => ?_) | refine BIf.nei (fun _ => ?_) (fun _ => ?_) | refine BIf.dec (fun _ => ?_) (fun _ => ?_) | refine BIf.nt ?_ | refine BIf.intro (fun _ => ?_) (fun _ => ?_) | refine Exists.intro (aroundL (some x) v) (And.intro (Hold.out ?_) (Exists.intro (loopK x (aroundL (some x) v)) ?_)) | (refine And.intro (fun X => ?_) (fun X => ?_)) | (refine And.intro (And.intro ?_ (And.intro ?_ rfl)) (fun k hk => ?_)) | (refine And.intro ?_ (And.intro ?_ rfl)) | refine And.intro rfl ?_ | refine And.intro (HoldEq.out ?_) ?_ | refine And.intro (HoldOb.out ?_) ?_ | exact True.intro | refine HoldEq.out ?_ | refine HoldObs.out ?_ | refine KCheck.intro (by kernel_rfl) ?_ | refine HoldOr.out ?_)
  all_goals try first | refine HoldEq.int ?_ | refine HoldEq.bool ?_ | refine HoldEq.sl ?_ | refine HoldEq.own ?_ | refine HoldEq.ownS ?_ ?_ | refine HoldOb.row ?_ | refine HoldOb.map ?_ | refine HoldOb.gmap ?_ | refine HoldOb.grow ?_ | refine HoldObs.row ?_
  all_goals try simp only [take_one, take_one', set_one, take_all, List.length_singleton, rec_self, Int.toNat_natCast, pair_eta, ETy.dflt, List.getD_cons_zero, List.getD_cons_succ, Int.reduceToNat, Int.reduceAdd, Int.reduceSub, Int.reduceNeg, Nat.reduceAdd, Nat.zero_add] at *
  · exact Hold.intro ⟨rfl, some x, v, rfl, fun y e => by cases e; exact g, rfl⟩
  · exact Hold.intro (Int.le_trans (hd k) (by decide))
  · exact Hold.intro (Int.le_trans (next_le g _) (by decide))
  · have := ho k (Nat.le_of_lt hk)
    refine Hold.intro ?_; omega
  · rw [lkO_succ _ _ _ hk, List.length_append]; exact HoldOb.intro rfl
  · exact lkO_succ _ _ _ hk
  · exact Hold.intro ⟨g, hL⟩
  · exact Hold.intro (Int.le_trans hL (by decide))
  · exact Hold.intro (Int.le_trans (prev_le g _) (by decide))
  · refine Hold.intro ?_; omega
  · rename_i h1 h2
    unfold linkR
    rw [if_pos ⟨h1, h2⟩, List.length_append]; rfl
  · rename_i h1 h2
    unfold linkR
    rw [if_pos ⟨h1, h2⟩]
  · rename_i h1 h2
    unfold linkR
    rw [if_neg (fun e => h2 e.2), List.append_nil]
  · rename_i h1 h2
    unfold linkR
    rw [if_neg (fun e => h2 e.2), List.append_nil]
  · rename_i h1
    unfold linkR
    rw [if_neg (fun e => h1 e.1), List.append_nil]
  · rename_i h1
    unfold linkR
    rw [if_neg (fun e => h1 e.1), List.append_nil]
set_option maxHeartbeats 4000000 in
theorem linkF0_vc (v : Int) : afunRF ⟨tyL, [(64, aroundC), (58, nextC), (59, prevC), (65, afterC), (24, vertexC)], []⟩ seqT Try.f27 [(ETy.pt tabE).av none, i64E.av v] (fun r obs => r = .s (.own 0 0 0) ∧ obs = [.row i64E 3 []]) := by
  repeat' (conv => whnf
           first | done | refine Need.intro (by first | rfl | omega | (simp only [i64ok] at *; omega)) ?_ | refine Need.intro (Hold.out ?_) ?_ | refine Give.intro fun _ => ?_ | refine Both.intro ?_ ?_ | refine BIf.and ?_ | refine BIf.or ?_ | refine BIf.eqi (fun _ => ?_) (fun _ => ?_) | refine BIf.nei (fun _ => ?_) (fun _ => ?_) | refine BIf.dec (fun _ => ?_) (fun _ => ?_) | refine BIf.nt ?_ | refine BIf.intro (fun _ => ?_) (fun _ => ?_) | refine Exists.intro [] (And.intro (Hold.out ?_) (Exists.intro loopK0 ?_)) | (refine And.intro (fun X => ?_) (fun X => ?_)) | (refine And.intro (And.intro ?_ (And.intro ?_ rfl)) (fun k hk => absurd hk (Nat.not_lt_zero _))) | refine And.intro rfl ?_ | refine And.intro (HoldEq.out ?_) ?_ | refine And.intro (HoldOb.out ?_) ?_ | exact True.intro | refine HoldEq.out ?_ | refine HoldObs.out ?_ | refine KCheck.intro (by kernel_rfl) ?_ | refine HoldOr.out ?_)
  all_goals try first | refine HoldEq.int ?_ | refine HoldEq.bool ?_ | refine HoldEq.sl ?_ | refine HoldEq.own ?_ | refine HoldEq.ownS ?_ ?_ | refine HoldOb.row ?_ | refine HoldOb.map ?_ | refine HoldOb.gmap ?_ | refine HoldOb.grow ?_ | refine HoldObs.row ?_
  all_goals try simp only [take_one, take_one', set_one, take_all, List.length_singleton, rec_self, Int.toNat_natCast, pair_eta, ETy.dflt, List.getD_cons_zero, List.getD_cons_succ, Int.reduceToNat, Int.reduceAdd, Int.reduceSub, Int.reduceNeg, Nat.reduceAdd, Nat.zero_add] at *
  exact Hold.intro ⟨rfl, none, v, rfl, fun y e => (by cases e), rfl⟩
def linkFC : List AV → Option ResF := con2 (.pt tabE) i64E (fun o v => some (none, some (∀ x, o = some x → Good x), .s (.own 0 0 (linkO o v).length), [.row i64E 3 (linkO o v)]))
theorem linkFRow : FnRowF Try.prog 27 linkFC := ⟨con2_okF fun o v r h => by
  cases h
  cases o with
  | none => exact fn_okRF (rulesF (fn := [(64, aroundC), (58, nextC), (59, prevC), (65, afterC), (24, vertexC)]) (fr := []) ⟨aroundRow, nextRow, prevRow, afterRow, vertexRow, trivial⟩ trivial) seqS Try.func27 rfl (by kernel_rfl) (Nat.le_of_ble_eq_true rfl) fun _ _ => linkF0_vc v
  | some x => exact fn_okRF (rulesF (fn := [(64, aroundC), (58, nextC), (59, prevC), (65, afterC), (24, vertexC)]) (fr := []) ⟨aroundRow, nextRow, prevRow, afterRow, vertexRow, trivial⟩ trivial) seqS Try.func27 rfl (by kernel_rfl) (Nat.le_of_ble_eq_true rfl) fun _ h => linkF_vc x v (h x rfl), _, Try.func27, by kernel_rfl, by kernel_rfl⟩
end S1

open Go Go.Vm Go.Proofs
namespace S1
set_option maxRecDepth 100000

/-! link.Why, May (by link.Common's contract, still to be proved) -/
def comR (x : tabE.T) (a b : Int) : List Int := if a = b then [] else sortI ((linkR x a).filter fun v => hasI v (linkR x b))
def comO (o : Option tabE.T) (a b : Int) : List Int := onO o [] fun x => comR x a b
def comC : List AV → Option Res := con3 (.pt tabE) i64E i64E (fun o a b => some (none, some (∀ x, o = some x → Good x), .s (.sl i64E (comO o a b))))
def whyL (f : List Int) : List Int → Bool
  | [] => true
  | v :: r => hasI v f && whyL f r
def whyR (x : tabE.T) (a b : Int) : Int :=
  if !nearR x a b then 1 else if (facR x a b).length = 2 ∧ innerR x a = false ∧ innerR x b = false then 2
  else if whyL (facR x a b) (comR x a b) = false then 3 else if smallR x a then 4 else 0
theorem near_cor {x : tabE.T} (g : Good x) {a b : Int} (h : nearR x a b = true) : tHas x (tCorner x a) = true ∧ tHas x (tCorner x b) = true := by
  have key : ∀ {a b : Int}, 0 ≤ tFacing x (a, b) → tHas x (tCorner x a) = true ∧ tHas x (tCorner x b) = true := fun {a b} h => by
    unfold tFacing at h
    cases e : mget .arr2 x.2.1 (a, b) with
    | none => rw [e] at h; exact absurd h (by decide)
    | some c =>
      obtain ⟨h1, h2⟩ := g.map _ _ e
      have e1 : tVert x (tNext x c) = a := congrArg Prod.fst h2
      have e2 : tVert x (tPrev x c) = b := congrArg Prod.snd h2
      have k1 := g.cor _ (hasNP h1).1
      have k2 := g.cor _ (hasNP h1).2
      rw [e1] at k1; rw [e2] at k2
      exact ⟨k1, k2⟩
  unfold nearR at h
  rw [Bool.or_eq_true, decide_eq_true_eq, decide_eq_true_eq] at h
  rcases h with h | h
  · exact key h
  · exact (key h).symm
theorem onO_some {α : Type} {x : tabE.T} {d : α} {f : tabE.T → α} : onO (some x) d f = f x := rfl
theorem comO_some {x : tabE.T} {a b : Int} : comO (some x) a b = comR x a b := rfl
attribute [local irreducible] nearR innerR hasI smallR
def loopW (x : tabE.T) (a b : Int) : Spec Nat where
  inv i := i ≤ (comR x a b).length ∧ whyL (facR x a b) (comR x a b) = whyL (facR x a b) ((comR x a b).drop i)
  live i := [(39, .s (.int .i64 i))]
  keep := [0, 1, 2, 7, 37, 38]
  heap _ := []
  keepH := []
  mu i := (comR x a b).length - i
set_option maxHeartbeats 2000000 in
theorem why_vc (x : tabE.T) (a b : Int) (g : Good x) : afun ⟨tyL, [(23, nearC), (50, facing2C), (25, innerC), (16, comC), (47, containsC), (51, smallC)], []⟩ Try.f18 [(ETy.pt tabE).av (some x), i64E.av a, i64E.av b] (fun r => r = .s (.int .i64 (whyR x a b))) := by
  repeat' (conv => whnf
           first | done | refine Need.intro (by first | rfl | omega | (simp only [i64ok] at *; omega)) ?_ | refine Need.intro (Hold.out ?_) ?_ | refine Give.intro fun _ => ?_ | refine Both.intro ?_ ?_ | refine BIf.and ?_ | refine BIf.or ?_ | refine BIf.eqi (fun _ => ?_) (fun _ => ?_) | refine BIf.nei (fun _ => ?_) (fun _ => ?_) | refine BIf.dec (fun _ => ?_) (fun _ => ?_) | refine BIf.nt ?_ | refine BIf.intro (fun _ => ?_) (fun _ => ?_) | ((first | (with_reducible show Or (∃ n, rounds (acode _ (Code.seq (Code.region 7 _ _) _)) _ n _) _) | (with_reducible show Or (∃ n, rounds (acode _ (Code.seq (Code.seq (Code.region 7 _ _) _) _)) _ n _) _) | (with_reducible show Or (∃ n, rounds (acode _ (Code.seq (Code.seq (Code.seq (Code.region 7 _ _) _) _) _)) _ n _) _) | (with_reducible show Or (∃ n, rounds (acode _ (Code.seq (Code.seq (Code.seq (Code.seq (Code.region 7 _ _) _) _) _) _)) _ n _) _) | (with_reducible show Or (∃ n, rounds (acode _ (Code.block _ (Code.seq (Code.region 7 _ _) _))) _ n _) _) | (with_reducible show Or (∃ n, rounds (acode _ (Code.block _ (Code.seq (Code.seq (Code.region 7 _ _) _) _))) _ n _) _) | (with_reducible show Or (∃ n, rounds (acode _ (Code.block _ (Code.seq (Code.seq (Code.seq (Code.region 7 _ _) _) _) _))) _ n _) _) | (with_reducible show Or (∃ n, rounds (acode _ (Code.block _ (Code.seq (Code.seq (Code.seq (Code.seq (Code.region 7 _ _) _) _) _) _))) _ n _) _)); refine Or.inr (Exists.intro (Nat) (Exists.intro (loopW x a b) (And.intro (Exists.intro (0) (And.intro (Hold.out ?_) (And.intro ?_ (And.intro ?_ rfl)))) (fun i hi => ?_))))) | ((with_reducible show (∃ y, And (Spec.inv (loopW _ _ _) y) _)); refine Exists.intro (i + 1) (And.intro (Hold.out ?_) (And.intro (And.intro ?_ (And.intro ?_ rfl)) (Hold.out ?_)))) | refine And.intro rfl ?_ | refine And.intro (HoldEq.out ?_) ?_ | refine And.intro (HoldOb.out ?_) ?_ | exact True.intro | refine HoldEq.out ?_ | refine HoldObs.out ?_ | refine KCheck.intro (by kernel_rfl) ?_ | refine HoldOr.out ?_)
  all_goals try first | refine HoldEq.int ?_ | refine HoldEq.bool ?_ | refine HoldEq.sl ?_ | refine HoldEq.own ?_ | refine HoldEq.ownS ?_ ?_ | refine HoldOb.row ?_ | refine HoldOb.map ?_ | refine HoldOb.gmap ?_ | refine HoldOb.grow ?_ | refine HoldObs.row ?_
  all_goals try simp only [take_one, take_one', set_one, take_all, List.length_singleton, rec_self, Int.toNat_natCast, pair_eta, ETy.dflt, List.getD_cons_zero, List.getD_cons_succ, Int.reduceToNat, Int.reduceAdd, Int.reduceSub, Int.reduceNeg, Nat.reduceAdd, Nat.zero_add, loopW, onO_some, comO_some] at *
  all_goals try have hnear : nearR x a b = true := by assumption
  all_goals try have hlt : (i : Int) < ((comR x a b).length : Int) := by assumption
  all_goals try have hge : ¬ (i : Int) < ((comR x a b).length : Int) := by assumption
  all_goals try have hh : hasI ((comR x a b).getD i 0) (facR x a b) = true := by assumption
  all_goals try have hf : hasI ((comR x a b).getD i 0) (facR x a b) = false := by assumption
  all_goals try have hno : nearR x a b = false := by assumption
  all_goals first
    | exact Hold.intro (fun y e => by cases e; exact g)
    | exact Hold.intro ⟨Nat.zero_le _, rfl⟩
    | exact Hold.intro ⟨g, (near_cor g hnear).1⟩
    | (refine Hold.intro ⟨by omega, ?_⟩; rw [hi.2, drop_now 0 hlt, whyL, hh]; rfl)
    | exact Hold.intro (by omega)
    | (have hw : whyL (facR x a b) (comR x a b) = true := by rw [hi.2, drop_all hge]; rfl
       clear hi; unfold whyR; (try have hfl : (facR x a b).length = 2 := by omega); (try have hfn : ¬ (facR x a b).length = 2 := by omega); simp [*]; done)
    | (have hw : whyL (facR x a b) (comR x a b) = false := by rw [hi.2, drop_now 0 hlt, whyL, hf]; rfl
       clear hi; unfold whyR; (try have hfl : (facR x a b).length = 2 := by omega); (try have hfn : ¬ (facR x a b).length = 2 := by omega); simp [*]; done)
    | (unfold whyR; (try have hfl : (facR x a b).length = 2 := by omega); simp [*]; done)
    | skip
end S1

open Go Go.Vm Go.Proofs
namespace S1
set_option maxRecDepth 100000

/-! link.Common -/
theorem notin_vc (v : Int) (l : List Int) : afun ⟨tyL, [(47, containsC)], []⟩ Try.f46 [i64E.av v, (ETy.pt (.sl i64E)).av (some l)] (fun r => r = .s (.bool (!hasI v l))) := by
  repeat' (conv => whnf
           first | done | refine Need.intro (by first | rfl | omega | (simp only [i64ok] at *; omega)) ?_ | refine Need.intro (Hold.out ?_) ?_ | refine Give.intro fun _ => ?_ | refine Both.intro ?_ ?_ | refine BIf.and ?_ | refine BIf.or ?_ | refine BIf.eqi (fun _ => ?_) (fun _ => ?_) | refine BIf.nei (fun _ => ?_) (fun _ => ?_) | refine BIf.dec (fun _ => ?_) (fun _ => ?_) | refine BIf.nt ?_ | refine BIf.intro (fun _ => ?_) (fun _ => ?_) | refine And.intro rfl ?_ | refine And.intro (HoldEq.out ?_) ?_ | refine And.intro (HoldOb.out ?_) ?_ | exact True.intro | refine HoldEq.out ?_ | refine HoldObs.out ?_ | refine KCheck.intro (by kernel_rfl) ?_ | refine HoldOr.out ?_)
  all_goals try first | refine HoldEq.int ?_ | refine HoldEq.bool ?_ | refine HoldEq.sl ?_ | refine HoldEq.own ?_ | refine HoldEq.ownS ?_ ?_ | refine HoldOb.row ?_ | refine HoldOb.map ?_ | refine HoldOb.gmap ?_ | refine HoldOb.grow ?_ | refine HoldObs.row ?_
  all_goals try simp only [take_one, take_one', set_one, take_all, List.length_singleton, rec_self, Int.toNat_natCast, pair_eta, ETy.dflt, List.getD_cons_zero, List.getD_cons_succ, Int.reduceToNat, Int.reduceAdd, Int.reduceSub, Int.reduceNeg, Nat.reduceAdd, Nat.zero_add, Option.getD_some] at *
def notinC : List AV → Option Res := con2 i64E (.pt (.sl i64E)) (fun v o => match o with | some l => some (none, none, .s (.bool (!hasI v l))) | none => none)
theorem notinRow : FnRow Try.prog 46 notinC := ⟨con2_ok fun v o r h => by
  cases o with
  | none => cases h
  | some l => cases h; exact fn_by (rulesF (fn := [(47, containsC)]) (fr := []) ⟨containsRow, trivial⟩ trivial) Try.func46 (by kernel_rfl) fun _ _ => notin_vc v l, _, Try.func46, by kernel_rfl, by kernel_rfl⟩
attribute [local irreducible] hasI
/-- The first one that is to go. -/
def idxF (p : Int → Bool) : List Int → Nat → Int
  | [], _ => -1
  | a :: r, i => if p a = true then (i : Int) else idxF p r (i + 1)
def loopIF (p : Int → Bool) (l : List Int) : Spec Nat where
  inv x := x ≤ l.length ∧ idxF p l 0 = idxF p (l.drop x) x
  live x := [(8, .s (.int .i64 x))]
  keep := [0, 1, 7]
  heap _ := []
  keepH := []
  mu x := l.length - x
theorem idxF_vc (l m : List Int) : afun ⟨tyL, [(46, notinC)], []⟩ Try.f82 [(ETy.sl i64E).av l, .s (.clo 46 [⟨.sl i64E, m⟩])] (fun r => r = .s (.int .i64 (idxF (fun v => !hasI v m) l 0))) := by
  repeat' (conv => whnf
           first | done | refine Need.intro (by first | rfl | omega | (simp only [i64ok] at *; omega)) ?_ | refine Need.intro (Hold.out ?_) ?_ | refine Give.intro fun _ => ?_ | refine Both.intro ?_ ?_ | refine BIf.and ?_ | refine BIf.or ?_ | refine BIf.eqi (fun _ => ?_) (fun _ => ?_) | refine BIf.nei (fun _ => ?_) (fun _ => ?_) | refine BIf.dec (fun _ => ?_) (fun _ => ?_) | refine BIf.nt ?_ | refine BIf.intro (fun _ => ?_) (fun _ => ?_) | ((first | (with_reducible show Or (∃ n, rounds (acode _ (Code.seq (Code.region 2 _ _) _)) _ n _) _) | (with_reducible show Or (∃ n, rounds (acode _ (Code.seq (Code.seq (Code.region 2 _ _) _) _)) _ n _) _) | (with_reducible show Or (∃ n, rounds (acode _ (Code.seq (Code.seq (Code.seq (Code.region 2 _ _) _) _) _)) _ n _) _) | (with_reducible show Or (∃ n, rounds (acode _ (Code.seq (Code.seq (Code.seq (Code.seq (Code.region 2 _ _) _) _) _) _)) _ n _) _) | (with_reducible show Or (∃ n, rounds (acode _ (Code.block _ (Code.seq (Code.region 2 _ _) _))) _ n _) _) | (with_reducible show Or (∃ n, rounds (acode _ (Code.block _ (Code.seq (Code.seq (Code.region 2 _ _) _) _))) _ n _) _) | (with_reducible show Or (∃ n, rounds (acode _ (Code.block _ (Code.seq (Code.seq (Code.seq (Code.region 2 _ _) _) _) _))) _ n _) _) | (with_reducible show Or (∃ n, rounds (acode _ (Code.block _ (Code.seq (Code.seq (Code.seq (Code.seq (Code.region 2 _ _) _) _) _) _))) _ n _) _)); refine Or.inr (Exists.intro (Nat) (Exists.intro (loopIF (fun v => !hasI v m) l) (And.intro (Exists.intro (0) (And.intro (Hold.out ?_) (And.intro ?_ (And.intro ?_ rfl)))) (fun x hx => ?_))))) | ((with_reducible show (∃ y, And (Spec.inv (loopIF _ _) y) _)); refine Exists.intro (x + 1) (And.intro (Hold.out ?_) (And.intro (And.intro ?_ (And.intro ?_ rfl)) (Hold.out ?_)))) | refine And.intro rfl ?_ | refine And.intro (HoldEq.out ?_) ?_ | refine And.intro (HoldOb.out ?_) ?_ | exact True.intro | refine HoldEq.out ?_ | refine HoldObs.out ?_ | refine KCheck.intro (by kernel_rfl) ?_ | refine HoldOr.out ?_)
  all_goals try first | refine HoldEq.int ?_ | refine HoldEq.bool ?_ | refine HoldEq.sl ?_ | refine HoldEq.own ?_ | refine HoldEq.ownS ?_ ?_ | refine HoldOb.row ?_ | refine HoldOb.map ?_ | refine HoldOb.gmap ?_ | refine HoldOb.grow ?_ | refine HoldObs.row ?_
  all_goals try simp only [take_one, take_one', set_one, take_all, List.length_singleton, rec_self, Int.toNat_natCast, pair_eta, ETy.dflt, List.getD_cons_zero, List.getD_cons_succ, Int.reduceToNat, Int.reduceAdd, Int.reduceSub, Int.reduceNeg, Nat.reduceAdd, Nat.zero_add, loopIF] at *
  all_goals try (refine Hold.intro ?_; omega)
  · exact Hold.intro ⟨Nat.zero_le _, rfl⟩
  · rename_i h1 h2
    exact Hold.intro ⟨by omega, by rw [hx.2, drop_now 0 h1, idxF, if_neg (by rw [h2]; simp)]⟩
  · rename_i h1 h2
    rw [hx.2, drop_now 0 h1, idxF, if_pos (by rw [h2]; rfl)]
  · rw [hx.2, drop_all (by assumption)]; rfl
def idxFC : List AV → Option Res
  | [.s (.sl (.int .i64) l), .s (.clo f [⟨.sl (.int .i64), m⟩])] => match Nat.beq f 46 with
    | true => some (none, none, .s (.int .i64 (idxF (fun v => !hasI v m) l 0)))
    | false => none
  | _ => none
theorem idxFRow : FnRow Try.prog 82 idxFC := ⟨fun args r h => by
  unfold idxFC at h
  split at h
  case h_2 => cases h
  split at h
  case h_2 => cases h
  rename_i he
  cases h
  rw [Nat.eq_of_beq_eq_true he]
  exact fn_by (rulesF (fn := [(46, notinC)]) (fr := []) ⟨notinRow, trivial⟩ trivial) Try.func82 (by kernel_rfl) fun _ _ => idxF_vc _ _, _, Try.func82, by kernel_rfl, by kernel_rfl⟩
/-- slices.DeleteFunc: its body, run in its caller's memory. -/
def delH : List AV → St → (AV → St → Prop) → Prop := inlRun ⟨tyL, [(46, notinC), (82, idxFC)], []⟩ Try.f45
theorem delRow : RunOk Try.prog 45 delH ∧ ∃ fn, Try.prog.funcs[45]? = some fn ∧ (fn.name == "runtime.NumGoroutine") = false ∧ fn.body.isNone = false :=
  ⟨inline_ok (rulesF (fn := [(46, notinC), (82, idxFC)]) (fr := []) ⟨notinRow, idxFRow, trivial⟩ trivial) Try.func45 rfl (by kernel_rfl), _, Try.func45, by kernel_rfl, by kernel_rfl⟩
/-- The walk of DeleteFunc: where it is, how many it has kept, and the row as it stands. -/
def loopDF (p : Int → Bool) (xs : List Int) : Spec (Nat × Nat × List Int) where
  inv x := x.2.1 < x.1 ∧ x.1 ≤ xs.length ∧ x.2.2.length = xs.length ∧ x.2.2.take x.2.1 = (xs.take x.1).filter (fun v => !p v) ∧ x.2.2.drop x.1 = xs.drop x.1
  live x := [(5, .s (.int .i64 x.2.1)), (6, .s (.int .i64 x.1))]
  keep := [0, 1]
  heap x := [(3, .row i64E 3 x.2.2)]
  keepH := [0, 4, 5]
  mu x := xs.length - x.1
theorem linkO_len (o : Option tabE.T) (a : Int) (hg : ∀ x, o = some x → Good x) : (linkO o a).length ≤ 40000 := by
  cases o with
  | none => exact Nat.zero_le _
  | some x =>
    have := (aroundL_le (hg x rfl) a).1
    show (linkR x a).length ≤ 40000
    unfold linkR
    rw [List.length_append, lkO_len _ _ _ (Nat.le_refl _)]
    split
    · simp only [List.length_singleton]; omega
    · simp only [List.length_nil]; omega
theorem idxF_lt (p : Int → Bool) : ∀ (l : List Int) (i : Nat), (idxF p l i = -1 ∧ l.filter (fun v => !p v) = l) ∨ (∃ k : Nat, idxF p l i = ((i + k : Nat) : Int) ∧ k < l.length ∧ (l.take k).filter (fun v => !p v) = l.take k ∧ p (l.getD k 0) = true)
  | [], i => .inl ⟨rfl, rfl⟩
  | a :: r, i => by
    unfold idxF
    cases h : p a with
    | true => exact .inr ⟨0, by simp, by simp, rfl, by simpa using h⟩
    | false =>
      rw [if_neg (by simp)]
      rcases idxF_lt p r (i + 1) with ⟨h1, h2⟩ | ⟨k, h1, h2, h3, h4⟩
      · exact .inl ⟨h1, by rw [List.filter_cons_of_pos (by simp [h]), h2]⟩
      · exact .inr ⟨k + 1, by rw [h1]; congr 1; omega, by simp; omega, by rw [List.take_succ_cons, List.filter_cons_of_pos (by simp [h]), h3], by simpa using h4⟩
theorem com_eq {o : Option tabE.T} {a b : Int} (h : a ≠ b) : comO o a b = sortI ((linkO o a).filter fun v => hasI v (linkO o b)) := by
  cases o with
  | none => show [] = sortI []; exact (List.length_eq_zero_iff.1 (sortI_len [])).symm
  | some x => show comR x a b = _; unfold comR; rw [if_neg h]; rfl
theorem del_keep {p : Int → Bool} {xs : List Int} {x : Nat × Nat × List Int} (h : (loopDF p xs).inv x) (hlt : x.1 < xs.length) (hp : p (x.2.2.getD x.1 0) = false) : (loopDF p xs).inv (x.1 + 1, x.2.1 + 1, x.2.2.set x.2.1 (x.2.2.getD x.1 0)) := by
  obtain ⟨h1, h2, h3, h4, h5⟩ := h
  have e : x.2.2.getD x.1 0 = xs.getD x.1 0 := by
    have := congrArg (fun l => l.getD 0 0) h5
    simpa [List.getD_eq_getElem?_getD] using this
  refine ⟨by show x.2.1 + 1 < x.1 + 1; omega, by show x.1 + 1 ≤ _; omega, by show (x.2.2.set _ _).length = _; rw [List.length_set]; exact h3, ?_, ?_⟩
  · show (x.2.2.set x.2.1 (x.2.2.getD x.1 0)).take (x.2.1 + 1) = (xs.take (x.1 + 1)).filter _
    rw [List.take_succ_eq_append_getElem (by rw [List.length_set]; omega), List.take_set_of_le (Nat.le_refl _), h4, List.getElem_set_self, List.take_succ_eq_append_getElem hlt, List.filter_append]
    rw [e] at hp ⊢
    rw [List.getD_eq_getElem?_getD, List.getElem?_eq_getElem hlt] at hp ⊢
    have hp : p xs[x.1] = false := hp
    rw [List.filter_cons_of_pos (by rw [hp]; rfl)]; rfl
  · show (x.2.2.set x.2.1 _).drop (x.1 + 1) = xs.drop (x.1 + 1)
    rw [List.drop_set_of_lt (by omega), ← List.drop_drop, h5, List.drop_drop]
theorem del_skip {p : Int → Bool} {xs : List Int} {x : Nat × Nat × List Int} (h : (loopDF p xs).inv x) (hlt : x.1 < xs.length) (hp : p (x.2.2.getD x.1 0) = true) : (loopDF p xs).inv (x.1 + 1, x.2.1, x.2.2) := by
  obtain ⟨h1, h2, h3, h4, h5⟩ := h
  have e : x.2.2.getD x.1 0 = xs.getD x.1 0 := by
    have := congrArg (fun l => l.getD 0 0) h5
    simpa [List.getD_eq_getElem?_getD] using this
  refine ⟨by show x.2.1 < x.1 + 1; omega, by show x.1 + 1 ≤ _; omega, h3, ?_, ?_⟩
  · show x.2.2.take x.2.1 = (xs.take (x.1 + 1)).filter _
    rw [h4, List.take_succ_eq_append_getElem hlt, List.filter_append]
    rw [e, List.getD_eq_getElem?_getD, List.getElem?_eq_getElem hlt] at hp
    have hp : p xs[x.1] = true := hp
    rw [List.filter_cons_of_neg (by rw [hp]; simp)]; simp
  · show x.2.2.drop (x.1 + 1) = xs.drop (x.1 + 1)
    rw [← List.drop_drop, h5, List.drop_drop]
theorem keep_eq (xs m : List Int) : xs.filter (fun v => !!hasI v m) = xs.filter fun v => hasI v m := by simp
theorem com_vc (o : Option tabE.T) (a b : Int) (hg : ∀ x, o = some x → Good x) : afun ⟨tyL, [], [(27, .res linkFC), (45, .run delH), (48, .run sortNH)]⟩ Try.f16 [(ETy.pt tabE).av o, i64E.av a, i64E.av b] (fun r => r = .s (.sl i64E (comO o a b))) := by
  have hlt := idxF_lt (fun v => !hasI v (linkO o b)) (linkO o a) 0
  have hlen := linkO_len o a hg
  repeat' (conv => whnf
           first | done | refine Need.intro (by first | rfl | omega | (simp only [i64ok] at *; omega)) ?_ | refine Need.intro (Hold.out ?_) ?_ | refine Give.intro fun _ => ?_ | refine Both.intro ?_ ?_ | refine BIf.and ?_ | refine BIf.or ?_ | refine BIf.eqi (fun _ => ?_) (fun _ => ?_) | refine BIf.nei (fun _ => ?_) (fun _ => ?_) | refine BIf.dec (fun _ => ?_) (fun _ => ?_) | refine BIf.nt ?_ | refine BIf.intro (fun _ => ?_) (fun _ => ?_) | (refine (fun (X : Array Value) => ?_)) | ((first | (with_reducible show Or (∃ n, rounds (acode _ (Code.seq (Code.region 5 _ _) _)) _ n _) _) | (with_reducible show Or (∃ n, rounds (acode _ (Code.seq (Code.seq (Code.region 5 _ _) _) _)) _ n _) _) | (with_reducible show Or (∃ n, rounds (acode _ (Code.seq (Code.seq (Code.seq (Code.region 5 _ _) _) _) _)) _ n _) _) | (with_reducible show Or (∃ n, rounds (acode _ (Code.seq (Code.seq (Code.seq (Code.seq (Code.region 5 _ _) _) _) _) _)) _ n _) _) | (with_reducible show Or (∃ n, rounds (acode _ (Code.block _ (Code.seq (Code.region 5 _ _) _))) _ n _) _) | (with_reducible show Or (∃ n, rounds (acode _ (Code.block _ (Code.seq (Code.seq (Code.region 5 _ _) _) _))) _ n _) _) | (with_reducible show Or (∃ n, rounds (acode _ (Code.block _ (Code.seq (Code.seq (Code.seq (Code.region 5 _ _) _) _) _))) _ n _) _) | (with_reducible show Or (∃ n, rounds (acode _ (Code.block _ (Code.seq (Code.seq (Code.seq (Code.seq (Code.region 5 _ _) _) _) _) _))) _ n _) _)); refine Or.inr (Exists.intro (Nat × Nat × List Int) (Exists.intro (loopDF (fun v => !hasI v (linkO o b)) (linkO o a)) (And.intro (Exists.intro (((idxF (fun v => !hasI v (linkO o b)) (linkO o a) 0).toNat + 1, (idxF (fun v => !hasI v (linkO o b)) (linkO o a) 0).toNat, linkO o a)) (And.intro (Hold.out ?_) (And.intro ?_ (And.intro ?_ rfl)))) (fun x hx => ?_))))) | ((with_reducible show (∃ y, And (Spec.inv (loopDF _ _) y) _)); refine Exists.intro ((x.1 + 1, if hasI (x.2.2.getD x.1 0) (linkO o b) = true then x.2.1 + 1 else x.2.1, if hasI (x.2.2.getD x.1 0) (linkO o b) = true then x.2.2.set x.2.1 (x.2.2.getD x.1 0) else x.2.2)) (And.intro (Hold.out ?_) (And.intro (And.intro ?_ (And.intro ?_ rfl)) (Hold.out ?_)))) | refine And.intro rfl ?_ | refine And.intro (HoldEq.out ?_) ?_ | refine And.intro (HoldOb.out ?_) ?_ | exact True.intro | refine HoldEq.out ?_ | refine HoldObs.out ?_ | refine KCheck.intro (by kernel_rfl) ?_ | refine HoldOr.out ?_)
  all_goals try first | refine HoldEq.int ?_ | refine HoldEq.bool ?_ | refine HoldEq.sl ?_ | refine HoldEq.own ?_ | refine HoldEq.ownS ?_ ?_ | refine HoldOb.row ?_ | refine HoldOb.map ?_ | refine HoldOb.gmap ?_ | refine HoldOb.grow ?_ | refine HoldObs.row ?_
  all_goals try simp only [take_one, take_one', set_one, take_all, List.length_singleton, rec_self, Int.toNat_natCast, pair_eta, ETy.dflt, List.getD_cons_zero, List.getD_cons_succ, Int.reduceToNat, Int.reduceAdd, Int.reduceSub, Int.reduceNeg, Nat.reduceAdd, Nat.zero_add, loopDF] at *
  · rename_i h
    cases o with
    | none => rfl
    | some x => show [] = comR x a b; unfold comR; rw [if_pos h]
  · have hne : a ≠ b := by assumption
    have hi : idxF (fun v => !hasI v (linkO o b)) (linkO o a) 0 = -1 := by assumption
    rcases hlt with ⟨_, hf⟩ | ⟨k, hk, _⟩
    · rw [com_eq hne, ← keep_eq (linkO o a) (linkO o b), hf]
      simp only [List.take_zero, List.nil_append, List.drop_zero, List.drop_length, List.append_nil]
      exact List.take_of_length_le (Nat.le_of_eq (sortI_len _))
    · rw [hk] at hi; omega
  all_goals
    have hne : a ≠ b := by assumption
    have hi : ¬ idxF (fun v => !hasI v (linkO o b)) (linkO o a) 0 = -1 := by assumption
    obtain ⟨k, hk, hk2, hk3, hk4⟩ := hlt.resolve_left (fun e => hi e.1)
  · rw [hk]; refine Hold.intro ?_; unfold i64ok; omega
  · rw [hk]
    refine Hold.intro ⟨by show ((k : Nat) : Int).toNat < ((k : Nat) : Int).toNat + 1; omega, by show ((k : Nat) : Int).toNat + 1 ≤ _; omega, True.intro, ?_, True.intro⟩
    rw [Int.toNat_natCast, List.take_succ_eq_append_getElem hk2, List.filter_append, hk3]
    rw [List.getD_eq_getElem?_getD, List.getElem?_eq_getElem hk2] at hk4
    have hk4 : (!hasI (linkO o a)[k] (linkO o b)) = true := hk4
    rw [List.filter_cons_of_neg (by rw [hk4]; simp)]; simp
  · rw [hk]; rfl
  · rw [hk]; rfl
  · refine Hold.intro ?_; omega
  · refine Hold.intro ?_; unfold i64ok; omega
  · rename_i hq
    rw [if_pos hq, if_pos hq]
    exact Hold.intro (del_keep hx (by omega) (by rw [hq]; rfl))
  · rename_i hq
    rw [if_pos hq]; rfl
  · rename_i hq
    rw [if_pos hq]
  · refine Hold.intro ?_; omega
  · rename_i hq
    rw [if_neg (by rw [hq]; simp), if_neg (by rw [hq]; simp)]
    exact Hold.intro (del_skip hx (by omega) (by rw [hq]; rfl))
  · rename_i hq
    rw [if_neg (by rw [hq]; simp)]
  · rename_i hq
    rw [if_neg (by rw [hq]; simp)]
  · refine Hold.intro ?_; omega
  · refine Hold.intro ?_; omega
  · refine Hold.intro ?_; omega
  · obtain ⟨h1, h2, h3, h4, h5⟩ := hx
    have he : x.1 = (linkO o a).length := by omega
    rw [he, List.take_length] at h4
    rw [com_eq hne, ← keep_eq (linkO o a) (linkO o b), ← h4]
    have hl : (x.2.2.take x.2.1).length = x.2.1 := by rw [List.length_take]; omega
    simp only [List.drop_zero, List.take_zero, List.nil_append]
    have e2 : ∀ z : List Int, List.take x.2.1 (x.2.2.take x.2.1 ++ z) = x.2.2.take x.2.1 := fun z => by rw [List.take_append_of_le_length (Nat.le_of_eq hl.symm), List.take_of_length_le (Nat.le_of_eq hl)]
    rw [e2, List.take_append_of_le_length (by rw [sortI_len]; omega), List.take_of_length_le (by rw [sortI_len]; omega)]
theorem comRow : FnRow Try.prog 16 comC := ⟨con3_ok fun o a b r h => by
  cases h
  exact fn_by (rulesF (fn := []) (fr := [(27, .res linkFC), (45, .run delH), (48, .run sortNH)]) trivial ⟨linkFRow, delRow, sortNRow, trivial⟩) Try.func16 (by kernel_rfl) fun _ h => com_vc o a b h, _, Try.func16, by kernel_rfl, by kernel_rfl⟩
end S1

open Go Go.Vm Go.Proofs
namespace S1
set_option maxRecDepth 100000

/-! link.Why, May -/
theorem why0_vc (a b : Int) : afun ⟨tyL, [(23, nearC), (50, facing2C), (25, innerC), (16, comC), (47, containsC), (51, smallC)], []⟩ Try.f18 [(ETy.pt tabE).av none, i64E.av a, i64E.av b] (fun r => r = .s (.int .i64 1)) := by
  repeat' (conv => whnf
           first | done | refine Need.intro (by first | rfl | omega | (simp only [i64ok] at *; omega)) ?_ | refine Need.intro (Hold.out ?_) ?_ | refine Give.intro fun _ => ?_ | refine Both.intro ?_ ?_ | refine BIf.and ?_ | refine BIf.or ?_ | refine BIf.eqi (fun _ => ?_) (fun _ => ?_) | refine BIf.nei (fun _ => ?_) (fun _ => ?_) | refine BIf.dec (fun _ => ?_) (fun _ => ?_) | refine BIf.nt ?_ | refine BIf.intro (fun _ => ?_) (fun _ => ?_) | refine And.intro rfl ?_ | refine And.intro (HoldEq.out ?_) ?_ | refine And.intro (HoldOb.out ?_) ?_ | exact True.intro | refine HoldEq.out ?_ | refine HoldObs.out ?_ | refine KCheck.intro (by kernel_rfl) ?_ | refine HoldOr.out ?_)
  all_goals try first | refine HoldEq.int ?_ | refine HoldEq.bool ?_ | refine HoldEq.sl ?_ | refine HoldEq.own ?_ | refine HoldEq.ownS ?_ ?_ | refine HoldOb.row ?_ | refine HoldOb.map ?_ | refine HoldOb.gmap ?_ | refine HoldOb.grow ?_ | refine HoldObs.row ?_
  all_goals try simp only [take_one, take_one', set_one, take_all, List.length_singleton, rec_self, Int.toNat_natCast, pair_eta, ETy.dflt, List.getD_cons_zero, List.getD_cons_succ, Int.reduceToNat, Int.reduceAdd, Int.reduceSub, Int.reduceNeg, Nat.reduceAdd, Nat.zero_add] at *
def whyO (o : Option tabE.T) (a b : Int) : Int := onO o 1 fun x => whyR x a b
def whyC : List AV → Option Res := con3 (.pt tabE) i64E i64E (fun o a b => some (none, some (∀ x, o = some x → Good x), .s (.int .i64 (whyO o a b))))
theorem whyRow : FnRow Try.prog 18 whyC := ⟨con3_ok fun o a b r h => by
  cases h
  cases o with
  | none => exact fn_by (rulesF (fn := [(23, nearC), (50, facing2C), (25, innerC), (16, comC), (47, containsC), (51, smallC)]) (fr := []) ⟨nearRow, facing2Row, innerRow, comRow, containsRow, smallRow, trivial⟩ trivial) Try.func18 (by kernel_rfl) fun _ _ => why0_vc a b
  | some x => exact fn_by (rulesF (fn := [(23, nearC), (50, facing2C), (25, innerC), (16, comC), (47, containsC), (51, smallC)]) (fr := []) ⟨nearRow, facing2Row, innerRow, comRow, containsRow, smallRow, trivial⟩ trivial) Try.func18 (by kernel_rfl) fun _ h => why_vc x a b (h x rfl), _, Try.func18, by kernel_rfl, by kernel_rfl⟩
theorem may_vc (o : Option tabE.T) (a b : Int) (hg : ∀ x, o = some x → Good x) : afun ⟨tyL, [(18, whyC)], []⟩ Try.f20 [(ETy.pt tabE).av o, i64E.av a, i64E.av b] (fun r => r = .s (.bool (whyO o a b == 0))) := by
  repeat' (conv => whnf
           first | done | refine Need.intro (by first | rfl | omega | (simp only [i64ok] at *; omega)) ?_ | refine Need.intro (Hold.out ?_) ?_ | refine Give.intro fun _ => ?_ | refine Both.intro ?_ ?_ | refine BIf.and ?_ | refine BIf.or ?_ | refine BIf.eqi (fun _ => ?_) (fun _ => ?_) | refine BIf.nei (fun _ => ?_) (fun _ => ?_) | refine BIf.dec (fun _ => ?_) (fun _ => ?_) | refine BIf.nt ?_ | refine BIf.intro (fun _ => ?_) (fun _ => ?_) | refine And.intro rfl ?_ | refine And.intro (HoldEq.out ?_) ?_ | refine And.intro (HoldOb.out ?_) ?_ | exact True.intro | refine HoldEq.out ?_ | refine HoldObs.out ?_ | refine KCheck.intro (by kernel_rfl) ?_ | refine HoldOr.out ?_)
  all_goals try first | refine HoldEq.int ?_ | refine HoldEq.bool ?_ | refine HoldEq.sl ?_ | refine HoldEq.own ?_ | refine HoldEq.ownS ?_ ?_ | refine HoldOb.row ?_ | refine HoldOb.map ?_ | refine HoldOb.gmap ?_ | refine HoldOb.grow ?_ | refine HoldObs.row ?_
  all_goals try simp only [take_one, take_one', set_one, take_all, List.length_singleton, rec_self, Int.toNat_natCast, pair_eta, ETy.dflt, List.getD_cons_zero, List.getD_cons_succ, Int.reduceToNat, Int.reduceAdd, Int.reduceSub, Int.reduceNeg, Nat.reduceAdd, Nat.zero_add] at *
  all_goals first | exact Hold.intro hg | skip
def mayC : List AV → Option Res := con3 (.pt tabE) i64E i64E (fun o a b => some (none, some (∀ x, o = some x → Good x), .s (.bool (whyO o a b == 0))))
theorem mayRow : FnRow Try.prog 20 mayC := ⟨con3_ok fun o a b r h => by cases h; exact fn_by (rulesF (fn := [(18, whyC)]) (fr := []) ⟨whyRow, trivial⟩ trivial) Try.func20 (by kernel_rfl) fun _ h => may_vc o a b h, _, Try.func20, by kernel_rfl, by kernel_rfl⟩
/-! the sample -/
def aw1 : Int × List P3 := (4, [(0, 1, 2), (0, 2, 3), (0, 3, 1), (1, 3, 2)])
def aw2 : Int × List P3 := (4, [(0, 1, 2), (2, 1, 3)])
def whyW (x : tabE.T) (a b : Int) (l : List Int) : Int :=
  if !nearR x a b then 1 else if (facR x a b).length = 2 ∧ innerR x a = false ∧ innerR x b = false then 2
  else if whyL (facR x a b) l = false then 3 else if smallR x a then 4 else 0
theorem whyW_is (x : tabE.T) (a b : Int) : whyR x a b = whyW x a b (comR x a b) := rfl
theorem com_is {x : tabE.T} {a b : Int} {l0 l : List Int} (hne : a ≠ b) (hl : ((linkR x a).filter fun v => hasI v (linkR x b)) = l0) (hp : l0.Perm l) (hs : l.Pairwise (· ≤ ·)) : comR x a b = l := by
  unfold comR
  rw [if_neg hne, hl]
  exact sorted_eq ((sortI_perm _).trans hp) (sortI_sorted _) hs
theorem aw1_ok : (chkR' aw1).1 = 0 := by decide +kernel
theorem aw2_ok : (chkR' aw2).1 = 0 := by decide +kernel
theorem aw1_01 : whyO (newO aw1) 0 1 = 4 := by
  rw [newO_ok aw1_ok]
  show whyR (newT aw1) 0 1 = 4
  rw [whyW_is, com_is (l0 := [2, 3]) (l := [2, 3]) (by decide) (by decide +kernel) (.refl _) (by decide)]
  decide +kernel
theorem aw2_12 : whyO (newO aw2) 1 2 = 2 := by
  rw [newO_ok aw2_ok]
  show whyR (newT aw2) 1 2 = 2
  rw [whyW_is, com_is (l0 := [3, 0]) (l := [0, 3]) (by decide) (by decide +kernel) (.swap ..) (by decide)]
  decide +kernel
theorem aw2_01 : whyO (newO aw2) 0 1 = 0 := by
  rw [newO_ok aw2_ok]
  show whyR (newT aw2) 0 1 = 0
  rw [whyW_is, com_is (l0 := [2]) (l := [2]) (by decide) (by decide +kernel) (.refl _) (by decide)]
  decide +kernel
theorem aw2_c : comO (newO aw2) 0 3 = [1, 2] := by
  rw [newO_ok aw2_ok]
  show comR (newT aw2) 0 3 = [1, 2]
  rw [com_is (l0 := [1, 2]) (l := [1, 2]) (by decide) (by decide +kernel) (.refl _) (by decide)]
theorem aw2_03 : whyO (newO aw2) 0 3 = 1 := by
  rw [newO_ok aw2_ok]
  show whyR (newT aw2) 0 3 = 1
  have : comR (newT aw2) 0 3 = [1, 2] := by
    rw [com_is (l0 := [1, 2]) (l := [1, 2]) (by decide) (by decide +kernel) (.refl _) (by decide)]
  rw [whyW_is, this]
  decide +kernel
attribute [local irreducible] newO whyO comO
set_option maxHeartbeats 1000000 in
theorem awake_vc : afun ⟨tyL, [(28, newC), (18, whyC), (20, mayC), (16, comC)], []⟩ Try.f14 [] (fun r => r = .s (.bool true)) := by
  have a1 := aw1_01
  have a2 := aw2_12
  have a3 := aw2_01
  have a4 := aw2_c
  have a5 := aw2_03
  repeat' (conv => whnf
           first | done | refine Need.intro (by first | rfl | omega | (simp only [i64ok] at *; omega)) ?_ | refine Need.intro (Hold.out ?_) ?_ | refine Give.intro fun _ => ?_ | refine Both.intro ?_ ?_ | refine BIf.and ?_ | refine BIf.or ?_ | refine BIf.eqi (fun _ => ?_) (fun _ => ?_) | refine BIf.nei (fun _ => ?_) (fun _ => ?_) | refine BIf.dec (fun _ => ?_) (fun _ => ?_) | refine BIf.nt ?_ | refine BIf.intro (fun _ => ?_) (fun _ => ?_) | refine And.intro rfl ?_ | refine And.intro (HoldEq.out ?_) ?_ | refine And.intro (HoldOb.out ?_) ?_ | exact True.intro | refine HoldEq.out ?_ | refine HoldObs.out ?_ | refine KCheck.intro (by kernel_rfl) ?_ | refine HoldOr.out ?_)
  all_goals try first | refine HoldEq.int ?_ | refine HoldEq.bool ?_ | refine HoldEq.sl ?_ | refine HoldEq.own ?_ | refine HoldEq.ownS ?_ ?_ | refine HoldOb.row ?_ | refine HoldOb.map ?_ | refine HoldOb.gmap ?_ | refine HoldOb.grow ?_ | refine HoldObs.row ?_
  all_goals try simp only [take_one, take_one', set_one, take_all, List.length_singleton, rec_self, Int.toNat_natCast, pair_eta, ETy.dflt, List.getD_cons_zero, List.getD_cons_succ, Int.reduceToNat, Int.reduceAdd, Int.reduceSub, Int.reduceNeg, Nat.reduceAdd, Nat.zero_add] at *
  all_goals try have a1' : ¬ whyO (newO aw1) 0 1 = 0 := by rw [a1]; decide
  all_goals try have a4' : ((comO (newO aw2) 0 3).length : Int) = 2 := by rw [a4]; rfl
  all_goals try have a6 : (comO (newO aw2) 0 3).getD 0 0 = 1 := by rw [a4]; rfl
  all_goals try have a7 : (comO (newO aw2) 0 3).getD 1 0 = 2 := by rw [a4]; rfl
  all_goals first
    | exact Hold.intro newO_good
    | exact absurd a1 (by assumption)
    | exact absurd a2 (by assumption)
    | exact absurd a3 (by assumption)
    | exact absurd a4' (by assumption)
    | exact absurd a5 (by assumption)
    | exact absurd a6 (by assumption)
    | exact absurd a7 (by assumption)
    | exact absurd (by assumption) a1'
    | skip
  · show (decide ((comO (newO aw2) 0 3).getD 1 0 = 2)) = true
    exact decide_eq_true a7
end S1

open Go Go.Vm Go.Proofs
namespace S1
set_option maxRecDepth 100000

/-! gypsumlaw34.LinkNone -/
def awake34C : List AV → Option Res
  | [] => some (none, none, .s (.bool true))
  | _ => none
theorem awake34Row : FnRow Try.prog 14 awake34C := ⟨fun args r h => by
  cases args with
  | nil => cases h; exact fn_by (rulesF (fn := [(28, newC), (18, whyC), (20, mayC), (16, comC)]) (fr := []) ⟨newRow, whyRow, mayRow, comRow, trivial⟩ trivial) Try.func14 (by kernel_rfl) fun _ _ => awake_vc
  | cons a l => (cases h), _, Try.func14, by kernel_rfl, by kernel_rfl⟩
theorem near_self {x : tabE.T} (g : Good x) (a : Int) : nearR x a a = false := by
  have key : ¬ 0 ≤ tFacing x (a, a) := fun h => by
    unfold tFacing at h
    cases e : mget .arr2 x.2.1 (a, a) with
    | none => rw [e] at h; exact absurd h (by decide)
    | some c =>
      obtain ⟨h1, h2⟩ := g.map _ _ e
      exact g.ends c h1 (by rw [h2])
  unfold nearR
  rw [decide_eq_false key]; rfl
/-- What has an edge is a vertex. -/
theorem why_far {x : tabE.T} {a b : Int} (h : nearR x a b = false) : whyR x a b = 1 := by unfold whyR; rw [h]; rfl
theorem com_far {x : tabE.T} {a b : Int} (h : ¬ (0 ≤ b ∧ b < x.1.1)) : comR x a b = [] := by
  unfold comR
  split
  · rfl
  · rw [link_far h]
    have : (linkR x a).filter (fun v => hasI v []) = [] := List.filter_eq_nil_iff.2 fun v _ => by simp [hasI, fstI]
    rw [this]
    exact List.length_eq_zero_iff.1 (sortI_len [])
end S1

open Go Go.Vm Go.Proofs
namespace S1
set_option maxRecDepth 100000

theorem fstI_mem (v : Int) : ∀ (l : List Int) (i : Nat), fstI v l i ≥ 0 ↔ v ∈ l
  | [], i => ⟨fun h => by have h : (-1 : Int) ≥ 0 := h; omega, fun h => (by cases h)⟩
  | a :: r, i => by
    unfold fstI
    split
    · rename_i e; subst e
      exact ⟨fun _ => List.mem_cons_self .., fun _ => by omega⟩
    · rename_i e
      rw [fstI_mem v r, List.mem_cons]
      exact ⟨.inr, fun h => h.resolve_left e⟩
theorem hasI_iff {v : Int} {l : List Int} : hasI v l = true ↔ v ∈ l := by
  unfold hasI; rw [decide_eq_true_eq, fstI_mem]
theorem com_mem {x : tabE.T} (g : Full x) {a b v : Int} : v ∈ comR x a b ↔ a ≠ b ∧ nearR x a v = true ∧ nearR x b v = true := by
  unfold comR
  split
  · rename_i h; exact ⟨fun h => (by cases h), fun h' => absurd h h'.1⟩
  · rename_i h
    rw [(sortI_perm _).mem_iff, List.mem_filter, hasI_iff, g.link_iff, g.link_iff]
    exact ⟨fun k => ⟨h, k⟩, fun k => k.2⟩
theorem Full.fac {x : tabE.T} (g : Full x) {c : Int} (hc : tHas x c = true) : facR x (tEdge x c).1 (tEdge x c).2 = [tVert x c] ++ (if 0 ≤ tOpp x c then [tVert x (tOpp x c)] else []) := by
  unfold facR
  have e1 : tFacing x ((tEdge x c).1, (tEdge x c).2) = c := g.facing hc
  have e2 : tFacing x ((tEdge x c).2, (tEdge x c).1) = tOpp x c := rfl
  rw [e1, e2, if_pos (tHas_iff.1 hc).1]
theorem Full.com_face {x : tabE.T} (g : Full x) {c : Int} (hc : tHas x c = true) : tVert x c ∈ comR x (tEdge x c).1 (tEdge x c).2 := by
  rw [com_mem g]
  refine ⟨g.ends c hc, (near_iff g).2 ⟨_, (hasNP hc).2, .inr (edgeP hc)⟩, (near_iff g).2 ⟨_, (hasNP hc).1, .inl (edgeN hc)⟩⟩
theorem com_comm {x : tabE.T} (g : Full x) {a b v : Int} : v ∈ comR x a b ↔ v ∈ comR x b a := by
  rw [com_mem g, com_mem g]
  exact ⟨fun ⟨h1, h2, h3⟩ => ⟨fun e => h1 e.symm, h3, h2⟩, fun ⟨h1, h2, h3⟩ => ⟨fun e => h1 e.symm, h3, h2⟩⟩
theorem Full.com_face2 {x : tabE.T} (g : Full x) {c : Int} (h : 0 ≤ tOpp x c) : tVert x (tOpp x c) ∈ comR x (tEdge x c).1 (tEdge x c).2 := by
  obtain ⟨h1, h2, h3⟩ := g.opp h
  have := g.com_face h2
  rw [h3] at this
  exact (com_comm g).2 this
theorem whyL_iff {f l : List Int} : whyL f l = true ↔ ∀ v ∈ l, v ∈ f := by
  induction l with
  | nil => exact ⟨fun _ v h => (by cases h), fun _ => rfl⟩
  | cons a r ih =>
    unfold whyL
    rw [Bool.and_eq_true, hasI_iff, ih]
    exact ⟨fun ⟨h1, h2⟩ v hv => by
      rcases List.mem_cons.1 hv with e | hv
      · rw [e]; exact h1
      · exact h2 v hv, fun h => ⟨h a (List.mem_cons_self ..), fun v hv => h v (List.mem_cons_of_mem _ hv)⟩⟩
theorem why_free {x : tabE.T} {a b : Int} (h : whyR x a b = 0) : ∀ v ∈ comR x a b, v ∈ facR x a b := by
  unfold whyR at h
  repeat' split at h
  all_goals first
    | (exact absurd h (by decide))
    | skip
  rename_i hw _
  exact whyL_iff.1 (by cases e : whyL (facR x a b) (comR x a b) with | true => rfl | false => exact absurd e hw)
end S1

open Go Go.Vm Go.Proofs
namespace S1
set_option maxRecDepth 100000

/-! surfaces by index, and as lists -/
theorem tg_inj {l : List P3} (hn : l.Nodup) {i j : Nat} (hi : i < l.length) (hj : j < l.length) (e : tg l i = tg l j) : i = j := by
  unfold tg at e
  rw [List.getD_eq_getElem?_getD, List.getD_eq_getElem?_getD, List.getElem?_eq_getElem hi, List.getElem?_eq_getElem hj] at e
  have e : l[i] = l[j] := e
  have key : ∀ p q (hp : p < l.length) (hq : q < l.length), p < q → l[p] ≠ l[q] := fun p q hp hq h => List.pairwise_iff_getElem.1 hn p q hp hq h
  rcases Nat.lt_trichotomy i j with h | h | h
  · exact absurd e (key i j hi hj h)
  · exact h
  · exact absurd e.symm (key j i hj hi h)
theorem pinM_iff {l : List P3} (hn : l.Nodup) {v : Int} : PinP l v ↔ PinM l v := by
  constructor
  · intro h Q hQ t ht tv hq u hu uv
    obtain ⟨i, hi, ei⟩ := mem_tg ht
    obtain ⟨j, hj, ej⟩ := mem_tg hu
    have := h (fun k => Q (tg l k)) (fun p q hp hq pv qv hw k => hQ _ (tg_mem hp) _ (tg_mem hq) pv qv hw k) i hi (by rw [ei]; exact tv) (by show Q (tg l i); rw [ei]; exact hq) j hj (by rw [ej]; exact uv)
    have this : Q (tg l j) := this
    rw [ej] at this; exact this
  · intro h Q hQ i hi iv hq j hj jv
    obtain ⟨k, hk, ek, qk⟩ := h (fun t => ∃ i, i < l.length ∧ tg l i = t ∧ Q i) (fun t ht u hu tv uv hw ⟨p, hp, ep, qp⟩ => by
      obtain ⟨q, hq, eq⟩ := mem_tg hu
      refine ⟨q, hq, eq, hQ p q hp hq (by show hasV (tg l p) v; rw [ep]; exact tv) (by show hasV (tg l q) v; rw [eq]; exact uv) ?_ qp⟩
      obtain ⟨w, w1, w2, w3⟩ := hw
      exact ⟨w, w1, by show hasV (tg l p) w; rw [ep]; exact w2, by show hasV (tg l q) w; rw [eq]; exact w3⟩) _ (tg_mem hi) iv ⟨i, hi, rfl, hq⟩ _ (tg_mem hj) jv
    rw [← tg_inj hn hk hj ek]; exact qk
abbrev InN (n : Int) : Int → Prop := fun v => 0 ≤ v ∧ v < n
theorem surfM_of {s : Int × List P3} (h : Surf s) : SurfM (InN s.1) s.2 := by
  have hn : s.2.Nodup := by
    refine List.pairwise_iff_getElem.2 fun i j hi hj hij e => ?_
    obtain ⟨w, hw⟩ := has_dE (t := tg s.2 i) (.inl rfl)
    refine h.dif i j hij hj _ _ hw ?_
    have : tg s.2 i = tg s.2 j := by
      unfold tg
      rw [List.getD_eq_getElem?_getD, List.getD_eq_getElem?_getD, List.getElem?_eq_getElem hi, List.getElem?_eq_getElem hj]
      exact e
    rw [← this]; exact hw
  have two : ∀ t ∈ s.2, ∀ u ∈ s.2, t ≠ u → ∃ i j, i < s.2.length ∧ j < s.2.length ∧ i ≠ j ∧ tg s.2 i = t ∧ tg s.2 j = u := fun t ht u hu hne => by
    obtain ⟨i, hi, ei⟩ := mem_tg ht
    obtain ⟨j, hj, ej⟩ := mem_tg hu
    exact ⟨i, j, hi, hj, fun e => hne (by rw [← ei, ← ej, e]), ei, ej⟩
  refine ⟨hn, fun t ht v hv => ?_, fun t ht => ?_, fun t ht u hu hne a b h1 h2 => ?_, fun t ht u hu hne hh => ?_, fun v hv => ?_, fun v hv => ?_⟩
  · obtain ⟨i, hi, ei⟩ := mem_tg ht
    exact fit_hasV h.fit hi (by rw [ei]; exact hv)
  · obtain ⟨i, hi, ei⟩ := mem_tg ht
    rw [← ei]; exact h.deg i hi
  · obtain ⟨i, j, hi, hj, hij, ei, ej⟩ := two t ht u hu hne
    rw [← ei] at h1; rw [← ej] at h2
    rcases Nat.lt_or_gt_of_ne hij with k | k
    · exact h.dif i j k hj a b h1 h2
    · exact h.dif j i k hi a b h2 h1
  · obtain ⟨i, j, hi, hj, hij, ei, ej⟩ := two t ht u hu hne
    rcases Nat.lt_or_gt_of_ne hij with k | k
    · rw [← ei, ← ej] at hh; exact h.mir i j k hj hh
    · -- the other way round: three vertices each
      have hd := h.deg i hi
      rw [ei] at hd
      have hd2 := h.deg j hj
      rw [ej] at hd2
      have key : hasV t u.1 ∧ hasV t u.2.1 ∧ hasV t u.2.2 := by
        obtain ⟨x, y, z⟩ := t
        obtain ⟨p, q, r⟩ := u
        unfold hasV at *
        unfold dgn at *
        simp only at *
        omega
      rw [← ei, ← ej] at key
      exact h.mir j i k hi key
  · obtain ⟨j, hj, hv2⟩ := h.use v.toNat (by rw [Int.toNat_of_nonneg hv.1]; exact hv.2)
    rw [Int.toNat_of_nonneg hv.1] at hv2
    exact ⟨_, tg_mem hj, hv2⟩
  · have := h.pin v.toNat (by rw [Int.toNat_of_nonneg hv.1]; exact hv.2)
    rw [Int.toNat_of_nonneg hv.1] at this
    exact (pinM_iff hn).1 this
theorem surf_ofM {n : Int} {l : List P3} (h0 : 0 ≤ n) (h1 : n ≤ 4096) (h2 : l.length ≤ 8192) (h : SurfM (InN n) l) : Surf (n, l) := by
  refine ⟨⟨h0, h1, h2, fun i hi => ?_⟩, fun i hi => h.deg _ (tg_mem hi), fun i j hij hj a b k1 k2 => ?_, fun i j hij hj hh => ?_, fun v hv => ?_, fun v hv => ?_⟩
  · have e1 := h.ent (tg l i) (tg_mem hi) _ (.inl rfl)
    have e2 := h.ent (tg l i) (tg_mem hi) _ (.inr (.inl rfl))
    have e3 := h.ent (tg l i) (tg_mem hi) _ (.inr (.inr rfl))
    show triIn n (tg l i) = true
    refine tri_good ?_
    unfold InN at e1 e2 e3
    omega
  · have hj : j < l.length := hj
    exact h.dif _ (tg_mem (show i < l.length by omega)) _ (tg_mem hj) (fun e => by have := tg_inj h.nd (show i < l.length by omega) hj e; omega) a b k1 k2
  · have hj : j < l.length := hj
    exact h.mir _ (tg_mem (show i < l.length by omega)) _ (tg_mem hj) (fun e => by have := tg_inj h.nd (show i < l.length by omega) hj e; omega) hh
  · have hv : (v : Int) < n := hv
    obtain ⟨t, ht, tv⟩ := h.use v ⟨by omega, hv⟩
    obtain ⟨j, hj, ej⟩ := mem_tg ht
    exact ⟨j, hj, by show hasV (tg l j) v; rw [ej]; exact tv⟩
  · have hv : (v : Int) < n := hv
    exact (pinM_iff h.nd).2 (h.pin v ⟨by omega, hv⟩)
/-! other names -/
def mapT (r : Int → Int) (t : P3) : P3 := (r t.1, r t.2.1, r t.2.2)
theorem mapT_hasV {r : Int → Int} {t : P3} {u : Int} : hasV (mapT r t) u ↔ ∃ v, hasV t v ∧ r v = u := by
  constructor
  · rintro (e | e | e)
    · exact ⟨_, .inl rfl, e⟩
    · exact ⟨_, .inr (.inl rfl), e⟩
    · exact ⟨_, .inr (.inr rfl), e⟩
  · rintro ⟨v, e | e | e, rfl⟩
    · exact .inl (by rw [← e]; rfl)
    · exact .inr (.inl (by rw [← e]; rfl))
    · exact .inr (.inr (by rw [← e]; rfl))
theorem mapT_dE {r : Int → Int} {t : P3} {p q : Int} : dE (mapT r t) p q ↔ ∃ p0 q0, dE t p0 q0 ∧ r p0 = p ∧ r q0 = q := by
  constructor
  · rintro (⟨e1, e2⟩ | ⟨e1, e2⟩ | ⟨e1, e2⟩)
    · exact ⟨_, _, .inl ⟨rfl, rfl⟩, e1, e2⟩
    · exact ⟨_, _, .inr (.inl ⟨rfl, rfl⟩), e1, e2⟩
    · exact ⟨_, _, .inr (.inr ⟨rfl, rfl⟩), e1, e2⟩
  · rintro ⟨p0, q0, ⟨e1, e2⟩ | ⟨e1, e2⟩ | ⟨e1, e2⟩, rfl, rfl⟩
    · exact .inl ⟨by rw [← e1]; rfl, by rw [← e2]; rfl⟩
    · exact .inr (.inl ⟨by rw [← e1]; rfl, by rw [← e2]; rfl⟩)
    · exact .inr (.inr ⟨by rw [← e1]; rfl, by rw [← e2]; rfl⟩)
/-- A SURFACE WITH OTHER NAMES IS ONE. -/
theorem surfM_map {V W : Int → Prop} {l : List P3} (h : SurfM V l) (r : Int → Int) (hr : ∀ v, V v → W (r v)) (hi : ∀ v w, V v → V w → r v = r w → v = w) (ho : ∀ u, W u → ∃ v, V v ∧ r v = u) : SurfM W (l.map (mapT r)) := by
  have inj : ∀ t ∈ l, ∀ u ∈ l, mapT r t = mapT r u → t = u := fun t ht u hu e => by
    have e1 := congrArg Prod.fst e
    have e2 := congrArg (fun p => p.2.1) e
    have e3 := congrArg (fun p => p.2.2) e
    exact Prod.ext (hi _ _ (h.ent t ht _ (.inl rfl)) (h.ent u hu _ (.inl rfl)) e1) (Prod.ext (hi _ _ (h.ent t ht _ (.inr (.inl rfl))) (h.ent u hu _ (.inr (.inl rfl))) e2) (hi _ _ (h.ent t ht _ (.inr (.inr rfl))) (h.ent u hu _ (.inr (.inr rfl))) e3))
  have back : ∀ {t : P3} {v : Int}, t ∈ l → V v → (hasV (mapT r t) (r v) ↔ hasV t v) := fun {t v} ht hv => by
    rw [mapT_hasV]
    exact ⟨fun ⟨w, hw, e⟩ => by rw [← hi w v (h.ent t ht w hw) hv e]; exact hw, fun k => ⟨v, k, rfl⟩⟩
  refine ⟨?_, fun t' ht' u hu => ?_, fun t' ht' => ?_, fun t' ht' u' hu' hne p q h1 h2 => ?_, fun t' ht' u' hu' hne hh => ?_, fun u hu => ?_, fun u hu => ?_⟩
  · exact List.Pairwise.map _ (fun t u hh e => hh.1 (inj t hh.2.1 u hh.2.2 e)) (h.nd.imp_of_mem (S := fun t u => t ≠ u ∧ t ∈ l ∧ u ∈ l) fun ht hu hn => ⟨hn, ht, hu⟩)
  · obtain ⟨t, ht, rfl⟩ := List.mem_map.1 ht'
    obtain ⟨v, hv, rfl⟩ := mapT_hasV.1 hu
    exact hr v (h.ent t ht v hv)
  · obtain ⟨t, ht, rfl⟩ := List.mem_map.1 ht'
    have hd := h.deg t ht
    rintro (e | e | e)
    · exact hd (.inl (hi _ _ (h.ent t ht _ (.inl rfl)) (h.ent t ht _ (.inr (.inl rfl))) e))
    · exact hd (.inr (.inl (hi _ _ (h.ent t ht _ (.inr (.inl rfl))) (h.ent t ht _ (.inr (.inr rfl))) e)))
    · exact hd (.inr (.inr (hi _ _ (h.ent t ht _ (.inr (.inr rfl))) (h.ent t ht _ (.inl rfl)) e)))
  · obtain ⟨t, ht, rfl⟩ := List.mem_map.1 ht'
    obtain ⟨u, hu, rfl⟩ := List.mem_map.1 hu'
    obtain ⟨p0, q0, d0, e1, e2⟩ := mapT_dE.1 h1
    obtain ⟨p1, q1, d1, e3, e4⟩ := mapT_dE.1 h2
    have k1 := hi _ _ (h.ent t ht _ (dE_hasV d0).1) (h.ent u hu _ (dE_hasV d1).1) (e1.trans e3.symm)
    have k2 := hi _ _ (h.ent t ht _ (dE_hasV d0).2) (h.ent u hu _ (dE_hasV d1).2) (e2.trans e4.symm)
    rw [← k1, ← k2] at d1
    exact h.dif t ht u hu (fun e => hne (by rw [e])) _ _ d0 d1
  · obtain ⟨t, ht, rfl⟩ := List.mem_map.1 ht'
    obtain ⟨u, hu, rfl⟩ := List.mem_map.1 hu'
    exact h.mir t ht u hu (fun e => hne (by rw [e])) ⟨(back hu (h.ent t ht _ (.inl rfl))).1 hh.1, (back hu (h.ent t ht _ (.inr (.inl rfl)))).1 hh.2.1, (back hu (h.ent t ht _ (.inr (.inr rfl)))).1 hh.2.2⟩
  · obtain ⟨v, hv, rfl⟩ := ho u hu
    obtain ⟨t, ht, tv⟩ := h.use v hv
    exact ⟨_, List.mem_map.2 ⟨t, ht, rfl⟩, (back ht hv).2 tv⟩
  · obtain ⟨v, hv, rfl⟩ := ho u hu
    intro Q hQ t' ht' tv' hq u' hu' uv'
    obtain ⟨t, ht, rfl⟩ := List.mem_map.1 ht'
    obtain ⟨u, hu, rfl⟩ := List.mem_map.1 hu'
    refine h.pin v hv (fun s => Q (mapT r s)) (fun s hs q hq2 sv qv ⟨w, wv, sw, qw⟩ k => ?_) t ht ((back ht hv).1 tv') hq u hu ((back hu hv).1 uv')
    exact hQ _ (List.mem_map.2 ⟨s, hs, rfl⟩) _ (List.mem_map.2 ⟨q, hq2, rfl⟩) ((back hs hv).2 sv) ((back hq2 hv).2 qv) ⟨r w, fun e => wv (hi _ _ (h.ent s hs w sw) hv e), mapT_hasV.2 ⟨w, sw, rfl⟩, mapT_hasV.2 ⟨w, qw, rfl⟩⟩ k
/-! numbers above one fall -/
def dn (a v : Int) : Int := if v > a then v - 1 else v
theorem dn_map {n a : Int} (ha : 0 ≤ a ∧ a < n) {l : List P3} (h : SurfM (fun v => InN n v ∧ v ≠ a) l) : SurfM (InN (n - 1)) (l.map (mapT (dn a))) := by
  refine surfM_map h (dn a) (fun v hv => ?_) (fun v w hv hw e => ?_) fun u hu => ?_
  · obtain ⟨hv, hne⟩ := hv
    unfold InN at *
    unfold dn; split <;> omega
  · have h1 := hv.2; have h2 := hw.2
    unfold dn at e; split at e <;> split at e <;> omega
  · unfold InN at hu
    by_cases k : u ≥ a
    · exact ⟨u + 1, ⟨⟨by omega, by omega⟩, by omega⟩, by unfold dn; rw [if_pos (by omega)]; omega⟩
    · exact ⟨u, ⟨⟨by omega, by omega⟩, by omega⟩, by unfold dn; rw [if_neg (by omega)]⟩
end S1

open Go Go.Vm Go.Proofs
namespace S1
set_option maxRecDepth 100000

/-! what link.Why says of a free edge -/
theorem why_0 {x : tabE.T} {a b : Int} (h : whyR x a b = 0) : nearR x a b = true ∧ ¬ ((facR x a b).length = 2 ∧ innerR x a = false ∧ innerR x b = false) ∧ smallR x a = false := by
  unfold whyR at h
  split at h
  · cases h
  · rename_i h1
    split at h
    · cases h
    · rename_i h2
      split at h
      · cases h
      · split at h
        · cases h
        · rename_i h4
          exact ⟨by simpa using h1, h2, by simpa using h4⟩
theorem face_iff {x : tabE.T} (g : Full x) {a b : Int} : tFacing x (a, b) ≥ 0 ↔ eE x.1.2 a b := by
  rw [eE_iff]
  constructor
  · intro h
    unfold tFacing at h
    cases e : mget .arr2 x.2.1 (a, b) with
    | none => rw [e] at h; exact absurd h (by decide)
    | some c => exact ⟨c, g.map _ _ e⟩
  · rintro ⟨d, h1, h2⟩
    rw [← h2, g.facing h1]; exact (tHas_iff.1 h1).1
theorem face_two {x : tabE.T} (g : Full x) {a b : Int} (h1 : eE x.1.2 a b) (h2 : eE x.1.2 b a) : (facR x a b).length = 2 := by
  unfold facR
  rw [if_pos ((face_iff g).2 h1), if_pos ((face_iff g).2 h2)]; rfl
theorem two_dE {t : P3} {a b : Int} (hab : a ≠ b) (h1 : hasV t a) (h2 : hasV t b) : dE t a b ∨ dE t b a := by
  obtain ⟨x, y, z⟩ := t
  unfold hasV at h1 h2; unfold dE
  simp only at *
  rcases h1 with e1 | e1 | e1 <;> rcases h2 with e2 | e2 | e2 <;> first | (exfalso; omega) | (subst e1 e2; simp)
theorem dE_anti {t : P3} (hd : ¬ dgn t) {a b : Int} (h1 : dE t a b) (h2 : dE t b a) : False := by
  unfold dgn at hd; unfold dE at h1 h2; omega
theorem near_has {x : tabE.T} (g : Full x) {a v : Int} (hav : a ≠ v) : nearR x a v = true ↔ ∃ t ∈ x.1.2, hasV t a ∧ hasV t v := by
  rw [near_iff g]
  constructor
  · rintro ⟨d, d1, d2⟩
    have k := cor_dE d1
    refine ⟨_, tg_mem k.1, ?_⟩
    have := dE_hasV k.2
    rcases d2 with e | e
    · rw [e] at this; exact this
    · rw [e] at this; exact this.symm
  · rintro ⟨t, ht, h1, h2⟩
    rcases two_dE hav h1 h2 with e | e
    · obtain ⟨d, d1, d2⟩ := eE_iff.1 (eE_mem.2 ⟨t, ht, e⟩)
      exact ⟨d, d1, .inl d2⟩
    · obtain ⟨d, d1, d2⟩ := eE_iff.1 (eE_mem.2 ⟨t, ht, e⟩)
      exact ⟨d, d1, .inr d2⟩
theorem fac_tri {x : tabE.T} (g : Full x) {a b v : Int} (h : v ∈ facR x a b) : ∃ t ∈ x.1.2, hasV t a ∧ hasV t b ∧ hasV t v := by
  have key : ∀ {p q : Int}, tFacing x (p, q) ≥ 0 → tVert x (tFacing x (p, q)) = v → ∃ t ∈ x.1.2, hasV t p ∧ hasV t q ∧ hasV t v := fun {p q} h1 h2 => by
    unfold tFacing at h1 h2
    cases e : mget .arr2 x.2.1 (p, q) with
    | none => rw [e] at h1; exact absurd h1 (by decide)
    | some c =>
      rw [e] at h2
      have h2 : tVert x c = v := h2
      obtain ⟨k1, k2⟩ := g.map _ _ e
      have k := cor_dE k1
      rw [k2] at k
      have kv := cor_tri k1
      rw [h2] at kv
      exact ⟨_, tg_mem k.1, (dE_hasV k.2).1, (dE_hasV k.2).2, kv.2⟩
  unfold facR at h
  rcases List.mem_append.1 h with h | h
  · split at h
    · exact key (by assumption) (List.mem_singleton.1 h).symm
    · cases h
  · split at h
    · obtain ⟨t, ht, h1, h2, h3⟩ := key (by assumption) (List.mem_singleton.1 h).symm
      exact ⟨t, ht, h2, h1, h3⟩
    · cases h
/-! shells, counted -/
theorem adj_iff {x : tabE.T} (g : Full x) {i j : Nat} : Adj x i j ↔ i < x.1.2.length ∧ j < x.1.2.length ∧ ∃ p q, dE (tg x.1.2 i) p q ∧ dE (tg x.1.2 j) q p := by
  constructor
  · rintro ⟨c, c1, c2, c3, c4⟩
    obtain ⟨k1, k2, k3, k4⟩ := g.opp_v (c := c) c3
    have e1 := cor_dE c1
    have e2 := cor_dE k2
    rw [c2] at e1
    rw [c4] at e2
    refine ⟨e1.1, e2.1, (tEdge x c).1, (tEdge x c).2, e1.2, ?_⟩
    have e3 : tEdge x (tOpp x c) = ((tEdge x c).2, (tEdge x c).1) := Prod.ext k3 k4
    rw [e3] at e2
    exact e2.2
  · rintro ⟨hi, hj, p, q, h1, h2⟩
    obtain ⟨c, c1, c2, c3⟩ := dE_cor hi h1
    obtain ⟨d, d1, d2, d3⟩ := dE_cor hj h2
    have e : tOpp x c = d := g.opp_is d1 (by rw [c2, d2])
    exact ⟨c, c1, c3, by rw [e]; exact (tHas_iff.1 d1).1, by rw [e]; exact d3⟩
theorem vert_lab {x : tabE.T} (g : Full x) {i j : Nat} (hi : i < x.1.2.length) (hj : j < x.1.2.length) {v : Int} (h1 : hasV (tg x.1.2 i) v) (h2 : hasV (tg x.1.2 j) v) (hs : SurfM (InN x.1.1) x.1.2) : Conn (Adj x) i j := by
  have hv := hs.ent _ (tg_mem hi) v h1
  refine (pinM_iff hs.nd).2 (hs.pin v hv) (fun k => Conn (Adj x) i k) (fun p q hp hq pv qv ⟨w, wv, pw, qw⟩ k => ?_) i hi h1 (.refl _) j hj h2
  by_cases e : p = q
  · subst e; exact k
  · refine .step k ((adj_iff g).2 ⟨hp, hq, ?_⟩)
    have ne : tg x.1.2 p ≠ tg x.1.2 q := fun e' => e (tg_inj hs.nd hp hq e')
    rcases two_dE wv pw pv with a | a <;> rcases two_dE wv qw qv with b | b
    · exact absurd b (hs.dif _ (tg_mem hp) _ (tg_mem hq) ne _ _ a)
    · exact ⟨_, _, a, b⟩
    · exact ⟨_, _, a, b⟩
    · exact absurd b (hs.dif _ (tg_mem hp) _ (tg_mem hq) ne _ _ a)
theorem smS_cnt (x : tabE.T) (m : Int) : ∀ k, (smS x m k).1 = (((List.range k).filter fun i => decide ((ofR x).getD i 0 = m)).length : Int)
  | 0 => rfl
  | k + 1 => by
    rw [List.range_succ, List.filter_append]
    by_cases h : (ofR x).getD k 0 = m
    · rw [smS_yes h]
      show (smS x m k).1 + 1 = _
      rw [smS_cnt x m k, List.filter_cons_of_pos (by simpa using h)]
      simp
    · rw [smS_no h, smS_cnt x m k, List.filter_cons_of_neg (by simpa using h)]
      simp
theorem smC_flag (x : tabE.T) (i : Nat) (b : Bool) : ∀ c, irec (smC x i) b c = true ↔ b = true ∨ ∃ d : Nat, d < c ∧ tOpp x (3 * i + d) < 0
  | 0 => ⟨.inl, fun h => by rcases h with h | ⟨d, h, _⟩; exact h; omega⟩
  | c + 1 => by
    rw [smC_s, Bool.or_eq_true, smC_flag x i b c, decide_eq_true_eq]
    constructor
    · rintro ((h | ⟨d, h1, h2⟩) | h)
      · exact .inl h
      · exact .inr ⟨d, by omega, h2⟩
      · exact .inr ⟨c, by omega, h⟩
    · rintro (h | ⟨d, h1, h2⟩)
      · exact .inl (.inl h)
      · by_cases e : d = c
        · subst e; exact .inr h2
        · exact .inl (.inr ⟨d, by omega, h2⟩)
theorem smS_flag (x : tabE.T) (m : Int) : ∀ k, (smS x m k).2 = true ↔ ∃ i, i < k ∧ (ofR x).getD i 0 = m ∧ ∃ d : Nat, d < 3 ∧ tOpp x (3 * i + d) < 0
  | 0 => ⟨fun h => (by cases h), fun ⟨i, h, _⟩ => by omega⟩
  | k + 1 => by
    by_cases h : (ofR x).getD k 0 = m
    · rw [smS_yes h]
      show irec (smC x k) (smS x m k).2 3 = true ↔ _
      rw [smC_flag, smS_flag x m k]
      constructor
      · rintro (⟨i, h1, h2⟩ | h1)
        · exact ⟨i, by omega, h2⟩
        · exact ⟨k, by omega, h, h1⟩
      · rintro ⟨i, h1, h2, h3⟩
        by_cases e : i = k
        · subst e; exact .inr h3
        · exact .inl ⟨i, by omega, h2, h3⟩
    · rw [smS_no h, smS_flag x m k]
      constructor
      · rintro ⟨i, h1, h2⟩; exact ⟨i, by omega, h2⟩
      · rintro ⟨i, h1, h2, h3⟩
        refine ⟨i, ?_, h2, h3⟩
        by_cases e : i = k
        · subst e; exact absurd h2 h
        · omega
theorem len_subN (k l : List Nat) (hn : k.Nodup) (h : ∀ i ∈ k, i ∈ l) : k.length ≤ l.length := by
  have := len_sub (k.map fun i => ((i : Nat) : Int)) (l.map fun i => ((i : Nat) : Int)) (List.Pairwise.map _ (fun i j hij e => hij (by omega)) hn) fun v hv => by
    obtain ⟨i, hi, rfl⟩ := List.mem_map.1 hv
    exact List.mem_map.2 ⟨i, h i hi, rfl⟩
  simpa using this
/-- A closed lot of triangles at a vertex is its shell. -/
theorem shell_cnt {x : tabE.T} (g : Full x) (hs : SurfM (InN x.1.1) x.1.2) {a : Int} (ha : InN x.1.1 a) {S : List Nat} (hn : S.Nodup) {i0 : Nat} (h0 : i0 ∈ S) (hv : hasV (tg x.1.2 i0) a) (hl : ∀ i ∈ S, i < x.1.2.length) (hc : ∀ i ∈ S, ∀ j, Adj x i j → j ∈ S) (hk : ∀ i ∈ S, Conn (Adj x) i0 i) :
    (smS x (smM x a) (ofR x).length).1 = (S.length : Int) ∧ ∀ i, i < x.1.2.length → ((ofR x).getD i 0 = smM x a ↔ i ∈ S) := by
  have hlen := ofR_len g.toGood
  obtain ⟨c1, c2⟩ := g.vtx a ha.1 ha.2
  have kt := cor_tri c1
  rw [c2] at kt
  have hlab : (ofR x).getD i0 0 = smM x a := by
    unfold smM
    exact (shell_iff g (hl _ h0) kt.1).2 (vert_lab g (hl _ h0) kt.1 hv kt.2 hs)
  have hmem : ∀ i, i < x.1.2.length → ((ofR x).getD i 0 = smM x a ↔ i ∈ S) := fun i hi => by
    rw [← hlab, eq_comm, shell_iff g (hl _ h0) hi]
    constructor
    · intro k
      induction k with
      | refl => exact h0
      | step _ a ih => exact hc _ (ih (adj_lt g.toGood a).1) _ a
    · exact fun k => hk i k
  refine ⟨?_, hmem⟩
  rw [smS_cnt, hlen]
  have e : ((List.range x.1.2.length).filter fun i => decide ((ofR x).getD i 0 = smM x a)).length = S.length := by
    apply Nat.le_antisymm
    · refine len_subN _ _ (List.nodup_range.sublist List.filter_sublist) fun i hi => ?_
      obtain ⟨k1, k2⟩ := List.mem_filter.1 hi
      exact (hmem i (List.mem_range.1 k1)).1 (by simpa using k2)
    · refine len_subN _ _ hn fun i hi => List.mem_filter.2 ⟨List.mem_range.2 (hl i hi), by simpa using (hmem i (hl i hi)).2 hi⟩
  rw [e]
end S1
