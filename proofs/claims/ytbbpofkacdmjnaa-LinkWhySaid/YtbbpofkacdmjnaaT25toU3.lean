/- A part of the proofs of the laws of this seat: contracts of functions, each for every input that its text names. -/
import Derived.Test.YtbbpofkacdmjnaaT16toT24
import Derived.Test.YtbbpofkacdmjnaaF3toT15
import Derived.Test.YtbbpofkacdmjnaaVmRng2toFan2
set_option linter.unusedSimpArgs false
set_option linter.unusedVariables false
set_option maxHeartbeats 2000000
open Go Go.Vm Go.Proofs
namespace S1
set_option maxRecDepth 100000

/-! link.Why, May -/
theorem why0_vc (a b : Int) : afun ⟨tyL, [(23, nearC), (50, facing2C), (25, innerC), (16, comC), (47, containsC), (51, smallC)], []⟩ Try.f18 [(ETy.pt tabE).av none, i64E.av a, i64E.av b] (fun r => r = .s (.int .i64 1)) := by
  repeat' (conv => whnf
           first | done | refine Need.intro (by first | rfl | omega | (simp only [i64ok] at *; omega)) ?_ | refine Need.intro (Hold.out ?_) ?_ | refine Give.intro fun _ => ?_ | refine Both.intro ?_ ?_ | refine BIf.and ?_ | refine BIf.or ?_ | refine BIf.eqi (fun _ => ?_) (fun _ => ?_) | refine BIf.nei (fun _ => ?_) (fun _ => ?_) | refine BIf.dec (fun _ => ?_) (fun _ => ?_) | refine BIf.nt ?_ | refine BIf.intro (fun _ => ?_) (fun _ => ?_) | refine And.intro rfl ?_ | refine And.intro (HoldEq.out ?_) ?_ | refine And.intro (HoldOb.out ?_) ?_ | exact True.intro | refine HoldEq.out ?_ | refine HoldObs.out ?_ | refine KCheck.intro (by kernel_rfl) ?_ | refine HoldOr.out ?_)
  all_goals try first | refine HoldEq.int ?_ | refine HoldEq.bool ?_ | refine HoldEq.sl ?_ | refine HoldEq.own ?_ | refine HoldEq.ownS ?_ ?_ | refine HoldOb.row ?_ | refine HoldOb.map ?_ | refine HoldOb.gmap ?_ | refine HoldOb.grow ?_ | refine HoldObs.row ?_
  all_goals try simp only [take_one, take_one', set_one, take_all, List.length_singleton, rec_self, Int.toNat_natCast, pair_eta, ETy.dflt, List.getD_cons_zero, List.getD_cons_succ, Int.reduceToNat, Int.reduceAdd, Int.reduceSub, Int.reduceNeg, Nat.reduceAdd, Nat.zero_add] at *
def whyO (o : Option tabE.T) (a b : Int) : Int := onO o 1 fun x => whyR x a b
def whyC : List AV → Option Res := con3 (.pt tabE) i64E i64E (fun o a b => some (none, some (∀ x, o = some x → Good x), .s (.int .i64 (whyO o a b))))
theorem whyRow : FnRow Try.prog 18 whyC := ⟨con3_ok fun o a b r h => by
  cases h
  cases o with
  | none => exact fn_by (rulesF (fn := [(23, nearC), (50, facing2C), (25, innerC), (16, comC), (47, containsC), (51, smallC)]) (fr := []) ⟨nearRow, facing2Row, innerRow, comRow, containsRow, smallRow, trivial⟩ trivial) Try.func18 (by kernel_rfl) fun _ _ => why0_vc a b
  | some x => exact fn_by (rulesF (fn := [(23, nearC), (50, facing2C), (25, innerC), (16, comC), (47, containsC), (51, smallC)]) (fr := []) ⟨nearRow, facing2Row, innerRow, comRow, containsRow, smallRow, trivial⟩ trivial) Try.func18 (by kernel_rfl) fun _ h => why_vc x a b (h x rfl), _, Try.func18, by kernel_rfl, by kernel_rfl⟩
theorem may_vc (o : Option tabE.T) (a b : Int) (hg : ∀ x, o = some x → Good x) : afun ⟨tyL, [(18, whyC)], []⟩ Try.f20 [(ETy.pt tabE).av o, i64E.av a, i64E.av b] (fun r => r = .s (.bool (whyO o a b == 0))) := by
  repeat' (conv => whnf
           first | done | refine Need.intro (by first | rfl | omega | (simp only [i64ok] at *; omega)) ?_ | refine Need.intro (Hold.out ?_) ?_ | refine Give.intro fun _ => ?_ | refine Both.intro ?_ ?_ | refine BIf.and ?_ | refine BIf.or ?_ | refine BIf.eqi (fun _ => ?_) (fun _ => ?_) | refine BIf.nei (fun _ => ?_) (fun _ => ?_) | refine BIf.dec (fun _ => ?_) (fun _ => ?_) | refine BIf.nt ?_ | refine BIf.intro (fun _ => ?_) (fun _ => ?_) | refine And.intro rfl ?_ | refine And.intro (HoldEq.out ?_) ?_ | refine And.intro (HoldOb.out ?_) ?_ | exact True.intro | refine HoldEq.out ?_ | refine HoldObs.out ?_ | refine KCheck.intro (by kernel_rfl) ?_ | refine HoldOr.out ?_)
  all_goals try first | refine HoldEq.int ?_ | refine HoldEq.bool ?_ | refine HoldEq.sl ?_ | refine HoldEq.own ?_ | refine HoldEq.ownS ?_ ?_ | refine HoldOb.row ?_ | refine HoldOb.map ?_ | refine HoldOb.gmap ?_ | refine HoldOb.grow ?_ | refine HoldObs.row ?_
  all_goals try simp only [take_one, take_one', set_one, take_all, List.length_singleton, rec_self, Int.toNat_natCast, pair_eta, ETy.dflt, List.getD_cons_zero, List.getD_cons_succ, Int.reduceToNat, Int.reduceAdd, Int.reduceSub, Int.reduceNeg, Nat.reduceAdd, Nat.zero_add] at *
  all_goals first | exact Hold.intro hg | skip
def mayC : List AV → Option Res := con3 (.pt tabE) i64E i64E (fun o a b => some (none, some (∀ x, o = some x → Good x), .s (.bool (whyO o a b == 0))))
theorem mayRow : FnRow Try.prog 20 mayC := ⟨con3_ok fun o a b r h => by cases h; exact fn_by (rulesF (fn := [(18, whyC)]) (fr := []) ⟨whyRow, trivial⟩ trivial) Try.func20 (by kernel_rfl) fun _ h => may_vc o a b h, _, Try.func20, by kernel_rfl, by kernel_rfl⟩
/-! the sample -/
def aw1 : Int × List P3 := (4, [(0, 1, 2), (0, 2, 3), (0, 3, 1), (1, 3, 2)])
def aw2 : Int × List P3 := (4, [(0, 1, 2), (2, 1, 3)])
def whyW (x : tabE.T) (a b : Int) (l : List Int) : Int :=
  if !nearR x a b then 1 else if (facR x a b).length = 2 ∧ innerR x a = false ∧ innerR x b = false then 2
  else if whyL (facR x a b) l = false then 3 else if smallR x a then 4 else 0
theorem whyW_is (x : tabE.T) (a b : Int) : whyR x a b = whyW x a b (comR x a b) := rfl
theorem com_is {x : tabE.T} {a b : Int} {l0 l : List Int} (hne : a ≠ b) (hl : ((linkR x a).filter fun v => hasI v (linkR x b)) = l0) (hp : l0.Perm l) (hs : l.Pairwise (· ≤ ·)) : comR x a b = l := by
  unfold comR
  rw [if_neg hne, hl]
  exact sorted_eq ((sortI_perm _).trans hp) (sortI_sorted _) hs
theorem aw1_ok : (chkR' aw1).1 = 0 := by decide +kernel
theorem aw2_ok : (chkR' aw2).1 = 0 := by decide +kernel
theorem aw1_01 : whyO (newO aw1) 0 1 = 4 := by
  rw [newO_ok aw1_ok]
  show whyR (newT aw1) 0 1 = 4
  rw [whyW_is, com_is (l0 := [2, 3]) (l := [2, 3]) (by decide) (by decide +kernel) (.refl _) (by decide)]
  decide +kernel
theorem aw2_12 : whyO (newO aw2) 1 2 = 2 := by
  rw [newO_ok aw2_ok]
  show whyR (newT aw2) 1 2 = 2
  rw [whyW_is, com_is (l0 := [3, 0]) (l := [0, 3]) (by decide) (by decide +kernel) (.swap ..) (by decide)]
  decide +kernel
theorem aw2_01 : whyO (newO aw2) 0 1 = 0 := by
  rw [newO_ok aw2_ok]
  show whyR (newT aw2) 0 1 = 0
  rw [whyW_is, com_is (l0 := [2]) (l := [2]) (by decide) (by decide +kernel) (.refl _) (by decide)]
  decide +kernel
theorem aw2_c : comO (newO aw2) 0 3 = [1, 2] := by
  rw [newO_ok aw2_ok]
  show comR (newT aw2) 0 3 = [1, 2]
  rw [com_is (l0 := [1, 2]) (l := [1, 2]) (by decide) (by decide +kernel) (.refl _) (by decide)]
theorem aw2_03 : whyO (newO aw2) 0 3 = 1 := by
  rw [newO_ok aw2_ok]
  show whyR (newT aw2) 0 3 = 1
  have : comR (newT aw2) 0 3 = [1, 2] := by
    rw [com_is (l0 := [1, 2]) (l := [1, 2]) (by decide) (by decide +kernel) (.refl _) (by decide)]
  rw [whyW_is, this]
  decide +kernel
attribute [local irreducible] newO whyO comO
set_option maxHeartbeats 1000000 in
theorem awake_vc : afun ⟨tyL, [(28, newC), (18, whyC), (20, mayC), (16, comC)], []⟩ Try.f14 [] (fun r => r = .s (.bool true)) := by
  have a1 := aw1_01
  have a2 := aw2_12
  have a3 := aw2_01
  have a4 := aw2_c
  have a5 := aw2_03
  repeat' (conv => whnf
           first | done | refine Need.intro (by first | rfl | omega | (simp only [i64ok] at *; omega)) ?_ | refine Need.intro (Hold.out ?_) ?_ | refine Give.intro fun _ => ?_ | refine Both.intro ?_ ?_ | refine BIf.and ?_ | refine BIf.or ?_ | refine BIf.eqi (fun _ => ?_) (fun _ => ?_) | refine BIf.nei (fun _ => ?_) (fun _ => ?_) | refine BIf.dec (fun _ => ?_) (fun _ => ?_) | refine BIf.nt ?_ | refine BIf.intro (fun _ => ?_) (fun _ => ?_) | refine And.intro rfl ?_ | refine And.intro (HoldEq.out ?_) ?_ | refine And.intro (HoldOb.out ?_) ?_ | exact True.intro | refine HoldEq.out ?_ | refine HoldObs.out ?_ | refine KCheck.intro (by kernel_rfl) ?_ | refine HoldOr.out ?_)
  all_goals try first | refine HoldEq.int ?_ | refine HoldEq.bool ?_ | refine HoldEq.sl ?_ | refine HoldEq.own ?_ | refine HoldEq.ownS ?_ ?_ | refine HoldOb.row ?_ | refine HoldOb.map ?_ | refine HoldOb.gmap ?_ | refine HoldOb.grow ?_ | refine HoldObs.row ?_
  all_goals try simp only [take_one, take_one', set_one, take_all, List.length_singleton, rec_self, Int.toNat_natCast, pair_eta, ETy.dflt, List.getD_cons_zero, List.getD_cons_succ, Int.reduceToNat, Int.reduceAdd, Int.reduceSub, Int.reduceNeg, Nat.reduceAdd, Nat.zero_add] at *
  all_goals try have a1' : ¬ whyO (newO aw1) 0 1 = 0 := by rw [a1]; decide
  all_goals try have a4' : ((comO (newO aw2) 0 3).length : Int) = 2 := by rw [a4]; rfl
  all_goals try have a6 : (comO (newO aw2) 0 3).getD 0 0 = 1 := by rw [a4]; rfl
  all_goals try have a7 : (comO (newO aw2) 0 3).getD 1 0 = 2 := by rw [a4]; rfl
  all_goals first
    | exact Hold.intro newO_good
    | exact absurd a1 (by assumption)
    | exact absurd a2 (by assumption)
    | exact absurd a3 (by assumption)
    | exact absurd a4' (by assumption)
    | exact absurd a5 (by assumption)
    | exact absurd a6 (by assumption)
    | exact absurd a7 (by assumption)
    | exact absurd (by assumption) a1'
    | skip
  · show (decide ((comO (newO aw2) 0 3).getD 1 0 = 2)) = true
    exact decide_eq_true a7
end S1

open Go Go.Vm Go.Proofs
namespace S1
set_option maxRecDepth 100000

/-! gypsumlaw34.LinkNone -/
def awake34C : List AV → Option Res
  | [] => some (none, none, .s (.bool true))
  | _ => none
theorem awake34Row : FnRow Try.prog 14 awake34C := ⟨fun args r h => by
  cases args with
  | nil => cases h; exact fn_by (rulesF (fn := [(28, newC), (18, whyC), (20, mayC), (16, comC)]) (fr := []) ⟨newRow, whyRow, mayRow, comRow, trivial⟩ trivial) Try.func14 (by kernel_rfl) fun _ _ => awake_vc
  | cons a l => (cases h), _, Try.func14, by kernel_rfl, by kernel_rfl⟩
theorem near_self {x : tabE.T} (g : Good x) (a : Int) : nearR x a a = false := by
  have key : ¬ 0 ≤ tFacing x (a, a) := fun h => by
    unfold tFacing at h
    cases e : mget .arr2 x.2.1 (a, a) with
    | none => rw [e] at h; exact absurd h (by decide)
    | some c =>
      obtain ⟨h1, h2⟩ := g.map _ _ e
      exact g.ends c h1 (by rw [h2])
  unfold nearR
  rw [decide_eq_false key]; rfl
/-- What has an edge is a vertex. -/
theorem why_far {x : tabE.T} {a b : Int} (h : nearR x a b = false) : whyR x a b = 1 := by unfold whyR; rw [h]; rfl
theorem com_far {x : tabE.T} {a b : Int} (h : ¬ (0 ≤ b ∧ b < x.1.1)) : comR x a b = [] := by
  unfold comR
  split
  · rfl
  · rw [link_far h]
    have : (linkR x a).filter (fun v => hasI v []) = [] := List.filter_eq_nil_iff.2 fun v _ => by simp [hasI, fstI]
    rw [this]
    exact List.length_eq_zero_iff.1 (sortI_len [])
end S1

open Go Go.Vm Go.Proofs
namespace S1
set_option maxRecDepth 100000

theorem fstI_mem (v : Int) : ∀ (l : List Int) (i : Nat), fstI v l i ≥ 0 ↔ v ∈ l
  | [], i => ⟨fun h => by have h : (-1 : Int) ≥ 0 := h; omega, fun h => (by cases h)⟩
  | a :: r, i => by
    unfold fstI
    split
    · rename_i e; subst e
      exact ⟨fun _ => List.mem_cons_self .., fun _ => by omega⟩
    · rename_i e
      rw [fstI_mem v r, List.mem_cons]
      exact ⟨.inr, fun h => h.resolve_left e⟩
theorem hasI_iff {v : Int} {l : List Int} : hasI v l = true ↔ v ∈ l := by
  unfold hasI; rw [decide_eq_true_eq, fstI_mem]
theorem com_mem {x : tabE.T} (g : Full x) {a b v : Int} : v ∈ comR x a b ↔ a ≠ b ∧ nearR x a v = true ∧ nearR x b v = true := by
  unfold comR
  split
  · rename_i h; exact ⟨fun h => (by cases h), fun h' => absurd h h'.1⟩
  · rename_i h
    rw [(sortI_perm _).mem_iff, List.mem_filter, hasI_iff, g.link_iff, g.link_iff]
    exact ⟨fun k => ⟨h, k⟩, fun k => k.2⟩
theorem Full.fac {x : tabE.T} (g : Full x) {c : Int} (hc : tHas x c = true) : facR x (tEdge x c).1 (tEdge x c).2 = [tVert x c] ++ (if 0 ≤ tOpp x c then [tVert x (tOpp x c)] else []) := by
  unfold facR
  have e1 : tFacing x ((tEdge x c).1, (tEdge x c).2) = c := g.facing hc
  have e2 : tFacing x ((tEdge x c).2, (tEdge x c).1) = tOpp x c := rfl
  rw [e1, e2, if_pos (tHas_iff.1 hc).1]
theorem Full.com_face {x : tabE.T} (g : Full x) {c : Int} (hc : tHas x c = true) : tVert x c ∈ comR x (tEdge x c).1 (tEdge x c).2 := by
  rw [com_mem g]
  refine ⟨g.ends c hc, (near_iff g).2 ⟨_, (hasNP hc).2, .inr (edgeP hc)⟩, (near_iff g).2 ⟨_, (hasNP hc).1, .inl (edgeN hc)⟩⟩
theorem com_comm {x : tabE.T} (g : Full x) {a b v : Int} : v ∈ comR x a b ↔ v ∈ comR x b a := by
  rw [com_mem g, com_mem g]
  exact ⟨fun ⟨h1, h2, h3⟩ => ⟨fun e => h1 e.symm, h3, h2⟩, fun ⟨h1, h2, h3⟩ => ⟨fun e => h1 e.symm, h3, h2⟩⟩
theorem Full.com_face2 {x : tabE.T} (g : Full x) {c : Int} (h : 0 ≤ tOpp x c) : tVert x (tOpp x c) ∈ comR x (tEdge x c).1 (tEdge x c).2 := by
  obtain ⟨h1, h2, h3⟩ := g.opp h
  have := g.com_face h2
  rw [h3] at this
  exact (com_comm g).2 this
theorem whyL_iff {f l : List Int} : whyL f l = true ↔ ∀ v ∈ l, v ∈ f := by
  induction l with
  | nil => exact ⟨fun _ v h => (by cases h), fun _ => rfl⟩
  | cons a r ih =>
    unfold whyL
    rw [Bool.and_eq_true, hasI_iff, ih]
    exact ⟨fun ⟨h1, h2⟩ v hv => by
      rcases List.mem_cons.1 hv with e | hv
      · rw [e]; exact h1
      · exact h2 v hv, fun h => ⟨h a (List.mem_cons_self ..), fun v hv => h v (List.mem_cons_of_mem _ hv)⟩⟩
theorem why_free {x : tabE.T} {a b : Int} (h : whyR x a b = 0) : ∀ v ∈ comR x a b, v ∈ facR x a b := by
  unfold whyR at h
  repeat' split at h
  all_goals first
    | (exact absurd h (by decide))
    | skip
  rename_i hw _
  exact whyL_iff.1 (by cases e : whyL (facR x a b) (comR x a b) with | true => rfl | false => exact absurd e hw)
end S1

open Go Go.Vm Go.Proofs
namespace S1
set_option maxRecDepth 100000

/-! border -/
def edgG (x : tabE.T) (c : Nat) : Option (Int × Int) := if tOpp x c < 0 then some (tEdge x c) else none
def edgR (x : tabE.T) : List (Int × Int) := (List.range (3 * x.1.2.length)).filterMap (edgG x)
def edgO (o : Option tabE.T) : List (Int × Int) := onO o [] edgR
def loopEd (x : tabE.T) : Spec Nat where
  inv k := k ≤ 3 * x.1.2.length
  live k := [(10, .s (.int .i64 k)), (3, .s (.own 1 0 ((List.range k).filterMap (edgG x)).length))]
  keep := [0, 9]
  heap k := [(1, .row .arr2 36 ((List.range k).filterMap (edgG x)))]
  keepH := [0]
  mu k := 3 * x.1.2.length - k
theorem edges_vc (x : tabE.T) (g : Good x) : afun ⟨tyL, [(30, trianglesC), (22, oppC), (21, edgeC)], []⟩ Try.f131 [(ETy.pt tabE).av (some x)] (fun r => r = .s (.sl .arr2 (edgR x))) := by
  have hl : x.1.2.length ≤ 8192 := g.fit.2.2.1
  repeat' (conv => whnf
           first | done | refine Need.intro (by first | rfl | omega | (simp only [i64ok] at *; omega)) ?_ | refine Need.intro (Hold.out ?_) ?_ | refine Give.intro fun _ => ?_ | refine Both.intro ?_ ?_ | refine BIf.and ?_ | refine BIf.or ?_ | refine BIf.eqi (fun _ => ?_) (fun _ => ?_) | refine BIf.nei (fun _ => ?_) (fun _ => ?_) | refine BIf.dec (fun _ => ?_) (fun _ => ?_) | refine BIf.nt ?_ | refine BIf.intro (fun _ => ?_) (fun _ => ?_) | ((first | (with_reducible show Or (∃ n, rounds (acode _ (Code.seq (Code.region 5 _ _) _)) _ n _) _) | (with_reducible show Or (∃ n, rounds (acode _ (Code.seq (Code.seq (Code.region 5 _ _) _) _)) _ n _) _) | (with_reducible show Or (∃ n, rounds (acode _ (Code.seq (Code.seq (Code.seq (Code.region 5 _ _) _) _) _)) _ n _) _) | (with_reducible show Or (∃ n, rounds (acode _ (Code.seq (Code.seq (Code.seq (Code.seq (Code.region 5 _ _) _) _) _) _)) _ n _) _) | (with_reducible show Or (∃ n, rounds (acode _ (Code.block _ (Code.seq (Code.region 5 _ _) _))) _ n _) _) | (with_reducible show Or (∃ n, rounds (acode _ (Code.block _ (Code.seq (Code.seq (Code.region 5 _ _) _) _))) _ n _) _) | (with_reducible show Or (∃ n, rounds (acode _ (Code.block _ (Code.seq (Code.seq (Code.seq (Code.region 5 _ _) _) _) _))) _ n _) _) | (with_reducible show Or (∃ n, rounds (acode _ (Code.block _ (Code.seq (Code.seq (Code.seq (Code.seq (Code.region 5 _ _) _) _) _) _))) _ n _) _)); refine Or.inr (Exists.intro (Nat) (Exists.intro (loopEd x) (And.intro (Exists.intro (0) (And.intro (Hold.out ?_) (And.intro ?_ (And.intro ?_ rfl)))) (fun k hk => ?_))))) | ((with_reducible show (∃ y, And (Spec.inv (loopEd _) y) _)); refine Exists.intro (k + 1) (And.intro (Hold.out ?_) (And.intro (And.intro ?_ (And.intro ?_ rfl)) (Hold.out ?_)))) | refine And.intro rfl ?_ | refine And.intro (HoldEq.out ?_) ?_ | refine And.intro (HoldOb.out ?_) ?_ | exact True.intro | refine HoldEq.out ?_ | refine HoldObs.out ?_ | refine KCheck.intro (by kernel_rfl) ?_ | refine HoldOr.out ?_)
  all_goals try first | refine HoldEq.int ?_ | refine HoldEq.bool ?_ | refine HoldEq.sl ?_ | refine HoldEq.own ?_ | refine HoldEq.ownS ?_ ?_ | refine HoldOb.row ?_ | refine HoldOb.map ?_ | refine HoldOb.gmap ?_ | refine HoldOb.grow ?_ | refine HoldObs.row ?_
  all_goals try simp only [take_one, take_one', set_one, take_all, List.length_singleton, rec_self, Int.toNat_natCast, pair_eta, ETy.dflt, List.getD_cons_zero, List.getD_cons_succ, Int.reduceToNat, Int.reduceAdd, Int.reduceSub, Int.reduceNeg, Nat.reduceAdd, Nat.zero_add, loopEd] at *
  all_goals try first | (refine Hold.intro ?_; omega) | (refine Hold.intro ?_; have := fm_len (edgG x) k; omega)
  · exact Hold.intro (show (k : Int) ≤ 1000000 by omega)
  · exact Hold.intro (show (k : Int) ≤ 1000000 by omega)
  · rename_i h; rw [fm_succ, edgG, if_pos h, List.length_append]; rfl
  · rename_i h; rw [fm_succ]; conv => lhs; rhs; rw [edgG, if_pos h]
    rfl
  · rename_i h; rw [fm_succ]; conv => lhs; rhs; rhs; rw [edgG, if_neg h]
    simp
  · rename_i h; rw [fm_succ]; conv => lhs; rhs; rw [edgG, if_neg h]
    simp
  · have e : k = 3 * x.1.2.length := by omega
    rw [e]; rfl
theorem edges0_vc : afun ⟨tyL, [(30, trianglesC), (22, oppC), (21, edgeC)], []⟩ Try.f131 [(ETy.pt tabE).av none] (fun r => r = .s (.sl .arr2 [])) := by
  repeat' (conv => whnf
           first | done | refine Need.intro (by first | rfl | omega | (simp only [i64ok] at *; omega)) ?_ | refine Need.intro (Hold.out ?_) ?_ | refine Give.intro fun _ => ?_ | refine Both.intro ?_ ?_ | refine BIf.and ?_ | refine BIf.or ?_ | refine BIf.eqi (fun _ => ?_) (fun _ => ?_) | refine BIf.nei (fun _ => ?_) (fun _ => ?_) | refine BIf.dec (fun _ => ?_) (fun _ => ?_) | refine BIf.nt ?_ | refine BIf.intro (fun _ => ?_) (fun _ => ?_) | refine And.intro rfl ?_ | refine And.intro (HoldEq.out ?_) ?_ | refine And.intro (HoldOb.out ?_) ?_ | exact True.intro | refine HoldEq.out ?_ | refine HoldObs.out ?_ | refine KCheck.intro (by kernel_rfl) ?_ | refine HoldOr.out ?_)
  all_goals try first | refine HoldEq.int ?_ | refine HoldEq.bool ?_ | refine HoldEq.sl ?_ | refine HoldEq.own ?_ | refine HoldEq.ownS ?_ ?_ | refine HoldOb.row ?_ | refine HoldOb.map ?_ | refine HoldOb.gmap ?_ | refine HoldOb.grow ?_ | refine HoldObs.row ?_
  all_goals try simp only [take_one, take_one', set_one, take_all, List.length_singleton, rec_self, Int.toNat_natCast, pair_eta, ETy.dflt, List.getD_cons_zero, List.getD_cons_succ, Int.reduceToNat, Int.reduceAdd, Int.reduceSub, Int.reduceNeg, Nat.reduceAdd, Nat.zero_add] at *
  rfl
def edgesC : List AV → Option Res := con1 (.pt tabE) (fun o => some (none, some (∀ x, o = some x → Good x), .s (.sl .arr2 (edgO o))))
theorem edgesRow : FnRow Try.prog 131 edgesC := ⟨con1_ok fun o r h => by
  cases h
  cases o with
  | none => exact fn_by (rulesF (fn := [(30, trianglesC), (22, oppC), (21, edgeC)]) (fr := []) ⟨trianglesRow, oppRow, edgeRow, trivial⟩ trivial) Try.func131 (by kernel_rfl) fun _ _ => edges0_vc
  | some x => exact fn_by (rulesF (fn := [(30, trianglesC), (22, oppC), (21, edgeC)]) (fr := []) ⟨trianglesRow, oppRow, edgeRow, trivial⟩ trivial) Try.func131 (by kernel_rfl) fun _ h => edges_vc x (h x rfl), _, Try.func131, by kernel_rfl, by kernel_rfl⟩
/-- Who comes behind whom. -/
abbrev NxM := List ((ETy.int .i64).T × (ETy.int .i64).T)
def behK (es : List (Int × Int)) (k : Nat) : NxM := irec (fun m j => mset (.int .i64) m (es.getD j (0, 0)).2 (es.getD j (0, 0)).1) [] k
def behO (o : Option tabE.T) : NxM := behK (edgO o) (edgO o).length
def loopBh (es : List (Int × Int)) : Spec Nat where
  inv k := k ≤ es.length
  live k := [(10, .s (.int .i64 k))]
  keep := [3, 8, 9]
  heap k := [(0, .map i64E i64E (behK es k))]
  keepH := []
  mu k := es.length - k
theorem behind_vc (o : Option tabE.T) (hg : ∀ x, o = some x → Good x) : afun ⟨tyL, [(131, edgesC)], []⟩ Try.f100 [(ETy.pt tabE).av o] (fun r => r = .s (.mp i64E i64E (behO o))) := by
  repeat' (conv => whnf
           first | done | refine Need.intro (by first | rfl | omega | (simp only [i64ok] at *; omega)) ?_ | refine Need.intro (Hold.out ?_) ?_ | refine Give.intro fun _ => ?_ | refine Both.intro ?_ ?_ | refine BIf.and ?_ | refine BIf.or ?_ | refine BIf.eqi (fun _ => ?_) (fun _ => ?_) | refine BIf.nei (fun _ => ?_) (fun _ => ?_) | refine BIf.dec (fun _ => ?_) (fun _ => ?_) | refine BIf.nt ?_ | refine BIf.intro (fun _ => ?_) (fun _ => ?_) | ((first | (with_reducible show Or (∃ n, rounds (acode _ (Code.seq (Code.region 3 _ _) _)) _ n _) _) | (with_reducible show Or (∃ n, rounds (acode _ (Code.seq (Code.seq (Code.region 3 _ _) _) _)) _ n _) _) | (with_reducible show Or (∃ n, rounds (acode _ (Code.seq (Code.seq (Code.seq (Code.region 3 _ _) _) _) _)) _ n _) _) | (with_reducible show Or (∃ n, rounds (acode _ (Code.seq (Code.seq (Code.seq (Code.seq (Code.region 3 _ _) _) _) _) _)) _ n _) _) | (with_reducible show Or (∃ n, rounds (acode _ (Code.block _ (Code.seq (Code.region 3 _ _) _))) _ n _) _) | (with_reducible show Or (∃ n, rounds (acode _ (Code.block _ (Code.seq (Code.seq (Code.region 3 _ _) _) _))) _ n _) _) | (with_reducible show Or (∃ n, rounds (acode _ (Code.block _ (Code.seq (Code.seq (Code.seq (Code.region 3 _ _) _) _) _))) _ n _) _) | (with_reducible show Or (∃ n, rounds (acode _ (Code.block _ (Code.seq (Code.seq (Code.seq (Code.seq (Code.region 3 _ _) _) _) _) _))) _ n _) _)); refine Or.inr (Exists.intro (Nat) (Exists.intro (loopBh (edgO o)) (And.intro (Exists.intro (0) (And.intro (Hold.out ?_) (And.intro ?_ (And.intro ?_ rfl)))) (fun k hk => ?_))))) | ((with_reducible show (∃ y, And (Spec.inv (loopBh _) y) _)); refine Exists.intro (k + 1) (And.intro (Hold.out ?_) (And.intro (And.intro ?_ (And.intro ?_ rfl)) (Hold.out ?_)))) | refine And.intro rfl ?_ | refine And.intro (HoldEq.out ?_) ?_ | refine And.intro (HoldOb.out ?_) ?_ | exact True.intro | refine HoldEq.out ?_ | refine HoldObs.out ?_ | refine KCheck.intro (by kernel_rfl) ?_ | refine HoldOr.out ?_)
  all_goals try first | refine HoldEq.int ?_ | refine HoldEq.bool ?_ | refine HoldEq.sl ?_ | refine HoldEq.own ?_ | refine HoldEq.ownS ?_ ?_ | refine HoldOb.row ?_ | refine HoldOb.map ?_ | refine HoldOb.gmap ?_ | refine HoldOb.grow ?_ | refine HoldObs.row ?_
  all_goals try simp only [take_one, take_one', set_one, take_all, List.length_singleton, rec_self, Int.toNat_natCast, pair_eta, ETy.dflt, List.getD_cons_zero, List.getD_cons_succ, Int.reduceToNat, Int.reduceAdd, Int.reduceSub, Int.reduceNeg, Nat.reduceAdd, Nat.zero_add, loopBh] at *
  all_goals try (refine Hold.intro ?_; omega)
  · have e : k = (edgO o).length := by omega
    rw [e]; exact HoldEq.intro rfl
def behindC : List AV → Option Res := con1 (.pt tabE) (fun o => some (none, some (∀ x, o = some x → Good x), .s (.mp i64E i64E (behO o))))
theorem behindRow : FnRow Try.prog 100 behindC := ⟨con1_ok fun o r h => by cases h; exact fn_by (rulesF (fn := [(131, edgesC)]) (fr := []) ⟨edgesRow, trivial⟩ trivial) Try.func100 (by kernel_rfl) fun _ h => behind_vc o h, _, Try.func100, by kernel_rfl, by kernel_rfl⟩
theorem walk_vc {fn} (o : Option tabE.T) (v : Int) : afun ⟨tyL, fn, []⟩ Try.f76 [(ETy.pt tabE).av o, i64E.av v] (fun r => r = .s (.clo 99 [⟨.pt tabE, o⟩, ⟨i64E, v⟩])) := by
  repeat' (conv => whnf
           first | done | refine Need.intro (by first | rfl | omega | (simp only [i64ok] at *; omega)) ?_ | refine Need.intro (Hold.out ?_) ?_ | refine Give.intro fun _ => ?_ | refine Both.intro ?_ ?_ | refine BIf.and ?_ | refine BIf.or ?_ | refine BIf.eqi (fun _ => ?_) (fun _ => ?_) | refine BIf.nei (fun _ => ?_) (fun _ => ?_) | refine BIf.dec (fun _ => ?_) (fun _ => ?_) | refine BIf.nt ?_ | refine BIf.intro (fun _ => ?_) (fun _ => ?_) | refine And.intro rfl ?_ | refine And.intro (HoldEq.out ?_) ?_ | refine And.intro (HoldOb.out ?_) ?_ | exact True.intro | refine HoldEq.out ?_ | refine HoldObs.out ?_ | refine KCheck.intro (by kernel_rfl) ?_ | refine HoldOr.out ?_)
  all_goals try first | refine HoldEq.int ?_ | refine HoldEq.bool ?_ | refine HoldEq.sl ?_ | refine HoldEq.own ?_ | refine HoldEq.ownS ?_ ?_ | refine HoldOb.row ?_ | refine HoldOb.map ?_ | refine HoldOb.gmap ?_ | refine HoldOb.grow ?_ | refine HoldObs.row ?_
  all_goals try simp only [take_one, take_one', set_one, take_all, List.length_singleton, rec_self, Int.toNat_natCast, pair_eta, ETy.dflt, List.getD_cons_zero, List.getD_cons_succ, Int.reduceToNat, Int.reduceAdd, Int.reduceSub, Int.reduceNeg, Nat.reduceAdd, Nat.zero_add] at *
def walkC : List AV → Option Res := con2 (.pt tabE) i64E (fun o v => some (none, none, .s (.clo 99 [⟨.pt tabE, o⟩, ⟨i64E, v⟩])))
theorem walkRow : FnRow Try.prog 76 walkC := ⟨con2_ok fun o v r h => by cases h; exact fn_by (rulesF (fn := []) (fr := []) trivial trivial) Try.func76 (by kernel_rfl) fun _ _ => walk_vc o v, _, Try.func76, by kernel_rfl, by kernel_rfl⟩
def nxt (m : NxM) (u : Int) : Int := (mget i64E m u).getD 0
def walkF (m : NxM) (v : Int) : Nat → Int → List Int
  | 0, _ => []
  | n + 1, u => if u = v then [] else u :: walkF m v n (nxt m u)
/-- What goes round a border loop yields. -/
def walkL (o : Option tabE.T) (v : Int) : List Int := if (mget i64E (behO o) v).isSome then v :: walkF (behO o) v 10000 (nxt (behO o) v) else []
end S1

open Go Go.Vm Go.Proofs
namespace S1
set_option maxRecDepth 100000

/-! where a surface ends -/
theorem aroundF_endF {x : tabE.T} (g : Good x) {b : Int} : ∀ n k, k + n = 30000 → FInv (tAfter x) b k → ∃ y ∈ aroundF x b n (iter (tAfter x) b k), tAfter x y < 0 ∨ tAfter x y = b
  | 0, k, e, h => by have := fin_after g h; omega
  | n + 1, k, e, h => by
    unfold aroundF
    by_cases h1 : tAfter x (iter (tAfter x) b k) < 0
    · rw [if_pos h1]; exact ⟨_, List.mem_singleton.2 rfl, .inl h1⟩
    · rw [if_neg h1]
      by_cases h2 : tAfter x (iter (tAfter x) b k) = b
      · rw [if_pos h2]; exact ⟨_, List.mem_singleton.2 rfl, .inr h2⟩
      · rw [if_neg h2]
        obtain ⟨y, hy, h3⟩ := aroundF_endF g n (k + 1) (by omega) (h.succ h1 h2)
        exact ⟨y, List.mem_cons_of_mem _ hy, h3⟩
section
variable {x : tabE.T} {c d : Int}
theorem Full.last_one (g : Full x) (hc : tHas x c = true) (hd : tHas x d = true) (e : tVert x c = tVert x d) (h1 : tAfter x c < 0) (h2 : tAfter x d < 0) : c = d := by
  have hv := tVert_in g.fit hc
  obtain ⟨b, _, eL, _⟩ := g.around hv.1 hv.2
  have k1 := g.around_all hc
  have k2 := g.around_all hd
  rw [← e] at k2
  rw [eL] at k1 k2
  rw [← aroundF_last _ _ c k1 h1, ← aroundF_last _ _ d k2 h2]
theorem Full.first_is (g : Full x) (hc : tHas x c = true) (h1 : tBefore x c < 0) : (firstR x (tVert x c)).1 = c := by
  have hv := tVert_in g.fit hc
  obtain ⟨b, eb, eL, _⟩ := g.around hv.1 hv.2
  have k1 := g.around_all hc
  rw [eL] at k1
  have := aroundF_all (x := x) (b := b) (fun y => y = b ∨ 0 ≤ tBefore x y) (fun y _ ha => .inr (by rw [g.before_after ha]; exact (tHas_iff.1 (g.after_has ha).1).1)) _ _ (.inl rfl) c k1
  rw [eb]
  rcases this with h | h
  · exact h.symm
  · omega
theorem Full.first_one (g : Full x) (hc : tHas x c = true) (hd : tHas x d = true) (e : tVert x c = tVert x d) (h1 : tBefore x c < 0) (h2 : tBefore x d < 0) : c = d := by
  rw [← g.first_is hc h1, ← g.first_is hd h2, e]
theorem Full.last_of_first (g : Full x) (hc : tHas x c = true) (h1 : tBefore x c < 0) : ∃ y, tHas x y = true ∧ tVert x y = tVert x c ∧ tAfter x y < 0 := by
  have hv := tVert_in g.fit hc
  obtain ⟨b, eb, eL, _, _, _, hall, _⟩ := g.around hv.1 hv.2
  obtain ⟨y, hy, h⟩ := aroundF_endF g.toGood (b := b) 30000 0 rfl (fun j a b => by omega)
  have hy : y ∈ aroundL (some x) (tVert x c) := by rw [eL]; exact hy
  obtain ⟨k1, k2⟩ := hall y hy
  rcases h with h | h
  · exact ⟨y, k1, k2, h⟩
  · have hb := g.first_is hc h1
    rw [eb] at hb
    rw [hb] at h
    have := g.before_after (c := y) (by rw [h]; exact (tHas_iff.1 hc).1)
    rw [h] at this
    have := (tHas_iff.1 k1).1
    omega
theorem Full.first_of_last (g : Full x) (hc : tHas x c = true) (h1 : tAfter x c < 0) : ∃ y, tHas x y = true ∧ tVert x y = tVert x c ∧ tBefore x y < 0 := by
  have hv := tVert_in g.fit hc
  obtain ⟨b, eb, eL, hb1, hb2, _, _, _, _, hend⟩ := g.around hv.1 hv.2
  rcases hend with h | h
  · exact ⟨b, hb1, hb2, h.2⟩
  · have := h.2 c (g.around_all hc); omega
end
/-- A border edge. -/
def bE (x : tabE.T) (w u : Int) : Prop := ∃ c, tHas x c = true ∧ tOpp x c < 0 ∧ tEdge x c = (w, u)
section
variable {x : tabE.T}
theorem bE_last (g : Full x) {w u : Int} (h : bE x w u) : ∃ d, tHas x d = true ∧ tVert x d = u ∧ tAfter x d < 0 ∧ tVert x (tPrev x d) = w := by
  obtain ⟨c, h1, h2, h3⟩ := h
  refine ⟨tPrev x c, (hasNP h1).2, congrArg Prod.snd h3, ?_, by rw [(np h1).2.2.2]; exact congrArg Prod.fst h3⟩
  unfold tAfter; rw [(np h1).1, if_pos h2]; decide
theorem bE_first (g : Full x) {w u : Int} (h : bE x w u) : ∃ d, tHas x d = true ∧ tVert x d = w ∧ tBefore x d < 0 ∧ tVert x (tNext x d) = u := by
  obtain ⟨c, h1, h2, h3⟩ := h
  refine ⟨tNext x c, (hasNP h1).1, congrArg Prod.fst h3, ?_, by rw [(np h1).2.2.1]; exact congrArg Prod.snd h3⟩
  unfold tBefore; rw [(np h1).2.1, if_pos h2]; decide
theorem last_bE (g : Full x) {d : Int} (h : tHas x d = true) (ha : tAfter x d < 0) : bE x (tVert x (tPrev x d)) (tVert x d) := by
  refine ⟨tNext x d, (hasNP h).1, ?_, edgeN h⟩
  by_cases e : tOpp x (tNext x d) < 0
  · exact e
  · unfold tAfter at ha
    rw [if_neg e] at ha
    have := (tHas_iff.1 (hasNP (g.opp (d := tNext x d) (by omega)).2.1).1).1
    omega
theorem first_bE (g : Full x) {d : Int} (h : tHas x d = true) (ha : tBefore x d < 0) : bE x (tVert x d) (tVert x (tNext x d)) := by
  refine ⟨tPrev x d, (hasNP h).2, ?_, edgeP h⟩
  by_cases e : tOpp x (tPrev x d) < 0
  · exact e
  · unfold tBefore at ha
    rw [if_neg e] at ha
    have := (tHas_iff.1 (hasNP (g.opp (d := tPrev x d) (by omega)).2.1).2).1
    omega
theorem bE_left (g : Full x) {w w' u : Int} (h : bE x w u) (k : bE x w' u) : w = w' := by
  obtain ⟨d, d1, d2, d3, d4⟩ := bE_last g h
  obtain ⟨e, e1, e2, e3, e4⟩ := bE_last g k
  rw [← d4, ← e4, g.last_one d1 e1 (d2.trans e2.symm) d3 e3]
theorem bE_right (g : Full x) {w u u' : Int} (h : bE x w u) (k : bE x w u') : u = u' := by
  obtain ⟨d, d1, d2, d3, d4⟩ := bE_first g h
  obtain ⟨e, e1, e2, e3, e4⟩ := bE_first g k
  rw [← d4, ← e4, g.first_one d1 e1 (d2.trans e2.symm) d3 e3]
theorem bE_next (g : Full x) {w u : Int} (h : bE x w u) : ∃ z, bE x z w := by
  obtain ⟨d, d1, d2, d3, d4⟩ := bE_first g h
  obtain ⟨y, y1, y2, y3⟩ := g.last_of_first d1 d3
  have := last_bE g y1 y3
  rw [y2, d2] at this
  exact ⟨_, this⟩
theorem bE_prev (g : Full x) {w u : Int} (h : bE x w u) : ∃ z, bE x u z := by
  obtain ⟨d, d1, d2, d3, d4⟩ := bE_last g h
  obtain ⟨y, y1, y2, y3⟩ := g.first_of_last d1 d3
  have := first_bE g y1 y3
  rw [y2, d2] at this
  exact ⟨_, this⟩
theorem bE_in (g : Full x) {w u : Int} (h : bE x w u) : (0 ≤ w ∧ w < x.1.1) ∧ (0 ≤ u ∧ u < x.1.1) ∧ w ≠ u := by
  obtain ⟨c, h1, h2, h3⟩ := h
  have e1 : tVert x (tNext x c) = w := congrArg Prod.fst h3
  have e2 : tVert x (tPrev x c) = u := congrArg Prod.snd h3
  have k1 := tVert_in g.fit (hasNP h1).1
  have k2 := tVert_in g.fit (hasNP h1).2
  have k3 := (g.ne h1).2.2
  rw [e1] at k1 k3; rw [e2] at k2 k3
  exact ⟨k1, k2, k3⟩
theorem edgR_mem {e : Int × Int} : e ∈ edgR x ↔ bE x e.1 e.2 := by
  unfold edgR
  rw [List.mem_filterMap]
  constructor
  · rintro ⟨c, hc, h⟩
    have hc := List.mem_range.1 hc
    unfold edgG at h
    split at h
    · rename_i ho
      cases h
      exact ⟨c, tHas_iff.2 ⟨by omega, by omega⟩, ho, rfl⟩
    · cases h
  · rintro ⟨c, h1, h2, h3⟩
    have hc := tHas_iff.1 h1
    have e1 : ((c.toNat : Nat) : Int) = c := by omega
    refine ⟨c.toNat, List.mem_range.2 (by omega), ?_⟩
    unfold edgG
    rw [e1, if_pos h2, h3]
end
theorem behK_get (es : List (Int × Int)) (u : Int) : ∀ k, (∀ w, mget i64E (behK es k) u = some w → ∃ j, j < k ∧ es.getD j (0, 0) = (w, u)) ∧ ((∃ j, j < k ∧ (es.getD j (0, 0)).2 = u) → (mget i64E (behK es k) u).isSome = true)
  | 0 => ⟨fun w h => (by cases h), fun ⟨j, h, _⟩ => by omega⟩
  | k + 1 => by
    obtain ⟨h1, h2⟩ := behK_get es u k
    have e : behK es (k + 1) = mset i64E (behK es k) (es.getD k (0, 0)).2 (es.getD k (0, 0)).1 := rfl
    rw [e]
    by_cases he : (es.getD k (0, 0)).2 = u
    · rw [he, mget_same]
      exact ⟨fun w hw => ⟨k, by omega, by injection hw with hw; exact Prod.ext hw he⟩, fun _ => rfl⟩
    · rw [mget_other _ he]
      refine ⟨fun w hw => ?_, fun ⟨j, hj, hju⟩ => h2 ⟨j, ?_, hju⟩⟩
      · obtain ⟨j, hj, e⟩ := h1 w hw
        exact ⟨j, by omega, e⟩
      · by_cases e : j = k
        · subst e; exact absurd hju he
        · omega
theorem beh_iff {x : tabE.T} (g : Full x) {w u : Int} : mget i64E (behO (some x)) u = some w ↔ bE x w u := by
  obtain ⟨h1, h2⟩ := behK_get (edgR x) u (edgR x).length
  have mem : ∀ j, j < (edgR x).length → (edgR x).getD j (0, 0) ∈ edgR x := fun j hj => by
    rw [List.getD_eq_getElem?_getD, List.getElem?_eq_getElem hj]; exact List.getElem_mem hj
  have fw : ∀ w, mget i64E (behO (some x)) u = some w → bE x w u := fun w h => by
    obtain ⟨j, hj, e⟩ := h1 w h
    have := edgR_mem.1 (mem j hj)
    rw [e] at this; exact this
  refine ⟨fw w, fun h => ?_⟩
  obtain ⟨j, hj, e⟩ := List.mem_iff_getElem.1 ((edgR_mem (x := x) (e := (w, u))).2 h)
  have := h2 ⟨j, hj, by rw [List.getD_eq_getElem?_getD, List.getElem?_eq_getElem hj]; show ((edgR x)[j]).2 = u; rw [e]⟩
  have e3 : behO (some x) = behK (edgR x) (edgR x).length := rfl
  rw [← e3] at this
  cases h4 : mget i64E (behO (some x)) u with
  | none => rw [h4] at this; cases this
  | some w' => rw [bE_left g h (fw w' h4)]
theorem nxt_is {x : tabE.T} (g : Full x) {w u : Int} (h : bE x w u) : nxt (behO (some x)) u = w := by
  unfold nxt; rw [(beh_iff g).2 h]; rfl
/-- Round a border loop. -/
theorem walk_fin {x : tabE.T} (g : Full x) {v : Int} (hv : ∃ w, bE x w v) {k : Nat} (h : ∀ j, 1 ≤ j → j ≤ k → iter (nxt (behO (some x))) v j ≠ v) : k ≤ 4096 := by
  have key : ∀ j, ∃ w, bE x w (iter (nxt (behO (some x))) v j) := fun j => by
    induction j with
    | zero => exact hv
    | succ j ih =>
      obtain ⟨w, hw⟩ := ih
      show ∃ w, bE x w (nxt (behO (some x)) (iter (nxt (behO (some x))) v j))
      rw [nxt_is g hw]
      exact bE_next g hw
  let f : Int → Int := fun u => (mget i64E (behO (some x)) u).getD (-1)
  have hf : ∀ j, iter f v j = iter (nxt (behO (some x))) v j := fun j => by
    induction j with
    | zero => rfl
    | succ j ih =>
      obtain ⟨w, hw⟩ := key j
      show f (iter f v j) = nxt _ _
      rw [ih, nxt_is g hw]
      show (mget i64E (behO (some x)) _).getD (-1) = w
      rw [(beh_iff g).2 hw]; rfl
  have fsome : ∀ c, 0 ≤ f c → bE x (f c) c := fun c hc => by
    cases e : mget i64E (behO (some x)) c with
    | none => have : f c = -1 := by show (mget i64E (behO (some x)) c).getD (-1) = -1; rw [e]; rfl
              omega
    | some w =>
      have : f c = w := by show (mget i64E (behO (some x)) c).getD (-1) = w; rw [e]; rfl
      rw [this]; exact (beh_iff g).1 e
  have hn := g.fit
  have := pig (f := f) (L := x.1.1.toNat) (c := v) (k := k) (fun c hc => by have := (bE_in g (fsome c hc)).1; omega) (fun a b ha e => by
    have k1 := fsome a ha
    have k2 := fsome b (by omega)
    rw [← e] at k2
    exact bE_right g k1 k2) (fun j h1 h2 => by
    rw [hf]
    obtain ⟨w, hw⟩ := key j
    exact ⟨(bE_in g hw).2.1.1, h j h1 h2⟩)
  have h1 : x.1.1 ≤ 4096 := hn.2.1
  have h2 : x.1.1.toNat ≤ 4096 := Int.toNat_le_toNat h1
  exact Nat.le_trans this h2
theorem walk_key {x : tabE.T} (g : Full x) {v : Int} (hv : ∃ w, bE x w v) : ∀ j, ∃ w, bE x w (iter (nxt (behO (some x))) v j)
  | 0 => hv
  | j + 1 => by
    obtain ⟨w, hw⟩ := walk_key g hv j
    show ∃ w, bE x w (nxt (behO (some x)) (iter (nxt (behO (some x))) v j))
    rw [nxt_is g hw]
    exact bE_next g hw
end S1

open Go Go.Vm Go.Proofs
namespace S1
set_option maxRecDepth 100000

/-! border.Walk's sequence; slices.Collect of it; border.Loops -/
theorem walkF_step {m : NxM} {v u : Int} {k : Nat} (h : k ≤ 4096) : walkF m v (10000 - k) u = if u = v then [] else u :: walkF m v (10000 - (k + 1)) (nxt m u) := by
  rw [show 10000 - k = (10000 - (k + 1)) + 1 by omega]; rfl
def loopWk (m : NxM) (v : Int) : Spec Nat where
  inv k := (∀ j, 1 ≤ j → j ≤ k → iter (nxt m) v j ≠ v) ∧ (walkF m v 10000 (nxt m v)).drop k = walkF m v (10000 - k) (iter (nxt m) v (k + 1))
  live k := [(5, .s (.int .i64 (iter (nxt m) v (k + 1))))]
  keep := [0, 1, 2, 4]
  heap _ := []
  keepH := []
  mu k := 10000 - k
theorem walkY_vc (x : tabE.T) (v : Int) (g : Full x) : afunY ⟨tyL, [(100, behindC)], []⟩ Try.f99 [⟨.pt tabE, some x⟩, ⟨i64E, v⟩] (walkL (some x) v) := by
  repeat' (conv => whnf
           first | done | refine Need.intro (by first | rfl | omega | (simp only [i64ok] at *; omega)) ?_ | refine Need.intro (Hold.out ?_) ?_ | refine Give.intro fun _ => ?_ | refine Both.intro ?_ ?_ | refine BIf.and ?_ | refine BIf.or ?_ | refine BIf.eqi (fun _ => ?_) (fun _ => ?_) | refine BIf.nei (fun _ => ?_) (fun _ => ?_) | refine BIf.dec (fun _ => ?_) (fun _ => ?_) | refine BIf.nt ?_ | refine BIf.intro (fun _ => ?_) (fun _ => ?_) | refine (fun (l : Nat) => ?_) | refine Exists.intro Nat (Exists.intro (loopWk (behO (some x)) v) (Exists.intro (fun k => v :: (walkF (behO (some x)) v 10000 (nxt (behO (some x)) v)).take k) (And.intro (Exists.intro 0 (And.intro (Hold.out ?_) (And.intro (HoldX.out ?_) (And.intro ?_ (And.intro ?_ rfl))))) (fun k hk => ?_)))) | ((with_reducible show (∃ y, And (Spec.inv (loopWk _ _) y) _)); refine Exists.intro (k + 1) (And.intro (Hold.out ?_) (And.intro (HoldX.out ?_) (And.intro (And.intro ?_ (And.intro ?_ rfl)) (Hold.out ?_))))) | refine And.intro (Hold.out (p := (_ ++ [_]) <+: _) ?_) ?_ | refine HoldX.out ?_ | refine And.intro rfl ?_ | refine And.intro (HoldEq.out ?_) ?_ | refine And.intro (HoldOb.out ?_) ?_ | exact True.intro | refine HoldEq.out ?_ | refine HoldObs.out ?_ | refine KCheck.intro (by kernel_rfl) ?_ | refine HoldOr.out ?_)
  all_goals try first | refine HoldEq.int ?_ | refine HoldEq.bool ?_ | refine HoldEq.sl ?_ | refine HoldEq.own ?_ | refine HoldEq.ownS ?_ ?_ | refine HoldOb.row ?_ | refine HoldOb.map ?_ | refine HoldOb.gmap ?_ | refine HoldOb.grow ?_ | refine HoldObs.row ?_
  all_goals try simp only [take_one, take_one', set_one, take_all, List.length_singleton, rec_self, Int.toNat_natCast, pair_eta, ETy.dflt, List.getD_cons_zero, List.getD_cons_succ, Int.reduceToNat, Int.reduceAdd, Int.reduceSub, Int.reduceNeg, Nat.reduceAdd, Nat.zero_add, loopWk] at *
  · exact Hold.intro (fun y h => by cases h; exact g.toGood)
  all_goals try
    have hsome : (mget i64E (behO (some x)) v).isSome = true := by assumption
  all_goals try
    have hw : ∃ w, bE x w v := by
      cases e : mget i64E (behO (some x)) v with
      | none => rw [e] at hsome; cases hsome
      | some w => exact ⟨w, (beh_iff g).1 e⟩
  all_goals try have hL : walkL (some x) v = v :: walkF (behO (some x)) v 10000 (nxt (behO (some x)) v) := by unfold walkL; rw [if_pos hsome]
  · rw [hL]; exact Hold.intro ⟨_, rfl⟩
  · exact Hold.intro ⟨fun j a b => by omega, rfl⟩
  · exact HoldX.intro rfl
  all_goals try have h24 := walk_fin g hw hk.1
  · have hne : iter (nxt (behO (some x))) v (k + 1) ≠ v := by assumption
    rw [hL]
    have := hk.2
    rw [walkF_step h24, if_neg hne] at this
    exact Hold.intro (take_pre (L := v :: walkF (behO (some x)) v 10000 (nxt (behO (some x)) v)) (k := k + 1) this)
  · have hne : iter (nxt (behO (some x))) v (k + 1) ≠ v := by assumption
    have := hk.2
    rw [walkF_step h24, if_neg hne] at this
    refine Hold.intro ⟨fun j a b => ?_, (take_drop this).2⟩
    by_cases e : j = k + 1
    · subst e; exact hne
    · exact hk.1 j a (by omega)
  · have hne : iter (nxt (behO (some x))) v (k + 1) ≠ v := by assumption
    have := hk.2
    rw [walkF_step h24, if_neg hne] at this
    exact HoldX.intro (by rw [(take_drop this).1]; rfl)
  · refine Hold.intro ?_; omega
  · have he : iter (nxt (behO (some x))) v (k + 1) = v := by assumption
    have := hk.2
    rw [walkF_step h24, if_pos he] at this
    rw [hL]
    refine HoldX.intro ?_
    have h2 := List.take_append_drop k (walkF (behO (some x)) v 10000 (nxt (behO (some x)) v))
    rw [this, List.append_nil] at h2
    rw [h2]
  · rename_i hn
    refine HoldX.intro ?_
    unfold walkL
    have hn : (mget i64E (behO (some x)) v).isSome = false := hn
    rw [if_neg (by rw [hn]; simp)]
theorem walkY0_vc (v : Int) : afunY ⟨tyL, [(100, behindC)], []⟩ Try.f99 [⟨.pt tabE, none⟩, ⟨i64E, v⟩] (walkL none v) := by
  repeat' (conv => whnf
           first | done | refine Need.intro (by first | rfl | omega | (simp only [i64ok] at *; omega)) ?_ | refine Need.intro (Hold.out ?_) ?_ | refine Give.intro fun _ => ?_ | refine Both.intro ?_ ?_ | refine BIf.and ?_ | refine BIf.or ?_ | refine BIf.eqi (fun _ => ?_) (fun _ => ?_) | refine BIf.nei (fun _ => ?_) (fun _ => ?_) | refine BIf.dec (fun _ => ?_) (fun _ => ?_) | refine BIf.nt ?_ | refine BIf.intro (fun _ => ?_) (fun _ => ?_) | refine (fun (l : Nat) => ?_) | refine HoldX.out ?_ | refine And.intro rfl ?_ | refine And.intro (HoldEq.out ?_) ?_ | refine And.intro (HoldOb.out ?_) ?_ | exact True.intro | refine HoldEq.out ?_ | refine HoldObs.out ?_ | refine KCheck.intro (by kernel_rfl) ?_ | refine HoldOr.out ?_)
  all_goals try first | refine HoldEq.int ?_ | refine HoldEq.bool ?_ | refine HoldEq.sl ?_ | refine HoldEq.own ?_ | refine HoldEq.ownS ?_ ?_ | refine HoldOb.row ?_ | refine HoldOb.map ?_ | refine HoldOb.gmap ?_ | refine HoldOb.grow ?_ | refine HoldObs.row ?_
  all_goals try simp only [take_one, take_one', set_one, take_all, List.length_singleton, rec_self, Int.toNat_natCast, pair_eta, ETy.dflt, List.getD_cons_zero, List.getD_cons_succ, Int.reduceToNat, Int.reduceAdd, Int.reduceSub, Int.reduceNeg, Nat.reduceAdd, Nat.zero_add] at *
  · exact Hold.intro (fun y h => by cases h)
  · exact HoldX.intro rfl
theorem walkF_in {x : tabE.T} (g : Full x) {v : Int} : ∀ n u, (∃ w, bE x w u) → ∀ a ∈ walkF (behO (some x)) v n u, 0 ≤ a ∧ a < x.1.1
  | 0, u, _, a, h => by cases h
  | n + 1, u, ⟨w, hw⟩, a, h => by
    unfold walkF at h
    split at h
    · cases h
    · rcases List.mem_cons.1 h with e | h
      · rw [e]; exact (bE_in g hw).2.1
      · rw [nxt_is g hw] at h
        exact walkF_in g n w (bE_next g hw) a h
theorem walkL_in {x : tabE.T} (g : Full x) {v : Int} : ∀ a ∈ walkL (some x) v, 0 ≤ a ∧ a < x.1.1 := fun a h => by
  unfold walkL at h
  split at h
  · rename_i hs
    obtain ⟨w, hw⟩ : ∃ w, bE x w v := by
      cases e : mget i64E (behO (some x)) v with
      | none => rw [e] at hs; cases hs
      | some w => exact ⟨w, (beh_iff g).1 e⟩
    rcases List.mem_cons.1 h with e | h
    · rw [e]; exact (bE_in g hw).2.1
    · rw [nxt_is g hw] at h
      exact walkF_in g _ w (bE_next g hw) a h
  · cases h
theorem walkL_ok {x : tabE.T} (g : Full x) (v : Int) : ∀ a ∈ walkL (some x) v, InK .i64 a := fun a h => by
  have h1 := walkL_in g a h
  have h2 : x.1.1 ≤ 4096 := g.fit.2.1
  have h3 : a ≤ 4096 := Int.le_trans (Int.le_of_lt h1.2) h2
  exact InK.i64.2 (by unfold i64ok; omega)
def seqW : SeqTab := fun f ps L => f = 99 ∧ ∃ (o : Option tabE.T) (v : Int), ps = [⟨.pt tabE, o⟩, ⟨i64E, v⟩] ∧ (∀ x, o = some x → Full x) ∧ L = walkL o v
theorem seqWOk : SeqTabOk Try.prog seqW := fun f ps L h => by
  obtain ⟨rfl, o, v, rfl, hg, rfl⟩ := h
  cases o with
  | none => exact seq_ok (rulesF (fn := [(100, behindC)]) (fr := []) ⟨behindRow, trivial⟩ trivial) Try.func99 rfl (by kernel_rfl) rfl (by kernel_rfl) (Nat.le_of_ble_eq_true rfl) (fun a h => by cases h) fun _ => walkY0_vc v
  | some x => exact seq_ok (rulesF (fn := [(100, behindC)]) (fr := []) ⟨behindRow, trivial⟩ trivial) Try.func99 rfl (by kernel_rfl) rfl (by kernel_rfl) (Nat.le_of_ble_eq_true rfl) (walkL_ok (hg x rfl) v) fun _ => walkY_vc x v (hg x rfl)
theorem walkL_len {o : Option tabE.T} {v : Int} : (walkL o v).length ≤ 10001 := by
  have key : ∀ n u, (walkF (behO o) v n u).length ≤ n := fun n => by
    induction n with
    | zero => exact fun u => Nat.le_refl _
    | succ n ih =>
      intro u
      unfold walkF
      split
      · exact Nat.zero_le _
      · have := ih (nxt (behO o) u); rw [List.length_cons]; omega
  unfold walkL
  split
  · have := key 10000 (nxt (behO o) v); rw [List.length_cons]; omega
  · exact Nat.zero_le _
def loopAp (L : List Int) : Spec Nat where
  inv _ := True
  live _ := []
  keep := [1, 2, 4]
  heap k := [(0, .flat 28 [.own 2 0 k]), (2, .row i64E 3 (L.take k))]
  keepH := [1, 3]
  mu _ := 0
set_option maxHeartbeats 400000 in
theorem app_vc (o : Option tabE.T) (v : Int) (hg : ∀ x, o = some x → Full x) : afunR ⟨tyL, [], []⟩ seqW Try.f98 [.s (.val (.slice none 0 0)), .s (.clo 99 [⟨.pt tabE, o⟩, ⟨i64E, v⟩])] (fun r => r = .s (.sl i64E (walkL o v))) := by
  have hlen := walkL_len (o := o) (v := v)
  repeat' (conv => whnf
           first | done | refine Need.intro (by first | rfl | omega | (simp only [i64ok] at *; omega)) ?_ | refine Need.intro (Hold.out ?_) ?_ | refine Give.intro fun _ => ?_ | refine Both.intro ?_ ?_ | refine BIf.and ?_ | refine BIf.or ?_ | refine BIf.eqi (fun _ => ?_) (fun _ => ?_) | refine BIf.nei (fun _ => ?_) (fun _ => ?_) | refine BIf.dec (fun _ => ?_) (fun _ => ?_) | refine BIf.nt ?_ | refine BIf.intro (fun _ => ?_) (fun _ => ?_) | refine Exists.intro (walkL o v) (And.intro (Hold.out ?_) (Exists.intro (loopAp (walkL o v)) ?_)) | (refine And.intro (fun X => ?_) (fun X => ?_)) | (refine And.intro (And.intro ?_ (And.intro ?_ rfl)) (fun k hk => ?_)) | (refine And.intro ?_ (And.intro ?_ rfl)) | refine And.intro rfl ?_ | refine And.intro (HoldEq.out ?_) ?_ | refine And.intro (HoldOb.out ?_) ?_ | exact True.intro | refine HoldEq.out ?_ | refine HoldObs.out ?_ | refine KCheck.intro (by kernel_rfl) ?_ | refine HoldOr.out ?_)
  all_goals try first | refine HoldEq.int ?_ | refine HoldEq.bool ?_ | refine HoldEq.sl ?_ | refine HoldEq.own ?_ | refine HoldEq.ownS ?_ ?_ | refine HoldOb.row ?_ | refine HoldOb.map ?_ | refine HoldOb.gmap ?_ | refine HoldOb.grow ?_ | refine HoldObs.row ?_
  all_goals try simp only [take_one, take_one', set_one, take_all, List.length_singleton, rec_self, Int.toNat_natCast, pair_eta, ETy.dflt, List.getD_cons_zero, List.getD_cons_succ, Int.reduceToNat, Int.reduceAdd, Int.reduceSub, Int.reduceNeg, Nat.reduceAdd, Nat.zero_add, loopAp] at *
  · exact Hold.intro ⟨rfl, o, v, rfl, hg, rfl⟩
  · refine Hold.intro ?_; omega
  · rw [List.drop_zero, List.take_take, Nat.min_self, List.take_succ_eq_append_getElem hk, List.getD_eq_getElem?_getD, List.getElem?_eq_getElem hk]; rfl
  · rw [List.drop_zero, List.take_length, List.take_length]
/-- A walk that is told by its closure. -/
def walkA (f : List AV) : Option ((Option tabE.T) × Int) :=
  match f with
  | [.s (.clo f [⟨.pt (.pair (.pair (.int .i64) (.sl .arr3)) (.pair (.mp .arr2 (.int .i64)) (.sl (.int .i64)))), o⟩, ⟨.int .i64, v⟩])] => match Nat.beq f 99 with
    | true => some (o, v)
    | false => none
  | _ => none
theorem walkA_eq {l : List AV} {o : Option tabE.T} {v : Int} (h : walkA l = some (o, v)) : l = [.s (.clo 99 [⟨.pt tabE, o⟩, ⟨i64E, v⟩])] := by
  unfold walkA at h
  split at h
  · split at h
    · rename_i e; cases h; rw [Nat.eq_of_beq_eq_true e]
    · cases h
  · cases h
def walkRes (f : List AV) : Option Res := match walkA f with
  | some (o, v) => some (none, some (∀ x, o = some x → Full x), .s (.sl i64E (walkL o v)))
  | none => none
def appC : List AV → Option Res
  | .s (.val (.slice none 0 0)) :: f => walkRes f
  | _ => none
theorem appRow : FnRow Try.prog 98 appC := ⟨fun args r h => by
  unfold appC at h
  split at h
  case h_2 => cases h
  unfold walkRes at h
  split at h
  case h_2 => cases h
  rename_i he
  rw [walkA_eq he]
  cases h
  exact fn_okR (rulesF (fn := []) (fr := []) trivial trivial) seqWOk Try.func98 rfl (by kernel_rfl) (Nat.le_of_ble_eq_true rfl) fun _ h => app_vc _ _ h, _, Try.func98, by kernel_rfl, by kernel_rfl⟩
theorem col_vc (o : Option tabE.T) (v : Int) (hg : ∀ x, o = some x → Full x) : afun ⟨tyL, [(98, appC)], []⟩ Try.f75 [.s (.clo 99 [⟨.pt tabE, o⟩, ⟨i64E, v⟩])] (fun r => r = .s (.sl i64E (walkL o v))) := by
  repeat' (conv => whnf
           first | done | refine Need.intro (by first | rfl | omega | (simp only [i64ok] at *; omega)) ?_ | refine Need.intro (Hold.out ?_) ?_ | refine Give.intro fun _ => ?_ | refine Both.intro ?_ ?_ | refine BIf.and ?_ | refine BIf.or ?_ | refine BIf.eqi (fun _ => ?_) (fun _ => ?_) | refine BIf.nei (fun _ => ?_) (fun _ => ?_) | refine BIf.dec (fun _ => ?_) (fun _ => ?_) | refine BIf.nt ?_ | refine BIf.intro (fun _ => ?_) (fun _ => ?_) | refine And.intro rfl ?_ | refine And.intro (HoldEq.out ?_) ?_ | refine And.intro (HoldOb.out ?_) ?_ | exact True.intro | refine HoldEq.out ?_ | refine HoldObs.out ?_ | refine KCheck.intro (by kernel_rfl) ?_ | refine HoldOr.out ?_)
  all_goals try first | refine HoldEq.int ?_ | refine HoldEq.bool ?_ | refine HoldEq.sl ?_ | refine HoldEq.own ?_ | refine HoldEq.ownS ?_ ?_ | refine HoldOb.row ?_ | refine HoldOb.map ?_ | refine HoldOb.gmap ?_ | refine HoldOb.grow ?_ | refine HoldObs.row ?_
  all_goals try simp only [take_one, take_one', set_one, take_all, List.length_singleton, rec_self, Int.toNat_natCast, pair_eta, ETy.dflt, List.getD_cons_zero, List.getD_cons_succ, Int.reduceToNat, Int.reduceAdd, Int.reduceSub, Int.reduceNeg, Nat.reduceAdd, Nat.zero_add] at *
  all_goals exact Hold.intro hg
def colC : List AV → Option Res := walkRes
theorem colRow : FnRow Try.prog 75 colC := ⟨fun args r h => by
  unfold colC walkRes at h
  split at h
  case h_2 => cases h
  rename_i he
  rw [walkA_eq he]
  cases h
  exact fn_by (rulesF (fn := [(98, appC)]) (fr := []) ⟨appRow, trivial⟩ trivial) Try.func75 (by kernel_rfl) fun _ h => col_vc _ _ h, _, Try.func75, by kernel_rfl, by kernel_rfl⟩
/-! border.Loops -/
abbrev LpS := ReM × List (List Int)
def lpI (x : tabE.T) (s : LpS) (v : Nat) : LpS :=
  if had s.1 v = true then s else ((walkL (some x) v).foldl (fun m u => mset (.int .i64) m u true) s.1, if (walkL (some x) v).length > 0 then s.2 ++ [walkL (some x) v] else s.2)
def lpS (x : tabE.T) (i : Nat) : LpS := irec (lpI x) ([], []) i
def loopsR (x : tabE.T) : List (List Int) := (lpS x x.1.1.toNat).2
def loopsO (o : Option tabE.T) : List (List Int) := onO o [] loopsR
def loopLp (x : tabE.T) : Spec Nat where
  inv k := (k : Int) ≤ x.1.1
  live k := [(13, .s (.int .i64 k)), (3, .s (.own 1 0 (lpS x k).2.length))]
  keep := [0, 2, 4, 12]
  heap k := [(1, .row (.sl i64E) 28 (lpS x k).2), (2, .map i64E .bool (lpS x k).1)]
  keepH := [0, 3]
  mu k := x.1.1.toNat - k
theorem lpS_t {x : tabE.T} {k : Nat} (h : had (lpS x k).1 k = true) : lpS x (k + 1) = lpS x k := by
  show lpI x (lpS x k) k = _
  unfold lpI; rw [if_pos h]
theorem lpS_f {x : tabE.T} {k : Nat} (h : had (lpS x k).1 k = false) : lpS x (k + 1) = ((walkL (some x) k).foldl (fun m u => mset (.int .i64) m u true) (lpS x k).1, if (walkL (some x) k).length > 0 then (lpS x k).2 ++ [walkL (some x) k] else (lpS x k).2) := by
  show lpI x (lpS x k) k = _
  unfold lpI; rw [if_neg (by rw [h]; simp)]
theorem lpS_len (x : tabE.T) : ∀ k, (lpS x k).2.length ≤ k
  | 0 => Nat.le_refl _
  | k + 1 => by
    have ih := lpS_len x k
    cases h : had (lpS x k).1 k with
    | true => rw [lpS_t h]; omega
    | false =>
      rw [lpS_f h]
      show (if _ then _ else _ : List (List Int)).length ≤ _
      split
      · rw [List.length_append, List.length_singleton]; omega
      · omega
def insF (m : ReM) (l : List Int) : ReM := l.foldl (fun m u => mset (.int .i64) m u true) m
def loopLq (m : ReM) (L : List Int) : Spec Nat where
  inv _ := True
  live _ := []
  keep := [0, 2, 3, 4, 5, 6, 12, 13]
  heap k := [(2, .map i64E .bool (insF m (L.take k)))]
  keepH := [0, 1, 3, 4]
  mu _ := 0
set_option maxHeartbeats 4000000 in
theorem loops_vc (x : tabE.T) (g : Full x) : afunR ⟨tyL, [(74, verticesC), (76, walkC), (75, colC)], []⟩ seqW Try.f40 [(ETy.pt tabE).av (some x)] (fun r => r = .s (.sl (.sl i64E) (loopsR x))) := by
  repeat' (conv => whnf
           first | done | refine Need.intro (by first | rfl | omega | (simp only [i64ok] at *; omega)) ?_ | refine Need.intro (Hold.out ?_) ?_ | refine Give.intro fun _ => ?_ | refine Both.intro ?_ ?_ | refine BIf.and ?_ | refine BIf.or ?_ | refine BIf.eqi (fun _ => ?_) (fun _ => ?_) | refine BIf.nei (fun _ => ?_) (fun _ => ?_) | refine BIf.dec (fun _ => ?_) (fun _ => ?_) | refine BIf.nt ?_ | refine BIf.intro (fun _ => ?_) (fun _ => ?_) | refine Exists.intro (Nat) (Exists.intro (loopLp x) (And.intro (Exists.intro (0) (And.intro (Hold.out ?_) (And.intro ?_ (And.intro ?_ rfl)))) (fun k hk => ?_))) | ((with_reducible show (∃ y, And (Spec.inv (loopLp _) y) _)); refine Exists.intro (k + 1) (And.intro (Hold.out ?_) (And.intro (And.intro ?_ (And.intro ?_ rfl)) (Hold.out ?_)))) | refine Exists.intro (walkL (some x) k) (And.intro (Hold.out ?_) (Exists.intro (loopLq (lpS x k).1 (walkL (some x) k)) ?_)) | (refine And.intro (fun X => ?_) (fun X => ?_)) | (refine And.intro (And.intro ?_ (And.intro ?_ rfl)) (fun j hj => ?_)) | (refine And.intro ?_ (And.intro ?_ rfl)) | refine And.intro rfl ?_ | refine And.intro (HoldEq.out ?_) ?_ | refine And.intro (HoldOb.out ?_) ?_ | exact True.intro | refine HoldEq.out ?_ | refine HoldObs.out ?_ | refine KCheck.intro (by kernel_rfl) ?_ | refine HoldOr.out ?_)
  all_goals try first | refine HoldEq.int ?_ | refine HoldEq.bool ?_ | refine HoldEq.sl ?_ | refine HoldEq.own ?_ | refine HoldEq.ownS ?_ ?_ | refine HoldOb.row ?_ | refine HoldOb.map ?_ | refine HoldOb.gmap ?_ | refine HoldOb.grow ?_ | refine HoldObs.row ?_
  all_goals try simp only [take_one, take_one', set_one, take_all, List.length_singleton, rec_self, Int.toNat_natCast, pair_eta, ETy.dflt, List.getD_cons_zero, List.getD_cons_succ, Int.reduceToNat, Int.reduceAdd, Int.reduceSub, Int.reduceNeg, Nat.reduceAdd, Nat.zero_add, loopLp, loopLq] at *
  all_goals have hn : @LE.le Int _ x.1.1 4096 := g.fit.2.1
  all_goals have h0 : @LE.le Int _ 0 x.1.1 := g.fit.1
  all_goals try (refine Hold.intro ?_; first | omega | (unfold i64ok; omega))
  all_goals try have hlen := lpS_len x k
  all_goals try
    have ht : had (lpS x k).1 k = true := by assumption
    have e := lpS_t ht
    (first | (rw [e]; done) | (rw [e]))
  all_goals try have hf : had (lpS x k).1 k = false := by assumption
  · exact Hold.intro (fun y h => by cases h; exact g)
  · exact Hold.intro ⟨rfl, some x, k, rfl, fun y h => (by cases h; exact g), rfl⟩
  · unfold insF
    rw [List.take_succ_eq_append_getElem hj, List.foldl_append, List.getD_eq_getElem?_getD, List.getElem?_eq_getElem hj]; rfl
  · refine Hold.intro ?_; omega
  · have hp : ((walkL (some x) k).length : Int) > 0 := by assumption
    rw [lpS_f hf, if_pos (by omega), List.length_append]; rfl
  · have hp : ((walkL (some x) k).length : Int) > 0 := by assumption
    rw [lpS_f hf, if_pos (by omega)]
  · rw [lpS_f hf, List.take_length]; rfl
  · have hp : ¬ ((walkL (some x) k).length : Int) > 0 := by assumption
    rw [lpS_f hf, if_neg (by omega)]
  · have hp : ¬ ((walkL (some x) k).length : Int) > 0 := by assumption
    rw [lpS_f hf, if_neg (by omega)]
  · rw [lpS_f hf, List.take_length]; rfl
  · have e : k = x.1.1.toNat := by omega
    rw [e]; rfl
set_option maxHeartbeats 4000000 in
theorem loops0_vc : afunR ⟨tyL, [(74, verticesC), (76, walkC), (75, colC)], []⟩ seqW Try.f40 [(ETy.pt tabE).av none] (fun r => r = .s (.sl (.sl i64E) [])) := by
  repeat' (conv => whnf
           first | done | refine Need.intro (by first | rfl | omega | (simp only [i64ok] at *; omega)) ?_ | refine Need.intro (Hold.out ?_) ?_ | refine Give.intro fun _ => ?_ | refine Both.intro ?_ ?_ | refine BIf.and ?_ | refine BIf.or ?_ | refine BIf.eqi (fun _ => ?_) (fun _ => ?_) | refine BIf.nei (fun _ => ?_) (fun _ => ?_) | refine BIf.dec (fun _ => ?_) (fun _ => ?_) | refine BIf.nt ?_ | refine BIf.intro (fun _ => ?_) (fun _ => ?_) | refine And.intro rfl ?_ | refine And.intro (HoldEq.out ?_) ?_ | refine And.intro (HoldOb.out ?_) ?_ | exact True.intro | refine HoldEq.out ?_ | refine HoldObs.out ?_ | refine KCheck.intro (by kernel_rfl) ?_ | refine HoldOr.out ?_)
  all_goals try first | refine HoldEq.int ?_ | refine HoldEq.bool ?_ | refine HoldEq.sl ?_ | refine HoldEq.own ?_ | refine HoldEq.ownS ?_ ?_ | refine HoldOb.row ?_ | refine HoldOb.map ?_ | refine HoldOb.gmap ?_ | refine HoldOb.grow ?_ | refine HoldObs.row ?_
  all_goals try simp only [take_one, take_one', set_one, take_all, List.length_singleton, rec_self, Int.toNat_natCast, pair_eta, ETy.dflt, List.getD_cons_zero, List.getD_cons_succ, Int.reduceToNat, Int.reduceAdd, Int.reduceSub, Int.reduceNeg, Nat.reduceAdd, Nat.zero_add] at *
  rfl
def loopsC : List AV → Option Res := con1 (.pt tabE) (fun o => some (none, some (∀ x, o = some x → Full x), .s (.sl (.sl i64E) (loopsO o))))
theorem loopsRow : FnRow Try.prog 40 loopsC := ⟨con1_ok fun o r h => by
  cases h
  cases o with
  | none => exact fn_okR (rulesF (fn := [(74, verticesC), (76, walkC), (75, colC)]) (fr := []) ⟨verticesRow, walkRow, colRow, trivial⟩ trivial) seqWOk Try.func40 rfl (by kernel_rfl) (Nat.le_of_ble_eq_true rfl) fun _ _ => loops0_vc
  | some x => exact fn_okR (rulesF (fn := [(74, verticesC), (76, walkC), (75, colC)]) (fr := []) ⟨verticesRow, walkRow, colRow, trivial⟩ trivial) seqWOk Try.func40 rfl (by kernel_rfl) (Nat.le_of_ble_eq_true rfl) fun _ h => loops_vc x (h x rfl), _, Try.func40, by kernel_rfl, by kernel_rfl⟩
end S1

open Go Go.Vm Go.Proofs
namespace S1
set_option maxRecDepth 100000

/-! star.check -/
instance (ap : List Int) : Decidable ap.Nodup := inferInstanceAs (Decidable (List.Pairwise (· ≠ ·) ap))
def ckA (n : Int) (ap : List Int) : Prop := ∀ a ∈ ap, 0 ≤ a ∧ a < n
def ckC (x : tabE.T) (ap : List Int) : Prop := ∀ a ∈ ap, innerR x a = true
def ckD (x : tabE.T) (ap : List Int) : Prop := ∀ a ∈ ap, ∀ v ∈ linkR x a, v ∉ ap
instance (n : Int) (ap : List Int) : Decidable (ckA n ap) := inferInstanceAs (Decidable (∀ a ∈ ap, 0 ≤ a ∧ a < n))
instance (x : tabE.T) (ap : List Int) : Decidable (ckC x ap) := inferInstanceAs (Decidable (∀ a ∈ ap, innerR x a = true))
instance (x : tabE.T) (ap : List Int) : Decidable (ckD x ap) := inferInstanceAs (Decidable (∀ a ∈ ap, ∀ v ∈ linkR x a, v ∉ ap))
def checkR (x : tabE.T) (ap : List Int) : Int := if ¬ ckA x.1.1 ap then 2 else if ¬ ap.Nodup then 9 else if ¬ ckC x ap then 13 else if ¬ ckD x ap then 14 else 0
def loopC1 (n : Int) (ap : List Int) : Spec Nat where
  inv k := k ≤ ap.length ∧ ckA n (ap.take k)
  live k := [(19, .s (.int .i64 k))]
  keep := [0, 1, 5, 17, 18]
  heap _ := []
  keepH := [0]
  mu k := ap.length - k
def loopC2 (ap : List Int) : Spec Nat where
  inv k := k ≤ ap.length ∧ (ap.take k).Nodup
  live k := [(34, .s (.int .i64 k))]
  keep := [0, 1, 5, 32, 33]
  heap k := [(0, .map i64E .bool (insM (ap.take k)))]
  keepH := []
  mu k := ap.length - k
def loopC3 (x : tabE.T) (ap : List Int) : Spec Nat where
  inv k := k ≤ ap.length ∧ ckC x (ap.take k)
  live k := [(46, .s (.int .i64 k))]
  keep := [0, 1, 5, 44, 45]
  heap _ := []
  keepH := [0]
  mu k := ap.length - k
def ckDD (x : tabE.T) (ap bp : List Int) : Prop := ∀ a ∈ bp, ∀ v ∈ linkR x a, v ∉ ap
def loopC4 (x : tabE.T) (ap : List Int) : Spec Nat where
  inv k := k ≤ ap.length ∧ ckDD x ap (ap.take k)
  live k := [(57, .s (.int .i64 k))]
  keep := [0, 1, 5, 55, 56]
  heap _ := []
  keepH := [0]
  mu k := ap.length - k
def loopC5 (x : tabE.T) (ap : List Int) (a : Int) : Spec Nat where
  inv j := j ≤ (linkR x a).length ∧ ∀ v ∈ (linkR x a).take j, v ∉ ap
  live j := [(65, .s (.int .i64 j))]
  keep := [0, 1, 5, 55, 56, 57, 63, 64]
  heap _ := []
  keepH := [0]
  mu j := (linkR x a).length - j
theorem take_succ_mem {l : List Int} {k : Nat} (h : k < l.length) {v : Int} : v ∈ l.take (k + 1) ↔ v ∈ l.take k ∨ v = l.getD k 0 := by
  rw [List.take_succ_eq_append_getElem h, List.mem_append, List.mem_singleton, List.getD_eq_getElem?_getD, List.getElem?_eq_getElem h]; rfl
theorem ckA_nil {n : Int} {ap : List Int} : ckA n (ap.take 0) := fun a h => by cases h
theorem ckC_nil {x : tabE.T} {ap : List Int} : ckC x (ap.take 0) := fun a h => by cases h
theorem ckDD_nil {x : tabE.T} {ap bp : List Int} : ckDD x ap (bp.take 0) := fun a h => by cases h
theorem ckA_succ {n : Int} {ap : List Int} {k : Nat} (h : ckA n (ap.take k)) (hk : k < ap.length) (h2 : 0 ≤ ap.getD k 0 ∧ ap.getD k 0 < n) : ckA n (ap.take (k + 1)) := fun a ha => by
  rcases (take_succ_mem hk).1 ha with e | e
  · exact h a e
  · rw [e]; exact h2
theorem ckC_succ {x : tabE.T} {ap : List Int} {k : Nat} (h : ckC x (ap.take k)) (hk : k < ap.length) (h2 : innerR x (ap.getD k 0) = true) : ckC x (ap.take (k + 1)) := fun a ha => by
  rcases (take_succ_mem hk).1 ha with e | e
  · exact h a e
  · rw [e]; exact h2
theorem ckDD_succ {x : tabE.T} {ap bp : List Int} {k : Nat} (h : ckDD x ap (bp.take k)) (hk : k < bp.length) (h2 : ∀ v ∈ linkR x (bp.getD k 0), v ∉ ap) : ckDD x ap (bp.take (k + 1)) := fun a ha => by
  rcases (take_succ_mem hk).1 ha with e | e
  · exact h a e
  · rw [e]; exact h2
theorem nodup_succ {l : List Int} {k : Nat} (h : (l.take k).Nodup) (hk : k < l.length) (hn : l.getD k 0 ∉ l.take k) : (l.take (k + 1)).Nodup := by
  rw [List.take_succ_eq_append_getElem hk, List.nodup_append]
  refine ⟨h, List.nodup_cons.2 ⟨by simp, List.nodup_nil⟩, fun a ha b hb e => ?_⟩
  rw [List.mem_singleton] at hb
  subst hb; subst e
  rw [List.getD_eq_getElem?_getD, List.getElem?_eq_getElem hk] at hn
  exact hn ha
theorem nodup_take {l : List Int} {k : Nat} (hn : l.Nodup) (hk : k < l.length) (h : l.getD k 0 ∈ l.take k) : False := by
  have e : l.take (k + 1) = l.take k ++ [l.getD k 0] := by
    rw [List.take_succ_eq_append_getElem hk, List.getD_eq_getElem?_getD, List.getElem?_eq_getElem hk]; rfl
  have : (l.take (k + 1)).Nodup := (List.take_sublist _ _).nodup hn
  rw [e, List.nodup_append] at this
  exact this.2.2 _ h _ (List.mem_singleton.2 rfl) rfl
theorem checkR_2 {x : tabE.T} {ap : List Int} {a : Int} (ha : a ∈ ap) (h : ¬ (0 ≤ a ∧ a < x.1.1)) : checkR x ap = 2 := by
  unfold checkR; rw [if_pos (fun e => h (e a ha))]
theorem checkR_9 {x : tabE.T} {ap : List Int} (h1 : ckA x.1.1 ap) (h : ¬ ap.Nodup) : checkR x ap = 9 := by
  unfold checkR; rw [if_neg (fun e => e h1), if_pos h]
theorem checkR_13 {x : tabE.T} {ap : List Int} (h1 : ckA x.1.1 ap) (h2 : ap.Nodup) {a : Int} (ha : a ∈ ap) (h : innerR x a = false) : checkR x ap = 13 := by
  unfold checkR; rw [if_neg (fun e => e h1), if_neg (fun e => e h2), if_pos (fun e => by rw [e a ha] at h; cases h)]
theorem checkR_14 {x : tabE.T} {ap : List Int} (h1 : ckA x.1.1 ap) (h2 : ap.Nodup) (h3 : ckC x ap) {a v : Int} (ha : a ∈ ap) (hv : v ∈ linkR x a) (h : v ∈ ap) : checkR x ap = 14 := by
  unfold checkR; rw [if_neg (fun e => e h1), if_neg (fun e => e h2), if_neg (fun e => e h3), if_pos (fun e => e a ha v hv h)]
theorem checkR_0 {x : tabE.T} {ap : List Int} (h1 : ckA x.1.1 ap) (h2 : ap.Nodup) (h3 : ckC x ap) (h4 : ckD x ap) : checkR x ap = 0 := by
  unfold checkR; rw [if_neg (fun e => e h1), if_neg (fun e => e h2), if_neg (fun e => e h3), if_neg (fun e => e h4)]
attribute [local irreducible] innerR linkR insM ckA ckC ckDD
set_option maxHeartbeats 4000000 in
theorem sck_vc (x : tabE.T) (ap : List Int) (g : Good x) : afun ⟨tyL, [(74, verticesC), (25, innerC), (27, linkC)], []⟩ Try.f71 [(ETy.pt tabE).av (some x), (ETy.sl i64E).av ap] (fun r => r = .s (.int .i64 (checkR x ap))) := by
  repeat' (conv => whnf
           first | done | refine Need.intro (by first | rfl | omega | (simp only [i64ok] at *; omega)) ?_ | refine Need.intro (Hold.out ?_) ?_ | refine Give.intro fun _ => ?_ | refine Both.intro ?_ ?_ | refine BIf.and ?_ | refine BIf.or ?_ | refine BIf.eqi (fun _ => ?_) (fun _ => ?_) | refine BIf.nei (fun _ => ?_) (fun _ => ?_) | refine BIf.dec (fun _ => ?_) (fun _ => ?_) | refine BIf.nt ?_ | refine BIf.intro (fun _ => ?_) (fun _ => ?_) | ((first | (with_reducible show Or (∃ n, rounds (acode _ (Code.seq (Code.region 3 _ _) _)) _ n _) _) | (with_reducible show Or (∃ n, rounds (acode _ (Code.seq (Code.seq (Code.region 3 _ _) _) _)) _ n _) _) | (with_reducible show Or (∃ n, rounds (acode _ (Code.seq (Code.seq (Code.seq (Code.region 3 _ _) _) _) _)) _ n _) _) | (with_reducible show Or (∃ n, rounds (acode _ (Code.seq (Code.seq (Code.seq (Code.seq (Code.region 3 _ _) _) _) _) _)) _ n _) _) | (with_reducible show Or (∃ n, rounds (acode _ (Code.block _ (Code.seq (Code.region 3 _ _) _))) _ n _) _) | (with_reducible show Or (∃ n, rounds (acode _ (Code.block _ (Code.seq (Code.seq (Code.region 3 _ _) _) _))) _ n _) _) | (with_reducible show Or (∃ n, rounds (acode _ (Code.block _ (Code.seq (Code.seq (Code.seq (Code.region 3 _ _) _) _) _))) _ n _) _) | (with_reducible show Or (∃ n, rounds (acode _ (Code.block _ (Code.seq (Code.seq (Code.seq (Code.seq (Code.region 3 _ _) _) _) _) _))) _ n _) _)); refine Or.inr (Exists.intro (Nat) (Exists.intro (loopC1 x.1.1 ap) (And.intro (Exists.intro (0) (And.intro (Hold.out ?_) (And.intro ?_ (And.intro ?_ rfl)))) (fun k hk => ?_))))) | ((with_reducible show (∃ y, And (Spec.inv (loopC1 _ _) y) _)); refine Exists.intro (k + 1) (And.intro (Hold.out ?_) (And.intro (And.intro ?_ (And.intro ?_ rfl)) (Hold.out ?_)))) | ((first | (with_reducible show Or (∃ n, rounds (acode _ (Code.seq (Code.region 9 _ _) _)) _ n _) _) | (with_reducible show Or (∃ n, rounds (acode _ (Code.seq (Code.seq (Code.region 9 _ _) _) _)) _ n _) _) | (with_reducible show Or (∃ n, rounds (acode _ (Code.seq (Code.seq (Code.seq (Code.region 9 _ _) _) _) _)) _ n _) _) | (with_reducible show Or (∃ n, rounds (acode _ (Code.seq (Code.seq (Code.seq (Code.seq (Code.region 9 _ _) _) _) _) _)) _ n _) _) | (with_reducible show Or (∃ n, rounds (acode _ (Code.block _ (Code.seq (Code.region 9 _ _) _))) _ n _) _) | (with_reducible show Or (∃ n, rounds (acode _ (Code.block _ (Code.seq (Code.seq (Code.region 9 _ _) _) _))) _ n _) _) | (with_reducible show Or (∃ n, rounds (acode _ (Code.block _ (Code.seq (Code.seq (Code.seq (Code.region 9 _ _) _) _) _))) _ n _) _) | (with_reducible show Or (∃ n, rounds (acode _ (Code.block _ (Code.seq (Code.seq (Code.seq (Code.seq (Code.region 9 _ _) _) _) _) _))) _ n _) _)); refine Or.inr (Exists.intro (Nat) (Exists.intro (loopC2 ap) (And.intro (Exists.intro (0) (And.intro (Hold.out ?_) (And.intro ?_ (And.intro ?_ rfl)))) (fun q hq => ?_))))) | ((with_reducible show (∃ y, And (Spec.inv (loopC2 _) y) _)); refine Exists.intro (q + 1) (And.intro (Hold.out ?_) (And.intro (And.intro ?_ (And.intro ?_ rfl)) (Hold.out ?_)))) | ((first | (with_reducible show Or (∃ n, rounds (acode _ (Code.seq (Code.region 16 _ _) _)) _ n _) _) | (with_reducible show Or (∃ n, rounds (acode _ (Code.seq (Code.seq (Code.region 16 _ _) _) _)) _ n _) _) | (with_reducible show Or (∃ n, rounds (acode _ (Code.seq (Code.seq (Code.seq (Code.region 16 _ _) _) _) _)) _ n _) _) | (with_reducible show Or (∃ n, rounds (acode _ (Code.seq (Code.seq (Code.seq (Code.seq (Code.region 16 _ _) _) _) _) _)) _ n _) _) | (with_reducible show Or (∃ n, rounds (acode _ (Code.block _ (Code.seq (Code.region 16 _ _) _))) _ n _) _) | (with_reducible show Or (∃ n, rounds (acode _ (Code.block _ (Code.seq (Code.seq (Code.region 16 _ _) _) _))) _ n _) _) | (with_reducible show Or (∃ n, rounds (acode _ (Code.block _ (Code.seq (Code.seq (Code.seq (Code.region 16 _ _) _) _) _))) _ n _) _) | (with_reducible show Or (∃ n, rounds (acode _ (Code.block _ (Code.seq (Code.seq (Code.seq (Code.seq (Code.region 16 _ _) _) _) _) _))) _ n _) _)); refine Or.inr (Exists.intro (Nat) (Exists.intro (loopC3 x ap) (And.intro (Exists.intro (0) (And.intro (Hold.out ?_) (And.intro ?_ (And.intro ?_ rfl)))) (fun r hr => ?_))))) | ((with_reducible show (∃ y, And (Spec.inv (loopC3 _ _) y) _)); refine Exists.intro (r + 1) (And.intro (Hold.out ?_) (And.intro (And.intro ?_ (And.intro ?_ rfl)) (Hold.out ?_)))) | ((first | (with_reducible show Or (∃ n, rounds (acode _ (Code.seq (Code.region 22 _ _) _)) _ n _) _) | (with_reducible show Or (∃ n, rounds (acode _ (Code.seq (Code.seq (Code.region 22 _ _) _) _)) _ n _) _) | (with_reducible show Or (∃ n, rounds (acode _ (Code.seq (Code.seq (Code.seq (Code.region 22 _ _) _) _) _)) _ n _) _) | (with_reducible show Or (∃ n, rounds (acode _ (Code.seq (Code.seq (Code.seq (Code.seq (Code.region 22 _ _) _) _) _) _)) _ n _) _) | (with_reducible show Or (∃ n, rounds (acode _ (Code.block _ (Code.seq (Code.region 22 _ _) _))) _ n _) _) | (with_reducible show Or (∃ n, rounds (acode _ (Code.block _ (Code.seq (Code.seq (Code.region 22 _ _) _) _))) _ n _) _) | (with_reducible show Or (∃ n, rounds (acode _ (Code.block _ (Code.seq (Code.seq (Code.seq (Code.region 22 _ _) _) _) _))) _ n _) _) | (with_reducible show Or (∃ n, rounds (acode _ (Code.block _ (Code.seq (Code.seq (Code.seq (Code.seq (Code.region 22 _ _) _) _) _) _))) _ n _) _)); refine Or.inr (Exists.intro (Nat) (Exists.intro (loopC4 x ap) (And.intro (Exists.intro (0) (And.intro (Hold.out ?_) (And.intro ?_ (And.intro ?_ rfl)))) (fun s hs => ?_))))) | ((with_reducible show (∃ y, And (Spec.inv (loopC4 _ _) y) _)); refine Exists.intro (s + 1) (And.intro (Hold.out ?_) (And.intro (And.intro ?_ (And.intro ?_ rfl)) (Hold.out ?_)))) | ((first | (with_reducible show Or (∃ n, rounds (acode _ (Code.seq (Code.region 25 _ _) _)) _ n _) _) | (with_reducible show Or (∃ n, rounds (acode _ (Code.seq (Code.seq (Code.region 25 _ _) _) _)) _ n _) _) | (with_reducible show Or (∃ n, rounds (acode _ (Code.seq (Code.seq (Code.seq (Code.region 25 _ _) _) _) _)) _ n _) _) | (with_reducible show Or (∃ n, rounds (acode _ (Code.seq (Code.seq (Code.seq (Code.seq (Code.region 25 _ _) _) _) _) _)) _ n _) _) | (with_reducible show Or (∃ n, rounds (acode _ (Code.block _ (Code.seq (Code.region 25 _ _) _))) _ n _) _) | (with_reducible show Or (∃ n, rounds (acode _ (Code.block _ (Code.seq (Code.seq (Code.region 25 _ _) _) _))) _ n _) _) | (with_reducible show Or (∃ n, rounds (acode _ (Code.block _ (Code.seq (Code.seq (Code.seq (Code.region 25 _ _) _) _) _))) _ n _) _) | (with_reducible show Or (∃ n, rounds (acode _ (Code.block _ (Code.seq (Code.seq (Code.seq (Code.seq (Code.region 25 _ _) _) _) _) _))) _ n _) _)); refine Or.inr (Exists.intro (Nat) (Exists.intro (loopC5 x ap (ap.getD s 0)) (And.intro (Exists.intro (0) (And.intro (Hold.out ?_) (And.intro ?_ (And.intro ?_ rfl)))) (fun j hj => ?_))))) | ((with_reducible show (∃ y, And (Spec.inv (loopC5 _ _ _) y) _)); refine Exists.intro (j + 1) (And.intro (Hold.out ?_) (And.intro (And.intro ?_ (And.intro ?_ rfl)) (Hold.out ?_)))) | refine And.intro rfl ?_ | refine And.intro (HoldEq.out ?_) ?_ | refine And.intro (HoldOb.out ?_) ?_ | exact True.intro | refine HoldEq.out ?_ | refine HoldObs.out ?_ | refine KCheck.intro (by kernel_rfl) ?_ | refine HoldOr.out ?_)
  all_goals try first | refine HoldEq.int ?_ | refine HoldEq.bool ?_ | refine HoldEq.sl ?_ | refine HoldEq.own ?_ | refine HoldEq.ownS ?_ ?_ | refine HoldOb.row ?_ | refine HoldOb.map ?_ | refine HoldOb.gmap ?_ | refine HoldOb.grow ?_ | refine HoldObs.row ?_
  all_goals try simp only [take_one, take_one', set_one, take_all, List.length_singleton, rec_self, Int.toNat_natCast, pair_eta, ETy.dflt, List.getD_cons_zero, List.getD_cons_succ, Int.reduceToNat, Int.reduceAdd, Int.reduceSub, Int.reduceNeg, Nat.reduceAdd, Nat.zero_add, loopC1, loopC2, loopC3, loopC4, loopC5, had_def, had_def2] at *
  all_goals try (refine Hold.intro ?_; omega)
  all_goals try (have e1 : ap.take k = ap := List.take_of_length_le (by omega)
                 have hA : ckA x.1.1 ap := by have := hk.2; rw [e1] at this; exact this)
  all_goals try (have e2 : ap.take q = ap := List.take_of_length_le (by omega)
                 have hB : ap.Nodup := by have := hq.2; rw [e2] at this; exact this)
  all_goals try (have e3 : ap.take r = ap := List.take_of_length_le (by omega)
                 have hC : ckC x ap := by have := hr.2; rw [e3] at this; exact this)
  all_goals try have hlt1 : (k : Int) < ap.length := by assumption
  all_goals try have hlt2 : (q : Int) < ap.length := by assumption
  all_goals try have hlt3 : (r : Int) < ap.length := by assumption
  all_goals try have hlt4 : (s : Int) < ap.length := by assumption
  all_goals try have hlt5 : (j : Int) < (linkR x (ap.getD s 0)).length := by assumption
  · exact Hold.intro ⟨Nat.zero_le _, ckA_nil⟩
  · have h : ap.getD k 0 < 0 := by assumption
    exact (checkR_2 (getD_mem (j := k) (by omega)) (fun e => by omega)).symm
  · have h : ap.getD k 0 ≥ x.1.1 := by assumption
    exact (checkR_2 (getD_mem (j := k) (by omega)) (fun e => by have := e.2; exact absurd h (Int.not_le.2 this))).symm
  · have h1 : ¬ ap.getD k 0 < 0 := by assumption
    have h2 : ¬ ap.getD k 0 ≥ x.1.1 := by assumption
    exact Hold.intro ⟨by omega, ckA_succ hk.2 (by omega) ⟨by omega, Int.not_le.1 h2⟩⟩
  · exact Hold.intro ⟨Nat.zero_le _, List.nodup_nil⟩
  · unfold insM; rfl
  · have h : had (insM (ap.take q)) (ap.getD q 0) = true := by assumption
    have h := (insM_had _ _).1 h
    exact (checkR_9 hA (fun hn => nodup_take hn (by omega) h)).symm
  · have h : had (insM (ap.take q)) (ap.getD q 0) = false := by assumption
    exact Hold.intro ⟨by omega, nodup_succ hq.2 (by omega) (fun e => by rw [(insM_had _ _).2 e] at h; cases h)⟩
  · exact insM_succ (by omega)
  · exact Hold.intro ⟨Nat.zero_le _, ckC_nil⟩
  · have h : innerR x (ap.getD r 0) = true := by assumption
    exact Hold.intro ⟨by omega, ckC_succ hr.2 (by omega) h⟩
  · have h : innerR x (ap.getD r 0) = false := by assumption
    exact (checkR_13 hA hB (getD_mem (j := r) (by omega)) h).symm
  · exact Hold.intro ⟨Nat.zero_le _, ckDD_nil⟩
  · exact Hold.intro (fun y h => by cases h; exact g)
  · exact Hold.intro ⟨Nat.zero_le _, fun v h => by cases h⟩
  · have h : had (insM (ap.take q)) ((linkR x (ap.getD s 0)).getD j 0) = true := by assumption
    rw [e2] at h
    have h := (insM_had _ _).1 h
    exact (checkR_14 hA hB hC (getD_mem (j := s) (by omega)) (getD_mem (j := j) (l := linkR x (ap.getD s 0)) (by omega)) h).symm
  · have h : had (insM (ap.take q)) ((linkR x (ap.getD s 0)).getD j 0) = false := by assumption
    rw [e2] at h
    refine Hold.intro ⟨by omega, fun v hv => ?_⟩
    rw [take_succ_mem (by omega)] at hv
    rcases hv with hv | hv
    · exact hj.2 v hv
    · rw [hv]; intro e; rw [(insM_had _ _).2 e] at h; cases h
  · refine Hold.intro ?_; omega
  · have hge : ¬ (j : Int) < (linkR x (ap.getD s 0)).length := by assumption
    refine Hold.intro ⟨by omega, ckDD_succ hs.2 (by omega) fun v hv => hj.2 v ?_⟩
    rw [List.take_of_length_le (by omega)]; exact hv
  · have e4 : ap.take s = ap := List.take_of_length_le (by omega)
    have := hs.2
    rw [e4] at this
    have this : ckD x ap := by unfold ckDD at this; exact this
    exact (checkR_0 hA hB hC this).symm
def starCkC : List AV → Option Res := con2 (.pt tabE) (.sl i64E) (fun o ap => match o with | some x => some (none, some (Good x), .s (.int .i64 (checkR x ap))) | none => none)
theorem starCkRow : FnRow Try.prog 71 starCkC := ⟨con2_ok fun o ap r h => by
  cases o with
  | none => cases h
  | some x => cases h; exact fn_by (rulesF (fn := [(74, verticesC), (25, innerC), (27, linkC)]) (fr := []) ⟨verticesRow, innerRow, linkRow, trivial⟩ trivial) Try.func71 (by kernel_rfl) fun _ h => sck_vc x ap h, _, Try.func71, by kernel_rfl, by kernel_rfl⟩
end S1
