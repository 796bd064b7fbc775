/- A part of the proofs of the laws of this seat: contracts of functions, each for every input that its text names. -/
import Derived.Test.YtbbpofkacdmjnaaF9toV3
import Derived.Test.YtbbpofkacdmjnaaT25toU3
set_option linter.unusedSimpArgs false
set_option linter.unusedVariables false
set_option maxHeartbeats 2000000
open Go Go.Vm Go.Proofs
namespace S1
set_option maxRecDepth 100000

/-! gypsumref34.Why -/
theorem next_tri {x : tabE.T} {d : Int} (h : tHas x d = true) : (tNext x d / 3).toNat = (d / 3).toNat := by
  rw [tNext_t h]; unfold trn; omega
theorem vert_conn {x : tabE.T} (g : Full x) {c d : Int} (hc : tHas x c = true) (hd : tHas x d = true) (e : tVert x c = tVert x d) : Conn (Adj x) (c / 3).toNat (d / 3).toNat := by
  have hv := tVert_in g.fit hc
  obtain ⟨b, _, eL, hb1, hb2, _⟩ := g.around hv.1 hv.2
  have key : ∀ y ∈ aroundL (some x) (tVert x c), Conn (Adj x) (b / 3).toNat (y / 3).toNat := fun y hy => by
    rw [eL] at hy
    refine aroundF_all (x := x) (b := b) (fun y => Conn (Adj x) (b / 3).toNat (y / 3).toNat) (fun q hq ha => ?_) _ _ (.refl _) y hy
    obtain ⟨k1, k2, k3⟩ := g.toGood.after_has ha
    refine .step hq ⟨tNext x q, (hasNP k1).1, next_tri k1, k3, ?_⟩
    have k4 := (g.opp_v (c := tNext x q) k3).2.1
    have : tAfter x q = tNext x (tOpp x (tNext x q)) := by unfold tAfter; rw [if_neg (by omega)]
    rw [this, next_tri k4]
  have k1 := key c (g.around_all hc)
  have k2 := key d (by rw [e]; exact g.around_all hd)
  exact Conn.trans (k1.symm fun _ _ => g.adj_symm) k2
theorem label_at {x : tabE.T} (g : Full x) {a : Int} (h0 : 0 ≤ a) (h1 : a < x.1.1) : (ofR x).getD (cor10R x a / 3).toNat 0 = smM x a := by
  obtain ⟨c1, c2⟩ := cor10_is g h0 h1
  obtain ⟨d1, d2⟩ := g.vtx a h0 h1
  unfold smM
  exact (shell_iff g (cor_tri c1).1 (cor_tri d1).1).2 (vert_conn g c1 d1 (c2.trans d2.symm))
theorem fac_mem {x : tabE.T} {a b v : Int} : v ∈ facR x a b ↔ (tFacing x (a, b) ≥ 0 ∧ tVert x (tFacing x (a, b)) = v) ∨ (tFacing x (b, a) ≥ 0 ∧ tVert x (tFacing x (b, a)) = v) := by
  unfold facR
  rw [List.mem_append]
  refine or_congr ?_ ?_ <;>
  · split
    · rename_i h; rw [List.mem_singleton]; exact ⟨fun e => ⟨h, e.symm⟩, fun e => e.2.symm⟩
    · rename_i h; exact ⟨fun e => (by cases e), fun e => absurd e.1 h⟩
def loopW1 (x : tabE.T) (a b : Int) : Spec Nat where
  inv i := i ≤ (comR x a b).length ∧ whyL (facR x a b) (comR x a b) = whyL (facR x a b) ((comR x a b).drop i)
  live i := [(10, .s (.int .i64 i))]
  keep := [1, 2, 3, 7, 8, 9]
  heap _ := []
  keepH := [0]
  mu i := (comR x a b).length - i
def loopW2 (x : tabE.T) (a : Int) : Spec Nat where
  inv i := i ≤ (ofR x).length
  live i := [(16, .s (.int .i64 i)), (14, .s (.int .i64 (smS x (smM x a) i).1)), (15, .s (.bool (!(smS x (smM x a) i).2)))]
  keep := [1, 2, 3, 7, 8, 9, 11, 12, 13]
  heap _ := []
  keepH := [0]
  mu i := (ofR x).length - i
def loopW3 (x : tabE.T) (a : Int) (i : Nat) : Spec Nat where
  inv c := c ≤ 3
  live c := [(17, .s (.int .i64 c)), (15, .s (.bool (!(irec (smC x i) (smS x (smM x a) i).2 c))))]
  keep := [1, 2, 3, 7, 8, 9, 11, 12, 13, 14, 16]
  heap _ := []
  keepH := [0]
  mu c := 3 - c
theorem fac_two {x : tabE.T} {a b : Int} : (facR x a b).length = 2 ↔ tFacing x (a, b) ≥ 0 ∧ tFacing x (b, a) ≥ 0 := by
  unfold facR
  rw [List.length_append]
  constructor
  · intro h
    split at h
    · split at h
      · exact ⟨by assumption, by assumption⟩
      · simp at h
    · split at h <;> simp at h
  · rintro ⟨h1, h2⟩; rw [if_pos h1, if_pos h2]; rfl
theorem why_eq {x : tabE.T} (g : Full x) {a b : Int} (h : a = b) : whyR x a b = 1 := by
  subst h; exact why_far (near_self g.toGood a)
theorem why_two {x : tabE.T} {a b : Int} (h : nearR x a b = true) (h1 : tFacing x (a, b) ≥ 0) (h2 : tFacing x (b, a) ≥ 0) (h3 : innerR x a = false) (h4 : innerR x b = false) : whyR x a b = 2 := by
  unfold whyR; rw [h, if_neg (by simp), if_pos ⟨fac_two.2 ⟨h1, h2⟩, h3, h4⟩]
abbrev Not2 (x : tabE.T) (a b : Int) : Prop := ¬ (tFacing x (a, b) ≥ 0 ∧ tFacing x (b, a) ≥ 0 ∧ innerR x a = false ∧ innerR x b = false)
theorem why_rest {x : tabE.T} {a b : Int} (h : nearR x a b = true) (hn : Not2 x a b) : whyR x a b = if whyL (facR x a b) (comR x a b) = false then 3 else if smallR x a then 4 else 0 := by
  unfold whyR; rw [h, if_neg (by simp), if_neg (fun k => hn ⟨(fac_two.1 k.1).1, (fac_two.1 k.1).2, k.2⟩)]
abbrev FacV (x : tabE.T) (a b v : Int) : Prop := (tFacing x (a, b) ≥ 0 ∧ tVert x (tFacing x (a, b)) = v) ∨ (tFacing x (b, a) ≥ 0 ∧ tVert x (tFacing x (b, a)) = v)
theorem why_three {x : tabE.T} {a b : Int} (h : nearR x a b = true) (hn : Not2 x a b) {i : Nat} (hi : whyL (facR x a b) (comR x a b) = whyL (facR x a b) ((comR x a b).drop i)) (hl : i < (comR x a b).length) (hv : ¬ FacV x a b ((comR x a b).getD i 0)) : whyR x a b = 3 := by
  rw [why_rest h hn, if_pos]
  have e : hasI ((comR x a b).getD i 0) (facR x a b) = false := by
    rw [← Bool.not_eq_true]; exact fun k => hv (fac_mem.1 (hasI_iff.1 k))
  rw [hi, drop_now 0 (by omega), whyL, e]; rfl
theorem why_go {x : tabE.T} {a b : Int} {i : Nat} (hi : whyL (facR x a b) (comR x a b) = whyL (facR x a b) ((comR x a b).drop i)) (hl : i < (comR x a b).length) (hv : FacV x a b ((comR x a b).getD i 0)) : whyL (facR x a b) (comR x a b) = whyL (facR x a b) ((comR x a b).drop (i + 1)) := by
  have e : hasI ((comR x a b).getD i 0) (facR x a b) = true := hasI_iff.2 (fac_mem.2 hv)
  rw [hi, drop_now 0 (by omega), whyL, e]; rfl
theorem why_end {x : tabE.T} {a b : Int} (h : nearR x a b = true) (hn : Not2 x a b) {i : Nat} (hi : whyL (facR x a b) (comR x a b) = whyL (facR x a b) ((comR x a b).drop i)) (hl : ¬ i < (comR x a b).length) : whyR x a b = if smallR x a then 4 else 0 := by
  have e : whyL (facR x a b) (comR x a b) = true := by rw [hi, List.drop_eq_nil_of_le (by omega)]; rfl
  rw [why_rest h hn, if_neg (by rw [e]; simp)]
theorem fac_has {x : tabE.T} (g : Full x) {e : Int × Int} (h : tFacing x e ≥ 0) : tHas x (tFacing x e) = true := by
  unfold tFacing at h ⊢
  cases e1 : mget .arr2 x.2.1 e with
  | none => rw [e1] at h; exact absurd h (by decide)
  | some c => exact (g.map _ _ e1).1
theorem smS_0 (x : tabE.T) (m : Int) : smS x m 0 = (0, false) := rfl
theorem small_4 {x : tabE.T} {a : Int} {t : Nat} (ht : t = (ofR x).length) (h : (smS x (smM x a) t).1 = 1 ∨ ((smS x (smM x a) t).1 = 4 ∧ (smS x (smM x a) t).2 = false)) : (if smallR x a then (4 : Int) else 0) = 4 := by
  subst ht
  unfold smallR
  rcases h with h | ⟨h1, h2⟩
  · rw [h]; rfl
  · rw [h1, h2]; rfl
theorem small_0 {x : tabE.T} {a : Int} {t : Nat} (ht : t = (ofR x).length) (h1 : (smS x (smM x a) t).1 ≠ 1) (h : (smS x (smM x a) t).1 ≠ 4 ∨ (smS x (smM x a) t).2 = true) : (if smallR x a then (4 : Int) else 0) = 0 := by
  subst ht
  unfold smallR
  rw [decide_eq_false h1]
  rcases h with h | h
  · rw [decide_eq_false h]; rfl
  · rw [h]; simp
attribute [local irreducible] nearR innerR comR ofR smS smM cor10R
set_option maxHeartbeats 4000000 in
theorem why34_vc (n : Int) (l : List P3) (a b : Int) (x : tabE.T) (h : (n, l) = x.1 ∧ Full x) : afun ⟨tyL, [(49, near34C x), (52, facing10C x), (53, inner10C x), (17, common34C x), (54, vertex10C x), (55, shells10C x), (56, corner10C x), (57, opp10C x)], []⟩ Try.f19 [soupE.av (n, l), i64E.av a, i64E.av b] (fun r => r = .s (.int .i64 (whyR x a b))) := by
  have g := h.2
  have eC := com34_is g a b
  have el : nLen x = l.length := (congrArg (fun s => s.2.length) h.1).symm
  have hlen : nLen x ≤ 8192 := g.fit.2.2.1
  have hofl : (ofR x).length = nLen x := ofR_len g.toGood
  repeat' (conv => whnf
           first | done | refine Need.intro (by first | rfl | omega | (simp only [i64ok] at *; omega)) ?_ | refine Need.intro (Hold.out ?_) ?_ | refine Give.intro fun _ => ?_ | refine Both.intro ?_ ?_ | refine BIf.and ?_ | refine BIf.or ?_ | refine BIf.eqi (fun _ => ?_) (fun _ => ?_) | refine BIf.nei (fun _ => ?_) (fun _ => ?_) | refine BIf.dec (fun _ => ?_) (fun _ => ?_) | refine BIf.nt ?_ | refine BIf.intro (fun _ => ?_) (fun _ => ?_) | ((first | (with_reducible show Or (∃ n, rounds (acode _ (Code.seq (Code.region 9 _ _) _)) _ n _) _) | (with_reducible show Or (∃ n, rounds (acode _ (Code.seq (Code.seq (Code.region 9 _ _) _) _)) _ n _) _) | (with_reducible show Or (∃ n, rounds (acode _ (Code.seq (Code.seq (Code.seq (Code.region 9 _ _) _) _) _)) _ n _) _) | (with_reducible show Or (∃ n, rounds (acode _ (Code.seq (Code.seq (Code.seq (Code.seq (Code.region 9 _ _) _) _) _) _)) _ n _) _) | (with_reducible show Or (∃ n, rounds (acode _ (Code.block _ (Code.seq (Code.region 9 _ _) _))) _ n _) _) | (with_reducible show Or (∃ n, rounds (acode _ (Code.block _ (Code.seq (Code.seq (Code.region 9 _ _) _) _))) _ n _) _) | (with_reducible show Or (∃ n, rounds (acode _ (Code.block _ (Code.seq (Code.seq (Code.seq (Code.region 9 _ _) _) _) _))) _ n _) _) | (with_reducible show Or (∃ n, rounds (acode _ (Code.block _ (Code.seq (Code.seq (Code.seq (Code.seq (Code.region 9 _ _) _) _) _) _))) _ n _) _)); refine Or.inr (Exists.intro (Nat) (Exists.intro (loopW1 x a b) (And.intro (Exists.intro (0) (And.intro (Hold.out ?_) (And.intro ?_ (And.intro ?_ rfl)))) (fun i hi => ?_))))) | ((with_reducible show (∃ y, And (Spec.inv (loopW1 _ _ _) y) _)); refine Exists.intro (i + 1) (And.intro (Hold.out ?_) (And.intro (And.intro ?_ (And.intro ?_ rfl)) (Hold.out ?_)))) | ((first | (with_reducible show Or (∃ n, rounds (acode _ (Code.seq (Code.region 18 _ _) _)) _ n _) _) | (with_reducible show Or (∃ n, rounds (acode _ (Code.seq (Code.seq (Code.region 18 _ _) _) _)) _ n _) _) | (with_reducible show Or (∃ n, rounds (acode _ (Code.seq (Code.seq (Code.seq (Code.region 18 _ _) _) _) _)) _ n _) _) | (with_reducible show Or (∃ n, rounds (acode _ (Code.seq (Code.seq (Code.seq (Code.seq (Code.region 18 _ _) _) _) _) _)) _ n _) _) | (with_reducible show Or (∃ n, rounds (acode _ (Code.block _ (Code.seq (Code.region 18 _ _) _))) _ n _) _) | (with_reducible show Or (∃ n, rounds (acode _ (Code.block _ (Code.seq (Code.seq (Code.region 18 _ _) _) _))) _ n _) _) | (with_reducible show Or (∃ n, rounds (acode _ (Code.block _ (Code.seq (Code.seq (Code.seq (Code.region 18 _ _) _) _) _))) _ n _) _) | (with_reducible show Or (∃ n, rounds (acode _ (Code.block _ (Code.seq (Code.seq (Code.seq (Code.seq (Code.region 18 _ _) _) _) _) _))) _ n _) _)); refine Or.inr (Exists.intro (Nat) (Exists.intro (loopW2 x a) (And.intro (Exists.intro (0) (And.intro (Hold.out ?_) (And.intro ?_ (And.intro ?_ rfl)))) (fun t ht => ?_))))) | ((with_reducible show (∃ y, And (Spec.inv (loopW2 _ _) y) _)); refine Exists.intro (t + 1) (And.intro (Hold.out ?_) (And.intro (And.intro ?_ (And.intro ?_ rfl)) (Hold.out ?_)))) | ((first | (with_reducible show Or (∃ n, rounds (acode _ (Code.seq (Code.region 23 _ _) _)) _ n _) _) | (with_reducible show Or (∃ n, rounds (acode _ (Code.seq (Code.seq (Code.region 23 _ _) _) _)) _ n _) _) | (with_reducible show Or (∃ n, rounds (acode _ (Code.seq (Code.seq (Code.seq (Code.region 23 _ _) _) _) _)) _ n _) _) | (with_reducible show Or (∃ n, rounds (acode _ (Code.seq (Code.seq (Code.seq (Code.seq (Code.region 23 _ _) _) _) _) _)) _ n _) _) | (with_reducible show Or (∃ n, rounds (acode _ (Code.block _ (Code.seq (Code.region 23 _ _) _))) _ n _) _) | (with_reducible show Or (∃ n, rounds (acode _ (Code.block _ (Code.seq (Code.seq (Code.region 23 _ _) _) _))) _ n _) _) | (with_reducible show Or (∃ n, rounds (acode _ (Code.block _ (Code.seq (Code.seq (Code.seq (Code.region 23 _ _) _) _) _))) _ n _) _) | (with_reducible show Or (∃ n, rounds (acode _ (Code.block _ (Code.seq (Code.seq (Code.seq (Code.seq (Code.region 23 _ _) _) _) _) _))) _ n _) _)); refine Or.inr (Exists.intro (Nat) (Exists.intro (loopW3 x a t) (And.intro (Exists.intro (0) (And.intro (Hold.out ?_) (And.intro ?_ (And.intro ?_ rfl)))) (fun c hc => ?_))))) | ((with_reducible show (∃ y, And (Spec.inv (loopW3 _ _ _) y) _)); refine Exists.intro (c + 1) (And.intro (Hold.out ?_) (And.intro (And.intro ?_ (And.intro ?_ rfl)) (Hold.out ?_)))) | refine And.intro rfl ?_ | refine And.intro (HoldEq.out ?_) ?_ | refine And.intro (HoldOb.out ?_) ?_ | exact True.intro | refine HoldEq.out ?_ | refine HoldObs.out ?_ | refine KCheck.intro (by kernel_rfl) ?_ | refine HoldOr.out ?_)
  all_goals try first | refine HoldEq.int ?_ | refine HoldEq.bool ?_ | refine HoldEq.sl ?_ | refine HoldEq.own ?_ | refine HoldEq.ownS ?_ ?_ | refine HoldOb.row ?_ | refine HoldOb.map ?_ | refine HoldOb.gmap ?_ | refine HoldOb.grow ?_ | refine HoldObs.row ?_
  all_goals try simp only [take_one, take_one', set_one, take_all, List.length_singleton, rec_self, Int.toNat_natCast, pair_eta, ETy.dflt, List.getD_cons_zero, List.getD_cons_succ, Int.reduceToNat, Int.reduceAdd, Int.reduceSub, Int.reduceNeg, Nat.reduceAdd, Nat.zero_add, loopW1, loopW2, loopW3] at *
  all_goals try exact (why_eq g (by assumption)).symm
  all_goals try exact (why_far (by assumption)).symm
  all_goals try exact (why_two (by assumption) (by assumption) (by assumption) (by assumption) (by assumption)).symm
  all_goals have hnear : nearR x a b = true := by assumption
  all_goals have hab := near_in g.toGood hnear
  all_goals try exact Hold.intro ⟨h.1, g, hab.1.1, hab.1.2⟩
  all_goals try exact Hold.intro ⟨h.1, g, hab.2.1, hab.2.2⟩
  all_goals try exact Hold.intro ⟨Nat.zero_le _, rfl⟩
  all_goals try exact Hold.intro ⟨h.1, g.toGood, fac_has g (by assumption)⟩
  all_goals try (have hi0 : (i : Int) < (com34 x a b).length := by assumption
                 rw [eC] at hi0)
  all_goals have not2 : Not2 x a b := by
              rintro ⟨k1, k2, k3, k4⟩
              first
              | exact absurd k1 (by assumption)
              | exact absurd k2 (by assumption)
              | exact Bool.noConfusion (k3.symm.trans (show innerR x a = true by assumption))
              | exact Bool.noConfusion (k4.symm.trans (show innerR x b = true by assumption))
  all_goals try
    have hv : ¬ FacV x a b ((com34 x a b).getD i 0) := by
      rintro (⟨k1, k2⟩ | ⟨k1, k2⟩) <;> first | exact absurd k1 (by assumption) | exact absurd k2 (by assumption)
    rw [eC] at hv
    exact (why_three hnear not2 hi.2 (by omega) hv).symm
  all_goals try
    have hv : FacV x a b ((com34 x a b).getD i 0) := by first | exact .inl ⟨by assumption, by assumption⟩ | exact .inr ⟨by assumption, by assumption⟩
    rw [eC] at hv
    exact Hold.intro ⟨by omega, why_go hi.2 (by omega) hv⟩
  all_goals try (refine Hold.intro ?_; omega)
  all_goals
    have hi2 : ¬ (i : Int) < (com34 x a b).length := by assumption
    rw [eC] at hi2
    have hW := why_end hnear not2 hi.2 (by omega)
    have hc10 := cor10_is g hab.1.1 hab.1.2
    have hct := tHas_iff.1 hc10.1
    have hct2 : cor10R x a < 3 * (nLen x : Int) := hct.2
    have hcd : (cor10R x a).tdiv 3 = cor10R x a / 3 := td3 hct.1
    have hlab := label_at g hab.1.1 hab.1.2
  all_goals try (rw [smS_0]; done)
  all_goals try (rw [smS_0]; rfl)
  all_goals try (refine Hold.intro ⟨by decide, ?_⟩; rw [hcd]; unfold i64ok; omega)
  all_goals try (refine Hold.intro ?_; rw [hcd, hofl]; exact ⟨by omega, by omega⟩)
  all_goals try have hm := smS_le x (smM x a) t
  all_goals try (refine Hold.intro ?_; unfold i64ok; omega)
  all_goals try exact Hold.intro ⟨h.1, g, tHas_iff.2 ⟨by omega, by show 3 * (t : Int) + c < 3 * (nLen x : Int); omega⟩⟩
  all_goals try
    have hb : irec (smC x t) (smS x (smM x a) t).2 c = true := by assumption
    rw [smC_s, hb]
    rfl
  all_goals try
    have hb : irec (smC x t) (smS x (smM x a) t).2 c = false := by assumption
    rw [smC_s, hb]
    by_cases k : tOpp x (3 * t + c) < 0
    · rw [decide_eq_true k, decide_eq_false (by omega)]; rfl
    · rw [decide_eq_false k, decide_eq_true (by omega)]; rfl
  all_goals try
    have hy : (ofR x).getD t 0 = (ofR x).getD ((cor10R x a).tdiv 3).toNat 0 := by assumption
    rw [hcd, hlab] at hy
    rw [smS_yes hy]
    (try rw [show c = 3 by omega])
  all_goals try
    have hy : (ofR x).getD t 0 ≠ (ofR x).getD ((cor10R x a).tdiv 3).toNat 0 := by assumption
    rw [hcd, hlab] at hy
    rw [smS_no hy]
  all_goals have et : t = (ofR x).length := by omega
  all_goals rw [hW]
  all_goals first
    | (rw [small_4 et (.inl (by assumption))]; done)
    | (rw [small_4 et (.inr ⟨by assumption, by assumption⟩)]; done)
    | (rw [small_0 et (by assumption) (.inr (by assumption))]; done)
    | (rw [small_0 et (by assumption) (.inl (by assumption))]; done)
def why34C (x : tabE.T) : List AV → Option Res := con3 soupE i64E i64E (fun s a b => some (none, some (s = x.1 ∧ Full x), .s (.int .i64 (whyR x a b))))
theorem why34Row (x : tabE.T) : FnRow Try.prog 19 (why34C x) := ⟨con3_ok fun s a b r h => by
  cases h; exact fn_by (rulesF (fn := [(49, near34C x), (52, facing10C x), (53, inner10C x), (17, common34C x), (54, vertex10C x), (55, shells10C x), (56, corner10C x), (57, opp10C x)]) (fr := []) ⟨(near34Row x), (facing10Row x), (inner10Row x), (common34Row x), (vertex10Row x), (shells10Row x), (corner10Row x), (opp10Row x), trivial⟩ trivial) Try.func19 (by kernel_rfl) fun _ h => why34_vc s.1 s.2 a b x h, _, Try.func19, by kernel_rfl, by kernel_rfl⟩
end S1

open Go Go.Vm Go.Proofs
namespace S1
set_option maxRecDepth 100000

/-! LinkWhy -/
def loopLW (x : tabE.T) (a b : Int) : Spec Nat where
  inv i := i ≤ (comR x a b).length
  live i := [(33, .s (.int .i64 i))]
  keep := [1, 2, 3, 7, 8, 9, 31, 32]
  heap _ := []
  keepH := [0]
  mu i := (comR x a b).length - i
attribute [local irreducible] comR whyR
set_option maxHeartbeats 4000000 in
theorem lawLW_vc (n : Int) (l : List P3) (a b : Int) (x : tabE.T) (hx : laidO (n, l) = some x) : afun ⟨tyL, [(14, awake34C), (15, laidXC x), (16, comC), (17, common34C x), (18, whyC), (19, why34C x), (20, mayC)], []⟩ Try.f3 [soupE.av (n, l), i64E.av a, i64E.av b] (fun r => r = .s (.bool true)) := by
  obtain ⟨h1, g, hs, _⟩ := laid_full hx
  have e1 : (n, l) = x.1 := by rw [h1]; rfl
  have eC := com34_is g a b
  repeat' (conv => whnf
           first | done | refine Need.intro (by first | rfl | omega | (simp only [i64ok] at *; omega)) ?_ | refine Need.intro (Hold.out ?_) ?_ | refine Give.intro fun _ => ?_ | refine Both.intro ?_ ?_ | refine BIf.and ?_ | refine BIf.or ?_ | refine BIf.eqi (fun _ => ?_) (fun _ => ?_) | refine BIf.nei (fun _ => ?_) (fun _ => ?_) | refine BIf.dec (fun _ => ?_) (fun _ => ?_) | refine BIf.nt ?_ | refine BIf.intro (fun _ => ?_) (fun _ => ?_) | ((first | (with_reducible show Or (∃ n, rounds (acode _ (Code.seq (Code.region 10 _ _) _)) _ n _) _) | (with_reducible show Or (∃ n, rounds (acode _ (Code.seq (Code.seq (Code.region 10 _ _) _) _)) _ n _) _) | (with_reducible show Or (∃ n, rounds (acode _ (Code.seq (Code.seq (Code.seq (Code.region 10 _ _) _) _) _)) _ n _) _) | (with_reducible show Or (∃ n, rounds (acode _ (Code.seq (Code.seq (Code.seq (Code.seq (Code.region 10 _ _) _) _) _) _)) _ n _) _) | (with_reducible show Or (∃ n, rounds (acode _ (Code.block _ (Code.seq (Code.region 10 _ _) _))) _ n _) _) | (with_reducible show Or (∃ n, rounds (acode _ (Code.block _ (Code.seq (Code.seq (Code.region 10 _ _) _) _))) _ n _) _) | (with_reducible show Or (∃ n, rounds (acode _ (Code.block _ (Code.seq (Code.seq (Code.seq (Code.region 10 _ _) _) _) _))) _ n _) _) | (with_reducible show Or (∃ n, rounds (acode _ (Code.block _ (Code.seq (Code.seq (Code.seq (Code.seq (Code.region 10 _ _) _) _) _) _))) _ n _) _)); refine Or.inr (Exists.intro (Nat) (Exists.intro (loopLW x a b) (And.intro (Exists.intro (0) (And.intro (Hold.out ?_) (And.intro ?_ (And.intro ?_ rfl)))) (fun i hi => ?_))))) | ((with_reducible show (∃ y, And (Spec.inv (loopLW _ _ _) y) _)); refine Exists.intro (i + 1) (And.intro (Hold.out ?_) (And.intro (And.intro ?_ (And.intro ?_ rfl)) (Hold.out ?_)))) | refine And.intro rfl ?_ | refine And.intro (HoldEq.out ?_) ?_ | refine And.intro (HoldOb.out ?_) ?_ | exact True.intro | refine HoldEq.out ?_ | refine HoldObs.out ?_ | refine KCheck.intro (by kernel_rfl) ?_ | refine HoldOr.out ?_)
  all_goals try first | refine HoldEq.int ?_ | refine HoldEq.bool ?_ | refine HoldEq.sl ?_ | refine HoldEq.own ?_ | refine HoldEq.ownS ?_ ?_ | refine HoldOb.row ?_ | refine HoldOb.map ?_ | refine HoldOb.gmap ?_ | refine HoldOb.grow ?_ | refine HoldObs.row ?_
  all_goals try simp only [take_one, take_one', set_one, take_all, List.length_singleton, rec_self, Int.toNat_natCast, pair_eta, ETy.dflt, List.getD_cons_zero, List.getD_cons_succ, Int.reduceToNat, Int.reduceAdd, Int.reduceSub, Int.reduceNeg, Nat.reduceAdd, Nat.zero_add, loopLW] at *
  all_goals try exact Hold.intro (fun y e => by cases e; exact g.toGood)
  all_goals try exact Hold.intro ⟨e1, g⟩
  all_goals try have hi1 : (i : Int) < (comR x a b).length := by assumption
  all_goals try (refine Hold.intro ?_; omega)
  · exact absurd (show (((comR x a b).length : Nat) : Int) = (com34 x a b).length by rw [eC]) (by assumption)
  · exact absurd (show (comR x a b).getD i 0 = (com34 x a b).getD i 0 by rw [eC]) (by assumption)
  · exact beq_self_eq_true _
  · exact absurd (show whyR x a b = whyR x a b from rfl) (by assumption)
theorem lawLW0_vc (n : Int) (l : List P3) (a b : Int) (hx : laidO (n, l) = none) : afun ⟨tyL, [(14, awake34C), (15, laidNC), (16, comC), (18, whyC), (20, mayC)], []⟩ Try.f3 [soupE.av (n, l), i64E.av a, i64E.av b] (fun r => r = .s (.bool true)) := by
  repeat' (conv => whnf
           first | done | refine Need.intro (by first | rfl | omega | (simp only [i64ok] at *; omega)) ?_ | refine Need.intro (Hold.out ?_) ?_ | refine Give.intro fun _ => ?_ | refine Both.intro ?_ ?_ | refine BIf.and ?_ | refine BIf.or ?_ | refine BIf.eqi (fun _ => ?_) (fun _ => ?_) | refine BIf.nei (fun _ => ?_) (fun _ => ?_) | refine BIf.dec (fun _ => ?_) (fun _ => ?_) | refine BIf.nt ?_ | refine BIf.intro (fun _ => ?_) (fun _ => ?_) | refine And.intro rfl ?_ | refine And.intro (HoldEq.out ?_) ?_ | refine And.intro (HoldOb.out ?_) ?_ | exact True.intro | refine HoldEq.out ?_ | refine HoldObs.out ?_ | refine KCheck.intro (by kernel_rfl) ?_ | refine HoldOr.out ?_)
  all_goals try first | refine HoldEq.int ?_ | refine HoldEq.bool ?_ | refine HoldEq.sl ?_ | refine HoldEq.own ?_ | refine HoldEq.ownS ?_ ?_ | refine HoldOb.row ?_ | refine HoldOb.map ?_ | refine HoldOb.gmap ?_ | refine HoldOb.grow ?_ | refine HoldObs.row ?_
  all_goals try simp only [take_one, take_one', set_one, take_all, List.length_singleton, rec_self, Int.toNat_natCast, pair_eta, ETy.dflt, List.getD_cons_zero, List.getD_cons_succ, Int.reduceToNat, Int.reduceAdd, Int.reduceSub, Int.reduceNeg, Nat.reduceAdd, Nat.zero_add] at *
  all_goals exact Hold.intro hx
def lawLWC : List AV → Option Res := con3 soupE i64E i64E (fun _ _ _ => some (none, none, .s (.bool true)))
theorem lawLWRow : FnRow Try.prog 3 lawLWC := ⟨con3_ok fun s a b r h => by
  cases h
  cases hx : laidO s with
  | none => exact fn_by (rulesF (fn := [(14, awake34C), (15, laidNC), (16, comC), (18, whyC), (20, mayC)]) (fr := []) ⟨awake34Row, laidNRow, comRow, whyRow, mayRow, trivial⟩ trivial) Try.func3 (by kernel_rfl) fun _ _ => lawLW0_vc s.1 s.2 a b hx
  | some x => exact fn_by (rulesF (fn := [(14, awake34C), (15, laidXC x), (16, comC), (17, common34C x), (18, whyC), (19, why34C x), (20, mayC)]) (fr := []) ⟨awake34Row, (laidXRow x), comRow, (common34Row x), whyRow, (why34Row x), mayRow, trivial⟩ trivial) Try.func3 (by kernel_rfl) fun _ _ => lawLW_vc s.1 s.2 a b x hx, _, Try.func3, by kernel_rfl, by kernel_rfl⟩
end S1
