/- A part of the proofs of the laws of this seat: contracts of functions, each for every input that its text names. -/
import Derived.Test.YtbbpofkacdmjnaaF3toU1
set_option linter.unusedSimpArgs false
set_option linter.unusedVariables false
set_option maxHeartbeats 2000000
open Go Go.Vm Go.Proofs
namespace S1
set_option maxRecDepth 100000

/-! where a surface ends -/
theorem aroundF_endF {x : tabE.T} (g : Good x) {b : Int} : ∀ n k, k + n = 30000 → FInv (tAfter x) b k → ∃ y ∈ aroundF x b n (iter (tAfter x) b k), tAfter x y < 0 ∨ tAfter x y = b
  | 0, k, e, h => by have := fin_after g h; omega
  | n + 1, k, e, h => by
    unfold aroundF
    by_cases h1 : tAfter x (iter (tAfter x) b k) < 0
    · rw [if_pos h1]; exact ⟨_, List.mem_singleton.2 rfl, .inl h1⟩
    · rw [if_neg h1]
      by_cases h2 : tAfter x (iter (tAfter x) b k) = b
      · rw [if_pos h2]; exact ⟨_, List.mem_singleton.2 rfl, .inr h2⟩
      · rw [if_neg h2]
        obtain ⟨y, hy, h3⟩ := aroundF_endF g n (k + 1) (by omega) (h.succ h1 h2)
        exact ⟨y, List.mem_cons_of_mem _ hy, h3⟩
section
variable {x : tabE.T} {c d : Int}
theorem Full.last_one (g : Full x) (hc : tHas x c = true) (hd : tHas x d = true) (e : tVert x c = tVert x d) (h1 : tAfter x c < 0) (h2 : tAfter x d < 0) : c = d := by
  have hv := tVert_in g.fit hc
  obtain ⟨b, _, eL, _⟩ := g.around hv.1 hv.2
  have k1 := g.around_all hc
  have k2 := g.around_all hd
  rw [← e] at k2
  rw [eL] at k1 k2
  rw [← aroundF_last _ _ c k1 h1, ← aroundF_last _ _ d k2 h2]
theorem Full.first_is (g : Full x) (hc : tHas x c = true) (h1 : tBefore x c < 0) : (firstR x (tVert x c)).1 = c := by
  have hv := tVert_in g.fit hc
  obtain ⟨b, eb, eL, _⟩ := g.around hv.1 hv.2
  have k1 := g.around_all hc
  rw [eL] at k1
  have := aroundF_all (x := x) (b := b) (fun y => y = b ∨ 0 ≤ tBefore x y) (fun y _ ha => .inr (by rw [g.before_after ha]; exact (tHas_iff.1 (g.after_has ha).1).1)) _ _ (.inl rfl) c k1
  rw [eb]
  rcases this with h | h
  · exact h.symm
  · omega
theorem Full.first_one (g : Full x) (hc : tHas x c = true) (hd : tHas x d = true) (e : tVert x c = tVert x d) (h1 : tBefore x c < 0) (h2 : tBefore x d < 0) : c = d := by
  rw [← g.first_is hc h1, ← g.first_is hd h2, e]
theorem Full.last_of_first (g : Full x) (hc : tHas x c = true) (h1 : tBefore x c < 0) : ∃ y, tHas x y = true ∧ tVert x y = tVert x c ∧ tAfter x y < 0 := by
  have hv := tVert_in g.fit hc
  obtain ⟨b, eb, eL, _, _, _, hall, _⟩ := g.around hv.1 hv.2
  obtain ⟨y, hy, h⟩ := aroundF_endF g.toGood (b := b) 30000 0 rfl (fun j a b => by omega)
  have hy : y ∈ aroundL (some x) (tVert x c) := by rw [eL]; exact hy
  obtain ⟨k1, k2⟩ := hall y hy
  rcases h with h | h
  · exact ⟨y, k1, k2, h⟩
  · have hb := g.first_is hc h1
    rw [eb] at hb
    rw [hb] at h
    have := g.before_after (c := y) (by rw [h]; exact (tHas_iff.1 hc).1)
    rw [h] at this
    have := (tHas_iff.1 k1).1
    omega
theorem Full.first_of_last (g : Full x) (hc : tHas x c = true) (h1 : tAfter x c < 0) : ∃ y, tHas x y = true ∧ tVert x y = tVert x c ∧ tBefore x y < 0 := by
  have hv := tVert_in g.fit hc
  obtain ⟨b, eb, eL, hb1, hb2, _, _, _, _, hend⟩ := g.around hv.1 hv.2
  rcases hend with h | h
  · exact ⟨b, hb1, hb2, h.2⟩
  · have := h.2 c (g.around_all hc); omega
end
/-- A border edge. -/
def bE (x : tabE.T) (w u : Int) : Prop := ∃ c, tHas x c = true ∧ tOpp x c < 0 ∧ tEdge x c = (w, u)
section
variable {x : tabE.T}
theorem bE_last (g : Full x) {w u : Int} (h : bE x w u) : ∃ d, tHas x d = true ∧ tVert x d = u ∧ tAfter x d < 0 ∧ tVert x (tPrev x d) = w := by
  obtain ⟨c, h1, h2, h3⟩ := h
  refine ⟨tPrev x c, (hasNP h1).2, congrArg Prod.snd h3, ?_, by rw [(np h1).2.2.2]; exact congrArg Prod.fst h3⟩
  unfold tAfter; rw [(np h1).1, if_pos h2]; decide
theorem bE_first (g : Full x) {w u : Int} (h : bE x w u) : ∃ d, tHas x d = true ∧ tVert x d = w ∧ tBefore x d < 0 ∧ tVert x (tNext x d) = u := by
  obtain ⟨c, h1, h2, h3⟩ := h
  refine ⟨tNext x c, (hasNP h1).1, congrArg Prod.fst h3, ?_, by rw [(np h1).2.2.1]; exact congrArg Prod.snd h3⟩
  unfold tBefore; rw [(np h1).2.1, if_pos h2]; decide
theorem last_bE (g : Full x) {d : Int} (h : tHas x d = true) (ha : tAfter x d < 0) : bE x (tVert x (tPrev x d)) (tVert x d) := by
  refine ⟨tNext x d, (hasNP h).1, ?_, edgeN h⟩
  by_cases e : tOpp x (tNext x d) < 0
  · exact e
  · unfold tAfter at ha
    rw [if_neg e] at ha
    have := (tHas_iff.1 (hasNP (g.opp (d := tNext x d) (by omega)).2.1).1).1
    omega
theorem first_bE (g : Full x) {d : Int} (h : tHas x d = true) (ha : tBefore x d < 0) : bE x (tVert x d) (tVert x (tNext x d)) := by
  refine ⟨tPrev x d, (hasNP h).2, ?_, edgeP h⟩
  by_cases e : tOpp x (tPrev x d) < 0
  · exact e
  · unfold tBefore at ha
    rw [if_neg e] at ha
    have := (tHas_iff.1 (hasNP (g.opp (d := tPrev x d) (by omega)).2.1).2).1
    omega
theorem bE_left (g : Full x) {w w' u : Int} (h : bE x w u) (k : bE x w' u) : w = w' := by
  obtain ⟨d, d1, d2, d3, d4⟩ := bE_last g h
  obtain ⟨e, e1, e2, e3, e4⟩ := bE_last g k
  rw [← d4, ← e4, g.last_one d1 e1 (d2.trans e2.symm) d3 e3]
theorem bE_right (g : Full x) {w u u' : Int} (h : bE x w u) (k : bE x w u') : u = u' := by
  obtain ⟨d, d1, d2, d3, d4⟩ := bE_first g h
  obtain ⟨e, e1, e2, e3, e4⟩ := bE_first g k
  rw [← d4, ← e4, g.first_one d1 e1 (d2.trans e2.symm) d3 e3]
theorem bE_next (g : Full x) {w u : Int} (h : bE x w u) : ∃ z, bE x z w := by
  obtain ⟨d, d1, d2, d3, d4⟩ := bE_first g h
  obtain ⟨y, y1, y2, y3⟩ := g.last_of_first d1 d3
  have := last_bE g y1 y3
  rw [y2, d2] at this
  exact ⟨_, this⟩
theorem bE_prev (g : Full x) {w u : Int} (h : bE x w u) : ∃ z, bE x u z := by
  obtain ⟨d, d1, d2, d3, d4⟩ := bE_last g h
  obtain ⟨y, y1, y2, y3⟩ := g.first_of_last d1 d3
  have := first_bE g y1 y3
  rw [y2, d2] at this
  exact ⟨_, this⟩
theorem bE_in (g : Full x) {w u : Int} (h : bE x w u) : (0 ≤ w ∧ w < x.1.1) ∧ (0 ≤ u ∧ u < x.1.1) ∧ w ≠ u := by
  obtain ⟨c, h1, h2, h3⟩ := h
  have e1 : tVert x (tNext x c) = w := congrArg Prod.fst h3
  have e2 : tVert x (tPrev x c) = u := congrArg Prod.snd h3
  have k1 := tVert_in g.fit (hasNP h1).1
  have k2 := tVert_in g.fit (hasNP h1).2
  have k3 := (g.ne h1).2.2
  rw [e1] at k1 k3; rw [e2] at k2 k3
  exact ⟨k1, k2, k3⟩
theorem edgR_mem {e : Int × Int} : e ∈ edgR x ↔ bE x e.1 e.2 := by
  unfold edgR
  rw [List.mem_filterMap]
  constructor
  · rintro ⟨c, hc, h⟩
    have hc := List.mem_range.1 hc
    unfold edgG at h
    split at h
    · rename_i ho
      cases h
      exact ⟨c, tHas_iff.2 ⟨by omega, by omega⟩, ho, rfl⟩
    · cases h
  · rintro ⟨c, h1, h2, h3⟩
    have hc := tHas_iff.1 h1
    have e1 : ((c.toNat : Nat) : Int) = c := by omega
    refine ⟨c.toNat, List.mem_range.2 (by omega), ?_⟩
    unfold edgG
    rw [e1, if_pos h2, h3]
end
theorem behK_get (es : List (Int × Int)) (u : Int) : ∀ k, (∀ w, mget i64E (behK es k) u = some w → ∃ j, j < k ∧ es.getD j (0, 0) = (w, u)) ∧ ((∃ j, j < k ∧ (es.getD j (0, 0)).2 = u) → (mget i64E (behK es k) u).isSome = true)
  | 0 => ⟨fun w h => (by cases h), fun ⟨j, h, _⟩ => by omega⟩
  | k + 1 => by
    obtain ⟨h1, h2⟩ := behK_get es u k
    have e : behK es (k + 1) = mset i64E (behK es k) (es.getD k (0, 0)).2 (es.getD k (0, 0)).1 := rfl
    rw [e]
    by_cases he : (es.getD k (0, 0)).2 = u
    · rw [he, mget_same]
      exact ⟨fun w hw => ⟨k, by omega, by injection hw with hw; exact Prod.ext hw he⟩, fun _ => rfl⟩
    · rw [mget_other _ he]
      refine ⟨fun w hw => ?_, fun ⟨j, hj, hju⟩ => h2 ⟨j, ?_, hju⟩⟩
      · obtain ⟨j, hj, e⟩ := h1 w hw
        exact ⟨j, by omega, e⟩
      · by_cases e : j = k
        · subst e; exact absurd hju he
        · omega
theorem beh_iff {x : tabE.T} (g : Full x) {w u : Int} : mget i64E (behO (some x)) u = some w ↔ bE x w u := by
  obtain ⟨h1, h2⟩ := behK_get (edgR x) u (edgR x).length
  have mem : ∀ j, j < (edgR x).length → (edgR x).getD j (0, 0) ∈ edgR x := fun j hj => by
    rw [List.getD_eq_getElem?_getD, List.getElem?_eq_getElem hj]; exact List.getElem_mem hj
  have fw : ∀ w, mget i64E (behO (some x)) u = some w → bE x w u := fun w h => by
    obtain ⟨j, hj, e⟩ := h1 w h
    have := edgR_mem.1 (mem j hj)
    rw [e] at this; exact this
  refine ⟨fw w, fun h => ?_⟩
  obtain ⟨j, hj, e⟩ := List.mem_iff_getElem.1 ((edgR_mem (x := x) (e := (w, u))).2 h)
  have := h2 ⟨j, hj, by rw [List.getD_eq_getElem?_getD, List.getElem?_eq_getElem hj]; show ((edgR x)[j]).2 = u; rw [e]⟩
  have e3 : behO (some x) = behK (edgR x) (edgR x).length := rfl
  rw [← e3] at this
  cases h4 : mget i64E (behO (some x)) u with
  | none => rw [h4] at this; cases this
  | some w' => rw [bE_left g h (fw w' h4)]
theorem nxt_is {x : tabE.T} (g : Full x) {w u : Int} (h : bE x w u) : nxt (behO (some x)) u = w := by
  unfold nxt; rw [(beh_iff g).2 h]; rfl
/-- Round a border loop. -/
theorem walk_fin {x : tabE.T} (g : Full x) {v : Int} (hv : ∃ w, bE x w v) {k : Nat} (h : ∀ j, 1 ≤ j → j ≤ k → iter (nxt (behO (some x))) v j ≠ v) : k ≤ 4096 := by
  have key : ∀ j, ∃ w, bE x w (iter (nxt (behO (some x))) v j) := fun j => by
    induction j with
    | zero => exact hv
    | succ j ih =>
      obtain ⟨w, hw⟩ := ih
      show ∃ w, bE x w (nxt (behO (some x)) (iter (nxt (behO (some x))) v j))
      rw [nxt_is g hw]
      exact bE_next g hw
  let f : Int → Int := fun u => (mget i64E (behO (some x)) u).getD (-1)
  have hf : ∀ j, iter f v j = iter (nxt (behO (some x))) v j := fun j => by
    induction j with
    | zero => rfl
    | succ j ih =>
      obtain ⟨w, hw⟩ := key j
      show f (iter f v j) = nxt _ _
      rw [ih, nxt_is g hw]
      show (mget i64E (behO (some x)) _).getD (-1) = w
      rw [(beh_iff g).2 hw]; rfl
  have fsome : ∀ c, 0 ≤ f c → bE x (f c) c := fun c hc => by
    cases e : mget i64E (behO (some x)) c with
    | none => have : f c = -1 := by show (mget i64E (behO (some x)) c).getD (-1) = -1; rw [e]; rfl
              omega
    | some w =>
      have : f c = w := by show (mget i64E (behO (some x)) c).getD (-1) = w; rw [e]; rfl
      rw [this]; exact (beh_iff g).1 e
  have hn := g.fit
  have := pig (f := f) (L := x.1.1.toNat) (c := v) (k := k) (fun c hc => by have := (bE_in g (fsome c hc)).1; omega) (fun a b ha e => by
    have k1 := fsome a ha
    have k2 := fsome b (by omega)
    rw [← e] at k2
    exact bE_right g k1 k2) (fun j h1 h2 => by
    rw [hf]
    obtain ⟨w, hw⟩ := key j
    exact ⟨(bE_in g hw).2.1.1, h j h1 h2⟩)
  have h1 : x.1.1 ≤ 4096 := hn.2.1
  have h2 : x.1.1.toNat ≤ 4096 := Int.toNat_le_toNat h1
  exact Nat.le_trans this h2
theorem walk_key {x : tabE.T} (g : Full x) {v : Int} (hv : ∃ w, bE x w v) : ∀ j, ∃ w, bE x w (iter (nxt (behO (some x))) v j)
  | 0 => hv
  | j + 1 => by
    obtain ⟨w, hw⟩ := walk_key g hv j
    show ∃ w, bE x w (nxt (behO (some x)) (iter (nxt (behO (some x))) v j))
    rw [nxt_is g hw]
    exact bE_next g hw
end S1

open Go Go.Vm Go.Proofs
namespace S1
set_option maxRecDepth 100000

/-! border.Walk's sequence; slices.Collect of it; border.Loops -/
theorem walkF_step {m : NxM} {v u : Int} {k : Nat} (h : k ≤ 4096) : walkF m v (10000 - k) u = if u = v then [] else u :: walkF m v (10000 - (k + 1)) (nxt m u) := by
  rw [show 10000 - k = (10000 - (k + 1)) + 1 by omega]; rfl
def loopWk (m : NxM) (v : Int) : Spec Nat where
  inv k := (∀ j, 1 ≤ j → j ≤ k → iter (nxt m) v j ≠ v) ∧ (walkF m v 10000 (nxt m v)).drop k = walkF m v (10000 - k) (iter (nxt m) v (k + 1))
  live k := [(5, .s (.int .i64 (iter (nxt m) v (k + 1))))]
  keep := [0, 1, 2, 4]
  heap _ := []
  keepH := []
  mu k := 10000 - k
theorem walkY_vc (x : tabE.T) (v : Int) (g : Full x) : afunY ⟨tyL, [(100, behindC)], []⟩ Try.f99 [⟨.pt tabE, some x⟩, ⟨i64E, v⟩] (walkL (some x) v) := by
  repeat' (conv => whnf
           first | done | refine Need.intro (by first | rfl | omega | (simp only [i64ok] at *; omega)) ?_ | refine Need.intro (Hold.out ?_) ?_ | refine Give.intro fun _ => ?_ | refine Both.intro ?_ ?_ | refine BIf.and ?_ | refine BIf.or ?_ | refine BIf.eqi (fun _ => ?_) (fun _ => ?_) | refine BIf.nei (fun _ => ?_) (fun _ => ?_) | refine BIf.dec (fun _ => ?_) (fun _ => ?_) | refine BIf.nt ?_ | refine BIf.intro (fun _ => ?_) (fun _ => ?_) | refine (fun (l : Nat) => ?_) | refine Exists.intro Nat (Exists.intro (loopWk (behO (some x)) v) (Exists.intro (fun k => v :: (walkF (behO (some x)) v 10000 (nxt (behO (some x)) v)).take k) (And.intro (Exists.intro 0 (And.intro (Hold.out ?_) (And.intro (HoldX.out ?_) (And.intro ?_ (And.intro ?_ rfl))))) (fun k hk => ?_)))) | ((with_reducible show (∃ y, And (Spec.inv (loopWk _ _) y) _)); refine Exists.intro (k + 1) (And.intro (Hold.out ?_) (And.intro (HoldX.out ?_) (And.intro (And.intro ?_ (And.intro ?_ rfl)) (Hold.out ?_))))) | refine And.intro (Hold.out (p := (_ ++ [_]) <+: _) ?_) ?_ | refine HoldX.out ?_ | refine And.intro rfl ?_ | refine And.intro (HoldEq.out ?_) ?_ | refine And.intro (HoldOb.out ?_) ?_ | exact True.intro | refine HoldEq.out ?_ | refine HoldObs.out ?_ | refine KCheck.intro (by kernel_rfl) ?_ | refine HoldOr.out ?_)
  all_goals try first | refine HoldEq.int ?_ | refine HoldEq.bool ?_ | refine HoldEq.sl ?_ | refine HoldEq.own ?_ | refine HoldEq.ownS ?_ ?_ | refine HoldOb.row ?_ | refine HoldOb.map ?_ | refine HoldOb.gmap ?_ | refine HoldOb.grow ?_ | refine HoldObs.row ?_
  all_goals try simp only [take_one, take_one', set_one, take_all, List.length_singleton, rec_self, Int.toNat_natCast, pair_eta, ETy.dflt, List.getD_cons_zero, List.getD_cons_succ, Int.reduceToNat, Int.reduceAdd, Int.reduceSub, Int.reduceNeg, Nat.reduceAdd, Nat.zero_add, loopWk] at *
  · exact Hold.intro (fun y h => by cases h; exact g.toGood)
  all_goals try
    have hsome : (mget i64E (behO (some x)) v).isSome = true := by assumption
  all_goals try
    have hw : ∃ w, bE x w v := by
      cases e : mget i64E (behO (some x)) v with
      | none => rw [e] at hsome; cases hsome
      | some w => exact ⟨w, (beh_iff g).1 e⟩
  all_goals try have hL : walkL (some x) v = v :: walkF (behO (some x)) v 10000 (nxt (behO (some x)) v) := by unfold walkL; rw [if_pos hsome]
  · rw [hL]; exact Hold.intro ⟨_, rfl⟩
  · exact Hold.intro ⟨fun j a b => by omega, rfl⟩
  · exact HoldX.intro rfl
  all_goals try have h24 := walk_fin g hw hk.1
  · have hne : iter (nxt (behO (some x))) v (k + 1) ≠ v := by assumption
    rw [hL]
    have := hk.2
    rw [walkF_step h24, if_neg hne] at this
    exact Hold.intro (take_pre (L := v :: walkF (behO (some x)) v 10000 (nxt (behO (some x)) v)) (k := k + 1) this)
  · have hne : iter (nxt (behO (some x))) v (k + 1) ≠ v := by assumption
    have := hk.2
    rw [walkF_step h24, if_neg hne] at this
    refine Hold.intro ⟨fun j a b => ?_, (take_drop this).2⟩
    by_cases e : j = k + 1
    · subst e; exact hne
    · exact hk.1 j a (by omega)
  · have hne : iter (nxt (behO (some x))) v (k + 1) ≠ v := by assumption
    have := hk.2
    rw [walkF_step h24, if_neg hne] at this
    exact HoldX.intro (by rw [(take_drop this).1]; rfl)
  · refine Hold.intro ?_; omega
  · have he : iter (nxt (behO (some x))) v (k + 1) = v := by assumption
    have := hk.2
    rw [walkF_step h24, if_pos he] at this
    rw [hL]
    refine HoldX.intro ?_
    have h2 := List.take_append_drop k (walkF (behO (some x)) v 10000 (nxt (behO (some x)) v))
    rw [this, List.append_nil] at h2
    rw [h2]
  · rename_i hn
    refine HoldX.intro ?_
    unfold walkL
    have hn : (mget i64E (behO (some x)) v).isSome = false := hn
    rw [if_neg (by rw [hn]; simp)]
theorem walkY0_vc (v : Int) : afunY ⟨tyL, [(100, behindC)], []⟩ Try.f99 [⟨.pt tabE, none⟩, ⟨i64E, v⟩] (walkL none v) := by
  repeat' (conv => whnf
           first | done | refine Need.intro (by first | rfl | omega | (simp only [i64ok] at *; omega)) ?_ | refine Need.intro (Hold.out ?_) ?_ | refine Give.intro fun _ => ?_ | refine Both.intro ?_ ?_ | refine BIf.and ?_ | refine BIf.or ?_ | refine BIf.eqi (fun _ => ?_) (fun _ => ?_) | refine BIf.nei (fun _ => ?_) (fun _ => ?_) | refine BIf.dec (fun _ => ?_) (fun _ => ?_) | refine BIf.nt ?_ | refine BIf.intro (fun _ => ?_) (fun _ => ?_) | refine (fun (l : Nat) => ?_) | refine HoldX.out ?_ | refine And.intro rfl ?_ | refine And.intro (HoldEq.out ?_) ?_ | refine And.intro (HoldOb.out ?_) ?_ | exact True.intro | refine HoldEq.out ?_ | refine HoldObs.out ?_ | refine KCheck.intro (by kernel_rfl) ?_ | refine HoldOr.out ?_)
  all_goals try first | refine HoldEq.int ?_ | refine HoldEq.bool ?_ | refine HoldEq.sl ?_ | refine HoldEq.own ?_ | refine HoldEq.ownS ?_ ?_ | refine HoldOb.row ?_ | refine HoldOb.map ?_ | refine HoldOb.gmap ?_ | refine HoldOb.grow ?_ | refine HoldObs.row ?_
  all_goals try simp only [take_one, take_one', set_one, take_all, List.length_singleton, rec_self, Int.toNat_natCast, pair_eta, ETy.dflt, List.getD_cons_zero, List.getD_cons_succ, Int.reduceToNat, Int.reduceAdd, Int.reduceSub, Int.reduceNeg, Nat.reduceAdd, Nat.zero_add] at *
  · exact Hold.intro (fun y h => by cases h)
  · exact HoldX.intro rfl
theorem walkF_in {x : tabE.T} (g : Full x) {v : Int} : ∀ n u, (∃ w, bE x w u) → ∀ a ∈ walkF (behO (some x)) v n u, 0 ≤ a ∧ a < x.1.1
  | 0, u, _, a, h => by cases h
  | n + 1, u, ⟨w, hw⟩, a, h => by
    unfold walkF at h
    split at h
    · cases h
    · rcases List.mem_cons.1 h with e | h
      · rw [e]; exact (bE_in g hw).2.1
      · rw [nxt_is g hw] at h
        exact walkF_in g n w (bE_next g hw) a h
theorem walkL_in {x : tabE.T} (g : Full x) {v : Int} : ∀ a ∈ walkL (some x) v, 0 ≤ a ∧ a < x.1.1 := fun a h => by
  unfold walkL at h
  split at h
  · rename_i hs
    obtain ⟨w, hw⟩ : ∃ w, bE x w v := by
      cases e : mget i64E (behO (some x)) v with
      | none => rw [e] at hs; cases hs
      | some w => exact ⟨w, (beh_iff g).1 e⟩
    rcases List.mem_cons.1 h with e | h
    · rw [e]; exact (bE_in g hw).2.1
    · rw [nxt_is g hw] at h
      exact walkF_in g _ w (bE_next g hw) a h
  · cases h
theorem walkL_ok {x : tabE.T} (g : Full x) (v : Int) : ∀ a ∈ walkL (some x) v, InK .i64 a := fun a h => by
  have h1 := walkL_in g a h
  have h2 : x.1.1 ≤ 4096 := g.fit.2.1
  have h3 : a ≤ 4096 := Int.le_trans (Int.le_of_lt h1.2) h2
  exact InK.i64.2 (by unfold i64ok; omega)
def seqW : SeqTab := fun f ps L => f = 99 ∧ ∃ (o : Option tabE.T) (v : Int), ps = [⟨.pt tabE, o⟩, ⟨i64E, v⟩] ∧ (∀ x, o = some x → Full x) ∧ L = walkL o v
theorem seqWOk : SeqTabOk Try.prog seqW := fun f ps L h => by
  obtain ⟨rfl, o, v, rfl, hg, rfl⟩ := h
  cases o with
  | none => exact seq_ok (rulesF (fn := [(100, behindC)]) (fr := []) ⟨behindRow, trivial⟩ trivial) Try.func99 rfl (by kernel_rfl) rfl (by kernel_rfl) (Nat.le_of_ble_eq_true rfl) (fun a h => by cases h) fun _ => walkY0_vc v
  | some x => exact seq_ok (rulesF (fn := [(100, behindC)]) (fr := []) ⟨behindRow, trivial⟩ trivial) Try.func99 rfl (by kernel_rfl) rfl (by kernel_rfl) (Nat.le_of_ble_eq_true rfl) (walkL_ok (hg x rfl) v) fun _ => walkY_vc x v (hg x rfl)
theorem walkL_len {o : Option tabE.T} {v : Int} : (walkL o v).length ≤ 10001 := by
  have key : ∀ n u, (walkF (behO o) v n u).length ≤ n := fun n => by
    induction n with
    | zero => exact fun u => Nat.le_refl _
    | succ n ih =>
      intro u
      unfold walkF
      split
      · exact Nat.zero_le _
      · have := ih (nxt (behO o) u); rw [List.length_cons]; omega
  unfold walkL
  split
  · have := key 10000 (nxt (behO o) v); rw [List.length_cons]; omega
  · exact Nat.zero_le _
def loopAp (L : List Int) : Spec Nat where
  inv _ := True
  live _ := []
  keep := [1, 2, 4]
  heap k := [(0, .flat 28 [.own 2 0 k]), (2, .row i64E 3 (L.take k))]
  keepH := [1, 3]
  mu _ := 0
set_option maxHeartbeats 400000 in
theorem app_vc (o : Option tabE.T) (v : Int) (hg : ∀ x, o = some x → Full x) : afunR ⟨tyL, [], []⟩ seqW Try.f98 [.s (.val (.slice none 0 0)), .s (.clo 99 [⟨.pt tabE, o⟩, ⟨i64E, v⟩])] (fun r => r = .s (.sl i64E (walkL o v))) := by
  have hlen := walkL_len (o := o) (v := v)
  repeat' (conv => whnf
           first | done | refine Need.intro (by first | rfl | omega | (simp only [i64ok] at *; omega)) ?_ | refine Need.intro (Hold.out ?_) ?_ | refine Give.intro fun _ => ?_ | refine Both.intro ?_ ?_ | refine BIf.and ?_ | refine BIf.or ?_ | refine BIf.eqi (fun _ => ?_) (fun _ => ?_) | refine BIf.nei (fun _ => ?_) (fun _ => ?_) | refine BIf.dec (fun _ => ?_) (fun _ => ?_) | refine BIf.nt ?_ | refine BIf.intro (fun _ => ?_) (fun _ => ?_) | refine Exists.intro (walkL o v) (And.intro (Hold.out ?_) (Exists.intro (loopAp (walkL o v)) ?_)) | (refine And.intro (fun X => ?_) (fun X => ?_)) | (refine And.intro (And.intro ?_ (And.intro ?_ rfl)) (fun k hk => ?_)) | (refine And.intro ?_ (And.intro ?_ rfl)) | refine And.intro rfl ?_ | refine And.intro (HoldEq.out ?_) ?_ | refine And.intro (HoldOb.out ?_) ?_ | exact True.intro | refine HoldEq.out ?_ | refine HoldObs.out ?_ | refine KCheck.intro (by kernel_rfl) ?_ | refine HoldOr.out ?_)
  all_goals try first | refine HoldEq.int ?_ | refine HoldEq.bool ?_ | refine HoldEq.sl ?_ | refine HoldEq.own ?_ | refine HoldEq.ownS ?_ ?_ | refine HoldOb.row ?_ | refine HoldOb.map ?_ | refine HoldOb.gmap ?_ | refine HoldOb.grow ?_ | refine HoldObs.row ?_
  all_goals try simp only [take_one, take_one', set_one, take_all, List.length_singleton, rec_self, Int.toNat_natCast, pair_eta, ETy.dflt, List.getD_cons_zero, List.getD_cons_succ, Int.reduceToNat, Int.reduceAdd, Int.reduceSub, Int.reduceNeg, Nat.reduceAdd, Nat.zero_add, loopAp] at *
  · exact Hold.intro ⟨rfl, o, v, rfl, hg, rfl⟩
  · refine Hold.intro ?_; omega
  · rw [List.drop_zero, List.take_take, Nat.min_self, List.take_succ_eq_append_getElem hk, List.getD_eq_getElem?_getD, List.getElem?_eq_getElem hk]; rfl
  · rw [List.drop_zero, List.take_length, List.take_length]
/-- A walk that is told by its closure. -/
def walkA (f : List AV) : Option ((Option tabE.T) × Int) :=
  match f with
  | [.s (.clo f [⟨.pt (.pair (.pair (.int .i64) (.sl .arr3)) (.pair (.mp .arr2 (.int .i64)) (.sl (.int .i64)))), o⟩, ⟨.int .i64, v⟩])] => match Nat.beq f 99 with
    | true => some (o, v)
    | false => none
  | _ => none
theorem walkA_eq {l : List AV} {o : Option tabE.T} {v : Int} (h : walkA l = some (o, v)) : l = [.s (.clo 99 [⟨.pt tabE, o⟩, ⟨i64E, v⟩])] := by
  unfold walkA at h
  split at h
  · split at h
    · rename_i e; cases h; rw [Nat.eq_of_beq_eq_true e]
    · cases h
  · cases h
def walkRes (f : List AV) : Option Res := match walkA f with
  | some (o, v) => some (none, some (∀ x, o = some x → Full x), .s (.sl i64E (walkL o v)))
  | none => none
def appC : List AV → Option Res
  | .s (.val (.slice none 0 0)) :: f => walkRes f
  | _ => none
theorem appRow : FnRow Try.prog 98 appC := ⟨fun args r h => by
  unfold appC at h
  split at h
  case h_2 => cases h
  unfold walkRes at h
  split at h
  case h_2 => cases h
  rename_i he
  rw [walkA_eq he]
  cases h
  exact fn_okR (rulesF (fn := []) (fr := []) trivial trivial) seqWOk Try.func98 rfl (by kernel_rfl) (Nat.le_of_ble_eq_true rfl) fun _ h => app_vc _ _ h, _, Try.func98, by kernel_rfl, by kernel_rfl⟩
theorem col_vc (o : Option tabE.T) (v : Int) (hg : ∀ x, o = some x → Full x) : afun ⟨tyL, [(98, appC)], []⟩ Try.f75 [.s (.clo 99 [⟨.pt tabE, o⟩, ⟨i64E, v⟩])] (fun r => r = .s (.sl i64E (walkL o v))) := by
  repeat' (conv => whnf
           first | done | refine Need.intro (by first | rfl | omega | (simp only [i64ok] at *; omega)) ?_ | refine Need.intro (Hold.out ?_) ?_ | refine Give.intro fun _ => ?_ | refine Both.intro ?_ ?_ | refine BIf.and ?_ | refine BIf.or ?_ | refine BIf.eqi (fun _ => ?_) (fun _ => ?_) | refine BIf.nei (fun _ => ?_) (fun _ => ?_) | refine BIf.dec (fun _ => ?_) (fun _ => ?_) | refine BIf.nt ?_ | refine BIf.intro (fun _ => ?_) (fun _ => ?_) | refine And.intro rfl ?_ | refine And.intro (HoldEq.out ?_) ?_ | refine And.intro (HoldOb.out ?_) ?_ | exact True.intro | refine HoldEq.out ?_ | refine HoldObs.out ?_ | refine KCheck.intro (by kernel_rfl) ?_ | refine HoldOr.out ?_)
  all_goals try first | refine HoldEq.int ?_ | refine HoldEq.bool ?_ | refine HoldEq.sl ?_ | refine HoldEq.own ?_ | refine HoldEq.ownS ?_ ?_ | refine HoldOb.row ?_ | refine HoldOb.map ?_ | refine HoldOb.gmap ?_ | refine HoldOb.grow ?_ | refine HoldObs.row ?_
  all_goals try simp only [take_one, take_one', set_one, take_all, List.length_singleton, rec_self, Int.toNat_natCast, pair_eta, ETy.dflt, List.getD_cons_zero, List.getD_cons_succ, Int.reduceToNat, Int.reduceAdd, Int.reduceSub, Int.reduceNeg, Nat.reduceAdd, Nat.zero_add] at *
  all_goals exact Hold.intro hg
def colC : List AV → Option Res := walkRes
theorem colRow : FnRow Try.prog 75 colC := ⟨fun args r h => by
  unfold colC walkRes at h
  split at h
  case h_2 => cases h
  rename_i he
  rw [walkA_eq he]
  cases h
  exact fn_by (rulesF (fn := [(98, appC)]) (fr := []) ⟨appRow, trivial⟩ trivial) Try.func75 (by kernel_rfl) fun _ h => col_vc _ _ h, _, Try.func75, by kernel_rfl, by kernel_rfl⟩
/-! border.Loops -/
abbrev LpS := ReM × List (List Int)
def lpI (x : tabE.T) (s : LpS) (v : Nat) : LpS :=
  if had s.1 v = true then s else ((walkL (some x) v).foldl (fun m u => mset (.int .i64) m u true) s.1, if (walkL (some x) v).length > 0 then s.2 ++ [walkL (some x) v] else s.2)
def lpS (x : tabE.T) (i : Nat) : LpS := irec (lpI x) ([], []) i
def loopsR (x : tabE.T) : List (List Int) := (lpS x x.1.1.toNat).2
def loopsO (o : Option tabE.T) : List (List Int) := onO o [] loopsR
def loopLp (x : tabE.T) : Spec Nat where
  inv k := (k : Int) ≤ x.1.1
  live k := [(13, .s (.int .i64 k)), (3, .s (.own 1 0 (lpS x k).2.length))]
  keep := [0, 2, 4, 12]
  heap k := [(1, .row (.sl i64E) 28 (lpS x k).2), (2, .map i64E .bool (lpS x k).1)]
  keepH := [0, 3]
  mu k := x.1.1.toNat - k
theorem lpS_t {x : tabE.T} {k : Nat} (h : had (lpS x k).1 k = true) : lpS x (k + 1) = lpS x k := by
  show lpI x (lpS x k) k = _
  unfold lpI; rw [if_pos h]
theorem lpS_f {x : tabE.T} {k : Nat} (h : had (lpS x k).1 k = false) : lpS x (k + 1) = ((walkL (some x) k).foldl (fun m u => mset (.int .i64) m u true) (lpS x k).1, if (walkL (some x) k).length > 0 then (lpS x k).2 ++ [walkL (some x) k] else (lpS x k).2) := by
  show lpI x (lpS x k) k = _
  unfold lpI; rw [if_neg (by rw [h]; simp)]
theorem lpS_len (x : tabE.T) : ∀ k, (lpS x k).2.length ≤ k
  | 0 => Nat.le_refl _
  | k + 1 => by
    have ih := lpS_len x k
    cases h : had (lpS x k).1 k with
    | true => rw [lpS_t h]; omega
    | false =>
      rw [lpS_f h]
      show (if _ then _ else _ : List (List Int)).length ≤ _
      split
      · rw [List.length_append, List.length_singleton]; omega
      · omega
def insF (m : ReM) (l : List Int) : ReM := l.foldl (fun m u => mset (.int .i64) m u true) m
def loopLq (m : ReM) (L : List Int) : Spec Nat where
  inv _ := True
  live _ := []
  keep := [0, 2, 3, 4, 5, 6, 12, 13]
  heap k := [(2, .map i64E .bool (insF m (L.take k)))]
  keepH := [0, 1, 3, 4]
  mu _ := 0
set_option maxHeartbeats 4000000 in
theorem loops_vc (x : tabE.T) (g : Full x) : afunR ⟨tyL, [(74, verticesC), (76, walkC), (75, colC)], []⟩ seqW Try.f40 [(ETy.pt tabE).av (some x)] (fun r => r = .s (.sl (.sl i64E) (loopsR x))) := by
  repeat' (conv => whnf
           first | done | refine Need.intro (by first | rfl | omega | (simp only [i64ok] at *; omega)) ?_ | refine Need.intro (Hold.out ?_) ?_ | refine Give.intro fun _ => ?_ | refine Both.intro ?_ ?_ | refine BIf.and ?_ | refine BIf.or ?_ | refine BIf.eqi (fun _ => ?_) (fun _ => ?_) | refine BIf.nei (fun _ => ?_) (fun _ => ?_) | refine BIf.dec (fun _ => ?_) (fun _ => ?_) | refine BIf.nt ?_ | refine BIf.intro (fun _ => ?_) (fun _ => ?_) | refine Exists.intro (Nat) (Exists.intro (loopLp x) (And.intro (Exists.intro (0) (And.intro (Hold.out ?_) (And.intro ?_ (And.intro ?_ rfl)))) (fun k hk => ?_))) | ((with_reducible show (∃ y, And (Spec.inv (loopLp _) y) _)); refine Exists.intro (k + 1) (And.intro (Hold.out ?_) (And.intro (And.intro ?_ (And.intro ?_ rfl)) (Hold.out ?_)))) | refine Exists.intro (walkL (some x) k) (And.intro (Hold.out ?_) (Exists.intro (loopLq (lpS x k).1 (walkL (some x) k)) ?_)) | (refine And.intro (fun X => ?_) (fun X => ?_)) | (refine And.intro (And.intro ?_ (And.intro ?_ rfl)) (fun j hj => ?_)) | (refine And.intro ?_ (And.intro ?_ rfl)) | refine And.intro rfl ?_ | refine And.intro (HoldEq.out ?_) ?_ | refine And.intro (HoldOb.out ?_) ?_ | exact True.intro | refine HoldEq.out ?_ | refine HoldObs.out ?_ | refine KCheck.intro (by kernel_rfl) ?_ | refine HoldOr.out ?_)
  all_goals try first | refine HoldEq.int ?_ | refine HoldEq.bool ?_ | refine HoldEq.sl ?_ | refine HoldEq.own ?_ | refine HoldEq.ownS ?_ ?_ | refine HoldOb.row ?_ | refine HoldOb.map ?_ | refine HoldOb.gmap ?_ | refine HoldOb.grow ?_ | refine HoldObs.row ?_
  all_goals try simp only [take_one, take_one', set_one, take_all, List.length_singleton, rec_self, Int.toNat_natCast, pair_eta, ETy.dflt, List.getD_cons_zero, List.getD_cons_succ, Int.reduceToNat, Int.reduceAdd, Int.reduceSub, Int.reduceNeg, Nat.reduceAdd, Nat.zero_add, loopLp, loopLq] at *
  all_goals have hn : @LE.le Int _ x.1.1 4096 := g.fit.2.1
  all_goals have h0 : @LE.le Int _ 0 x.1.1 := g.fit.1
  all_goals try (refine Hold.intro ?_; first | omega | (unfold i64ok; omega))
  all_goals try have hlen := lpS_len x k
  all_goals try
    have ht : had (lpS x k).1 k = true := by assumption
    have e := lpS_t ht
    (first | (rw [e]; done) | (rw [e]))
  all_goals try have hf : had (lpS x k).1 k = false := by assumption
  · exact Hold.intro (fun y h => by cases h; exact g)
  · exact Hold.intro ⟨rfl, some x, k, rfl, fun y h => (by cases h; exact g), rfl⟩
  · unfold insF
    rw [List.take_succ_eq_append_getElem hj, List.foldl_append, List.getD_eq_getElem?_getD, List.getElem?_eq_getElem hj]; rfl
  · refine Hold.intro ?_; omega
  · have hp : ((walkL (some x) k).length : Int) > 0 := by assumption
    rw [lpS_f hf, if_pos (by omega), List.length_append]; rfl
  · have hp : ((walkL (some x) k).length : Int) > 0 := by assumption
    rw [lpS_f hf, if_pos (by omega)]
  · rw [lpS_f hf, List.take_length]; rfl
  · have hp : ¬ ((walkL (some x) k).length : Int) > 0 := by assumption
    rw [lpS_f hf, if_neg (by omega)]
  · have hp : ¬ ((walkL (some x) k).length : Int) > 0 := by assumption
    rw [lpS_f hf, if_neg (by omega)]
  · rw [lpS_f hf, List.take_length]; rfl
  · have e : k = x.1.1.toNat := by omega
    rw [e]; rfl
set_option maxHeartbeats 4000000 in
theorem loops0_vc : afunR ⟨tyL, [(74, verticesC), (76, walkC), (75, colC)], []⟩ seqW Try.f40 [(ETy.pt tabE).av none] (fun r => r = .s (.sl (.sl i64E) [])) := by
  repeat' (conv => whnf
           first | done | refine Need.intro (by first | rfl | omega | (simp only [i64ok] at *; omega)) ?_ | refine Need.intro (Hold.out ?_) ?_ | refine Give.intro fun _ => ?_ | refine Both.intro ?_ ?_ | refine BIf.and ?_ | refine BIf.or ?_ | refine BIf.eqi (fun _ => ?_) (fun _ => ?_) | refine BIf.nei (fun _ => ?_) (fun _ => ?_) | refine BIf.dec (fun _ => ?_) (fun _ => ?_) | refine BIf.nt ?_ | refine BIf.intro (fun _ => ?_) (fun _ => ?_) | refine And.intro rfl ?_ | refine And.intro (HoldEq.out ?_) ?_ | refine And.intro (HoldOb.out ?_) ?_ | exact True.intro | refine HoldEq.out ?_ | refine HoldObs.out ?_ | refine KCheck.intro (by kernel_rfl) ?_ | refine HoldOr.out ?_)
  all_goals try first | refine HoldEq.int ?_ | refine HoldEq.bool ?_ | refine HoldEq.sl ?_ | refine HoldEq.own ?_ | refine HoldEq.ownS ?_ ?_ | refine HoldOb.row ?_ | refine HoldOb.map ?_ | refine HoldOb.gmap ?_ | refine HoldOb.grow ?_ | refine HoldObs.row ?_
  all_goals try simp only [take_one, take_one', set_one, take_all, List.length_singleton, rec_self, Int.toNat_natCast, pair_eta, ETy.dflt, List.getD_cons_zero, List.getD_cons_succ, Int.reduceToNat, Int.reduceAdd, Int.reduceSub, Int.reduceNeg, Nat.reduceAdd, Nat.zero_add] at *
  rfl
def loopsC : List AV → Option Res := con1 (.pt tabE) (fun o => some (none, some (∀ x, o = some x → Full x), .s (.sl (.sl i64E) (loopsO o))))
theorem loopsRow : FnRow Try.prog 40 loopsC := ⟨con1_ok fun o r h => by
  cases h
  cases o with
  | none => exact fn_okR (rulesF (fn := [(74, verticesC), (76, walkC), (75, colC)]) (fr := []) ⟨verticesRow, walkRow, colRow, trivial⟩ trivial) seqWOk Try.func40 rfl (by kernel_rfl) (Nat.le_of_ble_eq_true rfl) fun _ _ => loops0_vc
  | some x => exact fn_okR (rulesF (fn := [(74, verticesC), (76, walkC), (75, colC)]) (fr := []) ⟨verticesRow, walkRow, colRow, trivial⟩ trivial) seqWOk Try.func40 rfl (by kernel_rfl) (Nat.le_of_ble_eq_true rfl) fun _ h => loops_vc x (h x rfl), _, Try.func40, by kernel_rfl, by kernel_rfl⟩
end S1

open Go Go.Vm Go.Proofs
namespace S1
set_option maxRecDepth 100000

/-! a table that is known -/
def laidXC (x : tabE.T) : List AV → Option Res := con1 soupE (fun s => some (none, some (laidO s = some x), (ETy.pt tabE).av (some x)))
theorem laidXRow (x : tabE.T) : FnRow Try.prog 15 (laidXC x) := ⟨con1_ok fun s r h => by
  cases h
  intro σ vals w hag hv
  refine ⟨trivial, fun hq => ?_⟩
  have := (laidRow.1 _ _ (rfl : laidC [soupE.av s] = _) σ vals w hag hv).2 trivial
  rw [show laidO s = some x from hq] at this
  exact this, _, Try.func15, by kernel_rfl, by kernel_rfl⟩
theorem nil_av {σ : Sig} {β : Places} {v : Value} (h : VRep σ β ((ETy.pt tabE).av none) v) : VRep σ β (nilO none) v := by
  have h : [v] = [Value.pointer none] := h
  exact ⟨(List.cons.inj h).1, by simp [Scal]⟩
def laidNC : List AV → Option Res := con1 soupE (fun s => some (none, some (laidO s = none), nilO none))
theorem laidNRow : FnRow Try.prog 15 laidNC := ⟨con1_ok fun s r h => by
  cases h
  intro σ vals w hag hv
  refine ⟨trivial, fun hq => ?_⟩
  have hv0 := hv
  have := (laidRow.1 _ _ (rfl : laidC [soupE.av s] = _) σ vals w hag hv).2 trivial
  rw [show laidO s = none from hq] at this
  refine this.mono fun e w' ⟨v, σ', e1, e2, e3, e4, e5, e6⟩ => ⟨v, σ', e1, e2, e3, e4, ?_, e6⟩
  exact nil_av e5, _, Try.func15, by kernel_rfl, by kernel_rfl⟩
/-! sets as maps -/
def insM (l : List Int) : ReM := l.foldl (fun m v => mset (.int .i64) m v true) []
theorem insM_succ {l : List Int} {k : Nat} (h : k < l.length) : insM (l.take (k + 1)) = mset (.int .i64) (insM (l.take k)) (l.getD k 0) true := by
  unfold insM
  rw [List.take_succ_eq_append_getElem h, List.foldl_append, List.getD_eq_getElem?_getD, List.getElem?_eq_getElem h]; rfl
theorem insM_had (l : List Int) (v : Int) : had (insM l) v = true ↔ v ∈ l := by
  have key : ∀ (l : List Int) (m : ReM), had (l.foldl (fun m v => mset (.int .i64) m v true) m) v = true ↔ (had m v = true ∨ v ∈ l) := fun l => by
    induction l with
    | nil => exact fun m => ⟨.inl, fun h => h.resolve_right (fun h => by cases h)⟩
    | cons a r ih =>
      intro m
      rw [List.foldl_cons, ih, had_set, List.mem_cons]
      by_cases e : a = v
      · subst e; simp
      · rw [if_neg e]
        exact ⟨fun h => h.imp id .inr, fun h => h.imp id (fun h => h.resolve_left (fun k => e k.symm))⟩
  unfold insM
  rw [key]
  exact ⟨fun h => h.resolve_left (fun h => by cases h), .inr⟩
theorem insM_keys (l : List Int) : (keysR (insM l)).Nodup ∧ ∀ v ∈ keysR (insM l), v ∈ l := by
  have key : ∀ (l : List Int) (m : ReM), (keysR m).Nodup → (keysR (l.foldl (fun m v => mset (.int .i64) m v true) m)).Nodup ∧ ∀ v ∈ keysR (l.foldl (fun m v => mset (.int .i64) m v true) m), v ∈ keysR m ∨ v ∈ l := fun l => by
    induction l with
    | nil => exact fun m h => ⟨h, fun v h => .inl h⟩
    | cons a r ih =>
      intro m h
      obtain ⟨k1, k2⟩ := keysR_set a m
      obtain ⟨i1, i2⟩ := ih (mset (.int .i64) m a true) (k2 h)
      refine ⟨i1, fun v hv => ?_⟩
      rcases i2 v hv with h | h
      · rcases k1 v h with h | h
        · exact .inr (by rw [h]; exact List.mem_cons_self ..)
        · exact .inl h
      · exact .inr (List.mem_cons_of_mem _ h)
  obtain ⟨a, b⟩ := key l [] List.nodup_nil
  exact ⟨a, fun v hv => (b v hv).resolve_left (fun h => by cases h)⟩
theorem insM_len (l : List Int) : (insM l).length = (keysR (insM l)).length := by unfold keysR; rw [List.length_map]
/-- How many there are: at least as many as are told, at most as many as it lies within. -/
theorem insM_ge {l F : List Int} (hn : F.Nodup) (h : ∀ v ∈ F, v ∈ l) : F.length ≤ (insM l).length := by
  rw [insM_len]
  exact len_sub F _ hn fun v hv => had_key ((insM_had l v).2 (h v hv))
theorem insM_le {l F : List Int} (h : ∀ v ∈ l, v ∈ F) : (insM l).length ≤ F.length := by
  rw [insM_len]
  exact len_sub _ F (insM_keys l).1 fun v hv => h v ((insM_keys l).2 v hv)
end S1

open Go Go.Vm Go.Proofs
namespace S1
set_option maxRecDepth 100000

/-! star.check -/
instance (ap : List Int) : Decidable ap.Nodup := inferInstanceAs (Decidable (List.Pairwise (· ≠ ·) ap))
def ckA (n : Int) (ap : List Int) : Prop := ∀ a ∈ ap, 0 ≤ a ∧ a < n
def ckC (x : tabE.T) (ap : List Int) : Prop := ∀ a ∈ ap, innerR x a = true
def ckD (x : tabE.T) (ap : List Int) : Prop := ∀ a ∈ ap, ∀ v ∈ linkR x a, v ∉ ap
instance (n : Int) (ap : List Int) : Decidable (ckA n ap) := inferInstanceAs (Decidable (∀ a ∈ ap, 0 ≤ a ∧ a < n))
instance (x : tabE.T) (ap : List Int) : Decidable (ckC x ap) := inferInstanceAs (Decidable (∀ a ∈ ap, innerR x a = true))
instance (x : tabE.T) (ap : List Int) : Decidable (ckD x ap) := inferInstanceAs (Decidable (∀ a ∈ ap, ∀ v ∈ linkR x a, v ∉ ap))
def checkR (x : tabE.T) (ap : List Int) : Int := if ¬ ckA x.1.1 ap then 2 else if ¬ ap.Nodup then 9 else if ¬ ckC x ap then 13 else if ¬ ckD x ap then 14 else 0
def loopC1 (n : Int) (ap : List Int) : Spec Nat where
  inv k := k ≤ ap.length ∧ ckA n (ap.take k)
  live k := [(19, .s (.int .i64 k))]
  keep := [0, 1, 5, 17, 18]
  heap _ := []
  keepH := [0]
  mu k := ap.length - k
def loopC2 (ap : List Int) : Spec Nat where
  inv k := k ≤ ap.length ∧ (ap.take k).Nodup
  live k := [(34, .s (.int .i64 k))]
  keep := [0, 1, 5, 32, 33]
  heap k := [(0, .map i64E .bool (insM (ap.take k)))]
  keepH := []
  mu k := ap.length - k
def loopC3 (x : tabE.T) (ap : List Int) : Spec Nat where
  inv k := k ≤ ap.length ∧ ckC x (ap.take k)
  live k := [(46, .s (.int .i64 k))]
  keep := [0, 1, 5, 44, 45]
  heap _ := []
  keepH := [0]
  mu k := ap.length - k
def ckDD (x : tabE.T) (ap bp : List Int) : Prop := ∀ a ∈ bp, ∀ v ∈ linkR x a, v ∉ ap
def loopC4 (x : tabE.T) (ap : List Int) : Spec Nat where
  inv k := k ≤ ap.length ∧ ckDD x ap (ap.take k)
  live k := [(57, .s (.int .i64 k))]
  keep := [0, 1, 5, 55, 56]
  heap _ := []
  keepH := [0]
  mu k := ap.length - k
def loopC5 (x : tabE.T) (ap : List Int) (a : Int) : Spec Nat where
  inv j := j ≤ (linkR x a).length ∧ ∀ v ∈ (linkR x a).take j, v ∉ ap
  live j := [(65, .s (.int .i64 j))]
  keep := [0, 1, 5, 55, 56, 57, 63, 64]
  heap _ := []
  keepH := [0]
  mu j := (linkR x a).length - j
theorem take_succ_mem {l : List Int} {k : Nat} (h : k < l.length) {v : Int} : v ∈ l.take (k + 1) ↔ v ∈ l.take k ∨ v = l.getD k 0 := by
  rw [List.take_succ_eq_append_getElem h, List.mem_append, List.mem_singleton, List.getD_eq_getElem?_getD, List.getElem?_eq_getElem h]; rfl
theorem ckA_nil {n : Int} {ap : List Int} : ckA n (ap.take 0) := fun a h => by cases h
theorem ckC_nil {x : tabE.T} {ap : List Int} : ckC x (ap.take 0) := fun a h => by cases h
theorem ckDD_nil {x : tabE.T} {ap bp : List Int} : ckDD x ap (bp.take 0) := fun a h => by cases h
theorem ckA_succ {n : Int} {ap : List Int} {k : Nat} (h : ckA n (ap.take k)) (hk : k < ap.length) (h2 : 0 ≤ ap.getD k 0 ∧ ap.getD k 0 < n) : ckA n (ap.take (k + 1)) := fun a ha => by
  rcases (take_succ_mem hk).1 ha with e | e
  · exact h a e
  · rw [e]; exact h2
theorem ckC_succ {x : tabE.T} {ap : List Int} {k : Nat} (h : ckC x (ap.take k)) (hk : k < ap.length) (h2 : innerR x (ap.getD k 0) = true) : ckC x (ap.take (k + 1)) := fun a ha => by
  rcases (take_succ_mem hk).1 ha with e | e
  · exact h a e
  · rw [e]; exact h2
theorem ckDD_succ {x : tabE.T} {ap bp : List Int} {k : Nat} (h : ckDD x ap (bp.take k)) (hk : k < bp.length) (h2 : ∀ v ∈ linkR x (bp.getD k 0), v ∉ ap) : ckDD x ap (bp.take (k + 1)) := fun a ha => by
  rcases (take_succ_mem hk).1 ha with e | e
  · exact h a e
  · rw [e]; exact h2
theorem nodup_succ {l : List Int} {k : Nat} (h : (l.take k).Nodup) (hk : k < l.length) (hn : l.getD k 0 ∉ l.take k) : (l.take (k + 1)).Nodup := by
  rw [List.take_succ_eq_append_getElem hk, List.nodup_append]
  refine ⟨h, List.nodup_cons.2 ⟨by simp, List.nodup_nil⟩, fun a ha b hb e => ?_⟩
  rw [List.mem_singleton] at hb
  subst hb; subst e
  rw [List.getD_eq_getElem?_getD, List.getElem?_eq_getElem hk] at hn
  exact hn ha
theorem nodup_take {l : List Int} {k : Nat} (hn : l.Nodup) (hk : k < l.length) (h : l.getD k 0 ∈ l.take k) : False := by
  have e : l.take (k + 1) = l.take k ++ [l.getD k 0] := by
    rw [List.take_succ_eq_append_getElem hk, List.getD_eq_getElem?_getD, List.getElem?_eq_getElem hk]; rfl
  have : (l.take (k + 1)).Nodup := (List.take_sublist _ _).nodup hn
  rw [e, List.nodup_append] at this
  exact this.2.2 _ h _ (List.mem_singleton.2 rfl) rfl
theorem checkR_2 {x : tabE.T} {ap : List Int} {a : Int} (ha : a ∈ ap) (h : ¬ (0 ≤ a ∧ a < x.1.1)) : checkR x ap = 2 := by
  unfold checkR; rw [if_pos (fun e => h (e a ha))]
theorem checkR_9 {x : tabE.T} {ap : List Int} (h1 : ckA x.1.1 ap) (h : ¬ ap.Nodup) : checkR x ap = 9 := by
  unfold checkR; rw [if_neg (fun e => e h1), if_pos h]
theorem checkR_13 {x : tabE.T} {ap : List Int} (h1 : ckA x.1.1 ap) (h2 : ap.Nodup) {a : Int} (ha : a ∈ ap) (h : innerR x a = false) : checkR x ap = 13 := by
  unfold checkR; rw [if_neg (fun e => e h1), if_neg (fun e => e h2), if_pos (fun e => by rw [e a ha] at h; cases h)]
theorem checkR_14 {x : tabE.T} {ap : List Int} (h1 : ckA x.1.1 ap) (h2 : ap.Nodup) (h3 : ckC x ap) {a v : Int} (ha : a ∈ ap) (hv : v ∈ linkR x a) (h : v ∈ ap) : checkR x ap = 14 := by
  unfold checkR; rw [if_neg (fun e => e h1), if_neg (fun e => e h2), if_neg (fun e => e h3), if_pos (fun e => e a ha v hv h)]
theorem checkR_0 {x : tabE.T} {ap : List Int} (h1 : ckA x.1.1 ap) (h2 : ap.Nodup) (h3 : ckC x ap) (h4 : ckD x ap) : checkR x ap = 0 := by
  unfold checkR; rw [if_neg (fun e => e h1), if_neg (fun e => e h2), if_neg (fun e => e h3), if_neg (fun e => e h4)]
attribute [local irreducible] innerR linkR insM ckA ckC ckDD
set_option maxHeartbeats 4000000 in
theorem sck_vc (x : tabE.T) (ap : List Int) (g : Good x) : afun ⟨tyL, [(74, verticesC), (25, innerC), (27, linkC)], []⟩ Try.f71 [(ETy.pt tabE).av (some x), (ETy.sl i64E).av ap] (fun r => r = .s (.int .i64 (checkR x ap))) := by
  repeat' (conv => whnf
           first | done | refine Need.intro (by first | rfl | omega | (simp only [i64ok] at *; omega)) ?_ | refine Need.intro (Hold.out ?_) ?_ | refine Give.intro fun _ => ?_ | refine Both.intro ?_ ?_ | refine BIf.and ?_ | refine BIf.or ?_ | refine BIf.eqi (fun _ => ?_) (fun _ => ?_) | refine BIf.nei (fun _ => ?_) (fun _ => ?_) | refine BIf.dec (fun _ => ?_) (fun _ => ?_) | refine BIf.nt ?_ | refine BIf.intro (fun _ => ?_) (fun _ => ?_) | ((first | (with_reducible show Or (∃ n, rounds (acode _ (Code.seq (Code.region 3 _ _) _)) _ n _) _) | (with_reducible show Or (∃ n, rounds (acode _ (Code.seq (Code.seq (Code.region 3 _ _) _) _)) _ n _) _) | (with_reducible show Or (∃ n, rounds (acode _ (Code.seq (Code.seq (Code.seq (Code.region 3 _ _) _) _) _)) _ n _) _) | (with_reducible show Or (∃ n, rounds (acode _ (Code.seq (Code.seq (Code.seq (Code.seq (Code.region 3 _ _) _) _) _) _)) _ n _) _) | (with_reducible show Or (∃ n, rounds (acode _ (Code.block _ (Code.seq (Code.region 3 _ _) _))) _ n _) _) | (with_reducible show Or (∃ n, rounds (acode _ (Code.block _ (Code.seq (Code.seq (Code.region 3 _ _) _) _))) _ n _) _) | (with_reducible show Or (∃ n, rounds (acode _ (Code.block _ (Code.seq (Code.seq (Code.seq (Code.region 3 _ _) _) _) _))) _ n _) _) | (with_reducible show Or (∃ n, rounds (acode _ (Code.block _ (Code.seq (Code.seq (Code.seq (Code.seq (Code.region 3 _ _) _) _) _) _))) _ n _) _)); refine Or.inr (Exists.intro (Nat) (Exists.intro (loopC1 x.1.1 ap) (And.intro (Exists.intro (0) (And.intro (Hold.out ?_) (And.intro ?_ (And.intro ?_ rfl)))) (fun k hk => ?_))))) | ((with_reducible show (∃ y, And (Spec.inv (loopC1 _ _) y) _)); refine Exists.intro (k + 1) (And.intro (Hold.out ?_) (And.intro (And.intro ?_ (And.intro ?_ rfl)) (Hold.out ?_)))) | ((first | (with_reducible show Or (∃ n, rounds (acode _ (Code.seq (Code.region 9 _ _) _)) _ n _) _) | (with_reducible show Or (∃ n, rounds (acode _ (Code.seq (Code.seq (Code.region 9 _ _) _) _)) _ n _) _) | (with_reducible show Or (∃ n, rounds (acode _ (Code.seq (Code.seq (Code.seq (Code.region 9 _ _) _) _) _)) _ n _) _) | (with_reducible show Or (∃ n, rounds (acode _ (Code.seq (Code.seq (Code.seq (Code.seq (Code.region 9 _ _) _) _) _) _)) _ n _) _) | (with_reducible show Or (∃ n, rounds (acode _ (Code.block _ (Code.seq (Code.region 9 _ _) _))) _ n _) _) | (with_reducible show Or (∃ n, rounds (acode _ (Code.block _ (Code.seq (Code.seq (Code.region 9 _ _) _) _))) _ n _) _) | (with_reducible show Or (∃ n, rounds (acode _ (Code.block _ (Code.seq (Code.seq (Code.seq (Code.region 9 _ _) _) _) _))) _ n _) _) | (with_reducible show Or (∃ n, rounds (acode _ (Code.block _ (Code.seq (Code.seq (Code.seq (Code.seq (Code.region 9 _ _) _) _) _) _))) _ n _) _)); refine Or.inr (Exists.intro (Nat) (Exists.intro (loopC2 ap) (And.intro (Exists.intro (0) (And.intro (Hold.out ?_) (And.intro ?_ (And.intro ?_ rfl)))) (fun q hq => ?_))))) | ((with_reducible show (∃ y, And (Spec.inv (loopC2 _) y) _)); refine Exists.intro (q + 1) (And.intro (Hold.out ?_) (And.intro (And.intro ?_ (And.intro ?_ rfl)) (Hold.out ?_)))) | ((first | (with_reducible show Or (∃ n, rounds (acode _ (Code.seq (Code.region 16 _ _) _)) _ n _) _) | (with_reducible show Or (∃ n, rounds (acode _ (Code.seq (Code.seq (Code.region 16 _ _) _) _)) _ n _) _) | (with_reducible show Or (∃ n, rounds (acode _ (Code.seq (Code.seq (Code.seq (Code.region 16 _ _) _) _) _)) _ n _) _) | (with_reducible show Or (∃ n, rounds (acode _ (Code.seq (Code.seq (Code.seq (Code.seq (Code.region 16 _ _) _) _) _) _)) _ n _) _) | (with_reducible show Or (∃ n, rounds (acode _ (Code.block _ (Code.seq (Code.region 16 _ _) _))) _ n _) _) | (with_reducible show Or (∃ n, rounds (acode _ (Code.block _ (Code.seq (Code.seq (Code.region 16 _ _) _) _))) _ n _) _) | (with_reducible show Or (∃ n, rounds (acode _ (Code.block _ (Code.seq (Code.seq (Code.seq (Code.region 16 _ _) _) _) _))) _ n _) _) | (with_reducible show Or (∃ n, rounds (acode _ (Code.block _ (Code.seq (Code.seq (Code.seq (Code.seq (Code.region 16 _ _) _) _) _) _))) _ n _) _)); refine Or.inr (Exists.intro (Nat) (Exists.intro (loopC3 x ap) (And.intro (Exists.intro (0) (And.intro (Hold.out ?_) (And.intro ?_ (And.intro ?_ rfl)))) (fun r hr => ?_))))) | ((with_reducible show (∃ y, And (Spec.inv (loopC3 _ _) y) _)); refine Exists.intro (r + 1) (And.intro (Hold.out ?_) (And.intro (And.intro ?_ (And.intro ?_ rfl)) (Hold.out ?_)))) | ((first | (with_reducible show Or (∃ n, rounds (acode _ (Code.seq (Code.region 22 _ _) _)) _ n _) _) | (with_reducible show Or (∃ n, rounds (acode _ (Code.seq (Code.seq (Code.region 22 _ _) _) _)) _ n _) _) | (with_reducible show Or (∃ n, rounds (acode _ (Code.seq (Code.seq (Code.seq (Code.region 22 _ _) _) _) _)) _ n _) _) | (with_reducible show Or (∃ n, rounds (acode _ (Code.seq (Code.seq (Code.seq (Code.seq (Code.region 22 _ _) _) _) _) _)) _ n _) _) | (with_reducible show Or (∃ n, rounds (acode _ (Code.block _ (Code.seq (Code.region 22 _ _) _))) _ n _) _) | (with_reducible show Or (∃ n, rounds (acode _ (Code.block _ (Code.seq (Code.seq (Code.region 22 _ _) _) _))) _ n _) _) | (with_reducible show Or (∃ n, rounds (acode _ (Code.block _ (Code.seq (Code.seq (Code.seq (Code.region 22 _ _) _) _) _))) _ n _) _) | (with_reducible show Or (∃ n, rounds (acode _ (Code.block _ (Code.seq (Code.seq (Code.seq (Code.seq (Code.region 22 _ _) _) _) _) _))) _ n _) _)); refine Or.inr (Exists.intro (Nat) (Exists.intro (loopC4 x ap) (And.intro (Exists.intro (0) (And.intro (Hold.out ?_) (And.intro ?_ (And.intro ?_ rfl)))) (fun s hs => ?_))))) | ((with_reducible show (∃ y, And (Spec.inv (loopC4 _ _) y) _)); refine Exists.intro (s + 1) (And.intro (Hold.out ?_) (And.intro (And.intro ?_ (And.intro ?_ rfl)) (Hold.out ?_)))) | ((first | (with_reducible show Or (∃ n, rounds (acode _ (Code.seq (Code.region 25 _ _) _)) _ n _) _) | (with_reducible show Or (∃ n, rounds (acode _ (Code.seq (Code.seq (Code.region 25 _ _) _) _)) _ n _) _) | (with_reducible show Or (∃ n, rounds (acode _ (Code.seq (Code.seq (Code.seq (Code.region 25 _ _) _) _) _)) _ n _) _) | (with_reducible show Or (∃ n, rounds (acode _ (Code.seq (Code.seq (Code.seq (Code.seq (Code.region 25 _ _) _) _) _) _)) _ n _) _) | (with_reducible show Or (∃ n, rounds (acode _ (Code.block _ (Code.seq (Code.region 25 _ _) _))) _ n _) _) | (with_reducible show Or (∃ n, rounds (acode _ (Code.block _ (Code.seq (Code.seq (Code.region 25 _ _) _) _))) _ n _) _) | (with_reducible show Or (∃ n, rounds (acode _ (Code.block _ (Code.seq (Code.seq (Code.seq (Code.region 25 _ _) _) _) _))) _ n _) _) | (with_reducible show Or (∃ n, rounds (acode _ (Code.block _ (Code.seq (Code.seq (Code.seq (Code.seq (Code.region 25 _ _) _) _) _) _))) _ n _) _)); refine Or.inr (Exists.intro (Nat) (Exists.intro (loopC5 x ap (ap.getD s 0)) (And.intro (Exists.intro (0) (And.intro (Hold.out ?_) (And.intro ?_ (And.intro ?_ rfl)))) (fun j hj => ?_))))) | ((with_reducible show (∃ y, And (Spec.inv (loopC5 _ _ _) y) _)); refine Exists.intro (j + 1) (And.intro (Hold.out ?_) (And.intro (And.intro ?_ (And.intro ?_ rfl)) (Hold.out ?_)))) | refine And.intro rfl ?_ | refine And.intro (HoldEq.out ?_) ?_ | refine And.intro (HoldOb.out ?_) ?_ | exact True.intro | refine HoldEq.out ?_ | refine HoldObs.out ?_ | refine KCheck.intro (by kernel_rfl) ?_ | refine HoldOr.out ?_)
  all_goals try first | refine HoldEq.int ?_ | refine HoldEq.bool ?_ | refine HoldEq.sl ?_ | refine HoldEq.own ?_ | refine HoldEq.ownS ?_ ?_ | refine HoldOb.row ?_ | refine HoldOb.map ?_ | refine HoldOb.gmap ?_ | refine HoldOb.grow ?_ | refine HoldObs.row ?_
  all_goals try simp only [take_one, take_one', set_one, take_all, List.length_singleton, rec_self, Int.toNat_natCast, pair_eta, ETy.dflt, List.getD_cons_zero, List.getD_cons_succ, Int.reduceToNat, Int.reduceAdd, Int.reduceSub, Int.reduceNeg, Nat.reduceAdd, Nat.zero_add, loopC1, loopC2, loopC3, loopC4, loopC5, had_def, had_def2] at *
  all_goals try (refine Hold.intro ?_; omega)
  all_goals try (have e1 : ap.take k = ap := List.take_of_length_le (by omega)
                 have hA : ckA x.1.1 ap := by have := hk.2; rw [e1] at this; exact this)
  all_goals try (have e2 : ap.take q = ap := List.take_of_length_le (by omega)
                 have hB : ap.Nodup := by have := hq.2; rw [e2] at this; exact this)
  all_goals try (have e3 : ap.take r = ap := List.take_of_length_le (by omega)
                 have hC : ckC x ap := by have := hr.2; rw [e3] at this; exact this)
  all_goals try have hlt1 : (k : Int) < ap.length := by assumption
  all_goals try have hlt2 : (q : Int) < ap.length := by assumption
  all_goals try have hlt3 : (r : Int) < ap.length := by assumption
  all_goals try have hlt4 : (s : Int) < ap.length := by assumption
  all_goals try have hlt5 : (j : Int) < (linkR x (ap.getD s 0)).length := by assumption
  · exact Hold.intro ⟨Nat.zero_le _, ckA_nil⟩
  · have h : ap.getD k 0 < 0 := by assumption
    exact (checkR_2 (getD_mem (j := k) (by omega)) (fun e => by omega)).symm
  · have h : ap.getD k 0 ≥ x.1.1 := by assumption
    exact (checkR_2 (getD_mem (j := k) (by omega)) (fun e => by have := e.2; exact absurd h (Int.not_le.2 this))).symm
  · have h1 : ¬ ap.getD k 0 < 0 := by assumption
    have h2 : ¬ ap.getD k 0 ≥ x.1.1 := by assumption
    exact Hold.intro ⟨by omega, ckA_succ hk.2 (by omega) ⟨by omega, Int.not_le.1 h2⟩⟩
  · exact Hold.intro ⟨Nat.zero_le _, List.nodup_nil⟩
  · unfold insM; rfl
  · have h : had (insM (ap.take q)) (ap.getD q 0) = true := by assumption
    have h := (insM_had _ _).1 h
    exact (checkR_9 hA (fun hn => nodup_take hn (by omega) h)).symm
  · have h : had (insM (ap.take q)) (ap.getD q 0) = false := by assumption
    exact Hold.intro ⟨by omega, nodup_succ hq.2 (by omega) (fun e => by rw [(insM_had _ _).2 e] at h; cases h)⟩
  · exact insM_succ (by omega)
  · exact Hold.intro ⟨Nat.zero_le _, ckC_nil⟩
  · have h : innerR x (ap.getD r 0) = true := by assumption
    exact Hold.intro ⟨by omega, ckC_succ hr.2 (by omega) h⟩
  · have h : innerR x (ap.getD r 0) = false := by assumption
    exact (checkR_13 hA hB (getD_mem (j := r) (by omega)) h).symm
  · exact Hold.intro ⟨Nat.zero_le _, ckDD_nil⟩
  · exact Hold.intro (fun y h => by cases h; exact g)
  · exact Hold.intro ⟨Nat.zero_le _, fun v h => by cases h⟩
  · have h : had (insM (ap.take q)) ((linkR x (ap.getD s 0)).getD j 0) = true := by assumption
    rw [e2] at h
    have h := (insM_had _ _).1 h
    exact (checkR_14 hA hB hC (getD_mem (j := s) (by omega)) (getD_mem (j := j) (l := linkR x (ap.getD s 0)) (by omega)) h).symm
  · have h : had (insM (ap.take q)) ((linkR x (ap.getD s 0)).getD j 0) = false := by assumption
    rw [e2] at h
    refine Hold.intro ⟨by omega, fun v hv => ?_⟩
    rw [take_succ_mem (by omega)] at hv
    rcases hv with hv | hv
    · exact hj.2 v hv
    · rw [hv]; intro e; rw [(insM_had _ _).2 e] at h; cases h
  · refine Hold.intro ?_; omega
  · have hge : ¬ (j : Int) < (linkR x (ap.getD s 0)).length := by assumption
    refine Hold.intro ⟨by omega, ckDD_succ hs.2 (by omega) fun v hv => hj.2 v ?_⟩
    rw [List.take_of_length_le (by omega)]; exact hv
  · have e4 : ap.take s = ap := List.take_of_length_le (by omega)
    have := hs.2
    rw [e4] at this
    have this : ckD x ap := by unfold ckDD at this; exact this
    exact (checkR_0 hA hB hC this).symm
def starCkC : List AV → Option Res := con2 (.pt tabE) (.sl i64E) (fun o ap => match o with | some x => some (none, some (Good x), .s (.int .i64 (checkR x ap))) | none => none)
theorem starCkRow : FnRow Try.prog 71 starCkC := ⟨con2_ok fun o ap r h => by
  cases o with
  | none => cases h
  | some x => cases h; exact fn_by (rulesF (fn := [(74, verticesC), (25, innerC), (27, linkC)]) (fr := []) ⟨verticesRow, innerRow, linkRow, trivial⟩ trivial) Try.func71 (by kernel_rfl) fun _ h => sck_vc x ap h, _, Try.func71, by kernel_rfl, by kernel_rfl⟩
end S1

open Go Go.Vm Go.Proofs
namespace S1
set_option maxRecDepth 100000

/-! edges in plain words -/
/-- Is there such an edge? -/
def eE (l : List P3) (a b : Int) : Prop := ∃ i, i < l.length ∧ dE (tg l i) a b
theorem cor_dE {x : tabE.T} {c : Int} (h : tHas x c = true) : (c / 3).toNat < x.1.2.length ∧ dE (tg x.1.2 (c / 3).toNat) (tEdge x c).1 (tEdge x c).2 := by
  have hc := tHas_iff.1 h
  have h1 := tHas_iff.1 (hasNP h).1
  have h2 := tHas_iff.1 (hasNP h).2
  refine ⟨by omega, ?_⟩
  show dE _ (tVert x (tNext x c)) (tVert x (tPrev x c))
  rw [tVert_t h1.1 h1.2, tVert_t h2.1 h2.2, tNext_t h, tPrev_t h]
  have e1 : (trn c 1 / 3).toNat = (c / 3).toNat := by unfold trn; omega
  have e2 : (trn c 2 / 3).toNat = (c / 3).toNat := by unfold trn; omega
  rw [e1, e2]
  have : c % 3 = 0 ∨ c % 3 = 1 ∨ c % 3 = 2 := by omega
  rcases this with e | e | e
  · rw [show trn c 1 % 3 = 1 by unfold trn; omega, show trn c 2 % 3 = 2 by unfold trn; omega]; exact .inr (.inl ⟨rfl, rfl⟩)
  · rw [show trn c 1 % 3 = 2 by unfold trn; omega, show trn c 2 % 3 = 0 by unfold trn; omega]; exact .inr (.inr ⟨rfl, rfl⟩)
  · rw [show trn c 1 % 3 = 0 by unfold trn; omega, show trn c 2 % 3 = 1 by unfold trn; omega]; exact .inl ⟨rfl, rfl⟩
theorem dE_cor {x : tabE.T} {j : Nat} {a b : Int} (hj : j < x.1.2.length) (h : dE (tg x.1.2 j) a b) : ∃ c, tHas x c = true ∧ tEdge x c = (a, b) ∧ (c / 3).toNat = j := by
  have key : ∀ k : Int, 0 ≤ k → k < 3 → p3 (tg x.1.2 j) ((k + 1) % 3) = a → p3 (tg x.1.2 j) ((k + 2) % 3) = b → ∃ c, tHas x c = true ∧ tEdge x c = (a, b) ∧ (c / 3).toNat = j := fun k h1 h2 ea eb => by
    have hc : tHas x (3 * (j : Int) + k) = true := tHas_iff.2 (by omega)
    have k1 := tHas_iff.1 (hasNP hc).1
    have k2 := tHas_iff.1 (hasNP hc).2
    refine ⟨3 * j + k, hc, ?_, by omega⟩
    show (tVert x (tNext x _), tVert x (tPrev x _)) = _
    rw [tVert_t k1.1 k1.2, tVert_t k2.1 k2.2, tNext_t hc, tPrev_t hc]
    rw [show (trn (3 * (j : Int) + k) 1 / 3).toNat = j by unfold trn; omega, show (trn (3 * (j : Int) + k) 2 / 3).toNat = j by unfold trn; omega,
      show trn (3 * (j : Int) + k) 1 % 3 = (k + 1) % 3 by unfold trn; omega, show trn (3 * (j : Int) + k) 2 % 3 = (k + 2) % 3 by unfold trn; omega, ea, eb]
  rcases h with h | h | h
  · exact key 2 (by omega) (by omega) h.1 h.2
  · exact key 0 (by omega) (by omega) h.1 h.2
  · exact key 1 (by omega) (by omega) h.1 h.2
theorem eE_iff {x : tabE.T} {a b : Int} : eE x.1.2 a b ↔ ∃ c, tHas x c = true ∧ tEdge x c = (a, b) := by
  constructor
  · rintro ⟨i, hi, h⟩
    obtain ⟨c, h1, h2, _⟩ := dE_cor hi h
    exact ⟨c, h1, h2⟩
  · rintro ⟨c, h1, h2⟩
    have := cor_dE h1
    rw [h2] at this
    exact ⟨_, this⟩
theorem bE_iff {x : tabE.T} (g : Full x) {w u : Int} : bE x w u ↔ eE x.1.2 w u ∧ ¬ eE x.1.2 u w := by
  rw [eE_iff, eE_iff]
  constructor
  · rintro ⟨c, h1, h2, h3⟩
    refine ⟨⟨c, h1, h3⟩, fun ⟨d, k1, k2⟩ => ?_⟩
    have := g.opp_is (c := c) k1 (by rw [k2, h3])
    have h4 := (tHas_iff.1 k1).1
    omega
  · rintro ⟨⟨c, h1, h3⟩, h⟩
    refine ⟨c, h1, ?_, h3⟩
    by_cases e : tOpp x c < 0
    · exact e
    · obtain ⟨k1, k2, k3, k4⟩ := g.opp_v (c := c) (by omega)
      refine absurd ⟨tOpp x c, k2, ?_⟩ h
      show (_, _) = _
      rw [k3, k4]
      have e1 : tVert x (tNext x c) = w := congrArg Prod.fst h3
      have e2 : tVert x (tPrev x c) = u := congrArg Prod.snd h3
      rw [e1, e2]
theorem inner_iff {x : tabE.T} (g : Full x) {v : Int} : innerR x v = true ↔ (0 ≤ v ∧ v < x.1.1) ∧ ¬ ∃ w, bE x w v := by
  unfold innerR
  rw [Bool.and_eq_true, Bool.not_eq_true']
  constructor
  · rintro ⟨h1, h2⟩
    have ht := there_iff.1 h1
    refine ⟨⟨ht.1, ht.2.1⟩, fun ⟨w, hw⟩ => ?_⟩
    obtain ⟨b, eb, eL, hb1, hb2, hb3, hall, _, _, hend⟩ := g.around ht.1 ht.2.1
    obtain ⟨d, d1, d2, d3, _⟩ := bE_last g hw
    rcases hend with h | h
    · rw [h.1] at h2; cases h2
    · have := h.2 d (by rw [← d2]; exact g.around_all d1)
      omega
  · rintro ⟨⟨h0, h1⟩, h2⟩
    refine ⟨g.there h0 h1, ?_⟩
    obtain ⟨b, eb, eL, hb1, hb2, hb3, hall, _, _, hend⟩ := g.around h0 h1
    rcases hend with h | h
    · have := first_bE g hb1 h.2
      rw [hb2] at this
      exact absurd (bE_next g this) h2
    · exact h.1
/-! border loops -/
abbrev nx (x : tabE.T) (u : Int) : Int := nxt (behO (some x)) u
theorem iter_add (f : Int → Int) (a : Int) (i : Nat) : ∀ j, iter f (iter f a i) j = iter f a (i + j)
  | 0 => rfl
  | j + 1 => congrArg f (iter_add f a i j)
structure LoopOk (x : tabE.T) (L : List Int) : Prop where
  ne : 0 < L.length
  cyc : ∀ i, i < L.length → bE x (L.getD ((i + 1) % L.length) 0) (L.getD i 0)
  nd : L.Nodup
theorem walkF_run (m : NxM) (v : Int) {p : Nat} (hp : iter (nxt m) v p = v) (hl : ∀ j, 1 ≤ j → j < p → iter (nxt m) v j ≠ v) : ∀ (r k n : Nat), k + 1 + r = p → r < n → walkF m v n (iter (nxt m) v (k + 1)) = (List.range r).map fun j => iter (nxt m) v (k + 1 + j)
  | 0, k, n, h1, h2 => by
    obtain ⟨n, rfl⟩ : ∃ n', n = n' + 1 := ⟨n - 1, by omega⟩
    unfold walkF
    rw [show k + 1 = p by omega, if_pos hp]; rfl
  | r + 1, k, n, h1, h2 => by
    obtain ⟨n, rfl⟩ : ∃ n', n = n' + 1 := ⟨n - 1, by omega⟩
    unfold walkF
    rw [if_neg (hl (k + 1) (by omega) (by omega))]
    have := walkF_run m v hp hl r (k + 1) n (by omega) (by omega)
    show _ :: walkF m v n (iter (nxt m) v (k + 1 + 1)) = _
    rw [this, List.range_succ_eq_map, List.map_cons, List.map_map]
    congr 1
    refine List.map_congr_left fun j _ => ?_
    show _ = iter (nxt m) v (k + 1 + (j + 1))
    rw [show k + 1 + 1 + j = k + 1 + (j + 1) by omega]
theorem exists_least {P : Nat → Prop} [DecidablePred P] {n : Nat} (h : P n) : ∃ p, P p ∧ p ≤ n ∧ ∀ j, j < p → ¬ P j := by
  induction n using Nat.strongRecOn with
  | _ n ih =>
    by_cases e : ∃ j, j < n ∧ P j
    · obtain ⟨j, hj, hP⟩ := e
      obtain ⟨p, h1, h2, h3⟩ := ih j hj hP
      exact ⟨p, h1, by omega, h3⟩
    · exact ⟨n, h, Nat.le_refl _, fun j hj hP => e ⟨j, hj, hP⟩⟩
theorem nx_inj {x : tabE.T} (g : Full x) {u u' : Int} (h : ∃ w, bE x w u) (h' : ∃ w, bE x w u') (e : nx x u = nx x u') : u = u' := by
  obtain ⟨w, hw⟩ := h
  obtain ⟨w', hw'⟩ := h'
  have e : nxt (behO (some x)) u = nxt (behO (some x)) u' := e
  rw [nxt_is g hw, nxt_is g hw'] at e
  subst e
  exact bE_right g hw hw'
theorem iter_cancel {x : tabE.T} (g : Full x) {v : Int} (hv : ∃ w, bE x w v) : ∀ i d, iter (nx x) v i = iter (nx x) v (i + d) → v = iter (nx x) v d
  | 0, d, h => by rw [Nat.zero_add] at h; exact h
  | i + 1, d, h => by
    refine iter_cancel g hv i d (nx_inj g (walk_key g hv i) (walk_key g hv (i + d)) ?_)
    rw [show i + 1 + d = (i + d) + 1 by omega] at h
    exact h
/-- What goes round from a border vertex. -/
theorem walk_is {x : tabE.T} (g : Full x) {v : Int} (hv : ∃ w, bE x w v) : ∃ p, 0 < p ∧ iter (nx x) v p = v ∧ (∀ j, 1 ≤ j → j < p → iter (nx x) v j ≠ v) ∧ walkL (some x) v = (List.range p).map fun j => iter (nx x) v j := by
  have hex : ∃ n, n ≤ 4097 ∧ (1 ≤ n ∧ iter (nx x) v n = v) := by
    apply Classical.byContradiction
    intro h
    have := walk_fin g hv (k := 4097) fun j h1 h2 e => h ⟨j, h2, h1, e⟩
    omega
  obtain ⟨n, hn, h⟩ := hex
  obtain ⟨p, ⟨h1, h2⟩, h3, h4⟩ := exists_least (P := fun n => 1 ≤ n ∧ iter (nx x) v n = v) h
  have hl : ∀ j, 1 ≤ j → j < p → iter (nx x) v j ≠ v := fun j a b e => h4 j b ⟨a, e⟩
  refine ⟨p, h1, h2, hl, ?_⟩
  have := walkF_run (behO (some x)) v h2 hl (p - 1) 0 10000 (by omega) (by omega)
  obtain ⟨w, hw⟩ := hv
  unfold walkL
  rw [if_pos (by rw [(beh_iff g).2 hw]; rfl)]
  have e : walkF (behO (some x)) v 10000 (nxt (behO (some x)) v) = _ := this
  rw [e]
  obtain ⟨q, rfl⟩ : ∃ q, p = q + 1 := ⟨p - 1, by omega⟩
  rw [List.range_succ_eq_map, List.map_cons, List.map_map]
  refine congrArg (v :: ·) ?_
  show (List.range (q + 1 - 1)).map _ = _
  rw [Nat.add_sub_cancel]
  refine List.map_congr_left fun j _ => ?_
  show iter _ v (0 + 1 + j) = iter _ v (j + 1)
  rw [show 0 + 1 + j = j + 1 by omega]
theorem mapr_get {f : Nat → Int} {p i : Nat} (h : i < p) : ((List.range p).map f).getD i 0 = f i := by
  rw [List.getD_eq_getElem?_getD, List.getElem?_map, List.getElem?_range h]; rfl
theorem walk_ok {x : tabE.T} (g : Full x) {v : Int} (hv : ∃ w, bE x w v) : LoopOk x (walkL (some x) v) := by
  obtain ⟨p, h1, h2, h3, e⟩ := walk_is g hv
  rw [e]
  have hlen : ((List.range p).map fun j => iter (nx x) v j).length = p := by rw [List.length_map, List.length_range]
  refine ⟨by rw [hlen]; exact h1, fun i hi => ?_, ?_⟩
  · rw [hlen] at hi ⊢
    rw [mapr_get hi, mapr_get (Nat.mod_lt _ h1)]
    obtain ⟨w, hw⟩ := walk_key g hv i
    have e1 : iter (nx x) v ((i + 1) % p) = nx x (iter (nx x) v i) := by
      by_cases hl : i + 1 < p
      · rw [Nat.mod_eq_of_lt hl]; rfl
      · rw [show i + 1 = p by omega, Nat.mod_self]
        have : iter (nx x) v p = nx x (iter (nx x) v i) := by rw [show p = i + 1 by omega]; rfl
        rw [← this, h2]; rfl
    rw [e1]
    show bE x (nxt (behO (some x)) (iter (nxt (behO (some x))) v i)) _
    rw [nxt_is g hw]; exact hw
  · have key : ∀ i j, i < j → j < p → iter (nx x) v i ≠ iter (nx x) v j := fun i j h4 h5 e => by
      have := iter_cancel g hv i (j - i) (by rw [e]; congr 1; omega)
      exact h3 (j - i) (by omega) (by omega) this.symm
    refine List.Pairwise.map _ (fun i j h => ?_) (List.nodup_range (n := p) |>.imp_of_mem (S := fun i j => i ≠ j ∧ i < p ∧ j < p) fun hi hj hn => ⟨hn, List.mem_range.1 hi, List.mem_range.1 hj⟩)
    obtain ⟨hn, hi, hj⟩ := h
    rcases Nat.lt_or_gt_of_ne hn with hlt | hgt
    · exact key i j hlt hj
    · exact (key j i hgt hi).symm
theorem walk_no {x : tabE.T} (g : Full x) {v : Int} (hv : ¬ ∃ w, bE x w v) : walkL (some x) v = [] := by
  unfold walkL
  rw [if_neg]
  intro h
  cases e : mget i64E (behO (some x)) v with
  | none => rw [e] at h; cases h
  | some w => exact hv ⟨w, (beh_iff g).1 e⟩
theorem mem_getD {L : List Int} {u : Int} (h : u ∈ L) : ∃ i, i < L.length ∧ L.getD i 0 = u := by
  obtain ⟨i, hi, e⟩ := List.mem_iff_getElem.1 h
  exact ⟨i, hi, by rw [List.getD_eq_getElem?_getD, List.getElem?_eq_getElem hi]; exact e⟩
section
variable {x : tabE.T}
theorem LoopOk.bord {L : List Int} (h : LoopOk x L) {u : Int} (hu : u ∈ L) : ∃ w, bE x w u := by
  obtain ⟨i, hi, e⟩ := mem_getD hu
  have := h.cyc i hi
  rw [e] at this
  exact ⟨_, this⟩
theorem LoopOk.next {L : List Int} (h : LoopOk x L) (g : Full x) {u : Int} (hu : u ∈ L) : nx x u ∈ L := by
  obtain ⟨i, hi, e⟩ := mem_getD hu
  have := h.cyc i hi
  rw [e] at this
  show nxt (behO (some x)) u ∈ L
  rw [nxt_is g this]
  exact getD_mem (Nat.mod_lt _ h.ne)
theorem LoopOk.iters {L : List Int} (h : LoopOk x L) (g : Full x) {u : Int} (hu : u ∈ L) : ∀ k, iter (nx x) u k ∈ L
  | 0 => hu
  | k + 1 => h.next g (h.iters g hu k)
/-- Loops that meet one from v hold v. -/
theorem loop_meet (g : Full x) {v : Int} (hv : ∃ w, bE x w v) {L : List Int} (h : LoopOk x L) {u : Int} (h1 : u ∈ walkL (some x) v) (h2 : u ∈ L) : v ∈ L := by
  obtain ⟨p, p1, p2, p3, e⟩ := walk_is g hv
  rw [e] at h1
  obtain ⟨i, hi, rfl⟩ := List.mem_map.1 h1
  have hi := List.mem_range.1 hi
  have := h.iters g h2 (p - i)
  rw [iter_add, show i + (p - i) = p by omega, p2] at this
  exact this
theorem walk_self (g : Full x) {v : Int} (hv : ∃ w, bE x w v) : v ∈ walkL (some x) v := by
  obtain ⟨p, p1, p2, p3, e⟩ := walk_is g hv
  rw [e]
  exact List.mem_map.2 ⟨0, List.mem_range.2 p1, rfl⟩
theorem had_fold (l : List Int) : ∀ (m : ReM) (v : Int), had (l.foldl (fun m u => mset (.int .i64) m u true) m) v = true ↔ had m v = true ∨ v ∈ l := by
  induction l with
  | nil => intro m v; simp
  | cons a r ih =>
    intro m v
    rw [List.foldl_cons, ih]
    by_cases e : a = v
    · subst e
      have : had (mset (.int .i64) m a true) a = true := by
        show (mget (.int .i64) (mset (.int .i64) m a true) a).getD false = true
        rw [mget_same]; rfl
      simp [this]
    · have : had (mset (.int .i64) m a true) v = had m v := by
        show (mget (.int .i64) (mset (.int .i64) m a true) v).getD false = _
        rw [mget_other _ e]; rfl
      rw [this, List.mem_cons]
      constructor
      · rintro (h | h)
        · exact .inl h
        · exact .inr (.inr h)
      · rintro (h | h | h)
        · exact .inl h
        · exact absurd h.symm e
        · exact .inr h
structure Lps (x : tabE.T) (Ls : List (List Int)) (k : Int) : Prop where
  ok : ∀ L ∈ Ls, LoopOk x L
  nd : Ls.flatten.Nodup
  all : ∀ u, 0 ≤ u → u < k → (∃ w, bE x w u) → u ∈ Ls.flatten
theorem lps_all (g : Full x) : ∀ k, Lps x (lpS x k).2 k ∧ ∀ u, had (lpS x k).1 u = true ↔ u ∈ (lpS x k).2.flatten
  | 0 => ⟨⟨fun L h => (by cases h), List.nodup_nil, fun u h1 h2 _ => by omega⟩, fun u => ⟨fun h => (by cases h), fun h => (by cases h)⟩⟩
  | k + 1 => by
    obtain ⟨ih, ihm⟩ := lps_all g k
    cases hh : had (lpS x k).1 k with
    | true =>
      rw [lpS_t hh]
      refine ⟨⟨ih.ok, ih.nd, fun u h1 h2 h3 => ?_⟩, ihm⟩
      by_cases e : u = k
      · rw [e]; exact (ihm k).1 hh
      · exact ih.all u h1 (by omega) h3
    | false =>
      rw [lpS_f hh]
      by_cases hv : ∃ w, bE x w (k : Int)
      · have hw := walk_ok g hv
        rw [if_pos hw.ne]
        have hdis : ∀ u ∈ walkL (some x) k, u ∉ (lpS x k).2.flatten := fun u hu hf => by
          obtain ⟨L, hL, huL⟩ := List.mem_flatten.1 hf
          have := loop_meet g hv (ih.ok L hL) hu huL
          rw [(ihm k).2 (List.mem_flatten.2 ⟨L, hL, this⟩)] at hh
          cases hh
        refine ⟨⟨fun L hL => ?_, ?_, fun u h1 h2 h3 => ?_⟩, fun u => ?_⟩
        · rcases List.mem_append.1 hL with hL | hL
          · exact ih.ok L hL
          · rw [List.mem_singleton] at hL; rw [hL]; exact hw
        · rw [List.flatten_append, List.nodup_append]
          refine ⟨ih.nd, by simpa using hw.nd, fun a ha b hb e => ?_⟩
          have hb : b ∈ walkL (some x) k := by simpa using hb
          subst e
          exact hdis a hb ha
        · rw [List.flatten_append, List.mem_append]
          by_cases e : u = k
          · rw [e]; exact .inr (by simpa using walk_self g hv)
          · exact .inl (ih.all u h1 (by omega) h3)
        · rw [List.flatten_append, List.mem_append, had_fold, ihm u]
          simp
      · rw [walk_no g hv]
        rw [if_neg (by simp)]
        refine ⟨⟨ih.ok, ih.nd, fun u h1 h2 h3 => ?_⟩, ihm⟩
        by_cases e : u = k
        · rw [e] at h3; exact absurd h3 hv
        · exact ih.all u h1 (by omega) h3
theorem loops_lps (g : Full x) : Lps x (loopsR x) x.1.1 := by
  have := (lps_all g x.1.1.toNat).1
  have h0 : 0 ≤ x.1.1 := g.fit.1
  rw [Int.toNat_of_nonneg h0] at this
  exact this
theorem loops_mem (g : Full x) {u : Int} : u ∈ (loopsR x).flatten ↔ ∃ w, bE x w u := by
  have h := loops_lps g
  constructor
  · intro hu
    obtain ⟨L, hL, huL⟩ := List.mem_flatten.1 hu
    exact (h.ok L hL).bord huL
  · rintro ⟨w, hw⟩
    have := bE_in g hw
    exact h.all u this.2.1.1 this.2.1.2 ⟨w, hw⟩
end
end S1

open Go Go.Vm Go.Proofs
namespace S1
set_option maxRecDepth 100000

/-! what is filled -/
/-- How many vertices. -/
abbrev vN (x : tabE.T) : Int := x.1.1
theorem bE_inN {x : tabE.T} (g : Full x) {w u : Int} (h : bE x w u) : (0 ≤ w ∧ w < vN x) ∧ (0 ≤ u ∧ u < vN x) ∧ w ≠ u := bE_in g h
theorem fitN {x : tabE.T} (g : Full x) : 0 ≤ vN x ∧ vN x ≤ 4096 := ⟨g.fit.1, g.fit.2.1⟩
def starT (L : List Int) (z : Int) (m : Nat) : List P3 := (List.range m).map fun i => (L.getD i 0, L.getD ((i + 1) % L.length) 0, z)
def fillS (n : Int) (Ls : List (List Int)) (k : Nat) : List P3 := (List.range k).flatMap fun (j : Nat) => starT (Ls.getD j []) (n + (j : Int)) (Ls.getD j []).length
theorem fillS_succ (n : Int) (Ls : List (List Int)) (k : Nat) : fillS n Ls (k + 1) = fillS n Ls k ++ starT (Ls.getD k []) (n + (k : Int)) (Ls.getD k []).length := by
  unfold fillS; rw [List.range_succ, List.flatMap_append]; simp
theorem starT_succ (L : List Int) (z : Int) (m : Nat) : starT L z (m + 1) = starT L z m ++ [(L.getD m 0, L.getD ((m + 1) % L.length) 0, z)] := by
  unfold starT; rw [List.range_succ, List.map_append]; rfl
theorem range_getD {α : Type} (d : α) (L : List α) : (List.range L.length).map (fun i => L.getD i d) = L := by
  apply List.ext_getElem
  · rw [List.length_map, List.length_range]
  · intro i h1 h2
    rw [List.getElem_map, List.getElem_range, List.getD_eq_getElem?_getD, List.getElem?_eq_getElem h2]; rfl
theorem starT_fst (L : List Int) (z : Int) : (starT L z L.length).map (·.1) = L := by
  unfold starT
  rw [List.map_map]
  exact range_getD 0 L
theorem fillS_fst (n : Int) (Ls : List (List Int)) : (fillS n Ls Ls.length).map (·.1) = Ls.flatten := by
  unfold fillS
  rw [List.map_flatMap]
  have : ∀ k, (List.range k).flatMap (fun j => (starT (Ls.getD j []) (n + (j : Int)) (Ls.getD j []).length).map (·.1)) = ((List.range k).map fun j => Ls.getD j []).flatten := fun k => by
    rw [← List.flatMap_def]
    congr 1
    funext j
    exact starT_fst _ _
  rw [this, range_getD]
theorem fillS_mem {n : Int} {Ls : List (List Int)} {k : Nat} {t : P3} : t ∈ fillS n Ls k ↔ ∃ j i : Nat, j < k ∧ i < (Ls.getD j []).length ∧ t = ((Ls.getD j []).getD i 0, (Ls.getD j []).getD ((i + 1) % (Ls.getD j []).length) 0, n + (j : Int)) := by
  unfold fillS starT
  rw [List.mem_flatMap]
  constructor
  · rintro ⟨j, hj, ht⟩
    obtain ⟨i, hi, rfl⟩ := List.mem_map.1 ht
    exact ⟨j, i, List.mem_range.1 hj, List.mem_range.1 hi, rfl⟩
  · rintro ⟨j, i, hj, hi, rfl⟩
    exact ⟨j, List.mem_range.2 hj, List.mem_map.2 ⟨i, List.mem_range.2 hi, rfl⟩⟩
theorem getDn_mem {Ls : List (List Int)} {j : Nat} (h : j < Ls.length) : Ls.getD j [] ∈ Ls := by
  rw [List.getD_eq_getElem?_getD, List.getElem?_eq_getElem h]; exact List.getElem_mem h
theorem tg_mem {l : List P3} {i : Nat} (h : i < l.length) : tg l i ∈ l := by
  unfold tg; rw [List.getD_eq_getElem?_getD, List.getElem?_eq_getElem h]; exact List.getElem_mem h
theorem mem_tg {l : List P3} {t : P3} (h : t ∈ l) : ∃ i, i < l.length ∧ tg l i = t := by
  obtain ⟨i, hi, e⟩ := List.mem_iff_getElem.1 h
  exact ⟨i, hi, by unfold tg; rw [List.getD_eq_getElem?_getD, List.getElem?_eq_getElem hi]; exact e⟩
theorem tgA1 {l S : List P3} {i : Nat} (h : i < l.length) : tg (l ++ S) i = tg l i := by
  unfold tg; rw [List.getD_eq_getElem?_getD, List.getD_eq_getElem?_getD, List.getElem?_append_left h]
theorem tgA2 {l S : List P3} {i : Nat} (h : l.length ≤ i) : tg (l ++ S) i = tg S (i - l.length) := by
  unfold tg; rw [List.getD_eq_getElem?_getD, List.getD_eq_getElem?_getD, List.getElem?_append_right h]
theorem eE_mem {l : List P3} {a b : Int} : eE l a b ↔ ∃ t ∈ l, dE t a b := by
  constructor
  · rintro ⟨i, hi, h⟩; exact ⟨_, tg_mem hi, h⟩
  · rintro ⟨t, ht, h⟩
    obtain ⟨i, hi, e⟩ := mem_tg ht
    exact ⟨i, hi, by rw [e]; exact h⟩
theorem eE_app {l S : List P3} {a b : Int} : eE (l ++ S) a b ↔ eE l a b ∨ eE S a b := by
  simp only [eE_mem, List.mem_append]
  constructor
  · rintro ⟨t, ht | ht, h⟩
    · exact .inl ⟨t, ht, h⟩
    · exact .inr ⟨t, ht, h⟩
  · rintro (⟨t, ht, h⟩ | ⟨t, ht, h⟩)
    · exact ⟨t, .inl ht, h⟩
    · exact ⟨t, .inr ht, h⟩
theorem dE_hasV {t : P3} {a b : Int} (h : dE t a b) : hasV t a ∧ hasV t b := by
  rcases h with ⟨h1, h2⟩ | ⟨h1, h2⟩ | ⟨h1, h2⟩
  · exact ⟨.inl h1, .inr (.inl h2)⟩
  · exact ⟨.inr (.inl h1), .inr (.inr h2)⟩
  · exact ⟨.inr (.inr h1), .inl h2⟩
theorem fit_hasV {s : Int × List P3} (h : fitS s) {i : Nat} (hi : i < s.2.length) {v : Int} (hv : hasV (tg s.2 i) v) : 0 ≤ v ∧ v < s.1 := by
  have := triIn_spec (h.2.2.2 i hi)
  rcases hv with e | e | e <;> (rw [← e]; first | exact this.1 | exact this.2.1 | exact this.2.2)
end S1

open Go Go.Vm Go.Proofs
namespace S1
set_option maxRecDepth 100000

/-! star.Open's answer -/
def oldG (ap : List Int) (v : Nat) : Option Int := if had (insM ap) v = true then none else some v
def oldL (ap : List Int) (k : Nat) : List Int := (List.range k).filterMap (oldG ap)
def namS (ap : List Int) (l : List Int) (v : Nat) : List Int := if had (insM ap) v = true then l else l.set v (oldL ap v).length
def namL (n : Nat) (ap : List Int) (k : Nat) : List Int := irec (namS ap) (List.replicate n 0) k
def opG (n : Nat) (ap : List Int) (l : List P3) (j : Nat) : Option P3 :=
  if had (insM ap) (tg l j).1 = true ∨ had (insM ap) (tg l j).2.1 = true ∨ had (insM ap) (tg l j).2.2 = true then none
  else some ((namL n ap n).getD (tg l j).1.toNat 0, (namL n ap n).getD (tg l j).2.1.toNat 0, (namL n ap n).getD (tg l j).2.2.toNat 0)
def opT (n : Nat) (ap : List Int) (l : List P3) (j : Nat) : List P3 := (List.range j).filterMap (opG n ap l)
def openS (s : Int × List P3) (ap : List Int) : Int × List P3 := (((oldL ap s.1.toNat).length : Int), opT s.1.toNat ap s.2 s.2.length)
def openR (x : tabE.T) (ap : List Int) : (Int × List P3) × List Int × Int :=
  if checkR x ap ≠ 0 then ((0, []), [], checkR x ap) else if (chkR (openS x.1 ap)).1 = 0 then (openS x.1 ap, oldL ap x.1.1.toNat, 0) else ((0, []), [], 11)
def openO (s : Int × List P3) (ap : List Int) : (Int × List P3) × List Int × Int := match newO s with | some x => openR x ap | none => ((0, []), [], 11)
def openV (r : (Int × List P3) × List Int × Int) : AV := .tup [soupE.av r.1, .s (.sl i64E r.2.1), .s (.int .i64 r.2.2)]
/-- As it is handed back: of an error nothing comes. -/
def openW (r : (Int × List P3) × List Int × Int) : AV := if r.2.2 = 0 then openV r else .tup [.agg [.int .i64 0, .val (.slice none 0 0)], .s (.sl i64E []), .s (.int .i64 r.2.2)]

theorem had_iff {ap : List Int} {v : Int} : had (insM ap) v = true ↔ v ∈ ap := insM_had ap v
theorem oldL_succ (ap : List Int) (k : Nat) : oldL ap (k + 1) = oldL ap k ++ (oldG ap k).toList := fm_succ _ _
end S1
