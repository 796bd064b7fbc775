/- A part of the proofs of the laws of this seat: contracts of functions, each for every input that its text names. -/
import Derived.Test.YtbbpofkacdmjnaaVmRng2toFan2
import Derived.Test.YtbbpofkacdmjnaaT12toVmRng
set_option linter.unusedSimpArgs false
set_option linter.unusedVariables false
set_option maxHeartbeats 2000000
open Go Go.Vm Go.Proofs
namespace S1
set_option maxRecDepth 100000

/-! what a certified soup's table says beyond Good -/
theorem newS_tot (x : Int × List P3) : ∀ i, i ≤ 3 * x.2.length → ∀ c : Int, 3 * (x.2.length : Int) - i ≤ c → c < 3 * (x.2.length : Int) → ∃ d, mget .arr2 (newS x i).1 (tEdge (x, [], []) c) = some d
  | 0, _, c, h1, h2 => by omega
  | i + 1, hi, c, h1, h2 => by
    show ∃ d, mget .arr2 (mset .arr2 (newS x i).1 (tEdge (x, [], []) (3 * x.2.length - 1 - i)) (3 * x.2.length - 1 - i)) _ = some d
    by_cases e : tEdge (x, [], []) (3 * x.2.length - 1 - i) = tEdge (x, [], []) c
    · rw [e, mget_same]; exact ⟨_, rfl⟩
    · rw [mget_other _ e]
      refine newS_tot x i (by omega) c ?_ h2
      have : c ≠ 3 * (x.2.length : Int) - 1 - i := fun k => e (by rw [k])
      omega
theorem newS_at (x : Int × List P3) (hx : ∀ c, 0 ≤ tVert (x, [], []) c ∨ ¬ (0 ≤ c ∧ c < 3 * (x.2.length : Int))) {v : Nat} (hv : v < x.1.toNat) : ∀ i, i ≤ 3 * x.2.length → (∃ c : Int, 3 * (x.2.length : Int) - i ≤ c ∧ c < 3 * (x.2.length : Int) ∧ tVert (x, [], []) c = v) →
    0 ≤ (newS x i).2.getD v 0 ∧ (newS x i).2.getD v 0 < 3 * (x.2.length : Int) ∧ tVert (x, [], []) ((newS x i).2.getD v 0) = v
  | 0, _, ⟨c, h1, h2, _⟩ => by omega
  | i + 1, hi, ⟨c, h1, h2, h3⟩ => by
    show 0 ≤ ((newS x i).2.set (tVert (x, [], []) (3 * x.2.length - 1 - i)).toNat (3 * x.2.length - 1 - i)).getD v 0 ∧ ((newS x i).2.set (tVert (x, [], []) (3 * x.2.length - 1 - i)).toNat (3 * x.2.length - 1 - i)).getD v 0 < _ ∧ tVert (x, [], []) (((newS x i).2.set (tVert (x, [], []) (3 * x.2.length - 1 - i)).toNat (3 * x.2.length - 1 - i)).getD v 0) = v
    rw [List.getD_eq_getElem?_getD, List.getElem?_set]
    by_cases e : (tVert (x, [], []) (3 * x.2.length - 1 - i)).toNat = v
    · rw [if_pos e, if_pos (by rw [newS_len]; omega)]
      have := hx (3 * x.2.length - 1 - i)
      refine ⟨?_, ?_, ?_⟩
      · show 0 ≤ 3 * (x.2.length : Int) - 1 - i; omega
      · show 3 * (x.2.length : Int) - 1 - i < _; omega
      · show tVert (x, [], []) (3 * x.2.length - 1 - i) = v
        rcases this with h | h <;> omega
    · rw [if_neg e, ← List.getD_eq_getElem?_getD]
      refine newS_at x hx hv i (by omega) ⟨c, ?_, h2, h3⟩
      have : c ≠ 3 * (x.2.length : Int) - 1 - i := fun k => e (by rw [← k, h3]; rfl)
      omega
theorem mark3_get {s : List Bool} {t : P3} {v : Nat} (h : (mark3 s t).getD v false = true) : s.getD v false = true ∨ t.1.toNat = v ∨ t.2.1.toNat = v ∨ t.2.2.toNat = v := by
  unfold mark3 at h
  by_cases h1 : t.1.toNat = v
  · exact .inr (.inl h1)
  by_cases h2 : t.2.1.toNat = v
  · exact .inr (.inr (.inl h2))
  by_cases h3 : t.2.2.toNat = v
  · exact .inr (.inr (.inr h3))
  simp only [List.getD_eq_getElem?_getD, List.getElem?_set, h1, h2, h3, if_false] at h
  rw [List.getD_eq_getElem?_getD]; exact .inl h
theorem there_ex {n : Nat} {l : List P3} {v : Nat} : ∀ i, (thereF n l i).getD v false = true → ∃ j, j < i ∧ ((l.getD j (0, 0, 0)).1.toNat = v ∨ (l.getD j (0, 0, 0)).2.1.toNat = v ∨ (l.getD j (0, 0, 0)).2.2.toNat = v)
  | 0, h => by
    have h : (List.replicate n false).getD v false = true := h
    rw [List.getD_eq_getElem?_getD, List.getElem?_replicate] at h
    split at h <;> cases h
  | i + 1, h => by
    rcases mark3_get (s := thereF n l i) h with h | h
    · obtain ⟨j, a, b⟩ := there_ex i h
      exact ⟨j, by omega, b⟩
    · exact ⟨i, by omega, h⟩
theorem fit_nn {s : Int × List P3} (h : fitS s) : ∀ j, j < s.2.length → 0 ≤ (s.2.getD j (0, 0, 0)).1 ∧ 0 ≤ (s.2.getD j (0, 0, 0)).2.1 ∧ 0 ≤ (s.2.getD j (0, 0, 0)).2.2 := fun j hj => by
  have := triIn_spec (h.2.2.2 j hj); omega
/-- A good table that knows all edges, all vertices, and has no vertex pinched. -/
structure Full (x : tabE.T) : Prop extends Good x where
  tot : ∀ c, tHas x c = true → mget .arr2 x.2.1 (tEdge x c) = some c
  vtx : ∀ v : Int, 0 ≤ v → v < x.1.1 → tHas x (tCorner x v) = true ∧ tVert x (tCorner x v) = v
  pin : ∀ v : Nat, (v : Int) < x.1.1 → ∀ Q : Nat → Prop,
    (∀ i j : Nat, i < x.1.2.length → j < x.1.2.length → hasV (x.1.2.getD i (0, 0, 0)) v → hasV (x.1.2.getD j (0, 0, 0)) v → (∃ w : Int, w ≠ v ∧ hasV (x.1.2.getD i (0, 0, 0)) w ∧ hasV (x.1.2.getD j (0, 0, 0)) w) → Q i → Q j) →
    ∀ a, a < x.1.2.length → hasV (x.1.2.getD a (0, 0, 0)) v → Q a → ∀ i, i < x.1.2.length → hasV (x.1.2.getD i (0, 0, 0)) v → Q i
theorem tri_cor {x : tabE.T} {j : Nat} {v : Int} (hj : j < x.1.2.length) (h : hasV (x.1.2.getD j (0, 0, 0)) v) : ∃ c, tHas x c = true ∧ (c / 3).toNat = j ∧ tVert x c = v := by
  have key : ∀ k : Int, 0 ≤ k → k < 3 → p3 (x.1.2.getD j (0, 0, 0)) k = v → ∃ c, tHas x c = true ∧ (c / 3).toNat = j ∧ tVert x c = v := fun k h1 h2 e => by
    have hc : 0 ≤ 3 * (j : Int) + k ∧ 3 * (j : Int) + k < 3 * (x.1.2.length : Int) := by omega
    refine ⟨3 * j + k, tHas_iff.2 hc, by omega, ?_⟩
    rw [tVert_t hc.1 hc.2, show ((3 * (j : Int) + k) / 3).toNat = j by omega, show (3 * (j : Int) + k) % 3 = k by omega]
    exact e
  rcases h with h | h | h
  · exact key 0 (by omega) (by omega) h
  · exact key 1 (by omega) (by omega) h
  · exact key 2 (by omega) (by omega) h
theorem cor_tri {x : tabE.T} {c : Int} (h : tHas x c = true) : (c / 3).toNat < x.1.2.length ∧ hasV (x.1.2.getD (c / 3).toNat (0, 0, 0)) (tVert x c) := by
  have hc := tHas_iff.1 h
  refine ⟨by omega, ?_⟩
  rw [tVert_t hc.1 hc.2]
  have : c % 3 = 0 ∨ c % 3 = 1 ∨ c % 3 = 2 := by omega
  rcases this with e | e | e <;> rw [e]
  · exact .inl rfl
  · exact .inr (.inl rfl)
  · exact .inr (.inr rfl)
theorem full_new {s : Int × List P3} (h : (chkR s).1 = 0) : Full (newT s) := by
  have hc := cert_of h
  have g := good_new hc
  have hw := firstW_nil (chk_all h)
  refine { g with tot := fun c hc => ?_, vtx := fun v h1 h2 => ?_, pin := fun v hv Q hQ a ha1 ha2 ha3 => ?_ }
  · have i0 := tHas_iff.1 hc
    have i0 : 0 ≤ c ∧ c < 3 * (s.2.length : Int) := i0
    obtain ⟨d, hd⟩ := newS_tot s _ (Nat.le_refl _) c (by omega) i0.2
    have hd : mget .arr2 (newT s).2.1 (tEdge (newT s) c) = some d := hd
    obtain ⟨k1, k2⟩ := g.map _ _ hd
    rw [hd, g.uniq _ _ k1 hc k2]
  · have hl : loneR s = [] := hw _ (by simp)
    have h2 : v < s.1 := h2
    have hv : v.toNat < s.1.toNat := by omega
    have := List.filterMap_eq_nil_iff.1 hl v.toNat (List.mem_range.2 hv)
    unfold loG at this
    split at this
    case isFalse => cases this
    rename_i ht
    obtain ⟨j, hj, e⟩ := there_ex _ ht
    have nn := fit_nn hc.fit j hj
    obtain ⟨c, c1, c2, c3⟩ := tri_cor (x := newT s) (v := v) hj (by
      show (s.2.getD j (0, 0, 0)).1 = v ∨ (s.2.getD j (0, 0, 0)).2.1 = v ∨ (s.2.getD j (0, 0, 0)).2.2 = v
      omega)
    have c1 := tHas_iff.1 c1
    have c1 : 0 ≤ c ∧ c < 3 * (s.2.length : Int) := c1
    have hat := newS_at s (fun c => by
      by_cases h : 0 ≤ c ∧ c < 3 * (s.2.length : Int)
      · exact .inl (tVert_in (x := (s, [], [])) hc.fit (tHas_iff.2 h)).1
      · exact .inr h) hv _ (Nat.le_refl _) ⟨c, by omega, c1.2, by have : tVert (s, [], []) c = v := c3; omega⟩
    have e : tCorner (newT s) v = (newS s (3 * s.2.length)).2.getD v.toNat 0 := by
      unfold tCorner
      rw [if_pos (by show 0 ≤ v ∧ v < ((newS s _).2.length : Int); rw [newS_len]; omega)]; rfl
    rw [e]
    refine ⟨tHas_iff.2 ⟨hat.1, hat.2.1⟩, ?_⟩
    have := hat.2.2
    show tVert (s, [], []) _ = v
    omega
  · exact pin_all (n := s.1) (l := s.2) (hw (pinR s) (by simp)) (fit_nn hc.fit) hv Q hQ ha1 ha2 ha3

/-! corners of a triangle -/
section
variable {x : tabE.T} {c d : Int}
theorem np (h : tHas x c = true) : tNext x (tPrev x c) = c ∧ tPrev x (tNext x c) = c ∧ tNext x (tNext x c) = tPrev x c ∧ tPrev x (tPrev x c) = tNext x c := by
  have h1 := hasNP h
  rw [tNext_t h1.1, tNext_t h1.2, tPrev_t h1.1, tPrev_t h1.2, tNext_t h, tPrev_t h]
  unfold trn; omega
theorem edgeN (h : tHas x c = true) : tEdge x (tNext x c) = (tVert x (tPrev x c), tVert x c) := by
  unfold tEdge; rw [(np h).2.2.1, (np h).2.1]
theorem edgeP (h : tHas x c = true) : tEdge x (tPrev x c) = (tVert x c, tVert x (tNext x c)) := by
  unfold tEdge; rw [(np h).1, (np h).2.2.2]
theorem Good.ne (g : Good x) (h : tHas x c = true) : tVert x c ≠ tVert x (tNext x c) ∧ tVert x c ≠ tVert x (tPrev x c) ∧ tVert x (tNext x c) ≠ tVert x (tPrev x c) := by
  have h1 := g.ends _ (hasNP h).1
  have h2 := g.ends _ (hasNP h).2
  have h3 := g.ends _ h
  rw [edgeN h] at h1
  rw [edgeP h] at h2
  exact ⟨h2, fun e => h1 e.symm, h3⟩
theorem Good.same (g : Good x) (hc : tHas x c = true) (hd : tHas x d = true) (h1 : tVert x c = tVert x d) (h2 : tVert x (tNext x c) = tVert x (tNext x d)) : c = d := by
  have := g.uniq _ _ (hasNP hc).2 (hasNP hd).2 (by rw [edgeP hc, edgeP hd, h1, h2])
  rw [← (np hc).1, ← (np hd).1, this]
theorem Good.sameP (g : Good x) (hc : tHas x c = true) (hd : tHas x d = true) (h1 : tVert x c = tVert x d) (h2 : tVert x (tPrev x c) = tVert x (tPrev x d)) : c = d := by
  have := g.uniq _ _ (hasNP hc).1 (hasNP hd).1 (by rw [edgeN hc, edgeN hd, h1, h2])
  rw [← (np hc).2.1, ← (np hd).2.1, this]
theorem Good.after_v (g : Good x) (h : 0 ≤ tAfter x c) : tVert x (tAfter x c) = tVert x c ∧ tVert x (tNext x (tAfter x c)) = tVert x (tPrev x c) := by
  obtain ⟨h1, h2, h3⟩ := g.after_has h
  obtain ⟨k1, k2, k3⟩ := g.opp h3
  rw [edgeN h1] at k3
  have e : tAfter x c = tNext x (tOpp x (tNext x c)) := by unfold tAfter; rw [if_neg (by omega)]
  rw [e, (np k2).2.2.1]
  exact ⟨congrArg Prod.fst k3, congrArg Prod.snd k3⟩
theorem Good.before_v (g : Good x) (h : 0 ≤ tBefore x c) : tVert x (tBefore x c) = tVert x c ∧ tVert x (tPrev x (tBefore x c)) = tVert x (tNext x c) := by
  obtain ⟨h1, h2, h3⟩ := g.before_has h
  obtain ⟨k1, k2, k3⟩ := g.opp h3
  rw [edgeP h1] at k3
  have e : tBefore x c = tPrev x (tOpp x (tPrev x c)) := by unfold tBefore; rw [if_neg (by omega)]
  rw [e, (np k2).2.2.2]
  exact ⟨congrArg Prod.snd k3, congrArg Prod.fst k3⟩
theorem Full.facing (g : Full x) (h : tHas x d = true) : tFacing x (tEdge x d) = d := by
  unfold tFacing; rw [g.tot d h]; rfl
theorem Full.opp_is (g : Full x) (hd : tHas x d = true) (h : tEdge x d = ((tEdge x c).2, (tEdge x c).1)) : tOpp x c = d := by
  unfold tOpp; rw [← h]; exact g.facing hd
theorem Full.after_is (g : Full x) (hc : tHas x c = true) (hd : tHas x d = true) (h1 : tVert x d = tVert x c) (h2 : tVert x (tNext x d) = tVert x (tPrev x c)) : tAfter x c = d := by
  have e : tOpp x (tNext x c) = tPrev x d := g.opp_is (hasNP hd).2 (by rw [edgeP hd, edgeN hc, h1, h2])
  have := tHas_iff.1 (hasNP hd).2
  unfold tAfter; rw [if_neg (by rw [e]; omega), e, (np hd).1]
theorem Full.before_is (g : Full x) (hc : tHas x c = true) (hd : tHas x d = true) (h1 : tVert x d = tVert x c) (h2 : tVert x (tPrev x d) = tVert x (tNext x c)) : tBefore x c = d := by
  have e : tOpp x (tPrev x c) = tNext x d := g.opp_is (hasNP hd).1 (by rw [edgeN hd, edgeP hc, h1, h2])
  have := tHas_iff.1 (hasNP hd).1
  unfold tBefore; rw [if_neg (by rw [e]; omega), e, (np hd).2.1]
theorem Full.before_after (g : Full x) (h : 0 ≤ tAfter x c) : tBefore x (tAfter x c) = c := by
  obtain ⟨h1, h2, _⟩ := g.after_has h
  have := g.after_v h
  exact g.before_is h2 h1 this.1.symm this.2.symm
theorem Full.after_before (g : Full x) (h : 0 ≤ tBefore x c) : tAfter x (tBefore x c) = c := by
  obtain ⟨h1, h2, _⟩ := g.before_has h
  have := g.before_v h
  exact g.after_is h2 h1 this.1.symm this.2.symm
end

/-! round a vertex -/
theorem aroundF_clo {x : tabE.T} (g : Good x) {b : Int} : ∀ n k, k + n = 30000 → FInv (tAfter x) b k → ∀ y ∈ aroundF x b n (iter (tAfter x) b k), tAfter x y < 0 ∨ tAfter x y = b ∨ tAfter x y ∈ aroundF x b n (iter (tAfter x) b k)
  | 0, k, e, h, y, hy => by have := fin_after g h; omega
  | n + 1, k, e, h, y, hy => by
    unfold aroundF at hy ⊢
    by_cases h1 : tAfter x (iter (tAfter x) b k) < 0
    · rw [if_pos h1] at hy
      rw [List.mem_singleton.1 hy]; exact .inl h1
    · rw [if_neg h1] at hy ⊢
      by_cases h2 : tAfter x (iter (tAfter x) b k) = b
      · rw [if_pos h2] at hy
        rw [List.mem_singleton.1 hy]; exact .inr (.inl h2)
      · rw [if_neg h2] at hy ⊢
        have hn : iter (tAfter x) b (k + 1) ∈ aroundF x b n (iter (tAfter x) b (k + 1)) := by
          obtain ⟨m, rfl⟩ : ∃ m, n = m + 1 := ⟨n - 1, by have := fin_after g (h.succ h1 h2); omega⟩
          unfold aroundF; exact List.mem_cons_self ..
        rcases List.mem_cons.1 hy with hy | hy
        · rw [hy]; exact .inr (.inr (List.mem_cons_of_mem _ hn))
        · rcases aroundF_clo g n (k + 1) (by omega) (h.succ h1 h2) y hy with h | h | h
          · exact .inl h
          · exact .inr (.inl h)
          · exact .inr (.inr (List.mem_cons_of_mem _ h))
/-- Whatever holds of the first corner, and of each one behind one of which it holds. -/
theorem aroundF_all {x : tabE.T} {b : Int} (P : Int → Prop) (hs : ∀ c, P c → 0 ≤ tAfter x c → P (tAfter x c)) : ∀ n c, P c → ∀ y ∈ aroundF x b n c, P y
  | 0, c, _, y, hy => by cases hy
  | n + 1, c, h, y, hy => by
    unfold aroundF at hy
    split at hy
    · rw [List.mem_singleton.1 hy]; exact h
    · split at hy
      · rw [List.mem_singleton.1 hy]; exact h
      · rcases List.mem_cons.1 hy with hy | hy
        · rw [hy]; exact h
        · exact aroundF_all P hs n _ (hs c h (by omega)) y hy
/-- Where the walk back ends. -/
theorem firstF_ends {x : tabE.T} (g : Good x) {c0 : Int} : ∀ n k, k + n = 30000 → FInv (tBefore x) c0 k → ∃ m, FInv (tBefore x) c0 m ∧
    ((firstF x c0 n (iter (tBefore x) c0 k) = (iter (tBefore x) c0 m, true) ∧ tBefore x (iter (tBefore x) c0 m) < 0) ∨ (firstF x c0 n (iter (tBefore x) c0 k) = (c0, false) ∧ tBefore x (iter (tBefore x) c0 m) = c0))
  | 0, k, e, h => by have := fin_before g h; omega
  | n + 1, k, e, h => by
    unfold firstF
    by_cases h1 : tBefore x (iter (tBefore x) c0 k) < 0
    · rw [if_pos h1]; exact ⟨k, h, .inl ⟨rfl, h1⟩⟩
    · rw [if_neg h1]
      by_cases h2 : tBefore x (iter (tBefore x) c0 k) = c0
      · rw [if_pos h2]; exact ⟨k, h, .inr ⟨rfl, h2⟩⟩
      · rw [if_neg h2]
        exact firstF_ends g n (k + 1) (by omega) (h.succ h1 h2)
theorem there_iff {x : tabE.T} {v : Int} : tThere x v = true ↔ 0 ≤ v ∧ v < x.1.1 ∧ 0 ≤ tCorner x v := by
  simp only [tThere, Bool.and_eq_true, decide_eq_true_eq]
theorem Full.there {x : tabE.T} (g : Full x) {v : Int} (h0 : 0 ≤ v) (h1 : v < x.1.1) : tThere x v = true :=
  there_iff.2 ⟨h0, h1, (tHas_iff.1 (g.vtx v h0 h1).1).1⟩
/-- What is yielded round a vertex: corners there, closed under what is behind, and what is ahead. -/
theorem Full.around {x : tabE.T} (g : Full x) {v : Int} (h0 : 0 ≤ v) (h1 : v < x.1.1) :
    ∃ b, (firstR x v).1 = b ∧ aroundL (some x) v = aroundF x b 30000 b ∧ tHas x b = true ∧ tVert x b = v ∧ b ∈ aroundL (some x) v ∧ (∀ y ∈ aroundL (some x) v, tHas x y = true ∧ tVert x y = v) ∧
    (∀ y ∈ aroundL (some x) v, 0 ≤ tAfter x y → tAfter x y ∈ aroundL (some x) v) ∧ (∀ y ∈ aroundL (some x) v, 0 ≤ tBefore x y → tBefore x y ∈ aroundL (some x) v) ∧
    (((firstR x v).2 = true ∧ tBefore x b < 0) ∨ ((firstR x v).2 = false ∧ ∀ y ∈ aroundL (some x) v, 0 ≤ tAfter x y)) := by
  obtain ⟨k1, k2⟩ := g.vtx v h0 h1
  have e := aroundL_eq (x := x) h0 h1 (tHas_iff.1 k1).1
  obtain ⟨m, hm, hend⟩ := firstF_ends g.toGood (c0 := tCorner x v) 30000 0 (by omega) (fun j a b => by omega)
  have hend : (firstR x v = (iter (tBefore x) (tCorner x v) m, true) ∧ tBefore x (iter (tBefore x) (tCorner x v) m) < 0) ∨ (firstR x v = (tCorner x v, false) ∧ tBefore x (iter (tBefore x) (tCorner x v) m) = tCorner x v) := hend
  have itok : ∀ j, j ≤ m → tHas x (iter (tBefore x) (tCorner x v) j) = true ∧ tVert x (iter (tBefore x) (tCorner x v) j) = v := fun j => by
    induction j with
    | zero => exact fun _ => ⟨k1, k2⟩
    | succ j ih =>
      intro hj
      have hp : 0 ≤ tBefore x (iter (tBefore x) (tCorner x v) j) := (hm (j + 1) (by omega) hj).1
      exact ⟨(g.before_has hp).2.1, (g.before_v hp).1.trans (ih (by omega)).2⟩
  have hb : tHas x (firstR x v).1 = true ∧ tVert x (firstR x v).1 = v := by
    rcases hend with ⟨h, _⟩ | ⟨h, _⟩
    · rw [h]; exact itok m (Nat.le_refl _)
    · rw [h]; exact ⟨k1, k2⟩
  have hin : (firstR x v).1 ∈ aroundL (some x) v := by rw [e]; unfold aroundF; exact List.mem_cons_self ..
  have hall : ∀ y ∈ aroundL (some x) v, tHas x y = true ∧ tVert x y = v := by
    rw [e]
    exact aroundF_all _ (fun c hc ha => ⟨(g.after_has ha).2.1, (g.after_v ha).1.trans hc.2⟩) _ _ hb
  have haft : ∀ y ∈ aroundL (some x) v, 0 ≤ tAfter x y → tAfter x y ∈ aroundL (some x) v := fun y hy ha => by
    rw [e] at hy
    rcases aroundF_clo g.toGood 30000 0 rfl (fun j a b => by omega) y hy with h | h | h
    · omega
    · rw [h]; exact hin
    · rw [e]; exact h
  have hcyc : (firstR x v).2 = false → ∀ y ∈ aroundL (some x) v, 0 ≤ tAfter x y ∧ ∃ j, j ≤ m ∧ y = iter (tBefore x) (tCorner x v) j := fun hf => by
    rcases hend with ⟨h, _⟩ | ⟨h, hr⟩
    · rw [h] at hf; cases hf
    · have key : ∀ j, j ≤ m → 0 ≤ tAfter x (iter (tBefore x) (tCorner x v) j) ∧ ∃ i, i ≤ m ∧ tAfter x (iter (tBefore x) (tCorner x v) j) = iter (tBefore x) (tCorner x v) i := fun j hj => by
        cases j with
        | zero =>
          have h0 : 0 ≤ tCorner x v := (tHas_iff.1 k1).1
          have := g.after_before (c := iter (tBefore x) (tCorner x v) m) (by rw [hr]; exact h0)
          rw [hr] at this
          show 0 ≤ tAfter x (tCorner x v) ∧ ∃ i, i ≤ m ∧ tAfter x (tCorner x v) = _
          rw [this]
          exact ⟨(tHas_iff.1 (itok m (Nat.le_refl _)).1).1, m, Nat.le_refl _, rfl⟩
        | succ j =>
          have hp : 0 ≤ tBefore x (iter (tBefore x) (tCorner x v) j) := (hm (j + 1) (by omega) hj).1
          have : tAfter x (iter (tBefore x) (tCorner x v) (j + 1)) = iter (tBefore x) (tCorner x v) j := g.after_before hp
          rw [this]
          exact ⟨(tHas_iff.1 (itok j (by omega)).1).1, j, by omega, rfl⟩
      have : ∀ y ∈ aroundL (some x) v, ∃ j, j ≤ m ∧ y = iter (tBefore x) (tCorner x v) j := by
        rw [e]
        refine aroundF_all _ (fun c ⟨j, hj, hc⟩ _ => ?_) _ _ ⟨0, by omega, by rw [h]; rfl⟩
        obtain ⟨_, i, hi, e⟩ := key j hj
        exact ⟨i, hi, by rw [hc]; exact e⟩
      intro y hy
      obtain ⟨j, hj, ej⟩ := this y hy
      exact ⟨by rw [ej]; exact (key j hj).1, j, hj, ej⟩
  have hbef : ∀ y ∈ aroundL (some x) v, 0 ≤ tBefore x y → tBefore x y ∈ aroundL (some x) v := by
    have hP : ∀ y ∈ aroundL (some x) v, (0 ≤ tBefore x y → tBefore x y ∈ aroundL (some x) v) := by
      intro y hy
      have : y ∈ aroundL (some x) v ∧ (0 ≤ tBefore x y → tBefore x y ∈ aroundL (some x) v) := by
        have hy2 := hy
        rw [e] at hy2
        refine aroundF_all (fun y => y ∈ aroundL (some x) v ∧ (0 ≤ tBefore x y → tBefore x y ∈ aroundL (some x) v)) (fun c ⟨hc, _⟩ ha => ⟨haft c hc ha, fun _ => by rw [g.before_after ha]; exact hc⟩) _ _ ⟨hin, fun hp => ?_⟩ y hy2
        rcases hend with ⟨h, hn⟩ | ⟨h, hr⟩
        · rw [h] at hp; exact absurd hp (by show ¬ 0 ≤ tBefore x (iter (tBefore x) (tCorner x v) m); omega)
        · -- the walk forward: some round its end is the first again
          have hc := hcyc (by rw [h])
          have hz : tBefore x (tCorner x v) ∈ aroundL (some x) v := by
            -- each iterate is in it
            have back : ∀ i j, j + i = m → iter (tBefore x) (tCorner x v) j ∈ aroundL (some x) v := fun i => by
              induction i with
              | zero =>
                intro j hj
                have hj : j = m := by omega
                subst hj
                have h0 : 0 ≤ tCorner x v := (tHas_iff.1 k1).1
                have e1 := g.after_before (c := iter (tBefore x) (tCorner x v) j) (by rw [hr]; exact h0)
                rw [hr] at e1
                have := haft (tCorner x v) (by rw [h] at hin; exact hin) (by rw [e1]; exact (tHas_iff.1 (itok j (Nat.le_refl _)).1).1)
                rw [e1] at this; exact this
              | succ i ih =>
                intro j hj
                have h2 := ih (j + 1) (by omega)
                have hp : 0 ≤ tBefore x (iter (tBefore x) (tCorner x v) j) := (hm (j + 1) (by omega) (by omega)).1
                have e1 : tAfter x (iter (tBefore x) (tCorner x v) (j + 1)) = iter (tBefore x) (tCorner x v) j := g.after_before hp
                have := haft _ h2 (by rw [e1]; exact (tHas_iff.1 (itok j (by omega)).1).1)
                rw [e1] at this; exact this
            by_cases hm0 : m = 0
            · subst hm0
              have hr : tBefore x (tCorner x v) = tCorner x v := hr
              rw [hr]; rw [h] at hin; exact hin
            · exact back (m - 1) 1 (by omega)
          rw [h]; exact hz
      exact this.2
    exact hP
  refine ⟨_, rfl, e, hb.1, hb.2, hin, hall, haft, hbef, ?_⟩
  rcases hend with ⟨h, hn⟩ | ⟨h, hr⟩
  · exact .inl ⟨by rw [h], by rw [h]; exact hn⟩
  · exact .inr ⟨by rw [h], fun y hy => (hcyc (by rw [h]) y hy).1⟩
/-- ALL corners at a vertex are yielded. -/
theorem Full.around_all {x : tabE.T} (g : Full x) {c : Int} (hc : tHas x c = true) : c ∈ aroundL (some x) (tVert x c) := by
  have hv := tVert_in g.fit hc
  obtain ⟨b, _, _, hb1, hb2, hb3, hall, haft, hbef, _⟩ := g.around hv.1 hv.2
  obtain ⟨v, hv2⟩ : ∃ v : Nat, tVert x c = v := ⟨(tVert x c).toNat, by omega⟩
  rw [hv2] at hall haft hbef hb2 hb3 ⊢
  have hn : (v : Int) < x.1.1 := by omega
  have tb := cor_tri hb1
  have tc := cor_tri hc
  rw [hb2] at tb
  rw [hv2] at tc
  have hQ := g.pin v hn (fun i => ∃ y ∈ aroundL (some x) v, (y / 3).toNat = i) (fun i j hi hj hvi hvj ⟨w, hw, hwi, hwj⟩ ⟨y, hy, ey⟩ => by
    obtain ⟨hy1, hy2⟩ := hall y hy
    obtain ⟨d, d1, d2, d3⟩ := tri_cor hj hvj
    -- the other vertex, in both
    have two : ∀ {y : Int}, tHas x y = true → tVert x y = v → hasV (x.1.2.getD (y / 3).toNat (0, 0, 0)) w → w = tVert x (tNext x y) ∨ w = tVert x (tPrev x y) := fun {y} h1 h2 h3 => by
      obtain ⟨a, a1, a2, a3⟩ := tri_cor (cor_tri h1).1 h3
      have i1 := tHas_iff.1 h1
      have i2 := tHas_iff.1 a1
      have : a = y ∨ a = tNext x y ∨ a = tPrev x y := by
        rw [tNext_t h1, tPrev_t h1]; unfold trn; omega
      rcases this with e | e | e
      · subst e; exact absurd (a3.symm.trans h2) hw
      · subst e; exact .inl a3.symm
      · subst e; exact .inr a3.symm
    have wy := two hy1 hy2 (by rw [ey]; exact hwi)
    have wd := two d1 d3 (by rw [d2]; exact hwj)
    refine ⟨d, ?_, d2⟩
    have evd : tVert x y = tVert x d := hy2.trans d3.symm
    have nn := (tHas_iff.1 d1).1
    rcases wy with wy | wy <;> rcases wd with wd | wd
    · rw [← g.same hy1 d1 evd (wy.symm.trans wd)]; exact hy
    · have := g.before_is hy1 d1 evd.symm (wd.symm.trans wy)
      have h2 := hbef y hy (by rw [this]; exact nn)
      rw [this] at h2; exact h2
    · have := g.after_is hy1 d1 evd.symm (wd.symm.trans wy)
      have h2 := haft y hy (by rw [this]; exact nn)
      rw [this] at h2; exact h2
    · rw [← g.sameP hy1 d1 evd (wy.symm.trans wd)]; exact hy) _ tb.1 tb.2 ⟨b, hb3, rfl⟩ _ tc.1 tc.2
  obtain ⟨y, hy, ey⟩ := hQ
  obtain ⟨hy1, hy2⟩ := hall y hy
  have i1 := tHas_iff.1 hc
  have i2 := tHas_iff.1 hy1
  have : y = c ∨ y = tNext x c ∨ y = tPrev x c := by
    rw [tNext_t hc, tPrev_t hc]; unfold trn; omega
  have hne := g.ne hc
  rcases this with e | e | e
  · rw [← e]; exact hy
  · rw [e] at hy2; exact absurd (hv2.trans hy2.symm) hne.1
  · rw [e] at hy2; exact absurd (hv2.trans hy2.symm) hne.2.1
end S1

open Go Go.Vm Go.Proofs
namespace S1
set_option maxRecDepth 100000

/-! sorted lists -/
theorem sortI_ok {l : List Int} (h : l.Pairwise (· ≤ ·)) : sortI l = l := by
  unfold sortI
  exact List.mergeSort_of_pairwise (h.imp fun h => by simpa using h)
theorem sortI_perm (l : List Int) : (sortI l).Perm l := by unfold sortI; exact List.mergeSort_perm _ _
theorem sortI_sorted (l : List Int) : (sortI l).Pairwise (· ≤ ·) := by
  have := List.pairwise_mergeSort (le := fun x y : Int => decide (x ≤ y)) (fun a b c h1 h2 => by simp at *; omega) (fun a b => by simp; omega) l
  unfold sortI
  exact this.imp fun h => by simpa using h
theorem sorted_eq {l m : List Int} (hp : l.Perm m) (h1 : l.Pairwise (· ≤ ·)) (h2 : m.Pairwise (· ≤ ·)) : l = m :=
  hp.eq_of_pairwise (fun a b _ _ h1 h2 => by omega) h1 h2
def srt3 (a b c : Int) : List Int := if a ≤ b then (if b ≤ c then [a, b, c] else if a ≤ c then [a, c, b] else [c, a, b]) else (if a ≤ c then [b, a, c] else if b ≤ c then [b, c, a] else [c, b, a])
theorem sortI_3 (a b c : Int) : sortI [a, b, c] = srt3 a b c := by
  refine sorted_eq ((sortI_perm _).trans ?_) (sortI_sorted _) ?_
  · unfold srt3
    repeat' split
    · exact .refl _
    · exact .cons _ (.swap ..)
    · exact (List.Perm.cons _ (.swap ..)).trans (.swap ..)
    · exact .swap ..
    · exact (List.Perm.swap ..).trans (.cons _ (.swap ..))
    · exact ((List.Perm.swap ..).trans (.cons _ (.swap ..))).trans (.swap ..)
  · unfold srt3
    repeat' split
    all_goals simp; omega
/-- certify.mirrored's key, told without the sort. -/
def kMir' (t : P3) : List P3 := [((srt3 t.1 t.2.1 t.2.2).getD 0 0, (srt3 t.1 t.2.1 t.2.2).getD 1 0, (srt3 t.1 t.2.1 t.2.2).getD 2 0)]
theorem kMir_eq : kMir = kMir' := by
  funext t
  unfold kMir kMir' s3
  rw [sortI_3]
def allR' (s : Int × List P3) : List Wit := firstW [indexR s, dgL s.2 s.2.length, (prS kTwice 3 s.2 s.2.length).2.2, (prS kMir' 4 s.2 s.2.length).2.2, loneR s, pinR s]
theorem allR_eq (s : Int × List P3) : allR s = allR' s := by unfold allR allR'; rw [kMir_eq]
def chkR' (s : Int × List P3) : Wit := (allR' s).headD (0, 0, 0)
theorem chkR_eq (s : Int × List P3) : chkR s = chkR' s := by unfold chkR chkR'; rw [allR_eq]
theorem newO_ok {s : Int × List P3} (h : (chkR' s).1 = 0) : newO s = some (newT s) := by unfold newO; rw [if_pos (by rw [chkR_eq]; exact h)]
theorem newO_good {s : Int × List P3} : ∀ x, newO s = some x → Good x := fun x h => by
  unfold newO at h
  split at h
  · rename_i hc; cases h; exact good_new (cert_of hc)
  · cases h
theorem laidO_good {s : Int × List P3} : ∀ x, laidO s = some x → Good x := fun x h => (laid_good h).1
end S1

open Go Go.Vm Go.Proofs
namespace S1
set_option maxRecDepth 100000

/-! what certify.Check tells, in plain words -/
abbrev tg (l : List P3) (i : Nat) : P3 := l.getD i (0, 0, 0)
def dE (t : P3) (a b : Int) : Prop := (t.1 = a ∧ t.2.1 = b) ∨ (t.2.1 = a ∧ t.2.2 = b) ∨ (t.2.2 = a ∧ t.1 = b)
def dgn (t : P3) : Prop := t.1 = t.2.1 ∨ t.2.1 = t.2.2 ∨ t.2.2 = t.1
def PinP (l : List P3) (v : Int) : Prop := ∀ Q : Nat → Prop,
    (∀ i j : Nat, i < l.length → j < l.length → hasV (tg l i) v → hasV (tg l j) v → (∃ w : Int, w ≠ v ∧ hasV (tg l i) w ∧ hasV (tg l j) w) → Q i → Q j) →
    ∀ a, a < l.length → hasV (tg l a) v → Q a → ∀ i, i < l.length → hasV (tg l i) v → Q i
structure Surf (s : Int × List P3) : Prop where
  fit : fitS s
  deg : ∀ i, i < s.2.length → ¬ dgn (tg s.2 i)
  dif : ∀ i j, i < j → j < s.2.length → ∀ a b, dE (tg s.2 i) a b → ¬ dE (tg s.2 j) a b
  mir : ∀ i j, i < j → j < s.2.length → ¬ (hasV (tg s.2 j) (tg s.2 i).1 ∧ hasV (tg s.2 j) (tg s.2 i).2.1 ∧ hasV (tg s.2 j) (tg s.2 i).2.2)
  use : ∀ v : Nat, (v : Int) < s.1 → ∃ j, j < s.2.length ∧ hasV (tg s.2 j) v
  pin : ∀ v : Nat, (v : Int) < s.1 → PinP s.2 v

/-! keys -/
def keys (kp : P3 → List P3) (l : List P3) (i : Nat) : List P3 := (l.take i).flatMap kp
theorem keys_succ (kp : P3 → List P3) {l : List P3} {i : Nat} (h : i < l.length) : keys kp l (i + 1) = keys kp l i ++ kp (tg l i) := by
  unfold keys tg
  rw [List.take_succ_eq_append_getElem h, List.flatMap_append, List.getD_eq_getElem?_getD, List.getElem?_eq_getElem h]; simp
structure KFw (pre : List P3) (s : HadM × PS) : Prop where
  seen : s.2.1 = []
  nd : pre.Nodup
  had : ∀ k ∈ pre, hadAt s.1 k ≠ []
theorem kfw_step {kind : Int} {i m : Nat} {ks pre : List P3} {s : HadM × PS} (h : s.2.2 = [] → KFw pre s) (h2 : (prK kind i ks s m).2.2 = []) : s.2.2 = [] ∧ KFw (pre ++ [ks.getD m (0, 0, 0)]) (prK kind i ks s m) := by
  have h3 := prAs_same h2
  have h0 : s.2.2 = [] := by rw [← h3.1]; exact h2
  have u := h h0
  have he : hadAt s.1 (ks.getD m (0, 0, 0)) = [] := by
    cases e : hadAt s.1 (ks.getD m (0, 0, 0)) with
    | nil => rfl
    | cons a r =>
      have := h3.2 0 (by rw [e]; simp)
      rw [u.seen] at this
      cases this
  refine ⟨h0, (congrArg Prod.fst h3.1).trans u.seen, ?_, fun k hk => ?_⟩
  · rw [List.nodup_append]
    refine ⟨u.nd, List.nodup_cons.2 ⟨by simp, List.nodup_nil⟩, fun a ha b hb e => ?_⟩
    rw [List.mem_singleton] at hb
    subst hb; subst e
    exact u.had _ ha he
  · show hadAt (mset .arr3 s.1 (ks.getD m (0, 0, 0)) (hadAt s.1 (ks.getD m (0, 0, 0)) ++ [(i : Int)])) k ≠ []
    rw [hadAt_set]
    split
    · simp
    · rename_i hne
      rcases List.mem_append.1 hk with hk | hk
      · exact u.had k hk
      · rw [List.mem_singleton] at hk; exact absurd hk.symm hne
theorem kfw_steps {kind : Int} {i : Nat} {ks pre : List P3} {s : HadM × PS} (h : s.2.2 = [] → KFw pre s) : ∀ m, m ≤ ks.length → (irec (prK kind i ks) s m).2.2 = [] → KFw (pre ++ ks.take m) (irec (prK kind i ks) s m)
  | 0, _, h2 => by rw [List.take_zero, List.append_nil]; exact h h2
  | m + 1, hm, h2 => by
    have := (kfw_step (kind := kind) (i := i) (m := m) (ks := ks) (fun h' => kfw_steps h m (by omega) h') h2).2
    rw [List.append_assoc] at this
    rw [List.take_succ_eq_append_getElem (by omega)]
    rw [List.getD_eq_getElem?_getD, List.getElem?_eq_getElem (by omega)] at this
    exact this
theorem kfw_all (kp : P3 → List P3) (kind : Int) (l : List P3) : ∀ i, i ≤ l.length → (prS kp kind l i).2.2 = [] → KFw (keys kp l i) (prS kp kind l i)
  | 0, _, _ => ⟨rfl, List.nodup_nil, fun k h => (by cases h)⟩
  | i + 1, hi, h => by
    have h : (irec (prK kind i (kp (tg l i))) (prS kp kind l i) (kp (tg l i)).length).2.2 = [] := h
    have := kfw_steps (kind := kind) (i := i) (ks := kp (tg l i)) (fun h' => kfw_all kp kind l i (by omega) h') _ (Nat.le_refl _) h
    rw [List.take_length] at this
    rw [keys_succ kp (by omega)]
    exact this
structure KBw (pre : List P3) (s : HadM × PS) : Prop where
  z : s.2 = ([], [])
  had : ∀ k, hadAt s.1 k ≠ [] → k ∈ pre
theorem kbw_steps {kind : Int} {i : Nat} {ks pre : List P3} {s : HadM × PS} (h : KBw pre s) (hn : (pre ++ ks).Nodup) : ∀ m, m ≤ ks.length → KBw (pre ++ ks.take m) (irec (prK kind i ks) s m)
  | 0, _ => by rw [List.take_zero, List.append_nil]; exact h
  | m + 1, hm => by
    have ih := kbw_steps (kind := kind) (i := i) h hn m (by omega)
    have e1 : ks.take (m + 1) = ks.take m ++ [ks.getD m (0, 0, 0)] := by
      rw [List.take_succ_eq_append_getElem (by omega), List.getD_eq_getElem?_getD, List.getElem?_eq_getElem (by omega)]; rfl
    have hnew : ks.getD m (0, 0, 0) ∉ pre ++ ks.take m := by
      have h2 : (pre ++ ks.take (m + 1)).Nodup := by
        have : (pre ++ ks.take (m + 1)).Sublist (pre ++ ks) := List.Sublist.append (List.Sublist.refl _) (List.take_sublist _ _)
        exact this.nodup hn
      rw [e1, ← List.append_assoc, List.nodup_append] at h2
      exact fun hm => h2.2.2 _ hm _ (List.mem_singleton.2 rfl) rfl
    have he : hadAt (irec (prK kind i ks) s m).1 (ks.getD m (0, 0, 0)) = [] := by
      by_cases e : hadAt (irec (prK kind i ks) s m).1 (ks.getD m (0, 0, 0)) = []
      · exact e
      · exact absurd (ih.had _ e) hnew
    refine ⟨?_, fun k hk => ?_⟩
    · show irec (prA kind i (hadAt (irec (prK kind i ks) s m).1 (ks.getD m (0, 0, 0)))) (irec (prK kind i ks) s m).2 (hadAt (irec (prK kind i ks) s m).1 (ks.getD m (0, 0, 0))).length = _
      rw [he]; exact ih.z
    · have hk : hadAt (mset .arr3 (irec (prK kind i ks) s m).1 (ks.getD m (0, 0, 0)) (hadAt (irec (prK kind i ks) s m).1 (ks.getD m (0, 0, 0)) ++ [(i : Int)])) k ≠ [] := hk
      rw [hadAt_set] at hk
      rw [e1, ← List.append_assoc]
      split at hk
      · rename_i e; subst e; exact List.mem_append_right _ (List.mem_singleton.2 rfl)
      · exact List.mem_append_left _ (ih.had k hk)
theorem kbw_all (kp : P3 → List P3) (kind : Int) (l : List P3) (hn : (keys kp l l.length).Nodup) : ∀ i, i ≤ l.length → KBw (keys kp l i) (prS kp kind l i)
  | 0, _ => ⟨rfl, fun k h => absurd rfl h⟩
  | i + 1, hi => by
    have ih := kbw_all kp kind l hn i (by omega)
    have hn2 : (keys kp l (i + 1)).Nodup := by
      have : (keys kp l (i + 1)).Sublist (keys kp l l.length) := by
        unfold keys
        have e : l.flatMap kp = (l.take (i + 1)).flatMap kp ++ (l.drop (i + 1)).flatMap kp := by rw [← List.flatMap_append, List.take_append_drop]
        rw [List.take_length, e]
        exact List.sublist_append_left _ _
      exact this.nodup hn
    rw [keys_succ kp (by omega)] at hn2 ⊢
    have := kbw_steps (kind := kind) (i := i) (ks := kp (tg l i)) ih hn2 _ (Nat.le_refl _)
    rw [List.take_length] at this
    exact this
theorem prS_iff (kp : P3 → List P3) (kind : Int) (l : List P3) : (prS kp kind l l.length).2.2 = [] ↔ (l.flatMap kp).Nodup := by
  have e : keys kp l l.length = l.flatMap kp := by unfold keys; rw [List.take_length]
  constructor
  · intro h; have := (kfw_all kp kind l _ (Nat.le_refl _) h).nd; rw [e] at this; exact this
  · intro h; rw [← e] at h; rw [(kbw_all kp kind l h _ (Nat.le_refl _)).z]
theorem keys_nodup (kp : P3 → List P3) (l : List P3) : (l.flatMap kp).Nodup ↔ (∀ i, i < l.length → (kp (tg l i)).Nodup) ∧ ∀ i j, i < j → j < l.length → ∀ a ∈ kp (tg l i), a ∉ kp (tg l j) := by
  unfold List.Nodup
  rw [List.pairwise_flatMap, List.pairwise_iff_getElem]
  have g : ∀ i (h : i < l.length), tg l i = l[i] := fun i h => by unfold tg; rw [List.getD_eq_getElem?_getD, List.getElem?_eq_getElem h]; rfl
  constructor
  · rintro ⟨h1, h2⟩
    refine ⟨fun i hi => by rw [g i hi]; exact h1 _ (List.getElem_mem hi), fun i j hij hj a ha hb => ?_⟩
    rw [g i (by omega)] at ha; rw [g j hj] at hb
    exact h2 i j (by omega) hj hij a ha a hb rfl
  · rintro ⟨h1, h2⟩
    refine ⟨fun t ht => ?_, fun i j hi hj hij a ha b hb e => ?_⟩
    · obtain ⟨i, hi, e⟩ := List.mem_iff_getElem.1 ht
      have := h1 i hi
      rw [g i hi, e] at this; exact this
    · subst e
      have := h2 i j hij hj a
      rw [g i hi, g j hj] at this
      exact this ha hb
theorem kTwice_mem (t : P3) (k : P3) : k ∈ kTwice t ↔ k.2.2 = 0 ∧ dE t k.1 k.2.1 := by
  obtain ⟨a, b, c⟩ := k
  simp only [kTwice, dE, List.mem_cons, List.not_mem_nil, or_false, Prod.mk.injEq]
  constructor
  · rintro (⟨h1, h2, h3⟩ | ⟨h1, h2, h3⟩ | ⟨h1, h2, h3⟩)
    · exact ⟨h3, .inl ⟨h1.symm, h2.symm⟩⟩
    · exact ⟨h3, .inr (.inl ⟨h1.symm, h2.symm⟩)⟩
    · exact ⟨h3, .inr (.inr ⟨h1.symm, h2.symm⟩)⟩
  · rintro ⟨h3, (⟨h1, h2⟩ | ⟨h1, h2⟩ | ⟨h1, h2⟩)⟩
    · exact .inl ⟨h1.symm, h2.symm, h3⟩
    · exact .inr (.inl ⟨h1.symm, h2.symm, h3⟩)
    · exact .inr (.inr ⟨h1.symm, h2.symm, h3⟩)
theorem twice_iff {l : List P3} (hd : ∀ i, i < l.length → ¬ dgn (tg l i)) : (prS kTwice 3 l l.length).2.2 = [] ↔ ∀ i j, i < j → j < l.length → ∀ a b, dE (tg l i) a b → ¬ dE (tg l j) a b := by
  rw [prS_iff, keys_nodup]
  constructor
  · rintro ⟨_, h⟩ i j hij hj a b h1 h2
    exact h i j hij hj (a, b, 0) ((kTwice_mem _ _).2 ⟨rfl, h1⟩) ((kTwice_mem _ _).2 ⟨rfl, h2⟩)
  · intro h
    refine ⟨fun i hi => ?_, fun i j hij hj k h1 h2 => h i j hij hj _ _ ((kTwice_mem _ _).1 h1).2 ((kTwice_mem _ _).1 h2).2⟩
    have := hd i hi
    unfold dgn at this
    simp only [kTwice, List.nodup_cons, List.mem_cons, List.not_mem_nil, or_false, Prod.mk.injEq, not_false_eq_true, List.nodup_nil, and_true, true_and]
    refine ⟨?_, ?_⟩ <;> omega
theorem srt3_iff {a b c d e f : Int} (h : ¬ (a = b ∨ b = c ∨ c = a)) (h' : ¬ (d = e ∨ e = f ∨ f = d)) : srt3 a b c = srt3 d e f ↔ ((d = a ∨ e = a ∨ f = a) ∧ (d = b ∨ e = b ∨ f = b) ∧ (d = c ∨ e = c ∨ f = c)) := by
  unfold srt3
  constructor
  · intro h
    repeat' split at h
    all_goals (simp only [List.cons.injEq, and_true] at h; omega)
  · intro h
    repeat' split
    all_goals (simp only [List.cons.injEq, and_true]; omega)
theorem srt3_get (a b c : Int) : [(srt3 a b c).getD 0 0, (srt3 a b c).getD 1 0, (srt3 a b c).getD 2 0] = srt3 a b c := by
  unfold srt3
  repeat' split
  all_goals rfl
theorem kMir_same {t u : P3} (ht : ¬ dgn t) (hu : ¬ dgn u) {k : P3} (h : k ∈ kMir' t) : k ∈ kMir' u ↔ (hasV u t.1 ∧ hasV u t.2.1 ∧ hasV u t.2.2) := by
  unfold kMir' at *
  rw [List.mem_singleton] at h ⊢
  unfold hasV
  rw [← srt3_iff ht hu, h]
  constructor
  · intro e
    rw [← srt3_get t.1, ← srt3_get u.1]
    simp only [Prod.mk.injEq] at e
    rw [e.1, e.2.1, e.2.2]
  · intro e; rw [e]
theorem mir_iff {l : List P3} (hd : ∀ i, i < l.length → ¬ dgn (tg l i)) : (prS kMir 4 l l.length).2.2 = [] ↔ ∀ i j, i < j → j < l.length → ¬ (hasV (tg l j) (tg l i).1 ∧ hasV (tg l j) (tg l i).2.1 ∧ hasV (tg l j) (tg l i).2.2) := by
  rw [kMir_eq, prS_iff, keys_nodup]
  constructor
  · rintro ⟨_, h⟩ i j hij hj e
    have hm : _ ∈ kMir' (tg l i) := List.mem_singleton.2 rfl
    exact h i j hij hj _ hm ((kMir_same (hd i (by omega)) (hd j hj) hm).2 e)
  · intro h
    refine ⟨fun i hi => List.nodup_cons.2 ⟨by simp, List.nodup_nil⟩, fun i j hij hj k h1 h2 => h i j hij hj ((kMir_same (hd i (by omega)) (hd j hj) h1).1 h2)⟩

/-! lonely -/
theorem mark3_set {s : List Bool} {t : P3} {v : Nat} (h : s.getD v false = true ∨ (v < s.length ∧ (t.1.toNat = v ∨ t.2.1.toNat = v ∨ t.2.2.toNat = v))) : (mark3 s t).getD v false = true := by
  unfold mark3
  simp only [List.getD_eq_getElem?_getD, List.getElem?_set, List.length_set]
  rcases h with h | ⟨hl, h⟩
  · rw [List.getD_eq_getElem?_getD] at h
    have hl : v < s.length := by
      rcases Nat.lt_or_ge v s.length with h' | h'
      · exact h'
      · rw [List.getElem?_eq_none h'] at h; cases h
    rw [List.getElem?_eq_getElem hl] at h
    repeat' split
    all_goals first | rfl | omega | (rw [List.getElem?_eq_getElem hl]; exact h)
  · repeat' split
    all_goals first | rfl | omega
theorem there_in {n : Nat} {l : List P3} {v : Nat} (hv : v < n) : ∀ i, (∃ j, j < i ∧ ((tg l j).1.toNat = v ∨ (tg l j).2.1.toNat = v ∨ (tg l j).2.2.toNat = v)) → (thereF n l i).getD v false = true
  | 0, ⟨j, hj, _⟩ => by omega
  | i + 1, ⟨j, hj, h⟩ => by
    show (mark3 (thereF n l i) (tg l i)).getD v false = true
    by_cases e : j = i
    · subst e; exact mark3_set (.inr ⟨by rw [thereF_len]; exact hv, h⟩)
    · exact mark3_set (.inl (there_in hv i ⟨j, by omega, h⟩))
theorem lone_iff {s : Int × List P3} (hf : fitS s) : loneR s = [] ↔ ∀ v : Nat, (v : Int) < s.1 → ∃ j, j < s.2.length ∧ hasV (tg s.2 j) v := by
  have nn := fit_nn hf
  unfold loneR loL
  rw [List.filterMap_eq_nil_iff]
  constructor
  · intro h v hv
    have := h v (List.mem_range.2 (by omega))
    unfold loG at this
    split at this
    case isFalse => cases this
    rename_i ht
    obtain ⟨j, hj, e⟩ := there_ex _ ht
    have := nn j hj
    exact ⟨j, hj, by show (s.2.getD j (0, 0, 0)).1 = v ∨ (s.2.getD j (0, 0, 0)).2.1 = v ∨ (s.2.getD j (0, 0, 0)).2.2 = v; omega⟩
  · intro h v hv
    have hv := List.mem_range.1 hv
    obtain ⟨j, hj, e⟩ := h v (by omega)
    have e : (s.2.getD j (0, 0, 0)).1 = v ∨ (s.2.getD j (0, 0, 0)).2.1 = v ∨ (s.2.getD j (0, 0, 0)).2.2 = v := e
    unfold loG
    rw [if_pos (there_in hv _ ⟨j, hj, by
      show (s.2.getD j (0, 0, 0)).1.toNat = v ∨ (s.2.getD j (0, 0, 0)).2.1.toNat = v ∨ (s.2.getD j (0, 0, 0)).2.2.toNat = v
      omega⟩)]

/-! pinch: what is connected is reached -/
theorem enW_keep {v i : Int} {t : P3} {m : EndM} {k : Nat} {w y : Int} (h : y ∈ endAt m w) : y ∈ endAt (enW v i t m k) w := by
  unfold enW
  split
  · exact h
  · rw [endAt_set]
    split
    · rename_i e; subst e; exact List.mem_append_left _ h
    · exact h
theorem enW_put {v i : Int} {t : P3} {m : EndM} {k : Nat} (h : (trl t).getD k 0 ≠ v) : i ∈ endAt (enW v i t m k) ((trl t).getD k 0) := by
  unfold enW
  rw [if_neg h, endAt_set, if_pos rfl]
  exact List.mem_append_right _ (List.mem_singleton.2 rfl)
theorem enT_keep {l : List P3} {v : Int} {tris : List Int} {m : EndM} {j : Nat} {w y : Int} (h : y ∈ endAt m w) : y ∈ endAt (enT l v tris m j) w :=
  irec_inv (n := 3) (fun _ (m : EndM) => y ∈ endAt m w) h (fun _ _ _ h => enW_keep h) 3 (Nat.le_refl _)
theorem irec_put {S : Type} {f : S → Nat → S} {s : S} {P : S → Prop} {k : Nat} (hk : ∀ s, P (f s k)) (hs : ∀ s j, P s → P (f s j)) : ∀ n, k < n → P (irec f s n)
  | n + 1, h => by
    by_cases e : k = n
    · subst e; exact hk _
    · exact hs _ _ (irec_put hk hs n (by omega))
theorem trl_ex {t : P3} {w : Int} (h : w ∈ trl t) : ∃ k, k < 3 ∧ (trl t).getD k 0 = w := by
  simp only [trl, List.mem_cons, List.not_mem_nil, or_false] at h
  rcases h with h | h | h
  · exact ⟨0, by omega, h.symm⟩
  · exact ⟨1, by omega, h.symm⟩
  · exact ⟨2, by omega, h.symm⟩
/-- Each triangle of a vertex is noted at each of its other vertices. -/
theorem enA_all {l : List P3} {v : Int} {tris : List Int} {y w : Int} (hy : y ∈ tris) (hw : w ∈ trl (tri l y)) (hn : w ≠ v) : y ∈ endAt (enA l v tris tris.length) w := by
  obtain ⟨j, hj, e⟩ := List.mem_iff_getElem.1 hy
  have e2 : tris.getD j 0 = y := by rw [List.getD_eq_getElem?_getD, List.getElem?_eq_getElem hj]; exact e
  unfold enA
  refine irec_put (P := fun m => y ∈ endAt m w) (k := j) (fun m => ?_) (fun m i h => enT_keep h) _ hj
  obtain ⟨k, hk, ek⟩ := trl_ex hw
  unfold enT
  rw [e2]
  refine irec_put (P := fun m => y ∈ endAt m w) (k := k) (fun m => ?_) (fun m i h => enW_keep h) 3 hk
  have := enW_put (v := v) (i := y) (t := tri l y) (m := m) (k := k) (by rw [ek]; exact hn)
  rw [ek] at this
  exact this
/-- Reached, and still to be looked at: or all that is beside it is reached. -/
def Reach (E : EndM) (l : List P3) (v : Int) (S : TgS) (x : Int) : Prop := x ∈ S.2.1.drop S.1 ∨ ∀ w ∈ trl (tri l x), w ≠ v → ∀ y ∈ endAt E w, had S.2.2 y = true
theorem vis_had {av : List Int} {S : TgS} {j : Nat} {y : Int} (h : had S.2.2 y = true) : had (vis av S j).2.2 y = true := by
  unfold vis
  split
  · exact h
  · show had (mset (.int .i64) S.2.2 (av.getD j 0) true) y = true
    rw [had_set]; split
    · rfl
    · exact h
theorem vis_put {av : List Int} {S : TgS} {j : Nat} : had (vis av S j).2.2 (av.getD j 0) = true := by
  unfold vis
  split
  · assumption
  · show had (mset (.int .i64) S.2.2 (av.getD j 0) true) _ = true
    rw [had_set, if_pos rfl]
theorem vis_wait {av : List Int} {S : TgS} {j : Nat} {y : Int} (h : y ∈ S.2.1.drop S.1) : y ∈ (vis av S j).2.1.drop (vis av S j).1 := by
  unfold vis
  split
  · exact h
  · show y ∈ (S.2.1.drop S.1 ++ [av.getD j 0]).drop 0
    rw [List.drop_zero]; exact List.mem_append_left _ h
theorem vis_new2 {av : List Int} {S : TgS} {j : Nat} {y : Int} (h : had (vis av S j).2.2 y = true) : had S.2.2 y = true ∨ y ∈ (vis av S j).2.1.drop (vis av S j).1 := by
  unfold vis at *
  split at h
  · exact .inl h
  · rename_i hn
    have h : had (mset (.int .i64) S.2.2 (av.getD j 0) true) y = true := h
    rw [had_set] at h
    rw [if_neg hn]
    split at h
    · rename_i e; subst e
      refine .inr ?_
      show _ ∈ (S.2.1.drop S.1 ++ [av.getD j 0]).drop 0
      rw [List.drop_zero]; exact List.mem_append_right _ (List.mem_singleton.2 rfl)
    · exact .inl h
/-- What a step may do: what was reached stays, what waited waits, what is new waits. -/
structure Grow2 (S T : TgS) : Prop where
  had : ∀ y, had S.2.2 y = true → had T.2.2 y = true
  wait : ∀ y, y ∈ S.2.1.drop S.1 → y ∈ T.2.1.drop T.1
  new : ∀ y, S1.had T.2.2 y = true → S1.had S.2.2 y = true ∨ y ∈ T.2.1.drop T.1
theorem Grow2.refl (S : TgS) : Grow2 S S := ⟨fun _ h => h, fun _ h => h, fun _ h => .inl h⟩
theorem Grow2.trans {S T U : TgS} (h : Grow2 S T) (k : Grow2 T U) : Grow2 S U :=
  ⟨fun y e => k.had y (h.had y e), fun y e => k.wait y (h.wait y e), fun y e => by
    rcases k.new y e with e | e
    · rcases h.new y e with e | e
      · exact .inl e
      · exact .inr (k.wait y e)
    · exact .inr e⟩
theorem vis_grow {av : List Int} {S : TgS} {j : Nat} : Grow2 S (vis av S j) := ⟨fun _ h => vis_had h, fun _ h => vis_wait h, fun _ h => vis_new2 h⟩
theorem viss_grow {av : List Int} {S : TgS} (n : Nat) : Grow2 S (irec (vis av) S n) :=
  irec_inv (n := n) (fun _ (T : TgS) => Grow2 S T) (.refl S) (fun _ _ _ h => h.trans vis_grow) n (Nat.le_refl _)
theorem tgW_grow {E : EndM} {v : Int} {t : P3} {S : TgS} {k : Nat} : Grow2 S (tgW E v t S k) := by
  unfold tgW; split
  · exact .refl S
  · exact viss_grow _
theorem tgWs_grow {E : EndM} {v : Int} {t : P3} {S : TgS} (n : Nat) : Grow2 S (irec (tgW E v t) S n) :=
  irec_inv (n := n) (fun _ (T : TgS) => Grow2 S T) (.refl S) (fun _ _ _ h => h.trans tgW_grow) n (Nat.le_refl _)
theorem tgW_put {E : EndM} {v : Int} {t : P3} {S : TgS} {k : Nat} (h : (trl t).getD k 0 ≠ v) {y : Int} (hy : y ∈ endAt E ((trl t).getD k 0)) : had (tgW E v t S k).2.2 y = true := by
  unfold tgW
  rw [if_neg h]
  obtain ⟨j, hj, e⟩ := List.mem_iff_getElem.1 hy
  have e2 : (endAt E ((trl t).getD k 0)).getD j 0 = y := by rw [List.getD_eq_getElem?_getD, List.getElem?_eq_getElem hj]; exact e
  refine irec_put (P := fun S : TgS => had S.2.2 y = true) (k := j) (fun S => ?_) (fun _ _ h => vis_had h) _ hj
  have := vis_put (av := endAt E ((trl t).getD k 0)) (S := S) (j := j)
  rw [e2] at this; exact this
def RInv (E : EndM) (l : List P3) (v : Int) (S : TgS) : Prop := ∀ x, had S.2.2 x = true → Reach E l v S x
theorem tgR_inv {E : EndM} {l : List P3} {v : Int} {S : TgS} {r : Nat} (h : RInv E l v S) : RInv E l v (tgR E l v S r) := by
  unfold tgR
  split
  case isFalse => exact h
  rename_i hs
  have g := tgWs_grow (E := E) (v := v) (t := tri l (S.2.1.getD S.1 0)) (S := (S.1 + 1, S.2.1, S.2.2)) 3
  intro x hx
  by_cases e : x = S.2.1.getD S.1 0
  · subst e
    refine .inr fun w hw hn y hy => ?_
    obtain ⟨k, hk, ek⟩ := trl_ex hw
    refine irec_put (P := fun S : TgS => had S.2.2 y = true) (k := k) (fun S => ?_) (fun S j h => tgW_grow.had y h) 3 hk
    exact tgW_put (by rw [ek]; exact hn) (by rw [ek]; exact hy)
  · rcases g.new x hx with hx | hx
    · rcases h x hx with hw | hw
      · left
        refine g.wait x ?_
        show x ∈ S.2.1.drop (S.1 + 1)
        rw [List.drop_eq_getElem_cons hs] at hw
        rcases List.mem_cons.1 hw with hw | hw
        · exact absurd (by rw [hw, List.getD_eq_getElem?_getD, List.getElem?_eq_getElem hs]; rfl) e
        · exact hw
      · exact .inr fun w hw' hn y hy => g.had y (hw w hw' hn y hy)
    · exact .inl hx
theorem tgS_inv (E : EndM) (l : List P3) (v x0 : Int) : ∀ r, RInv E l v (tgS E l v x0 r)
  | 0 => fun x hx => by
    have hx : had [(x0, true)] x = true := hx
    left
    show x ∈ [x0].drop 0
    rw [List.drop_zero, List.mem_singleton]
    have : had (mset (.int .i64) ([] : ReM) x0 true) x = true := hx
    rw [had_set] at this
    split at this
    · rename_i e; exact e.symm
    · cases this
  | r + 1 => tgR_inv (r := r) (tgS_inv E l v x0 r)
theorem tgS_done {E : EndM} {l : List P3} {v x0 : Int} {tris : List Int} {c : Nat} (hE : EnOk tris c E) (hx : x0 ∈ tris) : ∀ r, (tgS E l v x0 r).1 < (tgS E l v x0 r).2.1.length → meas tris (tgS E l v x0 r) + r ≤ tris.length + 1
  | 0, _ => meas_init
  | r + 1, h => by
    have hok := (tgS_ok hE (l := l) (v := v) hx r).1
    by_cases hs : (tgS E l v x0 r).1 < (tgS E l v x0 r).2.1.length
    · have ih := tgS_done (l := l) (v := v) hE hx r hs
      have := (tgR_ok (l := l) (v := v) (r := r) hE hok).2.2 hs
      have e : tgS E l v x0 (r + 1) = tgR E l v (tgS E l v x0 r) r := rfl
      rw [e]; omega
    · rw [tgS_stop hs 1] at h; exact absurd h hs
theorem had_key : ∀ {m : ReM} {x : Int}, had m x = true → x ∈ keysR m
  | [], x, h => by cases h
  | (a, b) :: r, x, h => by
    unfold had at h
    simp only [mget] at h
    unfold keysR
    split at h
    · rename_i e _; exact List.mem_cons.2 (.inl e.symm)
    · exact List.mem_cons_of_mem _ (had_key h)
theorem len_sub : ∀ (ks l : List Int), ks.Nodup → (∀ x ∈ ks, x ∈ l) → ks.length ≤ l.length
  | [], l, _, _ => Nat.zero_le _
  | a :: r, l, hd, hs => by
    have hd := List.nodup_cons.1 hd
    have ha := hs a (List.mem_cons_self ..)
    have ih := len_sub r (l.erase a) hd.2 (fun y hy => (List.mem_erase_of_ne (fun e => hd.1 (by rw [← e]; exact hy))).2 (hs y (List.mem_cons_of_mem _ hy)))
    have hle : (l.erase a).length = l.length - 1 := List.length_erase_of_mem ha
    have := List.length_pos_of_mem ha
    simp only [List.length_cons]; omega
theorem tog_of {l : List P3} {v : Int} {tris : List Int} (ht : tris ≠ []) (hn : tris.Nodup)
    (hc : ∀ Q : Int → Prop, (∀ i ∈ tris, ∀ j ∈ tris, (∃ w, w ≠ v ∧ w ∈ trl (tri l i) ∧ w ∈ trl (tri l j)) → Q i → Q j) → Q (tris.getD 0 0) → ∀ i ∈ tris, Q i) : togR l v tris = true := by
  have hm : tris.getD 0 0 ∈ tris := getD_mem (List.length_pos_iff.2 ht)
  have hE := enA_ok l v tris tris.length (Nat.le_refl _)
  have hin := tgS_in (l := l) (v := v) (x0 := tris.getD 0 0) (enA_in l v tris) (Q := fun _ => True) (fun _ _ _ _ _ _ => trivial) ⟨hm, trivial⟩ (2 * tris.length + 2)
  have hR := tgS_inv (enA l v tris tris.length) l v (tris.getD 0 0) (2 * tris.length + 2)
  have hstop : ¬ (tgS (enA l v tris tris.length) l v (tris.getD 0 0) (2 * tris.length + 2)).1 < (tgS (enA l v tris tris.length) l v (tris.getD 0 0) (2 * tris.length + 2)).2.1.length := fun h => by
    have := tgS_done (l := l) (v := v) hE hm _ h
    omega
  have h0 : had (tgS (enA l v tris tris.length) l v (tris.getD 0 0) (2 * tris.length + 2)).2.2 (tris.getD 0 0) = true :=
    irec_inv (n := 2 * tris.length + 2) (fun _ (S : TgS) => had S.2.2 (tris.getD 0 0) = true) (by
      show had (mset (.int .i64) ([] : ReM) (tris.getD 0 0) true) _ = true
      rw [had_set, if_pos rfl]) (fun j S _ h => by
      unfold tgR
      split
      · exact (tgWs_grow 3).had _ h
      · exact h) _ (Nat.le_refl _)
  unfold togR
  generalize tgS (enA l v tris tris.length) l v (tris.getD 0 0) (2 * tris.length + 2) = S at *
  have all := hc (fun i => had S.2.2 i = true) (fun i hi j hj ⟨w, h1, h2, h3⟩ hq => by
    rcases hR i hq with h | h
    · rw [List.drop_eq_nil_of_le (by omega)] at h; cases h
    · exact h w h2 h1 j (enA_all hj h3 h1)) h0
  have hk : ∀ x ∈ keysR S.2.2, x ∈ tris := fun x hx => (hin.k x hx).1
  have l1 := len_sub _ _ hin.nd hk
  have l2 := len_sub tris (keysR S.2.2) hn fun x hx => had_key (all x hx)
  have e : (keysR S.2.2).length = S.2.2.length := by unfold keysR; rw [List.length_map]
  rw [e] at l1 l2
  have : S.2.2.length = tris.length := by omega
  rw [this]; exact beq_self_eq_true _
theorem atP_nodup {s : List (List Int)} {w : Int} {j v : Nat} (h : (s.getD v []).Nodup ∧ ∀ x ∈ s.getD v [], x < (j : Int)) (h2 : w.toNat = v → ∀ x ∈ s.getD v [], x ≠ (j : Int)) : ((atP s w j).getD v []).Nodup := by
  rw [atP_get]
  split
  · rename_i e
    rw [List.nodup_append]
    refine ⟨h.1, List.nodup_cons.2 ⟨by simp, List.nodup_nil⟩, fun a ha b hb => ?_⟩
    rw [List.mem_singleton] at hb
    rw [hb]; exact h2 e.1 a ha
  · exact h.1
theorem atF_nodup {n : Nat} {l : List P3} (hl : ∀ j, j < l.length → 0 ≤ (tg l j).1 ∧ 0 ≤ (tg l j).2.1 ∧ 0 ≤ (tg l j).2.2) (hd : ∀ i, i < l.length → ¬ dgn (tg l i)) {v : Nat} (hv : v < n) : ∀ i, i ≤ l.length → ((atF n l i).getD v []).Nodup
  | 0, _ => by
    have e : (atF n l 0).getD v [] = [] := by
      show (List.replicate n ([] : List Int)).getD v [] = []
      rw [List.getD_eq_getElem?_getD, List.getElem?_replicate]; split <;> rfl
    rw [e]; exact List.nodup_nil
  | i + 1, hi => by
    have ih := atF_nodup hl hd hv i (by omega)
    have hm := atF_mem hl hv i (by omega)
    have hlt : ∀ x ∈ (atF n l i).getD v [], x < (i : Int) := fun x hx => by
      obtain ⟨j, hj, e, _⟩ := (hm x).1 hx; omega
    obtain ⟨h1, h2, h3⟩ := hl i (by omega)
    have hdg := hd i (by omega)
    unfold dgn at hdg
    show ((at3 (atF n l i) (tg l i) i).getD v []).Nodup
    unfold at3
    -- at most one of the three is v
    by_cases e1 : (tg l i).1.toNat = v
    · have k2 : ¬ (tg l i).2.1.toNat = v := by omega
      have k3 : ¬ (tg l i).2.2.toNat = v := by omega
      rw [atP_get, if_neg (fun h => k3 h.1), atP_get, if_neg (fun h => k2 h.1)]
      exact atP_nodup ⟨ih, hlt⟩ fun _ x hx => by have := hlt x hx; omega
    · by_cases e2 : (tg l i).2.1.toNat = v
      · have k3 : ¬ (tg l i).2.2.toNat = v := by omega
        rw [atP_get, if_neg (fun h => k3 h.1)]
        have e : (atP (atF n l i) (tg l i).1 i).getD v [] = (atF n l i).getD v [] := by rw [atP_get, if_neg (fun h => e1 h.1)]
        exact atP_nodup ⟨by rw [e]; exact ih, by rw [e]; exact hlt⟩ fun _ x hx => by rw [e] at hx; have := hlt x hx; omega
      · have e : (atP (atP (atF n l i) (tg l i).1 i) (tg l i).2.1 i).getD v [] = (atF n l i).getD v [] := by rw [atP_get, if_neg (fun h => e2 h.1), atP_get, if_neg (fun h => e1 h.1)]
        exact atP_nodup ⟨by rw [e]; exact ih, by rw [e]; exact hlt⟩ fun _ x hx => by rw [e] at hx; have := hlt x hx; omega
theorem pin_iff {s : Int × List P3} (hf : fitS s) (hd : ∀ i, i < s.2.length → ¬ dgn (tg s.2 i)) (hu : ∀ v : Nat, (v : Int) < s.1 → ∃ j, j < s.2.length ∧ hasV (tg s.2 j) v) : pinR s = [] ↔ ∀ v : Nat, (v : Int) < s.1 → PinP s.2 v := by
  constructor
  · exact fun h v hv Q hQ a h1 h2 h3 => pin_all (n := s.1) (l := s.2) h (fit_nn hf) hv Q hQ h1 h2 h3
  · intro h
    refine List.filterMap_eq_nil_iff.2 fun v hv => ?_
    have hv := List.mem_range.1 hv
    unfold piG
    rw [if_pos ?_]
    have hm := atF_mem (n := s.1.toNat) (l := s.2) (fit_nn hf) hv _ (Nat.le_refl _)
    refine tog_of (atF_ne s.1.toNat s.2 hv _ (hu v (by omega))) (atF_nodup (fit_nn hf) hd hv _ (Nat.le_refl _)) fun Q hQ h0 i hi => ?_
    obtain ⟨j, hj, rfl, hjv⟩ := (hm i).1 hi
    have hz := (hm _).1 (getD_mem (j := 0) (List.length_pos_iff.2 (atF_ne s.1.toNat s.2 hv _ (hu v (by omega)))))
    obtain ⟨z, hz1, hz2, hz3⟩ := hz
    rw [hz2] at h0
    refine h v (by omega) (fun k => Q (k : Int)) (fun a b ha hb hav hbv ⟨w, hw, hwa, hwb⟩ hq => ?_) z hz1 hz3 h0 j hj hjv
    exact hQ a ((hm a).2 ⟨a, ha, rfl, hav⟩) b ((hm b).2 ⟨b, hb, rfl, hbv⟩) ⟨w, hw, trl_iff.2 hwa, trl_iff.2 hwb⟩ hq
theorem deg_iff {l : List P3} : dgL l l.length = [] ↔ ∀ i, i < l.length → ¬ dgn (tg l i) := by
  constructor
  · exact fun h i hi => deg_no h hi
  · intro h
    refine List.filterMap_eq_nil_iff.2 fun i hi => ?_
    have := h i (List.mem_range.1 hi)
    unfold dgn at this
    unfold dgG
    rw [if_neg ?_]
    intro e
    unfold degR at e
    simp only [Bool.or_eq_true, beq_iff_eq] at e
    exact this e
theorem idx_iff {s : Int × List P3} : indexR s = [] ↔ fitS s := by
  obtain ⟨n, l⟩ := s
  constructor
  · intro h; exact idx_fit (by rw [h]; simp)
  · intro h
    have hb : bigR (n, l) = false := by
      have h1 : 0 ≤ n := h.1
      have h2 : n ≤ 4096 := h.2.1
      have h3 : l.length ≤ 8192 := h.2.2.1
      unfold bigR
      simp only [Bool.or_eq_false_iff, decide_eq_false_iff_not]
      omega
    unfold indexR
    rw [hb]
    refine List.filterMap_eq_nil_iff.2 fun i hi => ?_
    unfold idxG
    rw [if_pos (h.2.2.2 i (List.mem_range.1 hi))]
theorem all_iff (s : Int × List P3) : allR s = [] ↔ (indexR s = [] ∧ dgL s.2 s.2.length = [] ∧ (prS kTwice 3 s.2 s.2.length).2.2 = [] ∧ (prS kMir 4 s.2 s.2.length).2.2 = [] ∧ loneR s = [] ∧ pinR s = []) := by
  constructor
  · intro h
    have h := firstW_nil h
    exact ⟨h _ (by simp), h _ (by simp), h _ (by simp), h _ (by simp), h _ (by simp), h _ (by simp)⟩
  · rintro ⟨h1, h2, h3, h4, h5, h6⟩
    unfold allR
    simp [firstW, h1, h2, h3, h4, h5, h6]
/-- CERTIFIED is being a surface. -/
theorem surf_iff (s : Int × List P3) : (chkR s).1 = 0 ↔ Surf s := by
  constructor
  · intro h
    obtain ⟨h1, h2, h3, h4, h5, h6⟩ := (all_iff s).1 (chk_all h)
    have hf := idx_iff.1 h1
    have hd := deg_iff.1 h2
    have hu := (lone_iff hf).1 h5
    exact ⟨hf, hd, (twice_iff hd).1 h3, (mir_iff hd).1 h4, hu, (pin_iff hf hd hu).1 h6⟩
  · intro h
    have : allR s = [] := (all_iff s).2 ⟨idx_iff.2 h.fit, deg_iff.2 h.deg, (twice_iff h.deg).2 h.dif, (mir_iff h.deg).2 h.mir, (lone_iff h.fit).2 h.use, (pin_iff h.fit h.deg h.use).2 h.pin⟩
    unfold chkR; rw [this]; rfl
end S1

open Go Go.Vm Go.Proofs
namespace S1
set_option maxRecDepth 100000

/-! out of range -/
theorem near_in {x : tabE.T} (g : Good x) {a b : Int} (h : nearR x a b = true) : (0 ≤ a ∧ a < x.1.1) ∧ (0 ≤ b ∧ b < x.1.1) := by
  have key : ∀ {a b : Int}, 0 ≤ tFacing x (a, b) → (0 ≤ a ∧ a < x.1.1) ∧ (0 ≤ b ∧ b < x.1.1) := fun {a b} h => by
    unfold tFacing at h
    cases e : mget .arr2 x.2.1 (a, b) with
    | none => rw [e] at h; exact absurd h (by decide)
    | some c =>
      obtain ⟨h1, h2⟩ := g.map _ _ e
      have e1 : tVert x (tNext x c) = a := congrArg Prod.fst h2
      have e2 : tVert x (tPrev x c) = b := congrArg Prod.snd h2
      have k1 := tVert_in g.fit (hasNP h1).1
      have k2 := tVert_in g.fit (hasNP h1).2
      rw [e1] at k1; rw [e2] at k2
      exact ⟨k1, k2⟩
  unfold nearR at h
  rw [Bool.or_eq_true, decide_eq_true_eq, decide_eq_true_eq] at h
  rcases h with h | h
  · exact key h
  · exact (key h).symm
theorem link_far {x : tabE.T} {v : Int} (h : ¬ (0 ≤ v ∧ v < x.1.1)) : linkR x v = [] := by
  have e : aroundL (some x) v = [] := aroundL_no fun k => h ⟨k.1, k.2.1⟩
  unfold linkR
  rw [e]
  simp [lkO, lkLast]
/-! who is in a link, and in two -/
theorem new_full {s : Int × List P3} {x : tabE.T} (h : newO s = some x) : x = newT s ∧ Full x ∧ Surf s := by
  unfold newO at h
  split at h
  · rename_i hc
    cases h
    exact ⟨rfl, full_new hc, (surf_iff s).1 hc⟩
  · cases h
theorem laid_full {s : Int × List P3} {x : tabE.T} (h : laidO s = some x) : x = newT s ∧ Full x ∧ Surf s ∧ greatR s = 0 := by
  unfold laidO at h
  split at h
  · cases h
  · rename_i hg
    obtain ⟨h1, h2, h3⟩ := new_full h
    refine ⟨h1, h2, h3, ?_⟩
    unfold greatR at hg ⊢
    split
    · rename_i h; rw [if_pos h] at hg; exact absurd rfl hg
    · rename_i h; rw [if_neg h] at hg
      split
      · rename_i h; rw [if_pos h] at hg; exact absurd rfl hg
      · rename_i h; rw [if_neg h] at hg
        split
        · rename_i h; rw [if_pos h] at hg; exact absurd rfl hg
        · rfl
theorem aroundF_ne {x : tabE.T} {b : Int} (n : Nat) (c : Int) : aroundF x b (n + 1) c ≠ [] := by unfold aroundF; simp
theorem aroundF_last {x : tabE.T} {b : Int} : ∀ n c, ∀ y ∈ aroundF x b n c, tAfter x y < 0 → (aroundF x b n c).getD ((aroundF x b n c).length - 1) 0 = y
  | 0, c, y, h, _ => by cases h
  | n + 1, c, y, h, ha => by
    unfold aroundF at h ⊢
    by_cases h1 : tAfter x c < 0
    · rw [if_pos h1] at h ⊢
      rw [List.mem_singleton.1 h]; rfl
    · rw [if_neg h1] at h ⊢
      by_cases h2 : tAfter x c = b
      · rw [if_pos h2] at h ⊢
        rw [List.mem_singleton.1 h]; rfl
      · rw [if_neg h2] at h ⊢
        rcases List.mem_cons.1 h with h | h
        · subst h; exact absurd ha h1
        · have ih := aroundF_last n _ y h ha
          have hl : (aroundF x b n (tAfter x c)).length ≥ 1 := List.length_pos_of_mem h
          generalize aroundF x b n (tAfter x c) = L at *
          rw [List.length_cons, show L.length + 1 - 1 = (L.length - 1) + 1 by omega, List.getD_cons_succ]
          exact ih
theorem Full.link_mem {x : tabE.T} (g : Full x) {a v : Int} (h0 : 0 ≤ a) (h1 : a < x.1.1) : v ∈ linkR x a ↔ (∃ c ∈ aroundL (some x) a, tVert x (tNext x c) = v) ∨ (∃ c ∈ aroundL (some x) a, tAfter x c < 0 ∧ tVert x (tPrev x c) = v) := by
  obtain ⟨b, _, eL, hb1, hb2, hb3, hall, _⟩ := g.around h0 h1
  have hpos : (aroundL (some x) a).length ≥ 1 := List.length_pos_of_mem hb3
  have hlast : lkLast (aroundL (some x) a) (aroundL (some x) a).length = (aroundL (some x) a).getD ((aroundL (some x) a).length - 1) 0 := by
    unfold lkLast; rw [if_neg (by omega)]
  have hin : (aroundL (some x) a).getD ((aroundL (some x) a).length - 1) 0 ∈ aroundL (some x) a := getD_mem (by omega)
  unfold linkR
  rw [List.mem_append]
  have e1 : v ∈ lkO x (aroundL (some x) a) (aroundL (some x) a).length ↔ ∃ c ∈ aroundL (some x) a, tVert x (tNext x c) = v := by
    unfold lkO; rw [List.take_length, List.mem_map]
  rw [e1, hlast]
  refine or_congr_right ⟨fun h => ?_, fun ⟨c, hc, ha, hv⟩ => ?_⟩
  · split at h
    · rename_i hc
      exact ⟨_, hin, hc.2, (List.mem_singleton.1 h).symm⟩
    · cases h
  · have hc2 := hc
    rw [eL] at hc2
    have hl := aroundF_last _ _ c hc2 ha
    rw [← eL] at hl
    rw [hl, if_pos ⟨(tHas_iff.1 (hall c hc).1).1, ha⟩, hv]
    exact List.mem_singleton.2 rfl
theorem near_iff {x : tabE.T} (g : Full x) {a v : Int} : nearR x a v = true ↔ ∃ d, tHas x d = true ∧ (tEdge x d = (a, v) ∨ tEdge x d = (v, a)) := by
  have key : ∀ {a v : Int}, 0 ≤ tFacing x (a, v) ↔ ∃ d, tHas x d = true ∧ tEdge x d = (a, v) := fun {a v} => by
    constructor
    · intro h
      unfold tFacing at h
      cases e : mget .arr2 x.2.1 (a, v) with
      | none => rw [e] at h; exact absurd h (by decide)
      | some c => exact ⟨c, g.map _ _ e⟩
    · rintro ⟨d, h1, h2⟩
      rw [← h2, g.facing h1]; exact (tHas_iff.1 h1).1
  unfold nearR
  rw [Bool.or_eq_true, decide_eq_true_eq, decide_eq_true_eq, key, key]
  constructor
  · rintro (⟨d, h1, h2⟩ | ⟨d, h1, h2⟩)
    · exact ⟨d, h1, .inl h2⟩
    · exact ⟨d, h1, .inr h2⟩
  · rintro ⟨d, h1, (h2 | h2)⟩
    · exact .inl ⟨d, h1, h2⟩
    · exact .inr ⟨d, h1, h2⟩
/-- THE LINK of a vertex is all that is beside it. -/
theorem Full.link_iff {x : tabE.T} (g : Full x) {a v : Int} : v ∈ linkR x a ↔ nearR x a v = true := by
  by_cases ha : 0 ≤ a ∧ a < x.1.1
  case neg =>
    rw [link_far ha]
    refine ⟨fun h => (by cases h), fun h => absurd (near_in g.toGood h).1 ha⟩
  obtain ⟨b, _, eL, hb1, hb2, hb3, hall, haft, hbef, _⟩ := g.around ha.1 ha.2
  rw [g.link_mem ha.1 ha.2, near_iff g]
  constructor
  · rintro (⟨c, hc, hv⟩ | ⟨c, hc, _, hv⟩)
    · obtain ⟨k1, k2⟩ := hall c hc
      exact ⟨_, (hasNP k1).2, .inl (by rw [edgeP k1, k2, hv])⟩
    · obtain ⟨k1, k2⟩ := hall c hc
      exact ⟨_, (hasNP k1).1, .inr (by rw [edgeN k1, k2, hv])⟩
  · rintro ⟨d, h1, (h2 | h2)⟩
    · have e1 : tVert x (tNext x d) = a := congrArg Prod.fst h2
      have e2 : tVert x (tPrev x d) = v := congrArg Prod.snd h2
      have hc := g.around_all (hasNP h1).1
      rw [e1] at hc
      exact .inl ⟨_, hc, by rw [(np h1).2.2.1]; exact e2⟩
    · have e1 : tVert x (tNext x d) = v := congrArg Prod.fst h2
      have e2 : tVert x (tPrev x d) = a := congrArg Prod.snd h2
      have hc := g.around_all (hasNP h1).2
      rw [e2] at hc
      have hv : tVert x (tPrev x (tPrev x d)) = v := by rw [(np h1).2.2.2]; exact e1
      by_cases hs : tAfter x (tPrev x d) < 0
      · exact .inr ⟨_, hc, hs, hv⟩
      · have hs : 0 ≤ tAfter x (tPrev x d) := by omega
        exact .inl ⟨_, haft _ hc hs, by rw [(g.after_v hs).2]; exact hv⟩
theorem near_symm {x : tabE.T} {a b : Int} : nearR x a b = nearR x b a := by
  unfold nearR; rw [Bool.or_comm]
/-- What faces an edge: here, and across. -/
theorem Full.opp_v {x : tabE.T} (g : Full x) {c : Int} (h : 0 ≤ tOpp x c) : tHas x c = true ∧ tHas x (tOpp x c) = true ∧ tVert x (tNext x (tOpp x c)) = tVert x (tPrev x c) ∧ tVert x (tPrev x (tOpp x c)) = tVert x (tNext x c) := by
  obtain ⟨h1, h2, h3⟩ := g.opp h
  exact ⟨h1, h2, congrArg Prod.fst h3, congrArg Prod.snd h3⟩
theorem hasV_cor {x : tabE.T} {c d : Int} (h1 : tHas x c = true) (h2 : d = c ∨ d = tNext x c ∨ d = tPrev x c) : hasV (x.1.2.getD (c / 3).toNat (0, 0, 0)) (tVert x d) := by
  have hd : tHas x d = true ∧ (d / 3).toNat = (c / 3).toNat := by
    have hc := tHas_iff.1 h1
    rcases h2 with e | e | e
    · subst e; exact ⟨h1, rfl⟩
    · subst e; exact ⟨(hasNP h1).1, by rw [tNext_t h1]; unfold trn; omega⟩
    · subst e; exact ⟨(hasNP h1).2, by rw [tPrev_t h1]; unfold trn; omega⟩
  rw [← hd.2]; exact (cor_tri hd.1).2
theorem tri_vs {x : tabE.T} {c v : Int} (h1 : tHas x c = true) (h : hasV (x.1.2.getD (c / 3).toNat (0, 0, 0)) v) : v = tVert x c ∨ v = tVert x (tNext x c) ∨ v = tVert x (tPrev x c) := by
  obtain ⟨a, a1, a2, a3⟩ := tri_cor (cor_tri h1).1 h
  have i1 := tHas_iff.1 h1
  have i2 := tHas_iff.1 a1
  have : a = c ∨ a = tNext x c ∨ a = tPrev x c := by
    rw [tNext_t h1, tPrev_t h1]; unfold trn; omega
  rcases this with e | e | e
  · subst e; exact .inl a3.symm
  · subst e; exact .inr (.inl a3.symm)
  · subst e; exact .inr (.inr a3.symm)
/-- The two that face an edge are unlike. -/
theorem opp_ne {x : tabE.T} (g : Full x) (hs : Surf x.1) {c : Int} (h : 0 ≤ tOpp x c) : tVert x (tOpp x c) ≠ tVert x c := by
  obtain ⟨h1, h2, h3, h4⟩ := g.opp_v h
  intro e
  have nc := g.ne h1
  have no := g.ne h2
  have key : ∀ {c d : Int}, tHas x c = true → tHas x d = true → tVert x d = tVert x c → tVert x (tNext x d) = tVert x (tPrev x c) → tVert x (tPrev x d) = tVert x (tNext x c) → ¬ (c / 3).toNat < (d / 3).toNat := fun {c d} k1 k2 k3 k4 k5 hlt => by
    refine hs.mir _ _ hlt (cor_tri k2).1 ?_
    have all : ∀ v, hasV (x.1.2.getD (c / 3).toNat (0, 0, 0)) v → hasV (x.1.2.getD (d / 3).toNat (0, 0, 0)) v := fun v hv => by
      rcases tri_vs k1 hv with e | e | e
      · rw [e, ← k3]; exact hasV_cor k2 (.inl rfl)
      · rw [e, ← k5]; exact hasV_cor k2 (.inr (.inr rfl))
      · rw [e, ← k4]; exact hasV_cor k2 (.inr (.inl rfl))
    exact ⟨all _ (.inl rfl), all _ (.inr (.inl rfl)), all _ (.inr (.inr rfl))⟩
  have k1 := key h1 h2 e h3 h4
  have k2 := key h2 h1 e.symm h4.symm h3.symm
  have i1 := tHas_iff.1 h1
  have i2 := tHas_iff.1 h2
  have : tOpp x c = c ∨ tOpp x c = tNext x c ∨ tOpp x c = tPrev x c := by
    rw [tNext_t h1, tPrev_t h1]; unfold trn; omega
  rcases this with e2 | e2 | e2
  · rw [e2] at h3; exact nc.2.2 h3
  · rw [e2] at e; exact nc.1 e.symm
  · rw [e2] at e; exact nc.2.1 e.symm
end S1

/- Functions with ranges over functions at their top that hand rows over. -/
namespace Go.Vm
open Go.RowKit

def afunRF (T : Tab) (SQ : SeqTab) (fn : Func) (args : List AV) (R : AV → List Ob → Prop) : Prop :=
  match fn.body with
  | some c => (St.init args).forceAll fun s => acodeR T SQ c s (postF T fn R)
  | none => False

section
variable {P : Program} {T : Tab} {SQ : SeqTab} {B B0 : Base} {w w' : World} {σ τ : Sig} {β : Places} {st : St} {tmps : Array Value} {N : Nat} {a : Act}

/-- The marks of ranges that are over, one by one. -/
theorem marks_leave {fn : Func} {st' : St} {R : Ending → World → Prop}
    (hend : ∀ (B1 : Base) (σ1 : Sig) (β1 : Places) (w' : World), B1.w = w → Grew ⟨w, σ, []⟩ B1.sg → GG B1 σ1 β1 st' tmps w' → ∃ v, (results fn tmps).run P w' = .ok v w' ∧ R (.returned v) w') (hag : Ag σ w) :
    ∀ (Ds : List Nat) (B1 : Base) (σ1 : Sig) (β1 : Places) (w' : World), Ds.Nodup → (∀ D ∈ Ds, B1.sg D = some (.deferred (some [])) ∧ w.heap.size ≤ D) → B1.w = w → Grew ⟨w, σ, []⟩ B1.sg → GG B1 σ1 β1 st' tmps w' →
      LeavesInM (FR none) 0 P fn tmps R (Ds.map mark) .returning w' := by
  intro Ds
  induction Ds with
  | cons D r ih =>
    intro B1 σ1 β1 w' hn hD hw hgr hg
    obtain ⟨hn1, hn2⟩ := List.nodup_cons.1 hn
    obtain ⟨d1, d2⟩ := hD D (List.mem_cons_self ..)
    rw [Base.relock B1 d1] at hg
    obtain ⟨_, hl2, _⟩ := hg.locked rfl
    have hdel : ∀ b, b ≠ D → (B1.sg.del D) b = B1.sg b := fun b hb => by unfold Sig.del; rw [if_neg hb]
    obtain ⟨hg2, _⟩ := hg.unlock rfl (by show B1.w.heap.size ≤ D; rw [hw]; exact d2) (by show (B1.sg.del D) D = none; unfold Sig.del; rw [if_pos rfl]) (.deferred none)
    refine ⟨by simp, .inl ⟨D, _, rfl, run_takeDeferred hl2, ih { B1 with sg := B1.sg.del D } _ _ _ hn2 (fun D' hD' => ?_) hw ⟨fun b o e => ?_, fun b hb => ?_⟩ hg2⟩⟩
    · obtain ⟨k1, k2⟩ := hD D' (List.mem_cons_of_mem _ hD')
      exact ⟨by show (B1.sg.del D) D' = _; rw [hdel _ (fun e => hn1 (e ▸ hD'))]; exact k1, k2⟩
    · have hb : b ≠ D := fun hb => by subst hb; have := hag.lt e; omega
      show ∃ o', (B1.sg.del D) b = some o' ∧ _
      rw [hdel b hb]; exact hgr.1 b o e
    · have hb : b < w.heap.size := hb
      show (B1.sg.del D) b = _
      rw [hdel b (by omega)]; exact hgr.2 b hb
  | nil =>
    intro B1 σ1 β1 w' _ _ hw hgr hg
    exact hend B1 σ1 β1 w' hw hgr hg

theorem fn_okRF (R : Rules P T) (hSQ : SeqTabOk P SQ) {f : FuncId} {fn : Func} {c : Code} (hf : P.funcs[f]? = some fn) (hb : fn.body = some c) (hok : codeOkR fn.ntmps c = true)
    {args : List AV} (hl : args.length ≤ fn.ntmps) {q : Option Prop} {u : AV} {us : List Ob} (h : goodArgs args → Opt q → afunRF T SQ fn args (fun v obs => v = u ∧ obs = us)) : FnOkF P f args (none, q, u, us) := by
  intro σ vals w hag hv
  refine ⟨trivial, fun hq => ?_⟩
  have hga := ga_init (N := fn.ntmps) hag hv hl
  have hk := h (vreps_good hv) hq
  simp only [afunRF, hb, St.forceAll_eq] at hk
  refine (callsIn_of_wp_marks (F := Fence.wide) (n := 0) hf hb trivial ?_).calls (fun _ _ hd => by cases hd)
  rw [← FR.none]
  refine acodeR_wp (B0 := ⟨w, σ, []⟩) R hSQ c hok ⟨rfl, ⟨Sig.le.refl _, fun _ _ => rfl⟩, [], rfl, List.nodup_nil, fun D hD => by cases hD⟩ hga hk fun e B1 st' a' w' hm hp h' => ?_
  have fin : (match fn.results.toList.all (resOk T st') && (nodupB (rowIds (rawAll T fn st').parts) && rowsB st'.hp (rowIds (rawAll T fn st').parts)) with
      | true => (rawAll T fn st').mapAS (renAS (rowIds (rawAll T fn st').parts)) = u ∧ obsOf st'.hp (rowIds (rawAll T fn st').parts) = us
      | false => False) → LeavesInM (FR none) 0 P fn a'.tmps (fun e w' => ∃ v σ' β', e = .returned v ∧ σ.le σ' ∧ Ag σ' w' ∧
      (∀ b, b < w.heap.size → σ' b = σ b) ∧ VRep σ' β' u v ∧ FreshL σ' w.heap.size w' us β' ∧ Below w.heap.size w w') a'.defers .returning w' := by
    intro hu
    split at hu
    case h_2 => exact hu.elim
    rename_i hallok
    rw [Bool.and_eq_true, Bool.and_eq_true] at hallok
    obtain ⟨hallok, hnd, hrows⟩ := hallok
    obtain ⟨σ1, β1, hg⟩ := h'.gg
    obtain ⟨Ds, e1, e2, e3⟩ := hm.ds
    rw [h'.defers, e1]
    refine marks_leave (w := w) (σ := σ) (st' := st') (fun B1 σ1 β1 w' hw hgr hg => ?_) hag Ds B1 σ1 β1 w' e2 e3 hm.w hm.grew hg
    have hsl : σ.le σ1 := Sig.le.trans hgr.1 hg.grew.1
    have hsb : ∀ b, b < w.heap.size → σ1 b = σ b := fun b hb => (hg.grew.2 b (by rw [hw]; exact hb)).trans (hgr.2 b hb)
    have hbel : Below w.heap.size w w' := by have := hg.bel; rw [hw] at this; exact this
    obtain ⟨vs, hrun, hall⟩ := results_run (P := P) (w := w') (fn := fn) (tmps := a'.tmps) (Q := fun r v => VRep σ1 β1 (rawOne T st' r) v) (fun r hr => by
      have hro := List.all_eq_true.1 hallok r hr
      cases r with
      | tmp t => exact ⟨_, rfl, hg.env t⟩
      | cell a t =>
        simp only [resOk] at hro
        simp only [rawOne]
        have hx := hg.env a
        split at hro
        · rename_i id i k hea
          rw [hea] at hx
          split at hro
          · rename_i v hv
            obtain ⟨p, _, hptr, _⟩ := hx
            obtain ⟨_, hrun⟩ := cLoad_sound (w := w') R.ty R.one hg.mem (t := t) (hg.env a) (p := none) (q := none) (v := v) (by rw [hea]; exact hv)
            obtain ⟨val, h1, h2⟩ := hrun trivial
            refine ⟨val, ?_, h2⟩
            rw [hptr] at h1 ⊢
            rw [loadAt_run] at h1
            simp only [asAddr, Sem.run_bind, Sem.run_pure, Result.andThen_ok]
            exact h1
          · cases hro
        · cases hro)
    refine ⟨_, hrun, _, σ1, (rowIds (rawAll T fn st').parts).map fun i => (β1[i]?).getD none, rfl, hsl, hg.mem.ag, hsb, ?_, ?_, hbel⟩
    · exact ((rawAll_rep hall).mapAS fun a v ha => ARep.ren (ids := rowIds (rawAll T fn st').parts) ha) |> fun h => by rw [hu.1] at h; exact h
    · have := nodup_fresh (w := w') hg.mem.ob (fun id ob p hi hp => by have := hg.sep id ob p hi hp; rw [hw] at this; exact this) _ hnd hrows
      rw [hu.2] at this; exact this
  cases e with
  | normal => simp only [postF, AV.force_eq] at hp; exact fin hp
  | ret => simp only [postF, AV.force_eq] at hp; exact fin hp
  | _ => exact hp.elim
end
end Go.Vm

open Go Go.Vm Go.Proofs
namespace S1
set_option maxRecDepth 100000

/-! border -/
def edgG (x : tabE.T) (c : Nat) : Option (Int × Int) := if tOpp x c < 0 then some (tEdge x c) else none
def edgR (x : tabE.T) : List (Int × Int) := (List.range (3 * x.1.2.length)).filterMap (edgG x)
def edgO (o : Option tabE.T) : List (Int × Int) := onO o [] edgR
def loopEd (x : tabE.T) : Spec Nat where
  inv k := k ≤ 3 * x.1.2.length
  live k := [(10, .s (.int .i64 k)), (3, .s (.own 1 0 ((List.range k).filterMap (edgG x)).length))]
  keep := [0, 9]
  heap k := [(1, .row .arr2 36 ((List.range k).filterMap (edgG x)))]
  keepH := [0]
  mu k := 3 * x.1.2.length - k
theorem edges_vc (x : tabE.T) (g : Good x) : afun ⟨tyL, [(30, trianglesC), (22, oppC), (21, edgeC)], []⟩ Try.f131 [(ETy.pt tabE).av (some x)] (fun r => r = .s (.sl .arr2 (edgR x))) := by
  have hl : x.1.2.length ≤ 8192 := g.fit.2.2.1
  repeat' (conv => whnf
           first | done | refine Need.intro (by first | rfl | omega | (simp only [i64ok] at *; omega)) ?_ | refine Need.intro (Hold.out ?_) ?_ | refine Give.intro fun _ => ?_ | refine Both.intro ?_ ?_ | refine BIf.and ?_ | refine BIf.or ?_ | refine BIf.eqi (fun _ => ?_) (fun _ => ?_) | refine BIf.nei (fun _ => ?_) (fun _ => ?_) | refine BIf.dec (fun _ => ?_) (fun _ => ?_) | refine BIf.nt ?_ | refine BIf.intro (fun _ => ?_) (fun _ => ?_) | ((first | (with_reducible show Or (∃ n, rounds (acode _ (Code.seq (Code.region 5 _ _) _)) _ n _) _) | (with_reducible show Or (∃ n, rounds (acode _ (Code.seq (Code.seq (Code.region 5 _ _) _) _)) _ n _) _) | (with_reducible show Or (∃ n, rounds (acode _ (Code.seq (Code.seq (Code.seq (Code.region 5 _ _) _) _) _)) _ n _) _) | (with_reducible show Or (∃ n, rounds (acode _ (Code.seq (Code.seq (Code.seq (Code.seq (Code.region 5 _ _) _) _) _) _)) _ n _) _) | (with_reducible show Or (∃ n, rounds (acode _ (Code.block _ (Code.seq (Code.region 5 _ _) _))) _ n _) _) | (with_reducible show Or (∃ n, rounds (acode _ (Code.block _ (Code.seq (Code.seq (Code.region 5 _ _) _) _))) _ n _) _) | (with_reducible show Or (∃ n, rounds (acode _ (Code.block _ (Code.seq (Code.seq (Code.seq (Code.region 5 _ _) _) _) _))) _ n _) _) | (with_reducible show Or (∃ n, rounds (acode _ (Code.block _ (Code.seq (Code.seq (Code.seq (Code.seq (Code.region 5 _ _) _) _) _) _))) _ n _) _)); refine Or.inr (Exists.intro (Nat) (Exists.intro (loopEd x) (And.intro (Exists.intro (0) (And.intro (Hold.out ?_) (And.intro ?_ (And.intro ?_ rfl)))) (fun k hk => ?_))))) | ((with_reducible show (∃ y, And (Spec.inv (loopEd _) y) _)); refine Exists.intro (k + 1) (And.intro (Hold.out ?_) (And.intro (And.intro ?_ (And.intro ?_ rfl)) (Hold.out ?_)))) | refine And.intro rfl ?_ | refine And.intro (HoldEq.out ?_) ?_ | refine And.intro (HoldOb.out ?_) ?_ | exact True.intro | refine HoldEq.out ?_ | refine HoldObs.out ?_ | refine KCheck.intro (by kernel_rfl) ?_ | refine HoldOr.out ?_)
  all_goals try first | refine HoldEq.int ?_ | refine HoldEq.bool ?_ | refine HoldEq.sl ?_ | refine HoldEq.own ?_ | refine HoldEq.ownS ?_ ?_ | refine HoldOb.row ?_ | refine HoldOb.map ?_ | refine HoldOb.gmap ?_ | refine HoldOb.grow ?_ | refine HoldObs.row ?_
  all_goals try simp only [take_one, take_one', set_one, take_all, List.length_singleton, rec_self, Int.toNat_natCast, pair_eta, ETy.dflt, List.getD_cons_zero, List.getD_cons_succ, Int.reduceToNat, Int.reduceAdd, Int.reduceSub, Int.reduceNeg, Nat.reduceAdd, Nat.zero_add, loopEd] at *
  all_goals try first | (refine Hold.intro ?_; omega) | (refine Hold.intro ?_; have := fm_len (edgG x) k; omega)
  · exact Hold.intro (show (k : Int) ≤ 1000000 by omega)
  · exact Hold.intro (show (k : Int) ≤ 1000000 by omega)
  · rename_i h; rw [fm_succ, edgG, if_pos h, List.length_append]; rfl
  · rename_i h; rw [fm_succ]; conv => lhs; rhs; rw [edgG, if_pos h]
    rfl
  · rename_i h; rw [fm_succ]; conv => lhs; rhs; rhs; rw [edgG, if_neg h]
    simp
  · rename_i h; rw [fm_succ]; conv => lhs; rhs; rw [edgG, if_neg h]
    simp
  · have e : k = 3 * x.1.2.length := by omega
    rw [e]; rfl
theorem edges0_vc : afun ⟨tyL, [(30, trianglesC), (22, oppC), (21, edgeC)], []⟩ Try.f131 [(ETy.pt tabE).av none] (fun r => r = .s (.sl .arr2 [])) := by
  repeat' (conv => whnf
           first | done | refine Need.intro (by first | rfl | omega | (simp only [i64ok] at *; omega)) ?_ | refine Need.intro (Hold.out ?_) ?_ | refine Give.intro fun _ => ?_ | refine Both.intro ?_ ?_ | refine BIf.and ?_ | refine BIf.or ?_ | refine BIf.eqi (fun _ => ?_) (fun _ => ?_) | refine BIf.nei (fun _ => ?_) (fun _ => ?_) | refine BIf.dec (fun _ => ?_) (fun _ => ?_) | refine BIf.nt ?_ | refine BIf.intro (fun _ => ?_) (fun _ => ?_) | refine And.intro rfl ?_ | refine And.intro (HoldEq.out ?_) ?_ | refine And.intro (HoldOb.out ?_) ?_ | exact True.intro | refine HoldEq.out ?_ | refine HoldObs.out ?_ | refine KCheck.intro (by kernel_rfl) ?_ | refine HoldOr.out ?_)
  all_goals try first | refine HoldEq.int ?_ | refine HoldEq.bool ?_ | refine HoldEq.sl ?_ | refine HoldEq.own ?_ | refine HoldEq.ownS ?_ ?_ | refine HoldOb.row ?_ | refine HoldOb.map ?_ | refine HoldOb.gmap ?_ | refine HoldOb.grow ?_ | refine HoldObs.row ?_
  all_goals try simp only [take_one, take_one', set_one, take_all, List.length_singleton, rec_self, Int.toNat_natCast, pair_eta, ETy.dflt, List.getD_cons_zero, List.getD_cons_succ, Int.reduceToNat, Int.reduceAdd, Int.reduceSub, Int.reduceNeg, Nat.reduceAdd, Nat.zero_add] at *
  rfl
def edgesC : List AV → Option Res := con1 (.pt tabE) (fun o => some (none, some (∀ x, o = some x → Good x), .s (.sl .arr2 (edgO o))))
theorem edgesRow : FnRow Try.prog 131 edgesC := ⟨con1_ok fun o r h => by
  cases h
  cases o with
  | none => exact fn_by (rulesF (fn := [(30, trianglesC), (22, oppC), (21, edgeC)]) (fr := []) ⟨trianglesRow, oppRow, edgeRow, trivial⟩ trivial) Try.func131 (by kernel_rfl) fun _ _ => edges0_vc
  | some x => exact fn_by (rulesF (fn := [(30, trianglesC), (22, oppC), (21, edgeC)]) (fr := []) ⟨trianglesRow, oppRow, edgeRow, trivial⟩ trivial) Try.func131 (by kernel_rfl) fun _ h => edges_vc x (h x rfl), _, Try.func131, by kernel_rfl, by kernel_rfl⟩
/-- Who comes behind whom. -/
abbrev NxM := List ((ETy.int .i64).T × (ETy.int .i64).T)
def behK (es : List (Int × Int)) (k : Nat) : NxM := irec (fun m j => mset (.int .i64) m (es.getD j (0, 0)).2 (es.getD j (0, 0)).1) [] k
def behO (o : Option tabE.T) : NxM := behK (edgO o) (edgO o).length
def loopBh (es : List (Int × Int)) : Spec Nat where
  inv k := k ≤ es.length
  live k := [(10, .s (.int .i64 k))]
  keep := [3, 8, 9]
  heap k := [(0, .map i64E i64E (behK es k))]
  keepH := []
  mu k := es.length - k
theorem behind_vc (o : Option tabE.T) (hg : ∀ x, o = some x → Good x) : afun ⟨tyL, [(131, edgesC)], []⟩ Try.f100 [(ETy.pt tabE).av o] (fun r => r = .s (.mp i64E i64E (behO o))) := by
  repeat' (conv => whnf
           first | done | refine Need.intro (by first | rfl | omega | (simp only [i64ok] at *; omega)) ?_ | refine Need.intro (Hold.out ?_) ?_ | refine Give.intro fun _ => ?_ | refine Both.intro ?_ ?_ | refine BIf.and ?_ | refine BIf.or ?_ | refine BIf.eqi (fun _ => ?_) (fun _ => ?_) | refine BIf.nei (fun _ => ?_) (fun _ => ?_) | refine BIf.dec (fun _ => ?_) (fun _ => ?_) | refine BIf.nt ?_ | refine BIf.intro (fun _ => ?_) (fun _ => ?_) | ((first | (with_reducible show Or (∃ n, rounds (acode _ (Code.seq (Code.region 3 _ _) _)) _ n _) _) | (with_reducible show Or (∃ n, rounds (acode _ (Code.seq (Code.seq (Code.region 3 _ _) _) _)) _ n _) _) | (with_reducible show Or (∃ n, rounds (acode _ (Code.seq (Code.seq (Code.seq (Code.region 3 _ _) _) _) _)) _ n _) _) | (with_reducible show Or (∃ n, rounds (acode _ (Code.seq (Code.seq (Code.seq (Code.seq (Code.region 3 _ _) _) _) _) _)) _ n _) _) | (with_reducible show Or (∃ n, rounds (acode _ (Code.block _ (Code.seq (Code.region 3 _ _) _))) _ n _) _) | (with_reducible show Or (∃ n, rounds (acode _ (Code.block _ (Code.seq (Code.seq (Code.region 3 _ _) _) _))) _ n _) _) | (with_reducible show Or (∃ n, rounds (acode _ (Code.block _ (Code.seq (Code.seq (Code.seq (Code.region 3 _ _) _) _) _))) _ n _) _) | (with_reducible show Or (∃ n, rounds (acode _ (Code.block _ (Code.seq (Code.seq (Code.seq (Code.seq (Code.region 3 _ _) _) _) _) _))) _ n _) _)); refine Or.inr (Exists.intro (Nat) (Exists.intro (loopBh (edgO o)) (And.intro (Exists.intro (0) (And.intro (Hold.out ?_) (And.intro ?_ (And.intro ?_ rfl)))) (fun k hk => ?_))))) | ((with_reducible show (∃ y, And (Spec.inv (loopBh _) y) _)); refine Exists.intro (k + 1) (And.intro (Hold.out ?_) (And.intro (And.intro ?_ (And.intro ?_ rfl)) (Hold.out ?_)))) | refine And.intro rfl ?_ | refine And.intro (HoldEq.out ?_) ?_ | refine And.intro (HoldOb.out ?_) ?_ | exact True.intro | refine HoldEq.out ?_ | refine HoldObs.out ?_ | refine KCheck.intro (by kernel_rfl) ?_ | refine HoldOr.out ?_)
  all_goals try first | refine HoldEq.int ?_ | refine HoldEq.bool ?_ | refine HoldEq.sl ?_ | refine HoldEq.own ?_ | refine HoldEq.ownS ?_ ?_ | refine HoldOb.row ?_ | refine HoldOb.map ?_ | refine HoldOb.gmap ?_ | refine HoldOb.grow ?_ | refine HoldObs.row ?_
  all_goals try simp only [take_one, take_one', set_one, take_all, List.length_singleton, rec_self, Int.toNat_natCast, pair_eta, ETy.dflt, List.getD_cons_zero, List.getD_cons_succ, Int.reduceToNat, Int.reduceAdd, Int.reduceSub, Int.reduceNeg, Nat.reduceAdd, Nat.zero_add, loopBh] at *
  all_goals try (refine Hold.intro ?_; omega)
  · have e : k = (edgO o).length := by omega
    rw [e]; exact HoldEq.intro rfl
def behindC : List AV → Option Res := con1 (.pt tabE) (fun o => some (none, some (∀ x, o = some x → Good x), .s (.mp i64E i64E (behO o))))
theorem behindRow : FnRow Try.prog 100 behindC := ⟨con1_ok fun o r h => by cases h; exact fn_by (rulesF (fn := [(131, edgesC)]) (fr := []) ⟨edgesRow, trivial⟩ trivial) Try.func100 (by kernel_rfl) fun _ h => behind_vc o h, _, Try.func100, by kernel_rfl, by kernel_rfl⟩
theorem walk_vc {fn} (o : Option tabE.T) (v : Int) : afun ⟨tyL, fn, []⟩ Try.f76 [(ETy.pt tabE).av o, i64E.av v] (fun r => r = .s (.clo 99 [⟨.pt tabE, o⟩, ⟨i64E, v⟩])) := by
  repeat' (conv => whnf
           first | done | refine Need.intro (by first | rfl | omega | (simp only [i64ok] at *; omega)) ?_ | refine Need.intro (Hold.out ?_) ?_ | refine Give.intro fun _ => ?_ | refine Both.intro ?_ ?_ | refine BIf.and ?_ | refine BIf.or ?_ | refine BIf.eqi (fun _ => ?_) (fun _ => ?_) | refine BIf.nei (fun _ => ?_) (fun _ => ?_) | refine BIf.dec (fun _ => ?_) (fun _ => ?_) | refine BIf.nt ?_ | refine BIf.intro (fun _ => ?_) (fun _ => ?_) | refine And.intro rfl ?_ | refine And.intro (HoldEq.out ?_) ?_ | refine And.intro (HoldOb.out ?_) ?_ | exact True.intro | refine HoldEq.out ?_ | refine HoldObs.out ?_ | refine KCheck.intro (by kernel_rfl) ?_ | refine HoldOr.out ?_)
  all_goals try first | refine HoldEq.int ?_ | refine HoldEq.bool ?_ | refine HoldEq.sl ?_ | refine HoldEq.own ?_ | refine HoldEq.ownS ?_ ?_ | refine HoldOb.row ?_ | refine HoldOb.map ?_ | refine HoldOb.gmap ?_ | refine HoldOb.grow ?_ | refine HoldObs.row ?_
  all_goals try simp only [take_one, take_one', set_one, take_all, List.length_singleton, rec_self, Int.toNat_natCast, pair_eta, ETy.dflt, List.getD_cons_zero, List.getD_cons_succ, Int.reduceToNat, Int.reduceAdd, Int.reduceSub, Int.reduceNeg, Nat.reduceAdd, Nat.zero_add] at *
def walkC : List AV → Option Res := con2 (.pt tabE) i64E (fun o v => some (none, none, .s (.clo 99 [⟨.pt tabE, o⟩, ⟨i64E, v⟩])))
theorem walkRow : FnRow Try.prog 76 walkC := ⟨con2_ok fun o v r h => by cases h; exact fn_by (rulesF (fn := []) (fr := []) trivial trivial) Try.func76 (by kernel_rfl) fun _ _ => walk_vc o v, _, Try.func76, by kernel_rfl, by kernel_rfl⟩
def nxt (m : NxM) (u : Int) : Int := (mget i64E m u).getD 0
def walkF (m : NxM) (v : Int) : Nat → Int → List Int
  | 0, _ => []
  | n + 1, u => if u = v then [] else u :: walkF m v n (nxt m u)
/-- What goes round a border loop yields. -/
def walkL (o : Option tabE.T) (v : Int) : List Int := if (mget i64E (behO o) v).isSome then v :: walkF (behO o) v 10000 (nxt (behO o) v) else []
end S1
