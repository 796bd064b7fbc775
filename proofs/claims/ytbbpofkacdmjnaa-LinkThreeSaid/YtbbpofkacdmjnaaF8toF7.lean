/- A part of the proofs of the laws of this seat: contracts of functions, each for every input that its text names. -/
import Derived.Test.YtbbpofkacdmjnaaF3toU1
import Derived.Test.YtbbpofkacdmjnaaT12toVmRng
set_option linter.unusedSimpArgs false
set_option linter.unusedVariables false
set_option maxHeartbeats 2000000
open Go Go.Vm Go.Proofs
namespace S1
set_option maxRecDepth 100000

/-! where a surface ends -/
theorem aroundF_endF {x : tabE.T} (g : Good x) {b : Int} : ∀ n k, k + n = 30000 → FInv (tAfter x) b k → ∃ y ∈ aroundF x b n (iter (tAfter x) b k), tAfter x y < 0 ∨ tAfter x y = b
  | 0, k, e, h => by have := fin_after g h; omega
  | n + 1, k, e, h => by
    unfold aroundF
    by_cases h1 : tAfter x (iter (tAfter x) b k) < 0
    · rw [if_pos h1]; exact ⟨_, List.mem_singleton.2 rfl, .inl h1⟩
    · rw [if_neg h1]
      by_cases h2 : tAfter x (iter (tAfter x) b k) = b
      · rw [if_pos h2]; exact ⟨_, List.mem_singleton.2 rfl, .inr h2⟩
      · rw [if_neg h2]
        obtain ⟨y, hy, h3⟩ := aroundF_endF g n (k + 1) (by omega) (h.succ h1 h2)
        exact ⟨y, List.mem_cons_of_mem _ hy, h3⟩
section
variable {x : tabE.T} {c d : Int}
theorem Full.last_one (g : Full x) (hc : tHas x c = true) (hd : tHas x d = true) (e : tVert x c = tVert x d) (h1 : tAfter x c < 0) (h2 : tAfter x d < 0) : c = d := by
  have hv := tVert_in g.fit hc
  obtain ⟨b, _, eL, _⟩ := g.around hv.1 hv.2
  have k1 := g.around_all hc
  have k2 := g.around_all hd
  rw [← e] at k2
  rw [eL] at k1 k2
  rw [← aroundF_last _ _ c k1 h1, ← aroundF_last _ _ d k2 h2]
theorem Full.first_is (g : Full x) (hc : tHas x c = true) (h1 : tBefore x c < 0) : (firstR x (tVert x c)).1 = c := by
  have hv := tVert_in g.fit hc
  obtain ⟨b, eb, eL, _⟩ := g.around hv.1 hv.2
  have k1 := g.around_all hc
  rw [eL] at k1
  have := aroundF_all (x := x) (b := b) (fun y => y = b ∨ 0 ≤ tBefore x y) (fun y _ ha => .inr (by rw [g.before_after ha]; exact (tHas_iff.1 (g.after_has ha).1).1)) _ _ (.inl rfl) c k1
  rw [eb]
  rcases this with h | h
  · exact h.symm
  · omega
theorem Full.first_one (g : Full x) (hc : tHas x c = true) (hd : tHas x d = true) (e : tVert x c = tVert x d) (h1 : tBefore x c < 0) (h2 : tBefore x d < 0) : c = d := by
  rw [← g.first_is hc h1, ← g.first_is hd h2, e]
theorem Full.last_of_first (g : Full x) (hc : tHas x c = true) (h1 : tBefore x c < 0) : ∃ y, tHas x y = true ∧ tVert x y = tVert x c ∧ tAfter x y < 0 := by
  have hv := tVert_in g.fit hc
  obtain ⟨b, eb, eL, _, _, _, hall, _⟩ := g.around hv.1 hv.2
  obtain ⟨y, hy, h⟩ := aroundF_endF g.toGood (b := b) 30000 0 rfl (fun j a b => by omega)
  have hy : y ∈ aroundL (some x) (tVert x c) := by rw [eL]; exact hy
  obtain ⟨k1, k2⟩ := hall y hy
  rcases h with h | h
  · exact ⟨y, k1, k2, h⟩
  · have hb := g.first_is hc h1
    rw [eb] at hb
    rw [hb] at h
    have := g.before_after (c := y) (by rw [h]; exact (tHas_iff.1 hc).1)
    rw [h] at this
    have := (tHas_iff.1 k1).1
    omega
theorem Full.first_of_last (g : Full x) (hc : tHas x c = true) (h1 : tAfter x c < 0) : ∃ y, tHas x y = true ∧ tVert x y = tVert x c ∧ tBefore x y < 0 := by
  have hv := tVert_in g.fit hc
  obtain ⟨b, eb, eL, hb1, hb2, _, _, _, _, hend⟩ := g.around hv.1 hv.2
  rcases hend with h | h
  · exact ⟨b, hb1, hb2, h.2⟩
  · have := h.2 c (g.around_all hc); omega
end
/-- A border edge. -/
def bE (x : tabE.T) (w u : Int) : Prop := ∃ c, tHas x c = true ∧ tOpp x c < 0 ∧ tEdge x c = (w, u)
section
variable {x : tabE.T}
theorem bE_last (g : Full x) {w u : Int} (h : bE x w u) : ∃ d, tHas x d = true ∧ tVert x d = u ∧ tAfter x d < 0 ∧ tVert x (tPrev x d) = w := by
  obtain ⟨c, h1, h2, h3⟩ := h
  refine ⟨tPrev x c, (hasNP h1).2, congrArg Prod.snd h3, ?_, by rw [(np h1).2.2.2]; exact congrArg Prod.fst h3⟩
  unfold tAfter; rw [(np h1).1, if_pos h2]; decide
theorem bE_first (g : Full x) {w u : Int} (h : bE x w u) : ∃ d, tHas x d = true ∧ tVert x d = w ∧ tBefore x d < 0 ∧ tVert x (tNext x d) = u := by
  obtain ⟨c, h1, h2, h3⟩ := h
  refine ⟨tNext x c, (hasNP h1).1, congrArg Prod.fst h3, ?_, by rw [(np h1).2.2.1]; exact congrArg Prod.snd h3⟩
  unfold tBefore; rw [(np h1).2.1, if_pos h2]; decide
theorem last_bE (g : Full x) {d : Int} (h : tHas x d = true) (ha : tAfter x d < 0) : bE x (tVert x (tPrev x d)) (tVert x d) := by
  refine ⟨tNext x d, (hasNP h).1, ?_, edgeN h⟩
  by_cases e : tOpp x (tNext x d) < 0
  · exact e
  · unfold tAfter at ha
    rw [if_neg e] at ha
    have := (tHas_iff.1 (hasNP (g.opp (d := tNext x d) (by omega)).2.1).1).1
    omega
theorem first_bE (g : Full x) {d : Int} (h : tHas x d = true) (ha : tBefore x d < 0) : bE x (tVert x d) (tVert x (tNext x d)) := by
  refine ⟨tPrev x d, (hasNP h).2, ?_, edgeP h⟩
  by_cases e : tOpp x (tPrev x d) < 0
  · exact e
  · unfold tBefore at ha
    rw [if_neg e] at ha
    have := (tHas_iff.1 (hasNP (g.opp (d := tPrev x d) (by omega)).2.1).2).1
    omega
theorem bE_left (g : Full x) {w w' u : Int} (h : bE x w u) (k : bE x w' u) : w = w' := by
  obtain ⟨d, d1, d2, d3, d4⟩ := bE_last g h
  obtain ⟨e, e1, e2, e3, e4⟩ := bE_last g k
  rw [← d4, ← e4, g.last_one d1 e1 (d2.trans e2.symm) d3 e3]
theorem bE_right (g : Full x) {w u u' : Int} (h : bE x w u) (k : bE x w u') : u = u' := by
  obtain ⟨d, d1, d2, d3, d4⟩ := bE_first g h
  obtain ⟨e, e1, e2, e3, e4⟩ := bE_first g k
  rw [← d4, ← e4, g.first_one d1 e1 (d2.trans e2.symm) d3 e3]
theorem bE_next (g : Full x) {w u : Int} (h : bE x w u) : ∃ z, bE x z w := by
  obtain ⟨d, d1, d2, d3, d4⟩ := bE_first g h
  obtain ⟨y, y1, y2, y3⟩ := g.last_of_first d1 d3
  have := last_bE g y1 y3
  rw [y2, d2] at this
  exact ⟨_, this⟩
theorem bE_prev (g : Full x) {w u : Int} (h : bE x w u) : ∃ z, bE x u z := by
  obtain ⟨d, d1, d2, d3, d4⟩ := bE_last g h
  obtain ⟨y, y1, y2, y3⟩ := g.first_of_last d1 d3
  have := first_bE g y1 y3
  rw [y2, d2] at this
  exact ⟨_, this⟩
theorem bE_in (g : Full x) {w u : Int} (h : bE x w u) : (0 ≤ w ∧ w < x.1.1) ∧ (0 ≤ u ∧ u < x.1.1) ∧ w ≠ u := by
  obtain ⟨c, h1, h2, h3⟩ := h
  have e1 : tVert x (tNext x c) = w := congrArg Prod.fst h3
  have e2 : tVert x (tPrev x c) = u := congrArg Prod.snd h3
  have k1 := tVert_in g.fit (hasNP h1).1
  have k2 := tVert_in g.fit (hasNP h1).2
  have k3 := (g.ne h1).2.2
  rw [e1] at k1 k3; rw [e2] at k2 k3
  exact ⟨k1, k2, k3⟩
theorem edgR_mem {e : Int × Int} : e ∈ edgR x ↔ bE x e.1 e.2 := by
  unfold edgR
  rw [List.mem_filterMap]
  constructor
  · rintro ⟨c, hc, h⟩
    have hc := List.mem_range.1 hc
    unfold edgG at h
    split at h
    · rename_i ho
      cases h
      exact ⟨c, tHas_iff.2 ⟨by omega, by omega⟩, ho, rfl⟩
    · cases h
  · rintro ⟨c, h1, h2, h3⟩
    have hc := tHas_iff.1 h1
    have e1 : ((c.toNat : Nat) : Int) = c := by omega
    refine ⟨c.toNat, List.mem_range.2 (by omega), ?_⟩
    unfold edgG
    rw [e1, if_pos h2, h3]
end
theorem behK_get (es : List (Int × Int)) (u : Int) : ∀ k, (∀ w, mget i64E (behK es k) u = some w → ∃ j, j < k ∧ es.getD j (0, 0) = (w, u)) ∧ ((∃ j, j < k ∧ (es.getD j (0, 0)).2 = u) → (mget i64E (behK es k) u).isSome = true)
  | 0 => ⟨fun w h => (by cases h), fun ⟨j, h, _⟩ => by omega⟩
  | k + 1 => by
    obtain ⟨h1, h2⟩ := behK_get es u k
    have e : behK es (k + 1) = mset i64E (behK es k) (es.getD k (0, 0)).2 (es.getD k (0, 0)).1 := rfl
    rw [e]
    by_cases he : (es.getD k (0, 0)).2 = u
    · rw [he, mget_same]
      exact ⟨fun w hw => ⟨k, by omega, by injection hw with hw; exact Prod.ext hw he⟩, fun _ => rfl⟩
    · rw [mget_other _ he]
      refine ⟨fun w hw => ?_, fun ⟨j, hj, hju⟩ => h2 ⟨j, ?_, hju⟩⟩
      · obtain ⟨j, hj, e⟩ := h1 w hw
        exact ⟨j, by omega, e⟩
      · by_cases e : j = k
        · subst e; exact absurd hju he
        · omega
theorem beh_iff {x : tabE.T} (g : Full x) {w u : Int} : mget i64E (behO (some x)) u = some w ↔ bE x w u := by
  obtain ⟨h1, h2⟩ := behK_get (edgR x) u (edgR x).length
  have mem : ∀ j, j < (edgR x).length → (edgR x).getD j (0, 0) ∈ edgR x := fun j hj => by
    rw [List.getD_eq_getElem?_getD, List.getElem?_eq_getElem hj]; exact List.getElem_mem hj
  have fw : ∀ w, mget i64E (behO (some x)) u = some w → bE x w u := fun w h => by
    obtain ⟨j, hj, e⟩ := h1 w h
    have := edgR_mem.1 (mem j hj)
    rw [e] at this; exact this
  refine ⟨fw w, fun h => ?_⟩
  obtain ⟨j, hj, e⟩ := List.mem_iff_getElem.1 ((edgR_mem (x := x) (e := (w, u))).2 h)
  have := h2 ⟨j, hj, by rw [List.getD_eq_getElem?_getD, List.getElem?_eq_getElem hj]; show ((edgR x)[j]).2 = u; rw [e]⟩
  have e3 : behO (some x) = behK (edgR x) (edgR x).length := rfl
  rw [← e3] at this
  cases h4 : mget i64E (behO (some x)) u with
  | none => rw [h4] at this; cases this
  | some w' => rw [bE_left g h (fw w' h4)]
theorem nxt_is {x : tabE.T} (g : Full x) {w u : Int} (h : bE x w u) : nxt (behO (some x)) u = w := by
  unfold nxt; rw [(beh_iff g).2 h]; rfl
/-- Round a border loop. -/
theorem walk_fin {x : tabE.T} (g : Full x) {v : Int} (hv : ∃ w, bE x w v) {k : Nat} (h : ∀ j, 1 ≤ j → j ≤ k → iter (nxt (behO (some x))) v j ≠ v) : k ≤ 4096 := by
  have key : ∀ j, ∃ w, bE x w (iter (nxt (behO (some x))) v j) := fun j => by
    induction j with
    | zero => exact hv
    | succ j ih =>
      obtain ⟨w, hw⟩ := ih
      show ∃ w, bE x w (nxt (behO (some x)) (iter (nxt (behO (some x))) v j))
      rw [nxt_is g hw]
      exact bE_next g hw
  let f : Int → Int := fun u => (mget i64E (behO (some x)) u).getD (-1)
  have hf : ∀ j, iter f v j = iter (nxt (behO (some x))) v j := fun j => by
    induction j with
    | zero => rfl
    | succ j ih =>
      obtain ⟨w, hw⟩ := key j
      show f (iter f v j) = nxt _ _
      rw [ih, nxt_is g hw]
      show (mget i64E (behO (some x)) _).getD (-1) = w
      rw [(beh_iff g).2 hw]; rfl
  have fsome : ∀ c, 0 ≤ f c → bE x (f c) c := fun c hc => by
    cases e : mget i64E (behO (some x)) c with
    | none => have : f c = -1 := by show (mget i64E (behO (some x)) c).getD (-1) = -1; rw [e]; rfl
              omega
    | some w =>
      have : f c = w := by show (mget i64E (behO (some x)) c).getD (-1) = w; rw [e]; rfl
      rw [this]; exact (beh_iff g).1 e
  have hn := g.fit
  have := pig (f := f) (L := x.1.1.toNat) (c := v) (k := k) (fun c hc => by have := (bE_in g (fsome c hc)).1; omega) (fun a b ha e => by
    have k1 := fsome a ha
    have k2 := fsome b (by omega)
    rw [← e] at k2
    exact bE_right g k1 k2) (fun j h1 h2 => by
    rw [hf]
    obtain ⟨w, hw⟩ := key j
    exact ⟨(bE_in g hw).2.1.1, h j h1 h2⟩)
  have h1 : x.1.1 ≤ 4096 := hn.2.1
  have h2 : x.1.1.toNat ≤ 4096 := Int.toNat_le_toNat h1
  exact Nat.le_trans this h2
theorem walk_key {x : tabE.T} (g : Full x) {v : Int} (hv : ∃ w, bE x w v) : ∀ j, ∃ w, bE x w (iter (nxt (behO (some x))) v j)
  | 0 => hv
  | j + 1 => by
    obtain ⟨w, hw⟩ := walk_key g hv j
    show ∃ w, bE x w (nxt (behO (some x)) (iter (nxt (behO (some x))) v j))
    rw [nxt_is g hw]
    exact bE_next g hw
end S1

open Go Go.Vm Go.Proofs
namespace S1
set_option maxRecDepth 100000

/-! edges in plain words -/
/-- Is there such an edge? -/
def eE (l : List P3) (a b : Int) : Prop := ∃ i, i < l.length ∧ dE (tg l i) a b
theorem cor_dE {x : tabE.T} {c : Int} (h : tHas x c = true) : (c / 3).toNat < x.1.2.length ∧ dE (tg x.1.2 (c / 3).toNat) (tEdge x c).1 (tEdge x c).2 := by
  have hc := tHas_iff.1 h
  have h1 := tHas_iff.1 (hasNP h).1
  have h2 := tHas_iff.1 (hasNP h).2
  refine ⟨by omega, ?_⟩
  show dE _ (tVert x (tNext x c)) (tVert x (tPrev x c))
  rw [tVert_t h1.1 h1.2, tVert_t h2.1 h2.2, tNext_t h, tPrev_t h]
  have e1 : (trn c 1 / 3).toNat = (c / 3).toNat := by unfold trn; omega
  have e2 : (trn c 2 / 3).toNat = (c / 3).toNat := by unfold trn; omega
  rw [e1, e2]
  have : c % 3 = 0 ∨ c % 3 = 1 ∨ c % 3 = 2 := by omega
  rcases this with e | e | e
  · rw [show trn c 1 % 3 = 1 by unfold trn; omega, show trn c 2 % 3 = 2 by unfold trn; omega]; exact .inr (.inl ⟨rfl, rfl⟩)
  · rw [show trn c 1 % 3 = 2 by unfold trn; omega, show trn c 2 % 3 = 0 by unfold trn; omega]; exact .inr (.inr ⟨rfl, rfl⟩)
  · rw [show trn c 1 % 3 = 0 by unfold trn; omega, show trn c 2 % 3 = 1 by unfold trn; omega]; exact .inl ⟨rfl, rfl⟩
theorem dE_cor {x : tabE.T} {j : Nat} {a b : Int} (hj : j < x.1.2.length) (h : dE (tg x.1.2 j) a b) : ∃ c, tHas x c = true ∧ tEdge x c = (a, b) ∧ (c / 3).toNat = j := by
  have key : ∀ k : Int, 0 ≤ k → k < 3 → p3 (tg x.1.2 j) ((k + 1) % 3) = a → p3 (tg x.1.2 j) ((k + 2) % 3) = b → ∃ c, tHas x c = true ∧ tEdge x c = (a, b) ∧ (c / 3).toNat = j := fun k h1 h2 ea eb => by
    have hc : tHas x (3 * (j : Int) + k) = true := tHas_iff.2 (by omega)
    have k1 := tHas_iff.1 (hasNP hc).1
    have k2 := tHas_iff.1 (hasNP hc).2
    refine ⟨3 * j + k, hc, ?_, by omega⟩
    show (tVert x (tNext x _), tVert x (tPrev x _)) = _
    rw [tVert_t k1.1 k1.2, tVert_t k2.1 k2.2, tNext_t hc, tPrev_t hc]
    rw [show (trn (3 * (j : Int) + k) 1 / 3).toNat = j by unfold trn; omega, show (trn (3 * (j : Int) + k) 2 / 3).toNat = j by unfold trn; omega,
      show trn (3 * (j : Int) + k) 1 % 3 = (k + 1) % 3 by unfold trn; omega, show trn (3 * (j : Int) + k) 2 % 3 = (k + 2) % 3 by unfold trn; omega, ea, eb]
  rcases h with h | h | h
  · exact key 2 (by omega) (by omega) h.1 h.2
  · exact key 0 (by omega) (by omega) h.1 h.2
  · exact key 1 (by omega) (by omega) h.1 h.2
theorem eE_iff {x : tabE.T} {a b : Int} : eE x.1.2 a b ↔ ∃ c, tHas x c = true ∧ tEdge x c = (a, b) := by
  constructor
  · rintro ⟨i, hi, h⟩
    obtain ⟨c, h1, h2, _⟩ := dE_cor hi h
    exact ⟨c, h1, h2⟩
  · rintro ⟨c, h1, h2⟩
    have := cor_dE h1
    rw [h2] at this
    exact ⟨_, this⟩
theorem bE_iff {x : tabE.T} (g : Full x) {w u : Int} : bE x w u ↔ eE x.1.2 w u ∧ ¬ eE x.1.2 u w := by
  rw [eE_iff, eE_iff]
  constructor
  · rintro ⟨c, h1, h2, h3⟩
    refine ⟨⟨c, h1, h3⟩, fun ⟨d, k1, k2⟩ => ?_⟩
    have := g.opp_is (c := c) k1 (by rw [k2, h3])
    have h4 := (tHas_iff.1 k1).1
    omega
  · rintro ⟨⟨c, h1, h3⟩, h⟩
    refine ⟨c, h1, ?_, h3⟩
    by_cases e : tOpp x c < 0
    · exact e
    · obtain ⟨k1, k2, k3, k4⟩ := g.opp_v (c := c) (by omega)
      refine absurd ⟨tOpp x c, k2, ?_⟩ h
      show (_, _) = _
      rw [k3, k4]
      have e1 : tVert x (tNext x c) = w := congrArg Prod.fst h3
      have e2 : tVert x (tPrev x c) = u := congrArg Prod.snd h3
      rw [e1, e2]
theorem inner_iff {x : tabE.T} (g : Full x) {v : Int} : innerR x v = true ↔ (0 ≤ v ∧ v < x.1.1) ∧ ¬ ∃ w, bE x w v := by
  unfold innerR
  rw [Bool.and_eq_true, Bool.not_eq_true']
  constructor
  · rintro ⟨h1, h2⟩
    have ht := there_iff.1 h1
    refine ⟨⟨ht.1, ht.2.1⟩, fun ⟨w, hw⟩ => ?_⟩
    obtain ⟨b, eb, eL, hb1, hb2, hb3, hall, _, _, hend⟩ := g.around ht.1 ht.2.1
    obtain ⟨d, d1, d2, d3, _⟩ := bE_last g hw
    rcases hend with h | h
    · rw [h.1] at h2; cases h2
    · have := h.2 d (by rw [← d2]; exact g.around_all d1)
      omega
  · rintro ⟨⟨h0, h1⟩, h2⟩
    refine ⟨g.there h0 h1, ?_⟩
    obtain ⟨b, eb, eL, hb1, hb2, hb3, hall, _, _, hend⟩ := g.around h0 h1
    rcases hend with h | h
    · have := first_bE g hb1 h.2
      rw [hb2] at this
      exact absurd (bE_next g this) h2
    · exact h.1
end S1

open Go Go.Vm Go.Proofs
namespace S1
set_option maxRecDepth 100000

/-! triangles as members -/
/-- How many vertices. -/
abbrev vN (x : tabE.T) : Int := x.1.1
theorem range_getD {α : Type} (d : α) (L : List α) : (List.range L.length).map (fun i => L.getD i d) = L := by
  apply List.ext_getElem
  · rw [List.length_map, List.length_range]
  · intro i h1 h2
    rw [List.getElem_map, List.getElem_range, List.getD_eq_getElem?_getD, List.getElem?_eq_getElem h2]; rfl
theorem tg_mem {l : List P3} {i : Nat} (h : i < l.length) : tg l i ∈ l := by
  unfold tg; rw [List.getD_eq_getElem?_getD, List.getElem?_eq_getElem h]; exact List.getElem_mem h
theorem mem_tg {l : List P3} {t : P3} (h : t ∈ l) : ∃ i, i < l.length ∧ tg l i = t := by
  obtain ⟨i, hi, e⟩ := List.mem_iff_getElem.1 h
  exact ⟨i, hi, by unfold tg; rw [List.getD_eq_getElem?_getD, List.getElem?_eq_getElem hi]; exact e⟩
theorem tgA1 {l S : List P3} {i : Nat} (h : i < l.length) : tg (l ++ S) i = tg l i := by
  unfold tg; rw [List.getD_eq_getElem?_getD, List.getD_eq_getElem?_getD, List.getElem?_append_left h]
theorem tgA2 {l S : List P3} {i : Nat} (h : l.length ≤ i) : tg (l ++ S) i = tg S (i - l.length) := by
  unfold tg; rw [List.getD_eq_getElem?_getD, List.getD_eq_getElem?_getD, List.getElem?_append_right h]
theorem eE_mem {l : List P3} {a b : Int} : eE l a b ↔ ∃ t ∈ l, dE t a b := by
  constructor
  · rintro ⟨i, hi, h⟩; exact ⟨_, tg_mem hi, h⟩
  · rintro ⟨t, ht, h⟩
    obtain ⟨i, hi, e⟩ := mem_tg ht
    exact ⟨i, hi, by rw [e]; exact h⟩
theorem eE_app {l S : List P3} {a b : Int} : eE (l ++ S) a b ↔ eE l a b ∨ eE S a b := by
  simp only [eE_mem, List.mem_append]
  constructor
  · rintro ⟨t, ht | ht, h⟩
    · exact .inl ⟨t, ht, h⟩
    · exact .inr ⟨t, ht, h⟩
  · rintro (⟨t, ht, h⟩ | ⟨t, ht, h⟩)
    · exact ⟨t, .inl ht, h⟩
    · exact ⟨t, .inr ht, h⟩
theorem dE_hasV {t : P3} {a b : Int} (h : dE t a b) : hasV t a ∧ hasV t b := by
  rcases h with ⟨h1, h2⟩ | ⟨h1, h2⟩ | ⟨h1, h2⟩
  · exact ⟨.inl h1, .inr (.inl h2)⟩
  · exact ⟨.inr (.inl h1), .inr (.inr h2)⟩
  · exact ⟨.inr (.inr h1), .inl h2⟩
theorem fit_hasV {s : Int × List P3} (h : fitS s) {i : Nat} (hi : i < s.2.length) {v : Int} (hv : hasV (tg s.2 i) v) : 0 ≤ v ∧ v < s.1 := by
  have := triIn_spec (h.2.2.2 i hi)
  rcases hv with e | e | e <;> (rw [← e]; first | exact this.1 | exact this.2.1 | exact this.2.2)
theorem new_of {s : Int × List P3} (h : Surf s) : newO s = some (newT s) ∧ Full (newT s) ∧ (newT s).1 = s := by
  have hc := (surf_iff s).2 h
  refine ⟨?_, full_new hc, rfl⟩
  unfold newO; rw [if_pos hc]
theorem exists_least {P : Nat → Prop} [DecidablePred P] {n : Nat} (h : P n) : ∃ p, P p ∧ p ≤ n ∧ ∀ j, j < p → ¬ P j := by
  induction n using Nat.strongRecOn with
  | _ n ih =>
    by_cases e : ∃ j, j < n ∧ P j
    · obtain ⟨j, hj, hP⟩ := e
      obtain ⟨p, h1, h2, h3⟩ := ih j hj hP
      exact ⟨p, h1, by omega, h3⟩
    · exact ⟨n, h, Nat.le_refl _, fun j hj hP => e ⟨j, hj, hP⟩⟩
theorem iter_add (f : Int → Int) (a : Int) (i : Nat) : ∀ j, iter f (iter f a i) j = iter f a (i + j)
  | 0 => rfl
  | j + 1 => congrArg f (iter_add f a i j)
structure LoopOk (x : tabE.T) (L : List Int) : Prop where
  ne : 0 < L.length
  cyc : ∀ i, i < L.length → bE x (L.getD ((i + 1) % L.length) 0) (L.getD i 0)
  nd : L.Nodup
end S1

open Go Go.Vm Go.Proofs
namespace S1
set_option maxRecDepth 100000

/-! surfaces as lists of unlike triangles -/
def PinM (l : List P3) (v : Int) : Prop := ∀ Q : P3 → Prop,
    (∀ t ∈ l, ∀ u ∈ l, hasV t v → hasV u v → (∃ w : Int, w ≠ v ∧ hasV t w ∧ hasV u w) → Q t → Q u) →
    ∀ t ∈ l, hasV t v → Q t → ∀ u ∈ l, hasV u v → Q u
structure SurfM (V : Int → Prop) (l : List P3) : Prop where
  nd : l.Nodup
  ent : ∀ t ∈ l, ∀ v, hasV t v → V v
  deg : ∀ t ∈ l, ¬ dgn t
  dif : ∀ t ∈ l, ∀ u ∈ l, t ≠ u → ∀ a b, dE t a b → ¬ dE u a b
  mir : ∀ t ∈ l, ∀ u ∈ l, t ≠ u → ¬ (hasV u t.1 ∧ hasV u t.2.1 ∧ hasV u t.2.2)
  use : ∀ v, V v → ∃ t ∈ l, hasV t v
  pin : ∀ v, V v → PinM l v
instance (t : P3) (v : Int) : Decidable (hasV t v) := inferInstanceAs (Decidable (t.1 = v ∨ t.2.1 = v ∨ t.2.2 = v))
theorem tri_or {t : P3} {a b r : Int} (hab : a ≠ b) (har : a ≠ r) (hbr : b ≠ r) (h1 : hasV t a) (h2 : hasV t b) (h3 : hasV t r) :
    (dE t a b ∧ dE t b r ∧ dE t r a) ∨ (dE t b a ∧ dE t a r ∧ dE t r b) := by
  obtain ⟨x, y, z⟩ := t
  unfold hasV at h1 h2 h3
  unfold dE
  simp only at *
  rcases h1 with e1 | e1 | e1 <;> rcases h2 with e2 | e2 | e2 <;> rcases h3 with e3 | e3 | e3 <;> first | (exfalso; omega) | (subst e1 e2 e3; simp)
/-- What else a triangle with two vertices has. -/
theorem third {t : P3} (hd : ¬ dgn t) {a b : Int} (hab : a ≠ b) (h1 : hasV t a) (h2 : hasV t b) : ∃ r, r ≠ a ∧ r ≠ b ∧ hasV t r ∧ ∀ w, hasV t w → w = a ∨ w = b ∨ w = r := by
  obtain ⟨x, y, z⟩ := t
  unfold dgn at hd
  unfold hasV at h1 h2
  simp only at *
  rcases h1 with e1 | e1 | e1 <;> rcases h2 with e2 | e2 | e2
  · omega
  · exact ⟨z, by omega, by omega, .inr (.inr rfl), fun w hw => by unfold hasV at hw; simp only at hw; omega⟩
  · exact ⟨y, by omega, by omega, .inr (.inl rfl), fun w hw => by unfold hasV at hw; simp only at hw; omega⟩
  · exact ⟨z, by omega, by omega, .inr (.inr rfl), fun w hw => by unfold hasV at hw; simp only at hw; omega⟩
  · omega
  · exact ⟨x, by omega, by omega, .inl rfl, fun w hw => by unfold hasV at hw; simp only at hw; omega⟩
  · exact ⟨y, by omega, by omega, .inr (.inl rfl), fun w hw => by unfold hasV at hw; simp only at hw; omega⟩
  · exact ⟨x, by omega, by omega, .inl rfl, fun w hw => by unfold hasV at hw; simp only at hw; omega⟩
  · omega
theorem dE_ne {t : P3} (hd : ¬ dgn t) {a b : Int} (h : dE t a b) : a ≠ b := by
  unfold dgn at hd; unfold dE at h; omega
theorem has_dE {t : P3} {v : Int} (h : hasV t v) : ∃ w, dE t v w := by
  rcases h with e | e | e
  · exact ⟨_, .inl ⟨e, rfl⟩⟩
  · exact ⟨_, .inr (.inl ⟨e, rfl⟩)⟩
  · exact ⟨_, .inr (.inr ⟨e, rfl⟩)⟩
/-- Triangles on the same three are one. -/
theorem SurfM.same {V : Int → Prop} {l : List P3} (h : SurfM V l) {t u : P3} (ht : t ∈ l) (hu : u ∈ l) {a b r : Int} (hab : a ≠ b) (har : a ≠ r) (hbr : b ≠ r) (h1 : hasV t a) (h2 : hasV t b) (h3 : hasV t r) (k1 : hasV u a) (k2 : hasV u b) (k3 : hasV u r) : t = u := by
  apply Classical.byContradiction
  intro hne
  obtain ⟨r', e1, e2, e3, e4⟩ := third (h.deg t ht) hab h1 h2
  have er : r = r' := by
    rcases e4 r h3 with e | e | e
    · exact absurd e.symm har
    · exact absurd e.symm hbr
    · exact e
  subst er
  have key : ∀ w, hasV t w → hasV u w := fun w hw => by
    rcases e4 w hw with e | e | e <;> (subst e; assumption)
  exact h.mir t ht u hu hne ⟨key _ (.inl rfl), key _ (.inr (.inl rfl)), key _ (.inr (.inr rfl))⟩

/-! an edge drawn together -/
def ph (a b v : Int) : Int := if v = a then b else v
def phT (a b : Int) (t : P3) : P3 := (ph a b t.1, ph a b t.2.1, ph a b t.2.2)
def both (a b : Int) (t : P3) : Bool := decide (hasV t a ∧ hasV t b)
def colM (a b : Int) (l : List P3) : List P3 := (l.filter fun t => !both a b t).map (phT a b)
theorem ph_hasV {a b : Int} {t : P3} {v : Int} (h : hasV t v) : hasV (phT a b t) (ph a b v) := by
  rcases h with e | e | e
  · exact .inl (by show ph a b t.1 = _; rw [e])
  · exact .inr (.inl (by show ph a b t.2.1 = _; rw [e]))
  · exact .inr (.inr (by show ph a b t.2.2 = _; rw [e]))
theorem ph_hasV' {a b : Int} {t : P3} {v : Int} (h : hasV (phT a b t) v) : ∃ w, hasV t w ∧ ph a b w = v := by
  rcases h with e | e | e
  · exact ⟨_, .inl rfl, e⟩
  · exact ⟨_, .inr (.inl rfl), e⟩
  · exact ⟨_, .inr (.inr rfl), e⟩
theorem ph_dE' {a b : Int} {t : P3} {p q : Int} (h : dE (phT a b t) p q) : ∃ p0 q0, dE t p0 q0 ∧ ph a b p0 = p ∧ ph a b q0 = q := by
  rcases h with ⟨e1, e2⟩ | ⟨e1, e2⟩ | ⟨e1, e2⟩
  · exact ⟨_, _, .inl ⟨rfl, rfl⟩, e1, e2⟩
  · exact ⟨_, _, .inr (.inl ⟨rfl, rfl⟩), e1, e2⟩
  · exact ⟨_, _, .inr (.inr ⟨rfl, rfl⟩), e1, e2⟩
theorem ph_a (a b : Int) : ph a b a = b := if_pos rfl
theorem ph_n {a b v : Int} (h : v ≠ a) : ph a b v = v := if_neg h
theorem ph_eq {a b v w : Int} (h : ph a b v = ph a b w) : v = w ∨ (v = a ∧ w = b) ∨ (v = b ∧ w = a) := by
  unfold ph at h
  split at h <;> split at h <;> omega
theorem both_no {a b : Int} {u : P3} : (!both a b u) = true ↔ ¬ (hasV u a ∧ hasV u b) := by
  unfold both; rw [Bool.not_eq_true', decide_eq_false_iff_not]
theorem col_mem {a b : Int} {l : List P3} {t : P3} : t ∈ colM a b l ↔ ∃ u ∈ l, ¬ (hasV u a ∧ hasV u b) ∧ phT a b u = t := by
  unfold colM both
  rw [List.mem_map]
  constructor
  · rintro ⟨u, hu, e⟩
    obtain ⟨h1, h2⟩ := List.mem_filter.1 hu
    exact ⟨u, h1, both_no.1 h2, e⟩
  · rintro ⟨u, h1, h2, e⟩
    exact ⟨u, List.mem_filter.2 ⟨h1, both_no.2 h2⟩, e⟩
/-- What is asked of the edge. -/
structure Free (l : List P3) (a b : Int) : Prop where
  ne : a ≠ b
  near : ∃ t ∈ l, hasV t a ∧ hasV t b
  com : ∀ v, v ≠ a → v ≠ b → (∃ t ∈ l, hasV t a ∧ hasV t v) → (∃ u ∈ l, hasV u b ∧ hasV u v) → ∃ t ∈ l, hasV t a ∧ hasV t b ∧ hasV t v
  lone : ∀ t ∈ l, hasV t a → hasV t b → ∀ v, v ≠ a → v ≠ b → hasV t v → ∃ u ∈ l, u ≠ t ∧ hasV u v ∧ (hasV u a ∨ hasV u b)
  tetra : ∀ p q, p ≠ q → p ≠ a → p ≠ b → q ≠ a → q ≠ b → (∃ t ∈ l, hasV t a ∧ hasV t p ∧ hasV t q) → (∃ t ∈ l, hasV t b ∧ hasV t p ∧ hasV t q) → (∃ t ∈ l, hasV t a ∧ hasV t b ∧ hasV t p) → (∃ t ∈ l, hasV t a ∧ hasV t b ∧ hasV t q) → False
  turn : ∀ t ∈ l, ∀ u ∈ l, t ≠ u → hasV t a → hasV t b → hasV u a → hasV u b → ∃ c, (c = a ∨ c = b) ∧
    ∀ Q : P3 → Prop, (∀ s ∈ l, ∀ r ∈ l, hasV s c → hasV r c → (∃ w : Int, w ≠ a ∧ w ≠ b ∧ hasV s w ∧ hasV r w) → Q s → Q r) → Q t → Q u
section
variable {V : Int → Prop} {l : List P3} {a b : Int}
theorem col_dif (h : SurfM V l) (f : Free l a b) {t u : P3} (ht : t ∈ l) (hu : u ∈ l) (hne : t ≠ u) (dt : ¬ (hasV t a ∧ hasV t b)) (du : ¬ (hasV u a ∧ hasV u b)) {p q : Int} (h1 : dE (phT a b t) p q) (h2 : dE (phT a b u) p q) : False := by
  obtain ⟨p0, q0, d0, ep0, eq0⟩ := ph_dE' h1
  obtain ⟨p1, q1, d1, ep1, eq1⟩ := ph_dE' h2
  have n0 := dE_ne (h.deg t ht) d0
  have n1 := dE_ne (h.deg u hu) d1
  have v0 := dE_hasV d0
  have v1 := dE_hasV d1
  -- one end is drawn
  have key : ∀ {x y : P3}, x ∈ l → y ∈ l → ¬ (hasV x a ∧ hasV x b) → ¬ (hasV y a ∧ hasV y b) → ∀ r, r ≠ a → r ≠ b → ((dE x a r ∧ dE y b r) ∨ (dE x r a ∧ dE y r b)) → False := fun {x y} hx hy dx dy r ra rb hh => by
    have hxa : hasV x a ∧ hasV x r := by rcases hh with k | k; exact dE_hasV k.1; exact (dE_hasV k.1).symm
    have hyb : hasV y b ∧ hasV y r := by rcases hh with k | k; exact dE_hasV k.2; exact (dE_hasV k.2).symm
    obtain ⟨w, hw, wa, wb, wr⟩ := f.com r ra rb ⟨x, hx, hxa⟩ ⟨y, hy, hyb⟩
    have hwx : w ≠ x := fun e => dx (by rw [← e]; exact ⟨wa, wb⟩)
    have hwy : w ≠ y := fun e => dy (by rw [← e]; exact ⟨wa, wb⟩)
    rcases tri_or f.ne ra.symm rb.symm wa wb wr with ⟨o1, o2, o3⟩ | ⟨o1, o2, o3⟩
    · rcases hh with k | k
      · exact h.dif w hw y hy hwy _ _ o2 k.2
      · exact h.dif w hw x hx hwx _ _ o3 k.1
    · rcases hh with k | k
      · exact h.dif w hw x hx hwx _ _ o2 k.1
      · exact h.dif w hw y hy hwy _ _ o3 k.2
  have nab : ∀ {x : P3} {v w : Int}, ¬ (hasV x a ∧ hasV x b) → hasV x v → hasV x w → v ≠ w → (v = a ∨ v = b) → w ≠ a ∧ w ≠ b := fun {x v w} dx hv hw hvw e => by
    refine ⟨fun ew => ?_, fun ew => ?_⟩
    · rcases e with e | e
      · exact hvw (e.trans ew.symm)
      · exact dx ⟨by rw [← ew]; exact hw, by rw [← e]; exact hv⟩
    · rcases e with e | e
      · exact dx ⟨by rw [← e]; exact hv, by rw [← ew]; exact hw⟩
      · exact hvw (e.trans ew.symm)
  rcases ph_eq (ep0.trans ep1.symm) with e | ⟨e1, e2⟩ | ⟨e1, e2⟩
  · rcases ph_eq (eq0.trans eq1.symm) with e' | ⟨e1, e2⟩ | ⟨e1, e2⟩
    · subst e; subst e'; exact h.dif t ht u hu hne _ _ d0 d1
    · subst e; subst e1; subst e2
      have := nab dt v0.2 v0.1 n0.symm (.inl rfl)
      exact key ht hu dt du p0 this.1 this.2 (.inr ⟨d0, d1⟩)
    · subst e; subst e1; subst e2
      have := nab dt v0.2 v0.1 n0.symm (.inr rfl)
      exact key hu ht du dt p0 this.1 this.2 (.inr ⟨d1, d0⟩)
  · subst e1; subst e2
    have k := nab dt v0.1 v0.2 n0 (.inl rfl)
    have k2 := nab du v1.1 v1.2 n1 (.inr rfl)
    have e' : q0 = q1 := by
      rcases ph_eq (eq0.trans eq1.symm) with e' | ⟨e1, e2⟩ | ⟨e1, e2⟩
      · exact e'
      · exact absurd e1 k.1
      · exact absurd e1 k.2
    subst e'
    exact key ht hu dt du q0 k.1 k.2 (.inl ⟨d0, d1⟩)
  · subst e1; subst e2
    have k := nab dt v0.1 v0.2 n0 (.inr rfl)
    have e' : q0 = q1 := by
      rcases ph_eq (eq0.trans eq1.symm) with e' | ⟨e1, e2⟩ | ⟨e1, e2⟩
      · exact e'
      · exact absurd e1 k.1
      · exact absurd e1 k.2
    subst e'
    exact key hu ht du dt q0 k.1 k.2 (.inl ⟨d1, d0⟩)
theorem col_deg (h : SurfM V l) (f : Free l a b) {t : P3} (ht : t ∈ l) (dt : ¬ (hasV t a ∧ hasV t b)) : ¬ dgn (phT a b t) := by
  have hd := h.deg t ht
  have key : ∀ {v w : Int}, hasV t v → hasV t w → v ≠ w → ph a b v ≠ ph a b w := fun {v w} hv hw hvw e => by
    rcases ph_eq e with e | ⟨e1, e2⟩ | ⟨e1, e2⟩
    · exact hvw e
    · exact dt ⟨by rw [← e1]; exact hv, by rw [← e2]; exact hw⟩
    · exact dt ⟨by rw [← e2]; exact hw, by rw [← e1]; exact hv⟩
  rintro (e | e | e)
  · exact key (.inl rfl) (.inr (.inl rfl)) (fun k => hd (.inl k)) e
  · exact key (.inr (.inl rfl)) (.inr (.inr rfl)) (fun k => hd (.inr (.inl k))) e
  · exact key (.inr (.inr rfl)) (.inl rfl) (fun k => hd (.inr (.inr k))) e
/-- Who is in an image. -/
theorem img_b (f : Free l a b) {t : P3} : hasV (phT a b t) b ↔ hasV t a ∨ hasV t b := by
  constructor
  · intro h
    obtain ⟨w, hw, e⟩ := ph_hasV' h
    by_cases ea : w = a
    · exact .inl (by rw [← ea]; exact hw)
    · rw [ph_n ea] at e; exact .inr (by rw [← e]; exact hw)
  · rintro (h | h)
    · have := ph_hasV (a := a) (b := b) h; rwa [ph_a] at this
    · have := ph_hasV (a := a) (b := b) h; rwa [ph_n f.ne.symm] at this
theorem img_v {t : P3} {v : Int} (h1 : v ≠ a) (h2 : v ≠ b) : hasV (phT a b t) v ↔ hasV t v := by
  constructor
  · intro h
    obtain ⟨w, hw, e⟩ := ph_hasV' h
    by_cases ea : w = a
    · rw [ea, ph_a] at e; exact absurd e.symm h2
    · rw [ph_n ea] at e; rw [← e]; exact hw
  · intro h
    have := ph_hasV (a := a) (b := b) h
    rwa [ph_n h1] at this
theorem img_a (f : Free l a b) {t : P3} : ¬ hasV (phT a b t) a := fun h => by
  obtain ⟨w, hw, e⟩ := ph_hasV' h
  by_cases ea : w = a
  · rw [ea, ph_a] at e; exact f.ne e.symm
  · rw [ph_n ea] at e; exact ea e
theorem lone_nd (h : SurfM V l) (f : Free l a b) {t : P3} (ht : t ∈ l) (ha : hasV t a) (hb : hasV t b) {v : Int} (va : v ≠ a) (vb : v ≠ b) (hv : hasV t v) : ∃ u ∈ l, ¬ (hasV u a ∧ hasV u b) ∧ hasV u v ∧ (hasV u a ∨ hasV u b) := by
  obtain ⟨u, hu, hne, k1, k2⟩ := f.lone t ht ha hb v va vb hv
  refine ⟨u, hu, fun hab => hne ?_, k1, k2⟩
  exact h.same hu ht f.ne va.symm vb.symm hab.1 hab.2 k1 ha hb hv
theorem col_pin (h : SurfM V l) (f : Free l a b) {v : Int} (hV : V v) (va : v ≠ a) (vb : v ≠ b) : PinM (colM a b l) v := by
  intro Q hQ t' ht' hv' hq u' hu' hw'
  obtain ⟨t, ht, dt, rfl⟩ := col_mem.1 ht'
  obtain ⟨u, hu, du, rfl⟩ := col_mem.1 hu'
  rw [img_v va vb] at hv' hw'
  let H : P3 → Prop := fun s => (¬ (hasV s a ∧ hasV s b) ∧ Q (phT a b s)) ∨ ((hasV s a ∧ hasV s b) ∧ ∃ r ∈ l, ¬ (hasV r a ∧ hasV r b) ∧ hasV r v ∧ (hasV r a ∨ hasV r b) ∧ Q (phT a b r))
  have inn : ∀ {s : P3}, s ∈ l → ¬ (hasV s a ∧ hasV s b) → phT a b s ∈ colM a b l := fun hs ds => col_mem.2 ⟨_, hs, ds, rfl⟩
  have toQ : ∀ {s r : P3}, s ∈ l → r ∈ l → ¬ (hasV s a ∧ hasV s b) → ¬ (hasV r a ∧ hasV r b) → hasV s v → hasV r v → (∃ w, w ≠ v ∧ hasV (phT a b s) w ∧ hasV (phT a b r) w) → Q (phT a b s) → Q (phT a b r) := fun {s r} hs hr ds dr sv rv hh =>
    hQ _ (inn hs ds) _ (inn hr dr) ((img_v va vb).2 sv) ((img_v va vb).2 rv) hh
  have hH : H u := by
    refine h.pin v hV H (fun s hs r hr sv rv ⟨w, wv, sw, rw'⟩ k => ?_) t ht hv' (.inl ⟨dt, hq⟩) u hu hw'
    by_cases ds : hasV s a ∧ hasV s b
    · -- s goes
      have k : ∃ r ∈ l, ¬ (hasV r a ∧ hasV r b) ∧ hasV r v ∧ (hasV r a ∨ hasV r b) ∧ Q (phT a b r) := by
        rcases k with k | k
        · exact absurd ds k.1
        · exact k.2
      by_cases dr : hasV r a ∧ hasV r b
      · exact .inr ⟨dr, k⟩
      · obtain ⟨r0, h0, d0, v0, e0, q0⟩ := k
        have hwab : w = a ∨ w = b := by
          obtain ⟨z, z1, z2, z3, z4⟩ := third (h.deg s hs) f.ne ds.1 ds.2
          have ev : v = z := by
            rcases z4 v sv with e | e | e
            · exact absurd e va
            · exact absurd e vb
            · exact e
          rcases z4 w sw with e | e | e
          · exact .inl e
          · exact .inr e
          · exact absurd (e.trans ev.symm) wv
        refine .inl ⟨dr, toQ h0 hr d0 dr v0 rv ⟨b, vb.symm, (img_b f).2 e0, (img_b f).2 ?_⟩ q0⟩
        rcases hwab with e | e
        · exact .inl (by rw [← e]; exact rw')
        · exact .inr (by rw [← e]; exact rw')
    · have k : Q (phT a b s) := by
        rcases k with k | k
        · exact k.2
        · exact absurd k.1 ds
      by_cases dr : hasV r a ∧ hasV r b
      · refine .inr ⟨dr, s, hs, ds, sv, ?_, k⟩
        obtain ⟨z, z1, z2, z3, z4⟩ := third (h.deg r hr) f.ne dr.1 dr.2
        have ev : v = z := by
          rcases z4 v rv with e | e | e
          · exact absurd e va
          · exact absurd e vb
          · exact e
        rcases z4 w rw' with e | e | e
        · exact .inl (by rw [← e]; exact sw)
        · exact .inr (by rw [← e]; exact sw)
        · exact absurd (e.trans ev.symm) wv
      · refine .inl ⟨dr, toQ hs hr ds dr sv rv ⟨ph a b w, fun e => ?_, ph_hasV sw, ph_hasV rw'⟩ k⟩
        by_cases ew : w = a
        · rw [ew, ph_a] at e; exact vb e.symm
        · rw [ph_n ew] at e; exact wv e
  rcases hH with k | k
  · exact k.2
  · exact absurd k.1 du
theorem col_pin_b (h : SurfM V l) (f : Free l a b) (hVa : V a) (hVb : V b) : PinM (colM a b l) b := by
  intro Q hQ t' ht' hv' hq u' hu' hw'
  obtain ⟨t, ht, dt, rfl⟩ := col_mem.1 ht'
  obtain ⟨u, hu, du, rfl⟩ := col_mem.1 hu'
  rw [img_b f] at hv' hw'
  have inn : ∀ {s : P3}, s ∈ l → ¬ (hasV s a ∧ hasV s b) → phT a b s ∈ colM a b l := fun hs ds => col_mem.2 ⟨_, hs, ds, rfl⟩
  let S : Int → Prop := fun p => ∃ r ∈ l, ¬ (hasV r a ∧ hasV r b) ∧ (hasV r a ∨ hasV r b) ∧ hasV r p ∧ Q (phT a b r)
  have toQ : ∀ {s r : P3} {w : Int}, s ∈ l → r ∈ l → ¬ (hasV s a ∧ hasV s b) → ¬ (hasV r a ∧ hasV r b) → (hasV s a ∨ hasV s b) → (hasV r a ∨ hasV r b) → w ≠ a → w ≠ b → hasV s w → hasV r w → Q (phT a b s) → Q (phT a b r) := fun {s r w} hs hr ds dr sv rv wa wb sw rw' =>
    hQ _ (inn hs ds) _ (inn hr dr) ((img_b f).2 sv) ((img_b f).2 rv) ⟨w, wb, (img_v wa wb).2 sw, (img_v wa wb).2 rw'⟩
  let H : P3 → Prop := fun s => (¬ (hasV s a ∧ hasV s b) ∧ Q (phT a b s)) ∨ ((hasV s a ∧ hasV s b) ∧ ∃ p, p ≠ a ∧ p ≠ b ∧ hasV s p ∧ S p)
  -- through what isn't the edge itself
  have thr : ∀ c, (c = a ∨ c = b) → ∀ s ∈ l, ∀ r ∈ l, hasV s c → hasV r c → (∃ w : Int, w ≠ a ∧ w ≠ b ∧ hasV s w ∧ hasV r w) → H s → H r := by
    rintro c hc s hs r hr sc rc ⟨w, wa, wb, sw, rw'⟩ k
    have ab : ∀ {x : P3}, hasV x c → hasV x a ∨ hasV x b := fun hx => by
      rcases hc with e | e
      · exact .inl (by rw [← e]; exact hx)
      · exact .inr (by rw [← e]; exact hx)
    by_cases ds : hasV s a ∧ hasV s b
    · have k : S w := by
        rcases k with k | ⟨_, p, pa, pb, sp, k⟩
        · exact absurd ds k.1
        · obtain ⟨z, z1, z2, z3, z4⟩ := third (h.deg s hs) f.ne ds.1 ds.2
          have e1 : w = z := by rcases z4 w sw with e | e | e; exact absurd e wa; exact absurd e wb; exact e
          have e2 : p = z := by rcases z4 p sp with e | e | e; exact absurd e pa; exact absurd e pb; exact e
          rw [e1, ← e2]; exact k
      by_cases dr : hasV r a ∧ hasV r b
      · exact .inr ⟨dr, w, wa, wb, rw', k⟩
      · obtain ⟨r0, h0, d0, e0, w0, q0⟩ := k
        exact .inl ⟨dr, toQ h0 hr d0 dr e0 (ab rc) wa wb w0 rw' q0⟩
    · have k : Q (phT a b s) := by
        rcases k with k | k
        · exact k.2
        · exact absurd k.1 ds
      by_cases dr : hasV r a ∧ hasV r b
      · exact .inr ⟨dr, w, wa, wb, rw', s, hs, ds, ab sc, sw, k⟩
      · exact .inl ⟨dr, toQ hs hr ds dr (ab sc) (ab rc) wa wb sw rw' k⟩
  have drop : ∀ s ∈ l, ∀ r ∈ l, (hasV s a ∧ hasV s b) → (hasV r a ∧ hasV r b) → H s → H r := fun s hs r hr ds dr k => by
    by_cases e : s = r
    · rw [← e]; exact k
    · obtain ⟨c, hc, hh⟩ := f.turn s hs r hr e ds.1 ds.2 dr.1 dr.2
      exact hh H (thr c hc) k
  have all : ∀ c, (c = a ∨ c = b) → ∀ s ∈ l, hasV s c → H s → ∀ r ∈ l, hasV r c → H r := fun c hc => by
    refine h.pin c (by rcases hc with e | e <;> (rw [e]; assumption)) H fun s hs r hr sc rc ⟨w, wc, sw, rw'⟩ k => ?_
    by_cases wab : w = a ∨ w = b
    · have two : ∀ {x : P3}, hasV x c → hasV x w → hasV x a ∧ hasV x b := fun {x} h1 h2 => by
        rcases hc with e | e <;> rcases wab with e' | e'
        · exact absurd (e'.trans e.symm) wc
        · exact ⟨by rw [← e]; exact h1, by rw [← e']; exact h2⟩
        · exact ⟨by rw [← e']; exact h2, by rw [← e]; exact h1⟩
        · exact absurd (e'.trans e.symm) wc
      exact drop s hs r hr (two sc sw) (two rc rw') k
    · exact thr c hc s hs r hr sc rc ⟨w, fun e => wab (.inl e), fun e => wab (.inr e), sw, rw'⟩ k
  obtain ⟨t0, h0, a0, b0⟩ := f.near
  have k0 : H t := .inl ⟨dt, hq⟩
  have kt0 : H t0 := by
    rcases hv' with e | e
    · exact all a (.inl rfl) t ht e k0 t0 h0 a0
    · exact all b (.inr rfl) t ht e k0 t0 h0 b0
  have ku : H u := by
    rcases hw' with e | e
    · exact all a (.inl rfl) t0 h0 a0 kt0 u hu e
    · exact all b (.inr rfl) t0 h0 b0 kt0 u hu e
  rcases ku with k | k
  · exact k.2
  · exact absurd k.1 du
/-- A FREE EDGE, DRAWN TOGETHER, LEAVES A SURFACE. -/
theorem col_surf (h : SurfM V l) (f : Free l a b) (hVa : V a) (hVb : V b) : SurfM (fun v => V v ∧ v ≠ a) (colM a b l) := by
  refine ⟨?_, fun t' ht' v hv => ?_, fun t' ht' => ?_, fun t' ht' u' hu' hne p q h1 h2 => ?_, fun t' ht' u' hu' hne hh => ?_, fun v hv => ?_, fun v hv => ?_⟩
  · unfold colM
    refine List.Pairwise.map _ (fun t u hh => ?_) ((h.nd.sublist List.filter_sublist).imp_of_mem (S := fun t u => t ≠ u ∧ (t ∈ l ∧ ¬ (hasV t a ∧ hasV t b)) ∧ u ∈ l ∧ ¬ (hasV u a ∧ hasV u b)) fun ht hu hn => ?_)
    · obtain ⟨hn, ⟨ht, dt⟩, hu, du⟩ := hh
      intro e
      obtain ⟨w, hw⟩ := has_dE (t := phT a b t) (.inl rfl)
      exact col_dif h f ht hu hn dt du hw (by rw [← e]; exact hw)
    · obtain ⟨t1, t2⟩ := List.mem_filter.1 ht
      obtain ⟨u1, u2⟩ := List.mem_filter.1 hu
      exact ⟨hn, ⟨t1, both_no.1 t2⟩, u1, both_no.1 u2⟩
  · obtain ⟨t, ht, dt, rfl⟩ := col_mem.1 ht'
    have va : v ≠ a := fun e => by rw [e] at hv; exact img_a f hv
    refine ⟨?_, va⟩
    by_cases vb : v = b
    · rw [vb]; exact hVb
    · exact h.ent t ht v ((img_v va vb).1 hv)
  · obtain ⟨t, ht, dt, rfl⟩ := col_mem.1 ht'
    exact col_deg h f ht dt
  · obtain ⟨t, ht, dt, rfl⟩ := col_mem.1 ht'
    obtain ⟨u, hu, du, rfl⟩ := col_mem.1 hu'
    exact col_dif h f ht hu (fun e => hne (by rw [e])) dt du h1 h2
  · obtain ⟨t, ht, dt, rfl⟩ := col_mem.1 ht'
    obtain ⟨u, hu, du, rfl⟩ := col_mem.1 hu'
    have htu : t ≠ u := fun e => hne (by rw [e])
    have hdt := col_deg h f ht dt
    have all : ∀ w, hasV (phT a b t) w → hasV (phT a b u) w := fun w hw => by
      rcases hw with e | e | e <;> rw [← e]
      · exact hh.1
      · exact hh.2.1
      · exact hh.2.2
    by_cases hb : hasV (phT a b t) b
    · -- x, p, q
      obtain ⟨w0, hw0⟩ := has_dE hb
      have wv := dE_hasV hw0
      have wne := dE_ne hdt hw0
      obtain ⟨q, q1, q2, q3, _⟩ := third hdt wne hb wv.2
      have w0a : w0 ≠ a := fun e => by have k := wv.2; rw [e] at k; exact img_a f k
      have qa : q ≠ a := fun e => by rw [e] at q3; exact img_a f q3
      have tp := (img_v (a := a) (b := b) w0a wne.symm).1 wv.2
      have tq := (img_v (a := a) (b := b) qa q1).1 q3
      have up := (img_v (a := a) (b := b) w0a wne.symm).1 (all _ wv.2)
      have uq := (img_v (a := a) (b := b) qa q1).1 (all _ q3)
      have tx := (img_b f).1 hb
      have ux := (img_b f).1 (all _ hb)
      have fin : ∀ {x y : P3}, x ∈ l → y ∈ l → hasV x a → hasV y b → hasV x w0 → hasV x q → hasV y w0 → hasV y q → False := fun {x y} hx hy xa yb xp xq yp yq =>
        f.tetra w0 q q2.symm w0a wne.symm qa q1 ⟨x, hx, xa, xp, xq⟩ ⟨y, hy, yb, yp, yq⟩ (f.com w0 w0a wne.symm ⟨x, hx, xa, xp⟩ ⟨y, hy, yb, yp⟩) (f.com q qa q1 ⟨x, hx, xa, xq⟩ ⟨y, hy, yb, yq⟩)
      rcases tx with e | e <;> rcases ux with e' | e'
      · exact htu (h.same ht hu w0a.symm qa.symm q2.symm e tp tq e' up uq)
      · exact fin ht hu e e' tp tq up uq
      · exact fin hu ht e' e up uq tp tq
      · exact htu (h.same ht hu wne q1.symm q2.symm e tp tq e' up uq)
    · have nb : ∀ w, hasV t w → w ≠ a ∧ w ≠ b := fun w hw => ⟨fun e => hb ((img_b f).2 (.inl (by rw [← e]; exact hw))), fun e => hb ((img_b f).2 (.inr (by rw [← e]; exact hw)))⟩
      have key : ∀ w, hasV t w → hasV u w := fun w hw => by
        obtain ⟨wa, wb⟩ := nb w hw
        exact (img_v wa wb).1 (all w ((img_v wa wb).2 hw))
      exact h.mir t ht u hu htu ⟨key _ (.inl rfl), key _ (.inr (.inl rfl)), key _ (.inr (.inr rfl))⟩
  · obtain ⟨hV, va⟩ := hv
    by_cases vb : v = b
    · subst vb
      obtain ⟨t0, h0, a0, b0⟩ := f.near
      obtain ⟨z, z1, z2, z3, _⟩ := third (h.deg t0 h0) f.ne a0 b0
      obtain ⟨u, hu, du, _, k⟩ := lone_nd h f h0 a0 b0 z1 z2 z3
      exact ⟨_, col_mem.2 ⟨u, hu, du, rfl⟩, (img_b f).2 k⟩
    · obtain ⟨t, ht, tv⟩ := h.use v hV
      by_cases dt : hasV t a ∧ hasV t b
      · obtain ⟨u, hu, du, uv, _⟩ := lone_nd h f ht dt.1 dt.2 va vb tv
        exact ⟨_, col_mem.2 ⟨u, hu, du, rfl⟩, (img_v va vb).2 uv⟩
      · exact ⟨_, col_mem.2 ⟨t, ht, dt, rfl⟩, (img_v va vb).2 tv⟩
  · obtain ⟨hV, va⟩ := hv
    by_cases vb : v = b
    · subst vb; exact col_pin_b h f hVa hVb
    · exact col_pin h f hV va vb
end
end S1

open Go Go.Vm Go.Proofs
namespace S1
set_option maxRecDepth 100000

def con3P {ρ : Type} (e b c : ETy) (f : e.T → b.T → c.T → Option ρ) : List AV → Option ρ :=
  con3 (.pt e) b c (fun o y z => match o with | some x => f x y z | none => none)
theorem con3P_ok {P : Program} {e b c : ETy} {f : e.T → b.T → c.T → Option Res} {n : FuncId} (h : ∀ x y z r, f x y z = some r → FnOk P n [(ETy.pt e).av (some x), b.av y, c.av z] r) : ∀ args r, con3P e b c f args = some r → FnOk P n args r :=
  con3_ok fun o y z r hr => by cases o with | none => cases hr | some x => exact h x y z r hr
/-! slices.Index, Contains; link.facing -/
def fstI (v : Int) : List Int → Nat → Int
  | [], _ => -1
  | a :: r, i => if v = a then (i : Int) else fstI v r (i + 1)
def loopX (v : Int) (l : List Int) : Spec Nat where
  inv x := x ≤ l.length ∧ fstI v l 0 = fstI v (l.drop x) x
  live x := [(8, .s (.int .i64 x))]
  keep := [0, 1, 7]
  heap _ := []
  keepH := []
  mu x := l.length - x
theorem indexI_vc {fn} (l : List Int) (v : Int) : afun ⟨tyL, fn, []⟩ Try.f83 [(ETy.sl i64E).av l, i64E.av v] (fun r => r = .s (.int .i64 (fstI v l 0))) := by
  repeat' (conv => whnf
           first | done | refine Need.intro (by first | rfl | omega | (simp only [i64ok] at *; omega)) ?_ | refine Need.intro (Hold.out ?_) ?_ | refine Give.intro fun _ => ?_ | refine Both.intro ?_ ?_ | refine BIf.and ?_ | refine BIf.or ?_ | refine BIf.eqi (fun _ => ?_) (fun _ => ?_) | refine BIf.nei (fun _ => ?_) (fun _ => ?_) | refine BIf.dec (fun _ => ?_) (fun _ => ?_) | refine BIf.nt ?_ | refine BIf.intro (fun _ => ?_) (fun _ => ?_) | ((first | (with_reducible show Or (∃ n, rounds (acode _ (Code.seq (Code.region 2 _ _) _)) _ n _) _) | (with_reducible show Or (∃ n, rounds (acode _ (Code.seq (Code.seq (Code.region 2 _ _) _) _)) _ n _) _) | (with_reducible show Or (∃ n, rounds (acode _ (Code.seq (Code.seq (Code.seq (Code.region 2 _ _) _) _) _)) _ n _) _) | (with_reducible show Or (∃ n, rounds (acode _ (Code.seq (Code.seq (Code.seq (Code.seq (Code.region 2 _ _) _) _) _) _)) _ n _) _) | (with_reducible show Or (∃ n, rounds (acode _ (Code.block _ (Code.seq (Code.region 2 _ _) _))) _ n _) _) | (with_reducible show Or (∃ n, rounds (acode _ (Code.block _ (Code.seq (Code.seq (Code.region 2 _ _) _) _))) _ n _) _) | (with_reducible show Or (∃ n, rounds (acode _ (Code.block _ (Code.seq (Code.seq (Code.seq (Code.region 2 _ _) _) _) _))) _ n _) _) | (with_reducible show Or (∃ n, rounds (acode _ (Code.block _ (Code.seq (Code.seq (Code.seq (Code.seq (Code.region 2 _ _) _) _) _) _))) _ n _) _)); refine Or.inr (Exists.intro (Nat) (Exists.intro (loopX v l) (And.intro (Exists.intro (0) (And.intro (Hold.out ?_) (And.intro ?_ (And.intro ?_ rfl)))) (fun x hx => ?_))))) | ((with_reducible show (∃ y, And (Spec.inv (loopX _ _) y) _)); refine Exists.intro (x + 1) (And.intro (Hold.out ?_) (And.intro (And.intro ?_ (And.intro ?_ rfl)) (Hold.out ?_)))) | refine And.intro rfl ?_ | refine And.intro (HoldEq.out ?_) ?_ | refine And.intro (HoldOb.out ?_) ?_ | exact True.intro | refine HoldEq.out ?_ | refine HoldObs.out ?_ | refine KCheck.intro (by kernel_rfl) ?_ | refine HoldOr.out ?_)
  all_goals try first | refine HoldEq.int ?_ | refine HoldEq.bool ?_ | refine HoldEq.sl ?_ | refine HoldEq.own ?_ | refine HoldEq.ownS ?_ ?_ | refine HoldOb.row ?_ | refine HoldOb.map ?_ | refine HoldOb.gmap ?_ | refine HoldOb.grow ?_ | refine HoldObs.row ?_
  all_goals try simp only [take_one, take_one', set_one, take_all, List.length_singleton, rec_self, Int.toNat_natCast, pair_eta, ETy.dflt, List.getD_cons_zero, List.getD_cons_succ, Int.reduceToNat, Int.reduceAdd, Int.reduceSub, Int.reduceNeg, Nat.reduceAdd, Nat.zero_add, loopX] at *
  · exact Hold.intro ⟨Nat.zero_le _, rfl⟩
  · rename_i h1 h2
    rw [hx.2, drop_now 0 h1, fstI, if_pos h2]
  · rename_i h1 h2
    exact Hold.intro ⟨by omega, by rw [hx.2, drop_now 0 h1, fstI, if_neg h2]⟩
  · exact Hold.intro (by omega)
  · rw [hx.2, drop_all (by assumption)]; rfl
def indexIC : List AV → Option Res := con2 (.sl i64E) i64E (fun l v => some (none, none, .s (.int .i64 (fstI v l 0))))
theorem indexIRow : FnRow Try.prog 83 indexIC := ⟨con2_ok fun l v r h => by cases h; exact fn_by (rulesF (fn := []) (fr := []) trivial trivial) Try.func83 (by kernel_rfl) fun _ _ => indexI_vc l v, _, Try.func83, by kernel_rfl, by kernel_rfl⟩
def hasI (v : Int) (l : List Int) : Bool := decide (fstI v l 0 ≥ 0)
theorem contains_vc (l : List Int) (v : Int) : afun ⟨tyL, [(83, indexIC)], []⟩ Try.f47 [(ETy.sl i64E).av l, i64E.av v] (fun r => r = .s (.bool (hasI v l))) := by
  repeat' (conv => whnf
           first | done | refine Need.intro (by first | rfl | omega | (simp only [i64ok] at *; omega)) ?_ | refine Need.intro (Hold.out ?_) ?_ | refine Give.intro fun _ => ?_ | refine Both.intro ?_ ?_ | refine BIf.and ?_ | refine BIf.or ?_ | refine BIf.eqi (fun _ => ?_) (fun _ => ?_) | refine BIf.nei (fun _ => ?_) (fun _ => ?_) | refine BIf.dec (fun _ => ?_) (fun _ => ?_) | refine BIf.nt ?_ | refine BIf.intro (fun _ => ?_) (fun _ => ?_) | refine And.intro rfl ?_ | refine And.intro (HoldEq.out ?_) ?_ | refine And.intro (HoldOb.out ?_) ?_ | exact True.intro | refine HoldEq.out ?_ | refine HoldObs.out ?_ | refine KCheck.intro (by kernel_rfl) ?_ | refine HoldOr.out ?_)
  all_goals try first | refine HoldEq.int ?_ | refine HoldEq.bool ?_ | refine HoldEq.sl ?_ | refine HoldEq.own ?_ | refine HoldEq.ownS ?_ ?_ | refine HoldOb.row ?_ | refine HoldOb.map ?_ | refine HoldOb.gmap ?_ | refine HoldOb.grow ?_ | refine HoldObs.row ?_
  all_goals try simp only [take_one, take_one', set_one, take_all, List.length_singleton, rec_self, Int.toNat_natCast, pair_eta, ETy.dflt, List.getD_cons_zero, List.getD_cons_succ, Int.reduceToNat, Int.reduceAdd, Int.reduceSub, Int.reduceNeg, Nat.reduceAdd, Nat.zero_add, hasI] at *
def containsC : List AV → Option Res := con2 (.sl i64E) i64E (fun l v => some (none, none, .s (.bool (hasI v l))))
theorem containsRow : FnRow Try.prog 47 containsC := ⟨con2_ok fun l v r h => by cases h; exact fn_by (rulesF (fn := [(83, indexIC)]) (fr := []) ⟨indexIRow, trivial⟩ trivial) Try.func47 (by kernel_rfl) fun _ _ => contains_vc l v, _, Try.func47, by kernel_rfl, by kernel_rfl⟩
def facR (x : tabE.T) (a b : Int) : List Int := (if tFacing x (a, b) ≥ 0 then [tVert x (tFacing x (a, b))] else []) ++ (if tFacing x (b, a) ≥ 0 then [tVert x (tFacing x (b, a))] else [])
theorem facing_le {x : tabE.T} (g : Good x) (e : Int × Int) : tFacing x e ≤ 1000000000 := by
  unfold tFacing
  cases h : mget .arr2 x.2.1 e with
  | none => decide
  | some c =>
    have := tHas_iff.1 (g.map _ _ h).1
    have := g.fit.2.2.1
    exact (show @LE.le Int _ c (1000000000 : Int) by omega)
theorem facing2_vc (x : tabE.T) (a b : Int) (g : Good x) : afun ⟨tyL, [(60, facingC), (24, vertexC)], []⟩ Try.f50 [(ETy.pt tabE).av (some x), i64E.av a, i64E.av b] (fun v => v = .s (.sl i64E (facR x a b))) := by
  have e0 : (((List.replicate 2 ((0 : Int), (0 : Int))).set 0 (a, b)).set 1 (b, a)).getD 0 (0, 0) = (a, b) := rfl
  have e1 : (((List.replicate 2 ((0 : Int), (0 : Int))).set 0 (a, b)).set 1 (b, a)).getD 1 (0, 0) = (b, a) := rfl
  repeat' (conv => whnf
           first | done | refine Need.intro (by first | rfl | omega | (simp only [i64ok] at *; omega)) ?_ | refine Need.intro (Hold.out ?_) ?_ | refine Give.intro fun _ => ?_ | refine Both.intro ?_ ?_ | refine BIf.and ?_ | refine BIf.or ?_ | refine BIf.eqi (fun _ => ?_) (fun _ => ?_) | refine BIf.nei (fun _ => ?_) (fun _ => ?_) | refine BIf.dec (fun _ => ?_) (fun _ => ?_) | refine BIf.nt ?_ | refine BIf.intro (fun _ => ?_) (fun _ => ?_) | ((first | (with_reducible show Or (∃ n, rounds (acode _ (Code.seq (Code.region 3 _ _) _)) _ n _) _) | (with_reducible show Or (∃ n, rounds (acode _ (Code.seq (Code.seq (Code.region 3 _ _) _) _)) _ n _) _) | (with_reducible show Or (∃ n, rounds (acode _ (Code.seq (Code.seq (Code.seq (Code.region 3 _ _) _) _) _)) _ n _) _) | (with_reducible show Or (∃ n, rounds (acode _ (Code.seq (Code.seq (Code.seq (Code.seq (Code.region 3 _ _) _) _) _) _)) _ n _) _) | (with_reducible show Or (∃ n, rounds (acode _ (Code.block _ (Code.seq (Code.region 3 _ _) _))) _ n _) _) | (with_reducible show Or (∃ n, rounds (acode _ (Code.block _ (Code.seq (Code.seq (Code.region 3 _ _) _) _))) _ n _) _) | (with_reducible show Or (∃ n, rounds (acode _ (Code.block _ (Code.seq (Code.seq (Code.seq (Code.region 3 _ _) _) _) _))) _ n _) _) | (with_reducible show Or (∃ n, rounds (acode _ (Code.block _ (Code.seq (Code.seq (Code.seq (Code.seq (Code.region 3 _ _) _) _) _) _))) _ n _) _)); refine Or.inl (Exists.intro (3) ?_)) | refine And.intro rfl ?_ | refine And.intro (HoldEq.out ?_) ?_ | refine And.intro (HoldOb.out ?_) ?_ | exact True.intro | refine HoldEq.out ?_ | refine HoldObs.out ?_ | refine KCheck.intro (by kernel_rfl) ?_ | refine HoldOr.out ?_)
  all_goals try first | refine HoldEq.int ?_ | refine HoldEq.bool ?_ | refine HoldEq.sl ?_ | refine HoldEq.own ?_ | refine HoldEq.ownS ?_ ?_ | refine HoldOb.row ?_ | refine HoldOb.map ?_ | refine HoldOb.gmap ?_ | refine HoldOb.grow ?_ | refine HoldObs.row ?_
  all_goals try simp only [take_one, take_one', set_one, take_all, List.length_singleton, rec_self, Int.toNat_natCast, pair_eta, ETy.dflt, List.getD_cons_zero, List.getD_cons_succ, Int.reduceToNat, Int.reduceAdd, Int.reduceSub, Int.reduceNeg, Nat.reduceAdd, Nat.zero_add, e0, e1, facR] at *
  all_goals first
    | exact Hold.intro (facing_le g _)
    | exact Hold.intro (by decide)
    | (simp only [if_pos, if_neg, *, not_false_eq_true]; rfl)
def facing2C : List AV → Option Res := con3P tabE i64E i64E (fun x a b => some (none, some (Good x), .s (.sl i64E (facR x a b))))
theorem facing2Row : FnRow Try.prog 50 facing2C := ⟨con3P_ok fun x a b r h => by cases h; exact fn_by (rulesF (fn := [(60, facingC), (24, vertexC)]) (fr := []) ⟨facingRow, vertexRow, trivial⟩ trivial) Try.func50 (by kernel_rfl) fun _ h => facing2_vc x a b h, _, Try.func50, by kernel_rfl, by kernel_rfl⟩
end S1

open Go Go.Vm Go.Proofs
namespace S1
set_option maxRecDepth 100000

/-! shell.Of -/
abbrev OS := List Int × List Int
def ofC (x : tabE.T) (k : Int) (j : Nat) (s : OS) (c : Nat) : OS :=
  if 0 ≤ tOpp x (3 * s.2.getD j 0 + c) ∧ s.1.getD (tOpp x (3 * s.2.getD j 0 + c) / 3).toNat 0 < 0 then
    (s.1.set (tOpp x (3 * s.2.getD j 0 + c) / 3).toNat k, s.2 ++ [tOpp x (3 * s.2.getD j 0 + c) / 3]) else s
def ofJ (x : tabE.T) (k : Int) (s : OS) (j : Nat) : OS := irec (ofC x k j) s 3
def bfs (x : tabE.T) (k : Int) : Nat → Nat → OS → OS
  | 0, _, s => s
  | f + 1, j, s => if j < s.2.length then bfs x k f (j + 1) (ofJ x k s j) else s
def ofI (x : tabE.T) (s : List Int × Int) (i : Nat) : List Int × Int :=
  if s.1.getD i 0 ≥ 0 then s else ((bfs x s.2 10000 0 (s.1.set i s.2, [(i : Int)])).1, s.2 + 1)
def ofL (x : tabE.T) (i : Nat) : List Int × Int := irec (ofI x) (List.replicate x.1.2.length (-1), 0) i
def ofR (x : tabE.T) : List Int := (ofL x x.1.2.length).1
def unm : List Int → Nat
  | [] => 0
  | a :: r => (if a < 0 then 1 else 0) + unm r
theorem unm_le : ∀ l : List Int, unm l ≤ l.length
  | [] => Nat.le_refl _
  | a :: r => by have := unm_le r; simp only [unm, List.length_cons]; split <;> omega
theorem unm_set {k : Int} (hk : 0 ≤ k) : ∀ (l : List Int) (i : Nat), i < l.length → l.getD i 0 < 0 → unm (l.set i k) + 1 = unm l
  | a :: r, 0, _, h => by
    have h : a < 0 := h
    simp only [List.set_cons_zero, unm]; rw [if_pos h, if_neg (by omega)]; omega
  | a :: r, i + 1, hi, h => by
    have := unm_set hk r i (by simpa using hi) (by simpa using h)
    simp only [List.set_cons_succ, unm]; omega
structure OOk (n : Nat) (s : OS) : Prop where
  len : s.1.length = n
  td : ∀ j, j < s.2.length → 0 ≤ s.2.getD j 0 ∧ s.2.getD j 0 < n
  cnt : s.2.length + unm s.1 ≤ n
theorem opp_in {x : tabE.T} (g : Good x) {d : Int} (h : 0 ≤ tOpp x d) : tOpp x d < 3 * (x.1.2.length : Int) := (tHas_iff.1 (g.opp h).2.1).2
theorem ofC_ok {x : tabE.T} (g : Good x) {k : Int} (hk : 0 ≤ k) {j : Nat} {s : OS} (h : OOk x.1.2.length s) (c : Nat) : OOk x.1.2.length (ofC x k j s c) := by
  unfold ofC
  split
  · rename_i hc
    have hi := opp_in g hc.1
    refine ⟨by rw [List.length_set]; exact h.len, fun j' hj => ?_, ?_⟩
    · by_cases e : j' < s.2.length
      · have := h.td j' e
        have e2 : (s.2 ++ [tOpp x (3 * s.2.getD j 0 + c) / 3]).getD j' 0 = s.2.getD j' 0 := by
          rw [List.getD_eq_getElem?_getD, List.getElem?_append_left e, ← List.getD_eq_getElem?_getD]
        show 0 ≤ (s.2 ++ _).getD j' 0 ∧ _
        rw [e2]; exact this
      · have hj : j' < (s.2 ++ [tOpp x (3 * s.2.getD j 0 + c) / 3]).length := hj
        rw [List.length_append, List.length_singleton] at hj
        have e3 : j' = s.2.length := by omega
        subst e3
        have e2 : (s.2 ++ [tOpp x (3 * s.2.getD j 0 + c) / 3]).getD s.2.length 0 = tOpp x (3 * s.2.getD j 0 + c) / 3 := by
          rw [List.getD_eq_getElem?_getD, List.getElem?_append_right (Nat.le_refl _)]; simp
        show 0 ≤ (s.2 ++ _).getD s.2.length 0 ∧ _
        rw [e2]; omega
    · have := unm_set hk s.1 _ (by rw [h.len]; omega) hc.2
      have h3 := h.cnt
      show (s.2 ++ [_]).length + unm (s.1.set (tOpp x (3 * s.2.getD j 0 + c) / 3).toNat k) ≤ x.1.2.length
      rw [List.length_append, List.length_singleton]; omega
  · exact h
theorem ofCs_ok {x : tabE.T} (g : Good x) {k : Int} (hk : 0 ≤ k) {j : Nat} {s : OS} (h : OOk x.1.2.length s) : ∀ c, OOk x.1.2.length (irec (ofC x k j) s c)
  | 0 => h
  | c + 1 => ofC_ok g hk (ofCs_ok g hk h c) c
theorem ofJ_ok {x : tabE.T} (g : Good x) {k : Int} (hk : 0 ≤ k) {j : Nat} {s : OS} (h : OOk x.1.2.length s) : OOk x.1.2.length (ofJ x k s j) := by
  unfold ofJ; exact ofCs_ok g hk h 3
theorem ofJs_ok {x : tabE.T} (g : Good x) {k : Int} (hk : 0 ≤ k) {s : OS} (h : OOk x.1.2.length s) : ∀ j, OOk x.1.2.length (irec (ofJ x k) s j)
  | 0 => h
  | j + 1 => ofJ_ok g hk (ofJs_ok g hk h j)
theorem bfs_ok {x : tabE.T} (g : Good x) {k : Int} (hk : 0 ≤ k) : ∀ (f j : Nat) {s : OS}, OOk x.1.2.length s → OOk x.1.2.length (bfs x k f j s)
  | 0, _, _, h => h
  | f + 1, j, s, h => by
    unfold bfs; split
    · exact bfs_ok g hk f (j + 1) (ofJ_ok g hk h)
    · exact h
theorem start_ok {n i : Nat} {l : List Int} {k : Int} (hk : 0 ≤ k) (hl : l.length = n) (hi : i < n) (h : ¬ l.getD i 0 ≥ 0) : OOk n (l.set i k, [(i : Int)]) := by
  refine ⟨by rw [List.length_set]; exact hl, fun j hj => ?_, ?_⟩
  · have hj : j < 1 := hj
    have : j = 0 := by omega
    subst this
    show (0 : Int) ≤ i ∧ (i : Int) < n
    omega
  · have := unm_set hk l i (by omega) (by omega)
    have h2 := unm_le l
    show 1 + unm (l.set i k) ≤ n
    omega
theorem ofL_ok {x : tabE.T} (g : Good x) : ∀ i, i ≤ x.1.2.length → (ofL x i).1.length = x.1.2.length ∧ 0 ≤ (ofL x i).2 ∧ (ofL x i).2 ≤ i
  | 0, _ => ⟨List.length_replicate, Int.le_refl 0, Int.le_refl 0⟩
  | i + 1, hi => by
    obtain ⟨h1, h2, h3⟩ := ofL_ok g i (by omega)
    show (ofI x (ofL x i) i).1.length = _ ∧ 0 ≤ (ofI x (ofL x i) i).2 ∧ (ofI x (ofL x i) i).2 ≤ _
    unfold ofI
    split
    · exact ⟨h1, h2, by omega⟩
    · rename_i hn
      exact ⟨(bfs_ok g h2 10000 0 (start_ok h2 h1 (by omega) hn)).len, by show 0 ≤ (ofL x i).2 + 1; omega, by show (ofL x i).2 + 1 ≤ _; omega⟩
theorem ofC_t {x : tabE.T} {k : Int} {j c : Nat} {s : OS} (h1 : tOpp x (3 * s.2.getD j 0 + c) ≥ 0) (h2 : s.1.getD ((tOpp x (3 * s.2.getD j 0 + c)).tdiv 3).toNat 0 < 0) :
    ofC x k j s c = (s.1.set ((tOpp x (3 * s.2.getD j 0 + c)).tdiv 3).toNat k, s.2 ++ [(tOpp x (3 * s.2.getD j 0 + c)).tdiv 3]) := by
  rw [td3 h1] at *; unfold ofC; rw [if_pos ⟨h1, h2⟩]
theorem ofC_f1 {x : tabE.T} {k : Int} {j c : Nat} {s : OS} (h1 : tOpp x (3 * s.2.getD j 0 + c) ≥ 0) (h2 : ¬ s.1.getD ((tOpp x (3 * s.2.getD j 0 + c)).tdiv 3).toNat 0 < 0) : ofC x k j s c = s := by
  rw [td3 h1] at *; unfold ofC; rw [if_neg (fun e => h2 e.2)]
theorem ofC_f2 {x : tabE.T} {k : Int} {j c : Nat} {s : OS} (h1 : ¬ tOpp x (3 * s.2.getD j 0 + c) ≥ 0) : ofC x k j s c = s := by
  unfold ofC; rw [if_neg (fun e => h1 e.1)]
theorem ofC_len {x : tabE.T} {k : Int} {j c : Nat} {s : OS} : s.2.length ≤ (ofC x k j s c).2.length := by
  unfold ofC; split
  · show _ ≤ (s.2 ++ [_]).length
    rw [List.length_append]; omega
  · exact Nat.le_refl _
theorem ofCs_len {x : tabE.T} {k : Int} {j : Nat} {s : OS} : ∀ c, s.2.length ≤ (irec (ofC x k j) s c).2.length
  | 0 => Nat.le_refl _
  | c + 1 => Nat.le_trans (ofCs_len c) ofC_len
theorem ofC_s (x : tabE.T) (k : Int) (j : Nat) (s : OS) (c : Nat) : irec (ofC x k j) s (c + 1) = ofC x k j (irec (ofC x k j) s c) c := rfl
theorem ofJ_s (x : tabE.T) (k : Int) (s : OS) (j : Nat) : irec (ofJ x k) s (j + 1) = irec (ofC x k j) (irec (ofJ x k) s j) 3 := by
  rw [irec, ofJ]
theorem bfs_go {x : tabE.T} {k : Int} {j : Nat} {s s0 : OS} (hj : j < 10000) (h : (j : Int) < s.2.length) (e : bfs x k 10000 0 s0 = bfs x k (10000 - j) j s) : bfs x k 10000 0 s0 = bfs x k (10000 - (j + 1)) (j + 1) (ofJ x k s j) := by
  rw [e, show 10000 - j = (10000 - (j + 1)) + 1 by omega, bfs, if_pos (by omega)]
theorem bfs_end {x : tabE.T} {k : Int} {j : Nat} {s : OS} (h : ¬ (j : Int) < s.2.length) : ∀ f, bfs x k f j s = s
  | 0 => rfl
  | f + 1 => by rw [bfs, if_neg (by omega)]
theorem ofI_skip {x : tabE.T} {i : Nat} (h : (ofL x i).1.getD i 0 ≥ 0) : ofL x (i + 1) = ofL x i := by
  show ofI x (ofL x i) i = _
  unfold ofI; rw [if_pos h]
theorem ofI_go {x : tabE.T} {i : Nat} (h : ¬ (ofL x i).1.getD i 0 ≥ 0) : ofL x (i + 1) = ((bfs x (ofL x i).2 10000 0 ((ofL x i).1.set i (ofL x i).2, [(i : Int)])).1, (ofL x i).2 + 1) := by
  show ofI x (ofL x i) i = _
  unfold ofI; rw [if_neg h]
theorem rep_step {α : Type} {a b : α} : ∀ (i n : Nat), i < n → List.replicate (i + 1) a ++ List.replicate (n - (i + 1)) b = (List.replicate i a ++ List.replicate (n - i) b).set i a
  | 0, n + 1, _ => by simp [List.replicate_succ]
  | i + 1, n + 1, h => by
    have := rep_step (a := a) (b := b) i n (by omega)
    show a :: (List.replicate (i + 1) a ++ List.replicate (n + 1 - (i + 1 + 1)) b) = (a :: (List.replicate i a ++ List.replicate (n + 1 - (i + 1)) b)).set (i + 1) a
    rw [List.set_cons_succ, show n + 1 - (i + 1 + 1) = n - (i + 1) by omega, show n + 1 - (i + 1) = n - i by omega, this]
attribute [irreducible] ofC ofJ bfs ofI
def loopO1 (n : Nat) : Spec Nat where
  inv i := i ≤ n
  live i := [(16, .s (.int .i64 i))]
  keep := [0, 3, 14, 15]
  heap i := [(1, .row i64E 3 (List.replicate i (-1) ++ List.replicate (n - i) 0))]
  keepH := [0]
  mu i := n - i
def loopO2 (x : tabE.T) : Spec Nat where
  inv i := i ≤ x.1.2.length
  live i := [(25, .s (.int .i64 i)), (5, .s (.int .i64 (ofL x i).2))]
  keep := [0, 3, 23, 24]
  heap i := [(1, .row i64E 3 (ofL x i).1)]
  keepH := [0]
  mu i := x.1.2.length - i
def loopO3 (x : tabE.T) (k : Int) (s : OS) : Spec Nat where
  inv j := j ≤ (irec (ofJ x k) s j).2.length ∧ bfs x k 10000 0 s = bfs x k (10000 - j) j (irec (ofJ x k) s j)
  live j := [(8, .s (.int .i64 j)), (7, .s (.own 2 0 (irec (ofJ x k) s j).2.length))]
  keep := [0, 3, 5, 6, 23, 24, 25]
  heap j := [(1, .row i64E 3 (irec (ofJ x k) s j).1), (2, .row i64E 3 (irec (ofJ x k) s j).2)]
  keepH := [0]
  mu j := 10000 - j
def loopO4 (x : tabE.T) (k : Int) (j : Nat) (s : OS) : Spec Nat where
  inv c := c ≤ 3
  live c := [(45, .s (.int .i64 c)), (7, .s (.own 2 0 (irec (ofC x k j) s c).2.length))]
  keep := [0, 3, 5, 6, 8, 23, 24, 25]
  heap c := [(1, .row i64E 3 (irec (ofC x k j) s c).1), (2, .row i64E 3 (irec (ofC x k j) s c).2)]
  keepH := [0]
  mu c := 3 - c
set_option maxHeartbeats 8000000 in
theorem shOf_vc (x : tabE.T) (g : Good x) : afun ⟨tyL, [(30, trianglesC), (22, oppC)], []⟩ Try.f86 [(ETy.pt tabE).av (some x)] (fun v => v = .s (.sl i64E (ofR x))) := by
  have hn : x.1.2.length ≤ 8192 := g.fit.2.2.1
  repeat' (conv => whnf
           first | done | refine Need.intro (by first | rfl | omega | (simp only [i64ok] at *; omega)) ?_ | refine Need.intro (Hold.out ?_) ?_ | refine Give.intro fun _ => ?_ | refine Both.intro ?_ ?_ | refine BIf.and ?_ | refine BIf.or ?_ | refine BIf.eqi (fun _ => ?_) (fun _ => ?_) | refine BIf.nei (fun _ => ?_) (fun _ => ?_) | refine BIf.dec (fun _ => ?_) (fun _ => ?_) | refine BIf.nt ?_ | refine BIf.intro (fun _ => ?_) (fun _ => ?_) | ((first | (with_reducible show Or (∃ n, rounds (acode _ (Code.seq (Code.region 3 _ _) _)) _ n _) _) | (with_reducible show Or (∃ n, rounds (acode _ (Code.seq (Code.seq (Code.region 3 _ _) _) _)) _ n _) _) | (with_reducible show Or (∃ n, rounds (acode _ (Code.seq (Code.seq (Code.seq (Code.region 3 _ _) _) _) _)) _ n _) _) | (with_reducible show Or (∃ n, rounds (acode _ (Code.seq (Code.seq (Code.seq (Code.seq (Code.region 3 _ _) _) _) _) _)) _ n _) _) | (with_reducible show Or (∃ n, rounds (acode _ (Code.block _ (Code.seq (Code.region 3 _ _) _))) _ n _) _) | (with_reducible show Or (∃ n, rounds (acode _ (Code.block _ (Code.seq (Code.seq (Code.region 3 _ _) _) _))) _ n _) _) | (with_reducible show Or (∃ n, rounds (acode _ (Code.block _ (Code.seq (Code.seq (Code.seq (Code.region 3 _ _) _) _) _))) _ n _) _) | (with_reducible show Or (∃ n, rounds (acode _ (Code.block _ (Code.seq (Code.seq (Code.seq (Code.seq (Code.region 3 _ _) _) _) _) _))) _ n _) _)); refine Or.inr (Exists.intro (Nat) (Exists.intro (loopO1 x.1.2.length) (And.intro (Exists.intro (0) (And.intro (Hold.out ?_) (And.intro ?_ (And.intro ?_ rfl)))) (fun i hi => ?_))))) | ((with_reducible show (∃ y, And (Spec.inv (loopO1 _) y) _)); refine Exists.intro (i + 1) (And.intro (Hold.out ?_) (And.intro (And.intro ?_ (And.intro ?_ rfl)) (Hold.out ?_)))) | ((first | (with_reducible show Or (∃ n, rounds (acode _ (Code.seq (Code.region 9 _ _) _)) _ n _) _) | (with_reducible show Or (∃ n, rounds (acode _ (Code.seq (Code.seq (Code.region 9 _ _) _) _)) _ n _) _) | (with_reducible show Or (∃ n, rounds (acode _ (Code.seq (Code.seq (Code.seq (Code.region 9 _ _) _) _) _)) _ n _) _) | (with_reducible show Or (∃ n, rounds (acode _ (Code.seq (Code.seq (Code.seq (Code.seq (Code.region 9 _ _) _) _) _) _)) _ n _) _) | (with_reducible show Or (∃ n, rounds (acode _ (Code.block _ (Code.seq (Code.region 9 _ _) _))) _ n _) _) | (with_reducible show Or (∃ n, rounds (acode _ (Code.block _ (Code.seq (Code.seq (Code.region 9 _ _) _) _))) _ n _) _) | (with_reducible show Or (∃ n, rounds (acode _ (Code.block _ (Code.seq (Code.seq (Code.seq (Code.region 9 _ _) _) _) _))) _ n _) _) | (with_reducible show Or (∃ n, rounds (acode _ (Code.block _ (Code.seq (Code.seq (Code.seq (Code.seq (Code.region 9 _ _) _) _) _) _))) _ n _) _)); refine Or.inr (Exists.intro (Nat) (Exists.intro (loopO2 x) (And.intro (Exists.intro (0) (And.intro (Hold.out ?_) (And.intro ?_ (And.intro ?_ rfl)))) (fun i hi => ?_))))) | ((with_reducible show (∃ y, And (Spec.inv (loopO2 _) y) _)); refine Exists.intro (i + 1) (And.intro (Hold.out ?_) (And.intro (And.intro ?_ (And.intro ?_ rfl)) (Hold.out ?_)))) | ((first | (with_reducible show Or (∃ n, rounds (acode _ (Code.seq (Code.region 15 _ _) _)) _ n _) _) | (with_reducible show Or (∃ n, rounds (acode _ (Code.seq (Code.seq (Code.region 15 _ _) _) _)) _ n _) _) | (with_reducible show Or (∃ n, rounds (acode _ (Code.seq (Code.seq (Code.seq (Code.region 15 _ _) _) _) _)) _ n _) _) | (with_reducible show Or (∃ n, rounds (acode _ (Code.seq (Code.seq (Code.seq (Code.seq (Code.region 15 _ _) _) _) _) _)) _ n _) _) | (with_reducible show Or (∃ n, rounds (acode _ (Code.block _ (Code.seq (Code.region 15 _ _) _))) _ n _) _) | (with_reducible show Or (∃ n, rounds (acode _ (Code.block _ (Code.seq (Code.seq (Code.region 15 _ _) _) _))) _ n _) _) | (with_reducible show Or (∃ n, rounds (acode _ (Code.block _ (Code.seq (Code.seq (Code.seq (Code.region 15 _ _) _) _) _))) _ n _) _) | (with_reducible show Or (∃ n, rounds (acode _ (Code.block _ (Code.seq (Code.seq (Code.seq (Code.seq (Code.region 15 _ _) _) _) _) _))) _ n _) _)); refine Or.inr (Exists.intro (Nat) (Exists.intro (loopO3 x (ofL x i).2 ((ofL x i).1.set i (ofL x i).2, [(i : Int)])) (And.intro (Exists.intro (0) (And.intro (Hold.out ?_) (And.intro ?_ (And.intro ?_ rfl)))) (fun j hj => ?_))))) | ((with_reducible show (∃ y, And (Spec.inv (loopO3 _ _ _) y) _)); refine Exists.intro (j + 1) (And.intro (Hold.out ?_) (And.intro (And.intro ?_ (And.intro ?_ rfl)) (Hold.out ?_)))) | ((first | (with_reducible show Or (∃ n, rounds (acode _ (Code.seq (Code.region 18 _ _) _)) _ n _) _) | (with_reducible show Or (∃ n, rounds (acode _ (Code.seq (Code.seq (Code.region 18 _ _) _) _)) _ n _) _) | (with_reducible show Or (∃ n, rounds (acode _ (Code.seq (Code.seq (Code.seq (Code.region 18 _ _) _) _) _)) _ n _) _) | (with_reducible show Or (∃ n, rounds (acode _ (Code.seq (Code.seq (Code.seq (Code.seq (Code.region 18 _ _) _) _) _) _)) _ n _) _) | (with_reducible show Or (∃ n, rounds (acode _ (Code.block _ (Code.seq (Code.region 18 _ _) _))) _ n _) _) | (with_reducible show Or (∃ n, rounds (acode _ (Code.block _ (Code.seq (Code.seq (Code.region 18 _ _) _) _))) _ n _) _) | (with_reducible show Or (∃ n, rounds (acode _ (Code.block _ (Code.seq (Code.seq (Code.seq (Code.region 18 _ _) _) _) _))) _ n _) _) | (with_reducible show Or (∃ n, rounds (acode _ (Code.block _ (Code.seq (Code.seq (Code.seq (Code.seq (Code.region 18 _ _) _) _) _) _))) _ n _) _)); refine Or.inr (Exists.intro (Nat) (Exists.intro (loopO4 x (ofL x i).2 j (irec (ofJ x (ofL x i).2) ((ofL x i).1.set i (ofL x i).2, [(i : Int)]) j)) (And.intro (Exists.intro (0) (And.intro (Hold.out ?_) (And.intro ?_ (And.intro ?_ rfl)))) (fun c hc => ?_))))) | ((with_reducible show (∃ y, And (Spec.inv (loopO4 _ _ _ _) y) _)); refine Exists.intro (c + 1) (And.intro (Hold.out ?_) (And.intro (And.intro ?_ (And.intro ?_ rfl)) (Hold.out ?_)))) | refine And.intro rfl ?_ | refine And.intro (HoldEq.out ?_) ?_ | refine And.intro (HoldOb.out ?_) ?_ | exact True.intro | refine HoldEq.out ?_ | refine HoldObs.out ?_ | refine KCheck.intro (by kernel_rfl) ?_ | refine HoldOr.out ?_)
  all_goals try first | refine HoldEq.int ?_ | refine HoldEq.bool ?_ | refine HoldEq.sl ?_ | refine HoldEq.own ?_ | refine HoldEq.ownS ?_ ?_ | refine HoldOb.row ?_ | refine HoldOb.map ?_ | refine HoldOb.gmap ?_ | refine HoldOb.grow ?_ | refine HoldObs.row ?_
  all_goals try simp only [take_one, take_one', set_one, take_all, List.length_singleton, rec_self, Int.toNat_natCast, pair_eta, ETy.dflt, List.getD_cons_zero, List.getD_cons_succ, Int.reduceToNat, Int.reduceAdd, Int.reduceSub, Int.reduceNeg, Nat.reduceAdd, Nat.zero_add, loopO1, loopO2, loopO3, loopO4] at *
  all_goals try (refine Hold.intro ?_; omega)
  · exact rep_step _ _ (by omega)
  · have e : i = x.1.2.length := by omega
    subst e
    rw [Nat.sub_self]; simp only [List.replicate_zero, List.append_nil]; rfl
  · rw [ofI_skip (by assumption)]
  · rw [ofI_skip (by assumption)]
  all_goals try
    have hL := ofL_ok g i (by omega)
    have h0 := start_ok (n := x.1.2.length) (i := i) hL.2.1 hL.1 (by omega) (by assumption)
  · exact Hold.intro ⟨Nat.zero_le _, rfl⟩
  · rfl
  all_goals try have hJ := ofJs_ok g hL.2.1 h0 j
  all_goals try
    have hC := ofCs_ok g hL.2.1 (j := j) hJ c
    have hlen := ofCs_len (x := x) (k := (ofL x i).2) (j := j) (s := irec (ofJ x (ofL x i).2) ((ofL x i).1.set i (ofL x i).2, [(i : Int)]) j) c
    have hd := hC.td j (by omega)
  all_goals try have hjc := hJ.cnt
  all_goals try have hcc := hC.cnt
  all_goals try (refine Hold.intro ?_; (try unfold i64ok); omega)
  all_goals try (exact Hold.intro (show @LE.le Int _ (3 * (irec (ofC x (ofL x i).2 j) (irec (ofJ x (ofL x i).2) ((ofL x i).1.set i (ofL x i).2, [(i : Int)]) j) c).2.getD j 0 + c) (1000000 : Int) by omega))
  all_goals try (rw [ofC_s, ofC_t (by assumption) (by assumption)]; first | done | exact List.length_append)
  all_goals try (rw [ofC_s, ofC_f1 (by assumption) (by assumption)]; done)
  all_goals try (rw [ofC_s, ofC_f2 (by assumption)]; done)
  all_goals try (
    have := opp_in g ‹_›
    first
      | (refine Hold.intro ⟨by decide, ?_⟩; rw [td3 (by assumption)]; unfold i64ok; omega)
      | (refine Hold.intro ?_; rw [td3 (by assumption)]; omega))
  all_goals try (
    have e : c = 3 := by omega
    subst e
    first
      | (rw [ofJ_s]; done)
      | exact Hold.intro ⟨by rw [ofJ_s]; omega, bfs_go (by omega) (by assumption) hj.2⟩)
  · rw [ofI_go (by assumption)]
  · rw [ofI_go (by assumption), hj.2, bfs_end (by assumption)]
  · have e : i = x.1.2.length := by omega
    rw [e]; unfold ofR
    rw [List.drop_zero, List.take_of_length_le (by rw [(ofL_ok g _ (Nat.le_refl _)).1]; exact Nat.le_refl _)]
def shOfC : List AV → Option Res := con1P tabE (fun x => some (none, some (Good x), .s (.sl i64E (ofR x))))
theorem shOfRow : FnRow Try.prog 86 shOfC := ⟨con1P_ok fun x r h => by cases h; exact fn_by (rulesF (fn := [(30, trianglesC), (22, oppC)]) (fr := []) ⟨trianglesRow, oppRow, trivial⟩ trivial) Try.func86 (by kernel_rfl) fun _ h => shOf_vc x h, _, Try.func86, by kernel_rfl, by kernel_rfl⟩
end S1

open Go Go.Vm Go.Proofs
namespace S1
set_option maxRecDepth 100000

/-! shells -/
inductive Conn (A : Nat → Nat → Prop) : Nat → Nat → Prop
  | refl (t : Nat) : Conn A t t
  | step {t u w : Nat} : Conn A t u → A u w → Conn A t w
theorem Conn.trans {A : Nat → Nat → Prop} {t u w : Nat} (h : Conn A t u) (k : Conn A u w) : Conn A t w := by
  induction k with
  | refl => exact h
  | step _ a ih => exact .step ih a
theorem Conn.symm {A : Nat → Nat → Prop} (hs : ∀ t u, A t u → A u t) {t u : Nat} (h : Conn A t u) : Conn A u t := by
  induction h with
  | refl => exact .refl _
  | step _ a ih => exact Conn.trans (.step (.refl _) (hs _ _ a)) ih
theorem Conn.mono {A B : Nat → Nat → Prop} (h : ∀ t u, A t u → B t u) {t u : Nat} (k : Conn A t u) : Conn B t u := by
  induction k with
  | refl => exact .refl _
  | step _ a ih => exact .step ih (h _ _ a)
/-- Triangles with an edge in common. -/
def Adj (x : tabE.T) (i j : Nat) : Prop := ∃ c, tHas x c = true ∧ (c / 3).toNat = i ∧ 0 ≤ tOpp x c ∧ (tOpp x c / 3).toNat = j
theorem Full.opp_opp {x : tabE.T} (g : Full x) {c : Int} (h : 0 ≤ tOpp x c) : tOpp x (tOpp x c) = c := by
  obtain ⟨h1, h2, h3⟩ := g.opp h
  exact g.opp_is h1 (by rw [h3])
theorem Full.adj_symm {x : tabE.T} (g : Full x) {i j : Nat} (h : Adj x i j) : Adj x j i := by
  obtain ⟨c, h1, h2, h3, h4⟩ := h
  exact ⟨tOpp x c, (g.opp h3).2.1, h4, by rw [g.opp_opp h3]; exact (tHas_iff.1 h1).1, by rw [g.opp_opp h3]; exact h2⟩
theorem adj_lt {x : tabE.T} (g : Good x) {i j : Nat} (h : Adj x i j) : i < x.1.2.length ∧ j < x.1.2.length := by
  obtain ⟨c, h1, h2, h3, h4⟩ := h
  exact ⟨by rw [← h2]; exact (cor_tri h1).1, by rw [← h4]; exact (cor_tri (g.opp h3).2.1).1⟩
abbrev lb (l : List Int) (t : Nat) : Int := l.getD t 0
theorem lb_set {l : List Int} {i t : Nat} {k : Int} (hi : i < l.length) : lb (l.set i k) t = if i = t then k else lb l t := by
  unfold lb
  rw [List.getD_eq_getElem?_getD, List.getElem?_set, List.getD_eq_getElem?_getD]
  split
  · rfl
  · rfl
/-- Labels: closed, and each label's triangles hang together. -/
structure Lab (x : tabE.T) (out : List Int) (n : Int) : Prop where
  len : out.length = x.1.2.length
  lt : ∀ t, t < x.1.2.length → lb out t < n
  clo : ∀ t u, Adj x t u → 0 ≤ lb out t → lb out u = lb out t
  con : ∀ t u, t < x.1.2.length → u < x.1.2.length → 0 ≤ lb out t → lb out t = lb out u → Conn (Adj x) t u
/-- One shell, as far as it is known. -/
structure Bf (x : tabE.T) (o0 : List Int) (n : Int) (f : Nat) (s : OS) : Prop where
  len : s.1.length = x.1.2.length
  old : ∀ t, t < x.1.2.length → lb s.1 t = lb o0 t ∨ (lb s.1 t = n ∧ lb o0 t < 0)
  q : ∀ t, t < x.1.2.length → lb s.1 t = n → (t : Int) ∈ s.2
  qn : ∀ t ∈ s.2, 0 ≤ t ∧ t.toNat < x.1.2.length ∧ lb s.1 t.toNat = n
  con : ∀ t ∈ s.2, Conn (Adj x) f t.toNat
theorem bf_step {x : tabE.T} (g : Full x) {o0 : List Int} {n : Int} {f : Nat} (hn : 0 ≤ n) (ho : ∀ t, t < x.1.2.length → lb o0 t < n) {j : Nat} {s : OS} (h : Bf x o0 n f s) (hj : j < s.2.length) (c : Nat) (hc : c < 3) :
    Bf x o0 n f (ofC x n j s c) ∧ (ofC x n j s c).2.getD j 0 = s.2.getD j 0 ∧ (∀ t, t < x.1.2.length → 0 ≤ lb s.1 t → lb (ofC x n j s c).1 t = lb s.1 t) ∧ (s.2.length ≤ (ofC x n j s c).2.length) ∧
    (0 ≤ tOpp x (3 * s.2.getD j 0 + c) → 0 ≤ lb (ofC x n j s c).1 (tOpp x (3 * s.2.getD j 0 + c) / 3).toNat) ∧ (∀ i, i < s.2.length → (ofC x n j s c).2.getD i 0 = s.2.getD i 0) := by
  unfold ofC
  split
  · rename_i hh
    obtain ⟨h1, h2⟩ := hh
    obtain ⟨k1, k2, _⟩ := g.opp h1
    have hm : s.2.getD j 0 ∈ s.2 := getD_mem hj
    obtain ⟨q1, q2, q3⟩ := h.qn _ hm
    have hu := cor_tri k2
    have ho' := tHas_iff.1 k2
    have hu1 := hu.1
    have happ : ∀ i, i < s.2.length → (s.2 ++ [tOpp x (3 * s.2.getD j 0 + c) / 3]).getD i 0 = s.2.getD i 0 := fun i hi => by
      rw [List.getD_eq_getElem?_getD, List.getElem?_append_left hi, ← List.getD_eq_getElem?_getD]
    have hadj : Adj x (s.2.getD j 0).toNat (tOpp x (3 * s.2.getD j 0 + c) / 3).toNat := ⟨_, k1, by omega, h1, rfl⟩
    refine ⟨⟨by show (s.1.set _ _).length = _; rw [List.length_set]; exact h.len, fun t ht => ?_, fun t ht e => ?_, fun t ht => ?_, fun t ht => ?_⟩, happ j hj, fun t ht h0 => ?_, by show _ ≤ (s.2 ++ [_]).length; rw [List.length_append]; omega, fun _ => ?_, happ⟩
    · show lb (s.1.set _ n) t = _ ∨ (lb (s.1.set _ n) t = _ ∧ _)
      rw [lb_set (by rw [h.len]; exact hu1)]
      split
      · rename_i e
        refine .inr ⟨rfl, ?_⟩
        rcases h.old t ht with e2 | e2
        · rw [← e2, ← e]; exact h2
        · exact e2.2
      · exact h.old t ht
    · have e : lb (s.1.set (tOpp x (3 * s.2.getD j 0 + c) / 3).toNat n) t = n := e
      show (t : Int) ∈ s.2 ++ [_]
      rw [lb_set (by rw [h.len]; exact hu1)] at e
      split at e
      · rename_i e2
        exact List.mem_append_right _ (List.mem_singleton.2 (by omega))
      · exact List.mem_append_left _ (h.q t ht e)
    · have ht : t ∈ s.2 ++ [_] := ht
      show 0 ≤ t ∧ t.toNat < _ ∧ lb (s.1.set _ n) t.toNat = n
      rw [lb_set (by rw [h.len]; exact hu1)]
      rcases List.mem_append.1 ht with ht | ht
      · obtain ⟨a, b, d⟩ := h.qn t ht
        refine ⟨a, b, ?_⟩
        split
        · rfl
        · exact d
      · rw [List.mem_singleton] at ht
        refine ⟨by omega, by rw [ht]; exact hu1, ?_⟩
        rw [if_pos (by rw [ht])]
    · have ht : t ∈ s.2 ++ [_] := ht
      rcases List.mem_append.1 ht with ht | ht
      · exact h.con t ht
      · rw [List.mem_singleton.1 ht]
        exact .step (h.con _ hm) hadj
    · show lb (s.1.set _ n) t = _
      rw [lb_set (by rw [h.len]; exact hu1), if_neg (fun e => by rw [← e] at h0; have : lb s.1 (tOpp x (3 * s.2.getD j 0 + c) / 3).toNat < 0 := h2; omega)]
    · show 0 ≤ lb (s.1.set _ n) _
      rw [lb_set (by rw [h.len]; exact hu1), if_pos rfl]; exact hn
  · rename_i hh
    exact ⟨h, rfl, fun _ _ _ => rfl, Nat.le_refl _, fun h0 => by
      by_cases e : s.1.getD (tOpp x (3 * s.2.getD j 0 + c) / 3).toNat 0 < 0
      · exact absurd ⟨h0, e⟩ hh
      · show 0 ≤ s.1.getD _ 0; omega, fun _ _ => rfl⟩
/-- What is beside the triangles looked at so far has a label. -/
def Seen (x : tabE.T) (s : OS) (j : Nat) : Prop := ∀ i, i < j → ∀ u, Adj x (s.2.getD i 0).toNat u → 0 ≤ lb s.1 u
theorem bf_J {x : tabE.T} (g : Full x) {o0 : List Int} {n : Int} {f : Nat} (hn : 0 ≤ n) (ho : ∀ t, t < x.1.2.length → lb o0 t < n) {j : Nat} {s : OS} (h : Bf x o0 n f s) (hj : j < s.2.length) (hs : Seen x s j) :
    Bf x o0 n f (ofJ x n s j) ∧ Seen x (ofJ x n s j) (j + 1) ∧ s.2.length ≤ (ofJ x n s j).2.length := by
  have key : ∀ c, c ≤ 3 → Bf x o0 n f (irec (ofC x n j) s c) ∧ (irec (ofC x n j) s c).2.getD j 0 = s.2.getD j 0 ∧ (∀ t, t < x.1.2.length → 0 ≤ lb s.1 t → 0 ≤ lb (irec (ofC x n j) s c).1 t) ∧ s.2.length ≤ (irec (ofC x n j) s c).2.length ∧
      (∀ d : Nat, d < c → 0 ≤ tOpp x (3 * s.2.getD j 0 + d) → 0 ≤ lb (irec (ofC x n j) s c).1 (tOpp x (3 * s.2.getD j 0 + d) / 3).toNat) ∧ (∀ i, i < s.2.length → (irec (ofC x n j) s c).2.getD i 0 = s.2.getD i 0) := by
    intro c
    induction c with
    | zero => exact fun _ => ⟨h, rfl, fun _ _ h => h, Nat.le_refl _, fun d hd => by omega, fun _ _ => rfl⟩
    | succ c ih =>
      intro hc
      obtain ⟨i1, i2, i3, i4, i5, i6⟩ := ih (by omega)
      obtain ⟨b1, b2, b3, b4, b5, b6⟩ := bf_step g hn ho (j := j) i1 (Nat.lt_of_lt_of_le hj i4) c (by omega)
      rw [ofC_s]
      rw [i2] at b2 b5
      refine ⟨b1, b2, fun t ht h0 => ?_, by omega, fun d hd h0 => ?_, fun i hi => by rw [b6 i (by omega), i6 i hi]⟩
      · have := i3 t ht h0
        rw [b3 t ht this]; exact this
      · have hlt := (cor_tri (g.opp h0).2.1).1
        by_cases e : d = c
        · subst e; exact b5 h0
        · have := i5 d (by omega) h0
          rw [b3 _ hlt this]; exact this
  obtain ⟨i1, i2, i3, i4, i5, i6⟩ := key 3 (Nat.le_refl _)
  unfold ofJ
  refine ⟨i1, fun i hi u hu => ?_, i4⟩
  rw [i6 i (by omega)] at hu
  by_cases e : i = j
  · subst e
    obtain ⟨c, c1, c2, c3, c4⟩ := hu
    have hq := h.qn _ (getD_mem hj)
    have hc := tHas_iff.1 c1
    have e : c = 3 * s.2.getD i 0 + ((c % 3).toNat : Nat) := by omega
    rw [← c4, e]
    exact i5 (c % 3).toNat (by omega) (by rw [← e]; exact c3)
  · exact i3 u (adj_lt g.toGood hu).2 (hs i (by omega) u hu)
theorem bf_all {x : tabE.T} (g : Full x) {o0 : List Int} {n : Int} {f : Nat} (hn : 0 ≤ n) (ho : ∀ t, t < x.1.2.length → lb o0 t < n) : ∀ (k j : Nat) {s : OS}, Bf x o0 n f s → OOk x.1.2.length s → j ≤ s.2.length → Seen x s j → x.1.2.length < k + j →
    Bf x o0 n f (bfs x n k j s) ∧ Seen x (bfs x n k j s) (bfs x n k j s).2.length
  | 0, j, s, h, ok, hj, hs, hk => by
    have := ok.cnt; omega
  | k + 1, j, s, h, ok, hj, hs, hk => by
    unfold bfs
    split
    · rename_i hlt
      obtain ⟨b1, b2, b3⟩ := bf_J g hn ho h hlt hs
      exact bf_all g hn ho k (j + 1) b1 (ofJ_ok g.toGood hn ok) (by omega) b2 (by omega)
    · have e : s.2.length = j := by omega
      exact ⟨h, by rw [e]; exact hs⟩
theorem lab_next {x : tabE.T} (g : Full x) {out : List Int} {n : Int} (hn : 0 ≤ n) (h : Lab x out n) {i : Nat} (hi : i < x.1.2.length) (hl : ¬ lb out i ≥ 0) :
    Lab x (bfs x n 10000 0 (out.set i n, [(i : Int)])).1 (n + 1) ∧ lb (bfs x n 10000 0 (out.set i n, [(i : Int)])).1 i = n ∧ (∀ t, t < x.1.2.length → 0 ≤ lb out t → lb (bfs x n 10000 0 (out.set i n, [(i : Int)])).1 t = lb out t) ∧
    ∀ t, t < x.1.2.length → lb (bfs x n 10000 0 (out.set i n, [(i : Int)])).1 t = lb out t ∨ (lb (bfs x n 10000 0 (out.set i n, [(i : Int)])).1 t = n ∧ lb out t < 0) := by
  have hlen : x.1.2.length ≤ 8192 := g.fit.2.2.1
  have h0 : Bf x out n i (out.set i n, [(i : Int)]) := by
    refine ⟨by rw [List.length_set]; exact h.len, fun t ht => ?_, fun t ht e => ?_, fun t ht => ?_, fun t ht => ?_⟩
    · show lb (out.set i n) t = _ ∨ (lb (out.set i n) t = n ∧ _)
      rw [lb_set (by rw [h.len]; exact hi)]
      split
      · rename_i e; subst e; exact .inr ⟨rfl, by omega⟩
      · exact .inl rfl
    · have e : lb (out.set i n) t = n := e
      rw [lb_set (by rw [h.len]; exact hi)] at e
      split at e
      · rename_i e2; exact List.mem_singleton.2 (by omega)
      · have := h.lt t ht; omega
    · rw [List.mem_singleton.1 ht]
      refine ⟨by omega, by omega, ?_⟩
      show lb (out.set i n) _ = n
      rw [lb_set (by rw [h.len]; exact hi), if_pos (by omega)]
    · rw [List.mem_singleton.1 ht]; exact .refl _
  obtain ⟨b, hs⟩ := bf_all g hn h.lt 10000 0 h0 (start_ok hn h.len hi hl) (Nat.zero_le _) (fun i hi => by omega) (by omega)
  have hin : (i : Int) ∈ (bfs x n 10000 0 (out.set i n, [(i : Int)])).2 := by
    have key : ∀ (k j : Nat) (s : OS), (i : Int) ∈ s.2 → (i : Int) ∈ (bfs x n k j s).2 := fun k => by
      induction k with
      | zero => exact fun j s h => (by unfold bfs; exact h)
      | succ k ih =>
        intro j s hm
        unfold bfs
        split
        · refine ih _ _ ?_
          have : ∀ c, (i : Int) ∈ (irec (ofC x n j) s c).2 := fun c => by
            induction c with
            | zero => exact hm
            | succ c ih2 =>
              rw [ofC_s]
              generalize irec (ofC x n j) s c = S at ih2
              unfold ofC; split
              · exact List.mem_append_left _ ih2
              · exact ih2
          unfold ofJ
          exact this 3
        · exact hm
    exact key _ _ _ (List.mem_singleton.2 rfl)
  generalize bfs x n 10000 0 (out.set i n, [(i : Int)]) = s at *
  have hold : ∀ t, t < x.1.2.length → 0 ≤ lb out t → lb s.1 t = lb out t := fun t ht h0 => by
    rcases b.old t ht with e | e
    · exact e
    · omega
  refine ⟨⟨b.len, fun t ht => ?_, fun t u ha h0 => ?_, fun t u ht hu h0 e => ?_⟩, (b.qn _ hin).2.2, hold, b.old⟩
  · rcases b.old t ht with e | e
    · rw [e]; have := h.lt t ht; omega
    · rw [e.1]; omega
  · obtain ⟨ht, hu⟩ := adj_lt g.toGood ha
    rcases b.old t ht with e | e
    · rw [e] at h0 ⊢
      have k := h.clo t u ha h0
      rw [hold u hu (by rw [k]; exact h0)]; exact k
    · obtain ⟨idx, hidx, e2⟩ := List.mem_iff_getElem.1 (b.q t ht e.1)
      have hsu : 0 ≤ lb s.1 u := hs idx hidx u (by rw [List.getD_eq_getElem?_getD, List.getElem?_eq_getElem hidx]; show Adj x (s.2[idx]).toNat u; rw [e2]; exact ha)
      rcases b.old u hu with k | k
      · rw [k] at hsu
        have := h.clo u t (g.adj_symm ha) hsu
        omega
      · rw [k.1, e.1]
  · rcases b.old t ht with k | k
    · rw [k] at h0 e
      rcases b.old u hu with k2 | k2
      · rw [k2] at e; exact h.con t u ht hu h0 e
      · have := h.lt t ht; omega
    · rw [k.1] at e
      have c1 := b.con _ (b.q t ht k.1)
      have c2 := b.con _ (b.q u hu e.symm)
      exact Conn.trans (c1.symm fun _ _ => g.adj_symm) c2
theorem lab_all {x : tabE.T} (g : Full x) : ∀ i, i ≤ x.1.2.length → Lab x (ofL x i).1 (ofL x i).2 ∧ 0 ≤ (ofL x i).2 ∧ ∀ t, t < i → 0 ≤ lb (ofL x i).1 t
  | 0, _ => by
    have e : ∀ t, t < x.1.2.length → lb (ofL x 0).1 t = -1 := fun t ht => by
      show (List.replicate x.1.2.length (-1 : Int)).getD t 0 = -1
      rw [List.getD_eq_getElem?_getD, List.getElem?_replicate, if_pos ht]; rfl
    refine ⟨⟨List.length_replicate, fun t ht => ?_, fun t u ha h0 => ?_, fun t u ht hu h0 => ?_⟩, Int.le_refl 0, fun t ht => by omega⟩
    · rw [e t ht]; show (-1 : Int) < 0; decide
    · rw [e t (adj_lt g.toGood ha).1] at h0; omega
    · rw [e t ht] at h0; omega
  | i + 1, hi => by
    obtain ⟨h1, h2, h3⟩ := lab_all g i (by omega)
    show Lab x (ofI x (ofL x i) i).1 (ofI x (ofL x i) i).2 ∧ 0 ≤ (ofI x (ofL x i) i).2 ∧ ∀ t, t < i + 1 → 0 ≤ lb (ofI x (ofL x i) i).1 t
    unfold ofI
    split
    · rename_i h
      refine ⟨h1, h2, fun t ht => ?_⟩
      by_cases e : t = i
      · subst e; exact h
      · exact h3 t (by omega)
    · rename_i h
      obtain ⟨k1, k2, k3, _⟩ := lab_next g h2 h1 (by omega) h
      refine ⟨k1, by show 0 ≤ (ofL x i).2 + 1; omega, fun t ht => ?_⟩
      by_cases e : t = i
      · subst e
        show 0 ≤ lb (bfs x _ _ _ _).1 t
        rw [k2]; exact h2
      · show 0 ≤ lb (bfs x _ _ _ _).1 t
        rw [k3 t (by omega) (h3 t (by omega))]; exact h3 t (by omega)
/-- THE SHELLS: two triangles have one number just if they hang together. -/
theorem shell_iff {x : tabE.T} (g : Full x) {t u : Nat} (ht : t < x.1.2.length) (hu : u < x.1.2.length) : (ofR x).getD t 0 = (ofR x).getD u 0 ↔ Conn (Adj x) t u := by
  obtain ⟨h1, h2, h3⟩ := lab_all g x.1.2.length (Nat.le_refl _)
  constructor
  · exact fun e => h1.con t u ht hu (h3 t ht) e
  · intro h
    clear hu
    induction h with
    | refl => rfl
    | step _ a ih =>
      have hb := (adj_lt g.toGood a).1
      rw [ih]
      exact (h1.clo _ _ a (h3 _ hb)).symm
end S1
