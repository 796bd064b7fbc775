/- A part of the proofs of the laws of this seat: contracts of functions, each for every input that its text names. -/
import Derived.Test.YtbbpofkacdmjnaaT25toU3
import Derived.Test.YtbbpofkacdmjnaaT16toT24
set_option linter.unusedSimpArgs false
set_option linter.unusedVariables false
set_option maxHeartbeats 2000000
open Go Go.Vm Go.Proofs
namespace S1
set_option maxRecDepth 100000

/-! edges in plain words -/
/-- Is there such an edge? -/
def eE (l : List P3) (a b : Int) : Prop := ∃ i, i < l.length ∧ dE (tg l i) a b
theorem cor_dE {x : tabE.T} {c : Int} (h : tHas x c = true) : (c / 3).toNat < x.1.2.length ∧ dE (tg x.1.2 (c / 3).toNat) (tEdge x c).1 (tEdge x c).2 := by
  have hc := tHas_iff.1 h
  have h1 := tHas_iff.1 (hasNP h).1
  have h2 := tHas_iff.1 (hasNP h).2
  refine ⟨by omega, ?_⟩
  show dE _ (tVert x (tNext x c)) (tVert x (tPrev x c))
  rw [tVert_t h1.1 h1.2, tVert_t h2.1 h2.2, tNext_t h, tPrev_t h]
  have e1 : (trn c 1 / 3).toNat = (c / 3).toNat := by unfold trn; omega
  have e2 : (trn c 2 / 3).toNat = (c / 3).toNat := by unfold trn; omega
  rw [e1, e2]
  have : c % 3 = 0 ∨ c % 3 = 1 ∨ c % 3 = 2 := by omega
  rcases this with e | e | e
  · rw [show trn c 1 % 3 = 1 by unfold trn; omega, show trn c 2 % 3 = 2 by unfold trn; omega]; exact .inr (.inl ⟨rfl, rfl⟩)
  · rw [show trn c 1 % 3 = 2 by unfold trn; omega, show trn c 2 % 3 = 0 by unfold trn; omega]; exact .inr (.inr ⟨rfl, rfl⟩)
  · rw [show trn c 1 % 3 = 0 by unfold trn; omega, show trn c 2 % 3 = 1 by unfold trn; omega]; exact .inl ⟨rfl, rfl⟩
theorem dE_cor {x : tabE.T} {j : Nat} {a b : Int} (hj : j < x.1.2.length) (h : dE (tg x.1.2 j) a b) : ∃ c, tHas x c = true ∧ tEdge x c = (a, b) ∧ (c / 3).toNat = j := by
  have key : ∀ k : Int, 0 ≤ k → k < 3 → p3 (tg x.1.2 j) ((k + 1) % 3) = a → p3 (tg x.1.2 j) ((k + 2) % 3) = b → ∃ c, tHas x c = true ∧ tEdge x c = (a, b) ∧ (c / 3).toNat = j := fun k h1 h2 ea eb => by
    have hc : tHas x (3 * (j : Int) + k) = true := tHas_iff.2 (by omega)
    have k1 := tHas_iff.1 (hasNP hc).1
    have k2 := tHas_iff.1 (hasNP hc).2
    refine ⟨3 * j + k, hc, ?_, by omega⟩
    show (tVert x (tNext x _), tVert x (tPrev x _)) = _
    rw [tVert_t k1.1 k1.2, tVert_t k2.1 k2.2, tNext_t hc, tPrev_t hc]
    rw [show (trn (3 * (j : Int) + k) 1 / 3).toNat = j by unfold trn; omega, show (trn (3 * (j : Int) + k) 2 / 3).toNat = j by unfold trn; omega,
      show trn (3 * (j : Int) + k) 1 % 3 = (k + 1) % 3 by unfold trn; omega, show trn (3 * (j : Int) + k) 2 % 3 = (k + 2) % 3 by unfold trn; omega, ea, eb]
  rcases h with h | h | h
  · exact key 2 (by omega) (by omega) h.1 h.2
  · exact key 0 (by omega) (by omega) h.1 h.2
  · exact key 1 (by omega) (by omega) h.1 h.2
theorem eE_iff {x : tabE.T} {a b : Int} : eE x.1.2 a b ↔ ∃ c, tHas x c = true ∧ tEdge x c = (a, b) := by
  constructor
  · rintro ⟨i, hi, h⟩
    obtain ⟨c, h1, h2, _⟩ := dE_cor hi h
    exact ⟨c, h1, h2⟩
  · rintro ⟨c, h1, h2⟩
    have := cor_dE h1
    rw [h2] at this
    exact ⟨_, this⟩
theorem bE_iff {x : tabE.T} (g : Full x) {w u : Int} : bE x w u ↔ eE x.1.2 w u ∧ ¬ eE x.1.2 u w := by
  rw [eE_iff, eE_iff]
  constructor
  · rintro ⟨c, h1, h2, h3⟩
    refine ⟨⟨c, h1, h3⟩, fun ⟨d, k1, k2⟩ => ?_⟩
    have := g.opp_is (c := c) k1 (by rw [k2, h3])
    have h4 := (tHas_iff.1 k1).1
    omega
  · rintro ⟨⟨c, h1, h3⟩, h⟩
    refine ⟨c, h1, ?_, h3⟩
    by_cases e : tOpp x c < 0
    · exact e
    · obtain ⟨k1, k2, k3, k4⟩ := g.opp_v (c := c) (by omega)
      refine absurd ⟨tOpp x c, k2, ?_⟩ h
      show (_, _) = _
      rw [k3, k4]
      have e1 : tVert x (tNext x c) = w := congrArg Prod.fst h3
      have e2 : tVert x (tPrev x c) = u := congrArg Prod.snd h3
      rw [e1, e2]
theorem inner_iff {x : tabE.T} (g : Full x) {v : Int} : innerR x v = true ↔ (0 ≤ v ∧ v < x.1.1) ∧ ¬ ∃ w, bE x w v := by
  unfold innerR
  rw [Bool.and_eq_true, Bool.not_eq_true']
  constructor
  · rintro ⟨h1, h2⟩
    have ht := there_iff.1 h1
    refine ⟨⟨ht.1, ht.2.1⟩, fun ⟨w, hw⟩ => ?_⟩
    obtain ⟨b, eb, eL, hb1, hb2, hb3, hall, _, _, hend⟩ := g.around ht.1 ht.2.1
    obtain ⟨d, d1, d2, d3, _⟩ := bE_last g hw
    rcases hend with h | h
    · rw [h.1] at h2; cases h2
    · have := h.2 d (by rw [← d2]; exact g.around_all d1)
      omega
  · rintro ⟨⟨h0, h1⟩, h2⟩
    refine ⟨g.there h0 h1, ?_⟩
    obtain ⟨b, eb, eL, hb1, hb2, hb3, hall, _, _, hend⟩ := g.around h0 h1
    rcases hend with h | h
    · have := first_bE g hb1 h.2
      rw [hb2] at this
      exact absurd (bE_next g this) h2
    · exact h.1
/-! border loops -/
abbrev nx (x : tabE.T) (u : Int) : Int := nxt (behO (some x)) u
theorem iter_add (f : Int → Int) (a : Int) (i : Nat) : ∀ j, iter f (iter f a i) j = iter f a (i + j)
  | 0 => rfl
  | j + 1 => congrArg f (iter_add f a i j)
structure LoopOk (x : tabE.T) (L : List Int) : Prop where
  ne : 0 < L.length
  cyc : ∀ i, i < L.length → bE x (L.getD ((i + 1) % L.length) 0) (L.getD i 0)
  nd : L.Nodup
theorem walkF_run (m : NxM) (v : Int) {p : Nat} (hp : iter (nxt m) v p = v) (hl : ∀ j, 1 ≤ j → j < p → iter (nxt m) v j ≠ v) : ∀ (r k n : Nat), k + 1 + r = p → r < n → walkF m v n (iter (nxt m) v (k + 1)) = (List.range r).map fun j => iter (nxt m) v (k + 1 + j)
  | 0, k, n, h1, h2 => by
    obtain ⟨n, rfl⟩ : ∃ n', n = n' + 1 := ⟨n - 1, by omega⟩
    unfold walkF
    rw [show k + 1 = p by omega, if_pos hp]; rfl
  | r + 1, k, n, h1, h2 => by
    obtain ⟨n, rfl⟩ : ∃ n', n = n' + 1 := ⟨n - 1, by omega⟩
    unfold walkF
    rw [if_neg (hl (k + 1) (by omega) (by omega))]
    have := walkF_run m v hp hl r (k + 1) n (by omega) (by omega)
    show _ :: walkF m v n (iter (nxt m) v (k + 1 + 1)) = _
    rw [this, List.range_succ_eq_map, List.map_cons, List.map_map]
    congr 1
    refine List.map_congr_left fun j _ => ?_
    show _ = iter (nxt m) v (k + 1 + (j + 1))
    rw [show k + 1 + 1 + j = k + 1 + (j + 1) by omega]
theorem exists_least {P : Nat → Prop} [DecidablePred P] {n : Nat} (h : P n) : ∃ p, P p ∧ p ≤ n ∧ ∀ j, j < p → ¬ P j := by
  induction n using Nat.strongRecOn with
  | _ n ih =>
    by_cases e : ∃ j, j < n ∧ P j
    · obtain ⟨j, hj, hP⟩ := e
      obtain ⟨p, h1, h2, h3⟩ := ih j hj hP
      exact ⟨p, h1, by omega, h3⟩
    · exact ⟨n, h, Nat.le_refl _, fun j hj hP => e ⟨j, hj, hP⟩⟩
theorem nx_inj {x : tabE.T} (g : Full x) {u u' : Int} (h : ∃ w, bE x w u) (h' : ∃ w, bE x w u') (e : nx x u = nx x u') : u = u' := by
  obtain ⟨w, hw⟩ := h
  obtain ⟨w', hw'⟩ := h'
  have e : nxt (behO (some x)) u = nxt (behO (some x)) u' := e
  rw [nxt_is g hw, nxt_is g hw'] at e
  subst e
  exact bE_right g hw hw'
theorem iter_cancel {x : tabE.T} (g : Full x) {v : Int} (hv : ∃ w, bE x w v) : ∀ i d, iter (nx x) v i = iter (nx x) v (i + d) → v = iter (nx x) v d
  | 0, d, h => by rw [Nat.zero_add] at h; exact h
  | i + 1, d, h => by
    refine iter_cancel g hv i d (nx_inj g (walk_key g hv i) (walk_key g hv (i + d)) ?_)
    rw [show i + 1 + d = (i + d) + 1 by omega] at h
    exact h
/-- What goes round from a border vertex. -/
theorem walk_is {x : tabE.T} (g : Full x) {v : Int} (hv : ∃ w, bE x w v) : ∃ p, 0 < p ∧ iter (nx x) v p = v ∧ (∀ j, 1 ≤ j → j < p → iter (nx x) v j ≠ v) ∧ walkL (some x) v = (List.range p).map fun j => iter (nx x) v j := by
  have hex : ∃ n, n ≤ 4097 ∧ (1 ≤ n ∧ iter (nx x) v n = v) := by
    apply Classical.byContradiction
    intro h
    have := walk_fin g hv (k := 4097) fun j h1 h2 e => h ⟨j, h2, h1, e⟩
    omega
  obtain ⟨n, hn, h⟩ := hex
  obtain ⟨p, ⟨h1, h2⟩, h3, h4⟩ := exists_least (P := fun n => 1 ≤ n ∧ iter (nx x) v n = v) h
  have hl : ∀ j, 1 ≤ j → j < p → iter (nx x) v j ≠ v := fun j a b e => h4 j b ⟨a, e⟩
  refine ⟨p, h1, h2, hl, ?_⟩
  have := walkF_run (behO (some x)) v h2 hl (p - 1) 0 10000 (by omega) (by omega)
  obtain ⟨w, hw⟩ := hv
  unfold walkL
  rw [if_pos (by rw [(beh_iff g).2 hw]; rfl)]
  have e : walkF (behO (some x)) v 10000 (nxt (behO (some x)) v) = _ := this
  rw [e]
  obtain ⟨q, rfl⟩ : ∃ q, p = q + 1 := ⟨p - 1, by omega⟩
  rw [List.range_succ_eq_map, List.map_cons, List.map_map]
  refine congrArg (v :: ·) ?_
  show (List.range (q + 1 - 1)).map _ = _
  rw [Nat.add_sub_cancel]
  refine List.map_congr_left fun j _ => ?_
  show iter _ v (0 + 1 + j) = iter _ v (j + 1)
  rw [show 0 + 1 + j = j + 1 by omega]
theorem mapr_get {f : Nat → Int} {p i : Nat} (h : i < p) : ((List.range p).map f).getD i 0 = f i := by
  rw [List.getD_eq_getElem?_getD, List.getElem?_map, List.getElem?_range h]; rfl
theorem walk_ok {x : tabE.T} (g : Full x) {v : Int} (hv : ∃ w, bE x w v) : LoopOk x (walkL (some x) v) := by
  obtain ⟨p, h1, h2, h3, e⟩ := walk_is g hv
  rw [e]
  have hlen : ((List.range p).map fun j => iter (nx x) v j).length = p := by rw [List.length_map, List.length_range]
  refine ⟨by rw [hlen]; exact h1, fun i hi => ?_, ?_⟩
  · rw [hlen] at hi ⊢
    rw [mapr_get hi, mapr_get (Nat.mod_lt _ h1)]
    obtain ⟨w, hw⟩ := walk_key g hv i
    have e1 : iter (nx x) v ((i + 1) % p) = nx x (iter (nx x) v i) := by
      by_cases hl : i + 1 < p
      · rw [Nat.mod_eq_of_lt hl]; rfl
      · rw [show i + 1 = p by omega, Nat.mod_self]
        have : iter (nx x) v p = nx x (iter (nx x) v i) := by rw [show p = i + 1 by omega]; rfl
        rw [← this, h2]; rfl
    rw [e1]
    show bE x (nxt (behO (some x)) (iter (nxt (behO (some x))) v i)) _
    rw [nxt_is g hw]; exact hw
  · have key : ∀ i j, i < j → j < p → iter (nx x) v i ≠ iter (nx x) v j := fun i j h4 h5 e => by
      have := iter_cancel g hv i (j - i) (by rw [e]; congr 1; omega)
      exact h3 (j - i) (by omega) (by omega) this.symm
    refine List.Pairwise.map _ (fun i j h => ?_) (List.nodup_range (n := p) |>.imp_of_mem (S := fun i j => i ≠ j ∧ i < p ∧ j < p) fun hi hj hn => ⟨hn, List.mem_range.1 hi, List.mem_range.1 hj⟩)
    obtain ⟨hn, hi, hj⟩ := h
    rcases Nat.lt_or_gt_of_ne hn with hlt | hgt
    · exact key i j hlt hj
    · exact (key j i hgt hi).symm
theorem walk_no {x : tabE.T} (g : Full x) {v : Int} (hv : ¬ ∃ w, bE x w v) : walkL (some x) v = [] := by
  unfold walkL
  rw [if_neg]
  intro h
  cases e : mget i64E (behO (some x)) v with
  | none => rw [e] at h; cases h
  | some w => exact hv ⟨w, (beh_iff g).1 e⟩
theorem mem_getD {L : List Int} {u : Int} (h : u ∈ L) : ∃ i, i < L.length ∧ L.getD i 0 = u := by
  obtain ⟨i, hi, e⟩ := List.mem_iff_getElem.1 h
  exact ⟨i, hi, by rw [List.getD_eq_getElem?_getD, List.getElem?_eq_getElem hi]; exact e⟩
section
variable {x : tabE.T}
theorem LoopOk.bord {L : List Int} (h : LoopOk x L) {u : Int} (hu : u ∈ L) : ∃ w, bE x w u := by
  obtain ⟨i, hi, e⟩ := mem_getD hu
  have := h.cyc i hi
  rw [e] at this
  exact ⟨_, this⟩
theorem LoopOk.next {L : List Int} (h : LoopOk x L) (g : Full x) {u : Int} (hu : u ∈ L) : nx x u ∈ L := by
  obtain ⟨i, hi, e⟩ := mem_getD hu
  have := h.cyc i hi
  rw [e] at this
  show nxt (behO (some x)) u ∈ L
  rw [nxt_is g this]
  exact getD_mem (Nat.mod_lt _ h.ne)
theorem LoopOk.iters {L : List Int} (h : LoopOk x L) (g : Full x) {u : Int} (hu : u ∈ L) : ∀ k, iter (nx x) u k ∈ L
  | 0 => hu
  | k + 1 => h.next g (h.iters g hu k)
/-- Loops that meet one from v hold v. -/
theorem loop_meet (g : Full x) {v : Int} (hv : ∃ w, bE x w v) {L : List Int} (h : LoopOk x L) {u : Int} (h1 : u ∈ walkL (some x) v) (h2 : u ∈ L) : v ∈ L := by
  obtain ⟨p, p1, p2, p3, e⟩ := walk_is g hv
  rw [e] at h1
  obtain ⟨i, hi, rfl⟩ := List.mem_map.1 h1
  have hi := List.mem_range.1 hi
  have := h.iters g h2 (p - i)
  rw [iter_add, show i + (p - i) = p by omega, p2] at this
  exact this
theorem walk_self (g : Full x) {v : Int} (hv : ∃ w, bE x w v) : v ∈ walkL (some x) v := by
  obtain ⟨p, p1, p2, p3, e⟩ := walk_is g hv
  rw [e]
  exact List.mem_map.2 ⟨0, List.mem_range.2 p1, rfl⟩
theorem had_fold (l : List Int) : ∀ (m : ReM) (v : Int), had (l.foldl (fun m u => mset (.int .i64) m u true) m) v = true ↔ had m v = true ∨ v ∈ l := by
  induction l with
  | nil => intro m v; simp
  | cons a r ih =>
    intro m v
    rw [List.foldl_cons, ih]
    by_cases e : a = v
    · subst e
      have : had (mset (.int .i64) m a true) a = true := by
        show (mget (.int .i64) (mset (.int .i64) m a true) a).getD false = true
        rw [mget_same]; rfl
      simp [this]
    · have : had (mset (.int .i64) m a true) v = had m v := by
        show (mget (.int .i64) (mset (.int .i64) m a true) v).getD false = _
        rw [mget_other _ e]; rfl
      rw [this, List.mem_cons]
      constructor
      · rintro (h | h)
        · exact .inl h
        · exact .inr (.inr h)
      · rintro (h | h | h)
        · exact .inl h
        · exact absurd h.symm e
        · exact .inr h
structure Lps (x : tabE.T) (Ls : List (List Int)) (k : Int) : Prop where
  ok : ∀ L ∈ Ls, LoopOk x L
  nd : Ls.flatten.Nodup
  all : ∀ u, 0 ≤ u → u < k → (∃ w, bE x w u) → u ∈ Ls.flatten
theorem lps_all (g : Full x) : ∀ k, Lps x (lpS x k).2 k ∧ ∀ u, had (lpS x k).1 u = true ↔ u ∈ (lpS x k).2.flatten
  | 0 => ⟨⟨fun L h => (by cases h), List.nodup_nil, fun u h1 h2 _ => by omega⟩, fun u => ⟨fun h => (by cases h), fun h => (by cases h)⟩⟩
  | k + 1 => by
    obtain ⟨ih, ihm⟩ := lps_all g k
    cases hh : had (lpS x k).1 k with
    | true =>
      rw [lpS_t hh]
      refine ⟨⟨ih.ok, ih.nd, fun u h1 h2 h3 => ?_⟩, ihm⟩
      by_cases e : u = k
      · rw [e]; exact (ihm k).1 hh
      · exact ih.all u h1 (by omega) h3
    | false =>
      rw [lpS_f hh]
      by_cases hv : ∃ w, bE x w (k : Int)
      · have hw := walk_ok g hv
        rw [if_pos hw.ne]
        have hdis : ∀ u ∈ walkL (some x) k, u ∉ (lpS x k).2.flatten := fun u hu hf => by
          obtain ⟨L, hL, huL⟩ := List.mem_flatten.1 hf
          have := loop_meet g hv (ih.ok L hL) hu huL
          rw [(ihm k).2 (List.mem_flatten.2 ⟨L, hL, this⟩)] at hh
          cases hh
        refine ⟨⟨fun L hL => ?_, ?_, fun u h1 h2 h3 => ?_⟩, fun u => ?_⟩
        · rcases List.mem_append.1 hL with hL | hL
          · exact ih.ok L hL
          · rw [List.mem_singleton] at hL; rw [hL]; exact hw
        · rw [List.flatten_append, List.nodup_append]
          refine ⟨ih.nd, by simpa using hw.nd, fun a ha b hb e => ?_⟩
          have hb : b ∈ walkL (some x) k := by simpa using hb
          subst e
          exact hdis a hb ha
        · rw [List.flatten_append, List.mem_append]
          by_cases e : u = k
          · rw [e]; exact .inr (by simpa using walk_self g hv)
          · exact .inl (ih.all u h1 (by omega) h3)
        · rw [List.flatten_append, List.mem_append, had_fold, ihm u]
          simp
      · rw [walk_no g hv]
        rw [if_neg (by simp)]
        refine ⟨⟨ih.ok, ih.nd, fun u h1 h2 h3 => ?_⟩, ihm⟩
        by_cases e : u = k
        · rw [e] at h3; exact absurd h3 hv
        · exact ih.all u h1 (by omega) h3
theorem loops_lps (g : Full x) : Lps x (loopsR x) x.1.1 := by
  have := (lps_all g x.1.1.toNat).1
  have h0 : 0 ≤ x.1.1 := g.fit.1
  rw [Int.toNat_of_nonneg h0] at this
  exact this
theorem loops_mem (g : Full x) {u : Int} : u ∈ (loopsR x).flatten ↔ ∃ w, bE x w u := by
  have h := loops_lps g
  constructor
  · intro hu
    obtain ⟨L, hL, huL⟩ := List.mem_flatten.1 hu
    exact (h.ok L hL).bord huL
  · rintro ⟨w, hw⟩
    have := bE_in g hw
    exact h.all u this.2.1.1 this.2.1.2 ⟨w, hw⟩
end
end S1

open Go Go.Vm Go.Proofs
namespace S1
set_option maxRecDepth 100000

/-! gypsumref10 -/
theorem next10_vc {fn} (c : Int) (h : 0 ≤ c ∧ c ≤ 100000) : afun ⟨tyL, fn, []⟩ Try.f118 [i64E.av c] (fun r => r = .s (.int .i64 (trn c 1))) := by
  repeat' (conv => whnf
           first | done | refine Need.intro (by first | rfl | omega | (simp only [i64ok] at *; omega)) ?_ | refine Need.intro (Hold.out ?_) ?_ | refine Give.intro fun _ => ?_ | refine Both.intro ?_ ?_ | refine BIf.and ?_ | refine BIf.or ?_ | refine BIf.eqi (fun _ => ?_) (fun _ => ?_) | refine BIf.nei (fun _ => ?_) (fun _ => ?_) | refine BIf.dec (fun _ => ?_) (fun _ => ?_) | refine BIf.nt ?_ | refine BIf.intro (fun _ => ?_) (fun _ => ?_) | refine And.intro rfl ?_ | refine And.intro (HoldEq.out ?_) ?_ | refine And.intro (HoldOb.out ?_) ?_ | exact True.intro | refine HoldEq.out ?_ | refine HoldObs.out ?_ | refine KCheck.intro (by kernel_rfl) ?_ | refine HoldOr.out ?_)
  all_goals try first | refine HoldEq.int ?_ | refine HoldEq.bool ?_ | refine HoldEq.sl ?_ | refine HoldEq.own ?_ | refine HoldEq.ownS ?_ ?_ | refine HoldOb.row ?_ | refine HoldOb.map ?_ | refine HoldOb.gmap ?_ | refine HoldOb.grow ?_ | refine HoldObs.row ?_
  all_goals try simp only [take_one, take_one', set_one, take_all, List.length_singleton, rec_self, Int.toNat_natCast, pair_eta, ETy.dflt, List.getD_cons_zero, List.getD_cons_succ, Int.reduceToNat, Int.reduceAdd, Int.reduceSub, Int.reduceNeg, Nat.reduceAdd, Nat.zero_add] at *
  all_goals try (refine Hold.intro ?_; unfold i64ok; omega)
  all_goals (have e := tm3 h.1; unfold trn; omega)
def next10C : List AV → Option Res := con1 i64E (fun c => some (none, some (0 ≤ c ∧ c ≤ 100000), .s (.int .i64 (trn c 1))))
theorem next10Row : FnRow Try.prog 118 next10C := ⟨con1_ok fun c r h => by cases h; exact fn_by (rulesF (fn := []) (fr := []) trivial trivial) Try.func118 (by kernel_rfl) fun _ h => next10_vc c h, _, Try.func118, by kernel_rfl, by kernel_rfl⟩
theorem prev10_vc {fn} (c : Int) (h : 0 ≤ c ∧ c ≤ 100000) : afun ⟨tyL, fn, []⟩ Try.f119 [i64E.av c] (fun r => r = .s (.int .i64 (trn c 2))) := by
  repeat' (conv => whnf
           first | done | refine Need.intro (by first | rfl | omega | (simp only [i64ok] at *; omega)) ?_ | refine Need.intro (Hold.out ?_) ?_ | refine Give.intro fun _ => ?_ | refine Both.intro ?_ ?_ | refine BIf.and ?_ | refine BIf.or ?_ | refine BIf.eqi (fun _ => ?_) (fun _ => ?_) | refine BIf.nei (fun _ => ?_) (fun _ => ?_) | refine BIf.dec (fun _ => ?_) (fun _ => ?_) | refine BIf.nt ?_ | refine BIf.intro (fun _ => ?_) (fun _ => ?_) | refine And.intro rfl ?_ | refine And.intro (HoldEq.out ?_) ?_ | refine And.intro (HoldOb.out ?_) ?_ | exact True.intro | refine HoldEq.out ?_ | refine HoldObs.out ?_ | refine KCheck.intro (by kernel_rfl) ?_ | refine HoldOr.out ?_)
  all_goals try first | refine HoldEq.int ?_ | refine HoldEq.bool ?_ | refine HoldEq.sl ?_ | refine HoldEq.own ?_ | refine HoldEq.ownS ?_ ?_ | refine HoldOb.row ?_ | refine HoldOb.map ?_ | refine HoldOb.gmap ?_ | refine HoldOb.grow ?_ | refine HoldObs.row ?_
  all_goals try simp only [take_one, take_one', set_one, take_all, List.length_singleton, rec_self, Int.toNat_natCast, pair_eta, ETy.dflt, List.getD_cons_zero, List.getD_cons_succ, Int.reduceToNat, Int.reduceAdd, Int.reduceSub, Int.reduceNeg, Nat.reduceAdd, Nat.zero_add] at *
  all_goals try (refine Hold.intro ?_; unfold i64ok; omega)
  all_goals (have e := tm3 h.1; unfold trn; omega)
def prev10C : List AV → Option Res := con1 i64E (fun c => some (none, some (0 ≤ c ∧ c ≤ 100000), .s (.int .i64 (trn c 2))))
theorem prev10Row : FnRow Try.prog 119 prev10C := ⟨con1_ok fun c r h => by cases h; exact fn_by (rulesF (fn := []) (fr := []) trivial trivial) Try.func119 (by kernel_rfl) fun _ h => prev10_vc c h, _, Try.func119, by kernel_rfl, by kernel_rfl⟩
theorem has_le {x : tabE.T} (g : Good x) {c : Int} (hc : tHas x c = true) : 0 ≤ c ∧ c ≤ 30000 := by
  have := tHas_iff.1 hc
  have h2 : x.1.2.length ≤ 8192 := g.fit.2.2.1
  omega
theorem vertex10_vc {fn} (n : Int) (l : List P3) (c : Int) (x : tabE.T) (h : (n, l) = x.1 ∧ Good x ∧ tHas x c = true) : afun ⟨tyL, fn, []⟩ Try.f54 [soupE.av (n, l), i64E.av c] (fun r => r = .s (.int .i64 (tVert x c))) := by
  obtain ⟨hx, g, hc⟩ := h
  have hl := has_le g hc
  have h1 := tHas_iff.1 hc
  have el : x.1.2 = l := (congrArg Prod.snd hx).symm
  rw [el] at h1
  have hv := tVert_t (x := x) hl.1 (by rw [el]; exact h1.2)
  rw [el] at hv
  have e3 := td3 hl.1
  have m3 := tm3 hl.1
  repeat' (conv => whnf
           first | done | refine Need.intro (by first | rfl | omega | (simp only [i64ok] at *; omega)) ?_ | refine Need.intro (Hold.out ?_) ?_ | refine Give.intro fun _ => ?_ | refine Both.intro ?_ ?_ | refine BIf.and ?_ | refine BIf.or ?_ | refine BIf.eqi (fun _ => ?_) (fun _ => ?_) | refine BIf.nei (fun _ => ?_) (fun _ => ?_) | refine BIf.dec (fun _ => ?_) (fun _ => ?_) | refine BIf.nt ?_ | refine BIf.intro (fun _ => ?_) (fun _ => ?_) | refine And.intro rfl ?_ | refine And.intro (HoldEq.out ?_) ?_ | refine And.intro (HoldOb.out ?_) ?_ | exact True.intro | refine HoldEq.out ?_ | refine HoldObs.out ?_ | refine KCheck.intro (by kernel_rfl) ?_ | refine HoldOr.out ?_)
  all_goals try first | refine HoldEq.int ?_ | refine HoldEq.bool ?_ | refine HoldEq.sl ?_ | refine HoldEq.own ?_ | refine HoldEq.ownS ?_ ?_ | refine HoldOb.row ?_ | refine HoldOb.map ?_ | refine HoldOb.gmap ?_ | refine HoldOb.grow ?_ | refine HoldObs.row ?_
  all_goals try simp only [take_one, take_one', set_one, take_all, List.length_singleton, rec_self, Int.toNat_natCast, pair_eta, ETy.dflt, List.getD_cons_zero, List.getD_cons_succ, Int.reduceToNat, Int.reduceAdd, Int.reduceSub, Int.reduceNeg, Nat.reduceAdd, Nat.zero_add] at *
  all_goals try rw [e3]
  all_goals try rw [m3]
  all_goals try (refine Hold.intro ?_; unfold i64ok; omega)
  all_goals try (refine Hold.intro ?_; omega)
  rw [hv]
  exact p3_get _ _ (by omega) (by omega)
def vertex10C (x : tabE.T) : List AV → Option Res := con2 soupE i64E (fun s c => some (none, some (s = x.1 ∧ Good x ∧ tHas x c = true), .s (.int .i64 (tVert x c))))
theorem vertex10Row (x : tabE.T) : FnRow Try.prog 54 (vertex10C x) := ⟨con2_ok fun s c r h => by
  cases h; exact fn_by (rulesF (fn := []) (fr := []) trivial trivial) Try.func54 (by kernel_rfl) fun _ h => vertex10_vc s.1 s.2 c x h, _, Try.func54, by kernel_rfl, by kernel_rfl⟩
theorem edge10_vc (n : Int) (l : List P3) (c : Int) (x : tabE.T) (h : (n, l) = x.1 ∧ Good x ∧ tHas x c = true) : afun ⟨tyL, [(118, next10C), (119, prev10C), (54, vertex10C x)], []⟩ Try.f88 [soupE.av (n, l), i64E.av c] (fun r => r = (ETy.arr2).av (tEdge x c)) := by
  obtain ⟨hx, g, hc⟩ := h
  have hl := has_le g hc
  have hnp := hasNP hc
  rw [tNext_t hc, tPrev_t hc] at hnp
  repeat' (conv => whnf
           first | done | refine Need.intro (by first | rfl | omega | (simp only [i64ok] at *; omega)) ?_ | refine Need.intro (Hold.out ?_) ?_ | refine Give.intro fun _ => ?_ | refine Both.intro ?_ ?_ | refine BIf.and ?_ | refine BIf.or ?_ | refine BIf.eqi (fun _ => ?_) (fun _ => ?_) | refine BIf.nei (fun _ => ?_) (fun _ => ?_) | refine BIf.dec (fun _ => ?_) (fun _ => ?_) | refine BIf.nt ?_ | refine BIf.intro (fun _ => ?_) (fun _ => ?_) | refine And.intro rfl ?_ | refine And.intro (HoldEq.out ?_) ?_ | refine And.intro (HoldOb.out ?_) ?_ | exact True.intro | refine HoldEq.out ?_ | refine HoldObs.out ?_ | refine KCheck.intro (by kernel_rfl) ?_ | refine HoldOr.out ?_)
  all_goals try first | refine HoldEq.int ?_ | refine HoldEq.bool ?_ | refine HoldEq.sl ?_ | refine HoldEq.own ?_ | refine HoldEq.ownS ?_ ?_ | refine HoldOb.row ?_ | refine HoldOb.map ?_ | refine HoldOb.gmap ?_ | refine HoldOb.grow ?_ | refine HoldObs.row ?_
  all_goals try simp only [take_one, take_one', set_one, take_all, List.length_singleton, rec_self, Int.toNat_natCast, pair_eta, ETy.dflt, List.getD_cons_zero, List.getD_cons_succ, Int.reduceToNat, Int.reduceAdd, Int.reduceSub, Int.reduceNeg, Nat.reduceAdd, Nat.zero_add] at *
  all_goals try exact Hold.intro ⟨hl.1, Int.le_trans hl.2 (by decide)⟩
  · exact Hold.intro ⟨hx, g, hnp.1⟩
  · exact Hold.intro ⟨hx, g, hnp.2⟩
  all_goals (unfold tEdge; rw [tNext_t hc, tPrev_t hc]; first | rfl | exact HoldEq.intro rfl)
def edge10C (x : tabE.T) : List AV → Option Res := con2 soupE i64E (fun s c => some (none, some (s = x.1 ∧ Good x ∧ tHas x c = true), (ETy.arr2).av (tEdge x c)))
theorem edge10Row (x : tabE.T) : FnRow Try.prog 88 (edge10C x) := ⟨con2_ok fun s c r h => by
  cases h; exact fn_by (rulesF (fn := [(118, next10C), (119, prev10C), (54, vertex10C x)]) (fr := []) ⟨next10Row, prev10Row, (vertex10Row x), trivial⟩ trivial) Try.func88 (by kernel_rfl) fun _ h => edge10_vc s.1 s.2 c x h, _, Try.func88, by kernel_rfl, by kernel_rfl⟩
def loop10 (x : tabE.T) (l : List P3) (P : Int → Prop) : Spec Nat where
  inv c := c ≤ 3 * l.length ∧ ∀ d : Nat, d < c → ¬ P d
  live c := [(5, .s (.int .i64 c))]
  keep := [1, 2, 3]
  heap _ := []
  keepH := [0, 1]
  mu c := 3 * l.length - c
theorem facing10_vc (n : Int) (l : List P3) (e : Int × Int) (x : tabE.T) (h : (n, l) = x.1 ∧ Full x) : afun ⟨tyL, [(88, edge10C x)], []⟩ Try.f52 [soupE.av (n, l), (ETy.arr2).av e] (fun r => r = .s (.int .i64 (tFacing x e))) := by
  repeat' (conv => whnf
           first | done | refine Need.intro (by first | rfl | omega | (simp only [i64ok] at *; omega)) ?_ | refine Need.intro (Hold.out ?_) ?_ | refine Give.intro fun _ => ?_ | refine Both.intro ?_ ?_ | refine BIf.and ?_ | refine BIf.or ?_ | refine BIf.eqi (fun _ => ?_) (fun _ => ?_) | refine BIf.nei (fun _ => ?_) (fun _ => ?_) | refine BIf.dec (fun _ => ?_) (fun _ => ?_) | refine BIf.nt ?_ | refine BIf.intro (fun _ => ?_) (fun _ => ?_) | ((first | (with_reducible show Or (∃ n, rounds (acode _ (Code.seq (Code.region 2 _ _) _)) _ n _) _) | (with_reducible show Or (∃ n, rounds (acode _ (Code.seq (Code.seq (Code.region 2 _ _) _) _)) _ n _) _) | (with_reducible show Or (∃ n, rounds (acode _ (Code.seq (Code.seq (Code.seq (Code.region 2 _ _) _) _) _)) _ n _) _) | (with_reducible show Or (∃ n, rounds (acode _ (Code.seq (Code.seq (Code.seq (Code.seq (Code.region 2 _ _) _) _) _) _)) _ n _) _) | (with_reducible show Or (∃ n, rounds (acode _ (Code.block _ (Code.seq (Code.region 2 _ _) _))) _ n _) _) | (with_reducible show Or (∃ n, rounds (acode _ (Code.block _ (Code.seq (Code.seq (Code.region 2 _ _) _) _))) _ n _) _) | (with_reducible show Or (∃ n, rounds (acode _ (Code.block _ (Code.seq (Code.seq (Code.seq (Code.region 2 _ _) _) _) _))) _ n _) _) | (with_reducible show Or (∃ n, rounds (acode _ (Code.block _ (Code.seq (Code.seq (Code.seq (Code.seq (Code.region 2 _ _) _) _) _) _))) _ n _) _)); refine Or.inr (Exists.intro (Nat) (Exists.intro (loop10 x l (fun d => tEdge x d = e)) (And.intro (Exists.intro (0) (And.intro (Hold.out ?_) (And.intro ?_ (And.intro ?_ rfl)))) (fun c hc => ?_))))) | ((with_reducible show (∃ y, And (Spec.inv (loop10 _ _ _) y) _)); refine Exists.intro (c + 1) (And.intro (Hold.out ?_) (And.intro (And.intro ?_ (And.intro ?_ rfl)) (Hold.out ?_)))) | refine And.intro rfl ?_ | refine And.intro (HoldEq.out ?_) ?_ | refine And.intro (HoldOb.out ?_) ?_ | exact True.intro | refine HoldEq.out ?_ | refine HoldObs.out ?_ | refine KCheck.intro (by kernel_rfl) ?_ | refine HoldOr.out ?_)
  all_goals try first | refine HoldEq.int ?_ | refine HoldEq.bool ?_ | refine HoldEq.sl ?_ | refine HoldEq.own ?_ | refine HoldEq.ownS ?_ ?_ | refine HoldOb.row ?_ | refine HoldOb.map ?_ | refine HoldOb.gmap ?_ | refine HoldOb.grow ?_ | refine HoldObs.row ?_
  all_goals try simp only [take_one, take_one', set_one, take_all, List.length_singleton, rec_self, Int.toNat_natCast, pair_eta, ETy.dflt, List.getD_cons_zero, List.getD_cons_succ, Int.reduceToNat, Int.reduceAdd, Int.reduceSub, Int.reduceNeg, Nat.reduceAdd, Nat.zero_add, loop10] at *
  all_goals have el : x.1.2.length = l.length := (congrArg (fun s => s.2.length) h.1).symm
  all_goals try have hlt : (c : Int) < 3 * l.length := by assumption
  all_goals try have hh : tHas x (c : Int) = true := tHas_iff.2 ⟨by omega, by omega⟩
  all_goals try (refine Hold.intro ?_; omega)
  · exact Hold.intro ⟨Nat.zero_le _, fun d hd => by omega⟩
  · exact Hold.intro ⟨h.1, h.2.toGood, hh⟩
  · have e1 : tEdge x c = e := Prod.ext (by assumption) (by assumption)
    rw [← e1]; exact (h.2.facing hh).symm
  · refine Hold.intro ⟨by omega, fun d hd => ?_⟩
    by_cases e1 : d = c
    · subst e1; exact fun e2 => absurd (congrArg Prod.snd e2) (by assumption)
    · exact hc.2 d (by omega)
  · refine Hold.intro ⟨by omega, fun d hd => ?_⟩
    by_cases e1 : d = c
    · subst e1; exact fun e2 => absurd (congrArg Prod.fst e2) (by assumption)
    · exact hc.2 d (by omega)
  · have hge : ¬ (c : Int) < 3 * l.length := by assumption
    unfold tFacing
    cases e1 : mget .arr2 x.2.1 e with
    | none => rfl
    | some d =>
      obtain ⟨k1, k2⟩ := h.2.map _ _ e1
      have k3 := tHas_iff.1 k1
      have := hc.2 d.toNat (by omega)
      rw [Int.toNat_of_nonneg k3.1] at this
      exact absurd k2 this
def facing10C (x : tabE.T) : List AV → Option Res := con2 soupE .arr2 (fun s e => some (none, some (s = x.1 ∧ Full x), .s (.int .i64 (tFacing x e))))
theorem facing10Row (x : tabE.T) : FnRow Try.prog 52 (facing10C x) := ⟨con2_ok fun s e r h => by
  cases h; exact fn_by (rulesF (fn := [(88, edge10C x)]) (fr := []) ⟨(edge10Row x), trivial⟩ trivial) Try.func52 (by kernel_rfl) fun _ h => facing10_vc s.1 s.2 e x h, _, Try.func52, by kernel_rfl, by kernel_rfl⟩
theorem opp10_vc (n : Int) (l : List P3) (c : Int) (x : tabE.T) (h : (n, l) = x.1 ∧ Full x ∧ tHas x c = true) : afun ⟨tyL, [(88, edge10C x), (52, facing10C x)], []⟩ Try.f57 [soupE.av (n, l), i64E.av c] (fun r => r = .s (.int .i64 (tOpp x c))) := by
  repeat' (conv => whnf
           first | done | refine Need.intro (by first | rfl | omega | (simp only [i64ok] at *; omega)) ?_ | refine Need.intro (Hold.out ?_) ?_ | refine Give.intro fun _ => ?_ | refine Both.intro ?_ ?_ | refine BIf.and ?_ | refine BIf.or ?_ | refine BIf.eqi (fun _ => ?_) (fun _ => ?_) | refine BIf.nei (fun _ => ?_) (fun _ => ?_) | refine BIf.dec (fun _ => ?_) (fun _ => ?_) | refine BIf.nt ?_ | refine BIf.intro (fun _ => ?_) (fun _ => ?_) | refine And.intro rfl ?_ | refine And.intro (HoldEq.out ?_) ?_ | refine And.intro (HoldOb.out ?_) ?_ | exact True.intro | refine HoldEq.out ?_ | refine HoldObs.out ?_ | refine KCheck.intro (by kernel_rfl) ?_ | refine HoldOr.out ?_)
  all_goals try first | refine HoldEq.int ?_ | refine HoldEq.bool ?_ | refine HoldEq.sl ?_ | refine HoldEq.own ?_ | refine HoldEq.ownS ?_ ?_ | refine HoldOb.row ?_ | refine HoldOb.map ?_ | refine HoldOb.gmap ?_ | refine HoldOb.grow ?_ | refine HoldObs.row ?_
  all_goals try simp only [take_one, take_one', set_one, take_all, List.length_singleton, rec_self, Int.toNat_natCast, pair_eta, ETy.dflt, List.getD_cons_zero, List.getD_cons_succ, Int.reduceToNat, Int.reduceAdd, Int.reduceSub, Int.reduceNeg, Nat.reduceAdd, Nat.zero_add] at *
  · exact Hold.intro ⟨h.1, h.2.1.toGood, h.2.2⟩
  · exact Hold.intro ⟨h.1, h.2.1⟩
  all_goals rfl
def opp10C (x : tabE.T) : List AV → Option Res := con2 soupE i64E (fun s c => some (none, some (s = x.1 ∧ Full x ∧ tHas x c = true), .s (.int .i64 (tOpp x c))))
theorem opp10Row (x : tabE.T) : FnRow Try.prog 57 (opp10C x) := ⟨con2_ok fun s c r h => by
  cases h; exact fn_by (rulesF (fn := [(88, edge10C x), (52, facing10C x)]) (fr := []) ⟨(edge10Row x), (facing10Row x), trivial⟩ trivial) Try.func57 (by kernel_rfl) fun _ h => opp10_vc s.1 s.2 c x h, _, Try.func57, by kernel_rfl, by kernel_rfl⟩
/-- The least corner at a vertex. -/
def cor10 (x : tabE.T) (v : Int) : Nat → Nat → Int
  | 0, _ => -1
  | m + 1, c => if tVert x c = v then (c : Int) else cor10 x v m (c + 1)
def cor10R (x : tabE.T) (v : Int) : Int := cor10 x v (3 * x.1.2.length) 0
theorem cor10_at {x : tabE.T} {v : Int} : ∀ m c, (∃ d : Nat, c ≤ d ∧ d < c + m ∧ tVert x d = v) → ∃ d : Nat, c ≤ d ∧ d < c + m ∧ tVert x d = v ∧ cor10 x v m c = d
  | 0, c, ⟨d, h1, h2, _⟩ => by omega
  | m + 1, c, ⟨d, h1, h2, h3⟩ => by
    unfold cor10
    by_cases e : tVert x c = v
    · rw [if_pos e]; exact ⟨c, Nat.le_refl _, by omega, e, rfl⟩
    · rw [if_neg e]
      obtain ⟨d', k1, k2, k3, k4⟩ := cor10_at m (c + 1) ⟨d, by
        by_cases ed : d = c
        · subst ed; exact absurd h3 e
        · omega, by omega, h3⟩
      exact ⟨d', by omega, by omega, k3, k4⟩
theorem cor10_is {x : tabE.T} (g : Full x) {v : Int} (h0 : 0 ≤ v) (h1 : v < x.1.1) : tHas x (cor10R x v) = true ∧ tVert x (cor10R x v) = v := by
  obtain ⟨k1, k2⟩ := g.vtx v h0 h1
  have k3 := tHas_iff.1 k1
  obtain ⟨d, d1, d2, d3, d4⟩ := cor10_at (x := x) (v := v) (3 * x.1.2.length) 0 ⟨(tCorner x v).toNat, Nat.zero_le _, by omega, by rw [Int.toNat_of_nonneg k3.1]; exact k2⟩
  unfold cor10R
  rw [d4]
  exact ⟨tHas_iff.2 ⟨by omega, by omega⟩, d3⟩
def loop10c (x : tabE.T) (v : Int) : Spec Nat where
  inv c := c ≤ 3 * x.1.2.length ∧ cor10R x v = cor10 x v (3 * x.1.2.length - c) c
  live c := [(5, .s (.int .i64 c))]
  keep := [1, 2, 3]
  heap _ := []
  keepH := [0, 1]
  mu c := 3 * x.1.2.length - c
theorem corner10_vc (n : Int) (l : List P3) (v : Int) (x : tabE.T) (h : (n, l) = x.1 ∧ Full x) : afun ⟨tyL, [(54, vertex10C x)], []⟩ Try.f56 [soupE.av (n, l), i64E.av v] (fun r => r = .s (.int .i64 (cor10R x v))) := by
  repeat' (conv => whnf
           first | done | refine Need.intro (by first | rfl | omega | (simp only [i64ok] at *; omega)) ?_ | refine Need.intro (Hold.out ?_) ?_ | refine Give.intro fun _ => ?_ | refine Both.intro ?_ ?_ | refine BIf.and ?_ | refine BIf.or ?_ | refine BIf.eqi (fun _ => ?_) (fun _ => ?_) | refine BIf.nei (fun _ => ?_) (fun _ => ?_) | refine BIf.dec (fun _ => ?_) (fun _ => ?_) | refine BIf.nt ?_ | refine BIf.intro (fun _ => ?_) (fun _ => ?_) | ((first | (with_reducible show Or (∃ n, rounds (acode _ (Code.seq (Code.region 2 _ _) _)) _ n _) _) | (with_reducible show Or (∃ n, rounds (acode _ (Code.seq (Code.seq (Code.region 2 _ _) _) _)) _ n _) _) | (with_reducible show Or (∃ n, rounds (acode _ (Code.seq (Code.seq (Code.seq (Code.region 2 _ _) _) _) _)) _ n _) _) | (with_reducible show Or (∃ n, rounds (acode _ (Code.seq (Code.seq (Code.seq (Code.seq (Code.region 2 _ _) _) _) _) _)) _ n _) _) | (with_reducible show Or (∃ n, rounds (acode _ (Code.block _ (Code.seq (Code.region 2 _ _) _))) _ n _) _) | (with_reducible show Or (∃ n, rounds (acode _ (Code.block _ (Code.seq (Code.seq (Code.region 2 _ _) _) _))) _ n _) _) | (with_reducible show Or (∃ n, rounds (acode _ (Code.block _ (Code.seq (Code.seq (Code.seq (Code.region 2 _ _) _) _) _))) _ n _) _) | (with_reducible show Or (∃ n, rounds (acode _ (Code.block _ (Code.seq (Code.seq (Code.seq (Code.seq (Code.region 2 _ _) _) _) _) _))) _ n _) _)); refine Or.inr (Exists.intro (Nat) (Exists.intro (loop10c x v) (And.intro (Exists.intro (0) (And.intro (Hold.out ?_) (And.intro ?_ (And.intro ?_ rfl)))) (fun c hc => ?_))))) | ((with_reducible show (∃ y, And (Spec.inv (loop10c _ _) y) _)); refine Exists.intro (c + 1) (And.intro (Hold.out ?_) (And.intro (And.intro ?_ (And.intro ?_ rfl)) (Hold.out ?_)))) | refine And.intro rfl ?_ | refine And.intro (HoldEq.out ?_) ?_ | refine And.intro (HoldOb.out ?_) ?_ | exact True.intro | refine HoldEq.out ?_ | refine HoldObs.out ?_ | refine KCheck.intro (by kernel_rfl) ?_ | refine HoldOr.out ?_)
  all_goals try first | refine HoldEq.int ?_ | refine HoldEq.bool ?_ | refine HoldEq.sl ?_ | refine HoldEq.own ?_ | refine HoldEq.ownS ?_ ?_ | refine HoldOb.row ?_ | refine HoldOb.map ?_ | refine HoldOb.gmap ?_ | refine HoldOb.grow ?_ | refine HoldObs.row ?_
  all_goals try simp only [take_one, take_one', set_one, take_all, List.length_singleton, rec_self, Int.toNat_natCast, pair_eta, ETy.dflt, List.getD_cons_zero, List.getD_cons_succ, Int.reduceToNat, Int.reduceAdd, Int.reduceSub, Int.reduceNeg, Nat.reduceAdd, Nat.zero_add, loop10c] at *
  all_goals have el : x.1.2.length = l.length := (congrArg (fun s => s.2.length) h.1).symm
  all_goals try have hlt : (c : Int) < 3 * l.length := by assumption
  all_goals try have hh : tHas x (c : Int) = true := tHas_iff.2 ⟨by omega, by omega⟩
  all_goals try (refine Hold.intro ?_; omega)
  all_goals try (have e2 := hc.2; rw [show 3 * x.1.2.length - c = (3 * x.1.2.length - (c + 1)) + 1 by omega, cor10] at e2)
  · exact Hold.intro ⟨Nat.zero_le _, rfl⟩
  · exact Hold.intro ⟨h.1, h.2.toGood, hh⟩
  · rw [if_pos (by assumption)] at e2; exact e2.symm
  · rw [if_neg (by assumption)] at e2; exact Hold.intro ⟨by omega, e2⟩
  · rw [hc.2, show 3 * x.1.2.length - c = 0 by omega]; rfl
def corner10C (x : tabE.T) : List AV → Option Res := con2 soupE i64E (fun s v => some (none, some (s = x.1 ∧ Full x), .s (.int .i64 (cor10R x v))))
theorem corner10Row (x : tabE.T) : FnRow Try.prog 56 (corner10C x) := ⟨con2_ok fun s v r h => by
  cases h; exact fn_by (rulesF (fn := [(54, vertex10C x)]) (fr := []) ⟨(vertex10Row x), trivial⟩ trivial) Try.func56 (by kernel_rfl) fun _ h => corner10_vc s.1 s.2 v x h, _, Try.func56, by kernel_rfl, by kernel_rfl⟩
def loop10i (x : tabE.T) (v : Int) : Spec Nat where
  inv c := c ≤ 3 * x.1.2.length ∧ ∀ d : Nat, d < c → ((tEdge x d).1 = v ∨ (tEdge x d).2 = v) → ¬ tOpp x d < 0
  live c := [(5, .s (.int .i64 c))]
  keep := [1, 2]
  heap _ := []
  keepH := [0]
  mu c := 3 * x.1.2.length - c
theorem inner_no {x : tabE.T} (g : Full x) {v c : Int} (hc : tHas x c = true) (ho : tOpp x c < 0) (he : (tEdge x c).1 = v ∨ (tEdge x c).2 = v) : innerR x v = false := by
  rw [← Bool.not_eq_true, inner_iff g]
  rintro ⟨_, h⟩
  rcases he with e | e
  · exact h (bE_next g (u := (tEdge x c).2) ⟨c, hc, ho, Prod.ext e rfl⟩)
  · exact h ⟨(tEdge x c).1, c, hc, ho, Prod.ext rfl e⟩
theorem inner10_vc (n : Int) (l : List P3) (v : Int) (x : tabE.T) (h : (n, l) = x.1 ∧ Full x ∧ 0 ≤ v ∧ v < x.1.1) : afun ⟨tyL, [(88, edge10C x), (57, opp10C x)], []⟩ Try.f53 [soupE.av (n, l), i64E.av v] (fun r => r = .s (.bool (innerR x v))) := by
  repeat' (conv => whnf
           first | done | refine Need.intro (by first | rfl | omega | (simp only [i64ok] at *; omega)) ?_ | refine Need.intro (Hold.out ?_) ?_ | refine Give.intro fun _ => ?_ | refine Both.intro ?_ ?_ | refine BIf.and ?_ | refine BIf.or ?_ | refine BIf.eqi (fun _ => ?_) (fun _ => ?_) | refine BIf.nei (fun _ => ?_) (fun _ => ?_) | refine BIf.dec (fun _ => ?_) (fun _ => ?_) | refine BIf.nt ?_ | refine BIf.intro (fun _ => ?_) (fun _ => ?_) | ((first | (with_reducible show Or (∃ n, rounds (acode _ (Code.seq (Code.region 2 _ _) _)) _ n _) _) | (with_reducible show Or (∃ n, rounds (acode _ (Code.seq (Code.seq (Code.region 2 _ _) _) _)) _ n _) _) | (with_reducible show Or (∃ n, rounds (acode _ (Code.seq (Code.seq (Code.seq (Code.region 2 _ _) _) _) _)) _ n _) _) | (with_reducible show Or (∃ n, rounds (acode _ (Code.seq (Code.seq (Code.seq (Code.seq (Code.region 2 _ _) _) _) _) _)) _ n _) _) | (with_reducible show Or (∃ n, rounds (acode _ (Code.block _ (Code.seq (Code.region 2 _ _) _))) _ n _) _) | (with_reducible show Or (∃ n, rounds (acode _ (Code.block _ (Code.seq (Code.seq (Code.region 2 _ _) _) _))) _ n _) _) | (with_reducible show Or (∃ n, rounds (acode _ (Code.block _ (Code.seq (Code.seq (Code.seq (Code.region 2 _ _) _) _) _))) _ n _) _) | (with_reducible show Or (∃ n, rounds (acode _ (Code.block _ (Code.seq (Code.seq (Code.seq (Code.seq (Code.region 2 _ _) _) _) _) _))) _ n _) _)); refine Or.inr (Exists.intro (Nat) (Exists.intro (loop10i x v) (And.intro (Exists.intro (0) (And.intro (Hold.out ?_) (And.intro ?_ (And.intro ?_ rfl)))) (fun c hc => ?_))))) | ((with_reducible show (∃ y, And (Spec.inv (loop10i _ _) y) _)); refine Exists.intro (c + 1) (And.intro (Hold.out ?_) (And.intro (And.intro ?_ (And.intro ?_ rfl)) (Hold.out ?_)))) | refine And.intro rfl ?_ | refine And.intro (HoldEq.out ?_) ?_ | refine And.intro (HoldOb.out ?_) ?_ | exact True.intro | refine HoldEq.out ?_ | refine HoldObs.out ?_ | refine KCheck.intro (by kernel_rfl) ?_ | refine HoldOr.out ?_)
  all_goals try first | refine HoldEq.int ?_ | refine HoldEq.bool ?_ | refine HoldEq.sl ?_ | refine HoldEq.own ?_ | refine HoldEq.ownS ?_ ?_ | refine HoldOb.row ?_ | refine HoldOb.map ?_ | refine HoldOb.gmap ?_ | refine HoldOb.grow ?_ | refine HoldObs.row ?_
  all_goals try simp only [take_one, take_one', set_one, take_all, List.length_singleton, rec_self, Int.toNat_natCast, pair_eta, ETy.dflt, List.getD_cons_zero, List.getD_cons_succ, Int.reduceToNat, Int.reduceAdd, Int.reduceSub, Int.reduceNeg, Nat.reduceAdd, Nat.zero_add, loop10i] at *
  all_goals have el : x.1.2.length = l.length := (congrArg (fun s => s.2.length) h.1).symm
  all_goals try have hlt : (c : Int) < 3 * l.length := by assumption
  all_goals try have hh : tHas x (c : Int) = true := tHas_iff.2 ⟨by omega, by omega⟩
  all_goals try (refine Hold.intro ?_; omega)
  all_goals try exact Hold.intro ⟨h.1, h.2.1.toGood, hh⟩
  all_goals try exact Hold.intro ⟨h.1, h.2.1, hh⟩
  · exact Hold.intro ⟨Nat.zero_le _, fun d hd => by omega⟩
  · exact (inner_no h.2.1 hh (by assumption) (.inl (by assumption))).symm
  · refine Hold.intro ⟨by omega, fun d hd he => ?_⟩
    by_cases e1 : d = c
    · subst e1; assumption
    · exact hc.2 d (by omega) he
  · exact (inner_no h.2.1 hh (by assumption) (.inr (by assumption))).symm
  · refine Hold.intro ⟨by omega, fun d hd he => ?_⟩
    by_cases e1 : d = c
    · subst e1; assumption
    · exact hc.2 d (by omega) he
  · refine Hold.intro ⟨by omega, fun d hd he => ?_⟩
    by_cases e1 : d = c
    · subst e1; rcases he with e | e
      · exact absurd e (by assumption)
      · exact absurd e (by assumption)
    · exact hc.2 d (by omega) he
  · symm
    refine (inner_iff h.2.1).2 ⟨h.2.2, fun ⟨w, d, d1, d2, d3⟩ => ?_⟩
    have k := tHas_iff.1 d1
    have hge : ¬ (c : Int) < 3 * l.length := by assumption
    have := hc.2 d.toNat (by omega)
    rw [Int.toNat_of_nonneg k.1] at this
    exact this (.inr (congrArg Prod.snd d3)) d2
def inner10C (x : tabE.T) : List AV → Option Res := con2 soupE i64E (fun s v => some (none, some (s = x.1 ∧ Full x ∧ 0 ≤ v ∧ v < x.1.1), .s (.bool (innerR x v))))
theorem inner10Row (x : tabE.T) : FnRow Try.prog 53 (inner10C x) := ⟨con2_ok fun s v r h => by
  cases h; exact fn_by (rulesF (fn := [(88, edge10C x), (57, opp10C x)]) (fr := []) ⟨(edge10Row x), (opp10Row x), trivial⟩ trivial) Try.func53 (by kernel_rfl) fun _ h => inner10_vc s.1 s.2 v x h, _, Try.func53, by kernel_rfl, by kernel_rfl⟩
end S1

open Go Go.Vm Go.Proofs
namespace S1
set_option maxRecDepth 100000

/-! what is filled -/
/-- How many vertices. -/
abbrev vN (x : tabE.T) : Int := x.1.1
theorem bE_inN {x : tabE.T} (g : Full x) {w u : Int} (h : bE x w u) : (0 ≤ w ∧ w < vN x) ∧ (0 ≤ u ∧ u < vN x) ∧ w ≠ u := bE_in g h
theorem fitN {x : tabE.T} (g : Full x) : 0 ≤ vN x ∧ vN x ≤ 4096 := ⟨g.fit.1, g.fit.2.1⟩
def starT (L : List Int) (z : Int) (m : Nat) : List P3 := (List.range m).map fun i => (L.getD i 0, L.getD ((i + 1) % L.length) 0, z)
def fillS (n : Int) (Ls : List (List Int)) (k : Nat) : List P3 := (List.range k).flatMap fun (j : Nat) => starT (Ls.getD j []) (n + (j : Int)) (Ls.getD j []).length
theorem fillS_succ (n : Int) (Ls : List (List Int)) (k : Nat) : fillS n Ls (k + 1) = fillS n Ls k ++ starT (Ls.getD k []) (n + (k : Int)) (Ls.getD k []).length := by
  unfold fillS; rw [List.range_succ, List.flatMap_append]; simp
theorem starT_succ (L : List Int) (z : Int) (m : Nat) : starT L z (m + 1) = starT L z m ++ [(L.getD m 0, L.getD ((m + 1) % L.length) 0, z)] := by
  unfold starT; rw [List.range_succ, List.map_append]; rfl
theorem range_getD {α : Type} (d : α) (L : List α) : (List.range L.length).map (fun i => L.getD i d) = L := by
  apply List.ext_getElem
  · rw [List.length_map, List.length_range]
  · intro i h1 h2
    rw [List.getElem_map, List.getElem_range, List.getD_eq_getElem?_getD, List.getElem?_eq_getElem h2]; rfl
theorem starT_fst (L : List Int) (z : Int) : (starT L z L.length).map (·.1) = L := by
  unfold starT
  rw [List.map_map]
  exact range_getD 0 L
theorem fillS_fst (n : Int) (Ls : List (List Int)) : (fillS n Ls Ls.length).map (·.1) = Ls.flatten := by
  unfold fillS
  rw [List.map_flatMap]
  have : ∀ k, (List.range k).flatMap (fun j => (starT (Ls.getD j []) (n + (j : Int)) (Ls.getD j []).length).map (·.1)) = ((List.range k).map fun j => Ls.getD j []).flatten := fun k => by
    rw [← List.flatMap_def]
    congr 1
    funext j
    exact starT_fst _ _
  rw [this, range_getD]
theorem fillS_mem {n : Int} {Ls : List (List Int)} {k : Nat} {t : P3} : t ∈ fillS n Ls k ↔ ∃ j i : Nat, j < k ∧ i < (Ls.getD j []).length ∧ t = ((Ls.getD j []).getD i 0, (Ls.getD j []).getD ((i + 1) % (Ls.getD j []).length) 0, n + (j : Int)) := by
  unfold fillS starT
  rw [List.mem_flatMap]
  constructor
  · rintro ⟨j, hj, ht⟩
    obtain ⟨i, hi, rfl⟩ := List.mem_map.1 ht
    exact ⟨j, i, List.mem_range.1 hj, List.mem_range.1 hi, rfl⟩
  · rintro ⟨j, i, hj, hi, rfl⟩
    exact ⟨j, List.mem_range.2 hj, List.mem_map.2 ⟨i, List.mem_range.2 hi, rfl⟩⟩
theorem getDn_mem {Ls : List (List Int)} {j : Nat} (h : j < Ls.length) : Ls.getD j [] ∈ Ls := by
  rw [List.getD_eq_getElem?_getD, List.getElem?_eq_getElem h]; exact List.getElem_mem h
theorem tg_mem {l : List P3} {i : Nat} (h : i < l.length) : tg l i ∈ l := by
  unfold tg; rw [List.getD_eq_getElem?_getD, List.getElem?_eq_getElem h]; exact List.getElem_mem h
theorem mem_tg {l : List P3} {t : P3} (h : t ∈ l) : ∃ i, i < l.length ∧ tg l i = t := by
  obtain ⟨i, hi, e⟩ := List.mem_iff_getElem.1 h
  exact ⟨i, hi, by unfold tg; rw [List.getD_eq_getElem?_getD, List.getElem?_eq_getElem hi]; exact e⟩
theorem tgA1 {l S : List P3} {i : Nat} (h : i < l.length) : tg (l ++ S) i = tg l i := by
  unfold tg; rw [List.getD_eq_getElem?_getD, List.getD_eq_getElem?_getD, List.getElem?_append_left h]
theorem tgA2 {l S : List P3} {i : Nat} (h : l.length ≤ i) : tg (l ++ S) i = tg S (i - l.length) := by
  unfold tg; rw [List.getD_eq_getElem?_getD, List.getD_eq_getElem?_getD, List.getElem?_append_right h]
theorem eE_mem {l : List P3} {a b : Int} : eE l a b ↔ ∃ t ∈ l, dE t a b := by
  constructor
  · rintro ⟨i, hi, h⟩; exact ⟨_, tg_mem hi, h⟩
  · rintro ⟨t, ht, h⟩
    obtain ⟨i, hi, e⟩ := mem_tg ht
    exact ⟨i, hi, by rw [e]; exact h⟩
theorem eE_app {l S : List P3} {a b : Int} : eE (l ++ S) a b ↔ eE l a b ∨ eE S a b := by
  simp only [eE_mem, List.mem_append]
  constructor
  · rintro ⟨t, ht | ht, h⟩
    · exact .inl ⟨t, ht, h⟩
    · exact .inr ⟨t, ht, h⟩
  · rintro (⟨t, ht, h⟩ | ⟨t, ht, h⟩)
    · exact ⟨t, .inl ht, h⟩
    · exact ⟨t, .inr ht, h⟩
theorem dE_hasV {t : P3} {a b : Int} (h : dE t a b) : hasV t a ∧ hasV t b := by
  rcases h with ⟨h1, h2⟩ | ⟨h1, h2⟩ | ⟨h1, h2⟩
  · exact ⟨.inl h1, .inr (.inl h2)⟩
  · exact ⟨.inr (.inl h1), .inr (.inr h2)⟩
  · exact ⟨.inr (.inr h1), .inl h2⟩
theorem fit_hasV {s : Int × List P3} (h : fitS s) {i : Nat} (hi : i < s.2.length) {v : Int} (hv : hasV (tg s.2 i) v) : 0 ≤ v ∧ v < s.1 := by
  have := triIn_spec (h.2.2.2 i hi)
  rcases hv with e | e | e <;> (rw [← e]; first | exact this.1 | exact this.2.1 | exact this.2.2)
end S1

open Go Go.Vm Go.Proofs
namespace S1
set_option maxRecDepth 100000

/-! gypsumref34.Near, Common -/
theorem near34_vc (n : Int) (l : List P3) (a b : Int) (x : tabE.T) (h : (n, l) = x.1 ∧ Full x) : afun ⟨tyL, [(52, facing10C x)], []⟩ Try.f49 [soupE.av (n, l), i64E.av a, i64E.av b] (fun r => r = .s (.bool (nearR x a b))) := by
  repeat' (conv => whnf
           first | done | refine Need.intro (by first | rfl | omega | (simp only [i64ok] at *; omega)) ?_ | refine Need.intro (Hold.out ?_) ?_ | refine Give.intro fun _ => ?_ | refine Both.intro ?_ ?_ | refine BIf.and ?_ | refine BIf.or ?_ | refine BIf.eqi (fun _ => ?_) (fun _ => ?_) | refine BIf.nei (fun _ => ?_) (fun _ => ?_) | refine BIf.dec (fun _ => ?_) (fun _ => ?_) | refine BIf.nt ?_ | refine BIf.intro (fun _ => ?_) (fun _ => ?_) | refine And.intro rfl ?_ | refine And.intro (HoldEq.out ?_) ?_ | refine And.intro (HoldOb.out ?_) ?_ | exact True.intro | refine HoldEq.out ?_ | refine HoldObs.out ?_ | refine KCheck.intro (by kernel_rfl) ?_ | refine HoldOr.out ?_)
  all_goals try first | refine HoldEq.int ?_ | refine HoldEq.bool ?_ | refine HoldEq.sl ?_ | refine HoldEq.own ?_ | refine HoldEq.ownS ?_ ?_ | refine HoldOb.row ?_ | refine HoldOb.map ?_ | refine HoldOb.gmap ?_ | refine HoldOb.grow ?_ | refine HoldObs.row ?_
  all_goals try simp only [take_one, take_one', set_one, take_all, List.length_singleton, rec_self, Int.toNat_natCast, pair_eta, ETy.dflt, List.getD_cons_zero, List.getD_cons_succ, Int.reduceToNat, Int.reduceAdd, Int.reduceSub, Int.reduceNeg, Nat.reduceAdd, Nat.zero_add] at *
  all_goals try exact Hold.intro h
  · have h1 : tFacing x (a, b) ≥ 0 := by assumption
    unfold nearR; rw [decide_eq_true h1]; rfl
  · have h1 : ¬ tFacing x (a, b) ≥ 0 := by assumption
    unfold nearR; rw [decide_eq_false h1]; rfl
def near34C (x : tabE.T) : List AV → Option Res := con3 soupE i64E i64E (fun s a b => some (none, some (s = x.1 ∧ Full x), .s (.bool (nearR x a b))))
theorem near34Row (x : tabE.T) : FnRow Try.prog 49 (near34C x) := ⟨con3_ok fun s a b r h => by
  cases h; exact fn_by (rulesF (fn := [(52, facing10C x)]) (fr := []) ⟨(facing10Row x), trivial⟩ trivial) Try.func49 (by kernel_rfl) fun _ h => near34_vc s.1 s.2 a b x h, _, Try.func49, by kernel_rfl, by kernel_rfl⟩
def cmG (x : tabE.T) (a b : Int) (v : Nat) : Option Int := if nearR x a v = true ∧ nearR x b v = true then some v else none
def cmL (x : tabE.T) (a b : Int) (k : Nat) : List Int := (List.range k).filterMap (cmG x a b)
def com34 (x : tabE.T) (a b : Int) : List Int := if a = b ∨ a < 0 ∨ b < 0 ∨ a ≥ vN x ∨ b ≥ vN x then [] else cmL x a b (vN x).toNat
def loop34 (x : tabE.T) (a b : Int) : Spec Nat where
  inv v := v ≤ (vN x).toNat
  live v := [(8, .s (.int .i64 v)), (7, .s (.own 2 0 (cmL x a b v).length))]
  keep := [1, 2, 3, 6]
  heap v := [(2, .row i64E 3 (cmL x a b v))]
  keepH := [0, 1]
  mu v := (vN x).toNat - v
theorem fitNN {x : tabE.T} (g : Full x) : 0 ≤ vN x ∧ vN x ≤ 4096 := ⟨g.fit.1, g.fit.2.1⟩
attribute [local irreducible] nearR
theorem common34_vc (n : Int) (l : List P3) (a b : Int) (x : tabE.T) (h : (n, l) = x.1 ∧ Full x) : afun ⟨tyL, [(49, near34C x)], []⟩ Try.f17 [soupE.av (n, l), i64E.av a, i64E.av b] (fun r => r = .s (.sl i64E (com34 x a b))) := by
  repeat' (conv => whnf
           first | done | refine Need.intro (by first | rfl | omega | (simp only [i64ok] at *; omega)) ?_ | refine Need.intro (Hold.out ?_) ?_ | refine Give.intro fun _ => ?_ | refine Both.intro ?_ ?_ | refine BIf.and ?_ | refine BIf.or ?_ | refine BIf.eqi (fun _ => ?_) (fun _ => ?_) | refine BIf.nei (fun _ => ?_) (fun _ => ?_) | refine BIf.dec (fun _ => ?_) (fun _ => ?_) | refine BIf.nt ?_ | refine BIf.intro (fun _ => ?_) (fun _ => ?_) | ((first | (with_reducible show Or (∃ n, rounds (acode _ (Code.seq (Code.region 5 _ _) _)) _ n _) _) | (with_reducible show Or (∃ n, rounds (acode _ (Code.seq (Code.seq (Code.region 5 _ _) _) _)) _ n _) _) | (with_reducible show Or (∃ n, rounds (acode _ (Code.seq (Code.seq (Code.seq (Code.region 5 _ _) _) _) _)) _ n _) _) | (with_reducible show Or (∃ n, rounds (acode _ (Code.seq (Code.seq (Code.seq (Code.seq (Code.region 5 _ _) _) _) _) _)) _ n _) _) | (with_reducible show Or (∃ n, rounds (acode _ (Code.block _ (Code.seq (Code.region 5 _ _) _))) _ n _) _) | (with_reducible show Or (∃ n, rounds (acode _ (Code.block _ (Code.seq (Code.seq (Code.region 5 _ _) _) _))) _ n _) _) | (with_reducible show Or (∃ n, rounds (acode _ (Code.block _ (Code.seq (Code.seq (Code.seq (Code.region 5 _ _) _) _) _))) _ n _) _) | (with_reducible show Or (∃ n, rounds (acode _ (Code.block _ (Code.seq (Code.seq (Code.seq (Code.seq (Code.region 5 _ _) _) _) _) _))) _ n _) _)); refine Or.inr (Exists.intro (Nat) (Exists.intro (loop34 x a b) (And.intro (Exists.intro (0) (And.intro (Hold.out ?_) (And.intro ?_ (And.intro ?_ rfl)))) (fun v hv => ?_))))) | ((with_reducible show (∃ y, And (Spec.inv (loop34 _ _ _) y) _)); refine Exists.intro (v + 1) (And.intro (Hold.out ?_) (And.intro (And.intro ?_ (And.intro ?_ rfl)) (Hold.out ?_)))) | refine And.intro rfl ?_ | refine And.intro (HoldEq.out ?_) ?_ | refine And.intro (HoldOb.out ?_) ?_ | exact True.intro | refine HoldEq.out ?_ | refine HoldObs.out ?_ | refine KCheck.intro (by kernel_rfl) ?_ | refine HoldOr.out ?_)
  all_goals try first | refine HoldEq.int ?_ | refine HoldEq.bool ?_ | refine HoldEq.sl ?_ | refine HoldEq.own ?_ | refine HoldEq.ownS ?_ ?_ | refine HoldOb.row ?_ | refine HoldOb.map ?_ | refine HoldOb.gmap ?_ | refine HoldOb.grow ?_ | refine HoldObs.row ?_
  all_goals try simp only [take_one, take_one', set_one, take_all, List.length_singleton, rec_self, Int.toNat_natCast, pair_eta, ETy.dflt, List.getD_cons_zero, List.getD_cons_succ, Int.reduceToNat, Int.reduceAdd, Int.reduceSub, Int.reduceNeg, Nat.reduceAdd, Nat.zero_add, loop34] at *
  all_goals have en : vN x = n := (congrArg Prod.fst h.1).symm
  all_goals have hn := fitNN h.2
  all_goals try (unfold com34; rw [if_pos (by omega)]; rfl)
  all_goals try have hlm := fm_len (cmG x a b) v
  all_goals try (refine Hold.intro ?_; first | omega | (unfold i64ok; omega) | (unfold cmL; omega))
  all_goals try
    have h1 : nearR x a v = true := by assumption
    have h2 : nearR x b v = true := by assumption
    have e : cmL x a b (v + 1) = cmL x a b v ++ [(v : Int)] := by unfold cmL; rw [fm_succ]; conv => lhs; rhs; rw [cmG, if_pos ⟨h1, h2⟩]
                                                                  rfl
    first | exact e | (rw [e, List.length_append]; rfl)
  all_goals try
    have h2 : nearR x b v = false := by assumption
    have e : cmL x a b (v + 1) = cmL x a b v := by unfold cmL; rw [fm_succ]; conv => lhs; rhs; rw [cmG, if_neg (by rw [h2]; simp)]
                                                   simp
    first | exact e | (rw [e]; done)
  all_goals try
    have h2 : nearR x a v = false := by assumption
    have e : cmL x a b (v + 1) = cmL x a b v := by unfold cmL; rw [fm_succ]; conv => lhs; rhs; rw [cmG, if_neg (by rw [h2]; simp)]
                                                   simp
    first | exact e | (rw [e]; done)
  unfold com34
  rw [if_neg (by omega), show v = (vN x).toNat by omega]
/-! it is link.Common -/
theorem sorted_mem : ∀ {l m : List Int}, l.Pairwise (· < ·) → m.Pairwise (· < ·) → (∀ v, v ∈ l ↔ v ∈ m) → l = m
  | [], [], _, _, _ => rfl
  | [], b :: m, _, _, h => by have := (h b).2 (by simp); cases this
  | a :: l, [], _, _, h => by have := (h a).1 (by simp); cases this
  | a :: l, b :: m, h1, h2, h => by
    obtain ⟨a1, a2⟩ := List.pairwise_cons.1 h1
    obtain ⟨b1, b2⟩ := List.pairwise_cons.1 h2
    have e : a = b := by
      have ka := (h a).1 (by simp)
      have kb := (h b).2 (by simp)
      rcases List.mem_cons.1 ka with e | e
      · exact e
      · rcases List.mem_cons.1 kb with e' | e'
        · exact e'.symm
        · have := a1 b e'; have := b1 a e; omega
    subst e
    congr 1
    refine sorted_mem a2 b2 fun v => ?_
    have := h v
    rw [List.mem_cons, List.mem_cons] at this
    constructor
    · intro hv
      rcases this.1 (.inr hv) with e | e
      · have := a1 v hv; omega
      · exact e
    · intro hv
      rcases this.2 (.inr hv) with e | e
      · have := b1 v hv; omega
      · exact e
theorem around_nodupN {x : tabE.T} (g : Full x) {v : Int} (h0 : 0 ≤ v) (h1 : v < vN x) : (aroundL (some x) v).Nodup := by
  obtain ⟨b, _, eL, _⟩ := g.around h0 h1
  have key : ∀ n k, k + n = 30000 → FInv (tAfter x) b k → (aroundF x b n (iter (tAfter x) b k)).Nodup ∧ ∀ y ∈ aroundF x b n (iter (tAfter x) b k), ∃ m, k ≤ m ∧ y = iter (tAfter x) b m ∧ FInv (tAfter x) b m := fun n => by
    induction n with
    | zero => intro k e h; have := fin_after g.toGood h; omega
    | succ n ih =>
      intro k e h
      unfold aroundF
      by_cases h1 : tAfter x (iter (tAfter x) b k) < 0
      · rw [if_pos h1]
        exact ⟨List.nodup_cons.2 ⟨by simp, List.nodup_nil⟩, fun y hy => ⟨k, Nat.le_refl _, List.mem_singleton.1 hy, h⟩⟩
      · rw [if_neg h1]
        by_cases h2 : tAfter x (iter (tAfter x) b k) = b
        · rw [if_pos h2]
          exact ⟨List.nodup_cons.2 ⟨by simp, List.nodup_nil⟩, fun y hy => ⟨k, Nat.le_refl _, List.mem_singleton.1 hy, h⟩⟩
        · rw [if_neg h2]
          obtain ⟨i1, i2⟩ := ih (k + 1) (by omega) (h.succ h1 h2)
          refine ⟨List.nodup_cons.2 ⟨fun hy => ?_, i1⟩, fun y hy => ?_⟩
          · obtain ⟨m, m1, m2, m3⟩ := i2 _ hy
            have := iter_back (f := tAfter x) g.toGood.after_inj (c := b) (i := k) (j := m - k) (fun q q1 q2 => (h q q1 q2).1) (by rw [m2]; congr 1; omega)
            exact (m3 (m - k) (by omega) (by omega)).2 this
          · rcases List.mem_cons.1 hy with e | hy
            · exact ⟨k, Nat.le_refl _, e, h⟩
            · obtain ⟨m, m1, m2, m3⟩ := i2 y hy
              exact ⟨m, by omega, m2, m3⟩
  rw [eL]
  exact (key 30000 0 rfl (fun j a b => by omega)).1
theorem link_nodupN {x : tabE.T} (g : Full x) (v : Int) : (linkR x v).Nodup := by
  by_cases hv : 0 ≤ v ∧ v < vN x
  case neg => rw [link_far hv]; exact List.nodup_nil
  obtain ⟨h0, h1⟩ := hv
  obtain ⟨b, _, eL, hb1, hb2, hb3, hall, hcl, _⟩ := g.around h0 h1
  have hpos : (aroundL (some x) v).length ≥ 1 := List.length_pos_of_mem hb3
  have hlast : lkLast (aroundL (some x) v) (aroundL (some x) v).length = (aroundL (some x) v).getD ((aroundL (some x) v).length - 1) 0 := by
    unfold lkLast; rw [if_neg (by omega)]
  have hin : (aroundL (some x) v).getD ((aroundL (some x) v).length - 1) 0 ∈ aroundL (some x) v := getD_mem (by omega)
  have hm : (lkO x (aroundL (some x) v) (aroundL (some x) v).length).Nodup := by
    unfold lkO
    rw [List.take_length]
    refine List.Pairwise.map _ (fun c d h => ?_) ((around_nodupN g h0 h1).imp_of_mem (S := fun c d => c ≠ d ∧ c ∈ aroundL (some x) v ∧ d ∈ aroundL (some x) v) fun hc hd hn => ⟨hn, hc, hd⟩)
    obtain ⟨hn, hc, hd⟩ := h
    intro e
    exact hn (g.toGood.same (hall c hc).1 (hall d hd).1 ((hall c hc).2.trans (hall d hd).2.symm) e)
  unfold linkR
  rw [List.nodup_append]
  refine ⟨hm, ?_, fun p hp q hq e => ?_⟩
  · split
    · exact List.nodup_cons.2 ⟨by simp, List.nodup_nil⟩
    · exact List.nodup_nil
  · split at hq
    · rename_i hc
      rw [List.mem_singleton] at hq
      subst hq; subst e
      rw [hlast] at hp hc
      generalize (aroundL (some x) v).getD ((aroundL (some x) v).length - 1) 0 = c at hin hp hc
      unfold lkO at hp
      rw [List.take_length] at hp
      obtain ⟨d, hd, ed⟩ := List.mem_map.1 hp
      obtain ⟨d1, d2⟩ := hall d hd
      obtain ⟨c1, c2⟩ := hall c hin
      have : tOpp x (tNext x c) = tPrev x d := g.opp_is (hasNP d1).2 (by rw [edgeP d1, edgeN c1, d2, c2, ed])
      have k := tHas_iff.1 (hasNP d1).2
      have ha := hc.2
      unfold tAfter at ha
      rw [if_neg (by omega), this, (np d1).1] at ha
      have := tHas_iff.1 d1
      omega
    · cases hq
theorem com34_is {x : tabE.T} (g : Full x) (a b : Int) : com34 x a b = comR x a b := by
  unfold com34
  split
  · rename_i h
    unfold comR
    split
    · rfl
    · rename_i hne
      have hf : ¬ (0 ≤ a ∧ a < x.1.1) ∨ ¬ (0 ≤ b ∧ b < x.1.1) := by
        by_cases k1 : 0 ≤ a ∧ a < vN x
        · by_cases k2 : 0 ≤ b ∧ b < vN x
          · omega
          · exact .inr k2
        · exact .inl k1
      rcases hf with h | h
      · rw [link_far h]; exact (List.length_eq_zero_iff.1 (sortI_len [])).symm
      · have := com_far (x := x) (a := a) h
        unfold comR at this
        rw [if_neg hne] at this
        exact this.symm
  · rename_i h
    have hs : (comR x a b).Pairwise (· < ·) := by
      unfold comR
      split
      · exact .nil
      · refine List.Pairwise.imp_of_mem (R := fun p q => p ≤ q ∧ p ≠ q) (fun _ _ h => by omega) ?_
        refine List.pairwise_and_iff.2 ⟨sortI_sorted _, ?_⟩
        exact (sortI_perm _).nodup_iff.2 ((link_nodupN g a).sublist List.filter_sublist)
    have hc : (cmL x a b (vN x).toNat).Pairwise (· < ·) := by
      unfold cmL
      refine List.Pairwise.filterMap _ (R := fun p q : Nat => p < q) (fun p q hpq u hu w hw => ?_) List.pairwise_lt_range
      unfold cmG at hu hw
      split at hu
      · split at hw
        · cases hu; cases hw; omega
        · cases hw
      · cases hu
    refine sorted_mem hc hs fun v => ?_
    rw [com_mem g]
    unfold cmL
    rw [List.mem_filterMap]
    constructor
    · rintro ⟨w, hw, e⟩
      unfold cmG at e
      split at e
      · rename_i hh; cases e; exact ⟨by omega, hh.1, hh.2⟩
      · cases e
    · rintro ⟨_, h1, h2⟩
      have hin := near_in g.toGood h1
      have hv : 0 ≤ v ∧ v < vN x := hin.2
      refine ⟨v.toNat, List.mem_range.2 (by omega), ?_⟩
      unfold cmG
      rw [Int.toNat_of_nonneg hv.1, if_pos ⟨h1, h2⟩]
def common34C (x : tabE.T) : List AV → Option Res := con3 soupE i64E i64E (fun s a b => some (none, some (s = x.1 ∧ Full x), .s (.sl i64E (com34 x a b))))
theorem common34Row (x : tabE.T) : FnRow Try.prog 17 (common34C x) := ⟨con3_ok fun s a b r h => by
  cases h; exact fn_by (rulesF (fn := [(49, near34C x)]) (fr := []) ⟨(near34Row x), trivial⟩ trivial) Try.func17 (by kernel_rfl) fun _ h => common34_vc s.1 s.2 a b x h, _, Try.func17, by kernel_rfl, by kernel_rfl⟩
end S1

open Go Go.Vm Go.Proofs
namespace S1
set_option maxRecDepth 100000

/-! gypsumref10.Shells -/
structure Mid (x : tabE.T) (tgt : List Int) (n : Int) (t : Nat) (out : List Int) : Prop where
  len : out.length = x.1.2.length
  mid : ∀ u, u < x.1.2.length → lb out u = lb tgt u ∨ (lb out u < 0 ∧ lb tgt u = n)
  st : lb out t = n
def Clo (x : tabE.T) (n : Int) (out : List Int) (c : Nat) : Prop := ∀ d : Nat, d < c → lb out (d / 3) = n → 0 ≤ tOpp x d → 0 ≤ lb out (tOpp x d / 3).toNat
def shC (x : tabE.T) (n : Int) (c : Nat) (s : List Int × Bool) : List Int × Bool :=
  if lb s.1 (c / 3) = n ∧ 0 ≤ tOpp x c ∧ lb s.1 (tOpp x c / 3).toNat < 0 then (s.1.set (tOpp x c / 3).toNat n, true) else s
abbrev nLen (x : tabE.T) : Nat := x.1.2.length
def loopSh0 (x : tabE.T) : Spec Nat where
  inv t := t ≤ nLen x
  live t := [(5, .s (.int .i64 t)), (4, .s (.own 2 0 (List.replicate t (-1 : Int)).length))]
  keep := [1, 2, 3]
  heap t := [(2, .row i64E 3 (List.replicate t (-1 : Int)))]
  keepH := [0, 1]
  mu t := nLen x - t
def loopSh1 (x : tabE.T) : Spec Nat where
  inv t := t ≤ nLen x
  live t := [(7, .s (.int .i64 t)), (6, .s (.int .i64 (ofL x t).2))]
  keep := [1, 2, 3, 4]
  heap t := [(2, .row i64E 3 (ofL x t).1)]
  keepH := [0, 1]
  mu t := nLen x - t
def loopSh2 (x : tabE.T) (t : Nat) : Spec (List Int × Bool) where
  inv s := Mid x (ofL x (t + 1)).1 (ofL x t).2 t s.1 ∧ (s.2 = false → Clo x (ofL x t).2 s.1 (3 * nLen x))
  live s := [(8, .s (.bool s.2))]
  keep := [1, 2, 3, 4, 6, 7]
  heap s := [(2, .row i64E 3 s.1)]
  keepH := [0, 1]
  mu s := 2 * unm s.1 + (if s.2 then 1 else 0)
def loopSh3 (x : tabE.T) (t N0 : Nat) : Spec (Nat × List Int × Bool) where
  inv s := s.1 ≤ 3 * nLen x ∧ Mid x (ofL x (t + 1)).1 (ofL x t).2 t s.2.1 ∧ (s.2.2 = false → Clo x (ofL x t).2 s.2.1 s.1 ∧ unm s.2.1 ≤ N0) ∧ (s.2.2 = true → unm s.2.1 < N0)
  live s := [(9, .s (.int .i64 s.1)), (8, .s (.bool s.2.2))]
  keep := [1, 2, 3, 4, 6, 7]
  heap s := [(2, .row i64E 3 s.2.1)]
  keepH := [0, 1]
  mu s := 3 * nLen x - s.1
theorem ofL_0 (x : tabE.T) : ofL x 0 = (List.replicate (nLen x) (-1), 0) := rfl
theorem ofL_yes {x : tabE.T} {t : Nat} (h : lb (ofL x t).1 t ≥ 0) : ofL x (t + 1) = ofL x t := by
  show ofI x (ofL x t) t = _
  unfold ofI; rw [if_pos h]
theorem ofL_no {x : tabE.T} {t : Nat} (h : ¬ lb (ofL x t).1 t ≥ 0) : ofL x (t + 1) = ((bfs x (ofL x t).2 10000 0 ((ofL x t).1.set t (ofL x t).2, [(t : Int)])).1, (ofL x t).2 + 1) := by
  show ofI x (ofL x t) t = _
  unfold ofI; rw [if_neg h]
theorem n_le (x : tabE.T) : ∀ t, (ofL x t).2 ≤ t
  | 0 => Int.le_refl 0
  | t + 1 => by
    have ih := n_le x t
    by_cases h : lb (ofL x t).1 t ≥ 0
    · rw [ofL_yes h]; omega
    · rw [ofL_no h]; show (ofL x t).2 + 1 ≤ _; omega
section
variable {x : tabE.T} {t : Nat}
structure ShT (x : tabE.T) (t : Nat) : Prop where
  lab : Lab x (ofL x (t + 1)).1 ((ofL x t).2 + 1)
  st : lb (ofL x (t + 1)).1 t = (ofL x t).2
  nn : 0 ≤ (ofL x t).2
  old : ∀ u, u < nLen x → lb (ofL x (t + 1)).1 u = lb (ofL x t).1 u ∨ (lb (ofL x (t + 1)).1 u = (ofL x t).2 ∧ lb (ofL x t).1 u < 0)
  n2 : (ofL x (t + 1)).2 = (ofL x t).2 + 1
  len : (ofL x t).1.length = nLen x
theorem shT (g : Full x) (ht : t < nLen x) (h : ¬ lb (ofL x t).1 t ≥ 0) : ShT x t := by
  obtain ⟨h1, h2, h3⟩ := lab_all g t (Nat.le_of_lt ht)
  obtain ⟨k1, k2, k3, k4⟩ := lab_next g h2 h1 ht h
  have e := ofL_no h
  exact ⟨by rw [e]; exact k1, by rw [e]; exact k2, h2, fun u hu => by rw [e]; exact k4 u hu, by rw [e], h1.len⟩
theorem mid_start (g : Full x) (ht : t < nLen x) (h : ¬ lb (ofL x t).1 t ≥ 0) : Mid x (ofL x (t + 1)).1 (ofL x t).2 t ((ofL x t).1.set t (ofL x t).2) := by
  have s := shT g ht h
  refine ⟨by rw [List.length_set]; exact s.len, fun u hu => ?_, by rw [lb_set (by rw [s.len]; exact ht), if_pos rfl]⟩
  rw [lb_set (by rw [s.len]; exact ht)]
  split
  · rename_i e; subst e; exact .inl s.st.symm
  · rcases s.old u hu with e | ⟨e1, e2⟩
    · exact .inl e.symm
    · exact .inr ⟨e2, e1⟩
theorem mid_is {out : List Int} (s : ShT x t) (m : Mid x (ofL x (t + 1)).1 (ofL x t).2 t out) {u : Nat} (hu : u < nLen x) (h : 0 ≤ lb out u) : lb (ofL x (t + 1)).1 u = lb out u := by
  rcases m.mid u hu with e | e
  · exact e.symm
  · omega
theorem mid_step (g : Full x) {out : List Int} (s : ShT x t) (m : Mid x (ofL x (t + 1)).1 (ofL x t).2 t out) {c : Nat} (hc : c < 3 * nLen x) (h1 : lb out (c / 3) = (ofL x t).2) (h2 : 0 ≤ tOpp x c) (h3 : lb out (tOpp x c / 3).toNat < 0) :
    Mid x (ofL x (t + 1)).1 (ofL x t).2 t (out.set (tOpp x c / 3).toNat (ofL x t).2) ∧ unm (out.set (tOpp x c / 3).toNat (ofL x t).2) < unm out := by
  have hh : tHas x (c : Int) = true := tHas_iff.2 ⟨by omega, by show (c : Int) < 3 * (nLen x : Int); omega⟩
  have ha : Adj x (c / 3) (tOpp x c / 3).toNat := ⟨c, hh, by omega, h2, rfl⟩
  obtain ⟨l1, l2⟩ := adj_lt g.toGood ha
  have nn := s.nn
  have e1 := mid_is s m l1 (by rw [h1]; exact nn)
  have e2 := s.lab.clo _ _ ha (by rw [e1, h1]; exact nn)
  refine ⟨⟨by rw [List.length_set]; exact m.len, fun u hu => ?_, ?_⟩, ?_⟩
  · rw [lb_set (by rw [m.len]; exact l2)]
    split
    · rename_i e; subst e; exact .inl (by rw [e2, e1, h1])
    · exact m.mid u hu
  · rw [lb_set (by rw [m.len]; exact l2)]
    split
    · rfl
    · exact m.st
  · have := unm_set nn out (tOpp x c / 3).toNat (by rw [m.len]; exact l2) h3
    omega
theorem mid_done (g : Full x) {out : List Int} (ht : t < nLen x) (s : ShT x t) (m : Mid x (ofL x (t + 1)).1 (ofL x t).2 t out) (hc : Clo x (ofL x t).2 out (3 * nLen x)) : out = (ofL x (t + 1)).1 := by
  have nn := s.nn
  have all : ∀ u, Conn (Adj x) t u → lb out u = (ofL x t).2 := fun u hu => by
    induction hu with
    | refl => exact m.st
    | step _ a ih =>
      rename_i w u _
      obtain ⟨l1, l2⟩ := adj_lt g.toGood a
      have e1 := mid_is s m l1 (by rw [ih]; exact nn)
      have e2 := s.lab.clo _ _ a (by rw [e1, ih]; exact nn)
      obtain ⟨c, c1, c2, c3, c4⟩ := a
      have k := tHas_iff.1 c1
      have k2 : c < 3 * (nLen x : Int) := k.2
      have h0 := hc c.toNat (by omega) (by rw [show c.toNat / 3 = w by omega]; exact ih) (by rw [Int.toNat_of_nonneg k.1]; exact c3)
      rw [Int.toNat_of_nonneg k.1, c4] at h0
      rw [← mid_is s m l2 h0, e2, e1, ih]
  apply List.ext_getElem
  · rw [m.len, s.lab.len]
  · intro u h1 h2
    have hu : u < nLen x := by rw [m.len] at h1; exact h1
    have e : lb out u = lb (ofL x (t + 1)).1 u := by
      rcases m.mid u hu with e | ⟨e1, e2⟩
      · exact e
      · have := all u (s.lab.con t u ht hu (by rw [s.st]; exact nn) (by rw [s.st, e2]))
        omega
    unfold lb at e
    rw [List.getD_eq_getElem?_getD, List.getD_eq_getElem?_getD, List.getElem?_eq_getElem h1, List.getElem?_eq_getElem h2] at e
    exact e
theorem clo_step {n : Int} {out : List Int} {c : Nat} (h : Clo x n out c) (h2 : lb out (c / 3) = n → 0 ≤ tOpp x c → 0 ≤ lb out (tOpp x c / 3).toNat) : Clo x n out (c + 1) := fun d hd => by
  by_cases e : d = c
  · subst e; exact h2
  · exact h d (by omega)
end
theorem shC_y {x : tabE.T} {n : Int} {c : Nat} {s : List Int × Bool} (h : lb s.1 (c / 3) = n ∧ 0 ≤ tOpp x c ∧ lb s.1 (tOpp x c / 3).toNat < 0) : shC x n c s = (s.1.set (tOpp x c / 3).toNat n, true) := by unfold shC; rw [if_pos h]
theorem shC_n {x : tabE.T} {n : Int} {c : Nat} {s : List Int × Bool} (h : ¬ (lb s.1 (c / 3) = n ∧ 0 ≤ tOpp x c ∧ lb s.1 (tOpp x c / 3).toNat < 0)) : shC x n c s = s := by unfold shC; rw [if_neg h]
def InvQ (x : tabE.T) (t N0 : Nat) (s : Nat × List Int × Bool) : Prop := s.1 ≤ 3 * nLen x ∧ Mid x (ofL x (t + 1)).1 (ofL x t).2 t s.2.1 ∧ (s.2.2 = false → Clo x (ofL x t).2 s.2.1 s.1 ∧ unm s.2.1 ≤ N0) ∧ (s.2.2 = true → unm s.2.1 < N0)
theorem inv_y {x : tabE.T} {t N0 : Nat} (g : Full x) (s : ShT x t) {q : Nat × List Int × Bool} (hq : InvQ x t N0 q) (hc : q.1 < 3 * nLen x) (h : lb q.2.1 (q.1 / 3) = (ofL x t).2 ∧ 0 ≤ tOpp x q.1 ∧ lb q.2.1 (tOpp x q.1 / 3).toNat < 0) : InvQ x t N0 (q.1 + 1, shC x (ofL x t).2 q.1 q.2) := by
  rw [shC_y h]
  obtain ⟨m1, m2⟩ := mid_step g s hq.2.1 hc h.1 h.2.1 h.2.2
  refine ⟨hc, m1, (fun (e : true = false) => (nomatch e)), fun _ => ?_⟩
  show unm (q.2.1.set (tOpp x q.1 / 3).toNat (ofL x t).2) < N0
  cases e : q.2.2 with
  | true => have := hq.2.2.2 e; omega
  | false => have := (hq.2.2.1 e).2; omega
theorem inv_n {x : tabE.T} {t N0 : Nat} {q : Nat × List Int × Bool} (hq : InvQ x t N0 q) (hc : q.1 < 3 * nLen x) (h : ¬ (lb q.2.1 (q.1 / 3) = (ofL x t).2 ∧ 0 ≤ tOpp x q.1 ∧ lb q.2.1 (tOpp x q.1 / 3).toNat < 0)) : InvQ x t N0 (q.1 + 1, shC x (ofL x t).2 q.1 q.2) := by
  rw [shC_n h]
  refine ⟨hc, hq.2.1, fun e => ⟨clo_step (hq.2.2.1 e).1 fun h1 h2 => ?_, (hq.2.2.1 e).2⟩, hq.2.2.2⟩
  refine Int.not_lt.1 fun h3 => h ⟨h1, h2, h3⟩
attribute [local irreducible] ofL
set_option maxHeartbeats 4000000 in
theorem shells10_vc (n : Int) (l : List P3) (x : tabE.T) (h : (n, l) = x.1 ∧ Full x) : afun ⟨tyL, [(57, opp10C x)], []⟩ Try.f55 [soupE.av (n, l)] (fun r => r = .tup [.s (.sl i64E (ofR x)), .s (.int .i64 (ofL x (nLen x)).2)]) := by
  have g := h.2
  have el : nLen x = l.length := (congrArg (fun s => s.2.length) h.1).symm
  have hlen : nLen x ≤ 8192 := g.fit.2.2.1
  repeat' (conv => whnf
           first | done | refine Need.intro (by first | rfl | omega | (simp only [i64ok] at *; omega)) ?_ | refine Need.intro (Hold.out ?_) ?_ | refine Give.intro fun _ => ?_ | refine Both.intro ?_ ?_ | refine BIf.and ?_ | refine BIf.or ?_ | refine BIf.eqi (fun _ => ?_) (fun _ => ?_) | refine BIf.nei (fun _ => ?_) (fun _ => ?_) | refine BIf.dec (fun _ => ?_) (fun _ => ?_) | refine BIf.nt ?_ | refine BIf.intro (fun _ => ?_) (fun _ => ?_) | ((first | (with_reducible show Or (∃ n, rounds (acode _ (Code.seq (Code.region 3 _ _) _)) _ n _) _) | (with_reducible show Or (∃ n, rounds (acode _ (Code.seq (Code.seq (Code.region 3 _ _) _) _)) _ n _) _) | (with_reducible show Or (∃ n, rounds (acode _ (Code.seq (Code.seq (Code.seq (Code.region 3 _ _) _) _) _)) _ n _) _) | (with_reducible show Or (∃ n, rounds (acode _ (Code.seq (Code.seq (Code.seq (Code.seq (Code.region 3 _ _) _) _) _) _)) _ n _) _) | (with_reducible show Or (∃ n, rounds (acode _ (Code.block _ (Code.seq (Code.region 3 _ _) _))) _ n _) _) | (with_reducible show Or (∃ n, rounds (acode _ (Code.block _ (Code.seq (Code.seq (Code.region 3 _ _) _) _))) _ n _) _) | (with_reducible show Or (∃ n, rounds (acode _ (Code.block _ (Code.seq (Code.seq (Code.seq (Code.region 3 _ _) _) _) _))) _ n _) _) | (with_reducible show Or (∃ n, rounds (acode _ (Code.block _ (Code.seq (Code.seq (Code.seq (Code.seq (Code.region 3 _ _) _) _) _) _))) _ n _) _)); refine Or.inr (Exists.intro (Nat) (Exists.intro (loopSh0 x) (And.intro (Exists.intro (0) (And.intro (Hold.out ?_) (And.intro ?_ (And.intro ?_ rfl)))) (fun p hp => ?_))))) | ((with_reducible show (∃ y, And (Spec.inv (loopSh0 _) y) _)); refine Exists.intro (p + 1) (And.intro (Hold.out ?_) (And.intro (And.intro ?_ (And.intro ?_ rfl)) (Hold.out ?_)))) | ((first | (with_reducible show Or (∃ n, rounds (acode _ (Code.seq (Code.region 8 _ _) _)) _ n _) _) | (with_reducible show Or (∃ n, rounds (acode _ (Code.seq (Code.seq (Code.region 8 _ _) _) _)) _ n _) _) | (with_reducible show Or (∃ n, rounds (acode _ (Code.seq (Code.seq (Code.seq (Code.region 8 _ _) _) _) _)) _ n _) _) | (with_reducible show Or (∃ n, rounds (acode _ (Code.seq (Code.seq (Code.seq (Code.seq (Code.region 8 _ _) _) _) _) _)) _ n _) _) | (with_reducible show Or (∃ n, rounds (acode _ (Code.block _ (Code.seq (Code.region 8 _ _) _))) _ n _) _) | (with_reducible show Or (∃ n, rounds (acode _ (Code.block _ (Code.seq (Code.seq (Code.region 8 _ _) _) _))) _ n _) _) | (with_reducible show Or (∃ n, rounds (acode _ (Code.block _ (Code.seq (Code.seq (Code.seq (Code.region 8 _ _) _) _) _))) _ n _) _) | (with_reducible show Or (∃ n, rounds (acode _ (Code.block _ (Code.seq (Code.seq (Code.seq (Code.seq (Code.region 8 _ _) _) _) _) _))) _ n _) _)); refine Or.inr (Exists.intro (Nat) (Exists.intro (loopSh1 x) (And.intro (Exists.intro (0) (And.intro (Hold.out ?_) (And.intro ?_ (And.intro ?_ rfl)))) (fun t ht => ?_))))) | ((with_reducible show (∃ y, And (Spec.inv (loopSh1 _) y) _)); refine Exists.intro (t + 1) (And.intro (Hold.out ?_) (And.intro (And.intro ?_ (And.intro ?_ rfl)) (Hold.out ?_)))) | ((first | (with_reducible show Or (∃ n, rounds (acode _ (Code.seq (Code.region 13 _ _) _)) _ n _) _) | (with_reducible show Or (∃ n, rounds (acode _ (Code.seq (Code.seq (Code.region 13 _ _) _) _)) _ n _) _) | (with_reducible show Or (∃ n, rounds (acode _ (Code.seq (Code.seq (Code.seq (Code.region 13 _ _) _) _) _)) _ n _) _) | (with_reducible show Or (∃ n, rounds (acode _ (Code.seq (Code.seq (Code.seq (Code.seq (Code.region 13 _ _) _) _) _) _)) _ n _) _) | (with_reducible show Or (∃ n, rounds (acode _ (Code.block _ (Code.seq (Code.region 13 _ _) _))) _ n _) _) | (with_reducible show Or (∃ n, rounds (acode _ (Code.block _ (Code.seq (Code.seq (Code.region 13 _ _) _) _))) _ n _) _) | (with_reducible show Or (∃ n, rounds (acode _ (Code.block _ (Code.seq (Code.seq (Code.seq (Code.region 13 _ _) _) _) _))) _ n _) _) | (with_reducible show Or (∃ n, rounds (acode _ (Code.block _ (Code.seq (Code.seq (Code.seq (Code.seq (Code.region 13 _ _) _) _) _) _))) _ n _) _)); refine Or.inr (Exists.intro (List Int × Bool) (Exists.intro (loopSh2 x t) (And.intro (Exists.intro (((ofL x t).1.set t (ofL x t).2, true)) (And.intro (Hold.out ?_) (And.intro ?_ (And.intro ?_ rfl)))) (fun s hs => ?_))))) | ((with_reducible show (∃ y, And (Spec.inv (loopSh2 _ _) y) _)); refine Exists.intro (q.2) (And.intro (Hold.out ?_) (And.intro (And.intro ?_ (And.intro ?_ rfl)) (Hold.out ?_)))) | ((first | (with_reducible show Or (∃ n, rounds (acode _ (Code.seq (Code.region 16 _ _) _)) _ n _) _) | (with_reducible show Or (∃ n, rounds (acode _ (Code.seq (Code.seq (Code.region 16 _ _) _) _)) _ n _) _) | (with_reducible show Or (∃ n, rounds (acode _ (Code.seq (Code.seq (Code.seq (Code.region 16 _ _) _) _) _)) _ n _) _) | (with_reducible show Or (∃ n, rounds (acode _ (Code.seq (Code.seq (Code.seq (Code.seq (Code.region 16 _ _) _) _) _) _)) _ n _) _) | (with_reducible show Or (∃ n, rounds (acode _ (Code.block _ (Code.seq (Code.region 16 _ _) _))) _ n _) _) | (with_reducible show Or (∃ n, rounds (acode _ (Code.block _ (Code.seq (Code.seq (Code.region 16 _ _) _) _))) _ n _) _) | (with_reducible show Or (∃ n, rounds (acode _ (Code.block _ (Code.seq (Code.seq (Code.seq (Code.region 16 _ _) _) _) _))) _ n _) _) | (with_reducible show Or (∃ n, rounds (acode _ (Code.block _ (Code.seq (Code.seq (Code.seq (Code.seq (Code.region 16 _ _) _) _) _) _))) _ n _) _)); refine Or.inr (Exists.intro (Nat × List Int × Bool) (Exists.intro (loopSh3 x t (unm s.1)) (And.intro (Exists.intro ((0, s.1, false)) (And.intro (Hold.out ?_) (And.intro ?_ (And.intro ?_ rfl)))) (fun q hq => ?_))))) | ((with_reducible show (∃ y, And (Spec.inv (loopSh3 _ _ _) y) _)); refine Exists.intro ((q.1 + 1, shC x (ofL x t).2 q.1 q.2)) (And.intro (Hold.out ?_) (And.intro (And.intro ?_ (And.intro ?_ rfl)) (Hold.out ?_)))) | refine And.intro rfl ?_ | refine And.intro (HoldEq.out ?_) ?_ | refine And.intro (HoldOb.out ?_) ?_ | exact True.intro | refine HoldEq.out ?_ | refine HoldObs.out ?_ | refine KCheck.intro (by kernel_rfl) ?_ | refine HoldOr.out ?_)
  all_goals try first | refine HoldEq.int ?_ | refine HoldEq.bool ?_ | refine HoldEq.sl ?_ | refine HoldEq.own ?_ | refine HoldEq.ownS ?_ ?_ | refine HoldOb.row ?_ | refine HoldOb.map ?_ | refine HoldOb.gmap ?_ | refine HoldOb.grow ?_ | refine HoldObs.row ?_
  all_goals try simp only [take_one, take_one', set_one, take_all, List.length_singleton, rec_self, Int.toNat_natCast, pair_eta, ETy.dflt, List.getD_cons_zero, List.getD_cons_succ, Int.reduceToNat, Int.reduceAdd, Int.reduceSub, Int.reduceNeg, Nat.reduceAdd, Nat.zero_add, loopSh0, loopSh1, loopSh2, loopSh3] at *
  all_goals try rw [List.length_replicate]
  all_goals try (refine Hold.intro ?_; first | omega | (unfold i64ok; omega))
  · exact List.replicate_succ'
  · rw [ofL_0]
  · rw [ofL_0, show p = nLen x by omega]
  · rw [ofL_yes (by assumption)]
  · rw [ofL_yes (by assumption)]
  all_goals try have hneg : ¬ lb (ofL x t).1 t ≥ 0 := by assumption
  all_goals try have sh := shT g (by omega) hneg
  · exact Hold.intro ⟨mid_start g (by omega) hneg, fun e => by cases e⟩
  · exact Hold.intro ⟨Nat.zero_le _, hs.1, fun _ => ⟨fun d hd => by omega, Nat.le_refl _⟩, fun e => by cases e⟩
  all_goals try have hqc : (q.1 : Int) < 3 * l.length := by assumption
  all_goals try have hh : tHas x (q.1 : Int) = true := tHas_iff.2 ⟨by omega, by show (q.1 : Int) < 3 * (nLen x : Int); omega⟩
  all_goals try have hd : ((q.1 : Int).tdiv 3).toNat = q.1 / 3 := by rw [td3 (by omega)]; omega
  all_goals try have hd2 : (q.1 : Int).tdiv 3 = q.1 / 3 := td3 (by omega)
  all_goals try have hop : tOpp x q.1 ≥ 0 := by assumption
  all_goals try have ho : (tOpp x q.1).tdiv 3 = tOpp x q.1 / 3 := td3 hop
  all_goals try have hob := tHas_iff.1 (g.opp_v (c := q.1) hop).2.1
  all_goals try (have hob2 : tOpp x q.1 < 3 * (nLen x : Int) := hob.2)
  all_goals try (refine Hold.intro ⟨by decide, ?_⟩; first | (rw [ho]; unfold i64ok; omega) | (rw [hd2]; unfold i64ok; omega))
  all_goals try exact Hold.intro ⟨h.1, g, hh⟩
  all_goals try (refine Hold.intro ?_; first | (rw [ho]; exact ⟨by omega, by omega⟩) | (rw [hd2]; exact ⟨by omega, by omega⟩))
  all_goals try
    have hy : lb q.2.1 (q.1 / 3) = (ofL x t).2 ∧ 0 ≤ tOpp x q.1 ∧ lb q.2.1 (tOpp x q.1 / 3).toNat < 0 := by
      refine ⟨?_, hop, ?_⟩
      · rw [← hd]; assumption
      · rw [← ho]; assumption
    first
    | exact Hold.intro (inv_y g sh hq (by omega) hy)
    | (rw [shC_y hy]; done)
    | (rw [shC_y hy, ho]; done)
  all_goals try
    have hy : ¬ (lb q.2.1 (q.1 / 3) = (ofL x t).2 ∧ 0 ≤ tOpp x q.1 ∧ lb q.2.1 (tOpp x q.1 / 3).toNat < 0) := by
      rintro ⟨k1, k2, k3⟩
      first
      | exact absurd k2 (by assumption)
      | (rw [← ho] at k3; exact absurd k3 (by assumption))
      | (rw [← hd] at k1; exact absurd k1 (by assumption))
    first
    | exact Hold.intro (inv_n hq (by omega) hy)
    | (rw [shC_n hy]; done)
  · refine Hold.intro ⟨hq.2.1, fun e => ?_⟩
    have := (hq.2.2.1 e).1
    rwa [show q.1 = 3 * nLen x by omega] at this
  · refine Hold.intro ?_
    have hs1 : s.2 = true := by assumption
    rw [hs1]
    cases e : q.2.2 with
    | true => have := hq.2.2.2 e; simp; omega
    | false => have := (hq.2.2.1 e).2; simp; omega
  · have := n_le x t
    have := sh.nn
    refine Hold.intro ?_; unfold i64ok; omega
  · exact sh.n2
  · exact (mid_done g (by omega) sh hs.1 (hs.2 (by assumption))).symm
  · have e : t = nLen x := by omega
    have e2 : p = nLen x := by omega
    subst e
    have hl : (ofL x (nLen x)).1.length = nLen x := (lab_all g (nLen x) (Nat.le_refl _)).1.len
    rw [List.drop_zero, List.take_of_length_le (by omega)]
    exact HoldEq.intro rfl
def shells10C (x : tabE.T) : List AV → Option Res := con1 soupE (fun s => some (none, some (s = x.1 ∧ Full x), .tup [.s (.sl i64E (ofR x)), .s (.int .i64 (ofL x (nLen x)).2)]))
theorem shells10Row (x : tabE.T) : FnRow Try.prog 55 (shells10C x) := ⟨con1_ok fun s r h => by
  cases h; exact fn_by (rulesF (fn := [(57, opp10C x)]) (fr := []) ⟨(opp10Row x), trivial⟩ trivial) Try.func55 (by kernel_rfl) fun _ h => shells10_vc s.1 s.2 x h, _, Try.func55, by kernel_rfl, by kernel_rfl⟩
end S1
