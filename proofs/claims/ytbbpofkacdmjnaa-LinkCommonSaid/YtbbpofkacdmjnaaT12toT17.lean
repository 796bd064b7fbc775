/- A part of the proofs of the laws of this seat: contracts of functions, each for every input that its text names. -/
import Derived.Test.YtbbpofkacdmjnaaT5toT11
set_option linter.unusedSimpArgs false
set_option linter.unusedVariables false
set_option maxHeartbeats 2000000
open Go Go.Vm Go.Proofs
namespace S1
set_option maxRecDepth 100000

/-! the table of a certified soup -/
theorem php : ∀ (L n : Nat) (g : Nat → Nat), (∀ i, i < n → g i < L) → (∀ i j, i < j → j < n → g i ≠ g j) → n ≤ L
  | 0, n, g, h, _ => by
    rcases Nat.eq_zero_or_pos n with e | e
    · omega
    · have := h 0 e; omega
  | L + 1, n, g, h, hd => by
    by_cases hx : ∃ i, i < n ∧ g i = L
    · obtain ⟨i, hi, e⟩ := hx
      have := php L (n - 1) (fun j => if j < i then g j else g (j + 1)) (fun j hj => by
        split
        · rename_i hji
          have h1 := h j (by omega); have := hd j i hji hi; omega
        · rename_i hji
          have h1 := h (j + 1) (by omega); have := hd i (j + 1) (by omega) (by omega); omega) (fun a b hab hb => by
        split <;> split
        · exact hd _ _ hab (by omega)
        · exact hd _ _ (by omega) (by omega)
        · omega
        · exact hd _ _ (by omega) (by omega))
      omega
    · have := php L n g (fun i hi => by
        have h1 := h i hi
        have : g i ≠ L := fun e => hx ⟨i, hi, e⟩
        omega) hd
      omega
def iter (f : Int → Int) (c : Int) : Nat → Int
  | 0 => c
  | k + 1 => f (iter f c k)
theorem iter_back {f : Int → Int} (inj : ∀ a b, 0 ≤ f a → f a = f b → a = b) {c : Int} : ∀ {i j : Nat}, (∀ m, 1 ≤ m → m ≤ i → 0 ≤ iter f c m) → iter f c i = iter f c (i + j) → iter f c j = c
  | 0, j, _, h => by rw [Nat.zero_add] at h; exact h.symm
  | i + 1, j, hp, h => by
    have h : f (iter f c i) = f (iter f c (i + j)) := by
      rw [show i + 1 + j = (i + j) + 1 by omega] at h; exact h
    exact iter_back inj (fun m h1 h2 => hp m h1 (by omega)) (inj _ _ (hp (i + 1) (by omega) (Nat.le_refl _)) h)
theorem pig {f : Int → Int} {L : Nat} (hr : ∀ c, 0 ≤ f c → f c < L) (inj : ∀ a b, 0 ≤ f a → f a = f b → a = b) {c : Int} {k : Nat} (h : ∀ j, 1 ≤ j → j ≤ k → 0 ≤ iter f c j ∧ iter f c j ≠ c) : k ≤ L := by
  refine php L k (fun i => (iter f c (i + 1)).toNat) (fun i hi => ?_) (fun i j hij hj e => ?_)
  · have h1 := (h (i + 1) (by omega) (by omega)).1
    have := hr (iter f c i) h1
    show (iter f c (i + 1)).toNat < L
    have : iter f c (i + 1) < L := this
    omega
  · have h1 := (h (i + 1) (by omega) (by omega)).1
    have h2 := (h (j + 1) (by omega) (by omega)).1
    have e : iter f c (i + 1) = iter f c (i + 1 + (j - i)) := by rw [show i + 1 + (j - i) = j + 1 by omega]; omega
    exact (h (j - i) (by omega) (by omega)).2 (iter_back inj (fun m a b => (h m a (by omega)).1) e)

theorem trn_in {c b : Int} {L : Nat} (h : 0 ≤ c ∧ c < 3 * (L : Int)) : 0 ≤ trn c b ∧ trn c b < 3 * (L : Int) := by unfold trn; omega
theorem trn1_inj {a b : Int} (h : trn a 1 = trn b 1) : a = b := by unfold trn at h; omega
theorem trn2_inj {a b : Int} (h : trn a 2 = trn b 2) : a = b := by unfold trn at h; omega
structure Good (x : tabE.T) : Prop where
  fit : fitS x.1
  map : ∀ e c, mget .arr2 x.2.1 e = some c → tHas x c = true ∧ tEdge x c = e
  uniq : ∀ p q, tHas x p = true → tHas x q = true → tEdge x p = tEdge x q → p = q
  ends : ∀ c, tHas x c = true → (tEdge x c).1 ≠ (tEdge x c).2
  first : ∀ v : Nat, x.2.2.getD v 0 ≤ 30000
  cor : ∀ c, tHas x c = true → tHas x (tCorner x (tVert x c)) = true
theorem hasNP {x : tabE.T} {c : Int} (h : tHas x c = true) : tHas x (tNext x c) = true ∧ tHas x (tPrev x c) = true := by
  unfold tNext tPrev; rw [if_pos h, if_pos h]
  rw [tHas_iff] at h
  exact ⟨(tHas_iff.2 (trn_in h)), (tHas_iff.2 (trn_in h))⟩
theorem has_neg {x : tabE.T} : tHas x (-1) = false := has_no (by omega)
theorem tEdge_no {x : tabE.T} {c : Int} (h : tHas x c = false) : tEdge x c = (-1, -1) := by
  unfold tEdge tNext tPrev
  rw [if_neg (by rw [h]; simp), if_neg (by rw [h]; simp)]
  unfold tVert; rw [if_neg (by rw [has_neg]; simp)]
theorem Good.opp {x : tabE.T} (g : Good x) {d : Int} (h : 0 ≤ tOpp x d) : tHas x d = true ∧ tHas x (tOpp x d) = true ∧ tEdge x (tOpp x d) = ((tEdge x d).2, (tEdge x d).1) := by
  unfold tOpp tFacing at *
  cases e : mget .arr2 x.2.1 ((tEdge x d).2, (tEdge x d).1) with
  | none => rw [e] at h; cases h
  | some o =>
    obtain ⟨h1, h2⟩ := g.map _ _ e
    refine ⟨?_, h1, h2⟩
    cases hd : tHas x d with
    | true => rfl
    | false =>
      rw [tEdge_no hd] at h2
      have := (tVert_in g.fit (hasNP h1).1).1
      have h3 : tVert x (tNext x o) = -1 := congrArg Prod.fst h2
      omega
def tBefore (x : tabE.T) (c : Int) : Int := if tOpp x (tPrev x c) < 0 then -1 else tPrev x (tOpp x (tPrev x c))
def tAfter (x : tabE.T) (c : Int) : Int := if tOpp x (tNext x c) < 0 then -1 else tNext x (tOpp x (tNext x c))
theorem tPrev_t {x : tabE.T} {c : Int} (h : tHas x c = true) : tPrev x c = trn c 2 := by unfold tPrev; rw [if_pos h]
theorem tNext_t {x : tabE.T} {c : Int} (h : tHas x c = true) : tNext x c = trn c 1 := by unfold tNext; rw [if_pos h]
theorem has_of_prev {x : tabE.T} {c : Int} (h : tHas x (tPrev x c) = true) : tHas x c = true := by
  cases e : tHas x c with
  | true => rfl
  | false => unfold tPrev at h; rw [if_neg (by rw [e]; simp), has_neg] at h; cases h
theorem has_of_next {x : tabE.T} {c : Int} (h : tHas x (tNext x c) = true) : tHas x c = true := by
  cases e : tHas x c with
  | true => rfl
  | false => unfold tNext at h; rw [if_neg (by rw [e]; simp), has_neg] at h; cases h
theorem Good.opp_inj {x : tabE.T} (g : Good x) {a b : Int} (h : 0 ≤ tOpp x a) (e : tOpp x a = tOpp x b) : a = b := by
  obtain ⟨h1, h2, h3⟩ := g.opp h
  obtain ⟨k1, k2, k3⟩ := g.opp (d := b) (by omega)
  rw [e, k3] at h3
  refine g.uniq _ _ h1 k1 (Prod.ext ?_ ?_)
  · exact (congrArg Prod.snd h3).symm
  · exact (congrArg Prod.fst h3).symm
theorem Good.before_has {x : tabE.T} (g : Good x) {c : Int} (h : 0 ≤ tBefore x c) : tHas x c = true ∧ tHas x (tBefore x c) = true ∧ 0 ≤ tOpp x (tPrev x c) := by
  unfold tBefore at *
  split at h
  · omega
  · rename_i ho
    obtain ⟨h1, h2, h3⟩ := g.opp (d := tPrev x c) (by omega)
    rw [if_neg ho]
    exact ⟨has_of_prev h1, (hasNP h2).2, by omega⟩
theorem Good.after_has {x : tabE.T} (g : Good x) {c : Int} (h : 0 ≤ tAfter x c) : tHas x c = true ∧ tHas x (tAfter x c) = true ∧ 0 ≤ tOpp x (tNext x c) := by
  unfold tAfter at *
  split at h
  · omega
  · rename_i ho
    obtain ⟨h1, h2, h3⟩ := g.opp (d := tNext x c) (by omega)
    rw [if_neg ho]
    exact ⟨has_of_next h1, (hasNP h2).1, by omega⟩
theorem Good.before_inj {x : tabE.T} (g : Good x) (a b : Int) (h : 0 ≤ tBefore x a) (e : tBefore x a = tBefore x b) : a = b := by
  obtain ⟨h1, h2, h3⟩ := g.before_has h
  obtain ⟨k1, k2, k3⟩ := g.before_has (c := b) (by omega)
  obtain ⟨_, o1, _⟩ := g.opp h3
  obtain ⟨_, o2, _⟩ := g.opp k3
  unfold tBefore at e
  rw [if_neg (by omega), if_neg (by omega), tPrev_t o1, tPrev_t o2] at e
  have := g.opp_inj h3 (trn2_inj e)
  rw [tPrev_t h1, tPrev_t k1] at this
  exact trn2_inj this
theorem Good.after_inj {x : tabE.T} (g : Good x) (a b : Int) (h : 0 ≤ tAfter x a) (e : tAfter x a = tAfter x b) : a = b := by
  obtain ⟨h1, h2, h3⟩ := g.after_has h
  obtain ⟨k1, k2, k3⟩ := g.after_has (c := b) (by omega)
  obtain ⟨_, o1, _⟩ := g.opp h3
  obtain ⟨_, o2, _⟩ := g.opp k3
  unfold tAfter at e
  rw [if_neg (by omega), if_neg (by omega), tNext_t o1, tNext_t o2] at e
  have := g.opp_inj h3 (trn1_inj e)
  rw [tNext_t h1, tNext_t k1] at this
  exact trn1_inj this
end S1

open Go Go.Vm Go.Proofs
namespace S1
set_option maxRecDepth 100000

/-! a certified soup's table is a good one -/
def eKey (l : List P3) (q : Nat) : P3 := (kTwice (l.getD (q / 3) (0, 0, 0))).getD (q % 3) (0, 0, 0)
theorem prA_same2 {kind : Int} {i : Nat} {av : List Int} {s : PS} {j : Nat} (h : (prA kind i av s j).2 = []) : prA kind i av s j = s ∧ (mget .arr2 s.1 (av.getD j 0, (i : Int))).getD false = true := by
  unfold prA at *
  cases e : (mget .arr2 s.1 (av.getD j 0, (i : Int))).getD false with
  | true => exact ⟨rfl, rfl⟩
  | false =>
    rw [e] at h
    exact absurd h (by simp)
theorem prAs_same {kind : Int} {i : Nat} {av : List Int} {s : PS} : ∀ {n : Nat}, (irec (prA kind i av) s n).2 = [] → irec (prA kind i av) s n = s ∧ ∀ j, j < n → (mget .arr2 s.1 (av.getD j 0, (i : Int))).getD false = true
  | 0, _ => ⟨rfl, fun j h => by omega⟩
  | n + 1, h => by
    obtain ⟨h1, h2⟩ := prA_same2 (s := irec (prA kind i av) s n) h
    have h : (prA kind i av (irec (prA kind i av) s n) n).2 = [] := h
    rw [h1] at h
    obtain ⟨h3, h4⟩ := prAs_same h
    refine ⟨h1.trans h3, fun j hj => ?_⟩
    by_cases e : j = n
    · subst e; rw [h3] at h2; exact h2
    · exact h4 j (by omega)
structure Uq (l : List P3) (n : Nat) (s : HadM × PS) : Prop where
  seen : s.2.1 = []
  dif : ∀ p q, p < q → q < n → eKey l p ≠ eKey l q
  had : ∀ p, p < n → hadAt s.1 (eKey l p) ≠ []
theorem prK_uq {l : List P3} {i m : Nat} (hm : m < 3) {s : HadM × PS} (h : s.2.2 = [] → Uq l (3 * i + m) s)
    (h2 : (prK 3 i (kTwice (l.getD i (0, 0, 0))) s m).2.2 = []) : s.2.2 = [] ∧ Uq l (3 * i + m + 1) (prK 3 i (kTwice (l.getD i (0, 0, 0))) s m) := by
  have hk : eKey l (3 * i + m) = (kTwice (l.getD i (0, 0, 0))).getD m (0, 0, 0) := by
    unfold eKey; rw [show (3 * i + m) / 3 = i by omega, show (3 * i + m) % 3 = m by omega]
  have h3 := prAs_same h2
  have h0 : s.2.2 = [] := by rw [← h3.1]; exact h2
  have u := h h0
  have he : hadAt s.1 (eKey l (3 * i + m)) = [] := by
    rw [hk]
    cases e : hadAt s.1 ((kTwice (l.getD i (0, 0, 0))).getD m (0, 0, 0)) with
    | nil => rfl
    | cons a r =>
      have := h3.2 0 (by rw [e]; simp)
      rw [u.seen] at this
      cases this
  refine ⟨h0, ?_, fun p q hpq hq e => ?_, fun p hp => ?_⟩
  · exact (congrArg Prod.fst h3.1).trans u.seen
  · by_cases hn : q = 3 * i + m
    · subst hn
      exact u.had p hpq (by rw [e]; exact he)
    · exact u.dif p q hpq (by omega) e
  · show hadAt (mset .arr3 s.1 ((kTwice (l.getD i (0, 0, 0))).getD m (0, 0, 0)) (hadAt s.1 ((kTwice (l.getD i (0, 0, 0))).getD m (0, 0, 0)) ++ [(i : Int)])) (eKey l p) ≠ []
    rw [hadAt_set]
    split
    · simp
    · rename_i hne
      by_cases hn : p = 3 * i + m
      · subst hn; exact absurd hk.symm hne
      · exact u.had p (by omega)
theorem prS_uq (l : List P3) : ∀ i, (prS kTwice 3 l i).2.2 = [] → Uq l (3 * i) (prS kTwice 3 l i)
  | 0, _ => ⟨rfl, fun p q _ h => by omega, fun p h => by omega⟩
  | i + 1, h => by
    have h : (irec (prK 3 i (kTwice (l.getD i (0, 0, 0)))) (prS kTwice 3 l i) 3).2.2 = [] := h
    have h0 := prS_uq l i
    have s1 := fun h => (prK_uq (m := 0) (by omega) (s := prS kTwice 3 l i) h0 h).2
    have s2 := fun h => (prK_uq (m := 1) (by omega) (s := irec (prK 3 i (kTwice (l.getD i (0, 0, 0)))) (prS kTwice 3 l i) 1) s1 h).2
    exact (prK_uq (m := 2) (by omega) (s := irec (prK 3 i (kTwice (l.getD i (0, 0, 0)))) (prS kTwice 3 l i) 2) s2 h).2
theorem kTwice_get (t : P3) {k : Nat} (h : k < 3) : (kTwice t).getD k (0, 0, 0) = (p3 t k, p3 t ((k + 1) % 3 : Nat), 0) := by
  have : k = 0 ∨ k = 1 ∨ k = 2 := by omega
  rcases this with e | e | e <;> subst e <;> rfl
theorem tEdge_key {x : tabE.T} {c : Int} (h : tHas x c = true) : eKey x.1.2 (trn c 1).toNat = ((tEdge x c).1, (tEdge x c).2, 0) := by
  have hc := tHas_iff.1 h
  have h1 := tHas_iff.1 (hasNP h).1
  have h2 := tHas_iff.1 (hasNP h).2
  unfold eKey
  rw [kTwice_get _ (by omega)]
  unfold tEdge
  rw [tVert_t h1.1 h1.2, tVert_t h2.1 h2.2]
  rw [tNext_t h, tPrev_t h]
  have e0 : 0 ≤ trn c 1 := by unfold trn; omega
  have e1 : (trn c 1).toNat / 3 = (c / 3).toNat := by unfold trn; omega
  have e2 : (trn c 1 / 3).toNat = (c / 3).toNat := by unfold trn; omega
  have e3 : (trn c 2 / 3).toNat = (c / 3).toNat := by unfold trn; omega
  have e4 : (((trn c 1).toNat % 3 : Nat) : Int) = trn c 1 % 3 := by omega
  have e5 : ((((trn c 1).toNat % 3 + 1) % 3 : Nat) : Int) = trn c 2 % 3 := by unfold trn; omega
  rw [e1, e2, e3, e4, e5]
theorem deg_no {l : List P3} (h : dgL l l.length = []) {i : Nat} (hi : i < l.length) : ¬ ((l.getD i (0, 0, 0)).1 = (l.getD i (0, 0, 0)).2.1 ∨ (l.getD i (0, 0, 0)).2.1 = (l.getD i (0, 0, 0)).2.2 ∨ (l.getD i (0, 0, 0)).2.2 = (l.getD i (0, 0, 0)).1) := by
  have := List.filterMap_eq_nil_iff.1 h i (List.mem_range.2 hi)
  unfold dgG at this
  split at this
  · cases this
  · rename_i hd
    exact fun e => hd (deg_t e)
theorem p3_ne {t : P3} (h : ¬ (t.1 = t.2.1 ∨ t.2.1 = t.2.2 ∨ t.2.2 = t.1)) {k : Nat} (hk : k < 3) : p3 t k ≠ p3 t ((k + 1) % 3 : Nat) := by
  have : k = 0 ∨ k = 1 ∨ k = 2 := by omega
  rcases this with e | e | e <;> subst e <;> intro e <;> apply h
  · exact .inl e
  · exact .inr (.inl e)
  · exact .inr (.inr e)
theorem newS_map (x : Int × List P3) : ∀ i, i ≤ 3 * x.2.length → ∀ e c, mget .arr2 (newS x i).1 e = some c → 0 ≤ c ∧ c < 3 * (x.2.length : Int) ∧ tEdge (x, [], []) c = e
  | 0, _, e, c, h => by cases h
  | i + 1, hi, e, c, h => by
    have h : mget .arr2 (mset .arr2 (newS x i).1 (tEdge (x, [], []) (3 * x.2.length - 1 - i)) (3 * x.2.length - 1 - i)) e = some c := h
    by_cases he : tEdge (x, [], []) (3 * x.2.length - 1 - i) = e
    · rw [he, mget_same] at h
      cases h
      exact ⟨by omega, by omega, he⟩
    · rw [mget_other _ he] at h
      exact newS_map x i (by omega) e c h
theorem newS_first (x : Int × List P3) (hl : x.2.length ≤ 8192) : ∀ i, i ≤ 3 * x.2.length → ∀ v, (newS x i).2.getD v 0 ≤ 30000
  | 0, _, v => by
    show (List.replicate _ _).getD v 0 ≤ _
    rw [List.getD_eq_getElem?_getD, List.getElem?_replicate]; split <;> decide
  | i + 1, hi, v => by
    show ((newS x i).2.set _ _).getD v 0 ≤ _
    rw [List.getD_eq_getElem?_getD, List.getElem?_set]
    split
    · split
      · show (3 * (x.2.length : Int) - 1 - i) ≤ 30000; omega
      · decide
    · rw [← List.getD_eq_getElem?_getD]; exact newS_first x hl i (by omega) v
theorem newS_in (x : Int × List P3) (hl : 0 < x.2.length) : ∀ i, i ≤ 3 * x.2.length → ∀ v, 0 ≤ (newS x i).2.getD v 0 ∧ (newS x i).2.getD v 0 < 3 * (x.2.length : Int)
  | 0, _, v => by
    show 0 ≤ (List.replicate _ _).getD v 0 ∧ (List.replicate _ _).getD v 0 < _
    have : ∀ n, (List.replicate n (0 : Int)).getD v 0 = 0 := fun n => by
      rw [List.getD_eq_getElem?_getD, List.getElem?_replicate]; split <;> rfl
    rw [this]; omega
  | i + 1, hi, v => by
    show 0 ≤ ((newS x i).2.set _ _).getD v 0 ∧ ((newS x i).2.set _ _).getD v 0 < _
    rw [List.getD_eq_getElem?_getD, List.getElem?_set]
    split
    · split
      · show 0 ≤ (3 * (x.2.length : Int) - 1 - i) ∧ (3 * (x.2.length : Int) - 1 - i) < 3 * (x.2.length : Int); omega
      · show (0 : Int) ≤ 0 ∧ (0 : Int) < 3 * (x.2.length : Int); omega
    · rw [← List.getD_eq_getElem?_getD]; exact newS_in x hl i (by omega) v
theorem good_new {s : Int × List P3} (h : Cert s) : Good (newT s) where
  fit := h.fit
  map e c he := by
    obtain ⟨h1, h2, h3⟩ := newS_map s _ (Nat.le_refl _) e c he
    exact ⟨tHas_iff.2 ⟨h1, h2⟩, h3⟩
  uniq p q hp hq e := by
    have hu := (prS_uq s.2 _ h.twi).dif
    have kp := tEdge_key hp
    have kq := tEdge_key hq
    rw [e, ← kq] at kp
    have ip := tHas_iff.1 (hasNP hp).1
    have iq := tHas_iff.1 (hasNP hq).1
    rw [tNext_t hp] at ip
    rw [tNext_t hq] at iq
    have ip : 0 ≤ trn p 1 ∧ trn p 1 < 3 * (s.2.length : Int) := ip
    have iq : 0 ≤ trn q 1 ∧ trn q 1 < 3 * (s.2.length : Int) := iq
    have kp : eKey s.2 (trn p 1).toNat = eKey s.2 (trn q 1).toNat := kp
    refine trn1_inj ?_
    rcases Nat.lt_trichotomy (trn p 1).toNat (trn q 1).toNat with hlt | heq | hgt
    · exact absurd kp (hu _ _ hlt (by omega))
    · omega
    · exact absurd kp.symm (hu _ _ hgt (by omega))
  ends c hc e := by
    have k := tEdge_key hc
    have i0 := tHas_iff.1 hc
    have i1 := tHas_iff.1 (hasNP hc).1
    rw [tNext_t hc] at i1
    have i1 : 0 ≤ trn c 1 ∧ trn c 1 < 3 * (s.2.length : Int) := i1
    unfold eKey at k
    rw [kTwice_get _ (by omega)] at k
    refine p3_ne (deg_no h.deg (i := (trn c 1).toNat / 3) (by omega)) (k := (trn c 1).toNat % 3) (by omega) ?_
    exact (congrArg Prod.fst k).trans (e.trans (congrArg (fun t : P3 => t.2.1) k).symm)
  cor c hc := by
    have i0 := tHas_iff.1 hc
    have i0 : 0 ≤ c ∧ c < 3 * (s.2.length : Int) := i0
    have hv := tVert_in (x := newT s) h.fit hc
    have hlen : (newT s).2.2.length = s.1.toNat := newS_len s _
    have hv2 : 0 ≤ tVert (newT s) c ∧ tVert (newT s) c < s.1 := hv
    unfold tCorner
    rw [if_pos (by rw [hlen]; omega)]
    exact tHas_iff.2 (newS_in s (by omega) _ (Nat.le_refl _) _)
  first v := newS_first s h.fit.2.2.1 _ (Nat.le_refl _) v
end S1

open Go Go.Vm Go.Proofs
namespace S1
set_option maxRecDepth 100000

/-! ring -/
theorem opp_le {x : tabE.T} (g : Good x) (c : Int) : tOpp x c ≤ 30000 := by
  by_cases h : 0 ≤ tOpp x c
  · have := tHas_iff.1 (g.opp h).2.1
    have := g.fit.2.2.1
    omega
  · omega
theorem prev_le {x : tabE.T} (g : Good x) (c : Int) : tPrev x c ≤ 30000 := by
  cases h : tHas x c with
  | false => unfold tPrev; rw [if_neg (by rw [h]; simp)]; decide
  | true =>
    have := tHas_iff.1 (hasNP h).2
    have := g.fit.2.2.1
    omega
theorem next_le {x : tabE.T} (g : Good x) (c : Int) : tNext x c ≤ 30000 := by
  cases h : tHas x c with
  | false => unfold tNext; rw [if_neg (by rw [h]; simp)]; decide
  | true =>
    have := tHas_iff.1 (hasNP h).1
    have := g.fit.2.2.1
    omega
theorem before_vc (x : tabE.T) (c : Int) (h : Good x ∧ c ≤ 30000) : afun ⟨tyL, [(59, prevC), (22, oppC)], []⟩ Try.f90 [(ETy.pt tabE).av (some x), i64E.av c] (fun v => v = .s (.int .i64 (tBefore x c))) := by
  repeat' (conv => whnf
           first
            | done
            | refine Need.intro (by first | rfl | omega | (simp only [i64ok] at *; omega)) ?_
            | refine Need.intro (Hold.out ?_) ?_
            | refine Give.intro fun _ => ?_
            | refine Both.intro ?_ ?_
            | refine BIf.and ?_
            | refine BIf.or ?_
            | refine BIf.eqi (fun _ => ?_) (fun _ => ?_)
            | refine BIf.nei (fun _ => ?_) (fun _ => ?_)
            | refine BIf.dec (fun _ => ?_) (fun _ => ?_)
            | refine BIf.nt ?_
            | refine BIf.intro (fun _ => ?_) (fun _ => ?_)
            | refine And.intro rfl ?_
            | refine And.intro (HoldEq.out ?_) ?_
            | refine And.intro (HoldOb.out ?_) ?_
            | exact True.intro
            | refine HoldEq.out ?_
            | refine HoldObs.out ?_
            | refine HoldOr.out ?_)
  all_goals try first | refine HoldEq.int ?_ | refine HoldEq.bool ?_ | refine HoldEq.sl ?_ | refine HoldEq.own ?_ | refine HoldEq.ownS ?_ ?_ | refine HoldOb.row ?_ | refine HoldOb.map ?_ | refine HoldOb.gmap ?_ | refine HoldOb.grow ?_ | refine HoldObs.row ?_
  all_goals try simp only [take_one, take_one', set_one, take_all, List.length_singleton, rec_self, Int.toNat_natCast, pair_eta, ETy.dflt, List.getD_cons_zero, List.getD_cons_succ, Int.reduceToNat, Int.reduceAdd, Int.reduceSub, Int.reduceNeg, Nat.reduceAdd, Nat.zero_add, tBefore] at *
  · exact Hold.intro (Int.le_trans h.2 (by decide))
  · exact Hold.intro (Int.le_trans (prev_le h.1 _) (by decide))
  · rw [if_pos (by assumption)]
  · exact Hold.intro (Int.le_trans (opp_le h.1 _) (by decide))
  · rw [if_neg (by assumption)]
def beforeC : List AV → Option Res := con2P tabE i64E (fun x c => some (none, some (Good x ∧ c ≤ 30000), .s (.int .i64 (tBefore x c))))
theorem beforeRow : FnRow Try.prog 90 beforeC := ⟨con2P_ok fun x c r h => by cases h; exact fn_by (rulesF (fn := [(59, prevC), (22, oppC)]) (fr := []) ⟨prevRow, oppRow, trivial⟩ trivial) Try.func90 (by kernel_rfl) fun _ h => before_vc x c h, _, Try.func90, by kernel_rfl, by kernel_rfl⟩
theorem after_vc (x : tabE.T) (c : Int) (h : Good x ∧ c ≤ 30000) : afun ⟨tyL, [(58, nextC), (22, oppC)], []⟩ Try.f65 [(ETy.pt tabE).av (some x), i64E.av c] (fun v => v = .s (.int .i64 (tAfter x c))) := by
  repeat' (conv => whnf
           first
            | done
            | refine Need.intro (by first | rfl | omega | (simp only [i64ok] at *; omega)) ?_
            | refine Need.intro (Hold.out ?_) ?_
            | refine Give.intro fun _ => ?_
            | refine Both.intro ?_ ?_
            | refine BIf.and ?_
            | refine BIf.or ?_
            | refine BIf.eqi (fun _ => ?_) (fun _ => ?_)
            | refine BIf.nei (fun _ => ?_) (fun _ => ?_)
            | refine BIf.dec (fun _ => ?_) (fun _ => ?_)
            | refine BIf.nt ?_
            | refine BIf.intro (fun _ => ?_) (fun _ => ?_)
            | refine And.intro rfl ?_
            | refine And.intro (HoldEq.out ?_) ?_
            | refine And.intro (HoldOb.out ?_) ?_
            | exact True.intro
            | refine HoldEq.out ?_
            | refine HoldObs.out ?_
            | refine HoldOr.out ?_)
  all_goals try first | refine HoldEq.int ?_ | refine HoldEq.bool ?_ | refine HoldEq.sl ?_ | refine HoldEq.own ?_ | refine HoldEq.ownS ?_ ?_ | refine HoldOb.row ?_ | refine HoldOb.map ?_ | refine HoldOb.gmap ?_ | refine HoldOb.grow ?_ | refine HoldObs.row ?_
  all_goals try simp only [take_one, take_one', set_one, take_all, List.length_singleton, rec_self, Int.toNat_natCast, pair_eta, ETy.dflt, List.getD_cons_zero, List.getD_cons_succ, Int.reduceToNat, Int.reduceAdd, Int.reduceSub, Int.reduceNeg, Nat.reduceAdd, Nat.zero_add, tAfter] at *
  · exact Hold.intro (Int.le_trans h.2 (by decide))
  · exact Hold.intro (Int.le_trans (next_le h.1 _) (by decide))
  · rw [if_pos (by assumption)]
  · exact Hold.intro (Int.le_trans (opp_le h.1 _) (by decide))
  · rw [if_neg (by assumption)]
def afterC : List AV → Option Res := con2P tabE i64E (fun x c => some (none, some (Good x ∧ c ≤ 30000), .s (.int .i64 (tAfter x c))))
theorem afterRow : FnRow Try.prog 65 afterC := ⟨con2P_ok fun x c r h => by cases h; exact fn_by (rulesF (fn := [(58, nextC), (22, oppC)]) (fr := []) ⟨nextRow, oppRow, trivial⟩ trivial) Try.func65 (by kernel_rfl) fun _ h => after_vc x c h, _, Try.func65, by kernel_rfl, by kernel_rfl⟩
def tThere (x : tabE.T) (v : Int) : Bool := decide (0 ≤ v) && (decide (v < x.1.1) && decide (0 ≤ tCorner x v))
theorem there_vc (x : tabE.T) (v : Int) : afun ⟨tyL, [(74, verticesC), (87, cornerC)], []⟩ Try.f62 [(ETy.pt tabE).av (some x), i64E.av v] (fun r => r = .s (.bool (tThere x v))) := by
  repeat' (conv => whnf
           first
            | done
            | refine Need.intro (by first | rfl | omega | (simp only [i64ok] at *; omega)) ?_
            | refine Need.intro (Hold.out ?_) ?_
            | refine Give.intro fun _ => ?_
            | refine Both.intro ?_ ?_
            | refine BIf.and ?_
            | refine BIf.or ?_
            | refine BIf.eqi (fun _ => ?_) (fun _ => ?_)
            | refine BIf.nei (fun _ => ?_) (fun _ => ?_)
            | refine BIf.dec (fun _ => ?_) (fun _ => ?_)
            | refine BIf.nt ?_
            | refine BIf.intro (fun _ => ?_) (fun _ => ?_)
            | refine And.intro rfl ?_
            | refine And.intro (HoldEq.out ?_) ?_
            | refine And.intro (HoldOb.out ?_) ?_
            | exact True.intro
            | refine HoldEq.out ?_
            | refine HoldObs.out ?_
            | refine HoldOr.out ?_)
  all_goals try first | refine HoldEq.int ?_ | refine HoldEq.bool ?_ | refine HoldEq.sl ?_ | refine HoldEq.own ?_ | refine HoldEq.ownS ?_ ?_ | refine HoldOb.row ?_ | refine HoldOb.map ?_ | refine HoldOb.gmap ?_ | refine HoldOb.grow ?_ | refine HoldObs.row ?_
  all_goals try simp only [take_one, take_one', set_one, take_all, List.length_singleton, rec_self, Int.toNat_natCast, pair_eta, ETy.dflt, List.getD_cons_zero, List.getD_cons_succ, Int.reduceToNat, Int.reduceAdd, Int.reduceSub, Int.reduceNeg, Nat.reduceAdd, Nat.zero_add, tThere] at *
  · rename_i h1 h2
    rw [decide_eq_true h1, decide_eq_true h2]; rfl
  · rename_i h1 h2
    rw [decide_eq_false h2]; simp
  · rename_i h1
    rw [decide_eq_false h1]; rfl
def thereP : tabE.T → Int → Bool := tThere
theorem there0_vc {fn} (v : Int) : afun ⟨tyL, fn, []⟩ Try.f62 [(ETy.pt tabE).av none, i64E.av v] (fun r => r = .s (.bool false)) := by
  repeat' (conv => whnf
           first
            | done
            | refine Need.intro (by first | rfl | omega | (simp only [i64ok] at *; omega)) ?_
            | refine Need.intro (Hold.out ?_) ?_
            | refine Give.intro fun _ => ?_
            | refine Both.intro ?_ ?_
            | refine BIf.and ?_
            | refine BIf.or ?_
            | refine BIf.eqi (fun _ => ?_) (fun _ => ?_)
            | refine BIf.nei (fun _ => ?_) (fun _ => ?_)
            | refine BIf.dec (fun _ => ?_) (fun _ => ?_)
            | refine BIf.nt ?_
            | refine BIf.intro (fun _ => ?_) (fun _ => ?_)
            | refine And.intro rfl ?_
            | refine And.intro (HoldEq.out ?_) ?_
            | refine And.intro (HoldOb.out ?_) ?_
            | exact True.intro
            | refine HoldEq.out ?_
            | refine HoldObs.out ?_
            | refine HoldOr.out ?_)
  all_goals try first | refine HoldEq.int ?_ | refine HoldEq.bool ?_ | refine HoldEq.sl ?_ | refine HoldEq.own ?_ | refine HoldEq.ownS ?_ ?_ | refine HoldOb.row ?_ | refine HoldOb.map ?_ | refine HoldOb.gmap ?_ | refine HoldOb.grow ?_ | refine HoldObs.row ?_
  all_goals try simp only [take_one, take_one', set_one, take_all, List.length_singleton, rec_self, Int.toNat_natCast, pair_eta, ETy.dflt, List.getD_cons_zero, List.getD_cons_succ, Int.reduceToNat, Int.reduceAdd, Int.reduceSub, Int.reduceNeg, Nat.reduceAdd, Nat.zero_add] at *
/-- For a table or none. -/
def onO {α : Type} (o : Option tabE.T) (d : α) (f : tabE.T → α) : α := match o with | some x => f x | none => d
def thereC : List AV → Option Res := con2 (.pt tabE) i64E (fun o v => some (none, none, .s (.bool (onO o false fun x => tThere x v))))
theorem thereRow : FnRow Try.prog 62 thereC := ⟨con2_ok fun o v r h => by
  cases h
  cases o with
  | none => exact fn_by (rulesF (fn := [(74, verticesC), (87, cornerC)]) (fr := []) ⟨verticesRow, cornerRow, trivial⟩ trivial) Try.func62 (by kernel_rfl) fun _ _ => there0_vc v
  | some x => exact fn_by (rulesF (fn := [(74, verticesC), (87, cornerC)]) (fr := []) ⟨verticesRow, cornerRow, trivial⟩ trivial) Try.func62 (by kernel_rfl) fun _ _ => there_vc x v, _, Try.func62, by kernel_rfl, by kernel_rfl⟩
def firstF (x : tabE.T) (c0 : Int) : Nat → Int → Int × Bool
  | 0, _ => (0, false)
  | n + 1, c => if tBefore x c < 0 then (c, true) else if tBefore x c = c0 then (c0, false) else firstF x c0 n (tBefore x c)
def firstR (x : tabE.T) (v : Int) : Int × Bool := firstF x (tCorner x v) 30000 (tCorner x v)
def FInv (f : Int → Int) (c0 : Int) (k : Nat) : Prop := ∀ j, 1 ≤ j → j ≤ k → 0 ≤ iter f c0 j ∧ iter f c0 j ≠ c0
theorem FInv.succ {f : Int → Int} {c0 : Int} {k : Nat} (h : FInv f c0 k) (h1 : ¬ f (iter f c0 k) < 0) (h2 : ¬ f (iter f c0 k) = c0) : FInv f c0 (k + 1) := fun j a b => by
  by_cases e : j = k + 1
  · subst e; exact ⟨by show 0 ≤ f (iter f c0 k); omega, h2⟩
  · exact h j a (by omega)
theorem fin_before {x : tabE.T} (g : Good x) {c0 : Int} {k : Nat} (h : FInv (tBefore x) c0 k) : k ≤ 24576 := by
  have := pig (L := 3 * x.1.2.length) (fun c hc => by have := tHas_iff.1 (g.before_has hc).2.1; omega) g.before_inj h
  have := g.fit.2.2.1
  omega
theorem fin_after {x : tabE.T} (g : Good x) {c0 : Int} {k : Nat} (h : FInv (tAfter x) c0 k) : k ≤ 24576 := by
  have := pig (L := 3 * x.1.2.length) (fun c hc => by have := tHas_iff.1 (g.after_has hc).2.1; omega) g.after_inj h
  have := g.fit.2.2.1
  omega
theorem corner_le {x : tabE.T} (g : Good x) (v : Int) : tCorner x v ≤ 30000 := by
  unfold tCorner; split
  · exact g.first _
  · decide
theorem iterB_le {x : tabE.T} (g : Good x) {c0 : Int} (h0 : c0 ≤ 30000) : ∀ k, iter (tBefore x) c0 k ≤ 30000
  | 0 => h0
  | k + 1 => by
    show tBefore x (iter (tBefore x) c0 k) ≤ 30000
    unfold tBefore; split
    · decide
    · exact prev_le g _
theorem iterA_le {x : tabE.T} (g : Good x) {c0 : Int} (h0 : c0 ≤ 30000) : ∀ k, iter (tAfter x) c0 k ≤ 30000
  | 0 => h0
  | k + 1 => by
    show tAfter x (iter (tAfter x) c0 k) ≤ 30000
    unfold tAfter; split
    · decide
    · exact next_le g _
def loopF (x : tabE.T) (c0 : Int) : Spec Nat where
  inv k := FInv (tBefore x) c0 k ∧ firstF x c0 30000 c0 = firstF x c0 (30000 - k) (iter (tBefore x) c0 k)
  live k := [(7, .s (.int .i64 (iter (tBefore x) c0 k)))]
  keep := [0, 6]
  heap _ := []
  keepH := []
  mu k := 30000 - k
theorem firstF_step {x : tabE.T} {c0 c : Int} {k : Nat} (h : k ≤ 24576) : firstF x c0 (30000 - k) c = if tBefore x c < 0 then (c, true) else if tBefore x c = c0 then (c0, false) else firstF x c0 (30000 - (k + 1)) (tBefore x c) := by
  rw [show 30000 - k = (30000 - (k + 1)) + 1 by omega]; rfl
theorem first_vc (x : tabE.T) (v : Int) (g : Good x) : afun ⟨tyL, [(87, cornerC), (90, beforeC)], []⟩ Try.f63 [(ETy.pt tabE).av (some x), i64E.av v] (fun r => r = .tup [.s (.int .i64 (firstR x v).1), .s (.bool (firstR x v).2)]) := by
  repeat' (conv => whnf
           first
            | done
            | refine Need.intro (by first | rfl | omega | (simp only [i64ok] at *; omega)) ?_
            | refine Need.intro (Hold.out ?_) ?_
            | refine Give.intro fun _ => ?_
            | refine Both.intro ?_ ?_
            | refine BIf.and ?_
            | refine BIf.or ?_
            | refine BIf.eqi (fun _ => ?_) (fun _ => ?_)
            | refine BIf.nei (fun _ => ?_) (fun _ => ?_)
            | refine BIf.dec (fun _ => ?_) (fun _ => ?_)
            | refine BIf.nt ?_
            | refine BIf.intro (fun _ => ?_) (fun _ => ?_)
            | ((first | (with_reducible show Or (∃ n, rounds (acode _ (Code.seq (Code.region 3 _ _) _)) _ n _) _) | (with_reducible show Or (∃ n, rounds (acode _ (Code.seq (Code.seq (Code.region 3 _ _) _) _)) _ n _) _) | (with_reducible show Or (∃ n, rounds (acode _ (Code.seq (Code.seq (Code.seq (Code.region 3 _ _) _) _) _)) _ n _) _) | (with_reducible show Or (∃ n, rounds (acode _ (Code.seq (Code.seq (Code.seq (Code.seq (Code.region 3 _ _) _) _) _) _)) _ n _) _) | (with_reducible show Or (∃ n, rounds (acode _ (Code.block _ (Code.seq (Code.region 3 _ _) _))) _ n _) _) | (with_reducible show Or (∃ n, rounds (acode _ (Code.block _ (Code.seq (Code.seq (Code.region 3 _ _) _) _))) _ n _) _) | (with_reducible show Or (∃ n, rounds (acode _ (Code.block _ (Code.seq (Code.seq (Code.seq (Code.region 3 _ _) _) _) _))) _ n _) _) | (with_reducible show Or (∃ n, rounds (acode _ (Code.block _ (Code.seq (Code.seq (Code.seq (Code.seq (Code.region 3 _ _) _) _) _) _))) _ n _) _)); refine Or.inr (Exists.intro (Nat) (Exists.intro (loopF x (tCorner x v)) (And.intro (Exists.intro (0) (And.intro (Hold.out ?_) (And.intro ?_ (And.intro ?_ rfl)))) (fun k hk => ?_)))))
            | ((with_reducible show (∃ y, And (Spec.inv (loopF _ _) y) _)); refine Exists.intro (k + 1) (And.intro (Hold.out ?_) (And.intro (And.intro ?_ (And.intro ?_ rfl)) (Hold.out ?_))))
            | refine And.intro rfl ?_
            | refine And.intro (HoldEq.out ?_) ?_
            | refine And.intro (HoldOb.out ?_) ?_
            | exact True.intro
            | refine HoldEq.out ?_
            | refine HoldObs.out ?_
            | refine HoldOr.out ?_)
  all_goals try first | refine HoldEq.int ?_ | refine HoldEq.bool ?_ | refine HoldEq.sl ?_ | refine HoldEq.own ?_ | refine HoldEq.ownS ?_ ?_ | refine HoldOb.row ?_ | refine HoldOb.map ?_ | refine HoldOb.gmap ?_ | refine HoldOb.grow ?_ | refine HoldObs.row ?_
  all_goals try simp only [take_one, take_one', set_one, take_all, List.length_singleton, rec_self, Int.toNat_natCast, pair_eta, ETy.dflt, List.getD_cons_zero, List.getD_cons_succ, Int.reduceToNat, Int.reduceAdd, Int.reduceSub, Int.reduceNeg, Nat.reduceAdd, Nat.zero_add, loopF] at *
  · exact Hold.intro ⟨fun j a b => by omega, rfl⟩
  all_goals have hk24 := fin_before g hk.1
  · exact Hold.intro ⟨g, iterB_le g (corner_le g v) k⟩
  · unfold firstR; rw [hk.2, firstF_step hk24, if_pos (by assumption)]; exact HoldEq.intro rfl
  · unfold firstR; rw [hk.2, firstF_step hk24, if_neg (by assumption), if_pos (by assumption)]; exact HoldEq.intro rfl
  · refine Hold.intro ⟨hk.1.succ (by assumption) (by assumption), ?_⟩
    rw [hk.2, firstF_step hk24, if_neg (by assumption), if_neg (by assumption)]; rfl
  · exact Hold.intro (by omega)
def firstC : List AV → Option Res := con2P tabE i64E (fun x v => some (none, some (Good x), .tup [.s (.int .i64 (firstR x v).1), .s (.bool (firstR x v).2)]))
theorem firstRow : FnRow Try.prog 63 firstC := ⟨con2P_ok fun x v r h => by cases h; exact fn_by (rulesF (fn := [(87, cornerC), (90, beforeC)]) (fr := []) ⟨cornerRow, beforeRow, trivial⟩ trivial) Try.func63 (by kernel_rfl) fun _ h => first_vc x v h, _, Try.func63, by kernel_rfl, by kernel_rfl⟩
def innerR (x : tabE.T) (v : Int) : Bool := tThere x v && !(firstR x v).2
theorem inner_vc (x : tabE.T) (v : Int) (g : Good x) : afun ⟨tyL, [(62, thereC), (63, firstC)], []⟩ Try.f25 [(ETy.pt tabE).av (some x), i64E.av v] (fun r => r = .s (.bool (innerR x v))) := by
  repeat' (conv => whnf
           first
            | done
            | refine Need.intro (by first | rfl | omega | (simp only [i64ok] at *; omega)) ?_
            | refine Need.intro (Hold.out ?_) ?_
            | refine Give.intro fun _ => ?_
            | refine Both.intro ?_ ?_
            | refine BIf.and ?_
            | refine BIf.or ?_
            | refine BIf.eqi (fun _ => ?_) (fun _ => ?_)
            | refine BIf.nei (fun _ => ?_) (fun _ => ?_)
            | refine BIf.dec (fun _ => ?_) (fun _ => ?_)
            | refine BIf.nt ?_
            | refine BIf.intro (fun _ => ?_) (fun _ => ?_)
            | refine And.intro rfl ?_
            | refine And.intro (HoldEq.out ?_) ?_
            | refine And.intro (HoldOb.out ?_) ?_
            | exact True.intro
            | refine HoldEq.out ?_
            | refine HoldObs.out ?_
            | refine HoldOr.out ?_)
  all_goals try first | refine HoldEq.int ?_ | refine HoldEq.bool ?_ | refine HoldEq.sl ?_ | refine HoldEq.own ?_ | refine HoldEq.ownS ?_ ?_ | refine HoldOb.row ?_ | refine HoldOb.map ?_ | refine HoldOb.gmap ?_ | refine HoldOb.grow ?_ | refine HoldObs.row ?_
  all_goals try simp only [take_one, take_one', set_one, take_all, List.length_singleton, rec_self, Int.toNat_natCast, pair_eta, ETy.dflt, List.getD_cons_zero, List.getD_cons_succ, Int.reduceToNat, Int.reduceAdd, Int.reduceSub, Int.reduceNeg, Nat.reduceAdd, Nat.zero_add, innerR, tThere] at *
  all_goals (simp only [*, decide_true, decide_false, Bool.true_and, Bool.false_and, Bool.and_false])
def innerC : List AV → Option Res := con2P tabE i64E (fun x v => some (none, some (Good x), .s (.bool (innerR x v))))
theorem innerRow : FnRow Try.prog 25 innerC := ⟨con2P_ok fun x v r h => by cases h; exact fn_by (rulesF (fn := [(62, thereC), (63, firstC)]) (fr := []) ⟨thereRow, firstRow, trivial⟩ trivial) Try.func25 (by kernel_rfl) fun _ h => inner_vc x v h, _, Try.func25, by kernel_rfl, by kernel_rfl⟩
def nearR (x : tabE.T) (a b : Int) : Bool := decide (0 ≤ tFacing x (a, b)) || decide (0 ≤ tFacing x (b, a))
theorem near_vc (x : tabE.T) (a b : Int) : afun ⟨tyL, [(60, facingC)], []⟩ Try.f23 [(ETy.pt tabE).av (some x), i64E.av a, i64E.av b] (fun r => r = .s (.bool (nearR x a b))) := by
  repeat' (conv => whnf
           first
            | done
            | refine Need.intro (by first | rfl | omega | (simp only [i64ok] at *; omega)) ?_
            | refine Need.intro (Hold.out ?_) ?_
            | refine Give.intro fun _ => ?_
            | refine Both.intro ?_ ?_
            | refine BIf.and ?_
            | refine BIf.or ?_
            | refine BIf.eqi (fun _ => ?_) (fun _ => ?_)
            | refine BIf.nei (fun _ => ?_) (fun _ => ?_)
            | refine BIf.dec (fun _ => ?_) (fun _ => ?_)
            | refine BIf.nt ?_
            | refine BIf.intro (fun _ => ?_) (fun _ => ?_)
            | refine And.intro rfl ?_
            | refine And.intro (HoldEq.out ?_) ?_
            | refine And.intro (HoldOb.out ?_) ?_
            | exact True.intro
            | refine HoldEq.out ?_
            | refine HoldObs.out ?_
            | refine HoldOr.out ?_)
  all_goals try first | refine HoldEq.int ?_ | refine HoldEq.bool ?_ | refine HoldEq.sl ?_ | refine HoldEq.own ?_ | refine HoldEq.ownS ?_ ?_ | refine HoldOb.row ?_ | refine HoldOb.map ?_ | refine HoldOb.gmap ?_ | refine HoldOb.grow ?_ | refine HoldObs.row ?_
  all_goals try simp only [take_one, take_one', set_one, take_all, List.length_singleton, rec_self, Int.toNat_natCast, pair_eta, ETy.dflt, List.getD_cons_zero, List.getD_cons_succ, Int.reduceToNat, Int.reduceAdd, Int.reduceSub, Int.reduceNeg, Nat.reduceAdd, Nat.zero_add, nearR] at *
  · rename_i h; rw [decide_eq_true h]; rfl
  · rename_i h; rw [decide_eq_false h]; rfl
theorem near0_vc {fn} (a b : Int) : afun ⟨tyL, fn, []⟩ Try.f23 [(ETy.pt tabE).av none, i64E.av a, i64E.av b] (fun r => r = .s (.bool false)) := by
  repeat' (conv => whnf
           first
            | done
            | refine Need.intro (by first | rfl | omega | (simp only [i64ok] at *; omega)) ?_
            | refine Need.intro (Hold.out ?_) ?_
            | refine Give.intro fun _ => ?_
            | refine Both.intro ?_ ?_
            | refine BIf.and ?_
            | refine BIf.or ?_
            | refine BIf.eqi (fun _ => ?_) (fun _ => ?_)
            | refine BIf.nei (fun _ => ?_) (fun _ => ?_)
            | refine BIf.dec (fun _ => ?_) (fun _ => ?_)
            | refine BIf.nt ?_
            | refine BIf.intro (fun _ => ?_) (fun _ => ?_)
            | refine And.intro rfl ?_
            | refine And.intro (HoldEq.out ?_) ?_
            | refine And.intro (HoldOb.out ?_) ?_
            | exact True.intro
            | refine HoldEq.out ?_
            | refine HoldObs.out ?_
            | refine HoldOr.out ?_)
  all_goals try first | refine HoldEq.int ?_ | refine HoldEq.bool ?_ | refine HoldEq.sl ?_ | refine HoldEq.own ?_ | refine HoldEq.ownS ?_ ?_ | refine HoldOb.row ?_ | refine HoldOb.map ?_ | refine HoldOb.gmap ?_ | refine HoldOb.grow ?_ | refine HoldObs.row ?_
  all_goals try simp only [take_one, take_one', set_one, take_all, List.length_singleton, rec_self, Int.toNat_natCast, pair_eta, ETy.dflt, List.getD_cons_zero, List.getD_cons_succ, Int.reduceToNat, Int.reduceAdd, Int.reduceSub, Int.reduceNeg, Nat.reduceAdd, Nat.zero_add] at *
def nearC : List AV → Option Res := con3 (.pt tabE) i64E i64E (fun o a b => some (none, none, .s (.bool (onO o false fun x => nearR x a b))))
theorem nearRow : FnRow Try.prog 23 nearC := ⟨con3_ok fun o a b r h => by
  cases h
  cases o with
  | none => exact fn_by (rulesF (fn := [(60, facingC)]) (fr := []) ⟨facingRow, trivial⟩ trivial) Try.func23 (by kernel_rfl) fun _ _ => near0_vc a b
  | some x => exact fn_by (rulesF (fn := [(60, facingC)]) (fr := []) ⟨facingRow, trivial⟩ trivial) Try.func23 (by kernel_rfl) fun _ _ => near_vc x a b, _, Try.func23, by kernel_rfl, by kernel_rfl⟩
/-! gypsumlaw10.Laid -/
def greatR (s : Int × List P3) : Int := if s.2.length > 40 then 1 else if s.1 > 60 then 1 else if s.1 < -1000 then 1 else 0
theorem great_vc {fn} (n : Int) (l : List P3) : afun ⟨tyL, fn, []⟩ Try.f44 [soupE.av (n, l)] (fun r => r = .s (.int .i64 (greatR (n, l)))) := by
  repeat' (conv => whnf
           first
            | done
            | refine Need.intro (by first | rfl | omega | (simp only [i64ok] at *; omega)) ?_
            | refine Need.intro (Hold.out ?_) ?_
            | refine Give.intro fun _ => ?_
            | refine Both.intro ?_ ?_
            | refine BIf.and ?_
            | refine BIf.or ?_
            | refine BIf.eqi (fun _ => ?_) (fun _ => ?_)
            | refine BIf.nei (fun _ => ?_) (fun _ => ?_)
            | refine BIf.dec (fun _ => ?_) (fun _ => ?_)
            | refine BIf.nt ?_
            | refine BIf.intro (fun _ => ?_) (fun _ => ?_)
            | refine And.intro rfl ?_
            | refine And.intro (HoldEq.out ?_) ?_
            | refine And.intro (HoldOb.out ?_) ?_
            | exact True.intro
            | refine HoldEq.out ?_
            | refine HoldObs.out ?_
            | refine HoldOr.out ?_)
  all_goals try first | refine HoldEq.int ?_ | refine HoldEq.bool ?_ | refine HoldEq.sl ?_ | refine HoldEq.own ?_ | refine HoldEq.ownS ?_ ?_ | refine HoldOb.row ?_ | refine HoldOb.map ?_ | refine HoldOb.gmap ?_ | refine HoldOb.grow ?_ | refine HoldObs.row ?_
  all_goals try simp only [take_one, take_one', set_one, take_all, List.length_singleton, rec_self, Int.toNat_natCast, pair_eta, ETy.dflt, List.getD_cons_zero, List.getD_cons_succ, Int.reduceToNat, Int.reduceAdd, Int.reduceSub, Int.reduceNeg, Nat.reduceAdd, Nat.zero_add, greatR] at *
  · rw [if_pos (by omega)]
  · rw [if_neg (by omega), if_pos (by omega)]
  · rw [if_neg (by omega), if_neg (by omega), if_pos (by omega)]
  · rw [if_neg (by omega), if_neg (by omega), if_neg (by omega)]
def greatC : List AV → Option Res := con1 soupE (fun s => some (none, none, .s (.int .i64 (greatR s))))
theorem greatRow : FnRow Try.prog 44 greatC := ⟨con1_ok fun s r h => by cases h; exact fn_by (rulesF (fn := []) (fr := []) trivial trivial) Try.func44 (by kernel_rfl) fun _ _ => great_vc s.1 s.2, _, Try.func44, by kernel_rfl, by kernel_rfl⟩
def laidO (s : Int × List P3) : Option tabE.T := if greatR s = 1 then none else newO s
theorem laid_vc (n : Int) (l : List P3) : afun ⟨tyL, [(44, greatC), (28, newC)], []⟩ Try.f15 [soupE.av (n, l)] (fun r => r = if greatR (n, l) = 1 then nilO none else (ETy.pt tabE).av (newO (n, l))) := by
  repeat' (conv => whnf
           first
            | done
            | refine Need.intro (by first | rfl | omega | (simp only [i64ok] at *; omega)) ?_
            | refine Need.intro (Hold.out ?_) ?_
            | refine Give.intro fun _ => ?_
            | refine Both.intro ?_ ?_
            | refine BIf.and ?_
            | refine BIf.or ?_
            | refine BIf.eqi (fun _ => ?_) (fun _ => ?_)
            | refine BIf.nei (fun _ => ?_) (fun _ => ?_)
            | refine BIf.dec (fun _ => ?_) (fun _ => ?_)
            | refine BIf.nt ?_
            | refine BIf.intro (fun _ => ?_) (fun _ => ?_)
            | refine And.intro rfl ?_
            | refine And.intro (HoldEq.out ?_) ?_
            | refine And.intro (HoldOb.out ?_) ?_
            | exact True.intro
            | refine HoldEq.out ?_
            | refine HoldObs.out ?_
            | refine HoldOr.out ?_)
  all_goals try first | refine HoldEq.int ?_ | refine HoldEq.bool ?_ | refine HoldEq.sl ?_ | refine HoldEq.own ?_ | refine HoldEq.ownS ?_ ?_ | refine HoldOb.row ?_ | refine HoldOb.map ?_ | refine HoldOb.gmap ?_ | refine HoldOb.grow ?_ | refine HoldObs.row ?_
  all_goals try simp only [take_one, take_one', set_one, take_all, List.length_singleton, rec_self, Int.toNat_natCast, pair_eta, ETy.dflt, List.getD_cons_zero, List.getD_cons_succ, Int.reduceToNat, Int.reduceAdd, Int.reduceSub, Int.reduceNeg, Nat.reduceAdd, Nat.zero_add] at *
  · rw [if_pos (by assumption)]; exact HoldEq.intro rfl
  · rw [if_neg (by assumption)]; exact HoldEq.intro rfl
def laidC : List AV → Option Res := con1 soupE (fun s => some (none, none, (ETy.pt tabE).av (laidO s)))
theorem laidRow : FnRow Try.prog 15 laidC := ⟨con1_ok fun s r h => by
  cases h
  refine FnOk.out (fn_by (rulesF (fn := [(44, greatC), (28, newC)]) (fr := []) ⟨greatRow, newRow, trivial⟩ trivial) Try.func15 (by kernel_rfl) fun _ _ => laid_vc s.1 s.2) fun σ v h => ?_
  unfold laidO
  split at h
  · rename_i e
    rw [if_pos e]; exact nilO_rep h
  · rename_i e
    rw [if_neg e]; exact h, _, Try.func15, by kernel_rfl, by kernel_rfl⟩
theorem laid_good {s : Int × List P3} {x : tabE.T} (h : laidO s = some x) : Good x ∧ x.1 = s := by
  unfold laidO newO at h
  split at h
  · cases h
  · split at h
    · rename_i hc; cases h; exact ⟨good_new (cert_of hc), rfl⟩
    · cases h
end S1

open Go Go.Vm Go.Proofs
namespace S1
set_option maxRecDepth 100000

def con3P {ρ : Type} (e b c : ETy) (f : e.T → b.T → c.T → Option ρ) : List AV → Option ρ :=
  con3 (.pt e) b c (fun o y z => match o with | some x => f x y z | none => none)
theorem con3P_ok {P : Program} {e b c : ETy} {f : e.T → b.T → c.T → Option Res} {n : FuncId} (h : ∀ x y z r, f x y z = some r → FnOk P n [(ETy.pt e).av (some x), b.av y, c.av z] r) : ∀ args r, con3P e b c f args = some r → FnOk P n args r :=
  con3_ok fun o y z r hr => by cases o with | none => cases hr | some x => exact h x y z r hr
/-! slices.Index, Contains; link.facing -/
def fstI (v : Int) : List Int → Nat → Int
  | [], _ => -1
  | a :: r, i => if v = a then (i : Int) else fstI v r (i + 1)
def loopX (v : Int) (l : List Int) : Spec Nat where
  inv x := x ≤ l.length ∧ fstI v l 0 = fstI v (l.drop x) x
  live x := [(8, .s (.int .i64 x))]
  keep := [0, 1, 7]
  heap _ := []
  keepH := []
  mu x := l.length - x
theorem indexI_vc {fn} (l : List Int) (v : Int) : afun ⟨tyL, fn, []⟩ Try.f83 [(ETy.sl i64E).av l, i64E.av v] (fun r => r = .s (.int .i64 (fstI v l 0))) := by
  repeat' (conv => whnf
           first
            | done
            | refine Need.intro (by first | rfl | omega | (simp only [i64ok] at *; omega)) ?_
            | refine Need.intro (Hold.out ?_) ?_
            | refine Give.intro fun _ => ?_
            | refine Both.intro ?_ ?_
            | refine BIf.and ?_
            | refine BIf.or ?_
            | refine BIf.eqi (fun _ => ?_) (fun _ => ?_)
            | refine BIf.nei (fun _ => ?_) (fun _ => ?_)
            | refine BIf.dec (fun _ => ?_) (fun _ => ?_)
            | refine BIf.nt ?_
            | refine BIf.intro (fun _ => ?_) (fun _ => ?_)
            | ((first | (with_reducible show Or (∃ n, rounds (acode _ (Code.seq (Code.region 2 _ _) _)) _ n _) _) | (with_reducible show Or (∃ n, rounds (acode _ (Code.seq (Code.seq (Code.region 2 _ _) _) _)) _ n _) _) | (with_reducible show Or (∃ n, rounds (acode _ (Code.seq (Code.seq (Code.seq (Code.region 2 _ _) _) _) _)) _ n _) _) | (with_reducible show Or (∃ n, rounds (acode _ (Code.seq (Code.seq (Code.seq (Code.seq (Code.region 2 _ _) _) _) _) _)) _ n _) _) | (with_reducible show Or (∃ n, rounds (acode _ (Code.block _ (Code.seq (Code.region 2 _ _) _))) _ n _) _) | (with_reducible show Or (∃ n, rounds (acode _ (Code.block _ (Code.seq (Code.seq (Code.region 2 _ _) _) _))) _ n _) _) | (with_reducible show Or (∃ n, rounds (acode _ (Code.block _ (Code.seq (Code.seq (Code.seq (Code.region 2 _ _) _) _) _))) _ n _) _) | (with_reducible show Or (∃ n, rounds (acode _ (Code.block _ (Code.seq (Code.seq (Code.seq (Code.seq (Code.region 2 _ _) _) _) _) _))) _ n _) _)); refine Or.inr (Exists.intro (Nat) (Exists.intro (loopX v l) (And.intro (Exists.intro (0) (And.intro (Hold.out ?_) (And.intro ?_ (And.intro ?_ rfl)))) (fun x hx => ?_)))))
            | ((with_reducible show (∃ y, And (Spec.inv (loopX _ _) y) _)); refine Exists.intro (x + 1) (And.intro (Hold.out ?_) (And.intro (And.intro ?_ (And.intro ?_ rfl)) (Hold.out ?_))))
            | refine And.intro rfl ?_
            | refine And.intro (HoldEq.out ?_) ?_
            | refine And.intro (HoldOb.out ?_) ?_
            | exact True.intro
            | refine HoldEq.out ?_
            | refine HoldObs.out ?_
            | refine HoldOr.out ?_)
  all_goals try first | refine HoldEq.int ?_ | refine HoldEq.bool ?_ | refine HoldEq.sl ?_ | refine HoldEq.own ?_ | refine HoldEq.ownS ?_ ?_ | refine HoldOb.row ?_ | refine HoldOb.map ?_ | refine HoldOb.gmap ?_ | refine HoldOb.grow ?_ | refine HoldObs.row ?_
  all_goals try simp only [take_one, take_one', set_one, take_all, List.length_singleton, rec_self, Int.toNat_natCast, pair_eta, ETy.dflt, List.getD_cons_zero, List.getD_cons_succ, Int.reduceToNat, Int.reduceAdd, Int.reduceSub, Int.reduceNeg, Nat.reduceAdd, Nat.zero_add, loopX] at *
  · exact Hold.intro ⟨Nat.zero_le _, rfl⟩
  · rename_i h1 h2
    rw [hx.2, drop_now 0 h1, fstI, if_pos h2]
  · rename_i h1 h2
    exact Hold.intro ⟨by omega, by rw [hx.2, drop_now 0 h1, fstI, if_neg h2]⟩
  · exact Hold.intro (by omega)
  · rw [hx.2, drop_all (by assumption)]; rfl
def indexIC : List AV → Option Res := con2 (.sl i64E) i64E (fun l v => some (none, none, .s (.int .i64 (fstI v l 0))))
theorem indexIRow : FnRow Try.prog 83 indexIC := ⟨con2_ok fun l v r h => by cases h; exact fn_by (rulesF (fn := []) (fr := []) trivial trivial) Try.func83 (by kernel_rfl) fun _ _ => indexI_vc l v, _, Try.func83, by kernel_rfl, by kernel_rfl⟩
def hasI (v : Int) (l : List Int) : Bool := decide (fstI v l 0 ≥ 0)
theorem contains_vc (l : List Int) (v : Int) : afun ⟨tyL, [(83, indexIC)], []⟩ Try.f47 [(ETy.sl i64E).av l, i64E.av v] (fun r => r = .s (.bool (hasI v l))) := by
  repeat' (conv => whnf
           first
            | done
            | refine Need.intro (by first | rfl | omega | (simp only [i64ok] at *; omega)) ?_
            | refine Need.intro (Hold.out ?_) ?_
            | refine Give.intro fun _ => ?_
            | refine Both.intro ?_ ?_
            | refine BIf.and ?_
            | refine BIf.or ?_
            | refine BIf.eqi (fun _ => ?_) (fun _ => ?_)
            | refine BIf.nei (fun _ => ?_) (fun _ => ?_)
            | refine BIf.dec (fun _ => ?_) (fun _ => ?_)
            | refine BIf.nt ?_
            | refine BIf.intro (fun _ => ?_) (fun _ => ?_)
            | refine And.intro rfl ?_
            | refine And.intro (HoldEq.out ?_) ?_
            | refine And.intro (HoldOb.out ?_) ?_
            | exact True.intro
            | refine HoldEq.out ?_
            | refine HoldObs.out ?_
            | refine HoldOr.out ?_)
  all_goals try first | refine HoldEq.int ?_ | refine HoldEq.bool ?_ | refine HoldEq.sl ?_ | refine HoldEq.own ?_ | refine HoldEq.ownS ?_ ?_ | refine HoldOb.row ?_ | refine HoldOb.map ?_ | refine HoldOb.gmap ?_ | refine HoldOb.grow ?_ | refine HoldObs.row ?_
  all_goals try simp only [take_one, take_one', set_one, take_all, List.length_singleton, rec_self, Int.toNat_natCast, pair_eta, ETy.dflt, List.getD_cons_zero, List.getD_cons_succ, Int.reduceToNat, Int.reduceAdd, Int.reduceSub, Int.reduceNeg, Nat.reduceAdd, Nat.zero_add, hasI] at *
def containsC : List AV → Option Res := con2 (.sl i64E) i64E (fun l v => some (none, none, .s (.bool (hasI v l))))
theorem containsRow : FnRow Try.prog 47 containsC := ⟨con2_ok fun l v r h => by cases h; exact fn_by (rulesF (fn := [(83, indexIC)]) (fr := []) ⟨indexIRow, trivial⟩ trivial) Try.func47 (by kernel_rfl) fun _ _ => contains_vc l v, _, Try.func47, by kernel_rfl, by kernel_rfl⟩
def facR (x : tabE.T) (a b : Int) : List Int := (if tFacing x (a, b) ≥ 0 then [tVert x (tFacing x (a, b))] else []) ++ (if tFacing x (b, a) ≥ 0 then [tVert x (tFacing x (b, a))] else [])
theorem facing_le {x : tabE.T} (g : Good x) (e : Int × Int) : tFacing x e ≤ 1000000000 := by
  unfold tFacing
  cases h : mget .arr2 x.2.1 e with
  | none => decide
  | some c =>
    have := tHas_iff.1 (g.map _ _ h).1
    have := g.fit.2.2.1
    exact (show @LE.le Int _ c (1000000000 : Int) by omega)
theorem facing2_vc (x : tabE.T) (a b : Int) (g : Good x) : afun ⟨tyL, [(60, facingC), (24, vertexC)], []⟩ Try.f50 [(ETy.pt tabE).av (some x), i64E.av a, i64E.av b] (fun v => v = .s (.sl i64E (facR x a b))) := by
  have e0 : (((List.replicate 2 ((0 : Int), (0 : Int))).set 0 (a, b)).set 1 (b, a)).getD 0 (0, 0) = (a, b) := rfl
  have e1 : (((List.replicate 2 ((0 : Int), (0 : Int))).set 0 (a, b)).set 1 (b, a)).getD 1 (0, 0) = (b, a) := rfl
  repeat' (conv => whnf
           first
            | done
            | refine Need.intro (by first | rfl | omega | (simp only [i64ok] at *; omega)) ?_
            | refine Need.intro (Hold.out ?_) ?_
            | refine Give.intro fun _ => ?_
            | refine Both.intro ?_ ?_
            | refine BIf.and ?_
            | refine BIf.or ?_
            | refine BIf.eqi (fun _ => ?_) (fun _ => ?_)
            | refine BIf.nei (fun _ => ?_) (fun _ => ?_)
            | refine BIf.dec (fun _ => ?_) (fun _ => ?_)
            | refine BIf.nt ?_
            | refine BIf.intro (fun _ => ?_) (fun _ => ?_)
            | ((first | (with_reducible show Or (∃ n, rounds (acode _ (Code.seq (Code.region 3 _ _) _)) _ n _) _) | (with_reducible show Or (∃ n, rounds (acode _ (Code.seq (Code.seq (Code.region 3 _ _) _) _)) _ n _) _) | (with_reducible show Or (∃ n, rounds (acode _ (Code.seq (Code.seq (Code.seq (Code.region 3 _ _) _) _) _)) _ n _) _) | (with_reducible show Or (∃ n, rounds (acode _ (Code.seq (Code.seq (Code.seq (Code.seq (Code.region 3 _ _) _) _) _) _)) _ n _) _) | (with_reducible show Or (∃ n, rounds (acode _ (Code.block _ (Code.seq (Code.region 3 _ _) _))) _ n _) _) | (with_reducible show Or (∃ n, rounds (acode _ (Code.block _ (Code.seq (Code.seq (Code.region 3 _ _) _) _))) _ n _) _) | (with_reducible show Or (∃ n, rounds (acode _ (Code.block _ (Code.seq (Code.seq (Code.seq (Code.region 3 _ _) _) _) _))) _ n _) _) | (with_reducible show Or (∃ n, rounds (acode _ (Code.block _ (Code.seq (Code.seq (Code.seq (Code.seq (Code.region 3 _ _) _) _) _) _))) _ n _) _)); refine Or.inl (Exists.intro (3) ?_))
            | refine And.intro rfl ?_
            | refine And.intro (HoldEq.out ?_) ?_
            | refine And.intro (HoldOb.out ?_) ?_
            | exact True.intro
            | refine HoldEq.out ?_
            | refine HoldObs.out ?_
            | refine HoldOr.out ?_)
  all_goals try first | refine HoldEq.int ?_ | refine HoldEq.bool ?_ | refine HoldEq.sl ?_ | refine HoldEq.own ?_ | refine HoldEq.ownS ?_ ?_ | refine HoldOb.row ?_ | refine HoldOb.map ?_ | refine HoldOb.gmap ?_ | refine HoldOb.grow ?_ | refine HoldObs.row ?_
  all_goals try simp only [take_one, take_one', set_one, take_all, List.length_singleton, rec_self, Int.toNat_natCast, pair_eta, ETy.dflt, List.getD_cons_zero, List.getD_cons_succ, Int.reduceToNat, Int.reduceAdd, Int.reduceSub, Int.reduceNeg, Nat.reduceAdd, Nat.zero_add, e0, e1, facR] at *
  all_goals first
    | exact Hold.intro (facing_le g _)
    | exact Hold.intro (by decide)
    | (simp only [if_pos, if_neg, *, not_false_eq_true]; rfl)
def facing2C : List AV → Option Res := con3P tabE i64E i64E (fun x a b => some (none, some (Good x), .s (.sl i64E (facR x a b))))
theorem facing2Row : FnRow Try.prog 50 facing2C := ⟨con3P_ok fun x a b r h => by cases h; exact fn_by (rulesF (fn := [(60, facingC), (24, vertexC)]) (fr := []) ⟨facingRow, vertexRow, trivial⟩ trivial) Try.func50 (by kernel_rfl) fun _ h => facing2_vc x a b h, _, Try.func50, by kernel_rfl, by kernel_rfl⟩
end S1

open Go Go.Vm Go.Proofs
namespace S1
set_option maxRecDepth 100000

/-! shell.Of -/
abbrev OS := List Int × List Int
def ofC (x : tabE.T) (k : Int) (j : Nat) (s : OS) (c : Nat) : OS :=
  if 0 ≤ tOpp x (3 * s.2.getD j 0 + c) ∧ s.1.getD (tOpp x (3 * s.2.getD j 0 + c) / 3).toNat 0 < 0 then
    (s.1.set (tOpp x (3 * s.2.getD j 0 + c) / 3).toNat k, s.2 ++ [tOpp x (3 * s.2.getD j 0 + c) / 3]) else s
def ofJ (x : tabE.T) (k : Int) (s : OS) (j : Nat) : OS := irec (ofC x k j) s 3
def bfs (x : tabE.T) (k : Int) : Nat → Nat → OS → OS
  | 0, _, s => s
  | f + 1, j, s => if j < s.2.length then bfs x k f (j + 1) (ofJ x k s j) else s
def ofI (x : tabE.T) (s : List Int × Int) (i : Nat) : List Int × Int :=
  if s.1.getD i 0 ≥ 0 then s else ((bfs x s.2 10000 0 (s.1.set i s.2, [(i : Int)])).1, s.2 + 1)
def ofL (x : tabE.T) (i : Nat) : List Int × Int := irec (ofI x) (List.replicate x.1.2.length (-1), 0) i
def ofR (x : tabE.T) : List Int := (ofL x x.1.2.length).1
def unm : List Int → Nat
  | [] => 0
  | a :: r => (if a < 0 then 1 else 0) + unm r
theorem unm_le : ∀ l : List Int, unm l ≤ l.length
  | [] => Nat.le_refl _
  | a :: r => by have := unm_le r; simp only [unm, List.length_cons]; split <;> omega
theorem unm_set {k : Int} (hk : 0 ≤ k) : ∀ (l : List Int) (i : Nat), i < l.length → l.getD i 0 < 0 → unm (l.set i k) + 1 = unm l
  | a :: r, 0, _, h => by
    have h : a < 0 := h
    simp only [List.set_cons_zero, unm]; rw [if_pos h, if_neg (by omega)]; omega
  | a :: r, i + 1, hi, h => by
    have := unm_set hk r i (by simpa using hi) (by simpa using h)
    simp only [List.set_cons_succ, unm]; omega
structure OOk (n : Nat) (s : OS) : Prop where
  len : s.1.length = n
  td : ∀ j, j < s.2.length → 0 ≤ s.2.getD j 0 ∧ s.2.getD j 0 < n
  cnt : s.2.length + unm s.1 ≤ n
theorem opp_in {x : tabE.T} (g : Good x) {d : Int} (h : 0 ≤ tOpp x d) : tOpp x d < 3 * (x.1.2.length : Int) := (tHas_iff.1 (g.opp h).2.1).2
theorem ofC_ok {x : tabE.T} (g : Good x) {k : Int} (hk : 0 ≤ k) {j : Nat} {s : OS} (h : OOk x.1.2.length s) (c : Nat) : OOk x.1.2.length (ofC x k j s c) := by
  unfold ofC
  split
  · rename_i hc
    have hi := opp_in g hc.1
    refine ⟨by rw [List.length_set]; exact h.len, fun j' hj => ?_, ?_⟩
    · by_cases e : j' < s.2.length
      · have := h.td j' e
        have e2 : (s.2 ++ [tOpp x (3 * s.2.getD j 0 + c) / 3]).getD j' 0 = s.2.getD j' 0 := by
          rw [List.getD_eq_getElem?_getD, List.getElem?_append_left e, ← List.getD_eq_getElem?_getD]
        show 0 ≤ (s.2 ++ _).getD j' 0 ∧ _
        rw [e2]; exact this
      · have hj : j' < (s.2 ++ [tOpp x (3 * s.2.getD j 0 + c) / 3]).length := hj
        rw [List.length_append, List.length_singleton] at hj
        have e3 : j' = s.2.length := by omega
        subst e3
        have e2 : (s.2 ++ [tOpp x (3 * s.2.getD j 0 + c) / 3]).getD s.2.length 0 = tOpp x (3 * s.2.getD j 0 + c) / 3 := by
          rw [List.getD_eq_getElem?_getD, List.getElem?_append_right (Nat.le_refl _)]; simp
        show 0 ≤ (s.2 ++ _).getD s.2.length 0 ∧ _
        rw [e2]; omega
    · have := unm_set hk s.1 _ (by rw [h.len]; omega) hc.2
      have h3 := h.cnt
      show (s.2 ++ [_]).length + unm (s.1.set (tOpp x (3 * s.2.getD j 0 + c) / 3).toNat k) ≤ x.1.2.length
      rw [List.length_append, List.length_singleton]; omega
  · exact h
theorem ofCs_ok {x : tabE.T} (g : Good x) {k : Int} (hk : 0 ≤ k) {j : Nat} {s : OS} (h : OOk x.1.2.length s) : ∀ c, OOk x.1.2.length (irec (ofC x k j) s c)
  | 0 => h
  | c + 1 => ofC_ok g hk (ofCs_ok g hk h c) c
theorem ofJ_ok {x : tabE.T} (g : Good x) {k : Int} (hk : 0 ≤ k) {j : Nat} {s : OS} (h : OOk x.1.2.length s) : OOk x.1.2.length (ofJ x k s j) := by
  unfold ofJ; exact ofCs_ok g hk h 3
theorem ofJs_ok {x : tabE.T} (g : Good x) {k : Int} (hk : 0 ≤ k) {s : OS} (h : OOk x.1.2.length s) : ∀ j, OOk x.1.2.length (irec (ofJ x k) s j)
  | 0 => h
  | j + 1 => ofJ_ok g hk (ofJs_ok g hk h j)
theorem bfs_ok {x : tabE.T} (g : Good x) {k : Int} (hk : 0 ≤ k) : ∀ (f j : Nat) {s : OS}, OOk x.1.2.length s → OOk x.1.2.length (bfs x k f j s)
  | 0, _, _, h => h
  | f + 1, j, s, h => by
    unfold bfs; split
    · exact bfs_ok g hk f (j + 1) (ofJ_ok g hk h)
    · exact h
theorem start_ok {n i : Nat} {l : List Int} {k : Int} (hk : 0 ≤ k) (hl : l.length = n) (hi : i < n) (h : ¬ l.getD i 0 ≥ 0) : OOk n (l.set i k, [(i : Int)]) := by
  refine ⟨by rw [List.length_set]; exact hl, fun j hj => ?_, ?_⟩
  · have hj : j < 1 := hj
    have : j = 0 := by omega
    subst this
    show (0 : Int) ≤ i ∧ (i : Int) < n
    omega
  · have := unm_set hk l i (by omega) (by omega)
    have h2 := unm_le l
    show 1 + unm (l.set i k) ≤ n
    omega
theorem ofL_ok {x : tabE.T} (g : Good x) : ∀ i, i ≤ x.1.2.length → (ofL x i).1.length = x.1.2.length ∧ 0 ≤ (ofL x i).2 ∧ (ofL x i).2 ≤ i
  | 0, _ => ⟨List.length_replicate, Int.le_refl 0, Int.le_refl 0⟩
  | i + 1, hi => by
    obtain ⟨h1, h2, h3⟩ := ofL_ok g i (by omega)
    show (ofI x (ofL x i) i).1.length = _ ∧ 0 ≤ (ofI x (ofL x i) i).2 ∧ (ofI x (ofL x i) i).2 ≤ _
    unfold ofI
    split
    · exact ⟨h1, h2, by omega⟩
    · rename_i hn
      exact ⟨(bfs_ok g h2 10000 0 (start_ok h2 h1 (by omega) hn)).len, by show 0 ≤ (ofL x i).2 + 1; omega, by show (ofL x i).2 + 1 ≤ _; omega⟩
theorem ofC_t {x : tabE.T} {k : Int} {j c : Nat} {s : OS} (h1 : tOpp x (3 * s.2.getD j 0 + c) ≥ 0) (h2 : s.1.getD ((tOpp x (3 * s.2.getD j 0 + c)).tdiv 3).toNat 0 < 0) :
    ofC x k j s c = (s.1.set ((tOpp x (3 * s.2.getD j 0 + c)).tdiv 3).toNat k, s.2 ++ [(tOpp x (3 * s.2.getD j 0 + c)).tdiv 3]) := by
  rw [td3 h1] at *; unfold ofC; rw [if_pos ⟨h1, h2⟩]
theorem ofC_f1 {x : tabE.T} {k : Int} {j c : Nat} {s : OS} (h1 : tOpp x (3 * s.2.getD j 0 + c) ≥ 0) (h2 : ¬ s.1.getD ((tOpp x (3 * s.2.getD j 0 + c)).tdiv 3).toNat 0 < 0) : ofC x k j s c = s := by
  rw [td3 h1] at *; unfold ofC; rw [if_neg (fun e => h2 e.2)]
theorem ofC_f2 {x : tabE.T} {k : Int} {j c : Nat} {s : OS} (h1 : ¬ tOpp x (3 * s.2.getD j 0 + c) ≥ 0) : ofC x k j s c = s := by
  unfold ofC; rw [if_neg (fun e => h1 e.1)]
theorem ofC_len {x : tabE.T} {k : Int} {j c : Nat} {s : OS} : s.2.length ≤ (ofC x k j s c).2.length := by
  unfold ofC; split
  · show _ ≤ (s.2 ++ [_]).length
    rw [List.length_append]; omega
  · exact Nat.le_refl _
theorem ofCs_len {x : tabE.T} {k : Int} {j : Nat} {s : OS} : ∀ c, s.2.length ≤ (irec (ofC x k j) s c).2.length
  | 0 => Nat.le_refl _
  | c + 1 => Nat.le_trans (ofCs_len c) ofC_len
theorem ofC_s (x : tabE.T) (k : Int) (j : Nat) (s : OS) (c : Nat) : irec (ofC x k j) s (c + 1) = ofC x k j (irec (ofC x k j) s c) c := rfl
theorem ofJ_s (x : tabE.T) (k : Int) (s : OS) (j : Nat) : irec (ofJ x k) s (j + 1) = irec (ofC x k j) (irec (ofJ x k) s j) 3 := by
  rw [irec, ofJ]
theorem bfs_go {x : tabE.T} {k : Int} {j : Nat} {s s0 : OS} (hj : j < 10000) (h : (j : Int) < s.2.length) (e : bfs x k 10000 0 s0 = bfs x k (10000 - j) j s) : bfs x k 10000 0 s0 = bfs x k (10000 - (j + 1)) (j + 1) (ofJ x k s j) := by
  rw [e, show 10000 - j = (10000 - (j + 1)) + 1 by omega, bfs, if_pos (by omega)]
theorem bfs_end {x : tabE.T} {k : Int} {j : Nat} {s : OS} (h : ¬ (j : Int) < s.2.length) : ∀ f, bfs x k f j s = s
  | 0 => rfl
  | f + 1 => by rw [bfs, if_neg (by omega)]
theorem ofI_skip {x : tabE.T} {i : Nat} (h : (ofL x i).1.getD i 0 ≥ 0) : ofL x (i + 1) = ofL x i := by
  show ofI x (ofL x i) i = _
  unfold ofI; rw [if_pos h]
theorem ofI_go {x : tabE.T} {i : Nat} (h : ¬ (ofL x i).1.getD i 0 ≥ 0) : ofL x (i + 1) = ((bfs x (ofL x i).2 10000 0 ((ofL x i).1.set i (ofL x i).2, [(i : Int)])).1, (ofL x i).2 + 1) := by
  show ofI x (ofL x i) i = _
  unfold ofI; rw [if_neg h]
theorem rep_step {α : Type} {a b : α} : ∀ (i n : Nat), i < n → List.replicate (i + 1) a ++ List.replicate (n - (i + 1)) b = (List.replicate i a ++ List.replicate (n - i) b).set i a
  | 0, n + 1, _ => by simp [List.replicate_succ]
  | i + 1, n + 1, h => by
    have := rep_step (a := a) (b := b) i n (by omega)
    show a :: (List.replicate (i + 1) a ++ List.replicate (n + 1 - (i + 1 + 1)) b) = (a :: (List.replicate i a ++ List.replicate (n + 1 - (i + 1)) b)).set (i + 1) a
    rw [List.set_cons_succ, show n + 1 - (i + 1 + 1) = n - (i + 1) by omega, show n + 1 - (i + 1) = n - i by omega, this]
attribute [irreducible] ofC ofJ bfs ofI
def loopO1 (n : Nat) : Spec Nat where
  inv i := i ≤ n
  live i := [(16, .s (.int .i64 i))]
  keep := [0, 3, 14, 15]
  heap i := [(1, .row i64E 3 (List.replicate i (-1) ++ List.replicate (n - i) 0))]
  keepH := [0]
  mu i := n - i
def loopO2 (x : tabE.T) : Spec Nat where
  inv i := i ≤ x.1.2.length
  live i := [(25, .s (.int .i64 i)), (5, .s (.int .i64 (ofL x i).2))]
  keep := [0, 3, 23, 24]
  heap i := [(1, .row i64E 3 (ofL x i).1)]
  keepH := [0]
  mu i := x.1.2.length - i
def loopO3 (x : tabE.T) (k : Int) (s : OS) : Spec Nat where
  inv j := j ≤ (irec (ofJ x k) s j).2.length ∧ bfs x k 10000 0 s = bfs x k (10000 - j) j (irec (ofJ x k) s j)
  live j := [(8, .s (.int .i64 j)), (7, .s (.own 2 0 (irec (ofJ x k) s j).2.length))]
  keep := [0, 3, 5, 6, 23, 24, 25]
  heap j := [(1, .row i64E 3 (irec (ofJ x k) s j).1), (2, .row i64E 3 (irec (ofJ x k) s j).2)]
  keepH := [0]
  mu j := 10000 - j
def loopO4 (x : tabE.T) (k : Int) (j : Nat) (s : OS) : Spec Nat where
  inv c := c ≤ 3
  live c := [(45, .s (.int .i64 c)), (7, .s (.own 2 0 (irec (ofC x k j) s c).2.length))]
  keep := [0, 3, 5, 6, 8, 23, 24, 25]
  heap c := [(1, .row i64E 3 (irec (ofC x k j) s c).1), (2, .row i64E 3 (irec (ofC x k j) s c).2)]
  keepH := [0]
  mu c := 3 - c
set_option maxHeartbeats 8000000 in
theorem shOf_vc (x : tabE.T) (g : Good x) : afun ⟨tyL, [(30, trianglesC), (22, oppC)], []⟩ Try.f86 [(ETy.pt tabE).av (some x)] (fun v => v = .s (.sl i64E (ofR x))) := by
  have hn : x.1.2.length ≤ 8192 := g.fit.2.2.1
  repeat' (conv => whnf
           first
            | done
            | refine Need.intro (by first | rfl | omega | (simp only [i64ok] at *; omega)) ?_
            | refine Need.intro (Hold.out ?_) ?_
            | refine Give.intro fun _ => ?_
            | refine Both.intro ?_ ?_
            | refine BIf.and ?_
            | refine BIf.or ?_
            | refine BIf.eqi (fun _ => ?_) (fun _ => ?_)
            | refine BIf.nei (fun _ => ?_) (fun _ => ?_)
            | refine BIf.dec (fun _ => ?_) (fun _ => ?_)
            | refine BIf.nt ?_
            | refine BIf.intro (fun _ => ?_) (fun _ => ?_)
            | ((first | (with_reducible show Or (∃ n, rounds (acode _ (Code.seq (Code.region 3 _ _) _)) _ n _) _) | (with_reducible show Or (∃ n, rounds (acode _ (Code.seq (Code.seq (Code.region 3 _ _) _) _)) _ n _) _) | (with_reducible show Or (∃ n, rounds (acode _ (Code.seq (Code.seq (Code.seq (Code.region 3 _ _) _) _) _)) _ n _) _) | (with_reducible show Or (∃ n, rounds (acode _ (Code.seq (Code.seq (Code.seq (Code.seq (Code.region 3 _ _) _) _) _) _)) _ n _) _) | (with_reducible show Or (∃ n, rounds (acode _ (Code.block _ (Code.seq (Code.region 3 _ _) _))) _ n _) _) | (with_reducible show Or (∃ n, rounds (acode _ (Code.block _ (Code.seq (Code.seq (Code.region 3 _ _) _) _))) _ n _) _) | (with_reducible show Or (∃ n, rounds (acode _ (Code.block _ (Code.seq (Code.seq (Code.seq (Code.region 3 _ _) _) _) _))) _ n _) _) | (with_reducible show Or (∃ n, rounds (acode _ (Code.block _ (Code.seq (Code.seq (Code.seq (Code.seq (Code.region 3 _ _) _) _) _) _))) _ n _) _)); refine Or.inr (Exists.intro (Nat) (Exists.intro (loopO1 x.1.2.length) (And.intro (Exists.intro (0) (And.intro (Hold.out ?_) (And.intro ?_ (And.intro ?_ rfl)))) (fun i hi => ?_)))))
            | ((with_reducible show (∃ y, And (Spec.inv (loopO1 _) y) _)); refine Exists.intro (i + 1) (And.intro (Hold.out ?_) (And.intro (And.intro ?_ (And.intro ?_ rfl)) (Hold.out ?_))))
            | ((first | (with_reducible show Or (∃ n, rounds (acode _ (Code.seq (Code.region 9 _ _) _)) _ n _) _) | (with_reducible show Or (∃ n, rounds (acode _ (Code.seq (Code.seq (Code.region 9 _ _) _) _)) _ n _) _) | (with_reducible show Or (∃ n, rounds (acode _ (Code.seq (Code.seq (Code.seq (Code.region 9 _ _) _) _) _)) _ n _) _) | (with_reducible show Or (∃ n, rounds (acode _ (Code.seq (Code.seq (Code.seq (Code.seq (Code.region 9 _ _) _) _) _) _)) _ n _) _) | (with_reducible show Or (∃ n, rounds (acode _ (Code.block _ (Code.seq (Code.region 9 _ _) _))) _ n _) _) | (with_reducible show Or (∃ n, rounds (acode _ (Code.block _ (Code.seq (Code.seq (Code.region 9 _ _) _) _))) _ n _) _) | (with_reducible show Or (∃ n, rounds (acode _ (Code.block _ (Code.seq (Code.seq (Code.seq (Code.region 9 _ _) _) _) _))) _ n _) _) | (with_reducible show Or (∃ n, rounds (acode _ (Code.block _ (Code.seq (Code.seq (Code.seq (Code.seq (Code.region 9 _ _) _) _) _) _))) _ n _) _)); refine Or.inr (Exists.intro (Nat) (Exists.intro (loopO2 x) (And.intro (Exists.intro (0) (And.intro (Hold.out ?_) (And.intro ?_ (And.intro ?_ rfl)))) (fun i hi => ?_)))))
            | ((with_reducible show (∃ y, And (Spec.inv (loopO2 _) y) _)); refine Exists.intro (i + 1) (And.intro (Hold.out ?_) (And.intro (And.intro ?_ (And.intro ?_ rfl)) (Hold.out ?_))))
            | ((first | (with_reducible show Or (∃ n, rounds (acode _ (Code.seq (Code.region 15 _ _) _)) _ n _) _) | (with_reducible show Or (∃ n, rounds (acode _ (Code.seq (Code.seq (Code.region 15 _ _) _) _)) _ n _) _) | (with_reducible show Or (∃ n, rounds (acode _ (Code.seq (Code.seq (Code.seq (Code.region 15 _ _) _) _) _)) _ n _) _) | (with_reducible show Or (∃ n, rounds (acode _ (Code.seq (Code.seq (Code.seq (Code.seq (Code.region 15 _ _) _) _) _) _)) _ n _) _) | (with_reducible show Or (∃ n, rounds (acode _ (Code.block _ (Code.seq (Code.region 15 _ _) _))) _ n _) _) | (with_reducible show Or (∃ n, rounds (acode _ (Code.block _ (Code.seq (Code.seq (Code.region 15 _ _) _) _))) _ n _) _) | (with_reducible show Or (∃ n, rounds (acode _ (Code.block _ (Code.seq (Code.seq (Code.seq (Code.region 15 _ _) _) _) _))) _ n _) _) | (with_reducible show Or (∃ n, rounds (acode _ (Code.block _ (Code.seq (Code.seq (Code.seq (Code.seq (Code.region 15 _ _) _) _) _) _))) _ n _) _)); refine Or.inr (Exists.intro (Nat) (Exists.intro (loopO3 x (ofL x i).2 ((ofL x i).1.set i (ofL x i).2, [(i : Int)])) (And.intro (Exists.intro (0) (And.intro (Hold.out ?_) (And.intro ?_ (And.intro ?_ rfl)))) (fun j hj => ?_)))))
            | ((with_reducible show (∃ y, And (Spec.inv (loopO3 _ _ _) y) _)); refine Exists.intro (j + 1) (And.intro (Hold.out ?_) (And.intro (And.intro ?_ (And.intro ?_ rfl)) (Hold.out ?_))))
            | ((first | (with_reducible show Or (∃ n, rounds (acode _ (Code.seq (Code.region 18 _ _) _)) _ n _) _) | (with_reducible show Or (∃ n, rounds (acode _ (Code.seq (Code.seq (Code.region 18 _ _) _) _)) _ n _) _) | (with_reducible show Or (∃ n, rounds (acode _ (Code.seq (Code.seq (Code.seq (Code.region 18 _ _) _) _) _)) _ n _) _) | (with_reducible show Or (∃ n, rounds (acode _ (Code.seq (Code.seq (Code.seq (Code.seq (Code.region 18 _ _) _) _) _) _)) _ n _) _) | (with_reducible show Or (∃ n, rounds (acode _ (Code.block _ (Code.seq (Code.region 18 _ _) _))) _ n _) _) | (with_reducible show Or (∃ n, rounds (acode _ (Code.block _ (Code.seq (Code.seq (Code.region 18 _ _) _) _))) _ n _) _) | (with_reducible show Or (∃ n, rounds (acode _ (Code.block _ (Code.seq (Code.seq (Code.seq (Code.region 18 _ _) _) _) _))) _ n _) _) | (with_reducible show Or (∃ n, rounds (acode _ (Code.block _ (Code.seq (Code.seq (Code.seq (Code.seq (Code.region 18 _ _) _) _) _) _))) _ n _) _)); refine Or.inr (Exists.intro (Nat) (Exists.intro (loopO4 x (ofL x i).2 j (irec (ofJ x (ofL x i).2) ((ofL x i).1.set i (ofL x i).2, [(i : Int)]) j)) (And.intro (Exists.intro (0) (And.intro (Hold.out ?_) (And.intro ?_ (And.intro ?_ rfl)))) (fun c hc => ?_)))))
            | ((with_reducible show (∃ y, And (Spec.inv (loopO4 _ _ _ _) y) _)); refine Exists.intro (c + 1) (And.intro (Hold.out ?_) (And.intro (And.intro ?_ (And.intro ?_ rfl)) (Hold.out ?_))))
            | refine And.intro rfl ?_
            | refine And.intro (HoldEq.out ?_) ?_
            | refine And.intro (HoldOb.out ?_) ?_
            | exact True.intro
            | refine HoldEq.out ?_
            | refine HoldObs.out ?_
            | refine HoldOr.out ?_)
  all_goals try first | refine HoldEq.int ?_ | refine HoldEq.bool ?_ | refine HoldEq.sl ?_ | refine HoldEq.own ?_ | refine HoldEq.ownS ?_ ?_ | refine HoldOb.row ?_ | refine HoldOb.map ?_ | refine HoldOb.gmap ?_ | refine HoldOb.grow ?_ | refine HoldObs.row ?_
  all_goals try simp only [take_one, take_one', set_one, take_all, List.length_singleton, rec_self, Int.toNat_natCast, pair_eta, ETy.dflt, List.getD_cons_zero, List.getD_cons_succ, Int.reduceToNat, Int.reduceAdd, Int.reduceSub, Int.reduceNeg, Nat.reduceAdd, Nat.zero_add, loopO1, loopO2, loopO3, loopO4] at *
  all_goals try (refine Hold.intro ?_; omega)
  · exact rep_step _ _ (by omega)
  · have e : i = x.1.2.length := by omega
    subst e
    rw [Nat.sub_self]; simp only [List.replicate_zero, List.append_nil]; rfl
  · rw [ofI_skip (by assumption)]
  · rw [ofI_skip (by assumption)]
  all_goals try
    have hL := ofL_ok g i (by omega)
    have h0 := start_ok (n := x.1.2.length) (i := i) hL.2.1 hL.1 (by omega) (by assumption)
  · exact Hold.intro ⟨Nat.zero_le _, rfl⟩
  · rfl
  all_goals try have hJ := ofJs_ok g hL.2.1 h0 j
  all_goals try
    have hC := ofCs_ok g hL.2.1 (j := j) hJ c
    have hlen := ofCs_len (x := x) (k := (ofL x i).2) (j := j) (s := irec (ofJ x (ofL x i).2) ((ofL x i).1.set i (ofL x i).2, [(i : Int)]) j) c
    have hd := hC.td j (by omega)
  all_goals try have hjc := hJ.cnt
  all_goals try have hcc := hC.cnt
  all_goals try (refine Hold.intro ?_; (try unfold i64ok); omega)
  all_goals try (exact Hold.intro (show @LE.le Int _ (3 * (irec (ofC x (ofL x i).2 j) (irec (ofJ x (ofL x i).2) ((ofL x i).1.set i (ofL x i).2, [(i : Int)]) j) c).2.getD j 0 + c) (1000000 : Int) by omega))
  all_goals try (rw [ofC_s, ofC_t (by assumption) (by assumption)]; first | done | exact List.length_append)
  all_goals try (rw [ofC_s, ofC_f1 (by assumption) (by assumption)]; done)
  all_goals try (rw [ofC_s, ofC_f2 (by assumption)]; done)
  all_goals try (
    have := opp_in g ‹_›
    first
      | (refine Hold.intro ⟨by decide, ?_⟩; rw [td3 (by assumption)]; unfold i64ok; omega)
      | (refine Hold.intro ?_; rw [td3 (by assumption)]; omega))
  all_goals try (
    have e : c = 3 := by omega
    subst e
    first
      | (rw [ofJ_s]; done)
      | exact Hold.intro ⟨by rw [ofJ_s]; omega, bfs_go (by omega) (by assumption) hj.2⟩)
  · rw [ofI_go (by assumption)]
  · rw [ofI_go (by assumption), hj.2, bfs_end (by assumption)]
  · have e : i = x.1.2.length := by omega
    rw [e]; unfold ofR
    rw [List.drop_zero, List.take_of_length_le (by rw [(ofL_ok g _ (Nat.le_refl _)).1]; exact Nat.le_refl _)]
def shOfC : List AV → Option Res := con1P tabE (fun x => some (none, some (Good x), .s (.sl i64E (ofR x))))
theorem shOfRow : FnRow Try.prog 86 shOfC := ⟨con1P_ok fun x r h => by cases h; exact fn_by (rulesF (fn := [(30, trianglesC), (22, oppC)]) (fr := []) ⟨trianglesRow, oppRow, trivial⟩ trivial) Try.func86 (by kernel_rfl) fun _ h => shOf_vc x h, _, Try.func86, by kernel_rfl, by kernel_rfl⟩
end S1

open Go Go.Vm Go.Proofs
namespace S1
set_option maxRecDepth 100000

/-! link.small -/
def smC (x : tabE.T) (i : Nat) (b : Bool) (c : Nat) : Bool := b || decide (tOpp x (3 * i + c) < 0)
def smI (x : tabE.T) (l : List Int) (m : Int) (s : Int × Bool) (i : Nat) : Int × Bool :=
  if l.getD i 0 ≠ m then s else (s.1 + 1, irec (smC x i) s.2 3)
def smS (x : tabE.T) (m : Int) (i : Nat) : Int × Bool := irec (smI x (ofR x) m) (0, false) i
def smM (x : tabE.T) (v : Int) : Int := (ofR x).getD (tCorner x v / 3).toNat 0
def smallR (x : tabE.T) (v : Int) : Bool := decide ((smS x (smM x v) (ofR x).length).1 = 1) || (decide ((smS x (smM x v) (ofR x).length).1 = 4) && !(smS x (smM x v) (ofR x).length).2)
theorem ofR_len {x : tabE.T} (g : Good x) : (ofR x).length = x.1.2.length := (ofL_ok g _ (Nat.le_refl _)).1
theorem smS_s (x : tabE.T) (m : Int) (i : Nat) : smS x m (i + 1) = smI x (ofR x) m (smS x m i) i := rfl
theorem smS_no {x : tabE.T} {m : Int} {i : Nat} (h : (ofR x).getD i 0 ≠ m) : smS x m (i + 1) = smS x m i := by
  rw [smS_s]; unfold smI; rw [if_pos h]
theorem smS_yes {x : tabE.T} {m : Int} {i : Nat} (h : (ofR x).getD i 0 = m) : smS x m (i + 1) = ((smS x m i).1 + 1, irec (smC x i) (smS x m i).2 3) := by
  rw [smS_s]; unfold smI; rw [if_neg (fun e => e h)]
theorem smS_le (x : tabE.T) (m : Int) : ∀ i, 0 ≤ (smS x m i).1 ∧ (smS x m i).1 ≤ i
  | 0 => ⟨Int.le_refl 0, Int.le_refl 0⟩
  | i + 1 => by
    have := smS_le x m i
    by_cases h : (ofR x).getD i 0 = m
    · rw [smS_yes h]; show 0 ≤ (smS x m i).1 + 1 ∧ (smS x m i).1 + 1 ≤ _; omega
    · rw [smS_no h]; omega
theorem smC_s (x : tabE.T) (i : Nat) (b : Bool) (c : Nat) : irec (smC x i) b (c + 1) = (irec (smC x i) b c || decide (tOpp x (3 * i + c) < 0)) := rfl
def loopS1 (x : tabE.T) (m : Int) : Spec Nat where
  inv i := i ≤ (ofR x).length
  live i := [(23, .s (.int .i64 i)), (7, .s (.int .i64 (smS x m i).1)), (8, .s (.bool (smS x m i).2))]
  keep := [0, 1, 6, 21, 22]
  heap _ := []
  keepH := []
  mu i := (ofR x).length - i
def loopS2 (x : tabE.T) (i : Nat) (b : Bool) : Spec Nat where
  inv c := c ≤ 3
  live c := [(11, .s (.int .i64 (3 * i + c))), (8, .s (.bool (irec (smC x i) b c)))]
  keep := [0, 1, 6, 7, 9, 21, 22, 23]
  heap _ := []
  keepH := []
  mu c := 3 - c
set_option maxHeartbeats 4000000 in
theorem small_vc (x : tabE.T) (v : Int) (h : Good x ∧ tHas x (tCorner x v) = true) : afun ⟨tyL, [(86, shOfC), (87, cornerC), (22, oppC)], []⟩ Try.f51 [(ETy.pt tabE).av (some x), i64E.av v] (fun r => r = .s (.bool (smallR x v))) := by
  have hn : x.1.2.length ≤ 8192 := h.1.fit.2.2.1
  have hl := ofR_len h.1
  have hc0 := tHas_iff.1 h.2
  have hm : (ofR x).getD ((tCorner x v).tdiv 3).toNat 0 = smM x v := by rw [td3 hc0.1]; rfl
  repeat' (conv => whnf
           first
            | done
            | refine Need.intro (by first | rfl | omega | (simp only [i64ok] at *; omega)) ?_
            | refine Need.intro (Hold.out ?_) ?_
            | refine Give.intro fun _ => ?_
            | refine Both.intro ?_ ?_
            | refine BIf.and ?_
            | refine BIf.or ?_
            | refine BIf.eqi (fun _ => ?_) (fun _ => ?_)
            | refine BIf.nei (fun _ => ?_) (fun _ => ?_)
            | refine BIf.dec (fun _ => ?_) (fun _ => ?_)
            | refine BIf.nt ?_
            | refine BIf.intro (fun _ => ?_) (fun _ => ?_)
            | ((first | (with_reducible show Or (∃ n, rounds (acode _ (Code.seq (Code.region 5 _ _) _)) _ n _) _) | (with_reducible show Or (∃ n, rounds (acode _ (Code.seq (Code.seq (Code.region 5 _ _) _) _)) _ n _) _) | (with_reducible show Or (∃ n, rounds (acode _ (Code.seq (Code.seq (Code.seq (Code.region 5 _ _) _) _) _)) _ n _) _) | (with_reducible show Or (∃ n, rounds (acode _ (Code.seq (Code.seq (Code.seq (Code.seq (Code.region 5 _ _) _) _) _) _)) _ n _) _) | (with_reducible show Or (∃ n, rounds (acode _ (Code.block _ (Code.seq (Code.region 5 _ _) _))) _ n _) _) | (with_reducible show Or (∃ n, rounds (acode _ (Code.block _ (Code.seq (Code.seq (Code.region 5 _ _) _) _))) _ n _) _) | (with_reducible show Or (∃ n, rounds (acode _ (Code.block _ (Code.seq (Code.seq (Code.seq (Code.region 5 _ _) _) _) _))) _ n _) _) | (with_reducible show Or (∃ n, rounds (acode _ (Code.block _ (Code.seq (Code.seq (Code.seq (Code.seq (Code.region 5 _ _) _) _) _) _))) _ n _) _)); refine Or.inr (Exists.intro (Nat) (Exists.intro (loopS1 x (smM x v)) (And.intro (Exists.intro (0) (And.intro (Hold.out ?_) (And.intro ?_ (And.intro ?_ rfl)))) (fun i hi => ?_)))))
            | ((with_reducible show (∃ y, And (Spec.inv (loopS1 _ _) y) _)); refine Exists.intro (i + 1) (And.intro (Hold.out ?_) (And.intro (And.intro ?_ (And.intro ?_ rfl)) (Hold.out ?_))))
            | ((first | (with_reducible show Or (∃ n, rounds (acode _ (Code.seq (Code.region 10 _ _) _)) _ n _) _) | (with_reducible show Or (∃ n, rounds (acode _ (Code.seq (Code.seq (Code.region 10 _ _) _) _)) _ n _) _) | (with_reducible show Or (∃ n, rounds (acode _ (Code.seq (Code.seq (Code.seq (Code.region 10 _ _) _) _) _)) _ n _) _) | (with_reducible show Or (∃ n, rounds (acode _ (Code.seq (Code.seq (Code.seq (Code.seq (Code.region 10 _ _) _) _) _) _)) _ n _) _) | (with_reducible show Or (∃ n, rounds (acode _ (Code.block _ (Code.seq (Code.region 10 _ _) _))) _ n _) _) | (with_reducible show Or (∃ n, rounds (acode _ (Code.block _ (Code.seq (Code.seq (Code.region 10 _ _) _) _))) _ n _) _) | (with_reducible show Or (∃ n, rounds (acode _ (Code.block _ (Code.seq (Code.seq (Code.seq (Code.region 10 _ _) _) _) _))) _ n _) _) | (with_reducible show Or (∃ n, rounds (acode _ (Code.block _ (Code.seq (Code.seq (Code.seq (Code.seq (Code.region 10 _ _) _) _) _) _))) _ n _) _)); refine Or.inr (Exists.intro (Nat) (Exists.intro (loopS2 x i (smS x (smM x v) i).2) (And.intro (Exists.intro (0) (And.intro (Hold.out ?_) (And.intro ?_ (And.intro ?_ rfl)))) (fun c hc => ?_)))))
            | ((with_reducible show (∃ y, And (Spec.inv (loopS2 _ _ _) y) _)); refine Exists.intro (c + 1) (And.intro (Hold.out ?_) (And.intro (And.intro ?_ (And.intro ?_ rfl)) (Hold.out ?_))))
            | refine And.intro rfl ?_
            | refine And.intro (HoldEq.out ?_) ?_
            | refine And.intro (HoldOb.out ?_) ?_
            | exact True.intro
            | refine HoldEq.out ?_
            | refine HoldObs.out ?_
            | refine HoldOr.out ?_)
  all_goals try first | refine HoldEq.int ?_ | refine HoldEq.bool ?_ | refine HoldEq.sl ?_ | refine HoldEq.own ?_ | refine HoldEq.ownS ?_ ?_ | refine HoldOb.row ?_ | refine HoldOb.map ?_ | refine HoldOb.gmap ?_ | refine HoldOb.grow ?_ | refine HoldObs.row ?_
  all_goals try simp only [take_one, take_one', set_one, take_all, List.length_singleton, rec_self, Int.toNat_natCast, pair_eta, ETy.dflt, List.getD_cons_zero, List.getD_cons_succ, Int.reduceToNat, Int.reduceAdd, Int.reduceSub, Int.reduceNeg, Nat.reduceAdd, Nat.zero_add, loopS1, loopS2] at *
  all_goals try (refine Hold.intro ?_; omega)
  all_goals try have hS := smS_le x (smM x v) i
  all_goals try rw [hm] at *
  · exact Hold.intro h.1
  · refine Hold.intro ⟨by decide, ?_⟩; rw [td3 hc0.1]; unfold i64ok; omega
  · refine Hold.intro ?_; rw [td3 hc0.1, hl]; omega
  · rw [smS_no (by assumption)]
  · rw [smS_no (by assumption)]
  · refine Hold.intro ?_; unfold i64ok; omega
  · rename_i h1; rw [smC_s, h1]; rfl
  · exact Hold.intro (show @LE.le Int _ (3 * (i : Int) + c) (1000000 : Int) by omega)
  · rename_i h1; rw [smC_s, h1]; rfl
  · rw [smS_yes (by assumption)]
  · rw [smS_yes (by assumption)]
    have e : c = 3 := by omega
    rw [e]
  all_goals (
    have e : i = (ofR x).length := by omega
    unfold smallR; rw [← e])
  · rename_i h1; rw [h1]; rfl
  · rename_i h1 h2; rw [h2]; rfl
  · rename_i h1 h2; rw [decide_eq_false h1, decide_eq_false h2]; rfl
def smallC : List AV → Option Res := con2P tabE i64E (fun x v => some (none, some (Good x ∧ tHas x (tCorner x v) = true), .s (.bool (smallR x v))))
theorem smallRow : FnRow Try.prog 51 smallC := ⟨con2P_ok fun x v r h => by cases h; exact fn_by (rulesF (fn := [(86, shOfC), (87, cornerC), (22, oppC)]) (fr := []) ⟨shOfRow, cornerRow, oppRow, trivial⟩ trivial) Try.func51 (by kernel_rfl) fun _ h => small_vc x v h, _, Try.func51, by kernel_rfl, by kernel_rfl⟩
end S1
