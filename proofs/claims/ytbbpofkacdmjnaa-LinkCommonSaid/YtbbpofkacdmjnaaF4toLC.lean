/- A part of the proofs of the laws of this seat: contracts of functions, each for every input that its text names. -/
import Derived.Test.YtbbpofkacdmjnaaT22toT25
set_option linter.unusedSimpArgs false
set_option linter.unusedVariables false
set_option maxHeartbeats 2000000
open Go Go.Vm Go.Proofs
namespace S1
set_option maxRecDepth 100000

/-! what certify.Check tells, in plain words -/
abbrev tg (l : List P3) (i : Nat) : P3 := l.getD i (0, 0, 0)
def dE (t : P3) (a b : Int) : Prop := (t.1 = a ∧ t.2.1 = b) ∨ (t.2.1 = a ∧ t.2.2 = b) ∨ (t.2.2 = a ∧ t.1 = b)
def dgn (t : P3) : Prop := t.1 = t.2.1 ∨ t.2.1 = t.2.2 ∨ t.2.2 = t.1
def PinP (l : List P3) (v : Int) : Prop := ∀ Q : Nat → Prop,
    (∀ i j : Nat, i < l.length → j < l.length → hasV (tg l i) v → hasV (tg l j) v → (∃ w : Int, w ≠ v ∧ hasV (tg l i) w ∧ hasV (tg l j) w) → Q i → Q j) →
    ∀ a, a < l.length → hasV (tg l a) v → Q a → ∀ i, i < l.length → hasV (tg l i) v → Q i
structure Surf (s : Int × List P3) : Prop where
  fit : fitS s
  deg : ∀ i, i < s.2.length → ¬ dgn (tg s.2 i)
  dif : ∀ i j, i < j → j < s.2.length → ∀ a b, dE (tg s.2 i) a b → ¬ dE (tg s.2 j) a b
  mir : ∀ i j, i < j → j < s.2.length → ¬ (hasV (tg s.2 j) (tg s.2 i).1 ∧ hasV (tg s.2 j) (tg s.2 i).2.1 ∧ hasV (tg s.2 j) (tg s.2 i).2.2)
  use : ∀ v : Nat, (v : Int) < s.1 → ∃ j, j < s.2.length ∧ hasV (tg s.2 j) v
  pin : ∀ v : Nat, (v : Int) < s.1 → PinP s.2 v

/-! keys -/
def keys (kp : P3 → List P3) (l : List P3) (i : Nat) : List P3 := (l.take i).flatMap kp
theorem keys_succ (kp : P3 → List P3) {l : List P3} {i : Nat} (h : i < l.length) : keys kp l (i + 1) = keys kp l i ++ kp (tg l i) := by
  unfold keys tg
  rw [List.take_succ_eq_append_getElem h, List.flatMap_append, List.getD_eq_getElem?_getD, List.getElem?_eq_getElem h]; simp
structure KFw (pre : List P3) (s : HadM × PS) : Prop where
  seen : s.2.1 = []
  nd : pre.Nodup
  had : ∀ k ∈ pre, hadAt s.1 k ≠ []
theorem kfw_step {kind : Int} {i m : Nat} {ks pre : List P3} {s : HadM × PS} (h : s.2.2 = [] → KFw pre s) (h2 : (prK kind i ks s m).2.2 = []) : s.2.2 = [] ∧ KFw (pre ++ [ks.getD m (0, 0, 0)]) (prK kind i ks s m) := by
  have h3 := prAs_same h2
  have h0 : s.2.2 = [] := by rw [← h3.1]; exact h2
  have u := h h0
  have he : hadAt s.1 (ks.getD m (0, 0, 0)) = [] := by
    cases e : hadAt s.1 (ks.getD m (0, 0, 0)) with
    | nil => rfl
    | cons a r =>
      have := h3.2 0 (by rw [e]; simp)
      rw [u.seen] at this
      cases this
  refine ⟨h0, (congrArg Prod.fst h3.1).trans u.seen, ?_, fun k hk => ?_⟩
  · rw [List.nodup_append]
    refine ⟨u.nd, List.nodup_cons.2 ⟨by simp, List.nodup_nil⟩, fun a ha b hb e => ?_⟩
    rw [List.mem_singleton] at hb
    subst hb; subst e
    exact u.had _ ha he
  · show hadAt (mset .arr3 s.1 (ks.getD m (0, 0, 0)) (hadAt s.1 (ks.getD m (0, 0, 0)) ++ [(i : Int)])) k ≠ []
    rw [hadAt_set]
    split
    · simp
    · rename_i hne
      rcases List.mem_append.1 hk with hk | hk
      · exact u.had k hk
      · rw [List.mem_singleton] at hk; exact absurd hk.symm hne
theorem kfw_steps {kind : Int} {i : Nat} {ks pre : List P3} {s : HadM × PS} (h : s.2.2 = [] → KFw pre s) : ∀ m, m ≤ ks.length → (irec (prK kind i ks) s m).2.2 = [] → KFw (pre ++ ks.take m) (irec (prK kind i ks) s m)
  | 0, _, h2 => by rw [List.take_zero, List.append_nil]; exact h h2
  | m + 1, hm, h2 => by
    have := (kfw_step (kind := kind) (i := i) (m := m) (ks := ks) (fun h' => kfw_steps h m (by omega) h') h2).2
    rw [List.append_assoc] at this
    rw [List.take_succ_eq_append_getElem (by omega)]
    rw [List.getD_eq_getElem?_getD, List.getElem?_eq_getElem (by omega)] at this
    exact this
theorem kfw_all (kp : P3 → List P3) (kind : Int) (l : List P3) : ∀ i, i ≤ l.length → (prS kp kind l i).2.2 = [] → KFw (keys kp l i) (prS kp kind l i)
  | 0, _, _ => ⟨rfl, List.nodup_nil, fun k h => (by cases h)⟩
  | i + 1, hi, h => by
    have h : (irec (prK kind i (kp (tg l i))) (prS kp kind l i) (kp (tg l i)).length).2.2 = [] := h
    have := kfw_steps (kind := kind) (i := i) (ks := kp (tg l i)) (fun h' => kfw_all kp kind l i (by omega) h') _ (Nat.le_refl _) h
    rw [List.take_length] at this
    rw [keys_succ kp (by omega)]
    exact this
structure KBw (pre : List P3) (s : HadM × PS) : Prop where
  z : s.2 = ([], [])
  had : ∀ k, hadAt s.1 k ≠ [] → k ∈ pre
theorem kbw_steps {kind : Int} {i : Nat} {ks pre : List P3} {s : HadM × PS} (h : KBw pre s) (hn : (pre ++ ks).Nodup) : ∀ m, m ≤ ks.length → KBw (pre ++ ks.take m) (irec (prK kind i ks) s m)
  | 0, _ => by rw [List.take_zero, List.append_nil]; exact h
  | m + 1, hm => by
    have ih := kbw_steps (kind := kind) (i := i) h hn m (by omega)
    have e1 : ks.take (m + 1) = ks.take m ++ [ks.getD m (0, 0, 0)] := by
      rw [List.take_succ_eq_append_getElem (by omega), List.getD_eq_getElem?_getD, List.getElem?_eq_getElem (by omega)]; rfl
    have hnew : ks.getD m (0, 0, 0) ∉ pre ++ ks.take m := by
      have h2 : (pre ++ ks.take (m + 1)).Nodup := by
        have : (pre ++ ks.take (m + 1)).Sublist (pre ++ ks) := List.Sublist.append (List.Sublist.refl _) (List.take_sublist _ _)
        exact this.nodup hn
      rw [e1, ← List.append_assoc, List.nodup_append] at h2
      exact fun hm => h2.2.2 _ hm _ (List.mem_singleton.2 rfl) rfl
    have he : hadAt (irec (prK kind i ks) s m).1 (ks.getD m (0, 0, 0)) = [] := by
      by_cases e : hadAt (irec (prK kind i ks) s m).1 (ks.getD m (0, 0, 0)) = []
      · exact e
      · exact absurd (ih.had _ e) hnew
    refine ⟨?_, fun k hk => ?_⟩
    · show irec (prA kind i (hadAt (irec (prK kind i ks) s m).1 (ks.getD m (0, 0, 0)))) (irec (prK kind i ks) s m).2 (hadAt (irec (prK kind i ks) s m).1 (ks.getD m (0, 0, 0))).length = _
      rw [he]; exact ih.z
    · have hk : hadAt (mset .arr3 (irec (prK kind i ks) s m).1 (ks.getD m (0, 0, 0)) (hadAt (irec (prK kind i ks) s m).1 (ks.getD m (0, 0, 0)) ++ [(i : Int)])) k ≠ [] := hk
      rw [hadAt_set] at hk
      rw [e1, ← List.append_assoc]
      split at hk
      · rename_i e; subst e; exact List.mem_append_right _ (List.mem_singleton.2 rfl)
      · exact List.mem_append_left _ (ih.had k hk)
theorem kbw_all (kp : P3 → List P3) (kind : Int) (l : List P3) (hn : (keys kp l l.length).Nodup) : ∀ i, i ≤ l.length → KBw (keys kp l i) (prS kp kind l i)
  | 0, _ => ⟨rfl, fun k h => absurd rfl h⟩
  | i + 1, hi => by
    have ih := kbw_all kp kind l hn i (by omega)
    have hn2 : (keys kp l (i + 1)).Nodup := by
      have : (keys kp l (i + 1)).Sublist (keys kp l l.length) := by
        unfold keys
        have e : l.flatMap kp = (l.take (i + 1)).flatMap kp ++ (l.drop (i + 1)).flatMap kp := by rw [← List.flatMap_append, List.take_append_drop]
        rw [List.take_length, e]
        exact List.sublist_append_left _ _
      exact this.nodup hn
    rw [keys_succ kp (by omega)] at hn2 ⊢
    have := kbw_steps (kind := kind) (i := i) (ks := kp (tg l i)) ih hn2 _ (Nat.le_refl _)
    rw [List.take_length] at this
    exact this
theorem prS_iff (kp : P3 → List P3) (kind : Int) (l : List P3) : (prS kp kind l l.length).2.2 = [] ↔ (l.flatMap kp).Nodup := by
  have e : keys kp l l.length = l.flatMap kp := by unfold keys; rw [List.take_length]
  constructor
  · intro h; have := (kfw_all kp kind l _ (Nat.le_refl _) h).nd; rw [e] at this; exact this
  · intro h; rw [← e] at h; rw [(kbw_all kp kind l h _ (Nat.le_refl _)).z]
theorem keys_nodup (kp : P3 → List P3) (l : List P3) : (l.flatMap kp).Nodup ↔ (∀ i, i < l.length → (kp (tg l i)).Nodup) ∧ ∀ i j, i < j → j < l.length → ∀ a ∈ kp (tg l i), a ∉ kp (tg l j) := by
  unfold List.Nodup
  rw [List.pairwise_flatMap, List.pairwise_iff_getElem]
  have g : ∀ i (h : i < l.length), tg l i = l[i] := fun i h => by unfold tg; rw [List.getD_eq_getElem?_getD, List.getElem?_eq_getElem h]; rfl
  constructor
  · rintro ⟨h1, h2⟩
    refine ⟨fun i hi => by rw [g i hi]; exact h1 _ (List.getElem_mem hi), fun i j hij hj a ha hb => ?_⟩
    rw [g i (by omega)] at ha; rw [g j hj] at hb
    exact h2 i j (by omega) hj hij a ha a hb rfl
  · rintro ⟨h1, h2⟩
    refine ⟨fun t ht => ?_, fun i j hi hj hij a ha b hb e => ?_⟩
    · obtain ⟨i, hi, e⟩ := List.mem_iff_getElem.1 ht
      have := h1 i hi
      rw [g i hi, e] at this; exact this
    · subst e
      have := h2 i j hij hj a
      rw [g i hi, g j hj] at this
      exact this ha hb
theorem kTwice_mem (t : P3) (k : P3) : k ∈ kTwice t ↔ k.2.2 = 0 ∧ dE t k.1 k.2.1 := by
  obtain ⟨a, b, c⟩ := k
  simp only [kTwice, dE, List.mem_cons, List.not_mem_nil, or_false, Prod.mk.injEq]
  constructor
  · rintro (⟨h1, h2, h3⟩ | ⟨h1, h2, h3⟩ | ⟨h1, h2, h3⟩)
    · exact ⟨h3, .inl ⟨h1.symm, h2.symm⟩⟩
    · exact ⟨h3, .inr (.inl ⟨h1.symm, h2.symm⟩)⟩
    · exact ⟨h3, .inr (.inr ⟨h1.symm, h2.symm⟩)⟩
  · rintro ⟨h3, (⟨h1, h2⟩ | ⟨h1, h2⟩ | ⟨h1, h2⟩)⟩
    · exact .inl ⟨h1.symm, h2.symm, h3⟩
    · exact .inr (.inl ⟨h1.symm, h2.symm, h3⟩)
    · exact .inr (.inr ⟨h1.symm, h2.symm, h3⟩)
theorem twice_iff {l : List P3} (hd : ∀ i, i < l.length → ¬ dgn (tg l i)) : (prS kTwice 3 l l.length).2.2 = [] ↔ ∀ i j, i < j → j < l.length → ∀ a b, dE (tg l i) a b → ¬ dE (tg l j) a b := by
  rw [prS_iff, keys_nodup]
  constructor
  · rintro ⟨_, h⟩ i j hij hj a b h1 h2
    exact h i j hij hj (a, b, 0) ((kTwice_mem _ _).2 ⟨rfl, h1⟩) ((kTwice_mem _ _).2 ⟨rfl, h2⟩)
  · intro h
    refine ⟨fun i hi => ?_, fun i j hij hj k h1 h2 => h i j hij hj _ _ ((kTwice_mem _ _).1 h1).2 ((kTwice_mem _ _).1 h2).2⟩
    have := hd i hi
    unfold dgn at this
    simp only [kTwice, List.nodup_cons, List.mem_cons, List.not_mem_nil, or_false, Prod.mk.injEq, not_false_eq_true, List.nodup_nil, and_true, true_and]
    refine ⟨?_, ?_⟩ <;> omega
theorem srt3_iff {a b c d e f : Int} (h : ¬ (a = b ∨ b = c ∨ c = a)) (h' : ¬ (d = e ∨ e = f ∨ f = d)) : srt3 a b c = srt3 d e f ↔ ((d = a ∨ e = a ∨ f = a) ∧ (d = b ∨ e = b ∨ f = b) ∧ (d = c ∨ e = c ∨ f = c)) := by
  unfold srt3
  constructor
  · intro h
    repeat' split at h
    all_goals (simp only [List.cons.injEq, and_true] at h; omega)
  · intro h
    repeat' split
    all_goals (simp only [List.cons.injEq, and_true]; omega)
theorem srt3_get (a b c : Int) : [(srt3 a b c).getD 0 0, (srt3 a b c).getD 1 0, (srt3 a b c).getD 2 0] = srt3 a b c := by
  unfold srt3
  repeat' split
  all_goals rfl
theorem kMir_same {t u : P3} (ht : ¬ dgn t) (hu : ¬ dgn u) {k : P3} (h : k ∈ kMir' t) : k ∈ kMir' u ↔ (hasV u t.1 ∧ hasV u t.2.1 ∧ hasV u t.2.2) := by
  unfold kMir' at *
  rw [List.mem_singleton] at h ⊢
  unfold hasV
  rw [← srt3_iff ht hu, h]
  constructor
  · intro e
    rw [← srt3_get t.1, ← srt3_get u.1]
    simp only [Prod.mk.injEq] at e
    rw [e.1, e.2.1, e.2.2]
  · intro e; rw [e]
theorem mir_iff {l : List P3} (hd : ∀ i, i < l.length → ¬ dgn (tg l i)) : (prS kMir 4 l l.length).2.2 = [] ↔ ∀ i j, i < j → j < l.length → ¬ (hasV (tg l j) (tg l i).1 ∧ hasV (tg l j) (tg l i).2.1 ∧ hasV (tg l j) (tg l i).2.2) := by
  rw [kMir_eq, prS_iff, keys_nodup]
  constructor
  · rintro ⟨_, h⟩ i j hij hj e
    have hm : _ ∈ kMir' (tg l i) := List.mem_singleton.2 rfl
    exact h i j hij hj _ hm ((kMir_same (hd i (by omega)) (hd j hj) hm).2 e)
  · intro h
    refine ⟨fun i hi => List.nodup_cons.2 ⟨by simp, List.nodup_nil⟩, fun i j hij hj k h1 h2 => h i j hij hj ((kMir_same (hd i (by omega)) (hd j hj) h1).1 h2)⟩

/-! lonely -/
theorem mark3_set {s : List Bool} {t : P3} {v : Nat} (h : s.getD v false = true ∨ (v < s.length ∧ (t.1.toNat = v ∨ t.2.1.toNat = v ∨ t.2.2.toNat = v))) : (mark3 s t).getD v false = true := by
  unfold mark3
  simp only [List.getD_eq_getElem?_getD, List.getElem?_set, List.length_set]
  rcases h with h | ⟨hl, h⟩
  · rw [List.getD_eq_getElem?_getD] at h
    have hl : v < s.length := by
      rcases Nat.lt_or_ge v s.length with h' | h'
      · exact h'
      · rw [List.getElem?_eq_none h'] at h; cases h
    rw [List.getElem?_eq_getElem hl] at h
    repeat' split
    all_goals first | rfl | omega | (rw [List.getElem?_eq_getElem hl]; exact h)
  · repeat' split
    all_goals first | rfl | omega
theorem there_in {n : Nat} {l : List P3} {v : Nat} (hv : v < n) : ∀ i, (∃ j, j < i ∧ ((tg l j).1.toNat = v ∨ (tg l j).2.1.toNat = v ∨ (tg l j).2.2.toNat = v)) → (thereF n l i).getD v false = true
  | 0, ⟨j, hj, _⟩ => by omega
  | i + 1, ⟨j, hj, h⟩ => by
    show (mark3 (thereF n l i) (tg l i)).getD v false = true
    by_cases e : j = i
    · subst e; exact mark3_set (.inr ⟨by rw [thereF_len]; exact hv, h⟩)
    · exact mark3_set (.inl (there_in hv i ⟨j, by omega, h⟩))
theorem lone_iff {s : Int × List P3} (hf : fitS s) : loneR s = [] ↔ ∀ v : Nat, (v : Int) < s.1 → ∃ j, j < s.2.length ∧ hasV (tg s.2 j) v := by
  have nn := fit_nn hf
  unfold loneR loL
  rw [List.filterMap_eq_nil_iff]
  constructor
  · intro h v hv
    have := h v (List.mem_range.2 (by omega))
    unfold loG at this
    split at this
    case isFalse => cases this
    rename_i ht
    obtain ⟨j, hj, e⟩ := there_ex _ ht
    have := nn j hj
    exact ⟨j, hj, by show (s.2.getD j (0, 0, 0)).1 = v ∨ (s.2.getD j (0, 0, 0)).2.1 = v ∨ (s.2.getD j (0, 0, 0)).2.2 = v; omega⟩
  · intro h v hv
    have hv := List.mem_range.1 hv
    obtain ⟨j, hj, e⟩ := h v (by omega)
    have e : (s.2.getD j (0, 0, 0)).1 = v ∨ (s.2.getD j (0, 0, 0)).2.1 = v ∨ (s.2.getD j (0, 0, 0)).2.2 = v := e
    unfold loG
    rw [if_pos (there_in hv _ ⟨j, hj, by
      show (s.2.getD j (0, 0, 0)).1.toNat = v ∨ (s.2.getD j (0, 0, 0)).2.1.toNat = v ∨ (s.2.getD j (0, 0, 0)).2.2.toNat = v
      omega⟩)]

/-! pinch: what is connected is reached -/
theorem enW_keep {v i : Int} {t : P3} {m : EndM} {k : Nat} {w y : Int} (h : y ∈ endAt m w) : y ∈ endAt (enW v i t m k) w := by
  unfold enW
  split
  · exact h
  · rw [endAt_set]
    split
    · rename_i e; subst e; exact List.mem_append_left _ h
    · exact h
theorem enW_put {v i : Int} {t : P3} {m : EndM} {k : Nat} (h : (trl t).getD k 0 ≠ v) : i ∈ endAt (enW v i t m k) ((trl t).getD k 0) := by
  unfold enW
  rw [if_neg h, endAt_set, if_pos rfl]
  exact List.mem_append_right _ (List.mem_singleton.2 rfl)
theorem enT_keep {l : List P3} {v : Int} {tris : List Int} {m : EndM} {j : Nat} {w y : Int} (h : y ∈ endAt m w) : y ∈ endAt (enT l v tris m j) w :=
  irec_inv (n := 3) (fun _ (m : EndM) => y ∈ endAt m w) h (fun _ _ _ h => enW_keep h) 3 (Nat.le_refl _)
theorem irec_put {S : Type} {f : S → Nat → S} {s : S} {P : S → Prop} {k : Nat} (hk : ∀ s, P (f s k)) (hs : ∀ s j, P s → P (f s j)) : ∀ n, k < n → P (irec f s n)
  | n + 1, h => by
    by_cases e : k = n
    · subst e; exact hk _
    · exact hs _ _ (irec_put hk hs n (by omega))
theorem trl_ex {t : P3} {w : Int} (h : w ∈ trl t) : ∃ k, k < 3 ∧ (trl t).getD k 0 = w := by
  simp only [trl, List.mem_cons, List.not_mem_nil, or_false] at h
  rcases h with h | h | h
  · exact ⟨0, by omega, h.symm⟩
  · exact ⟨1, by omega, h.symm⟩
  · exact ⟨2, by omega, h.symm⟩
/-- Each triangle of a vertex is noted at each of its other vertices. -/
theorem enA_all {l : List P3} {v : Int} {tris : List Int} {y w : Int} (hy : y ∈ tris) (hw : w ∈ trl (tri l y)) (hn : w ≠ v) : y ∈ endAt (enA l v tris tris.length) w := by
  obtain ⟨j, hj, e⟩ := List.mem_iff_getElem.1 hy
  have e2 : tris.getD j 0 = y := by rw [List.getD_eq_getElem?_getD, List.getElem?_eq_getElem hj]; exact e
  unfold enA
  refine irec_put (P := fun m => y ∈ endAt m w) (k := j) (fun m => ?_) (fun m i h => enT_keep h) _ hj
  obtain ⟨k, hk, ek⟩ := trl_ex hw
  unfold enT
  rw [e2]
  refine irec_put (P := fun m => y ∈ endAt m w) (k := k) (fun m => ?_) (fun m i h => enW_keep h) 3 hk
  have := enW_put (v := v) (i := y) (t := tri l y) (m := m) (k := k) (by rw [ek]; exact hn)
  rw [ek] at this
  exact this
/-- Reached, and still to be looked at: or all that is beside it is reached. -/
def Reach (E : EndM) (l : List P3) (v : Int) (S : TgS) (x : Int) : Prop := x ∈ S.2.1.drop S.1 ∨ ∀ w ∈ trl (tri l x), w ≠ v → ∀ y ∈ endAt E w, had S.2.2 y = true
theorem vis_had {av : List Int} {S : TgS} {j : Nat} {y : Int} (h : had S.2.2 y = true) : had (vis av S j).2.2 y = true := by
  unfold vis
  split
  · exact h
  · show had (mset (.int .i64) S.2.2 (av.getD j 0) true) y = true
    rw [had_set]; split
    · rfl
    · exact h
theorem vis_put {av : List Int} {S : TgS} {j : Nat} : had (vis av S j).2.2 (av.getD j 0) = true := by
  unfold vis
  split
  · assumption
  · show had (mset (.int .i64) S.2.2 (av.getD j 0) true) _ = true
    rw [had_set, if_pos rfl]
theorem vis_wait {av : List Int} {S : TgS} {j : Nat} {y : Int} (h : y ∈ S.2.1.drop S.1) : y ∈ (vis av S j).2.1.drop (vis av S j).1 := by
  unfold vis
  split
  · exact h
  · show y ∈ (S.2.1.drop S.1 ++ [av.getD j 0]).drop 0
    rw [List.drop_zero]; exact List.mem_append_left _ h
theorem vis_new2 {av : List Int} {S : TgS} {j : Nat} {y : Int} (h : had (vis av S j).2.2 y = true) : had S.2.2 y = true ∨ y ∈ (vis av S j).2.1.drop (vis av S j).1 := by
  unfold vis at *
  split at h
  · exact .inl h
  · rename_i hn
    have h : had (mset (.int .i64) S.2.2 (av.getD j 0) true) y = true := h
    rw [had_set] at h
    rw [if_neg hn]
    split at h
    · rename_i e; subst e
      refine .inr ?_
      show _ ∈ (S.2.1.drop S.1 ++ [av.getD j 0]).drop 0
      rw [List.drop_zero]; exact List.mem_append_right _ (List.mem_singleton.2 rfl)
    · exact .inl h
/-- What a step may do: what was reached stays, what waited waits, what is new waits. -/
structure Grow2 (S T : TgS) : Prop where
  had : ∀ y, had S.2.2 y = true → had T.2.2 y = true
  wait : ∀ y, y ∈ S.2.1.drop S.1 → y ∈ T.2.1.drop T.1
  new : ∀ y, S1.had T.2.2 y = true → S1.had S.2.2 y = true ∨ y ∈ T.2.1.drop T.1
theorem Grow2.refl (S : TgS) : Grow2 S S := ⟨fun _ h => h, fun _ h => h, fun _ h => .inl h⟩
theorem Grow2.trans {S T U : TgS} (h : Grow2 S T) (k : Grow2 T U) : Grow2 S U :=
  ⟨fun y e => k.had y (h.had y e), fun y e => k.wait y (h.wait y e), fun y e => by
    rcases k.new y e with e | e
    · rcases h.new y e with e | e
      · exact .inl e
      · exact .inr (k.wait y e)
    · exact .inr e⟩
theorem vis_grow {av : List Int} {S : TgS} {j : Nat} : Grow2 S (vis av S j) := ⟨fun _ h => vis_had h, fun _ h => vis_wait h, fun _ h => vis_new2 h⟩
theorem viss_grow {av : List Int} {S : TgS} (n : Nat) : Grow2 S (irec (vis av) S n) :=
  irec_inv (n := n) (fun _ (T : TgS) => Grow2 S T) (.refl S) (fun _ _ _ h => h.trans vis_grow) n (Nat.le_refl _)
theorem tgW_grow {E : EndM} {v : Int} {t : P3} {S : TgS} {k : Nat} : Grow2 S (tgW E v t S k) := by
  unfold tgW; split
  · exact .refl S
  · exact viss_grow _
theorem tgWs_grow {E : EndM} {v : Int} {t : P3} {S : TgS} (n : Nat) : Grow2 S (irec (tgW E v t) S n) :=
  irec_inv (n := n) (fun _ (T : TgS) => Grow2 S T) (.refl S) (fun _ _ _ h => h.trans tgW_grow) n (Nat.le_refl _)
theorem tgW_put {E : EndM} {v : Int} {t : P3} {S : TgS} {k : Nat} (h : (trl t).getD k 0 ≠ v) {y : Int} (hy : y ∈ endAt E ((trl t).getD k 0)) : had (tgW E v t S k).2.2 y = true := by
  unfold tgW
  rw [if_neg h]
  obtain ⟨j, hj, e⟩ := List.mem_iff_getElem.1 hy
  have e2 : (endAt E ((trl t).getD k 0)).getD j 0 = y := by rw [List.getD_eq_getElem?_getD, List.getElem?_eq_getElem hj]; exact e
  refine irec_put (P := fun S : TgS => had S.2.2 y = true) (k := j) (fun S => ?_) (fun _ _ h => vis_had h) _ hj
  have := vis_put (av := endAt E ((trl t).getD k 0)) (S := S) (j := j)
  rw [e2] at this; exact this
def RInv (E : EndM) (l : List P3) (v : Int) (S : TgS) : Prop := ∀ x, had S.2.2 x = true → Reach E l v S x
theorem tgR_inv {E : EndM} {l : List P3} {v : Int} {S : TgS} {r : Nat} (h : RInv E l v S) : RInv E l v (tgR E l v S r) := by
  unfold tgR
  split
  case isFalse => exact h
  rename_i hs
  have g := tgWs_grow (E := E) (v := v) (t := tri l (S.2.1.getD S.1 0)) (S := (S.1 + 1, S.2.1, S.2.2)) 3
  intro x hx
  by_cases e : x = S.2.1.getD S.1 0
  · subst e
    refine .inr fun w hw hn y hy => ?_
    obtain ⟨k, hk, ek⟩ := trl_ex hw
    refine irec_put (P := fun S : TgS => had S.2.2 y = true) (k := k) (fun S => ?_) (fun S j h => tgW_grow.had y h) 3 hk
    exact tgW_put (by rw [ek]; exact hn) (by rw [ek]; exact hy)
  · rcases g.new x hx with hx | hx
    · rcases h x hx with hw | hw
      · left
        refine g.wait x ?_
        show x ∈ S.2.1.drop (S.1 + 1)
        rw [List.drop_eq_getElem_cons hs] at hw
        rcases List.mem_cons.1 hw with hw | hw
        · exact absurd (by rw [hw, List.getD_eq_getElem?_getD, List.getElem?_eq_getElem hs]; rfl) e
        · exact hw
      · exact .inr fun w hw' hn y hy => g.had y (hw w hw' hn y hy)
    · exact .inl hx
theorem tgS_inv (E : EndM) (l : List P3) (v x0 : Int) : ∀ r, RInv E l v (tgS E l v x0 r)
  | 0 => fun x hx => by
    have hx : had [(x0, true)] x = true := hx
    left
    show x ∈ [x0].drop 0
    rw [List.drop_zero, List.mem_singleton]
    have : had (mset (.int .i64) ([] : ReM) x0 true) x = true := hx
    rw [had_set] at this
    split at this
    · rename_i e; exact e.symm
    · cases this
  | r + 1 => tgR_inv (r := r) (tgS_inv E l v x0 r)
theorem tgS_done {E : EndM} {l : List P3} {v x0 : Int} {tris : List Int} {c : Nat} (hE : EnOk tris c E) (hx : x0 ∈ tris) : ∀ r, (tgS E l v x0 r).1 < (tgS E l v x0 r).2.1.length → meas tris (tgS E l v x0 r) + r ≤ tris.length + 1
  | 0, _ => meas_init
  | r + 1, h => by
    have hok := (tgS_ok hE (l := l) (v := v) hx r).1
    by_cases hs : (tgS E l v x0 r).1 < (tgS E l v x0 r).2.1.length
    · have ih := tgS_done (l := l) (v := v) hE hx r hs
      have := (tgR_ok (l := l) (v := v) (r := r) hE hok).2.2 hs
      have e : tgS E l v x0 (r + 1) = tgR E l v (tgS E l v x0 r) r := rfl
      rw [e]; omega
    · rw [tgS_stop hs 1] at h; exact absurd h hs
theorem had_key : ∀ {m : ReM} {x : Int}, had m x = true → x ∈ keysR m
  | [], x, h => by cases h
  | (a, b) :: r, x, h => by
    unfold had at h
    simp only [mget] at h
    unfold keysR
    split at h
    · rename_i e _; exact List.mem_cons.2 (.inl e.symm)
    · exact List.mem_cons_of_mem _ (had_key h)
theorem len_sub : ∀ (ks l : List Int), ks.Nodup → (∀ x ∈ ks, x ∈ l) → ks.length ≤ l.length
  | [], l, _, _ => Nat.zero_le _
  | a :: r, l, hd, hs => by
    have hd := List.nodup_cons.1 hd
    have ha := hs a (List.mem_cons_self ..)
    have ih := len_sub r (l.erase a) hd.2 (fun y hy => (List.mem_erase_of_ne (fun e => hd.1 (by rw [← e]; exact hy))).2 (hs y (List.mem_cons_of_mem _ hy)))
    have hle : (l.erase a).length = l.length - 1 := List.length_erase_of_mem ha
    have := List.length_pos_of_mem ha
    simp only [List.length_cons]; omega
theorem tog_of {l : List P3} {v : Int} {tris : List Int} (ht : tris ≠ []) (hn : tris.Nodup)
    (hc : ∀ Q : Int → Prop, (∀ i ∈ tris, ∀ j ∈ tris, (∃ w, w ≠ v ∧ w ∈ trl (tri l i) ∧ w ∈ trl (tri l j)) → Q i → Q j) → Q (tris.getD 0 0) → ∀ i ∈ tris, Q i) : togR l v tris = true := by
  have hm : tris.getD 0 0 ∈ tris := getD_mem (List.length_pos_iff.2 ht)
  have hE := enA_ok l v tris tris.length (Nat.le_refl _)
  have hin := tgS_in (l := l) (v := v) (x0 := tris.getD 0 0) (enA_in l v tris) (Q := fun _ => True) (fun _ _ _ _ _ _ => trivial) ⟨hm, trivial⟩ (2 * tris.length + 2)
  have hR := tgS_inv (enA l v tris tris.length) l v (tris.getD 0 0) (2 * tris.length + 2)
  have hstop : ¬ (tgS (enA l v tris tris.length) l v (tris.getD 0 0) (2 * tris.length + 2)).1 < (tgS (enA l v tris tris.length) l v (tris.getD 0 0) (2 * tris.length + 2)).2.1.length := fun h => by
    have := tgS_done (l := l) (v := v) hE hm _ h
    omega
  have h0 : had (tgS (enA l v tris tris.length) l v (tris.getD 0 0) (2 * tris.length + 2)).2.2 (tris.getD 0 0) = true :=
    irec_inv (n := 2 * tris.length + 2) (fun _ (S : TgS) => had S.2.2 (tris.getD 0 0) = true) (by
      show had (mset (.int .i64) ([] : ReM) (tris.getD 0 0) true) _ = true
      rw [had_set, if_pos rfl]) (fun j S _ h => by
      unfold tgR
      split
      · exact (tgWs_grow 3).had _ h
      · exact h) _ (Nat.le_refl _)
  unfold togR
  generalize tgS (enA l v tris tris.length) l v (tris.getD 0 0) (2 * tris.length + 2) = S at *
  have all := hc (fun i => had S.2.2 i = true) (fun i hi j hj ⟨w, h1, h2, h3⟩ hq => by
    rcases hR i hq with h | h
    · rw [List.drop_eq_nil_of_le (by omega)] at h; cases h
    · exact h w h2 h1 j (enA_all hj h3 h1)) h0
  have hk : ∀ x ∈ keysR S.2.2, x ∈ tris := fun x hx => (hin.k x hx).1
  have l1 := len_sub _ _ hin.nd hk
  have l2 := len_sub tris (keysR S.2.2) hn fun x hx => had_key (all x hx)
  have e : (keysR S.2.2).length = S.2.2.length := by unfold keysR; rw [List.length_map]
  rw [e] at l1 l2
  have : S.2.2.length = tris.length := by omega
  rw [this]; exact beq_self_eq_true _
theorem atP_nodup {s : List (List Int)} {w : Int} {j v : Nat} (h : (s.getD v []).Nodup ∧ ∀ x ∈ s.getD v [], x < (j : Int)) (h2 : w.toNat = v → ∀ x ∈ s.getD v [], x ≠ (j : Int)) : ((atP s w j).getD v []).Nodup := by
  rw [atP_get]
  split
  · rename_i e
    rw [List.nodup_append]
    refine ⟨h.1, List.nodup_cons.2 ⟨by simp, List.nodup_nil⟩, fun a ha b hb => ?_⟩
    rw [List.mem_singleton] at hb
    rw [hb]; exact h2 e.1 a ha
  · exact h.1
theorem atF_nodup {n : Nat} {l : List P3} (hl : ∀ j, j < l.length → 0 ≤ (tg l j).1 ∧ 0 ≤ (tg l j).2.1 ∧ 0 ≤ (tg l j).2.2) (hd : ∀ i, i < l.length → ¬ dgn (tg l i)) {v : Nat} (hv : v < n) : ∀ i, i ≤ l.length → ((atF n l i).getD v []).Nodup
  | 0, _ => by
    have e : (atF n l 0).getD v [] = [] := by
      show (List.replicate n ([] : List Int)).getD v [] = []
      rw [List.getD_eq_getElem?_getD, List.getElem?_replicate]; split <;> rfl
    rw [e]; exact List.nodup_nil
  | i + 1, hi => by
    have ih := atF_nodup hl hd hv i (by omega)
    have hm := atF_mem hl hv i (by omega)
    have hlt : ∀ x ∈ (atF n l i).getD v [], x < (i : Int) := fun x hx => by
      obtain ⟨j, hj, e, _⟩ := (hm x).1 hx; omega
    obtain ⟨h1, h2, h3⟩ := hl i (by omega)
    have hdg := hd i (by omega)
    unfold dgn at hdg
    show ((at3 (atF n l i) (tg l i) i).getD v []).Nodup
    unfold at3
    -- at most one of the three is v
    by_cases e1 : (tg l i).1.toNat = v
    · have k2 : ¬ (tg l i).2.1.toNat = v := by omega
      have k3 : ¬ (tg l i).2.2.toNat = v := by omega
      rw [atP_get, if_neg (fun h => k3 h.1), atP_get, if_neg (fun h => k2 h.1)]
      exact atP_nodup ⟨ih, hlt⟩ fun _ x hx => by have := hlt x hx; omega
    · by_cases e2 : (tg l i).2.1.toNat = v
      · have k3 : ¬ (tg l i).2.2.toNat = v := by omega
        rw [atP_get, if_neg (fun h => k3 h.1)]
        have e : (atP (atF n l i) (tg l i).1 i).getD v [] = (atF n l i).getD v [] := by rw [atP_get, if_neg (fun h => e1 h.1)]
        exact atP_nodup ⟨by rw [e]; exact ih, by rw [e]; exact hlt⟩ fun _ x hx => by rw [e] at hx; have := hlt x hx; omega
      · have e : (atP (atP (atF n l i) (tg l i).1 i) (tg l i).2.1 i).getD v [] = (atF n l i).getD v [] := by rw [atP_get, if_neg (fun h => e2 h.1), atP_get, if_neg (fun h => e1 h.1)]
        exact atP_nodup ⟨by rw [e]; exact ih, by rw [e]; exact hlt⟩ fun _ x hx => by rw [e] at hx; have := hlt x hx; omega
theorem pin_iff {s : Int × List P3} (hf : fitS s) (hd : ∀ i, i < s.2.length → ¬ dgn (tg s.2 i)) (hu : ∀ v : Nat, (v : Int) < s.1 → ∃ j, j < s.2.length ∧ hasV (tg s.2 j) v) : pinR s = [] ↔ ∀ v : Nat, (v : Int) < s.1 → PinP s.2 v := by
  constructor
  · exact fun h v hv Q hQ a h1 h2 h3 => pin_all (n := s.1) (l := s.2) h (fit_nn hf) hv Q hQ h1 h2 h3
  · intro h
    refine List.filterMap_eq_nil_iff.2 fun v hv => ?_
    have hv := List.mem_range.1 hv
    unfold piG
    rw [if_pos ?_]
    have hm := atF_mem (n := s.1.toNat) (l := s.2) (fit_nn hf) hv _ (Nat.le_refl _)
    refine tog_of (atF_ne s.1.toNat s.2 hv _ (hu v (by omega))) (atF_nodup (fit_nn hf) hd hv _ (Nat.le_refl _)) fun Q hQ h0 i hi => ?_
    obtain ⟨j, hj, rfl, hjv⟩ := (hm i).1 hi
    have hz := (hm _).1 (getD_mem (j := 0) (List.length_pos_iff.2 (atF_ne s.1.toNat s.2 hv _ (hu v (by omega)))))
    obtain ⟨z, hz1, hz2, hz3⟩ := hz
    rw [hz2] at h0
    refine h v (by omega) (fun k => Q (k : Int)) (fun a b ha hb hav hbv ⟨w, hw, hwa, hwb⟩ hq => ?_) z hz1 hz3 h0 j hj hjv
    exact hQ a ((hm a).2 ⟨a, ha, rfl, hav⟩) b ((hm b).2 ⟨b, hb, rfl, hbv⟩) ⟨w, hw, trl_iff.2 hwa, trl_iff.2 hwb⟩ hq
theorem deg_iff {l : List P3} : dgL l l.length = [] ↔ ∀ i, i < l.length → ¬ dgn (tg l i) := by
  constructor
  · exact fun h i hi => deg_no h hi
  · intro h
    refine List.filterMap_eq_nil_iff.2 fun i hi => ?_
    have := h i (List.mem_range.1 hi)
    unfold dgn at this
    unfold dgG
    rw [if_neg ?_]
    intro e
    unfold degR at e
    simp only [Bool.or_eq_true, beq_iff_eq] at e
    exact this e
theorem idx_iff {s : Int × List P3} : indexR s = [] ↔ fitS s := by
  obtain ⟨n, l⟩ := s
  constructor
  · intro h; exact idx_fit (by rw [h]; simp)
  · intro h
    have hb : bigR (n, l) = false := by
      have h1 : 0 ≤ n := h.1
      have h2 : n ≤ 4096 := h.2.1
      have h3 : l.length ≤ 8192 := h.2.2.1
      unfold bigR
      simp only [Bool.or_eq_false_iff, decide_eq_false_iff_not]
      omega
    unfold indexR
    rw [hb]
    refine List.filterMap_eq_nil_iff.2 fun i hi => ?_
    unfold idxG
    rw [if_pos (h.2.2.2 i (List.mem_range.1 hi))]
theorem all_iff (s : Int × List P3) : allR s = [] ↔ (indexR s = [] ∧ dgL s.2 s.2.length = [] ∧ (prS kTwice 3 s.2 s.2.length).2.2 = [] ∧ (prS kMir 4 s.2 s.2.length).2.2 = [] ∧ loneR s = [] ∧ pinR s = []) := by
  constructor
  · intro h
    have h := firstW_nil h
    exact ⟨h _ (by simp), h _ (by simp), h _ (by simp), h _ (by simp), h _ (by simp), h _ (by simp)⟩
  · rintro ⟨h1, h2, h3, h4, h5, h6⟩
    unfold allR
    simp [firstW, h1, h2, h3, h4, h5, h6]
/-- CERTIFIED is being a surface. -/
theorem surf_iff (s : Int × List P3) : (chkR s).1 = 0 ↔ Surf s := by
  constructor
  · intro h
    obtain ⟨h1, h2, h3, h4, h5, h6⟩ := (all_iff s).1 (chk_all h)
    have hf := idx_iff.1 h1
    have hd := deg_iff.1 h2
    have hu := (lone_iff hf).1 h5
    exact ⟨hf, hd, (twice_iff hd).1 h3, (mir_iff hd).1 h4, hu, (pin_iff hf hd hu).1 h6⟩
  · intro h
    have : allR s = [] := (all_iff s).2 ⟨idx_iff.2 h.fit, deg_iff.2 h.deg, (twice_iff h.deg).2 h.dif, (mir_iff h.deg).2 h.mir, (lone_iff h.fit).2 h.use, (pin_iff h.fit h.deg h.use).2 h.pin⟩
    unfold chkR; rw [this]; rfl
end S1

open Go Go.Vm Go.Proofs
namespace S1
set_option maxRecDepth 100000

/-! gypsumlaw34.LinkNone -/
def awake34C : List AV → Option Res
  | [] => some (none, none, .s (.bool true))
  | _ => none
theorem awake34Row : FnRow Try.prog 14 awake34C := ⟨fun args r h => by
  cases args with
  | nil => cases h; exact fn_by (rulesF (fn := [(28, newC), (18, whyC), (20, mayC), (16, comC)]) (fr := []) ⟨newRow, whyRow, mayRow, comRow, trivial⟩ trivial) Try.func14 (by kernel_rfl) fun _ _ => awake_vc
  | cons a l => (cases h), _, Try.func14, by kernel_rfl, by kernel_rfl⟩
theorem near_self {x : tabE.T} (g : Good x) (a : Int) : nearR x a a = false := by
  have key : ¬ 0 ≤ tFacing x (a, a) := fun h => by
    unfold tFacing at h
    cases e : mget .arr2 x.2.1 (a, a) with
    | none => rw [e] at h; exact absurd h (by decide)
    | some c =>
      obtain ⟨h1, h2⟩ := g.map _ _ e
      exact g.ends c h1 (by rw [h2])
  unfold nearR
  rw [decide_eq_false key]; rfl
/-- What has an edge is a vertex. -/
theorem near_in {x : tabE.T} (g : Good x) {a b : Int} (h : nearR x a b = true) : (0 ≤ a ∧ a < x.1.1) ∧ (0 ≤ b ∧ b < x.1.1) := by
  have key : ∀ {a b : Int}, 0 ≤ tFacing x (a, b) → (0 ≤ a ∧ a < x.1.1) ∧ (0 ≤ b ∧ b < x.1.1) := fun {a b} h => by
    unfold tFacing at h
    cases e : mget .arr2 x.2.1 (a, b) with
    | none => rw [e] at h; exact absurd h (by decide)
    | some c =>
      obtain ⟨h1, h2⟩ := g.map _ _ e
      have e1 : tVert x (tNext x c) = a := congrArg Prod.fst h2
      have e2 : tVert x (tPrev x c) = b := congrArg Prod.snd h2
      have k1 := tVert_in g.fit (hasNP h1).1
      have k2 := tVert_in g.fit (hasNP h1).2
      rw [e1] at k1; rw [e2] at k2
      exact ⟨k1, k2⟩
  unfold nearR at h
  rw [Bool.or_eq_true, decide_eq_true_eq, decide_eq_true_eq] at h
  rcases h with h | h
  · exact key h
  · exact (key h).symm
theorem why_far {x : tabE.T} {a b : Int} (h : nearR x a b = false) : whyR x a b = 1 := by unfold whyR; rw [h]; rfl
theorem link_far {x : tabE.T} {v : Int} (h : ¬ (0 ≤ v ∧ v < x.1.1)) : linkR x v = [] := by
  have e : aroundL (some x) v = [] := aroundL_no fun k => h ⟨k.1, k.2.1⟩
  unfold linkR
  rw [e]
  simp [lkO, lkLast]
theorem com_far {x : tabE.T} {a b : Int} (h : ¬ (0 ≤ b ∧ b < x.1.1)) : comR x a b = [] := by
  unfold comR
  split
  · rfl
  · rw [link_far h]
    have : (linkR x a).filter (fun v => hasI v []) = [] := List.filter_eq_nil_iff.2 fun v _ => by simp [hasI, fstI]
    rw [this]
    exact List.length_eq_zero_iff.1 (sortI_len [])
end S1

open Go Go.Vm Go.Proofs
namespace S1
set_option maxRecDepth 100000

/-! who is in a link, and in two -/
theorem new_full {s : Int × List P3} {x : tabE.T} (h : newO s = some x) : x = newT s ∧ Full x ∧ Surf s := by
  unfold newO at h
  split at h
  · rename_i hc
    cases h
    exact ⟨rfl, full_new hc, (surf_iff s).1 hc⟩
  · cases h
theorem laid_full {s : Int × List P3} {x : tabE.T} (h : laidO s = some x) : x = newT s ∧ Full x ∧ Surf s ∧ greatR s = 0 := by
  unfold laidO at h
  split at h
  · cases h
  · rename_i hg
    obtain ⟨h1, h2, h3⟩ := new_full h
    refine ⟨h1, h2, h3, ?_⟩
    unfold greatR at hg ⊢
    split
    · rename_i h; rw [if_pos h] at hg; exact absurd rfl hg
    · rename_i h; rw [if_neg h] at hg
      split
      · rename_i h; rw [if_pos h] at hg; exact absurd rfl hg
      · rename_i h; rw [if_neg h] at hg
        split
        · rename_i h; rw [if_pos h] at hg; exact absurd rfl hg
        · rfl
theorem fstI_mem (v : Int) : ∀ (l : List Int) (i : Nat), fstI v l i ≥ 0 ↔ v ∈ l
  | [], i => ⟨fun h => by have h : (-1 : Int) ≥ 0 := h; omega, fun h => (by cases h)⟩
  | a :: r, i => by
    unfold fstI
    split
    · rename_i e; subst e
      exact ⟨fun _ => List.mem_cons_self .., fun _ => by omega⟩
    · rename_i e
      rw [fstI_mem v r, List.mem_cons]
      exact ⟨.inr, fun h => h.resolve_left e⟩
theorem hasI_iff {v : Int} {l : List Int} : hasI v l = true ↔ v ∈ l := by
  unfold hasI; rw [decide_eq_true_eq, fstI_mem]
theorem aroundF_ne {x : tabE.T} {b : Int} (n : Nat) (c : Int) : aroundF x b (n + 1) c ≠ [] := by unfold aroundF; simp
theorem aroundF_last {x : tabE.T} {b : Int} : ∀ n c, ∀ y ∈ aroundF x b n c, tAfter x y < 0 → (aroundF x b n c).getD ((aroundF x b n c).length - 1) 0 = y
  | 0, c, y, h, _ => by cases h
  | n + 1, c, y, h, ha => by
    unfold aroundF at h ⊢
    by_cases h1 : tAfter x c < 0
    · rw [if_pos h1] at h ⊢
      rw [List.mem_singleton.1 h]; rfl
    · rw [if_neg h1] at h ⊢
      by_cases h2 : tAfter x c = b
      · rw [if_pos h2] at h ⊢
        rw [List.mem_singleton.1 h]; rfl
      · rw [if_neg h2] at h ⊢
        rcases List.mem_cons.1 h with h | h
        · subst h; exact absurd ha h1
        · have ih := aroundF_last n _ y h ha
          have hl : (aroundF x b n (tAfter x c)).length ≥ 1 := List.length_pos_of_mem h
          generalize aroundF x b n (tAfter x c) = L at *
          rw [List.length_cons, show L.length + 1 - 1 = (L.length - 1) + 1 by omega, List.getD_cons_succ]
          exact ih
theorem Full.link_mem {x : tabE.T} (g : Full x) {a v : Int} (h0 : 0 ≤ a) (h1 : a < x.1.1) : v ∈ linkR x a ↔ (∃ c ∈ aroundL (some x) a, tVert x (tNext x c) = v) ∨ (∃ c ∈ aroundL (some x) a, tAfter x c < 0 ∧ tVert x (tPrev x c) = v) := by
  obtain ⟨b, _, eL, hb1, hb2, hb3, hall, _⟩ := g.around h0 h1
  have hpos : (aroundL (some x) a).length ≥ 1 := List.length_pos_of_mem hb3
  have hlast : lkLast (aroundL (some x) a) (aroundL (some x) a).length = (aroundL (some x) a).getD ((aroundL (some x) a).length - 1) 0 := by
    unfold lkLast; rw [if_neg (by omega)]
  have hin : (aroundL (some x) a).getD ((aroundL (some x) a).length - 1) 0 ∈ aroundL (some x) a := getD_mem (by omega)
  unfold linkR
  rw [List.mem_append]
  have e1 : v ∈ lkO x (aroundL (some x) a) (aroundL (some x) a).length ↔ ∃ c ∈ aroundL (some x) a, tVert x (tNext x c) = v := by
    unfold lkO; rw [List.take_length, List.mem_map]
  rw [e1, hlast]
  refine or_congr_right ⟨fun h => ?_, fun ⟨c, hc, ha, hv⟩ => ?_⟩
  · split at h
    · rename_i hc
      exact ⟨_, hin, hc.2, (List.mem_singleton.1 h).symm⟩
    · cases h
  · have hc2 := hc
    rw [eL] at hc2
    have hl := aroundF_last _ _ c hc2 ha
    rw [← eL] at hl
    rw [hl, if_pos ⟨(tHas_iff.1 (hall c hc).1).1, ha⟩, hv]
    exact List.mem_singleton.2 rfl
theorem near_iff {x : tabE.T} (g : Full x) {a v : Int} : nearR x a v = true ↔ ∃ d, tHas x d = true ∧ (tEdge x d = (a, v) ∨ tEdge x d = (v, a)) := by
  have key : ∀ {a v : Int}, 0 ≤ tFacing x (a, v) ↔ ∃ d, tHas x d = true ∧ tEdge x d = (a, v) := fun {a v} => by
    constructor
    · intro h
      unfold tFacing at h
      cases e : mget .arr2 x.2.1 (a, v) with
      | none => rw [e] at h; exact absurd h (by decide)
      | some c => exact ⟨c, g.map _ _ e⟩
    · rintro ⟨d, h1, h2⟩
      rw [← h2, g.facing h1]; exact (tHas_iff.1 h1).1
  unfold nearR
  rw [Bool.or_eq_true, decide_eq_true_eq, decide_eq_true_eq, key, key]
  constructor
  · rintro (⟨d, h1, h2⟩ | ⟨d, h1, h2⟩)
    · exact ⟨d, h1, .inl h2⟩
    · exact ⟨d, h1, .inr h2⟩
  · rintro ⟨d, h1, (h2 | h2)⟩
    · exact .inl ⟨d, h1, h2⟩
    · exact .inr ⟨d, h1, h2⟩
/-- THE LINK of a vertex is all that is beside it. -/
theorem Full.link_iff {x : tabE.T} (g : Full x) {a v : Int} : v ∈ linkR x a ↔ nearR x a v = true := by
  by_cases ha : 0 ≤ a ∧ a < x.1.1
  case neg =>
    rw [link_far ha]
    refine ⟨fun h => (by cases h), fun h => absurd (near_in g.toGood h).1 ha⟩
  obtain ⟨b, _, eL, hb1, hb2, hb3, hall, haft, hbef, _⟩ := g.around ha.1 ha.2
  rw [g.link_mem ha.1 ha.2, near_iff g]
  constructor
  · rintro (⟨c, hc, hv⟩ | ⟨c, hc, _, hv⟩)
    · obtain ⟨k1, k2⟩ := hall c hc
      exact ⟨_, (hasNP k1).2, .inl (by rw [edgeP k1, k2, hv])⟩
    · obtain ⟨k1, k2⟩ := hall c hc
      exact ⟨_, (hasNP k1).1, .inr (by rw [edgeN k1, k2, hv])⟩
  · rintro ⟨d, h1, (h2 | h2)⟩
    · have e1 : tVert x (tNext x d) = a := congrArg Prod.fst h2
      have e2 : tVert x (tPrev x d) = v := congrArg Prod.snd h2
      have hc := g.around_all (hasNP h1).1
      rw [e1] at hc
      exact .inl ⟨_, hc, by rw [(np h1).2.2.1]; exact e2⟩
    · have e1 : tVert x (tNext x d) = v := congrArg Prod.fst h2
      have e2 : tVert x (tPrev x d) = a := congrArg Prod.snd h2
      have hc := g.around_all (hasNP h1).2
      rw [e2] at hc
      have hv : tVert x (tPrev x (tPrev x d)) = v := by rw [(np h1).2.2.2]; exact e1
      by_cases hs : tAfter x (tPrev x d) < 0
      · exact .inr ⟨_, hc, hs, hv⟩
      · have hs : 0 ≤ tAfter x (tPrev x d) := by omega
        exact .inl ⟨_, haft _ hc hs, by rw [(g.after_v hs).2]; exact hv⟩
theorem com_mem {x : tabE.T} (g : Full x) {a b v : Int} : v ∈ comR x a b ↔ a ≠ b ∧ nearR x a v = true ∧ nearR x b v = true := by
  unfold comR
  split
  · rename_i h; exact ⟨fun h => (by cases h), fun h' => absurd h h'.1⟩
  · rename_i h
    rw [(sortI_perm _).mem_iff, List.mem_filter, hasI_iff, g.link_iff, g.link_iff]
    exact ⟨fun k => ⟨h, k⟩, fun k => k.2⟩
theorem near_symm {x : tabE.T} {a b : Int} : nearR x a b = nearR x b a := by
  unfold nearR; rw [Bool.or_comm]
/-- What faces an edge: here, and across. -/
theorem Full.fac {x : tabE.T} (g : Full x) {c : Int} (hc : tHas x c = true) : facR x (tEdge x c).1 (tEdge x c).2 = [tVert x c] ++ (if 0 ≤ tOpp x c then [tVert x (tOpp x c)] else []) := by
  unfold facR
  have e1 : tFacing x ((tEdge x c).1, (tEdge x c).2) = c := g.facing hc
  have e2 : tFacing x ((tEdge x c).2, (tEdge x c).1) = tOpp x c := rfl
  rw [e1, e2, if_pos (tHas_iff.1 hc).1]
theorem Full.opp_v {x : tabE.T} (g : Full x) {c : Int} (h : 0 ≤ tOpp x c) : tHas x c = true ∧ tHas x (tOpp x c) = true ∧ tVert x (tNext x (tOpp x c)) = tVert x (tPrev x c) ∧ tVert x (tPrev x (tOpp x c)) = tVert x (tNext x c) := by
  obtain ⟨h1, h2, h3⟩ := g.opp h
  exact ⟨h1, h2, congrArg Prod.fst h3, congrArg Prod.snd h3⟩
theorem hasV_cor {x : tabE.T} {c d : Int} (h1 : tHas x c = true) (h2 : d = c ∨ d = tNext x c ∨ d = tPrev x c) : hasV (x.1.2.getD (c / 3).toNat (0, 0, 0)) (tVert x d) := by
  have hd : tHas x d = true ∧ (d / 3).toNat = (c / 3).toNat := by
    have hc := tHas_iff.1 h1
    rcases h2 with e | e | e
    · subst e; exact ⟨h1, rfl⟩
    · subst e; exact ⟨(hasNP h1).1, by rw [tNext_t h1]; unfold trn; omega⟩
    · subst e; exact ⟨(hasNP h1).2, by rw [tPrev_t h1]; unfold trn; omega⟩
  rw [← hd.2]; exact (cor_tri hd.1).2
theorem tri_vs {x : tabE.T} {c v : Int} (h1 : tHas x c = true) (h : hasV (x.1.2.getD (c / 3).toNat (0, 0, 0)) v) : v = tVert x c ∨ v = tVert x (tNext x c) ∨ v = tVert x (tPrev x c) := by
  obtain ⟨a, a1, a2, a3⟩ := tri_cor (cor_tri h1).1 h
  have i1 := tHas_iff.1 h1
  have i2 := tHas_iff.1 a1
  have : a = c ∨ a = tNext x c ∨ a = tPrev x c := by
    rw [tNext_t h1, tPrev_t h1]; unfold trn; omega
  rcases this with e | e | e
  · subst e; exact .inl a3.symm
  · subst e; exact .inr (.inl a3.symm)
  · subst e; exact .inr (.inr a3.symm)
/-- The two that face an edge are unlike. -/
theorem opp_ne {x : tabE.T} (g : Full x) (hs : Surf x.1) {c : Int} (h : 0 ≤ tOpp x c) : tVert x (tOpp x c) ≠ tVert x c := by
  obtain ⟨h1, h2, h3, h4⟩ := g.opp_v h
  intro e
  have nc := g.ne h1
  have no := g.ne h2
  have key : ∀ {c d : Int}, tHas x c = true → tHas x d = true → tVert x d = tVert x c → tVert x (tNext x d) = tVert x (tPrev x c) → tVert x (tPrev x d) = tVert x (tNext x c) → ¬ (c / 3).toNat < (d / 3).toNat := fun {c d} k1 k2 k3 k4 k5 hlt => by
    refine hs.mir _ _ hlt (cor_tri k2).1 ?_
    have all : ∀ v, hasV (x.1.2.getD (c / 3).toNat (0, 0, 0)) v → hasV (x.1.2.getD (d / 3).toNat (0, 0, 0)) v := fun v hv => by
      rcases tri_vs k1 hv with e | e | e
      · rw [e, ← k3]; exact hasV_cor k2 (.inl rfl)
      · rw [e, ← k5]; exact hasV_cor k2 (.inr (.inr rfl))
      · rw [e, ← k4]; exact hasV_cor k2 (.inr (.inl rfl))
    exact ⟨all _ (.inl rfl), all _ (.inr (.inl rfl)), all _ (.inr (.inr rfl))⟩
  have k1 := key h1 h2 e h3 h4
  have k2 := key h2 h1 e.symm h4.symm h3.symm
  have i1 := tHas_iff.1 h1
  have i2 := tHas_iff.1 h2
  have : tOpp x c = c ∨ tOpp x c = tNext x c ∨ tOpp x c = tPrev x c := by
    rw [tNext_t h1, tPrev_t h1]; unfold trn; omega
  rcases this with e2 | e2 | e2
  · rw [e2] at h3; exact nc.2.2 h3
  · rw [e2] at e; exact nc.1 e.symm
  · rw [e2] at e; exact nc.2.1 e.symm
theorem Full.com_face {x : tabE.T} (g : Full x) {c : Int} (hc : tHas x c = true) : tVert x c ∈ comR x (tEdge x c).1 (tEdge x c).2 := by
  rw [com_mem g]
  refine ⟨g.ends c hc, (near_iff g).2 ⟨_, (hasNP hc).2, .inr (edgeP hc)⟩, (near_iff g).2 ⟨_, (hasNP hc).1, .inl (edgeN hc)⟩⟩
theorem com_comm {x : tabE.T} (g : Full x) {a b v : Int} : v ∈ comR x a b ↔ v ∈ comR x b a := by
  rw [com_mem g, com_mem g]
  exact ⟨fun ⟨h1, h2, h3⟩ => ⟨fun e => h1 e.symm, h3, h2⟩, fun ⟨h1, h2, h3⟩ => ⟨fun e => h1 e.symm, h3, h2⟩⟩
theorem Full.com_face2 {x : tabE.T} (g : Full x) {c : Int} (h : 0 ≤ tOpp x c) : tVert x (tOpp x c) ∈ comR x (tEdge x c).1 (tEdge x c).2 := by
  obtain ⟨h1, h2, h3⟩ := g.opp h
  have := g.com_face h2
  rw [h3] at this
  exact (com_comm g).2 this
theorem whyL_iff {f l : List Int} : whyL f l = true ↔ ∀ v ∈ l, v ∈ f := by
  induction l with
  | nil => exact ⟨fun _ v h => (by cases h), fun _ => rfl⟩
  | cons a r ih =>
    unfold whyL
    rw [Bool.and_eq_true, hasI_iff, ih]
    exact ⟨fun ⟨h1, h2⟩ v hv => by
      rcases List.mem_cons.1 hv with e | hv
      · rw [e]; exact h1
      · exact h2 v hv, fun h => ⟨h a (List.mem_cons_self ..), fun v hv => h v (List.mem_cons_of_mem _ hv)⟩⟩
theorem why_free {x : tabE.T} {a b : Int} (h : whyR x a b = 0) : ∀ v ∈ comR x a b, v ∈ facR x a b := by
  unfold whyR at h
  repeat' split at h
  all_goals first
    | (exact absurd h (by decide))
    | skip
  rename_i hw _
  exact whyL_iff.1 (by cases e : whyL (facR x a b) (comR x a b) with | true => rfl | false => exact absurd e hw)
end S1

open Go Go.Vm Go.Proofs
namespace S1
set_option maxRecDepth 100000

/-! a table that is known -/
def laidXC (x : tabE.T) : List AV → Option Res := con1 soupE (fun s => some (none, some (laidO s = some x), (ETy.pt tabE).av (some x)))
theorem laidXRow (x : tabE.T) : FnRow Try.prog 15 (laidXC x) := ⟨con1_ok fun s r h => by
  cases h
  intro σ vals w hag hv
  refine ⟨trivial, fun hq => ?_⟩
  have := (laidRow.1 _ _ (rfl : laidC [soupE.av s] = _) σ vals w hag hv).2 trivial
  rw [show laidO s = some x from hq] at this
  exact this, _, Try.func15, by kernel_rfl, by kernel_rfl⟩
theorem nil_av {σ : Sig} {β : Places} {v : Value} (h : VRep σ β ((ETy.pt tabE).av none) v) : VRep σ β (nilO none) v := by
  have h : [v] = [Value.pointer none] := h
  exact ⟨(List.cons.inj h).1, by simp [Scal]⟩
def laidNC : List AV → Option Res := con1 soupE (fun s => some (none, some (laidO s = none), nilO none))
theorem laidNRow : FnRow Try.prog 15 laidNC := ⟨con1_ok fun s r h => by
  cases h
  intro σ vals w hag hv
  refine ⟨trivial, fun hq => ?_⟩
  have hv0 := hv
  have := (laidRow.1 _ _ (rfl : laidC [soupE.av s] = _) σ vals w hag hv).2 trivial
  rw [show laidO s = none from hq] at this
  refine this.mono fun e w' ⟨v, σ', e1, e2, e3, e4, e5, e6⟩ => ⟨v, σ', e1, e2, e3, e4, ?_, e6⟩
  exact nil_av e5, _, Try.func15, by kernel_rfl, by kernel_rfl⟩
/-! gypsumlaw34.LinkCommon -/
def insM (l : List Int) : ReM := l.foldl (fun m v => mset (.int .i64) m v true) []
theorem insM_succ {l : List Int} {k : Nat} (h : k < l.length) : insM (l.take (k + 1)) = mset (.int .i64) (insM (l.take k)) (l.getD k 0) true := by
  unfold insM
  rw [List.take_succ_eq_append_getElem h, List.foldl_append, List.getD_eq_getElem?_getD, List.getElem?_eq_getElem h]; rfl
theorem insM_had (l : List Int) (v : Int) : had (insM l) v = true ↔ v ∈ l := by
  have key : ∀ (l : List Int) (m : ReM), had (l.foldl (fun m v => mset (.int .i64) m v true) m) v = true ↔ (had m v = true ∨ v ∈ l) := fun l => by
    induction l with
    | nil => exact fun m => ⟨.inl, fun h => h.resolve_right (fun h => by cases h)⟩
    | cons a r ih =>
      intro m
      rw [List.foldl_cons, ih, had_set, List.mem_cons]
      by_cases e : a = v
      · subst e; simp
      · rw [if_neg e]
        exact ⟨fun h => h.imp id .inr, fun h => h.imp id (fun h => h.resolve_left (fun k => e k.symm))⟩
  unfold insM
  rw [key]
  exact ⟨fun h => h.resolve_left (fun h => by cases h), .inr⟩
theorem insM_keys (l : List Int) : (keysR (insM l)).Nodup ∧ ∀ v ∈ keysR (insM l), v ∈ l := by
  have key : ∀ (l : List Int) (m : ReM), (keysR m).Nodup → (keysR (l.foldl (fun m v => mset (.int .i64) m v true) m)).Nodup ∧ ∀ v ∈ keysR (l.foldl (fun m v => mset (.int .i64) m v true) m), v ∈ keysR m ∨ v ∈ l := fun l => by
    induction l with
    | nil => exact fun m h => ⟨h, fun v h => .inl h⟩
    | cons a r ih =>
      intro m h
      obtain ⟨k1, k2⟩ := keysR_set a m
      obtain ⟨i1, i2⟩ := ih (mset (.int .i64) m a true) (k2 h)
      refine ⟨i1, fun v hv => ?_⟩
      rcases i2 v hv with h | h
      · rcases k1 v h with h | h
        · exact .inr (by rw [h]; exact List.mem_cons_self ..)
        · exact .inl h
      · exact .inr (List.mem_cons_of_mem _ h)
  obtain ⟨a, b⟩ := key l [] List.nodup_nil
  exact ⟨a, fun v hv => (b v hv).resolve_left (fun h => by cases h)⟩
theorem insM_len (l : List Int) : (insM l).length = (keysR (insM l)).length := by unfold keysR; rw [List.length_map]
/-- How many there are: at least as many as are told, at most as many as it lies within. -/
theorem insM_ge {l F : List Int} (hn : F.Nodup) (h : ∀ v ∈ F, v ∈ l) : F.length ≤ (insM l).length := by
  rw [insM_len]
  exact len_sub F _ hn fun v hv => had_key ((insM_had l v).2 (h v hv))
theorem insM_le {l F : List Int} (h : ∀ v ∈ l, v ∈ F) : (insM l).length ≤ F.length := by
  rw [insM_len]
  exact len_sub _ F (insM_keys l).1 fun v hv => h v ((insM_keys l).2 v hv)
def loopLC (com : List Int) : Spec Nat where
  inv k := k ≤ com.length
  live k := [(46, .s (.int .i64 k))]
  keep := [2, 5, 6, 7, 8, 9, 44, 45]
  heap k := [(2, .map (.int .i64) .bool (insM (com.take k)))]
  keepH := [0, 1]
  mu k := com.length - k
theorem whyO_some {x : tabE.T} {a b : Int} : whyO (some x) a b = whyR x a b := rfl
structure LCF (x : tabE.T) (c : Int) : Prop where
  c0 : 0 ≤ c ∧ c ≤ 30000
  near : ∀ k : Nat, (k : Int) < (comR x (tEdge x c).1 (tEdge x c).2).length → nearR x (tEdge x c).1 ((comR x (tEdge x c).1 (tEdge x c).2).getD k 0) = true ∧ nearR x (tEdge x c).2 ((comR x (tEdge x c).1 (tEdge x c).2).getD k 0) = true ∧ (comR x (tEdge x c).1 (tEdge x c).2).getD k 0 ≠ (tEdge x c).1 ∧ (comR x (tEdge x c).1 (tEdge x c).2).getD k 0 ≠ (tEdge x c).2
  face : had (insM (comR x (tEdge x c).1 (tEdge x c).2)) (tVert x c) = true
  face2 : tOpp x c ≥ 0 → had (insM (comR x (tEdge x c).1 (tEdge x c).2)) (tVert x (tOpp x c)) = true ∧ 2 ≤ (insM (comR x (tEdge x c).1 (tEdge x c).2)).length ∧ (whyR x (tEdge x c).1 (tEdge x c).2 = 0 → (insM (comR x (tEdge x c).1 (tEdge x c).2)).length = 2)
  one : 1 ≤ (insM (comR x (tEdge x c).1 (tEdge x c).2)).length
  just : ¬ tOpp x c ≥ 0 → whyR x (tEdge x c).1 (tEdge x c).2 = 0 → (insM (comR x (tEdge x c).1 (tEdge x c).2)).length = 1
  len : (insM (comR x (tEdge x c).1 (tEdge x c).2)).length ≤ 100000
  opp : tOpp x c ≤ 30000
  clen : (comR x (tEdge x c).1 (tEdge x c).2).length ≤ 100000
theorem near_ne {x : tabE.T} (g : Good x) {a b : Int} (h : nearR x a b = true) : b ≠ a := fun e => by
  rw [e, near_self g] at h; cases h
theorem com_len {x : tabE.T} (g : Good x) (a b : Int) : (comR x a b).length ≤ 100000 := by
  unfold comR; split
  · exact Nat.zero_le _
  · rw [sortI_len]
    have := linkO_len (some x) a (fun y h => by cases h; exact g)
    have h2 := List.length_filter_le (fun v => hasI v (linkR x b)) (linkR x a)
    have h3 : (linkO (some x) a).length = (linkR x a).length := rfl
    omega
theorem lc_facts {x : tabE.T} (g : Full x) (hs : Surf x.1) {c : Int} (hc : tHas x c = true) : LCF x c := by
  have hi := tHas_iff.1 hc
  have h8 := g.fit.2.2.1
  have f1 := g.com_face hc
  have hF : ∀ F : List Int, F.Nodup → (∀ v ∈ F, v ∈ comR x (tEdge x c).1 (tEdge x c).2) → F.length ≤ (insM (comR x (tEdge x c).1 (tEdge x c).2)).length := fun F => insM_ge
  have hfac := g.fac hc
  refine ⟨by omega, fun k hk => ?_, (insM_had _ _).2 f1, fun ho => ?_, hF [tVert x c] (List.nodup_cons.2 ⟨by simp, List.nodup_nil⟩) (fun v hv => by rw [List.mem_singleton.1 hv]; exact f1), fun ho hw => ?_, Nat.le_trans (insM_le fun v hv => hv) (com_len g.toGood _ _), opp_le g.toGood c, com_len g.toGood _ _⟩
  · obtain ⟨_, h2, h3⟩ := (com_mem g).1 (getD_mem (l := comR x (tEdge x c).1 (tEdge x c).2) (j := k) (by omega))
    exact ⟨h2, h3, near_ne g.toGood h2, near_ne g.toGood h3⟩
  · have f2 := g.com_face2 ho
    have ge2 : 2 ≤ (insM (comR x (tEdge x c).1 (tEdge x c).2)).length := hF [tVert x c, tVert x (tOpp x c)] (List.nodup_cons.2 ⟨by simp; exact fun e => opp_ne g hs ho e.symm, List.nodup_cons.2 ⟨by simp, List.nodup_nil⟩⟩) (fun v hv => by
      rcases List.mem_cons.1 hv with e | hv
      · rw [e]; exact f1
      · rw [List.mem_singleton.1 hv]; exact f2)
    refine ⟨(insM_had _ _).2 f2, ge2, fun hw => ?_⟩
    have := insM_le (why_free hw)
    rw [hfac, if_pos ho] at this
    have this : _ ≤ 2 := this
    omega
  · have := insM_le (why_free hw)
    rw [hfac, if_neg ho] at this
    have this : _ ≤ 1 := this
    have := hF [tVert x c] (List.nodup_cons.2 ⟨by simp, List.nodup_nil⟩) (fun v hv => by rw [List.mem_singleton.1 hv]; exact f1)
    have this : 1 ≤ _ := this
    omega
attribute [local irreducible] nearR comR whyR insM
theorem lawLC_vc (n : Int) (l : List P3) (b : Int) (x : tabE.T) (hb : 0 ≤ b ∧ b ≤ 255) (hx : laidO (n, l) = some x) : afun ⟨tyL, [(14, awake34C), (15, laidXC x), (16, comC), (21, edgeC), (22, oppC), (23, nearC), (24, vertexC), (20, mayC)], []⟩ Try.f4 [soupE.av (n, l), (ETy.int .u8).av b] (fun r => r = .s (.bool true)) := by
  obtain ⟨hxe, g, hs, hgr⟩ := laid_full hx
  have hx1 : x.1 = (n, l) := by rw [hxe]; rfl
  have F : (l.length : Int) ≠ 0 → LCF x (b.tmod (3 * l.length)) := fun h => by
    refine lc_facts g (by rw [hx1]; exact hs) (tHas_iff.2 ?_)
    rw [hx1]
    exact ⟨Int.tmod_nonneg _ hb.1, Int.tmod_lt_of_pos _ (by omega)⟩
  have hl8 : l.length ≤ 8192 := by have := g.fit.2.2.1; rw [hx1] at this; exact this
  repeat' (conv => whnf
           first
            | done
            | refine Need.intro (by first | rfl | omega | (simp only [i64ok] at *; omega)) ?_
            | refine Need.intro (Hold.out ?_) ?_
            | refine Give.intro fun _ => ?_
            | refine Both.intro ?_ ?_
            | refine BIf.and ?_
            | refine BIf.or ?_
            | refine BIf.eqi (fun _ => ?_) (fun _ => ?_)
            | refine BIf.nei (fun _ => ?_) (fun _ => ?_)
            | refine BIf.dec (fun _ => ?_) (fun _ => ?_)
            | refine BIf.nt ?_
            | refine BIf.intro (fun _ => ?_) (fun _ => ?_)
            | ((first | (with_reducible show Or (∃ n, rounds (acode _ (Code.seq (Code.region 10 _ _) _)) _ n _) _) | (with_reducible show Or (∃ n, rounds (acode _ (Code.seq (Code.seq (Code.region 10 _ _) _) _)) _ n _) _) | (with_reducible show Or (∃ n, rounds (acode _ (Code.seq (Code.seq (Code.seq (Code.region 10 _ _) _) _) _)) _ n _) _) | (with_reducible show Or (∃ n, rounds (acode _ (Code.seq (Code.seq (Code.seq (Code.seq (Code.region 10 _ _) _) _) _) _)) _ n _) _) | (with_reducible show Or (∃ n, rounds (acode _ (Code.block _ (Code.seq (Code.region 10 _ _) _))) _ n _) _) | (with_reducible show Or (∃ n, rounds (acode _ (Code.block _ (Code.seq (Code.seq (Code.region 10 _ _) _) _))) _ n _) _) | (with_reducible show Or (∃ n, rounds (acode _ (Code.block _ (Code.seq (Code.seq (Code.seq (Code.region 10 _ _) _) _) _))) _ n _) _) | (with_reducible show Or (∃ n, rounds (acode _ (Code.block _ (Code.seq (Code.seq (Code.seq (Code.seq (Code.region 10 _ _) _) _) _) _))) _ n _) _)); refine Or.inr (Exists.intro (Nat) (Exists.intro (loopLC (comR x (tEdge x (b.tmod (3 * l.length))).1 (tEdge x (b.tmod (3 * l.length))).2)) (And.intro (Exists.intro (0) (And.intro (Hold.out ?_) (And.intro ?_ (And.intro ?_ rfl)))) (fun k hk => ?_)))))
            | ((with_reducible show (∃ y, And (Spec.inv (loopLC _) y) _)); refine Exists.intro (k + 1) (And.intro (Hold.out ?_) (And.intro (And.intro ?_ (And.intro ?_ rfl)) (Hold.out ?_))))
            | refine And.intro rfl ?_
            | refine And.intro (HoldEq.out ?_) ?_
            | refine And.intro (HoldOb.out ?_) ?_
            | exact True.intro
            | refine HoldEq.out ?_
            | refine HoldObs.out ?_
            | refine HoldOr.out ?_)
  all_goals try first | refine HoldEq.int ?_ | refine HoldEq.bool ?_ | refine HoldEq.sl ?_ | refine HoldEq.own ?_ | refine HoldEq.ownS ?_ ?_ | refine HoldOb.row ?_ | refine HoldOb.map ?_ | refine HoldOb.gmap ?_ | refine HoldOb.grow ?_ | refine HoldObs.row ?_
  all_goals try simp only [take_one, take_one', set_one, take_all, List.length_singleton, rec_self, Int.toNat_natCast, pair_eta, ETy.dflt, List.getD_cons_zero, List.getD_cons_succ, Int.reduceToNat, Int.reduceAdd, Int.reduceSub, Int.reduceNeg, Nat.reduceAdd, Nat.zero_add, loopLC, onO_some, comO_some, whyO_some, had_def, had_def2] at *
  all_goals
    have hl0 : (l.length : Int) ≠ 0 := by assumption
    have f := F hl0
    clear F
    generalize b.tmod (3 * (l.length : Int)) = c at *
    obtain ⟨a1, a2, a3, a4, a5, a6, a7, a8, a9⟩ := f
  all_goals try have hk1 : (k : Int) < ((comR x (tEdge x c).1 (tEdge x c).2).length : Int) := by assumption
  all_goals try have b2 := a2 k hk1
  all_goals try (have hk2 : ¬ (k : Int) < ((comR x (tEdge x c).1 (tEdge x c).2).length : Int) := by assumption
                 have hk3 : (comR x (tEdge x c).1 (tEdge x c).2).take k = comR x (tEdge x c).1 (tEdge x c).2 := List.take_of_length_le (by omega)
                 rw [← hk3] at a3 a4 a5 a6 a7)
  all_goals try have ho : tOpp x c ≥ 0 := by assumption
  all_goals try have b4 := a4 ho
  all_goals try (have ho : ¬ tOpp x c ≥ 0 := by assumption)
  all_goals try (have hw : whyR x (tEdge x c).1 (tEdge x c).2 = 0 := by assumption)
  all_goals first
    | exact Hold.intro (Int.le_trans a1.2 (by decide))
    | exact Hold.intro (Int.le_trans a8 (by decide))
    | (refine Hold.intro ?_; omega)
    | exact Hold.intro (fun y h => by cases h; exact g.toGood)
    | (unfold insM; rfl)
    | (rw [insM_succ (by omega)]; rfl)
    | exact absurd (by assumption) b2.2.2.2
    | exact absurd (by assumption) b2.2.2.1
    | exact absurd (b2.1.symm.trans (by assumption)) (by decide)
    | exact absurd (b2.2.1.symm.trans (by assumption)) (by decide)
    | exact absurd (a3.symm.trans (by assumption : had (insM ((comR x (tEdge x c).1 (tEdge x c).2).take k)) (tVert x c) = false)) (by decide)
    | exact absurd (b4.1.symm.trans (by assumption : had (insM ((comR x (tEdge x c).1 (tEdge x c).2).take k)) (tVert x (tOpp x c)) = false)) (by decide)
    | exact absurd (show ((insM ((comR x (tEdge x c).1 (tEdge x c).2).take k)).length : Int) < 2 by assumption) (by omega)
    | exact absurd (show ((insM ((comR x (tEdge x c).1 (tEdge x c).2).take k)).length : Int) < 1 by assumption) (by omega)
    | (rw [b4.2.2 hw]; rfl)
    | (rw [a6 ho hw]; rfl)
    | exact absurd (by assumption : tOpp x c ≥ 0) (by assumption)
    | skip
theorem lawLC0_vc (n : Int) (l : List P3) (b : Int) (hx : laidO (n, l) = none) : afun ⟨tyL, [(14, awake34C), (15, laidNC), (16, comC), (21, edgeC), (22, oppC), (23, nearC), (24, vertexC), (20, mayC)], []⟩ Try.f4 [soupE.av (n, l), (ETy.int .u8).av b] (fun r => r = .s (.bool true)) := by
  repeat' (conv => whnf
           first
            | done
            | refine Need.intro (by first | rfl | omega | (simp only [i64ok] at *; omega)) ?_
            | refine Need.intro (Hold.out ?_) ?_
            | refine Give.intro fun _ => ?_
            | refine Both.intro ?_ ?_
            | refine BIf.and ?_
            | refine BIf.or ?_
            | refine BIf.eqi (fun _ => ?_) (fun _ => ?_)
            | refine BIf.nei (fun _ => ?_) (fun _ => ?_)
            | refine BIf.dec (fun _ => ?_) (fun _ => ?_)
            | refine BIf.nt ?_
            | refine BIf.intro (fun _ => ?_) (fun _ => ?_)
            | refine And.intro rfl ?_
            | refine And.intro (HoldEq.out ?_) ?_
            | refine And.intro (HoldOb.out ?_) ?_
            | exact True.intro
            | refine HoldEq.out ?_
            | refine HoldObs.out ?_
            | refine HoldOr.out ?_)
  all_goals try first | refine HoldEq.int ?_ | refine HoldEq.bool ?_ | refine HoldEq.sl ?_ | refine HoldEq.own ?_ | refine HoldEq.ownS ?_ ?_ | refine HoldOb.row ?_ | refine HoldOb.map ?_ | refine HoldOb.gmap ?_ | refine HoldOb.grow ?_ | refine HoldObs.row ?_
  all_goals try simp only [take_one, take_one', set_one, take_all, List.length_singleton, rec_self, Int.toNat_natCast, pair_eta, ETy.dflt, List.getD_cons_zero, List.getD_cons_succ, Int.reduceToNat, Int.reduceAdd, Int.reduceSub, Int.reduceNeg, Nat.reduceAdd, Nat.zero_add] at *
  all_goals exact Hold.intro hx
def lawLCC : List AV → Option Res := con2 soupE (.int .u8) (fun _ _ => some (none, none, .s (.bool true)))
theorem lawLCRow : FnRow Try.prog 4 lawLCC := ⟨con2_ok fun s b r h => by
  cases h
  cases hx : laidO s with
  | none => exact fn_by (rulesF (fn := [(14, awake34C), (15, laidNC), (16, comC), (21, edgeC), (22, oppC), (23, nearC), (24, vertexC), (20, mayC)]) (fr := []) ⟨awake34Row, laidNRow, comRow, edgeRow, oppRow, nearRow, vertexRow, mayRow, trivial⟩ trivial) Try.func4 (by kernel_rfl) fun hg _ => lawLC0_vc s.1 s.2 b hx
  | some x => exact fn_by (rulesF (fn := [(14, awake34C), (15, laidXC x), (16, comC), (21, edgeC), (22, oppC), (23, nearC), (24, vertexC), (20, mayC)]) (fr := []) ⟨awake34Row, (laidXRow x), comRow, edgeRow, oppRow, nearRow, vertexRow, mayRow, trivial⟩ trivial) Try.func4 (by kernel_rfl) fun hg _ => lawLC_vc s.1 s.2 b x (InK.u8 hg.2.1) hx, _, Try.func4, by kernel_rfl, by kernel_rfl⟩
end S1
