/- A part of the proofs of the laws of this seat: contracts of functions, each for every input that its text names. -/
import Derived.Test.YtbbpofkacdmjnaaF8toF9
set_option linter.unusedSimpArgs false
set_option linter.unusedVariables false
set_option maxHeartbeats 2000000
open Go Go.Vm Go.Proofs
namespace S1
set_option maxRecDepth 100000

/-! what is filled -/
/-- How many vertices. -/
abbrev vN (x : tabE.T) : Int := x.1.1
theorem bE_inN {x : tabE.T} (g : Full x) {w u : Int} (h : bE x w u) : (0 ≤ w ∧ w < vN x) ∧ (0 ≤ u ∧ u < vN x) ∧ w ≠ u := bE_in g h
theorem fitN {x : tabE.T} (g : Full x) : 0 ≤ vN x ∧ vN x ≤ 4096 := ⟨g.fit.1, g.fit.2.1⟩
def starT (L : List Int) (z : Int) (m : Nat) : List P3 := (List.range m).map fun i => (L.getD i 0, L.getD ((i + 1) % L.length) 0, z)
def fillS (n : Int) (Ls : List (List Int)) (k : Nat) : List P3 := (List.range k).flatMap fun (j : Nat) => starT (Ls.getD j []) (n + (j : Int)) (Ls.getD j []).length
theorem fillS_succ (n : Int) (Ls : List (List Int)) (k : Nat) : fillS n Ls (k + 1) = fillS n Ls k ++ starT (Ls.getD k []) (n + (k : Int)) (Ls.getD k []).length := by
  unfold fillS; rw [List.range_succ, List.flatMap_append]; simp
theorem starT_succ (L : List Int) (z : Int) (m : Nat) : starT L z (m + 1) = starT L z m ++ [(L.getD m 0, L.getD ((m + 1) % L.length) 0, z)] := by
  unfold starT; rw [List.range_succ, List.map_append]; rfl
theorem range_getD {α : Type} (d : α) (L : List α) : (List.range L.length).map (fun i => L.getD i d) = L := by
  apply List.ext_getElem
  · rw [List.length_map, List.length_range]
  · intro i h1 h2
    rw [List.getElem_map, List.getElem_range, List.getD_eq_getElem?_getD, List.getElem?_eq_getElem h2]; rfl
theorem starT_fst (L : List Int) (z : Int) : (starT L z L.length).map (·.1) = L := by
  unfold starT
  rw [List.map_map]
  exact range_getD 0 L
theorem fillS_fst (n : Int) (Ls : List (List Int)) : (fillS n Ls Ls.length).map (·.1) = Ls.flatten := by
  unfold fillS
  rw [List.map_flatMap]
  have : ∀ k, (List.range k).flatMap (fun j => (starT (Ls.getD j []) (n + (j : Int)) (Ls.getD j []).length).map (·.1)) = ((List.range k).map fun j => Ls.getD j []).flatten := fun k => by
    rw [← List.flatMap_def]
    congr 1
    funext j
    exact starT_fst _ _
  rw [this, range_getD]
theorem fillS_mem {n : Int} {Ls : List (List Int)} {k : Nat} {t : P3} : t ∈ fillS n Ls k ↔ ∃ j i : Nat, j < k ∧ i < (Ls.getD j []).length ∧ t = ((Ls.getD j []).getD i 0, (Ls.getD j []).getD ((i + 1) % (Ls.getD j []).length) 0, n + (j : Int)) := by
  unfold fillS starT
  rw [List.mem_flatMap]
  constructor
  · rintro ⟨j, hj, ht⟩
    obtain ⟨i, hi, rfl⟩ := List.mem_map.1 ht
    exact ⟨j, i, List.mem_range.1 hj, List.mem_range.1 hi, rfl⟩
  · rintro ⟨j, i, hj, hi, rfl⟩
    exact ⟨j, List.mem_range.2 hj, List.mem_map.2 ⟨i, List.mem_range.2 hi, rfl⟩⟩
theorem getDn_mem {Ls : List (List Int)} {j : Nat} (h : j < Ls.length) : Ls.getD j [] ∈ Ls := by
  rw [List.getD_eq_getElem?_getD, List.getElem?_eq_getElem h]; exact List.getElem_mem h
theorem tg_mem {l : List P3} {i : Nat} (h : i < l.length) : tg l i ∈ l := by
  unfold tg; rw [List.getD_eq_getElem?_getD, List.getElem?_eq_getElem h]; exact List.getElem_mem h
theorem mem_tg {l : List P3} {t : P3} (h : t ∈ l) : ∃ i, i < l.length ∧ tg l i = t := by
  obtain ⟨i, hi, e⟩ := List.mem_iff_getElem.1 h
  exact ⟨i, hi, by unfold tg; rw [List.getD_eq_getElem?_getD, List.getElem?_eq_getElem hi]; exact e⟩
theorem tgA1 {l S : List P3} {i : Nat} (h : i < l.length) : tg (l ++ S) i = tg l i := by
  unfold tg; rw [List.getD_eq_getElem?_getD, List.getD_eq_getElem?_getD, List.getElem?_append_left h]
theorem tgA2 {l S : List P3} {i : Nat} (h : l.length ≤ i) : tg (l ++ S) i = tg S (i - l.length) := by
  unfold tg; rw [List.getD_eq_getElem?_getD, List.getD_eq_getElem?_getD, List.getElem?_append_right h]
theorem eE_mem {l : List P3} {a b : Int} : eE l a b ↔ ∃ t ∈ l, dE t a b := by
  constructor
  · rintro ⟨i, hi, h⟩; exact ⟨_, tg_mem hi, h⟩
  · rintro ⟨t, ht, h⟩
    obtain ⟨i, hi, e⟩ := mem_tg ht
    exact ⟨i, hi, by rw [e]; exact h⟩
theorem eE_app {l S : List P3} {a b : Int} : eE (l ++ S) a b ↔ eE l a b ∨ eE S a b := by
  simp only [eE_mem, List.mem_append]
  constructor
  · rintro ⟨t, ht | ht, h⟩
    · exact .inl ⟨t, ht, h⟩
    · exact .inr ⟨t, ht, h⟩
  · rintro (⟨t, ht, h⟩ | ⟨t, ht, h⟩)
    · exact ⟨t, .inl ht, h⟩
    · exact ⟨t, .inr ht, h⟩
theorem dE_hasV {t : P3} {a b : Int} (h : dE t a b) : hasV t a ∧ hasV t b := by
  rcases h with ⟨h1, h2⟩ | ⟨h1, h2⟩ | ⟨h1, h2⟩
  · exact ⟨.inl h1, .inr (.inl h2)⟩
  · exact ⟨.inr (.inl h1), .inr (.inr h2)⟩
  · exact ⟨.inr (.inr h1), .inl h2⟩
theorem fit_hasV {s : Int × List P3} (h : fitS s) {i : Nat} (hi : i < s.2.length) {v : Int} (hv : hasV (tg s.2 i) v) : 0 ≤ v ∧ v < s.1 := by
  have := triIn_spec (h.2.2.2 i hi)
  rcases hv with e | e | e <;> (rw [← e]; first | exact this.1 | exact this.2.1 | exact this.2.2)
/-- A triangle of a star. -/
structure StT (x : tabE.T) (Ls : List (List Int)) (t : P3) (j : Nat) : Prop where
  lt : j < Ls.length
  m1 : t.1 ∈ Ls.getD j []
  m2 : t.2.1 ∈ Ls.getD j []
  e : bE x t.2.1 t.1
  z : t.2.2 = vN x + (j : Int)
section
variable {x : tabE.T} {Ls : List (List Int)}
theorem stT_of (h : Lps x Ls (vN x)) {t : P3} (ht : t ∈ fillS (vN x) Ls Ls.length) : ∃ j, StT x Ls t j := by
  obtain ⟨j, i, hj, hi, rfl⟩ := fillS_mem.1 ht
  have ok := h.ok _ (getDn_mem hj)
  exact ⟨j, hj, getD_mem hi, getD_mem (Nat.mod_lt _ ok.ne), ok.cyc i hi, rfl⟩
theorem lps_dis (h : Lps x Ls (vN x)) {j j' : Nat} (hj : j < Ls.length) (hj' : j' < Ls.length) {u : Int} (h1 : u ∈ Ls.getD j []) (h2 : u ∈ Ls.getD j' []) : j = j' := by
  have hp := (List.pairwise_flatten.1 h.nd).2
  have key : ∀ a b, a < b → b < Ls.length → u ∈ Ls.getD a [] → u ∈ Ls.getD b [] → False := fun a b hab hb k1 k2 => by
    have := List.pairwise_iff_getElem.1 hp a b (by omega) hb hab
    rw [List.getD_eq_getElem?_getD, List.getElem?_eq_getElem (by omega)] at k1 k2
    exact this u k1 u k2 rfl
  rcases Nat.lt_trichotomy j j' with e | e | e
  · exact (key j j' e hj' h1 h2).elim
  · exact e
  · exact (key j' j e hj h2 h1).elim
theorem fill_one (h : Lps x Ls (vN x)) {i j : Nat} (hi : i < (fillS (vN x) Ls Ls.length).length) (hj : j < (fillS (vN x) Ls Ls.length).length) (e : (tg (fillS (vN x) Ls Ls.length) i).1 = (tg (fillS (vN x) Ls Ls.length) j).1) : i = j := by
  have hn := h.nd
  rw [← fillS_fst (vN x) Ls] at hn
  have key : ∀ a b, a < b → b < (fillS (vN x) Ls Ls.length).length → (tg (fillS (vN x) Ls Ls.length) a).1 = (tg (fillS (vN x) Ls Ls.length) b).1 → False := fun a b hab hb e => by
    have := List.pairwise_iff_getElem.1 hn a b (by rw [List.length_map]; omega) (by rw [List.length_map]; exact hb) hab
    rw [List.getElem_map, List.getElem_map] at this
    unfold tg at e
    rw [List.getD_eq_getElem?_getD, List.getElem?_eq_getElem (by omega), List.getD_eq_getElem?_getD, List.getElem?_eq_getElem hb] at e
    exact this e
  rcases Nat.lt_trichotomy i j with e' | e' | e'
  · exact (key i j e' hj e).elim
  · exact e'
  · exact (key j i e' hi e.symm).elim
theorem bord_tri (h : Lps x Ls (vN x)) (g : Full x) {w u : Int} (hb : bE x w u) : ∃ t ∈ fillS (vN x) Ls Ls.length, t.1 = u ∧ t.2.1 = w := by
  have hin := bE_inN g hb
  have hu := h.all u hin.2.1.1 hin.2.1.2 ⟨w, hb⟩
  rw [← fillS_fst (vN x) Ls] at hu
  obtain ⟨t, ht, e⟩ := List.mem_map.1 hu
  refine ⟨t, ht, e, ?_⟩
  obtain ⟨j, st⟩ := stT_of h ht
  have := st.e
  have e : t.1 = u := e
  rw [e] at this
  exact bE_left g this hb
theorem fill_bounds (h : Lps x Ls (vN x)) (g : Full x) {t : P3} (ht : t ∈ fillS (vN x) Ls Ls.length) : (0 ≤ t.1 ∧ t.1 < vN x) ∧ (0 ≤ t.2.1 ∧ t.2.1 < vN x) ∧ t.1 ≠ t.2.1 ∧ vN x ≤ t.2.2 ∧ t.2.2 < vN x + Ls.length := by
  obtain ⟨j, st⟩ := stT_of h ht
  have := bE_inN g st.e
  have h1 := st.z
  have h2 := st.lt
  exact ⟨this.2.1, this.1, this.2.2.symm, by omega, by omega⟩
/-- An edge of a star's triangle. -/
theorem dE_st {t : P3} {a b : Int} (h : dE t a b) : (a = t.1 ∧ b = t.2.1) ∨ (a = t.2.1 ∧ b = t.2.2) ∨ (a = t.2.2 ∧ b = t.1) := by
  rcases h with h | h | h
  · exact .inl ⟨h.1.symm, h.2.symm⟩
  · exact .inr (.inl ⟨h.1.symm, h.2.symm⟩)
  · exact .inr (.inr ⟨h.1.symm, h.2.symm⟩)
theorem st_ap (h : Lps x Ls (vN x)) {t t' : P3} {j j' : Nat} (s : StT x Ls t j) (s' : StT x Ls t' j') (e : t.2.2 = t'.2.2) : j = j' := by
  have h1 := s.z; have h2 := s'.z; omega
theorem fill_dif (h : Lps x Ls (vN x)) (g : Full x) {t t' : P3} (ht : t ∈ fillS (vN x) Ls Ls.length) (ht' : t' ∈ fillS (vN x) Ls Ls.length) {a b : Int} (h1 : dE t a b) (h2 : dE t' a b) : t.1 = t'.1 := by
  have b1 := fill_bounds h g ht
  have b2 := fill_bounds h g ht'
  obtain ⟨j, st⟩ := stT_of h ht
  obtain ⟨j', st'⟩ := stT_of h ht'
  rcases dE_st h1 with ⟨ea, eb⟩ | ⟨ea, eb⟩ | ⟨ea, eb⟩ <;> rcases dE_st h2 with ⟨ea', eb'⟩ | ⟨ea', eb'⟩ | ⟨ea', eb'⟩
  · rw [← ea, ea']
  · omega
  · omega
  · omega
  · have k1 := st.e; have k2 := st'.e
    rw [← ea] at k1; rw [← ea'] at k2
    exact bE_right g k1 k2
  · omega
  · omega
  · omega
  · rw [← eb, eb']
/-- ALL EDGES OF WHAT IS FILLED HAVE ANOTHER SIDE. -/
theorem fill_closed (h : Lps x Ls (vN x)) (g : Full x) {a b : Int} (he : eE (x.1.2 ++ fillS (vN x) Ls Ls.length) a b) : eE (x.1.2 ++ fillS (vN x) Ls Ls.length) b a := by
  rcases eE_app.1 he with he | he
  · by_cases hb : eE x.1.2 b a
    · exact eE_app.2 (.inl hb)
    · obtain ⟨t, ht, e1, e2⟩ := bord_tri h g ((bE_iff g).2 ⟨he, hb⟩)
      exact eE_app.2 (.inr (eE_mem.2 ⟨t, ht, .inl ⟨e1, e2⟩⟩))
  · obtain ⟨t, ht, hd⟩ := eE_mem.1 he
    obtain ⟨j, st⟩ := stT_of h ht
    rcases dE_st hd with ⟨ea, eb⟩ | ⟨ea, eb⟩ | ⟨ea, eb⟩
    · subst ea; subst eb
      exact eE_app.2 (.inl ((bE_iff g).1 st.e).1)
    · -- the next one in the star
      subst ea; subst eb
      obtain ⟨w, hw⟩ := bE_next g st.e
      obtain ⟨t', ht', e1, e2⟩ := bord_tri h g hw
      obtain ⟨j', st'⟩ := stT_of h ht'
      have hj : j = j' := by
        have := st'.m1
        rw [e1] at this
        exact lps_dis h st.lt st'.lt st.m2 this
      subst hj
      refine eE_app.2 (.inr (eE_mem.2 ⟨t', ht', .inr (.inr ⟨?_, e1⟩)⟩))
      rw [st'.z, st.z]
    · subst ea; subst eb
      obtain ⟨y, hy⟩ := bE_prev g st.e
      obtain ⟨t', ht', e1, e2⟩ := bord_tri h g hy
      obtain ⟨j', st'⟩ := stT_of h ht'
      have hj : j = j' := by
        have := st'.m2
        rw [e2] at this
        exact lps_dis h st.lt st'.lt st.m1 this
      subst hj
      refine eE_app.2 (.inr (eE_mem.2 ⟨t', ht', .inr (.inl ⟨e2, ?_⟩)⟩))
      rw [st'.z, st.z]
theorem fill_pin_old (h : Lps x Ls (vN x)) (g : Full x) (hs : Surf x.1) {v : Nat} (hv : (v : Int) < vN x) : PinP (x.1.2 ++ fillS (vN x) Ls Ls.length) v := by
  intro Q hQ a ha1 ha2 ha3 i hi1 hi2
  rw [List.length_append] at ha1 hi1
  -- old ones are alike
  have old : ∀ b, b < x.1.2.length → hasV (tg x.1.2 b) v → Q b → ∀ c, c < x.1.2.length → hasV (tg x.1.2 c) v → Q c := fun b hb1 hb2 hb3 c hc1 hc2 => by
    refine hs.pin v hv Q (fun p q hp hq p1 p2 p3 p4 => ?_) b hb1 hb2 hb3 c hc1 hc2
    refine hQ p q (by rw [List.length_append]; omega) (by rw [List.length_append]; omega) ?_ ?_ ?_ p4
    · rw [tgA1 hp]; exact p1
    · rw [tgA1 hq]; exact p2
    · rw [tgA1 hp, tgA1 hq]; exact p3
  -- each new one has an old one beside it
  have new : ∀ b, x.1.2.length ≤ b → b < x.1.2.length + (fillS (vN x) Ls Ls.length).length → hasV (tg (x.1.2 ++ fillS (vN x) Ls Ls.length) b) v → ∃ o, o < x.1.2.length ∧ hasV (tg x.1.2 o) v ∧ (Q b → Q o) ∧ (Q o → Q b) := fun b hb1 hb2 hb3 => by
    have hmem : tg (x.1.2 ++ fillS (vN x) Ls Ls.length) b ∈ fillS (vN x) Ls Ls.length := by
      rw [tgA2 hb1]; exact tg_mem (by omega)
    generalize he : tg (x.1.2 ++ fillS (vN x) Ls Ls.length) b = t at hb3 hmem
    have bd := fill_bounds h g hmem
    obtain ⟨j, st⟩ := stT_of h hmem
    have fin : ∀ w, w ≠ (v : Int) → hasV t w → (∃ o, o < x.1.2.length ∧ hasV (tg x.1.2 o) v ∧ hasV (tg x.1.2 o) w) → ∃ o, o < x.1.2.length ∧ hasV (tg x.1.2 o) v ∧ (Q b → Q o) ∧ (Q o → Q b) := by
      rintro w hw h1 ⟨o, o1, o2, o3⟩
      have k1 : hasV (tg (x.1.2 ++ fillS (vN x) Ls Ls.length) o) v := by rw [tgA1 o1]; exact o2
      have k3 : hasV (tg (x.1.2 ++ fillS (vN x) Ls Ls.length) o) w := by rw [tgA1 o1]; exact o3
      have k2 : hasV (tg (x.1.2 ++ fillS (vN x) Ls Ls.length) b) v := by rw [he]; exact hb3
      have k4 : hasV (tg (x.1.2 ++ fillS (vN x) Ls Ls.length) b) w := by rw [he]; exact h1
      refine ⟨o, o1, o2, fun q => ?_, fun q => ?_⟩
      · exact hQ b o (by rw [List.length_append]; exact hb2) (by rw [List.length_append]; omega) k2 k1 ⟨w, hw, k4, k3⟩ q
      · exact hQ o b (by rw [List.length_append]; omega) (by rw [List.length_append]; exact hb2) k1 k2 ⟨w, hw, k3, k4⟩ q
    rcases hb3 with e | e | e
    · obtain ⟨o, o1, o2⟩ := ((bE_iff g).1 st.e).1
      have := dE_hasV o2
      rw [e] at this
      exact fin t.2.1 (by rw [← e]; exact bd.2.2.1.symm) (.inr (.inl rfl)) ⟨o, o1, this.2, this.1⟩
    · obtain ⟨o, o1, o2⟩ := ((bE_iff g).1 st.e).1
      have := dE_hasV o2
      rw [e] at this
      exact fin t.1 (by rw [← e]; exact bd.2.2.1) (.inl rfl) ⟨o, o1, this.1, this.2⟩
    · omega
  have toOld : ∃ o, o < x.1.2.length ∧ hasV (tg x.1.2 o) v ∧ Q o := by
    by_cases e : a < x.1.2.length
    · rw [tgA1 e] at ha2; exact ⟨a, e, ha2, ha3⟩
    · obtain ⟨o, o1, o2, o3, _⟩ := new a (by omega) ha1 ha2
      exact ⟨o, o1, o2, o3 ha3⟩
  obtain ⟨o, o1, o2, o3⟩ := toOld
  by_cases e : i < x.1.2.length
  · rw [tgA1 e] at hi2; exact old o o1 o2 o3 i e hi2
  · obtain ⟨o', p1, p2, _, p4⟩ := new i (by omega) hi1 hi2
    exact p4 (old o o1 o2 o3 o' p1 p2)
theorem fill_pin_new (h : Lps x Ls (vN x)) (g : Full x) {j0 : Nat} (hj0 : j0 < Ls.length) {z : Int} (hz : z = vN x + (j0 : Int)) : PinP (x.1.2 ++ fillS (vN x) Ls Ls.length) z := by
  intro Q hQ a ha1 ha2 ha3 i hi1 hi2
  have ok := h.ok _ (getDn_mem hj0)
  generalize hL : Ls.getD j0 [] = L at ok
  have hne := ok.ne
  -- where one stands
  have place : ∀ b, b < (x.1.2 ++ fillS (vN x) Ls Ls.length).length → hasV (tg (x.1.2 ++ fillS (vN x) Ls Ls.length) b) z → x.1.2.length ≤ b ∧ ∃ m, m < L.length ∧ tg (x.1.2 ++ fillS (vN x) Ls Ls.length) b = (L.getD m 0, L.getD ((m + 1) % L.length) 0, z) := fun b hb1 hb2 => by
    rw [List.length_append] at hb1
    by_cases e : b < x.1.2.length
    · rw [tgA1 e] at hb2
      have : 0 ≤ z ∧ z < vN x := fit_hasV g.fit e hb2
      omega
    · refine ⟨by omega, ?_⟩
      have hmem : tg (x.1.2 ++ fillS (vN x) Ls Ls.length) b ∈ fillS (vN x) Ls Ls.length := by
        rw [tgA2 (by omega)]; exact tg_mem (by omega)
      have bd := fill_bounds h g hmem
      obtain ⟨j, m, hj, hm, et⟩ := fillS_mem.1 hmem
      have hzz : (tg (x.1.2 ++ fillS (vN x) Ls Ls.length) b).2.2 = z := by
        rcases hb2 with e | e | e
        · omega
        · omega
        · exact e
      have : j = j0 := by rw [et] at hzz; have hzz : vN x + (j : Int) = z := hzz; omega
      subst this
      rw [hL] at hm et
      exact ⟨m, hm, by rw [et, hz]⟩
  have atp : ∀ m, m < L.length → ∃ b, b < (x.1.2 ++ fillS (vN x) Ls Ls.length).length ∧ tg (x.1.2 ++ fillS (vN x) Ls Ls.length) b = (L.getD m 0, L.getD ((m + 1) % L.length) 0, z) := fun m hm => by
    have : (L.getD m 0, L.getD ((m + 1) % L.length) 0, z) ∈ x.1.2 ++ fillS (vN x) Ls Ls.length := by
      refine List.mem_append_right _ (fillS_mem.2 ⟨j0, m, hj0, by rw [hL]; exact hm, by rw [hL, hz]⟩)
    exact mem_tg this
  have uniq : ∀ b c, b < (x.1.2 ++ fillS (vN x) Ls Ls.length).length → c < (x.1.2 ++ fillS (vN x) Ls Ls.length).length → hasV (tg (x.1.2 ++ fillS (vN x) Ls Ls.length) b) z → tg (x.1.2 ++ fillS (vN x) Ls Ls.length) b = tg (x.1.2 ++ fillS (vN x) Ls Ls.length) c → b = c := fun b c hb hc hv e => by
    have pb := (place b hb hv).1
    have pc := (place c hc (by rw [← e]; exact hv)).1
    rw [List.length_append] at hb hc
    rw [tgA2 pb, tgA2 pc] at e
    have := fill_one h (i := b - x.1.2.length) (j := c - x.1.2.length) (by omega) (by omega) (by rw [e])
    omega
  obtain ⟨_, i0, hi0, e0⟩ := place a ha1 ha2
  have step : ∀ m b, b < (x.1.2 ++ fillS (vN x) Ls Ls.length).length → tg (x.1.2 ++ fillS (vN x) Ls Ls.length) b = (L.getD ((i0 + m) % L.length) 0, L.getD (((i0 + m) % L.length + 1) % L.length) 0, z) → Q b := fun m => by
    induction m with
    | zero =>
      intro b hb e
      rw [Nat.add_zero, Nat.mod_eq_of_lt hi0] at e
      have : a = b := uniq a b ha1 hb ha2 (by rw [e, e0])
      rw [← this]; exact ha3
    | succ m ih =>
      intro b hb e
      obtain ⟨c, hc, ec⟩ := atp ((i0 + m) % L.length) (Nat.mod_lt _ hne)
      have hq := ih c hc ec
      have e1 : ((i0 + m) % L.length + 1) % L.length = (i0 + (m + 1)) % L.length := by
        rw [Nat.mod_add_mod, Nat.add_assoc]
      have hin := ok.bord (getD_mem (l := L) (j := (i0 + (m + 1)) % L.length) (Nat.mod_lt _ hne))
      obtain ⟨w, hw⟩ := hin
      have := bE_inN g hw
      refine hQ c b hc hb (by rw [ec]; exact .inr (.inr rfl)) (by rw [e]; exact .inr (.inr rfl)) ⟨L.getD ((i0 + (m + 1)) % L.length) 0, by omega, ?_, ?_⟩ hq
      · rw [ec]; exact .inr (.inl (by rw [← e1]))
      · rw [e]; exact .inl rfl
  obtain ⟨_, m, hm, em⟩ := place i hi1 hi2
  have e1 : (i0 + (m + L.length - i0)) % L.length = m := by
    rw [show i0 + (m + L.length - i0) = m + L.length by omega, Nat.add_mod_right, Nat.mod_eq_of_lt hm]
  exact step (m + L.length - i0) i hi1 (by rw [e1]; exact em)
/-- WHAT IS FILLED IS A SURFACE. -/
theorem fill_surf (h : Lps x Ls (vN x)) (g : Full x) (hs : Surf x.1) (hn : vN x + Ls.length ≤ 4096) (hl : (x.1.2 ++ fillS (vN x) Ls Ls.length).length ≤ 8192) :
    Surf (vN x + Ls.length, x.1.2 ++ fillS (vN x) Ls Ls.length) := by
  have hn0 : 0 ≤ vN x := (fitN g).1
  have hnew : ∀ b, x.1.2.length ≤ b → b < (x.1.2 ++ fillS (vN x) Ls Ls.length).length → tg (x.1.2 ++ fillS (vN x) Ls Ls.length) b ∈ fillS (vN x) Ls Ls.length := fun b h1 h2 => by
    rw [List.length_append] at h2
    rw [tgA2 h1]; exact tg_mem (by omega)
  have hold : ∀ b, b < x.1.2.length → ∀ v, hasV (tg (x.1.2 ++ fillS (vN x) Ls Ls.length) b) v → 0 ≤ v ∧ v < vN x := fun b hb v hv => by
    rw [tgA1 hb] at hv; exact fit_hasV g.fit hb hv
  have onenew : ∀ i j, i < j → x.1.2.length ≤ i → j < (x.1.2 ++ fillS (vN x) Ls Ls.length).length → (tg (x.1.2 ++ fillS (vN x) Ls Ls.length) i).1 ≠ (tg (x.1.2 ++ fillS (vN x) Ls Ls.length) j).1 := fun i j hij hi hj e => by
    rw [tgA2 hi, tgA2 (by omega)] at e
    rw [List.length_append] at hj
    have := fill_one h (i := i - x.1.2.length) (j := j - x.1.2.length) (by omega) (by omega) e
    omega
  refine ⟨⟨by show 0 ≤ vN x + (Ls.length : Int); omega, hn, hl, fun i hi => ?_⟩, fun i hi => ?_, fun i j hij hj a b h1 h2 => ?_, fun i j hij hj hh => ?_, fun v hv => ?_, fun v hv => ?_⟩
  · show triIn (vN x + (Ls.length : Int)) (tg (x.1.2 ++ fillS (vN x) Ls Ls.length) i) = true
    by_cases e : i < x.1.2.length
    · rw [tgA1 e]
      have : (0 ≤ (tg x.1.2 i).1 ∧ (tg x.1.2 i).1 < vN x) ∧ (0 ≤ (tg x.1.2 i).2.1 ∧ (tg x.1.2 i).2.1 < vN x) ∧ (0 ≤ (tg x.1.2 i).2.2 ∧ (tg x.1.2 i).2.2 < vN x) := triIn_spec (g.fit.2.2.2 i e)
      exact tri_good (by omega)
    · have := fill_bounds h g (hnew i (by omega) hi)
      exact tri_good (by omega)
  · by_cases e : i < x.1.2.length
    · show ¬ dgn (tg (x.1.2 ++ fillS (vN x) Ls Ls.length) i)
      rw [tgA1 e]; exact hs.deg i e
    · have := fill_bounds h g (hnew i (by omega) hi)
      show ¬ dgn (tg (x.1.2 ++ fillS (vN x) Ls Ls.length) i)
      unfold dgn; omega
  · have hj : j < (x.1.2 ++ fillS (vN x) Ls Ls.length).length := hj
    have h1 : dE (tg (x.1.2 ++ fillS (vN x) Ls Ls.length) i) a b := h1
    have h2 : dE (tg (x.1.2 ++ fillS (vN x) Ls Ls.length) j) a b := h2
    by_cases ej : j < x.1.2.length
    · rw [tgA1 ej] at h2
      rw [tgA1 (by omega)] at h1
      exact hs.dif i j hij ej a b h1 h2
    · have mj := hnew j (by omega) hj
      by_cases ei : i < x.1.2.length
      · have k1 := hold i ei a (dE_hasV h1).1
        have k2 := hold i ei b (dE_hasV h1).2
        have bd := fill_bounds h g mj
        obtain ⟨q, st⟩ := stT_of h mj
        rcases dE_st h2 with ⟨ea, eb⟩ | ⟨ea, eb⟩ | ⟨ea, eb⟩
        · rw [tgA1 ei] at h1
          have := ((bE_iff g).1 st.e).2
          rw [← ea, ← eb] at this
          exact this ⟨i, ei, h1⟩
        · omega
        · omega
      · exact onenew i j hij (by omega) hj (fill_dif h g (hnew i (by omega) (by omega)) mj h1 h2)
  · obtain ⟨h1, h2, h3⟩ := hh
    have hj : j < (x.1.2 ++ fillS (vN x) Ls Ls.length).length := hj
    by_cases ej : j < x.1.2.length
    · have k1 : hasV (tg x.1.2 j) (tg x.1.2 i).1 := by rw [← tgA1 (S := fillS (vN x) Ls Ls.length) ej, ← tgA1 (S := fillS (vN x) Ls Ls.length) (show i < x.1.2.length by omega)]; exact h1
      have k2 : hasV (tg x.1.2 j) (tg x.1.2 i).2.1 := by rw [← tgA1 (S := fillS (vN x) Ls Ls.length) ej, ← tgA1 (S := fillS (vN x) Ls Ls.length) (show i < x.1.2.length by omega)]; exact h2
      have k3 : hasV (tg x.1.2 j) (tg x.1.2 i).2.2 := by rw [← tgA1 (S := fillS (vN x) Ls Ls.length) ej, ← tgA1 (S := fillS (vN x) Ls Ls.length) (show i < x.1.2.length by omega)]; exact h3
      exact hs.mir i j hij ej ⟨k1, k2, k3⟩
    · have mj := hnew j (by omega) hj
      have bd := fill_bounds h g mj
      obtain ⟨q, st⟩ := stT_of h mj
      have h1 : hasV (tg (x.1.2 ++ fillS (vN x) Ls Ls.length) j) (tg (x.1.2 ++ fillS (vN x) Ls Ls.length) i).1 := h1
      have h2 : hasV (tg (x.1.2 ++ fillS (vN x) Ls Ls.length) j) (tg (x.1.2 ++ fillS (vN x) Ls Ls.length) i).2.1 := h2
      have h3 : hasV (tg (x.1.2 ++ fillS (vN x) Ls Ls.length) j) (tg (x.1.2 ++ fillS (vN x) Ls Ls.length) i).2.2 := h3
      unfold hasV at h1 h2 h3
      by_cases ei : i < x.1.2.length
      · have k1 := hold i ei _ (.inl rfl)
        have k2 := hold i ei _ (.inr (.inl rfl))
        have k3 := hold i ei _ (.inr (.inr rfl))
        have hd := hs.deg i ei
        rw [← tgA1 (S := fillS (vN x) Ls Ls.length) ei] at hd
        unfold dgn at hd
        omega
      · have mi := hnew i (by omega) (by omega)
        have bi := fill_bounds h g mi
        obtain ⟨q', st'⟩ := stT_of h mi
        have hne := onenew i j hij (by omega) hj
        have e1 : (tg (x.1.2 ++ fillS (vN x) Ls Ls.length) i).1 = (tg (x.1.2 ++ fillS (vN x) Ls Ls.length) j).2.1 := by omega
        have hw : (tg (x.1.2 ++ fillS (vN x) Ls Ls.length) i).2.1 = (tg (x.1.2 ++ fillS (vN x) Ls Ls.length) j).1 ∨ (tg (x.1.2 ++ fillS (vN x) Ls Ls.length) i).2.1 = (tg (x.1.2 ++ fillS (vN x) Ls Ls.length) j).2.1 := by omega
        rcases hw with e | e
        · have k1 := st'.e
          have k2 := st.e
          rw [e1, e] at k1
          exact ((bE_iff g).1 k1).2 ((bE_iff g).1 k2).1
        · have k1 := st'.e
          have k2 := st.e
          rw [e] at k1
          exact hne (bE_right g k1 k2)
  · have hv : (v : Int) < vN x + (Ls.length : Int) := hv
    by_cases e : (v : Int) < vN x
    · obtain ⟨j, j1, j2⟩ := hs.use v e
      exact ⟨j, by show j < (x.1.2 ++ fillS (vN x) Ls Ls.length).length; rw [List.length_append]; omega, by show hasV (tg (x.1.2 ++ fillS (vN x) Ls Ls.length) j) v; rw [tgA1 j1]; exact j2⟩
    · have hj : v - (vN x).toNat < Ls.length := by omega
      have ok := h.ok _ (getDn_mem hj)
      have hm : ((Ls.getD (v - (vN x).toNat) []).getD 0 0, (Ls.getD (v - (vN x).toNat) []).getD ((0 + 1) % (Ls.getD (v - (vN x).toNat) []).length) 0, vN x + ((v - (vN x).toNat : Nat) : Int)) ∈ x.1.2 ++ fillS (vN x) Ls Ls.length :=
        List.mem_append_right _ (fillS_mem.2 ⟨_, 0, hj, ok.ne, rfl⟩)
      obtain ⟨b, hb, e2⟩ := mem_tg hm
      refine ⟨b, hb, ?_⟩
      show hasV (tg (x.1.2 ++ fillS (vN x) Ls Ls.length) b) v
      rw [e2]
      exact .inr (.inr (by show vN x + ((v - (vN x).toNat : Nat) : Int) = v; omega))
  · have hv : (v : Int) < vN x + (Ls.length : Int) := hv
    by_cases e : (v : Int) < vN x
    · exact fill_pin_old h g hs e
    · exact fill_pin_new h g (j0 := v - (vN x).toNat) (by omega) (by omega)
end
end S1

open Go Go.Vm Go.Proofs
namespace S1
set_option maxRecDepth 100000

/-! star.Open -/
def oldG (ap : List Int) (v : Nat) : Option Int := if had (insM ap) v = true then none else some v
def oldL (ap : List Int) (k : Nat) : List Int := (List.range k).filterMap (oldG ap)
def namS (ap : List Int) (l : List Int) (v : Nat) : List Int := if had (insM ap) v = true then l else l.set v (oldL ap v).length
def namL (n : Nat) (ap : List Int) (k : Nat) : List Int := irec (namS ap) (List.replicate n 0) k
def opG (n : Nat) (ap : List Int) (l : List P3) (j : Nat) : Option P3 :=
  if had (insM ap) (tg l j).1 = true ∨ had (insM ap) (tg l j).2.1 = true ∨ had (insM ap) (tg l j).2.2 = true then none
  else some ((namL n ap n).getD (tg l j).1.toNat 0, (namL n ap n).getD (tg l j).2.1.toNat 0, (namL n ap n).getD (tg l j).2.2.toNat 0)
def opT (n : Nat) (ap : List Int) (l : List P3) (j : Nat) : List P3 := (List.range j).filterMap (opG n ap l)
def openS (s : Int × List P3) (ap : List Int) : Int × List P3 := (((oldL ap s.1.toNat).length : Int), opT s.1.toNat ap s.2 s.2.length)
def openR (x : tabE.T) (ap : List Int) : (Int × List P3) × List Int × Int :=
  if checkR x ap ≠ 0 then ((0, []), [], checkR x ap) else if (chkR (openS x.1 ap)).1 = 0 then (openS x.1 ap, oldL ap x.1.1.toNat, 0) else ((0, []), [], 11)
def openO (s : Int × List P3) (ap : List Int) : (Int × List P3) × List Int × Int := match newO s with | some x => openR x ap | none => ((0, []), [], 11)
def openV (r : (Int × List P3) × List Int × Int) : AV := .tup [soupE.av r.1, .s (.sl i64E r.2.1), .s (.int .i64 r.2.2)]
/-- As it is handed back: of an error nothing comes. -/
def openW (r : (Int × List P3) × List Int × Int) : AV := if r.2.2 = 0 then openV r else .tup [.agg [.int .i64 0, .val (.slice none 0 0)], .s (.sl i64E []), .s (.int .i64 r.2.2)]

/-! what is opened -/
theorem had_iff {ap : List Int} {v : Int} : had (insM ap) v = true ↔ v ∈ ap := insM_had ap v
theorem oldL_succ (ap : List Int) (k : Nat) : oldL ap (k + 1) = oldL ap k ++ (oldG ap k).toList := fm_succ _ _
theorem old_lo {ap : List Int} : ∀ {m : Nat}, (∀ v : Nat, v < m → (v : Int) ∉ ap) → oldL ap m = (List.range m).map fun v => ((v : Nat) : Int)
  | 0, _ => rfl
  | m + 1, h => by
    rw [oldL_succ, old_lo (m := m) (fun v hv => h v (by omega)), List.range_succ, List.map_append]
    congr 1
    unfold oldG
    rw [if_neg (fun e => h m (by omega) (had_iff.1 e))]; rfl
theorem old_hi {ap : List Int} {a : Nat} : ∀ {b : Nat}, (∀ v : Nat, a ≤ v → v < a + b → (v : Int) ∈ ap) → oldL ap (a + b) = oldL ap a
  | 0, _ => rfl
  | b + 1, h => by
    show oldL ap (a + b + 1) = _
    rw [oldL_succ, old_hi (b := b) (fun v h1 h2 => h v h1 (by omega))]
    unfold oldG
    rw [if_pos (had_iff.2 (h (a + b) (by omega) (by omega)))]; simp
theorem nam_len (N : Nat) (ap : List Int) : ∀ k, (namL N ap k).length = N
  | 0 => List.length_replicate
  | k + 1 => by
    show (namS ap (namL N ap k) k).length = N
    unfold namS
    split
    · exact nam_len N ap k
    · rw [List.length_set]; exact nam_len N ap k
theorem nam_get (N : Nat) (ap : List Int) : ∀ k, k ≤ N → ∀ v, v < k → (v : Int) ∉ ap → (namL N ap k).getD v 0 = (oldL ap v).length
  | 0, _, v, h, _ => by omega
  | k + 1, hk, v, h, hv => by
    show (namS ap (namL N ap k) k).getD v 0 = _
    have hlen := nam_len N ap k
    unfold namS
    split
    · rename_i hh
      by_cases e : v = k
      · subst e; exact absurd (had_iff.1 hh) hv
      · exact nam_get N ap k (by omega) v (by omega) hv
    · by_cases e : v = k
      · subst e
        rw [List.getD_eq_getElem?_getD, List.getElem?_set_self (by omega)]; rfl
      · rw [List.getD_eq_getElem?_getD, List.getElem?_set_ne (Ne.symm e), ← List.getD_eq_getElem?_getD]
        exact nam_get N ap k (by omega) v (by omega) hv
theorem fm_all {f : Nat → Option P3} {l : List P3} : ∀ {m : Nat}, m ≤ l.length → (∀ j, j < m → f j = some (tg l j)) → (List.range m).filterMap f = l.take m
  | 0, _, _ => rfl
  | m + 1, h1, h2 => by
    rw [fm_succ, fm_all (m := m) (by omega) (fun j hj => h2 j (by omega)), h2 m (by omega), List.take_succ_eq_append_getElem (by omega)]
    unfold tg
    rw [List.getD_eq_getElem?_getD, List.getElem?_eq_getElem (by omega)]; rfl
theorem fm_none {f : Nat → Option P3} {a : Nat} : ∀ {b : Nat}, (∀ j, a ≤ j → j < a + b → f j = none) → (List.range (a + b)).filterMap f = (List.range a).filterMap f
  | 0, _ => rfl
  | b + 1, h => by
    show (List.range (a + b + 1)).filterMap f = _
    rw [fm_succ, fm_none (b := b) (fun j h1 h2 => h j h1 (by omega)), h (a + b) (by omega) (by omega)]; simp
/-- What stands behind the rest goes, and nothing else. -/
theorem open_keep {n : Int} {k : Nat} {l S : List P3} {ap : List Int} (h0 : 0 ≤ n) (hl : ∀ i, i < l.length → (0 ≤ (tg l i).1 ∧ (tg l i).1 < n) ∧ (0 ≤ (tg l i).2.1 ∧ (tg l i).2.1 < n) ∧ 0 ≤ (tg l i).2.2 ∧ (tg l i).2.2 < n)
    (hS : ∀ t ∈ S, t.2.2 ∈ ap) (hap : ∀ v : Int, v ∈ ap ↔ n ≤ v ∧ v < n + k) : openS (n + k, l ++ S) ap = (n, l) ∧ oldL ap (n + (k : Int)).toNat = (List.range n.toNat).map fun v => ((v : Nat) : Int) := by
  have hN : (n + (k : Int)).toNat = n.toNat + k := by omega
  have hold : oldL ap (n + (k : Int)).toNat = (List.range n.toNat).map fun v => ((v : Nat) : Int) := by
    rw [hN, old_hi (fun v h1 h2 => (hap _).2 (by omega)), old_lo (fun v hv e => by have := (hap _).1 e; omega)]
  refine ⟨?_, hold⟩
  unfold openS
  have e1 : (((oldL ap (n + (k : Int)).toNat).length : Nat) : Int) = n := by rw [hold, List.length_map, List.length_range]; omega
  have hno : ∀ v : Int, v < n → ¬ had (insM ap) v = true := fun v hv e => by have := (hap _).1 (had_iff.1 e); omega
  have hnam : ∀ v : Int, 0 ≤ v → v < n → (namL (n + (k : Int)).toNat ap (n + (k : Int)).toNat).getD v.toNat 0 = v := fun v hv0 hv => by
    rw [nam_get _ _ _ (Nat.le_refl _) v.toNat (by omega) (fun e => by have := (hap _).1 e; omega)]
    rw [old_lo (fun u hu e => by have := (hap _).1 e; omega), List.length_map, List.length_range]
    omega
  have e2 : opT (n + (k : Int)).toNat ap (l ++ S) (l ++ S).length = l := by
    unfold opT
    rw [List.length_append]
    have ha : ∀ j, l.length ≤ j → j < l.length + S.length → opG (n + (k : Int)).toNat ap (l ++ S) j = none := fun j h1 h2 => by
      unfold opG
      rw [tgA2 h1]
      rw [if_pos (.inr (.inr (had_iff.2 (hS _ (tg_mem (by omega))))))]
    have hb : ∀ j, j < l.length → opG (n + (k : Int)).toNat ap (l ++ S) j = some (tg l j) := fun j hj => by
      have := hl j hj
      unfold opG
      rw [tgA1 hj, if_neg (by rintro (e | e | e) <;> exact absurd e (hno _ (by omega)))]
      rw [hnam _ this.1.1 this.1.2, hnam _ this.2.1.1 this.2.1.2, hnam _ this.2.2.1 this.2.2.2]
    rw [fm_none ha, fm_all (l := l) (Nat.le_refl _) hb, List.take_length]
  exact Prod.ext e1 e2
end S1

open Go Go.Vm Go.Proofs
namespace S1
set_option maxRecDepth 100000

/-! a table that is made -/
def newXC (x : tabE.T) : List AV → Option Res := con1 soupE (fun s => some (none, some (newO s = some x), .tup [(ETy.pt tabE).av (some x), witE.av (0, 0, 0)]))
theorem newXRow (x : tabE.T) : FnRow Try.prog 28 (newXC x) := ⟨con1_ok fun s r h => by
  cases h
  intro σ vals w hag hv
  refine ⟨trivial, fun hq => ?_⟩
  have hq : newO s = some x := hq
  have := (newRow.1 _ _ (rfl : newC [soupE.av s] = _) σ vals w hag hv).2 trivial
  have hc : (chkR s).1 = 0 := by
    unfold newO at hq
    split at hq
    · assumption
    · cases hq
  rw [hq, chk_eq hc] at this
  exact this, _, Try.func28, by kernel_rfl, by kernel_rfl⟩
def newNC : List AV → Option Res := con1 soupE (fun s => some (none, some (newO s = none), .tup [nilO none, witE.av (chkR s)]))
theorem newNRow : FnRow Try.prog 28 newNC := ⟨con1_ok fun s r h => by
  cases h
  intro σ vals w hag hv
  refine ⟨trivial, fun hq => ?_⟩
  have hq : newO s = none := hq
  have := (newRow.1 _ _ (rfl : newC [soupE.av s] = _) σ vals w hag hv).2 trivial
  rw [hq] at this
  refine this.mono fun e w' ⟨v, σ', e1, e2, e3, e4, e5, e6⟩ => ⟨v, σ', e1, e2, e3, e4, ?_, e6⟩
  obtain ⟨vs, e, r⟩ := e5
  match vs, r with
  | [a, b], r => exact ⟨_, e, nil_av r.1, r.2.1, trivial⟩, _, Try.func28, by kernel_rfl, by kernel_rfl⟩
/-! star.Open -/
def loopSO1 (ap : List Int) : Spec Nat where
  inv k := k ≤ ap.length
  live k := [(37, .s (.int .i64 k))]
  keep := [1, 2, 4, 5, 6, 7, 10, 35, 36]
  heap k := [(4, .map i64E .bool (insM (ap.take k)))]
  keepH := [0, 1, 2, 5]
  mu k := ap.length - k
def loopSO2 (n : Int) (ap : List Int) : Spec Nat where
  inv k := (k : Int) ≤ n
  live k := [(49, .s (.int .i64 k)), (13, .s (.own 5 0 (oldL ap k).length))]
  keep := [1, 2, 4, 5, 6, 7, 10, 14, 48]
  heap k := [(5, .row i64E 3 (oldL ap k)), (6, .row i64E 3 (namL n.toNat ap k))]
  keepH := [0, 1, 2, 4]
  mu k := n.toNat - k
def loopSO3 (n : Int) (ap : List Int) (l : List P3) : Spec Nat where
  inv j := j ≤ l.length
  live j := [(72, .s (.int .i64 j))]
  keep := [1, 2, 4, 5, 6, 7, 10, 13, 14, 16, 70, 71]
  heap j := [(7, .flat 24 [.int .i64 (oldL ap n.toNat).length, .own 8 0 (opT n.toNat ap l j).length]), (8, .row .arr3 72 (opT n.toNat ap l j))]
  keepH := [0, 1, 2, 4, 5, 6]
  mu j := l.length - j
  nils := [7]
theorem nam_t {n : Nat} {ap : List Int} {k : Nat} (h : had (insM ap) k = true) : namL n ap (k + 1) = namL n ap k := by
  show namS ap (namL n ap k) k = _
  unfold namS; rw [if_pos h]
theorem nam_f {n : Nat} {ap : List Int} {k : Nat} (h : had (insM ap) k = false) : namL n ap (k + 1) = (namL n ap k).set k ((oldL ap k).length : Int) := by
  show namS ap (namL n ap k) k = _
  unfold namS; rw [if_neg (by rw [h]; simp)]
theorem old_t {ap : List Int} {k : Nat} (h : had (insM ap) k = true) : oldL ap (k + 1) = oldL ap k := by
  rw [oldL_succ]; unfold oldG; rw [if_pos h]; simp
theorem old_f {ap : List Int} {k : Nat} (h : had (insM ap) k = false) : oldL ap (k + 1) = oldL ap k ++ [(k : Int)] := by
  rw [oldL_succ]; unfold oldG; rw [if_neg (by rw [h]; simp)]; rfl
theorem op_t {n : Nat} {ap : List Int} {l : List P3} {j : Nat} (h : had (insM ap) (tg l j).1 = true ∨ had (insM ap) (tg l j).2.1 = true ∨ had (insM ap) (tg l j).2.2 = true) : opT n ap l (j + 1) = opT n ap l j := by
  unfold opT; rw [fm_succ]; conv => lhs; rhs; rw [opG, if_pos h]
  simp
theorem op_f {n : Nat} {ap : List Int} {l : List P3} {j : Nat} (h1 : had (insM ap) (tg l j).1 = false) (h2 : had (insM ap) (tg l j).2.1 = false) (h3 : had (insM ap) (tg l j).2.2 = false) :
    opT n ap l (j + 1) = opT n ap l j ++ [((namL n ap n).getD (tg l j).1.toNat 0, (namL n ap n).getD (tg l j).2.1.toNat 0, (namL n ap n).getD (tg l j).2.2.toNat 0)] := by
  unfold opT; rw [fm_succ]; conv => lhs; rhs; rw [opG, if_neg (by rw [h1, h2, h3]; simp)]
  rfl
theorem openW_bad {x : tabE.T} {ap : List Int} (h : checkR x ap ≠ 0) : openW (openR x ap) = .tup [.agg [.int .i64 0, .val (.slice none 0 0)], .s (.sl i64E []), .s (.int .i64 (checkR x ap))] := by
  unfold openR openW; rw [if_pos h, if_neg h]
theorem openW_no {x : tabE.T} {ap : List Int} (h : checkR x ap = 0) (h2 : ¬ (chkR (openS x.1 ap)).1 = 0) : openW (openR x ap) = .tup [.agg [.int .i64 0, .val (.slice none 0 0)], .s (.sl i64E []), .s (.int .i64 11)] := by
  have e : openR x ap = ((0, []), [], 11) := by unfold openR; rw [if_neg (fun k => k h), if_neg h2]
  rw [e]; unfold openW; rw [if_neg (by show ¬ (11 : Int) = 0; omega)]
theorem openW_ok {x : tabE.T} {ap : List Int} (h : checkR x ap = 0) (h2 : (chkR (openS x.1 ap)).1 = 0) : openW (openR x ap) = .tup [soupE.av (openS x.1 ap), .s (.sl i64E (oldL ap x.1.1.toNat)), .s (.int .i64 0)] := by
  have e : openR x ap = (openS x.1 ap, oldL ap x.1.1.toNat, 0) := by unfold openR; rw [if_neg (fun k => k h), if_pos h2]
  rw [e]; unfold openW; rw [if_pos rfl]; rfl
attribute [local irreducible] insM checkR
set_option maxHeartbeats 4000000 in
theorem open_vc (n : Int) (l : List P3) (ap : List Int) (x : tabE.T) (hx : newO (n, l) = some x) : afun ⟨tyL, [(28, newXC x), (71, starCkC), (72, isC)], []⟩ Try.f37 [soupE.av (n, l), (ETy.sl i64E).av ap] (fun r => r = openW (openR x ap)) := by
  obtain ⟨hx1, g, hs⟩ := new_full hx
  have e1 : x.1 = (n, l) := by rw [hx1]; rfl
  have hn : 0 ≤ n ∧ n ≤ 4096 ∧ l.length ≤ 8192 := ⟨hs.fit.1, hs.fit.2.1, hs.fit.2.2.1⟩
  have hin : ∀ i, i < l.length → triIn n (l.getD i (0, 0, 0)) = true := hs.fit.2.2.2
  repeat' (conv => whnf
           first | done | refine Need.intro (by first | rfl | omega | (simp only [i64ok] at *; omega)) ?_ | refine Need.intro (Hold.out ?_) ?_ | refine Give.intro fun _ => ?_ | refine Both.intro ?_ ?_ | refine BIf.and ?_ | refine BIf.or ?_ | refine BIf.eqi (fun _ => ?_) (fun _ => ?_) | refine BIf.nei (fun _ => ?_) (fun _ => ?_) | refine BIf.dec (fun _ => ?_) (fun _ => ?_) | refine BIf.nt ?_ | refine BIf.intro (fun _ => ?_) (fun _ => ?_) | ((first | (with_reducible show Or (∃ n, rounds (acode _ (Code.seq (Code.region 9 _ _) _)) _ n _) _) | (with_reducible show Or (∃ n, rounds (acode _ (Code.seq (Code.seq (Code.region 9 _ _) _) _)) _ n _) _) | (with_reducible show Or (∃ n, rounds (acode _ (Code.seq (Code.seq (Code.seq (Code.region 9 _ _) _) _) _)) _ n _) _) | (with_reducible show Or (∃ n, rounds (acode _ (Code.seq (Code.seq (Code.seq (Code.seq (Code.region 9 _ _) _) _) _) _)) _ n _) _) | (with_reducible show Or (∃ n, rounds (acode _ (Code.block _ (Code.seq (Code.region 9 _ _) _))) _ n _) _) | (with_reducible show Or (∃ n, rounds (acode _ (Code.block _ (Code.seq (Code.seq (Code.region 9 _ _) _) _))) _ n _) _) | (with_reducible show Or (∃ n, rounds (acode _ (Code.block _ (Code.seq (Code.seq (Code.seq (Code.region 9 _ _) _) _) _))) _ n _) _) | (with_reducible show Or (∃ n, rounds (acode _ (Code.block _ (Code.seq (Code.seq (Code.seq (Code.seq (Code.region 9 _ _) _) _) _) _))) _ n _) _)); refine Or.inr (Exists.intro (Nat) (Exists.intro (loopSO1 ap) (And.intro (Exists.intro (0) (And.intro (Hold.out ?_) (And.intro ?_ (And.intro ?_ rfl)))) (fun k hk => ?_))))) | ((with_reducible show (∃ y, And (Spec.inv (loopSO1 _) y) _)); refine Exists.intro (k + 1) (And.intro (Hold.out ?_) (And.intro (And.intro ?_ (And.intro ?_ rfl)) (Hold.out ?_)))) | ((first | (with_reducible show Or (∃ n, rounds (acode _ (Code.seq (Code.region 16 _ _) _)) _ n _) _) | (with_reducible show Or (∃ n, rounds (acode _ (Code.seq (Code.seq (Code.region 16 _ _) _) _)) _ n _) _) | (with_reducible show Or (∃ n, rounds (acode _ (Code.seq (Code.seq (Code.seq (Code.region 16 _ _) _) _) _)) _ n _) _) | (with_reducible show Or (∃ n, rounds (acode _ (Code.seq (Code.seq (Code.seq (Code.seq (Code.region 16 _ _) _) _) _) _)) _ n _) _) | (with_reducible show Or (∃ n, rounds (acode _ (Code.block _ (Code.seq (Code.region 16 _ _) _))) _ n _) _) | (with_reducible show Or (∃ n, rounds (acode _ (Code.block _ (Code.seq (Code.seq (Code.region 16 _ _) _) _))) _ n _) _) | (with_reducible show Or (∃ n, rounds (acode _ (Code.block _ (Code.seq (Code.seq (Code.seq (Code.region 16 _ _) _) _) _))) _ n _) _) | (with_reducible show Or (∃ n, rounds (acode _ (Code.block _ (Code.seq (Code.seq (Code.seq (Code.seq (Code.region 16 _ _) _) _) _) _))) _ n _) _)); refine Or.inr (Exists.intro (Nat) (Exists.intro (loopSO2 n ap) (And.intro (Exists.intro (0) (And.intro (Hold.out ?_) (And.intro ?_ (And.intro ?_ rfl)))) (fun v hv => ?_))))) | ((with_reducible show (∃ y, And (Spec.inv (loopSO2 _ _) y) _)); refine Exists.intro (v + 1) (And.intro (Hold.out ?_) (And.intro (And.intro ?_ (And.intro ?_ rfl)) (Hold.out ?_)))) | ((first | (with_reducible show Or (∃ n, rounds (acode _ (Code.seq (Code.region 24 _ _) _)) _ n _) _) | (with_reducible show Or (∃ n, rounds (acode _ (Code.seq (Code.seq (Code.region 24 _ _) _) _)) _ n _) _) | (with_reducible show Or (∃ n, rounds (acode _ (Code.seq (Code.seq (Code.seq (Code.region 24 _ _) _) _) _)) _ n _) _) | (with_reducible show Or (∃ n, rounds (acode _ (Code.seq (Code.seq (Code.seq (Code.seq (Code.region 24 _ _) _) _) _) _)) _ n _) _) | (with_reducible show Or (∃ n, rounds (acode _ (Code.block _ (Code.seq (Code.region 24 _ _) _))) _ n _) _) | (with_reducible show Or (∃ n, rounds (acode _ (Code.block _ (Code.seq (Code.seq (Code.region 24 _ _) _) _))) _ n _) _) | (with_reducible show Or (∃ n, rounds (acode _ (Code.block _ (Code.seq (Code.seq (Code.seq (Code.region 24 _ _) _) _) _))) _ n _) _) | (with_reducible show Or (∃ n, rounds (acode _ (Code.block _ (Code.seq (Code.seq (Code.seq (Code.seq (Code.region 24 _ _) _) _) _) _))) _ n _) _)); refine Or.inr (Exists.intro (Nat) (Exists.intro (loopSO3 n ap l) (And.intro (Exists.intro (0) (And.intro (Hold.out ?_) (And.intro ?_ (And.intro ?_ rfl)))) (fun j hj => ?_))))) | ((with_reducible show (∃ y, And (Spec.inv (loopSO3 _ _ _) y) _)); refine Exists.intro (j + 1) (And.intro (Hold.out ?_) (And.intro (And.intro ?_ (And.intro ?_ rfl)) (Hold.out ?_)))) | refine And.intro rfl ?_ | refine And.intro (HoldEq.out ?_) ?_ | refine And.intro (HoldOb.out ?_) ?_ | exact True.intro | refine HoldEq.out ?_ | refine HoldObs.out ?_ | refine KCheck.intro (by kernel_rfl) ?_ | refine HoldOr.out ?_)
  all_goals try first | refine HoldEq.int ?_ | refine HoldEq.bool ?_ | refine HoldEq.sl ?_ | refine HoldEq.own ?_ | refine HoldEq.ownS ?_ ?_ | refine HoldOb.row ?_ | refine HoldOb.map ?_ | refine HoldOb.gmap ?_ | refine HoldOb.grow ?_ | refine HoldObs.row ?_
  all_goals try simp only [take_one, take_one', set_one, take_all, List.length_singleton, rec_self, Int.toNat_natCast, pair_eta, ETy.dflt, List.getD_cons_zero, List.getD_cons_succ, Int.reduceToNat, Int.reduceAdd, Int.reduceSub, Int.reduceNeg, Nat.reduceAdd, Nat.zero_add, loopSO1, loopSO2, loopSO3, had_def, had_def2] at *
  all_goals try (refine Hold.intro ?_; first | omega | (unfold i64ok; omega))
  · exact Hold.intro g.toGood
  · rw [openW_bad (by assumption)]; exact HoldEq.intro rfl
  · unfold insM; rfl
  · exact insM_succ (by omega)
  all_goals have ek : ap.take k = ap := List.take_of_length_le (by omega)
  all_goals try have hln := fm_len (oldG ap) v
  all_goals try have hlm := fm_len (opG n.toNat ap l) j
  all_goals try (refine Hold.intro ?_; first | omega | (unfold oldL; omega) | (unfold opT; omega))
  all_goals try
    have hh : had (insM (List.take k ap)) v = true := by assumption
    rw [ek] at hh
    first
    | (rw [old_t hh]; done)
    | (rw [nam_t hh]; done)
  all_goals try
    have hh : had (insM (List.take k ap)) v = false := by assumption
    rw [ek] at hh
    first
    | (rw [old_f hh, List.length_append]; rfl)
    | (rw [old_f hh]; done)
    | (rw [nam_f hh]; done)
  all_goals try have ht := triIn_spec (hin j (by omega))
  all_goals try (refine Hold.intro ?_; rw [Int.toNat_of_nonneg hn.1]; first | exact ht.1 | exact ht.2.1 | exact ht.2.2)
  all_goals have ev : v = n.toNat := by omega
  all_goals subst ev
  · exact HoldOb.intro rfl
  all_goals try
    have hh : had (insM (List.take k ap)) (tg l j).1 = true := by assumption
    rw [ek] at hh
    have e := op_t (n := n.toNat) (.inl hh)
    first
    | (rw [e]; done)
    | (refine HoldOb.intro ?_; rw [e]; done)
  all_goals try
    have hh : had (insM (List.take k ap)) (tg l j).2.1 = true := by assumption
    rw [ek] at hh
    have e := op_t (n := n.toNat) (.inr (.inl hh))
    first
    | (rw [e]; done)
    | (refine HoldOb.intro ?_; rw [e]; done)
  all_goals try
    have hh : had (insM (List.take k ap)) (tg l j).2.2 = true := by assumption
    rw [ek] at hh
    have e := op_t (n := n.toNat) (.inr (.inr hh))
    first
    | (rw [e]; done)
    | (refine HoldOb.intro ?_; rw [e]; done)
  all_goals try
    have hh1 : had (insM (List.take k ap)) (tg l j).1 = false := by assumption
    have hh2 : had (insM (List.take k ap)) (tg l j).2.1 = false := by assumption
    have hh3 : had (insM (List.take k ap)) (tg l j).2.2 = false := by assumption
    rw [ek] at hh1 hh2 hh3
    have e := op_f (n := n.toNat) hh1 hh2 hh3
    first
    | (rw [e]; done)
    | (refine HoldOb.intro ?_; rw [e, List.length_append]; rfl)
  all_goals have ej : j = l.length := by omega
  all_goals subst ej
  all_goals have eo : openS x.1 ap = (((oldL ap n.toNat).length : Int), opT n.toNat ap l l.length) := by rw [e1]; rfl
  all_goals have en : x.1.1.toNat = n.toNat := by rw [e1]
  all_goals have hck : checkR x ap = 0 := by assumption
  · have hc : chkR (((oldL ap n.toNat).length : Int), opT n.toNat ap l l.length) = (0, 0, 0) := by assumption
    rw [openW_ok hck (by rw [eo, hc]), eo, en]; exact HoldEq.intro rfl
  · have hc : ¬ chkR (((oldL ap n.toNat).length : Int), opT n.toNat ap l l.length) = (0, 0, 0) := by assumption
    rw [openW_no hck (by rw [eo]; exact fun e => hc (chk_eq e))]; exact HoldEq.intro rfl
theorem open0_vc (n : Int) (l : List P3) (ap : List Int) (hx : newO (n, l) = none) : afun ⟨tyL, [(28, newNC), (71, starCkC), (72, isC)], []⟩ Try.f37 [soupE.av (n, l), (ETy.sl i64E).av ap] (fun r => r = .tup [.agg [.int .i64 0, .val (.slice none 0 0)], .s (.sl i64E []), .s (.int .i64 11)]) := by
  repeat' (conv => whnf
           first | done | refine Need.intro (by first | rfl | omega | (simp only [i64ok] at *; omega)) ?_ | refine Need.intro (Hold.out ?_) ?_ | refine Give.intro fun _ => ?_ | refine Both.intro ?_ ?_ | refine BIf.and ?_ | refine BIf.or ?_ | refine BIf.eqi (fun _ => ?_) (fun _ => ?_) | refine BIf.nei (fun _ => ?_) (fun _ => ?_) | refine BIf.dec (fun _ => ?_) (fun _ => ?_) | refine BIf.nt ?_ | refine BIf.intro (fun _ => ?_) (fun _ => ?_) | refine And.intro rfl ?_ | refine And.intro (HoldEq.out ?_) ?_ | refine And.intro (HoldOb.out ?_) ?_ | exact True.intro | refine HoldEq.out ?_ | refine HoldObs.out ?_ | refine KCheck.intro (by kernel_rfl) ?_ | refine HoldOr.out ?_)
  all_goals try first | refine HoldEq.int ?_ | refine HoldEq.bool ?_ | refine HoldEq.sl ?_ | refine HoldEq.own ?_ | refine HoldEq.ownS ?_ ?_ | refine HoldOb.row ?_ | refine HoldOb.map ?_ | refine HoldOb.gmap ?_ | refine HoldOb.grow ?_ | refine HoldObs.row ?_
  all_goals try simp only [take_one, take_one', set_one, take_all, List.length_singleton, rec_self, Int.toNat_natCast, pair_eta, ETy.dflt, List.getD_cons_zero, List.getD_cons_succ, Int.reduceToNat, Int.reduceAdd, Int.reduceSub, Int.reduceNeg, Nat.reduceAdd, Nat.zero_add] at *
  all_goals try exact HoldEq.intro rfl
  all_goals rfl
theorem FnOk.res {P : Program} {f : FuncId} {args : List AV} {p q : Option Prop} {u u' : AV} (h : FnOk P f args (p, q, u)) (hu : ∀ (σ : Sig) (v : Value), VRep σ [] u v → VRep σ [] u' v) : FnOk P f args (p, q, u') :=
  fun σ vals w h1 h2 => ⟨(h σ vals w h1 h2).1, fun hq => ((h σ vals w h1 h2).2 hq).mono fun _ _ ⟨v, σ', e1, e2, e3, e4, e5, e6⟩ => ⟨v, σ', e1, e2, e3, e4, hu σ' v e5, e6⟩⟩
/-- No slice is the empty one. -/
theorem bad_rep {σ : Sig} {e : Int} {v : Value} (h : VRep σ [] (.tup [.agg [.int .i64 0, .val (.slice none 0 0)], .s (.sl i64E []), .s (.int .i64 e)]) v) : VRep σ [] (openV ((0, []), [], e)) v := by
  obtain ⟨vs, e1, h⟩ := h
  match vs, h with
  | [a, b, c], ⟨⟨ds, ea, h1⟩, h2⟩ =>
    refine ⟨_, e1, ⟨ds, ea, ?_⟩, h2⟩
    match ds, h1 with
    | [d1, d2], ⟨k1, k2, k3⟩ =>
      obtain ⟨k2, _⟩ := k2
      subst k2
      exact ⟨k1, zeroVals_rep (.sl .arr3), k3⟩
theorem openW_rep {σ : Sig} {r : (Int × List P3) × List Int × Int} (hr : r.2.2 ≠ 0 → r = ((0, []), [], r.2.2)) {v : Value} (h : VRep σ [] (openW r) v) : VRep σ [] (openV r) v := by
  unfold openW at h
  split at h
  · exact h
  · rename_i hne
    rw [hr hne]
    exact bad_rep h
theorem open_err (x : tabE.T) (ap : List Int) (h : (openR x ap).2.2 ≠ 0) : openR x ap = ((0, []), [], (openR x ap).2.2) := by
  unfold openR at h ⊢
  split
  · rfl
  · rename_i hc
    rw [if_neg hc] at h
    split at h
    · exact absurd rfl h
    · rename_i h2; rw [if_neg h2]
def opnC : List AV → Option Res := con2 soupE (.sl i64E) (fun s ap => some (none, none, openV (openO s ap)))
theorem opnRow : FnRow Try.prog 37 opnC := ⟨con2_ok fun s ap r h => by
  cases h
  unfold openO
  cases e : newO s with
  | none => exact FnOk.res (fn_by (rulesF (fn := [(28, newNC), (71, starCkC), (72, isC)]) (fr := []) ⟨newNRow, starCkRow, isRow, trivial⟩ trivial) Try.func37 (by kernel_rfl) fun _ _ => open0_vc s.1 s.2 ap e) fun σ v h => bad_rep h
  | some x => exact FnOk.res (fn_by (rulesF (fn := [(28, newXC x), (71, starCkC), (72, isC)]) (fr := []) ⟨(newXRow x), starCkRow, isRow, trivial⟩ trivial) Try.func37 (by kernel_rfl) fun _ _ => open_vc s.1 s.2 ap x e) fun σ v h => openW_rep (open_err x ap) h, _, Try.func37, by kernel_rfl, by kernel_rfl⟩
end S1

open Go Go.Vm Go.Proofs
namespace S1
set_option maxRecDepth 100000

/-! star.Fill, in plain words -/
def apx (n : Int) (k : Nat) : List Int := (List.range k).map fun (j : Nat) => n + (j : Int)
theorem apx_succ (n : Int) (k : Nat) : apx n (k + 1) = apx n k ++ [n + (k : Int)] := by
  unfold apx; rw [List.range_succ, List.map_append]; rfl
theorem apx_len (n : Int) (k : Nat) : (apx n k).length = k := by unfold apx; rw [List.length_map, List.length_range]
theorem apx_mem {n : Int} {k : Nat} {v : Int} : v ∈ apx n k ↔ n ≤ v ∧ v < n + k := by
  unfold apx
  rw [List.mem_map]
  constructor
  · rintro ⟨j, hj, rfl⟩
    have := List.mem_range.1 hj
    omega
  · intro h
    exact ⟨(v - n).toNat, List.mem_range.2 (by omega), by omega⟩
theorem apx_nodup (n : Int) (k : Nat) : (apx n k).Nodup := by
  unfold apx
  refine List.Pairwise.map _ (fun i j h => ?_) (List.nodup_range (n := k))
  omega
def filT (x : tabE.T) (k : Nat) : List P3 := x.1.2 ++ fillS (vN x) (loopsR x) k
def fillR (x : tabE.T) : (Int × List P3) × List Int × Int :=
  if vN x + (loopsR x).length > 4096 ∨ ((filT x (loopsR x).length).length : Int) > 8192 then ((0, []), [], 7) else ((vN x + (loopsR x).length, filT x (loopsR x).length), apx (vN x) (loopsR x).length, 0)
def fillO (s : Int × List P3) : (Int × List P3) × List Int × Int := match newO s with | some x => fillR x | none => ((0, []), [], 11)
theorem starT_len (L : List Int) (z : Int) (m : Nat) : (starT L z m).length = m := by unfold starT; rw [List.length_map, List.length_range]
theorem loops_len (x : tabE.T) : ∀ k, ∀ L ∈ (lpS x k).2, L.length ≤ 10001
  | 0 => fun L h => (by cases h)
  | k + 1 => fun L h => by
    have ih := loops_len x k
    cases hh : had (lpS x k).1 k with
    | true => rw [lpS_t hh] at h; exact ih L h
    | false =>
      rw [lpS_f hh] at h
      have h : L ∈ (if (walkL (some x) k).length > 0 then (lpS x k).2 ++ [walkL (some x) k] else (lpS x k).2) := h
      split at h
      · rcases List.mem_append.1 h with h | h
        · exact ih L h
        · rw [List.mem_singleton] at h; rw [h]; exact walkL_len
      · exact ih L h
theorem loop_at_len (x : tabE.T) (k : Nat) : ((loopsR x).getD k []).length ≤ 10001 := by
  by_cases h : k < (loopsR x).length
  · exact loops_len x _ _ (getDn_mem h)
  · rw [List.getD_eq_getElem?_getD, List.getElem?_eq_none (by omega)]; exact Nat.zero_le _
theorem filT_succ (x : tabE.T) (k : Nat) : filT x (k + 1) = filT x k ++ starT ((loopsR x).getD k []) (vN x + (k : Int)) ((loopsR x).getD k []).length := by
  unfold filT; rw [fillS_succ, List.append_assoc]
theorem filT_len (x : tabE.T) : ∀ k, (filT x k).length ≤ x.1.2.length + 10001 * k
  | 0 => by unfold filT; rw [List.length_append]; simp [fillS]
  | k + 1 => by
    have ih := filT_len x k
    have h2 := loop_at_len x k
    rw [filT_succ, List.length_append, starT_len]
    omega
theorem nodup_in {l : List Int} {n : Int} (hn : l.Nodup) (h : ∀ v ∈ l, 0 ≤ v ∧ v < n) : l.length ≤ n.toNat := by
  have := len_sub l ((List.range n.toNat).map fun v => ((v : Nat) : Int)) hn fun v hv => List.mem_map.2 ⟨v.toNat, List.mem_range.2 (by have := h v hv; omega), by have := h v hv; omega⟩
  rwa [List.length_map, List.length_range] at this
theorem new_of {s : Int × List P3} (h : Surf s) : newO s = some (newT s) ∧ Full (newT s) ∧ (newT s).1 = s := by
  have hc := (surf_iff s).2 h
  refine ⟨?_, full_new hc, rfl⟩
  unfold newO; rw [if_pos hc]
structure Filled (x x' : tabE.T) : Prop where
  one : x'.1 = (vN x + (loopsR x).length, filT x (loopsR x).length)
  eq : fillR x = (x'.1, apx (vN x) (loopsR x).length, 0)
  new : newO x'.1 = some x'
  full : Full x'
  surf : Surf x'.1
  nob : ∀ w u, ¬ bE x' w u
  few : (loopsR x).length ≤ (vN x).toNat
theorem filled {x : tabE.T} (g : Full x) (hs : Surf x.1) (h1 : x.1.2.length ≤ 40) (h2 : vN x ≤ 120) : ∃ x', Filled x x' := by
  have hl := loops_lps g
  have hn := fitN g
  have hk : (loopsR x).length ≤ (vN x).toNat := lpS_len x _
  have hf : (fillS (vN x) (loopsR x) (loopsR x).length).length ≤ (vN x).toNat := by
    have e := congrArg List.length (fillS_fst (vN x) (loopsR x))
    rw [List.length_map] at e
    rw [e]
    exact nodup_in hl.nd fun v hv => by
      obtain ⟨w, hw⟩ := (loops_mem g).1 hv
      exact (bE_inN g hw).2.1
  have hlen : (filT x (loopsR x).length).length ≤ 160 := by
    unfold filT; rw [List.length_append]; omega
  have hS := fill_surf hl g hs (by omega) (by show (filT x (loopsR x).length).length ≤ 8192; omega)
  obtain ⟨k1, k2, k3⟩ := new_of hS
  refine ⟨newT _, k3, ?_, by rw [k3]; exact k1, k2, by rw [k3]; exact hS, fun w u hb => ?_, hk⟩
  · unfold fillR
    rw [if_neg (by omega), k3]; rfl
  · obtain ⟨e1, e2⟩ := (bE_iff k2).1 hb
    rw [k3] at e1 e2
    exact e2 (fill_closed hl g e1)
/-- Of what has no border nothing is filled. -/
theorem loops_none {x : tabE.T} (g : Full x) (h : ∀ w u, ¬ bE x w u) : loopsR x = [] := by
  have hl := loops_lps g
  refine List.eq_nil_iff_forall_not_mem.2 fun L hL => ?_
  have ok := hl.ok L hL
  obtain ⟨w, hw⟩ := ok.bord (getD_mem (l := L) (j := 0) ok.ne)
  exact h _ _ hw
theorem fill_none {x : tabE.T} (g : Full x) (h : ∀ w u, ¬ bE x w u) : fillR x = (x.1, [], 0) := by
  have hn := fitN g
  have e : filT x 0 = x.1.2 := List.append_nil _
  have hl : x.1.2.length ≤ 8192 := g.fit.2.2.1
  unfold fillR
  rw [loops_none g h]
  show (if vN x + ((0 : Nat) : Int) > 4096 ∨ ((filT x 0).length : Int) > 8192 then _ else ((vN x + ((0 : Nat) : Int), filT x 0), apx (vN x) 0, 0)) = _
  rw [e, if_neg (by omega)]
  have e0 : vN x + ((0 : Nat) : Int) = vN x := by omega
  rw [e0]; rfl
/-- What was filled is opened again. -/
theorem open_filled {x x' : tabE.T} (g : Full x) (hs : Surf x.1) (h : Filled x x') : openR x' (apx (vN x) (loopsR x).length) = (x.1, (List.range (vN x).toNat).map (fun v => ((v : Nat) : Int)), 0) := by
  have hl := loops_lps g
  have hn := fitN g
  have e1 : vN x' = vN x + ((loopsR x).length : Int) := congrArg Prod.fst h.one
  have e2 : x'.1.2 = filT x (loopsR x).length := congrArg Prod.snd h.one
  have hck : checkR x' (apx (vN x) (loopsR x).length) = 0 := by
    refine checkR_0 (fun a ha => ?_) (apx_nodup _ _) (fun a ha => ?_) fun a ha v hv hvm => ?_
    · have := apx_mem.1 ha
      show 0 ≤ a ∧ a < vN x'
      omega
    · have := apx_mem.1 ha
      refine (inner_iff h.full).2 ⟨?_, fun ⟨w, hw⟩ => h.nob _ _ hw⟩
      show 0 ≤ a ∧ a < vN x'
      omega
    · have ka := apx_mem.1 ha
      have kv := apx_mem.1 hvm
      have hnear := h.full.link_iff.1 hv
      obtain ⟨d, d1, d2⟩ := (near_iff h.full).1 hnear
      have he : ∃ b c, eE (filT x (loopsR x).length) b c ∧ vN x ≤ b ∧ vN x ≤ c := by
        rw [← e2]
        rcases d2 with d2 | d2
        · exact ⟨a, v, eE_iff.2 ⟨d, d1, d2⟩, ka.1, kv.1⟩
        · exact ⟨v, a, eE_iff.2 ⟨d, d1, d2⟩, kv.1, ka.1⟩
      obtain ⟨b, c, hbc, hb, hc⟩ := he
      rcases eE_app.1 hbc with ⟨i, hi, hd⟩ | hn2
      · have k1 : 0 ≤ b ∧ b < vN x := fit_hasV g.fit hi (dE_hasV hd).1
        omega
      · obtain ⟨t, ht, hd⟩ := eE_mem.1 hn2
        have bd := fill_bounds hl g ht
        rcases dE_st hd with ⟨ea, eb⟩ | ⟨ea, eb⟩ | ⟨ea, eb⟩ <;> omega
  have hok := open_keep (n := vN x) (k := (loopsR x).length) (l := x.1.2) (S := fillS (vN x) (loopsR x) (loopsR x).length) (ap := apx (vN x) (loopsR x).length) hn.1
    (fun i hi => by
      have : (0 ≤ (tg x.1.2 i).1 ∧ (tg x.1.2 i).1 < vN x) ∧ (0 ≤ (tg x.1.2 i).2.1 ∧ (tg x.1.2 i).2.1 < vN x) ∧ (0 ≤ (tg x.1.2 i).2.2 ∧ (tg x.1.2 i).2.2 < vN x) := triIn_spec (g.fit.2.2.2 i hi)
      exact this)
    (fun t ht => by
      have := fill_bounds hl g ht
      exact apx_mem.2 (by omega))
    (fun v => apx_mem)
  have hx1 : x'.1 = (vN x + ((loopsR x).length : Int), x.1.2 ++ fillS (vN x) (loopsR x) (loopsR x).length) := h.one
  unfold openR
  rw [if_neg (by rw [hck]; simp), hx1, hok.1]
  have hc : (chkR (vN x, x.1.2)).1 = 0 := (surf_iff x.1).2 hs
  rw [if_pos hc]
  exact congrArg (fun z => ((vN x, x.1.2), z, (0 : Int))) hok.2
/-- Nothing is opened: it is what it was. -/
theorem open_nil {x : tabE.T} (g : Full x) (hs : Surf x.1) : openR x [] = (x.1, (List.range (vN x).toNat).map (fun v => ((v : Nat) : Int)), 0) := by
  have hn := fitN g
  have hck : checkR x [] = 0 := checkR_0 (fun a ha => (by cases ha)) List.nodup_nil (fun a ha => (by cases ha)) fun a ha => (by cases ha)
  have hok := open_keep (n := vN x) (k := 0) (l := x.1.2) (S := []) (ap := []) hn.1
    (fun i hi => by
      have : (0 ≤ (tg x.1.2 i).1 ∧ (tg x.1.2 i).1 < vN x) ∧ (0 ≤ (tg x.1.2 i).2.1 ∧ (tg x.1.2 i).2.1 < vN x) ∧ (0 ≤ (tg x.1.2 i).2.2 ∧ (tg x.1.2 i).2.2 < vN x) := triIn_spec (g.fit.2.2.2 i hi)
      exact this)
    (fun t ht => by cases ht) (fun v => ⟨fun h => (by cases h), fun h => by omega⟩)
  have e0 : vN x + ((0 : Nat) : Int) = vN x := by omega
  rw [List.append_nil, e0] at hok
  unfold openR
  rw [if_neg (by rw [hck]; simp)]
  have e3 : openS x.1 [] = (vN x, x.1.2) := hok.1
  rw [e3]
  have hc : (chkR (vN x, x.1.2)).1 = 0 := (surf_iff x.1).2 hs
  rw [if_pos hc]
  exact congrArg (fun z => ((vN x, x.1.2), z, (0 : Int))) hok.2
/-! round an apex -/
theorem aroundF_nodup {x : tabE.T} (g : Good x) {b : Int} : ∀ n k, k + n = 30000 → FInv (tAfter x) b k → (aroundF x b n (iter (tAfter x) b k)).Nodup ∧ ∀ y ∈ aroundF x b n (iter (tAfter x) b k), ∃ m, k ≤ m ∧ y = iter (tAfter x) b m ∧ FInv (tAfter x) b m
  | 0, k, e, h => by have := fin_after g h; omega
  | n + 1, k, e, h => by
    unfold aroundF
    by_cases h1 : tAfter x (iter (tAfter x) b k) < 0
    · rw [if_pos h1]
      exact ⟨List.nodup_cons.2 ⟨by simp, List.nodup_nil⟩, fun y hy => ⟨k, Nat.le_refl _, List.mem_singleton.1 hy, h⟩⟩
    · rw [if_neg h1]
      by_cases h2 : tAfter x (iter (tAfter x) b k) = b
      · rw [if_pos h2]
        exact ⟨List.nodup_cons.2 ⟨by simp, List.nodup_nil⟩, fun y hy => ⟨k, Nat.le_refl _, List.mem_singleton.1 hy, h⟩⟩
      · rw [if_neg h2]
        obtain ⟨i1, i2⟩ := aroundF_nodup g n (k + 1) (by omega) (h.succ h1 h2)
        refine ⟨List.nodup_cons.2 ⟨fun hy => ?_, i1⟩, fun y hy => ?_⟩
        · obtain ⟨m, m1, m2, m3⟩ := i2 _ hy
          have := iter_back (f := tAfter x) g.after_inj (c := b) (i := k) (j := m - k) (fun q q1 q2 => (h q q1 q2).1) (by rw [m2]; congr 1; omega)
          exact (m3 (m - k) (by omega) (by omega)).2 this
        · rcases List.mem_cons.1 hy with e | hy
          · exact ⟨k, Nat.le_refl _, e, h⟩
          · obtain ⟨m, m1, m2, m3⟩ := i2 y hy
            exact ⟨m, by omega, m2, m3⟩
theorem around_nodup {x : tabE.T} (g : Full x) {v : Int} (h0 : 0 ≤ v) (h1 : v < vN x) : (aroundL (some x) v).Nodup := by
  obtain ⟨b, _, eL, _⟩ := g.around h0 h1
  rw [eL]
  exact (aroundF_nodup g.toGood 30000 0 rfl (fun j a b => by omega)).1
theorem link_nodup {x : tabE.T} (g : Full x) {v : Int} (hi : innerR x v = true) : (linkR x v).Nodup := by
  obtain ⟨⟨h0, h1⟩, hb⟩ := (inner_iff g).1 hi
  obtain ⟨b, _, eL, hb1, hb2, hb3, hall, hcl, _⟩ := g.around h0 h1
  have hno : ∀ c ∈ aroundL (some x) v, ¬ tAfter x c < 0 := fun c hc ha => by
    obtain ⟨k1, k2⟩ := hall c hc
    have := last_bE g k1 ha
    rw [k2] at this
    exact hb ⟨_, this⟩
  have hpos : (aroundL (some x) v).length ≥ 1 := List.length_pos_of_mem hb3
  have hlast : lkLast (aroundL (some x) v) (aroundL (some x) v).length = (aroundL (some x) v).getD ((aroundL (some x) v).length - 1) 0 := by
    unfold lkLast; rw [if_neg (by omega)]
  have hin : (aroundL (some x) v).getD ((aroundL (some x) v).length - 1) 0 ∈ aroundL (some x) v := getD_mem (by omega)
  unfold linkR
  rw [if_neg (fun e => hno _ (by rw [hlast] at e; exact hin) (by rw [hlast] at e; exact e.2)), List.append_nil]
  unfold lkO
  rw [List.take_length]
  refine List.Pairwise.map _ (fun c d h => ?_) ((around_nodup g h0 h1).imp_of_mem (S := fun c d => c ≠ d ∧ c ∈ aroundL (some x) v ∧ d ∈ aroundL (some x) v) fun hc hd hn => ⟨hn, hc, hd⟩)
  obtain ⟨hn, hc, hd⟩ := h
  intro e
  exact hn (g.toGood.same (hall c hc).1 (hall d hd).1 ((hall c hc).2.trans (hall d hd).2.symm) e)
theorem ring_mem {x x' : tabE.T} (g : Full x) (h : Filled x x') {j : Nat} (hj : j < (loopsR x).length) {v : Int} : v ∈ linkR x' (vN x + (j : Int)) ↔ v ∈ (loopsR x).getD j [] := by
  have hl := loops_lps g
  have hn := fitN g
  have e2 : x'.1.2 = filT x (loopsR x).length := congrArg Prod.snd h.one
  have key : ∀ {b c : Int}, eE (filT x (loopsR x).length) b c → (b = vN x + (j : Int) → c ∈ (loopsR x).getD j []) ∧ (c = vN x + (j : Int) → b ∈ (loopsR x).getD j []) := fun {b c} hbc => by
    rcases eE_app.1 hbc with ⟨i, hi, hd⟩ | hn2
    · have k1 : 0 ≤ b ∧ b < vN x := fit_hasV g.fit hi (dE_hasV hd).1
      have k2 : 0 ≤ c ∧ c < vN x := fit_hasV g.fit hi (dE_hasV hd).2
      exact ⟨fun e => by omega, fun e => by omega⟩
    · obtain ⟨t, ht, hd⟩ := eE_mem.1 hn2
      have bd := fill_bounds hl g ht
      obtain ⟨j', st⟩ := stT_of hl ht
      have hz := st.z
      have same : t.2.2 = vN x + (j : Int) → j' = j := fun e => by omega
      rcases dE_st hd with ⟨ea, eb⟩ | ⟨ea, eb⟩ | ⟨ea, eb⟩
      · exact ⟨fun e => by omega, fun e => by omega⟩
      · refine ⟨fun e => by omega, fun e => ?_⟩
        have := same (by omega)
        subst this
        rw [ea]; exact st.m2
      · refine ⟨fun e => ?_, fun e => by omega⟩
        have := same (by omega)
        subst this
        rw [eb]; exact st.m1
  rw [h.full.link_iff, near_iff h.full]
  constructor
  · rintro ⟨d, d1, d2 | d2⟩
    · have := eE_iff.2 ⟨d, d1, d2⟩
      rw [e2] at this
      exact (key this).1 rfl
    · have := eE_iff.2 ⟨d, d1, d2⟩
      rw [e2] at this
      exact (key this).2 rfl
  · intro hv
    obtain ⟨i, hi, ei⟩ := mem_getD hv
    have hm : ((loopsR x).getD j []).getD i 0 = v := ei
    have : eE x'.1.2 (vN x + (j : Int)) v := by
      rw [e2]
      refine eE_app.2 (.inr (eE_mem.2 ⟨_, fillS_mem.2 ⟨j, i, hj, hi, rfl⟩, .inr (.inr ⟨rfl, hm⟩)⟩))
    obtain ⟨d, d1, d2⟩ := eE_iff.1 this
    exact ⟨d, d1, .inl d2⟩
theorem apx_in {x x' : tabE.T} (g : Full x) (h : Filled x x') {j : Nat} (hj : j < (loopsR x).length) : innerR x' (vN x + (j : Int)) = true := by
  have hn := fitN g
  have e1 : vN x' = vN x + ((loopsR x).length : Int) := congrArg Prod.fst h.one
  refine (inner_iff h.full).2 ⟨?_, fun ⟨w, hw⟩ => h.nob _ _ hw⟩
  show 0 ≤ _ ∧ _ < vN x'
  omega
theorem ring_len {x x' : tabE.T} (g : Full x) (h : Filled x x') {j : Nat} (hj : j < (loopsR x).length) : (linkR x' (vN x + (j : Int))).length = ((loopsR x).getD j []).length := by
  have h1 := link_nodup h.full (apx_in g h hj)
  have h2 := ((loops_lps g).ok _ (getDn_mem hj)).nd
  have k1 := len_sub _ _ h1 fun v hv => (ring_mem g h hj).1 hv
  have k2 := len_sub _ _ h2 fun v hv => (ring_mem g h hj).2 hv
  omega
end S1

open Go Go.Vm Go.Proofs
namespace S1
set_option maxRecDepth 100000

/-! star.Fill -/
theorem cloneF_vc {fn} (l : List P3) (hb : l.length ≤ 8192) : afunF ⟨tyL, fn, []⟩ Try.f67 [(ETy.sl .arr3).av l] (fun v obs => v = .s (.own 0 0 l.length) ∧ obs = [.row .arr3 72 l]) := by
  repeat' (conv => whnf
           first | done | refine Need.intro (by first | rfl | omega | (simp only [i64ok] at *; omega)) ?_ | refine Need.intro (Hold.out ?_) ?_ | refine Give.intro fun _ => ?_ | refine Both.intro ?_ ?_ | refine BIf.and ?_ | refine BIf.or ?_ | refine BIf.eqi (fun _ => ?_) (fun _ => ?_) | refine BIf.nei (fun _ => ?_) (fun _ => ?_) | refine BIf.dec (fun _ => ?_) (fun _ => ?_) | refine BIf.nt ?_ | refine BIf.intro (fun _ => ?_) (fun _ => ?_) | refine And.intro rfl ?_ | refine And.intro (HoldEq.out ?_) ?_ | refine And.intro (HoldOb.out ?_) ?_ | exact True.intro | refine HoldEq.out ?_ | refine HoldObs.out ?_ | refine KCheck.intro (by kernel_rfl) ?_ | refine HoldOr.out ?_)
  all_goals try first | refine HoldEq.int ?_ | refine HoldEq.bool ?_ | refine HoldEq.sl ?_ | refine HoldEq.own ?_ | refine HoldEq.ownS ?_ ?_ | refine HoldOb.row ?_ | refine HoldOb.map ?_ | refine HoldOb.gmap ?_ | refine HoldOb.grow ?_ | refine HoldObs.row ?_
  all_goals try simp only [take_one, take_one', set_one, take_all, List.length_singleton, rec_self, Int.toNat_natCast, pair_eta, ETy.dflt, List.getD_cons_zero, List.getD_cons_succ, Int.reduceToNat, Int.reduceAdd, Int.reduceSub, Int.reduceNeg, Nat.reduceAdd, Nat.zero_add] at *
  · rename_i h; rw [h]; rfl
  · rename_i h; exact h.symm
  · rfl
def cloneFC : List AV → Option ResF := con1 (.sl .arr3) (fun l => some (none, some (l.length ≤ 8192), .s (.own 0 0 l.length), [.row .arr3 72 l]))
theorem cloneFRow : FnRowF Try.prog 67 cloneFC := ⟨con1_okF fun l r h => by cases h; exact fn_byF (rulesF (fn := []) (fr := []) trivial trivial) Try.func67 (by kernel_rfl) fun _ h => cloneF_vc l h, _, Try.func67, by kernel_rfl, by kernel_rfl⟩
def loopFi (x : tabE.T) : Spec Nat where
  inv k := k ≤ (loopsR x).length
  live k := [(30, .s (.int .i64 k)), (8, .s (.own 6 0 (apx (vN x) k).length))]
  keep := [1, 2, 3, 4, 5, 6, 7, 28, 29]
  heap k := [(5, .flat 24 [.int .i64 (vN x + k), .own 4 0 (filT x k).length]), (4, .row .arr3 72 (filT x k)), (6, .row i64E 3 (apx (vN x) k))]
  keepH := [0, 1, 2, 3]
  mu k := (loopsR x).length - k
def loopFj (x : tabE.T) (k : Nat) : Spec Nat where
  inv i := i ≤ ((loopsR x).getD k []).length
  live i := [(46, .s (.int .i64 i))]
  keep := [1, 2, 3, 4, 5, 6, 7, 8, 10, 11, 28, 29, 30, 44, 45]
  heap i := [(5, .flat 24 [.int .i64 (vN x + k + 1), .own 4 0 (filT x k ++ starT ((loopsR x).getD k []) (vN x + k) i).length]), (4, .row .arr3 72 (filT x k ++ starT ((loopsR x).getD k []) (vN x + k) i))]
  keepH := [0, 1, 2, 3, 6]
  mu i := ((loopsR x).getD k []).length - i
theorem loops_few (x : tabE.T) : (loopsR x).length ≤ (vN x).toNat := lpS_len x _
theorem loopsO_some (x : tabE.T) : loopsO (some x) = loopsR x := rfl
theorem tmod_nat {i m : Nat} : ((i : Int) + 1).tmod (m : Int) = (((i + 1) % m : Nat) : Int) := by
  rw [show (i : Int) + 1 = ((i + 1 : Nat) : Int) by omega]; exact (Int.ofNat_tmod _ _).symm
theorem fillW_bad {x : tabE.T} (h : vN x + (loopsR x).length > 4096 ∨ ((filT x (loopsR x).length).length : Int) > 8192) : openW (fillR x) = .tup [.agg [.int .i64 0, .val (.slice none 0 0)], .s (.sl i64E []), .s (.int .i64 7)] := by
  have e : fillR x = ((0, []), [], 7) := by unfold fillR; rw [if_pos h]
  rw [e]; unfold openW; rw [if_neg (by show ¬ (7 : Int) = 0; omega)]
theorem fillW_ok {x : tabE.T} (h : ¬ (vN x + (loopsR x).length > 4096 ∨ ((filT x (loopsR x).length).length : Int) > 8192)) : openW (fillR x) = .tup [soupE.av (vN x + (loopsR x).length, filT x (loopsR x).length), .s (.sl i64E (apx (vN x) (loopsR x).length)), .s (.int .i64 0)] := by
  have e : fillR x = ((vN x + (loopsR x).length, filT x (loopsR x).length), apx (vN x) (loopsR x).length, 0) := by unfold fillR; rw [if_neg h]
  rw [e]; unfold openW; rw [if_pos rfl]; rfl
attribute [local irreducible] loopsR
set_option maxHeartbeats 4000000 in
theorem fill_vc (n : Int) (l : List P3) (x : tabE.T) (hx : newO (n, l) = some x) : afun ⟨tyL, [(28, newXC x), (40, loopsC)], [(67, .res cloneFC)]⟩ Try.f33 [soupE.av (n, l)] (fun r => r = openW (fillR x)) := by
  obtain ⟨hx1, g, hs⟩ := new_full hx
  have e1 : x.1 = (n, l) := by rw [hx1]; rfl
  have en : vN x = n := congrArg Prod.fst e1
  have el : x.1.2 = l := congrArg Prod.snd e1
  have hn : 0 ≤ n ∧ n ≤ 4096 ∧ l.length ≤ 8192 := ⟨hs.fit.1, hs.fit.2.1, hs.fit.2.2.1⟩
  have hlk : (loopsR x).length ≤ n.toNat := by rw [← en]; exact loops_few x
  have hLo : loopsO (some x) = loopsR x := loopsO_some x
  repeat' (conv => whnf
           first | done | refine Need.intro (by first | rfl | omega | (simp only [i64ok] at *; omega)) ?_ | refine Need.intro (Hold.out ?_) ?_ | refine Give.intro fun _ => ?_ | refine Both.intro ?_ ?_ | refine BIf.and ?_ | refine BIf.or ?_ | refine BIf.eqi (fun _ => ?_) (fun _ => ?_) | refine BIf.nei (fun _ => ?_) (fun _ => ?_) | refine BIf.dec (fun _ => ?_) (fun _ => ?_) | refine BIf.nt ?_ | refine BIf.intro (fun _ => ?_) (fun _ => ?_) | ((first | (with_reducible show Or (∃ n, rounds (acode _ (Code.seq (Code.region 7 _ _) _)) _ n _) _) | (with_reducible show Or (∃ n, rounds (acode _ (Code.seq (Code.seq (Code.region 7 _ _) _) _)) _ n _) _) | (with_reducible show Or (∃ n, rounds (acode _ (Code.seq (Code.seq (Code.seq (Code.region 7 _ _) _) _) _)) _ n _) _) | (with_reducible show Or (∃ n, rounds (acode _ (Code.seq (Code.seq (Code.seq (Code.seq (Code.region 7 _ _) _) _) _) _)) _ n _) _) | (with_reducible show Or (∃ n, rounds (acode _ (Code.block _ (Code.seq (Code.region 7 _ _) _))) _ n _) _) | (with_reducible show Or (∃ n, rounds (acode _ (Code.block _ (Code.seq (Code.seq (Code.region 7 _ _) _) _))) _ n _) _) | (with_reducible show Or (∃ n, rounds (acode _ (Code.block _ (Code.seq (Code.seq (Code.seq (Code.region 7 _ _) _) _) _))) _ n _) _) | (with_reducible show Or (∃ n, rounds (acode _ (Code.block _ (Code.seq (Code.seq (Code.seq (Code.seq (Code.region 7 _ _) _) _) _) _))) _ n _) _)); refine Or.inr (Exists.intro (Nat) (Exists.intro (loopFi x) (And.intro (Exists.intro (0) (And.intro (Hold.out ?_) (And.intro ?_ (And.intro ?_ rfl)))) (fun k hk => ?_))))) | ((with_reducible show (∃ y, And (Spec.inv (loopFi _) y) _)); refine Exists.intro (k + 1) (And.intro (Hold.out ?_) (And.intro (And.intro ?_ (And.intro ?_ rfl)) (Hold.out ?_)))) | ((first | (with_reducible show Or (∃ n, rounds (acode _ (Code.seq (Code.region 13 _ _) _)) _ n _) _) | (with_reducible show Or (∃ n, rounds (acode _ (Code.seq (Code.seq (Code.region 13 _ _) _) _)) _ n _) _) | (with_reducible show Or (∃ n, rounds (acode _ (Code.seq (Code.seq (Code.seq (Code.region 13 _ _) _) _) _)) _ n _) _) | (with_reducible show Or (∃ n, rounds (acode _ (Code.seq (Code.seq (Code.seq (Code.seq (Code.region 13 _ _) _) _) _) _)) _ n _) _) | (with_reducible show Or (∃ n, rounds (acode _ (Code.block _ (Code.seq (Code.region 13 _ _) _))) _ n _) _) | (with_reducible show Or (∃ n, rounds (acode _ (Code.block _ (Code.seq (Code.seq (Code.region 13 _ _) _) _))) _ n _) _) | (with_reducible show Or (∃ n, rounds (acode _ (Code.block _ (Code.seq (Code.seq (Code.seq (Code.region 13 _ _) _) _) _))) _ n _) _) | (with_reducible show Or (∃ n, rounds (acode _ (Code.block _ (Code.seq (Code.seq (Code.seq (Code.seq (Code.region 13 _ _) _) _) _) _))) _ n _) _)); refine Or.inr (Exists.intro (Nat) (Exists.intro (loopFj x k) (And.intro (Exists.intro (0) (And.intro (Hold.out ?_) (And.intro ?_ (And.intro ?_ rfl)))) (fun i hi => ?_))))) | ((with_reducible show (∃ y, And (Spec.inv (loopFj _ _) y) _)); refine Exists.intro (i + 1) (And.intro (Hold.out ?_) (And.intro (And.intro ?_ (And.intro ?_ rfl)) (Hold.out ?_)))) | refine And.intro rfl ?_ | refine And.intro (HoldEq.out ?_) ?_ | refine And.intro (HoldOb.out ?_) ?_ | exact True.intro | refine HoldEq.out ?_ | refine HoldObs.out ?_ | refine KCheck.intro (by kernel_rfl) ?_ | refine HoldOr.out ?_)
  all_goals try first | refine HoldEq.int ?_ | refine HoldEq.bool ?_ | refine HoldEq.sl ?_ | refine HoldEq.own ?_ | refine HoldEq.ownS ?_ ?_ | refine HoldOb.row ?_ | refine HoldOb.map ?_ | refine HoldOb.gmap ?_ | refine HoldOb.grow ?_ | refine HoldObs.row ?_
  all_goals try simp only [take_one, take_one', set_one, take_all, List.length_singleton, rec_self, Int.toNat_natCast, pair_eta, ETy.dflt, List.getD_cons_zero, List.getD_cons_succ, Int.reduceToNat, Int.reduceAdd, Int.reduceSub, Int.reduceNeg, Nat.reduceAdd, Nat.zero_add, loopFi, loopFj, loopsO_some, apx_len] at *
  all_goals try have hfl := filT_len x k
  all_goals try have hla := loop_at_len x k
  all_goals try have hsl := starT_len ((loopsR x).getD k []) (vN x + (k : Int)) i
  all_goals try have hk1 : (k : Int) < (loopsR x).length := by assumption
  all_goals try have hi1 : (i : Int) < ((loopsR x).getD k []).length := by assumption
  all_goals try have hk2 : ¬ (k : Int) < (loopsR x).length := by assumption
  all_goals try have hi2 : ¬ (i : Int) < ((loopsR x).getD k []).length := by assumption
  all_goals have hel : List.length x.1.2 = l.length := by rw [el]
  all_goals try (refine Hold.intro ?_; first | omega | (unfold i64ok; omega) | (rw [List.length_append, hsl]; omega))
  · exact Hold.intro fun y h => by cases h; exact g
  · refine HoldOb.intro ?_
    have e : filT x 0 = x.1.2 := List.append_nil _
    rw [e, el, ← en, show vN x + ((0 : Nat) : Int) = vN x by omega]
  · exact (List.append_nil _).trans el
  · refine HoldOb.intro ?_
    rw [List.length_append, starT_len]; rfl
  · exact List.append_nil _
  · refine Hold.intro ?_
    rw [hLo, tmod_nat]
    have := Nat.mod_lt (i + 1) (y := ((loopsR x).getD k []).length) (by omega)
    omega
  · refine HoldOb.intro ?_
    rw [List.length_append, starT_len, List.length_append, starT_len]; rfl
  · rw [hLo, tmod_nat, Int.toNat_natCast, starT_succ, List.append_assoc]
  · have e : i = ((loopsR x).getD k []).length := by omega
    subst e
    refine HoldOb.intro ?_
    rw [filT_succ, show vN x + ((k + 1 : Nat) : Int) = vN x + (k : Int) + 1 by omega]
  · have e : i = ((loopsR x).getD k []).length := by omega
    subst e
    exact filT_succ x k
  · rw [apx_succ, List.drop_zero, List.take_of_length_le (by rw [apx_len]; omega)]
  all_goals have e : k = (loopsR x).length := by omega
  all_goals subst e
  · rw [fillW_bad (.inl (by assumption))]; exact HoldEq.intro rfl
  · rw [fillW_bad (.inr (by assumption))]; exact HoldEq.intro rfl
  · rw [fillW_ok (by rintro (h | h) <;> contradiction), List.drop_zero, List.take_of_length_le (by rw [apx_len]; omega)]; exact HoldEq.intro rfl
theorem fill0_vc (n : Int) (l : List P3) (hx : newO (n, l) = none) : afun ⟨tyL, [(28, newNC), (40, loopsC)], [(67, .res cloneFC)]⟩ Try.f33 [soupE.av (n, l)] (fun r => r = .tup [.agg [.int .i64 0, .val (.slice none 0 0)], .s (.sl i64E []), .s (.int .i64 11)]) := by
  repeat' (conv => whnf
           first | done | refine Need.intro (by first | rfl | omega | (simp only [i64ok] at *; omega)) ?_ | refine Need.intro (Hold.out ?_) ?_ | refine Give.intro fun _ => ?_ | refine Both.intro ?_ ?_ | refine BIf.and ?_ | refine BIf.or ?_ | refine BIf.eqi (fun _ => ?_) (fun _ => ?_) | refine BIf.nei (fun _ => ?_) (fun _ => ?_) | refine BIf.dec (fun _ => ?_) (fun _ => ?_) | refine BIf.nt ?_ | refine BIf.intro (fun _ => ?_) (fun _ => ?_) | refine And.intro rfl ?_ | refine And.intro (HoldEq.out ?_) ?_ | refine And.intro (HoldOb.out ?_) ?_ | exact True.intro | refine HoldEq.out ?_ | refine HoldObs.out ?_ | refine KCheck.intro (by kernel_rfl) ?_ | refine HoldOr.out ?_)
  all_goals try first | refine HoldEq.int ?_ | refine HoldEq.bool ?_ | refine HoldEq.sl ?_ | refine HoldEq.own ?_ | refine HoldEq.ownS ?_ ?_ | refine HoldOb.row ?_ | refine HoldOb.map ?_ | refine HoldOb.gmap ?_ | refine HoldOb.grow ?_ | refine HoldObs.row ?_
  all_goals try simp only [take_one, take_one', set_one, take_all, List.length_singleton, rec_self, Int.toNat_natCast, pair_eta, ETy.dflt, List.getD_cons_zero, List.getD_cons_succ, Int.reduceToNat, Int.reduceAdd, Int.reduceSub, Int.reduceNeg, Nat.reduceAdd, Nat.zero_add] at *
  all_goals try exact HoldEq.intro rfl
  all_goals rfl
theorem fill_err (x : tabE.T) (h : (fillR x).2.2 ≠ 0) : fillR x = ((0, []), [], (fillR x).2.2) := by
  unfold fillR at h ⊢
  split
  · rfl
  · rename_i hc
    rw [if_neg hc] at h
    exact absurd rfl h
def filC : List AV → Option Res := con1 soupE (fun s => some (none, none, openV (fillO s)))
theorem filRow : FnRow Try.prog 33 filC := ⟨con1_ok fun s r h => by
  cases h
  unfold fillO
  cases e : newO s with
  | none => exact FnOk.res (fn_by (rulesF (fn := [(28, newNC), (40, loopsC)]) (fr := [(67, .res cloneFC)]) ⟨newNRow, loopsRow, trivial⟩ ⟨cloneFRow, trivial⟩) Try.func33 (by kernel_rfl) fun _ _ => fill0_vc s.1 s.2 e) fun σ v h => bad_rep h
  | some x => exact FnOk.res (fn_by (rulesF (fn := [(28, newXC x), (40, loopsC)]) (fr := [(67, .res cloneFC)]) ⟨(newXRow x), loopsRow, trivial⟩ ⟨cloneFRow, trivial⟩) Try.func33 (by kernel_rfl) fun _ _ => fill_vc s.1 s.2 x e) fun σ v h => openW_rep (fill_err x) h, _, Try.func33, by kernel_rfl, by kernel_rfl⟩
end S1
