/- A part of the proofs of the laws of this seat: contracts of functions, each for every input that its text names. -/
import Derived.Test.YtbbpofkacdmjnaaT17toW3
import Derived.Test.YtbbpofkacdmjnaaF3toU1
set_option linter.unusedSimpArgs false
set_option linter.unusedVariables false
set_option maxHeartbeats 2000000
open Go Go.Vm Go.Proofs
namespace S1
set_option maxRecDepth 100000

/-! a free edge is free in plain words -/
theorem next_t {x : tabE.T} {d : Int} (h : tHas x d = true) : (tNext x d / 3).toNat = (d / 3).toNat := by
  rw [tNext_t h]; unfold trn; omega
theorem prev_t {x : tabE.T} {d : Int} (h : tHas x d = true) : (tPrev x d / 3).toNat = (d / 3).toNat := by
  rw [tPrev_t h]; unfold trn; omega
/-- Round an inner vertex, but not across one edge. -/
theorem rot {x : tabE.T} (g : Full x) {c d : Int} (hin : innerR x c = true) {s1 s2 : P3} (h1 : s1 ∈ x.1.2) (h2 : s2 ∈ x.1.2) (e1 : dE s1 d c) (e2 : dE s2 c d) (Q : P3 → Prop)
    (hQ : ∀ s ∈ x.1.2, ∀ r ∈ x.1.2, hasV s c → hasV r c → (∃ w : Int, w ≠ c ∧ w ≠ d ∧ hasV s w ∧ hasV r w) → Q s → Q r) : Q s1 ↔ Q s2 := by
  have hno := ((inner_iff g).1 hin).2
  obtain ⟨i1, hi1, rfl⟩ := mem_tg h1
  obtain ⟨i2, hi2, rfl⟩ := mem_tg h2
  obtain ⟨p1, a1, a2, a3⟩ := dE_cor hi1 e1
  obtain ⟨p2, b1, b2, b3⟩ := dE_cor hi2 e2
  have y1h := (hasNP a1).2
  have y2h := (hasNP b1).1
  have y1v : tVert x (tPrev x p1) = c := congrArg Prod.snd a2
  have y1p : tVert x (tPrev x (tPrev x p1)) = d := by rw [(np a1).2.2.2]; exact congrArg Prod.fst a2
  have y2v : tVert x (tNext x p2) = c := congrArg Prod.fst b2
  have y2n : tVert x (tNext x (tNext x p2)) = d := by rw [(np b1).2.2.1]; exact congrArg Prod.snd b2
  have y1t : (tPrev x p1 / 3).toNat = i1 := by rw [prev_t a1, a3]
  have y2t : (tNext x p2 / 3).toNat = i2 := by rw [next_t b1, b3]
  have hy := g.after_is y1h y2h (y2v.trans y1v.symm) (y2n.trans y1p.symm)
  generalize tPrev x p1 = y1 at *
  generalize tNext x p2 = y2 at *
  have aft : ∀ y, tHas x y = true → tVert x y = c → 0 ≤ tAfter x y ∧ tHas x (tAfter x y) = true ∧ tVert x (tAfter x y) = c := fun y k1 k2 => by
    have h0 : 0 ≤ tAfter x y := by
      refine Int.not_lt.1 fun hlt => ?_
      have := last_bE g k1 hlt
      rw [k2] at this
      exact hno ⟨_, this⟩
    exact ⟨h0, (g.toGood.after_has h0).2.1, (g.toGood.after_v h0).1.trans k2⟩
  have zk : ∀ y, tHas x y = true → tVert x y = c → ∀ k, tHas x (iter (tAfter x) y k) = true ∧ tVert x (iter (tAfter x) y k) = c := fun y k1 k2 k => by
    induction k with
    | zero => exact ⟨k1, k2⟩
    | succ k ih => have := aft _ ih.1 ih.2; exact ⟨this.2.1, this.2.2⟩
  have hex : ∃ n, iter (tAfter x) y2 n = y1 := by
    apply Classical.byContradiction
    intro hn
    have : FInv (tAfter x) y1 24577 := fun j j1 j2 => by
      obtain ⟨j, rfl⟩ : ∃ j', j = j' + 1 := ⟨j - 1, by omega⟩
      have k := zk y1 y1h y1v j
      refine ⟨(aft _ k.1 k.2).1, fun e => hn ⟨j, ?_⟩⟩
      rw [← hy]
      have := iter_add (tAfter x) y1 1 j
      have this : iter (tAfter x) (tAfter x y1) j = iter (tAfter x) y1 (1 + j) := this
      rw [this, Nat.add_comm]; exact e
    have := fin_after g.toGood this
    omega
  obtain ⟨n, hn⟩ := hex
  obtain ⟨m, m1, _, m3⟩ := exists_least (P := fun n => iter (tAfter x) y2 n = y1) hn
  have step : ∀ k, k < m → (Q (tg x.1.2 (iter (tAfter x) y2 k / 3).toNat) ↔ Q (tg x.1.2 (iter (tAfter x) y2 (k + 1) / 3).toNat)) := fun k hk => by
    obtain ⟨k1, k2⟩ := zk y2 y2h y2v k
    obtain ⟨l1, l2⟩ := zk y2 y2h y2v (k + 1)
    have ha := (aft _ k1 k2).1
    have hv := (g.toGood.after_v ha).2
    have hv : tVert x (tNext x (iter (tAfter x) y2 (k + 1))) = tVert x (tPrev x (iter (tAfter x) y2 k)) := hv
    have wc : tVert x (tPrev x (iter (tAfter x) y2 k)) ≠ c := fun e => (g.toGood.ne k1).2.1 (k2.trans e.symm)
    have wd : tVert x (tPrev x (iter (tAfter x) y2 k)) ≠ d := fun e => m3 k hk (g.toGood.sameP k1 y1h (k2.trans y1v.symm) (e.trans y1p.symm))
    have t1 := cor_tri k1
    have t2 := cor_tri l1
    have p1 := cor_tri (hasNP k1).2
    have n1 := cor_tri (hasNP l1).1
    rw [prev_t k1] at p1
    rw [next_t l1, hv] at n1
    rw [k2] at t1
    rw [l2] at t2
    exact ⟨hQ _ (tg_mem t1.1) _ (tg_mem t2.1) t1.2 t2.2 ⟨_, wc, wd, p1.2, n1.2⟩, hQ _ (tg_mem t2.1) _ (tg_mem t1.1) t2.2 t1.2 ⟨_, wc, wd, n1.2, p1.2⟩⟩
  have all : ∀ k, k ≤ m → (Q (tg x.1.2 (y2 / 3).toNat) ↔ Q (tg x.1.2 (iter (tAfter x) y2 k / 3).toNat)) := fun k => by
    induction k with
    | zero => exact fun _ => Iff.rfl
    | succ k ih => exact fun hk => (ih (by omega)).trans (step k (by omega))
  have := all m (Nat.le_refl _)
  rw [m1, y1t, y2t] at this
  exact this.symm
theorem four {t : P3} (hd : ¬ dgn t) {a b p q : Int} (h1 : a ≠ b) (h2 : a ≠ p) (h3 : a ≠ q) (h4 : b ≠ p) (h5 : b ≠ q) (h6 : p ≠ q) (k1 : hasV t a) (k2 : hasV t b) (k3 : hasV t p) (k4 : hasV t q) : False := by
  obtain ⟨r, _, _, _, e⟩ := third hd h1 k1 k2
  rcases e p k3 with e1 | e1 | e1
  · exact h2 e1.symm
  · exact h4 e1.symm
  · rcases e q k4 with e2 | e2 | e2
    · exact h3 e2.symm
    · exact h5 e2.symm
    · exact h6 (e1.trans e2.symm)
section
variable {x : tabE.T} {a b : Int}
theorem free_lone (g : Full x) (hs : SurfM (InN x.1.1) x.1.2) (hw : whyR x a b = 0) (hab : a ≠ b) : ∀ t ∈ x.1.2, hasV t a → hasV t b → ∀ v, v ≠ a → v ≠ b → hasV t v → ∃ u ∈ x.1.2, u ≠ t ∧ hasV u v ∧ (hasV u a ∨ hasV u b) := by
  intro t ht ta tb v va vb tv
  apply Classical.byContradiction
  intro hn
  have hno : ∀ u ∈ x.1.2, hasV u v → (hasV u a ∨ hasV u b) → u = t := fun u hu uv uab => Classical.byContradiction fun e => hn ⟨u, hu, e, uv, uab⟩
  obtain ⟨w1, w2, w3⟩ := why_0 hw
  have hd := hs.deg t ht
  -- it stands alone
  have main : ∀ p q : Int, ((p = a ∧ q = b) ∨ (p = b ∧ q = a)) → dE t p q → dE t q v → dE t v p → False := fun p q hpq o1 o2 o3 => by
    have pab : ∀ {u : P3} {w : Int}, (w = p ∨ w = q) → hasV u w → hasV u a ∨ hasV u b := fun {u w} h1 h2 => by
      rcases hpq with ⟨e1, e2⟩ | ⟨e1, e2⟩ <;> rcases h1 with e | e <;> (subst e; subst e1; subst e2; first | exact .inl h2 | exact .inr h2)
    have no1 : ¬ eE x.1.2 v q := fun h => by
      obtain ⟨u, hu, k⟩ := eE_mem.1 h
      have := hno u hu (dE_hasV k).1 (pab (.inr rfl) (dE_hasV k).2)
      rw [this] at k; exact dE_anti hd o2 k
    have no2 : ¬ eE x.1.2 p v := fun h => by
      obtain ⟨u, hu, k⟩ := eE_mem.1 h
      have := hno u hu (dE_hasV k).2 (pab (.inl rfl) (dE_hasV k).1)
      rw [this] at k; exact dE_anti hd o3 k
    have yes : ∀ {u w : Int}, dE t u w → eE x.1.2 u w := fun k => eE_mem.2 ⟨t, ht, k⟩
    have b1 : bE x q v := (bE_iff g).2 ⟨yes o2, no1⟩
    have b2 : bE x v p := (bE_iff g).2 ⟨yes o3, no2⟩
    have ip : innerR x p = false := by
      rw [← Bool.not_eq_true, inner_iff g]; exact fun k => k.2 ⟨_, b2⟩
    have iq : innerR x q = false := by
      rw [← Bool.not_eq_true, inner_iff g]; exact fun k => k.2 (bE_next g b1)
    have no3 : ¬ eE x.1.2 q p := fun h => by
      rcases hpq with ⟨e1, e2⟩ | ⟨e1, e2⟩
      · subst e1; subst e2; exact w2 ⟨face_two g (yes o1) h, ip, iq⟩
      · subst e1; subst e2; exact w2 ⟨face_two g h (yes o1), iq, ip⟩
    obtain ⟨i0, hi0, rfl⟩ := mem_tg ht
    have cnt := shell_cnt g hs (a := a) (hs.ent _ ht a ta) (S := [i0]) (List.nodup_cons.2 ⟨by simp, List.nodup_nil⟩) (by simp) ta (fun i hi => by rw [List.mem_singleton] at hi; subst hi; exact hi0)
      (fun i hi j ha => by
        rw [List.mem_singleton] at hi; subst hi
        exfalso
        obtain ⟨_, hj, u, w, d1, d2⟩ := (adj_iff g).1 ha
        have hwu : eE x.1.2 w u := ⟨j, hj, d2⟩
        have hu := dE_hasV d1
        have neuw := dE_ne hd d1
        have mem : ∀ z, hasV (tg x.1.2 i) z → z = p ∨ z = q ∨ z = v := fun z hz => by
          obtain ⟨r, r1, r2, r3, r4⟩ := third hd (dE_ne hd o1) (dE_hasV o1).1 (dE_hasV o1).2
          have ev : v = r := by
            rcases r4 v tv with e | e | e
            · rcases hpq with ⟨e1, e2⟩ | ⟨e1, e2⟩
              · exact absurd (e.trans e1) va
              · exact absurd (e.trans e1) vb
            · rcases hpq with ⟨e1, e2⟩ | ⟨e1, e2⟩
              · exact absurd (e.trans e2) vb
              · exact absurd (e.trans e2) va
            · exact e
          rw [ev]; exact r4 z hz
        rcases mem u hu.1 with e | e | e <;> rcases mem w hu.2 with e' | e' | e' <;> subst e <;> subst e'
        · exact neuw rfl
        · exact no3 hwu
        · exact dE_anti hd o3 d1
        · exact dE_anti hd o1 d1
        · exact neuw rfl
        · exact no1 hwu
        · exact no2 hwu
        · exact dE_anti hd o2 d1
        · exact neuw rfl)
      (fun i hi => by rw [List.mem_singleton] at hi; subst hi; exact .refl _)
    have : smallR x a = true := by unfold smallR; rw [cnt.1]; rfl
    rw [w3] at this; cases this
  rcases tri_or hab va.symm vb.symm ta tb tv with ⟨o1, o2, o3⟩ | ⟨o1, o2, o3⟩
  · exact main a b (.inl ⟨rfl, rfl⟩) o1 o2 o3
  · exact main b a (.inr ⟨rfl, rfl⟩) o1 o2 o3
theorem free_tetra (g : Full x) (hs : SurfM (InN x.1.1) x.1.2) (hw : whyR x a b = 0) (hab : a ≠ b) : ∀ p q, p ≠ q → p ≠ a → p ≠ b → q ≠ a → q ≠ b → (∃ t ∈ x.1.2, hasV t a ∧ hasV t p ∧ hasV t q) → (∃ t ∈ x.1.2, hasV t b ∧ hasV t p ∧ hasV t q) → (∃ t ∈ x.1.2, hasV t a ∧ hasV t b ∧ hasV t p) → (∃ t ∈ x.1.2, hasV t a ∧ hasV t b ∧ hasV t q) → False := by
  rintro p q pq pa pb qa qb ⟨t1, h1, a1, a2, a3⟩ ⟨t2, h2, b1, b2, b3⟩ ⟨t3, h3, c1, c2, c3⟩ ⟨t4, h4, d1, d2, d3⟩
  obtain ⟨_, _, w3⟩ := why_0 hw
  have no4 : ∀ t ∈ x.1.2, hasV t a → hasV t b → hasV t p → hasV t q → False := fun t ht k1 k2 k3 k4 => four (hs.deg t ht) hab pa.symm qa.symm pb.symm qb.symm pq k1 k2 k3 k4
  have n12 : t1 ≠ t2 := fun e => no4 t1 h1 a1 (by rw [e]; exact b1) a2 a3
  have n13 : t1 ≠ t3 := fun e => no4 t1 h1 a1 (by rw [e]; exact c2) a2 a3
  have n14 : t1 ≠ t4 := fun e => no4 t1 h1 a1 (by rw [e]; exact d2) a2 a3
  have n23 : t2 ≠ t3 := fun e => no4 t2 h2 (by rw [e]; exact c1) b1 b2 b3
  have n24 : t2 ≠ t4 := fun e => no4 t2 h2 (by rw [e]; exact d1) b1 b2 b3
  have n34 : t3 ≠ t4 := fun e => no4 t3 h3 c1 c2 c3 (by rw [e]; exact d3)
  have mem3 : ∀ {t : P3} {u v w z : Int}, t ∈ x.1.2 → u ≠ v → u ≠ w → v ≠ w → hasV t u → hasV t v → hasV t w → hasV t z → z = u ∨ z = v ∨ z = w := fun {t u v w z} ht uv uw vw k1 k2 k3 k4 => by
    obtain ⟨r, r1, r2, r3, r4⟩ := third (hs.deg t ht) uv k1 k2
    have e : w = r := by
      rcases r4 w k3 with e | e | e
      · exact absurd e.symm uw
      · exact absurd e.symm vw
      · exact e
    rw [e]; exact r4 z k4
  let F : P3 → Prop := fun t => t = t1 ∨ t = t2 ∨ t = t3 ∨ t = t4
  -- the other one with an edge
  have oth : ∀ s, F s → ∀ u w, u ≠ w → hasV s u → hasV s w → ∃ r, F r ∧ r ∈ x.1.2 ∧ r ≠ s ∧ hasV r u ∧ hasV r w := fun s hs' u w huw su sw => by
    rcases hs' with e | e | e | e <;> subst e
    · rcases mem3 h1 pa.symm qa.symm pq a1 a2 a3 su with e | e | e <;> rcases mem3 h1 pa.symm qa.symm pq a1 a2 a3 sw with e' | e' | e' <;> subst e <;> subst e'
      · exact absurd rfl huw
      · exact ⟨t3, .inr (.inr (.inl rfl)), h3, n13.symm, c1, c3⟩
      · exact ⟨t4, .inr (.inr (.inr rfl)), h4, n14.symm, d1, d3⟩
      · exact ⟨t3, .inr (.inr (.inl rfl)), h3, n13.symm, c3, c1⟩
      · exact absurd rfl huw
      · exact ⟨t2, .inr (.inl rfl), h2, n12.symm, b2, b3⟩
      · exact ⟨t4, .inr (.inr (.inr rfl)), h4, n14.symm, d3, d1⟩
      · exact ⟨t2, .inr (.inl rfl), h2, n12.symm, b3, b2⟩
      · exact absurd rfl huw
    · rcases mem3 h2 pb.symm qb.symm pq b1 b2 b3 su with e | e | e <;> rcases mem3 h2 pb.symm qb.symm pq b1 b2 b3 sw with e' | e' | e' <;> subst e <;> subst e'
      · exact absurd rfl huw
      · exact ⟨t3, .inr (.inr (.inl rfl)), h3, n23.symm, c2, c3⟩
      · exact ⟨t4, .inr (.inr (.inr rfl)), h4, n24.symm, d2, d3⟩
      · exact ⟨t3, .inr (.inr (.inl rfl)), h3, n23.symm, c3, c2⟩
      · exact absurd rfl huw
      · exact ⟨t1, .inl rfl, h1, n12, a2, a3⟩
      · exact ⟨t4, .inr (.inr (.inr rfl)), h4, n24.symm, d3, d2⟩
      · exact ⟨t1, .inl rfl, h1, n12, a3, a2⟩
      · exact absurd rfl huw
    · rcases mem3 h3 hab pa.symm pb.symm c1 c2 c3 su with e | e | e <;> rcases mem3 h3 hab pa.symm pb.symm c1 c2 c3 sw with e' | e' | e' <;> subst e <;> subst e'
      · exact absurd rfl huw
      · exact ⟨t4, .inr (.inr (.inr rfl)), h4, n34.symm, d1, d2⟩
      · exact ⟨t1, .inl rfl, h1, n13, a1, a2⟩
      · exact ⟨t4, .inr (.inr (.inr rfl)), h4, n34.symm, d2, d1⟩
      · exact absurd rfl huw
      · exact ⟨t2, .inr (.inl rfl), h2, n23, b1, b2⟩
      · exact ⟨t1, .inl rfl, h1, n13, a2, a1⟩
      · exact ⟨t2, .inr (.inl rfl), h2, n23, b2, b1⟩
      · exact absurd rfl huw
    · rcases mem3 h4 hab qa.symm qb.symm d1 d2 d3 su with e | e | e <;> rcases mem3 h4 hab qa.symm qb.symm d1 d2 d3 sw with e' | e' | e' <;> subst e <;> subst e'
      · exact absurd rfl huw
      · exact ⟨t3, .inr (.inr (.inl rfl)), h3, n34, c1, c2⟩
      · exact ⟨t1, .inl rfl, h1, n14, a1, a3⟩
      · exact ⟨t3, .inr (.inr (.inl rfl)), h3, n34, c2, c1⟩
      · exact absurd rfl huw
      · exact ⟨t2, .inr (.inl rfl), h2, n24, b1, b3⟩
      · exact ⟨t1, .inl rfl, h1, n14, a3, a1⟩
      · exact ⟨t2, .inr (.inl rfl), h2, n24, b3, b1⟩
      · exact absurd rfl huw
  have inl : ∀ s, F s → s ∈ x.1.2 := fun s k => by rcases k with e | e | e | e <;> (subst e; assumption)
  -- it has the edge the other way
  have opp : ∀ s, F s → ∀ u w, dE s u w → ∃ r, F r ∧ dE r w u := fun s k u w hd => by
    have ne := dE_ne (hs.deg s (inl s k)) hd
    obtain ⟨r, r1, r2, r3, r4, r5⟩ := oth s k u w ne (dE_hasV hd).1 (dE_hasV hd).2
    rcases two_dE ne r4 r5 with e | e
    · exact absurd e (hs.dif s (inl s k) r r2 r3.symm _ _ hd)
    · exact ⟨r, r1, e⟩
  obtain ⟨i1, l1, e1⟩ := mem_tg h1
  obtain ⟨i2, l2, e2⟩ := mem_tg h2
  obtain ⟨i3, l3, e3⟩ := mem_tg h3
  obtain ⟨i4, l4, e4⟩ := mem_tg h4
  have inS : ∀ i, i ∈ [i1, i2, i3, i4] ↔ i < x.1.2.length ∧ F (tg x.1.2 i) := fun i => by
    constructor
    · intro hi
      simp only [List.mem_cons, List.not_mem_nil, or_false] at hi
      rcases hi with e | e | e | e <;> subst e
      · exact ⟨l1, .inl e1⟩
      · exact ⟨l2, .inr (.inl e2)⟩
      · exact ⟨l3, .inr (.inr (.inl e3))⟩
      · exact ⟨l4, .inr (.inr (.inr e4))⟩
    · rintro ⟨hi, e | e | e | e⟩
      · have := tg_inj hs.nd hi l1 (e.trans e1.symm); subst this; simp
      · have := tg_inj hs.nd hi l2 (e.trans e2.symm); subst this; simp
      · have := tg_inj hs.nd hi l3 (e.trans e3.symm); subst this; simp
      · have := tg_inj hs.nd hi l4 (e.trans e4.symm); subst this; simp
  have hn : [i1, i2, i3, i4].Nodup := by
    have d : ∀ {i j : Nat} {t u : P3}, tg x.1.2 i = t → tg x.1.2 j = u → t ≠ u → i ≠ j := fun k1 k2 k3 e => k3 (by rw [← k1, ← k2, e])
    simp only [List.nodup_cons, List.mem_cons, List.not_mem_nil, or_false, not_or, List.nodup_nil, and_true, not_false_eq_true]
    exact ⟨⟨d e1 e2 n12, d e1 e3 n13, d e1 e4 n14⟩, ⟨d e2 e3 n23, d e2 e4 n24⟩, d e3 e4 n34⟩
  have cnt := shell_cnt g hs (a := a) (hs.ent _ h1 a a1) hn (i0 := i1) (by simp) (by rw [e1]; exact a1) (fun i hi => ((inS i).1 hi).1)
    (fun i hi j ha => by
      obtain ⟨k1, k2⟩ := (inS i).1 hi
      obtain ⟨_, hj, u, w, f1, f2⟩ := (adj_iff g).1 ha
      obtain ⟨r, r1, r2⟩ := opp _ k2 u w f1
      refine (inS j).2 ⟨hj, ?_⟩
      by_cases e : tg x.1.2 j = r
      · rw [e]; exact r1
      · exact absurd r2 (hs.dif _ (tg_mem hj) r (inl r r1) e _ _ f2))
    (fun i hi => by
      simp only [List.mem_cons, List.not_mem_nil, or_false] at hi
      rcases hi with e | e | e | e <;> subst e
      · exact .refl _
      · exact vert_lab g l1 l2 (v := p) (by rw [e1]; exact a2) (by rw [e2]; exact b2) hs
      · exact vert_lab g l1 l3 (v := a) (by rw [e1]; exact a1) (by rw [e3]; exact c1) hs
      · exact vert_lab g l1 l4 (v := a) (by rw [e1]; exact a1) (by rw [e4]; exact d1) hs)
  have flag : (smS x (smM x a) (ofR x).length).2 = false := by
    rw [← Bool.not_eq_true, smS_flag]
    rintro ⟨i, hi, hl, d, hd, ho⟩
    rw [ofR_len g.toGood] at hi
    have hF := ((inS i).1 ((cnt.2 i hi).1 hl)).2
    have hc : tHas x (3 * (i : Int) + d) = true := tHas_iff.2 ⟨by omega, by omega⟩
    have ke := cor_dE hc
    rw [show ((3 * (i : Int) + d) / 3).toNat = i by omega] at ke
    obtain ⟨r, r1, r2⟩ := opp _ hF _ _ ke.2
    exact ((bE_iff g).1 ⟨_, hc, ho, rfl⟩).2 (eE_mem.2 ⟨r, inl r r1, r2⟩)
  have : smallR x a = true := by unfold smallR; rw [cnt.1, flag]; rfl
  rw [w3] at this; cases this
/-- FREE, in plain words. -/
theorem free_of (g : Full x) (hs : SurfM (InN x.1.1) x.1.2) (hw : whyR x a b = 0) : Free x.1.2 a b := by
  obtain ⟨w1, w2, w3⟩ := why_0 hw
  have hab : a ≠ b := fun e => by
    subst e
    rw [near_self g.toGood] at w1; cases w1
  refine ⟨hab, (near_has g hab).1 w1, fun v va vb hva hvb => ?_, free_lone g hs hw hab, free_tetra g hs hw hab, fun t ht u hu hne ta tb ua ub => ?_⟩
  · have h1 := (near_has g va.symm).2 hva
    have h2 := (near_has g vb.symm).2 hvb
    exact fac_tri g (why_free hw v ((com_mem g).2 ⟨hab, h1, h2⟩))
  · have key : ∀ {s r : P3}, s ∈ x.1.2 → r ∈ x.1.2 → dE s a b → dE r b a → ∃ c, (c = a ∨ c = b) ∧ ∀ Q : P3 → Prop, (∀ s ∈ x.1.2, ∀ r ∈ x.1.2, hasV s c → hasV r c → (∃ w : Int, w ≠ a ∧ w ≠ b ∧ hasV s w ∧ hasV r w) → Q s → Q r) → (Q s ↔ Q r) := fun {s r} h1 h2 d1 d2 => by
      have two := face_two g (eE_mem.2 ⟨s, h1, d1⟩) (eE_mem.2 ⟨r, h2, d2⟩)
      by_cases ia : innerR x a = true
      · exact ⟨a, .inl rfl, fun Q hQ => (rot g ia h2 h1 d2 d1 Q fun s hs r hr k1 k2 ⟨w, e1, e2, e3⟩ => hQ s hs r hr k1 k2 ⟨w, e1, e2, e3⟩).symm⟩
      · by_cases ib : innerR x b = true
        · exact ⟨b, .inr rfl, fun Q hQ => rot g ib h1 h2 d1 d2 Q fun s hs r hr k1 k2 ⟨w, e1, e2, e3⟩ => hQ s hs r hr k1 k2 ⟨w, e2, e1, e3⟩⟩
        · exact absurd ⟨two, by simpa using ia, by simpa using ib⟩ w2
    rcases two_dE hab ta tb with d1 | d1 <;> rcases two_dE hab ua ub with d2 | d2
    · exact absurd d2 (hs.dif t ht u hu hne _ _ d1)
    · obtain ⟨c, hc, k⟩ := key ht hu d1 d2
      exact ⟨c, hc, fun Q hQ => (k Q hQ).1⟩
    · obtain ⟨c, hc, k⟩ := key hu ht d2 d1
      exact ⟨c, hc, fun Q hQ => (k Q hQ).2⟩
    · exact absurd d2 (hs.dif t ht u hu hne _ _ d1)
end
end S1

open Go Go.Vm Go.Proofs
namespace S1
set_option maxRecDepth 100000

/-! the triangles of an edge, counted; what has three neighbours -/
theorem link_lenI {x : tabE.T} (g : Full x) {v : Int} (hi : innerR x v = true) : (linkR x v).length = (aroundL (some x) v).length := by
  obtain ⟨⟨h0, h1⟩, hb⟩ := (inner_iff g).1 hi
  obtain ⟨b, _, eL, hb1, hb2, hb3, hall, hcl, _⟩ := g.around h0 h1
  have hno : ∀ c ∈ aroundL (some x) v, ¬ tAfter x c < 0 := fun c hc ha => by
    obtain ⟨k1, k2⟩ := hall c hc
    have := last_bE g k1 ha
    rw [k2] at this
    exact hb ⟨_, this⟩
  have hpos : (aroundL (some x) v).length ≥ 1 := List.length_pos_of_mem hb3
  have hlast : lkLast (aroundL (some x) v) (aroundL (some x) v).length = (aroundL (some x) v).getD ((aroundL (some x) v).length - 1) 0 := by
    unfold lkLast; rw [if_neg (by omega)]
  have hin : (aroundL (some x) v).getD ((aroundL (some x) v).length - 1) 0 ∈ aroundL (some x) v := getD_mem (by omega)
  unfold linkR
  rw [if_neg (fun e => hno _ (by rw [hlast] at e; exact hin) (by rw [hlast] at e; exact e.2)), List.append_nil]
  exact lkO_len _ _ _ (Nat.le_refl _)
theorem len_subP (k l : List P3) (hn : k.Nodup) (h : ∀ i ∈ k, i ∈ l) : k.length ≤ l.length := by
  induction k generalizing l with
  | nil => exact Nat.zero_le _
  | cons a r ih =>
    obtain ⟨h1, h2⟩ := List.nodup_cons.1 hn
    have ha := h a (List.mem_cons_self ..)
    have := ih (l.erase a) h2 fun i hi => (List.mem_erase_of_ne (fun e => h1 (by rw [← e]; exact hi))).2 (h i (List.mem_cons_of_mem _ hi))
    rw [List.length_erase_of_mem ha] at this
    have := List.length_pos_of_mem ha
    rw [List.length_cons]; omega
theorem both_iff {a b : Int} {t : P3} : both a b t = true ↔ hasV t a ∧ hasV t b := by unfold both; exact decide_eq_true_iff
theorem both_len {x : tabE.T} (g : Full x) (hs : SurfM (InN x.1.1) x.1.2) {c : Int} (hc : tHas x c = true) : (x.1.2.filter (both (tEdge x c).1 (tEdge x c).2)).length = if 0 ≤ tOpp x c then 2 else 1 := by
  have k := cor_dE hc
  have hne := g.ends c hc
  have hm1 := tg_mem k.1
  have hv1 := dE_hasV k.2
  have hnd : (x.1.2.filter (both (tEdge x c).1 (tEdge x c).2)).Nodup := hs.nd.filter _
  have in1 : tg x.1.2 (c / 3).toNat ∈ x.1.2.filter (both (tEdge x c).1 (tEdge x c).2) := List.mem_filter.2 ⟨hm1, both_iff.2 hv1⟩
  have one : ∀ t ∈ x.1.2, dE t (tEdge x c).1 (tEdge x c).2 → t = tg x.1.2 (c / 3).toNat := fun t ht hd => by
    apply Classical.byContradiction
    intro hn
    exact hs.dif t ht _ hm1 hn _ _ hd k.2
  split
  · rename_i ho
    obtain ⟨_, h2, h3⟩ := g.opp ho
    have k2 := cor_dE h2
    rw [h3] at k2
    have hm2 := tg_mem k2.1
    have ne : tg x.1.2 (c / 3).toNat ≠ tg x.1.2 (tOpp x c / 3).toNat := fun e => by
      rw [← e] at k2
      exact dE_anti (hs.deg _ hm1) k.2 k2.2
    have in2 : tg x.1.2 (tOpp x c / 3).toNat ∈ x.1.2.filter (both (tEdge x c).1 (tEdge x c).2) := List.mem_filter.2 ⟨hm2, both_iff.2 (dE_hasV k2.2).symm⟩
    have a1 := len_subP [tg x.1.2 (c / 3).toNat, tg x.1.2 (tOpp x c / 3).toNat] _ (List.nodup_cons.2 ⟨by simpa using ne, List.nodup_cons.2 ⟨by simp, List.nodup_nil⟩⟩) (fun i hi => by
      rcases List.mem_cons.1 hi with e | hi
      · rw [e]; exact in1
      · rw [List.mem_singleton.1 hi]; exact in2)
    have a2 := len_subP _ [tg x.1.2 (c / 3).toNat, tg x.1.2 (tOpp x c / 3).toNat] hnd (fun t ht => by
      obtain ⟨m, hb⟩ := List.mem_filter.1 ht
      obtain ⟨b1, b2⟩ := both_iff.1 hb
      rcases two_dE hne b1 b2 with e | e
      · rw [one t m e]; exact List.mem_cons_self ..
      · refine List.mem_cons_of_mem _ (List.mem_singleton.2 ?_)
        apply Classical.byContradiction
        intro hn
        exact hs.dif t m _ hm2 hn _ _ e k2.2)
    have a1 : 2 ≤ _ := a1
    have a2 : _ ≤ 2 := a2
    omega
  · rename_i ho
    have a1 := len_subP [tg x.1.2 (c / 3).toNat] _ (List.nodup_cons.2 ⟨by simp, List.nodup_nil⟩) (fun i hi => by rw [List.mem_singleton.1 hi]; exact in1)
    have a2 := len_subP _ [tg x.1.2 (c / 3).toNat] hnd (fun t ht => by
      obtain ⟨m, hb⟩ := List.mem_filter.1 ht
      obtain ⟨b1, b2⟩ := both_iff.1 hb
      rcases two_dE hne b1 b2 with e | e
      · rw [one t m e]; exact List.mem_cons_self ..
      · obtain ⟨d, d1, d2⟩ := eE_iff.1 (eE_mem.2 ⟨t, m, e⟩)
        exact absurd (by rw [g.opp_is d1 d2]; exact (tHas_iff.1 d1).1) ho)
    have a1 : 1 ≤ _ := a1
    have a2 : _ ≤ 1 := a2
    omega
theorem filter_len (p : P3 → Bool) : ∀ l : List P3, (l.filter p).length + (l.filter fun t => !p t).length = l.length
  | [] => rfl
  | t :: r => by
    have := filter_len p r
    cases h : p t <;> simp only [List.filter_cons, h, if_true, if_false, Bool.not_true, Bool.not_false, List.length_cons, Bool.false_eq_true] <;> omega
theorem col_len (a b : Int) (l : List P3) : (colM a b l).length + (l.filter (both a b)).length = l.length := by
  have := filter_len (both a b) l
  unfold colM
  rw [List.length_map]; omega
/-- An edge of an inner vertex has a corner that faces it, and one across. -/
theorem inner_edge {x : tabE.T} (g : Full x) {v w : Int} (hi : innerR x v = true) (hw : nearR x v w = true) : ∃ c, tHas x c = true ∧ tEdge x c = (v, w) ∧ 0 ≤ tOpp x c := by
  have hb := ((inner_iff g).1 hi).2
  obtain ⟨d, d1, d2⟩ := (near_iff g).1 hw
  rcases d2 with e | e
  · refine ⟨d, d1, e, ?_⟩
    apply Classical.byContradiction
    intro hn
    exact hb (bE_next g ⟨d, d1, by omega, e⟩)
  · have ho : 0 ≤ tOpp x d := by
      apply Classical.byContradiction
      intro hn
      exact hb ⟨w, d, d1, by omega, e⟩
    obtain ⟨_, h2, h3⟩ := g.opp ho
    refine ⟨tOpp x d, h2, by rw [h3, e], ?_⟩
    rw [g.opp_is d1 (by rw [h3])]
    exact (tHas_iff.1 d1).1
theorem near_neW {x : tabE.T} (g : Good x) {a b : Int} (h : nearR x a b = true) : b ≠ a := fun e => by
  rw [e, near_self g] at h; cases h
theorem three_why {x : tabE.T} (g : Full x) (hs : Surf x.1) {v w : Int} (hi : innerR x v = true) (hd : (linkR x v).length = 3) (hw : w ∈ linkR x v) : whyR x v w = 0 ∨ whyR x v w = 4 := by
  have hn := g.link_iff.1 hw
  obtain ⟨c, c1, c2, c3⟩ := inner_edge g hi hn
  have hf := g.fac c1
  have f1 := g.com_face c1
  have f2 := g.com_face2 c3
  have hne := opp_ne g hs c3
  rw [c2] at hf f1 f2
  rw [if_pos c3] at hf
  have m1 := (com_mem g).1 f1
  have m2 := (com_mem g).1 f2
  have hall : ∀ u ∈ comR x v w, u ∈ facR x v w := fun u hu => by
    have mu := (com_mem g).1 hu
    rw [hf]
    apply Classical.byContradiction
    intro hno
    have n1 : u ≠ tVert x c := fun e => hno (by rw [e]; exact List.mem_cons_self ..)
    have n2 : u ≠ tVert x (tOpp x c) := fun e => hno (by rw [e]; exact List.mem_cons_of_mem _ (List.mem_cons_self ..))
    have w1 := near_neW g.toGood m1.2.2
    have w2 := near_neW g.toGood m2.2.2
    have w3 := near_neW g.toGood mu.2.2
    have := len_sub [w, tVert x c, tVert x (tOpp x c), u] (linkR x v)
      (by
        refine List.nodup_cons.2 ⟨?_, List.nodup_cons.2 ⟨?_, List.nodup_cons.2 ⟨?_, List.nodup_cons.2 ⟨by simp, List.nodup_nil⟩⟩⟩⟩
        · simp only [List.mem_cons, List.not_mem_nil, or_false, not_or]; exact ⟨fun e => w1 e.symm, fun e => w2 e.symm, fun e => w3 e.symm⟩
        · simp only [List.mem_cons, List.not_mem_nil, or_false, not_or]; exact ⟨fun e => hne e.symm, fun e => n1 e.symm⟩
        · simp only [List.mem_cons, List.not_mem_nil, or_false]; exact fun e => n2 e.symm)
      (fun i hi => by
        simp only [List.mem_cons, List.not_mem_nil, or_false] at hi
        rcases hi with e | e | e | e <;> subst e
        · exact hw
        · exact g.link_iff.2 m1.2.1
        · exact g.link_iff.2 m2.2.1
        · exact g.link_iff.2 mu.2.1)
    rw [hd] at this
    exact absurd (show 4 ≤ 3 from this) (by decide)
  unfold whyR
  rw [hn, if_neg (by decide), if_neg (fun e => by rw [hi] at e; exact absurd e.2.1 (by decide)), if_neg (fun e => by rw [whyL_iff.2 hall] at e; cases e)]
  split
  · exact .inr rfl
  · exact .inl rfl
/-- A free edge, drawn together: a surface, smaller. -/
theorem draw_surf {x : tabE.T} (g : Full x) (hs : Surf x.1) {a b : Int} (hw : whyR x a b = 0) : Surf (x.1.1 - 1, (colM a b x.1.2).map (mapT (dn a))) := by
  have hn := (why_0 hw).1
  have hab := near_in g.toGood hn
  have hm := surfM_of hs
  have hc := col_surf hm (free_of g hm hw)
  have := dn_map hab.1 (hc hab.1 hab.2)
  have hl := col_len a b x.1.2
  refine surf_ofM (by omega) (by have := hs.fit.2.1; omega) ?_ this
  rw [List.length_map]
  have := hs.fit.2.2.1
  omega
end S1

open Go Go.Vm Go.Proofs
namespace S1
set_option maxRecDepth 100000

/-! ring.Degree -/
def loopDg : Spec Nat where
  inv _ := True
  live _ := []
  keep := [5]
  heap k := [(0, .flat 3 [.int .i64 k])]
  keepH := [1]
  mu _ := 0
theorem deg_vc (x : tabE.T) (v : Int) (g : Good x) : afunR ⟨tyL, [(64, aroundC)], []⟩ seqT Try.f26 [(ETy.pt tabE).av (some x), i64E.av v] (fun r => r = .s (.int .i64 (aroundL (some x) v).length)) := by
  obtain ⟨hl, ha⟩ := aroundL_le g v
  repeat' (conv => whnf
           first | done | refine Need.intro (by first | rfl | omega | (simp only [i64ok] at *; omega)) ?_ | refine Need.intro (Hold.out ?_) ?_ | refine Give.intro fun _ => ?_ | refine Both.intro ?_ ?_ | refine BIf.and ?_ | refine BIf.or ?_ | refine BIf.eqi (fun _ => ?_) (fun _ => ?_) | refine BIf.nei (fun _ => ?_) (fun _ => ?_) | refine BIf.dec (fun _ => ?_) (fun _ => ?_) | refine BIf.nt ?_ | refine BIf.intro (fun _ => ?_) (fun _ => ?_) | refine Exists.intro (aroundL (some x) v) (And.intro (Hold.out ?_) (Exists.intro loopDg ?_)) | (refine And.intro (fun X => ?_) (fun X => ?_)) | (refine And.intro (And.intro ?_ (And.intro ?_ rfl)) (fun k hk => ?_)) | (refine And.intro ?_ (And.intro ?_ rfl)) | refine And.intro rfl ?_ | refine And.intro (HoldEq.out ?_) ?_ | refine And.intro (HoldOb.out ?_) ?_ | exact True.intro | refine HoldEq.out ?_ | refine HoldObs.out ?_ | refine KCheck.intro (by kernel_rfl) ?_ | refine HoldOr.out ?_)
  all_goals try first | refine HoldEq.int ?_ | refine HoldEq.bool ?_ | refine HoldEq.sl ?_ | refine HoldEq.own ?_ | refine HoldEq.ownS ?_ ?_ | refine HoldOb.row ?_ | refine HoldOb.map ?_ | refine HoldOb.gmap ?_ | refine HoldOb.grow ?_ | refine HoldObs.row ?_
  all_goals try simp only [take_one, take_one', set_one, take_all, List.length_singleton, rec_self, Int.toNat_natCast, pair_eta, ETy.dflt, List.getD_cons_zero, List.getD_cons_succ, Int.reduceToNat, Int.reduceAdd, Int.reduceSub, Int.reduceNeg, Nat.reduceAdd, Nat.zero_add, loopDg] at *
  · exact Hold.intro ⟨rfl, some x, v, rfl, fun y e => by cases e; exact g, rfl⟩
def degC : List AV → Option Res := con2 (.pt tabE) i64E (fun o v => match o with | none => none | some x => some (none, some (Good x), .s (.int .i64 (aroundL (some x) v).length)))
theorem deg_row (hS : SeqTabOk Try.prog seqT) : FnRow Try.prog 26 degC := ⟨con2_ok fun o v r h => by
  cases o with
  | none => cases h
  | some x => cases h; exact fn_okR (rulesF (fn := [(64, aroundC)]) (fr := []) ⟨aroundRow, trivial⟩ trivial) hS Try.func26 rfl (by kernel_rfl) (Nat.le_of_ble_eq_true rfl) fun _ h => deg_vc x v h, _, Try.func26, by kernel_rfl, by kernel_rfl⟩
/-! gypsumref34.Draw -/
def drT (a b : Int) (t : P3) : P3 := mapT (dn a) (phT a b t)
def drG (a b : Int) (l : List P3) (i : Nat) : Option P3 := if both a b (tg l i) = true then none else some (drT a b (tg l i))
def drL (a b : Int) (l : List P3) (i : Nat) : List P3 := (List.range i).filterMap (drG a b l)
def cmp3 (t : P3) (k : Nat) : Int := [t.1, t.2.1, t.2.2].getD k 0
def hasN (a b : Int) (t : P3) : Nat → Int
  | 0 => 0
  | k + 1 => if cmp3 t k = a ∨ cmp3 t k = b then hasN a b t k + 1 else hasN a b t k
def mkT (a b : Int) (t : P3) (k : Nat) : P3 := (if 0 < k then dn a (ph a b t.1) else t.1, if 1 < k then dn a (ph a b t.2.1) else t.2.1, if 2 < k then dn a (ph a b t.2.2) else t.2.2)
def loopDr1 (n a b : Int) (l : List P3) : Spec Nat where
  inv i := i ≤ l.length
  live i := [(8, .s (.int .i64 i))]
  keep := [1, 2, 3, 6, 7]
  heap i := [(2, .flat 24 [.int .i64 (n - 1), .own 3 0 (drL a b l i).length]), (3, .row .arr3 72 (drL a b l i))]
  keepH := [0, 1]
  mu i := l.length - i
  nils := [2]
def loopDr2 (a b : Int) (t : P3) : Spec Nat where
  inv k := k ≤ 3
  live k := [(11, .s (.int .i64 k)), (9, .s (.int .i64 (hasN a b t k)))]
  keep := [1, 2, 3, 6, 7, 8, 10]
  heap _ := []
  keepH := [0, 1, 2, 3, 4]
  mu k := 3 - k
def loopDr3 (a b : Int) (t : P3) : Spec Nat where
  inv k := k ≤ 3
  live k := [(12, .s (.int .i64 k))]
  keep := [1, 2, 3, 6, 7, 8, 10]
  heap k := [(4, .flat 72 [.int .i64 (mkT a b t k).1, .int .i64 (mkT a b t k).2.1, .int .i64 (mkT a b t k).2.2])]
  keepH := [0, 1, 2, 3]
  mu k := 3 - k
theorem drL_succ (a b : Int) (l : List P3) (i : Nat) : drL a b l (i + 1) = drL a b l i ++ (drG a b l i).toList := fm_succ _ _
theorem drL_len (a b : Int) (l : List P3) (i : Nat) : (drL a b l i).length ≤ i := fm_len _ _
theorem hasN_le (a b : Int) (t : P3) : ∀ k : Nat, 0 ≤ hasN a b t k ∧ hasN a b t k ≤ k
  | 0 => ⟨Int.le_refl _, Int.le_refl _⟩
  | k + 1 => by
    have := hasN_le a b t k
    unfold hasN; split <;> omega
theorem hasN_s (a b : Int) (t : P3) (k : Nat) : hasN a b t (k + 1) = if cmp3 t k = a ∨ cmp3 t k = b then hasN a b t k + 1 else hasN a b t k := rfl
theorem hasN_two {a b : Int} {t : P3} (hd : ¬ dgn t) (hab : a ≠ b) : hasN a b t 3 > 1 ↔ both a b t = true := by
  rw [both_iff, hasN_s, hasN_s, hasN_s]
  obtain ⟨p, q, r⟩ := t
  simp only [cmp3, List.getD_cons_zero, List.getD_cons_succ, hasV, dgn, hasN] at *
  by_cases hp : p = a ∨ p = b <;> by_cases hq : q = a ∨ q = b <;> by_cases hr : r = a ∨ r = b <;> simp only [hp, hq, hr, if_true, if_false] <;> constructor <;> intro h <;> omega
theorem drL_all (a b : Int) (l : List P3) : drL a b l l.length = (colM a b l).map (mapT (dn a)) := by
  have e : drL a b l l.length = l.filterMap fun t => if both a b t = true then none else some (drT a b t) := by
    conv => rhs; rw [← range_getD (0, 0, 0) l, List.filterMap_map]
    rfl
  rw [e]
  clear e
  induction l with
  | nil => rfl
  | cons t r ih =>
    cases h : both a b t
    · rw [List.filterMap_cons, h, if_neg (by decide), ih]
      show _ = ((List.filter _ (t :: r)).map _).map _
      rw [List.filter_cons, h]; rfl
    · rw [List.filterMap_cons, h, if_pos rfl, ih]
      show _ = ((List.filter _ (t :: r)).map _).map _
      rw [List.filter_cons, h]; rfl
set_option maxHeartbeats 4000000 in
theorem draw_vc {fn} (n : Int) (l : List P3) (a b : Int) (hn : 0 ≤ n ∧ n ≤ 4096) (hl : l.length ≤ 8192) (ha : 0 ≤ a) (hb : 0 ≤ b ∧ b < n) (hab : a ≠ b) (hf : ∀ i < l.length, InN n (tg l i).1 ∧ InN n (tg l i).2.1 ∧ InN n (tg l i).2.2 ∧ ¬ dgn (tg l i)) : afun ⟨tyL, fn, []⟩ Try.f29 [soupE.av (n, l), i64E.av a, i64E.av b] (fun r => r = soupE.av (n - 1, drL a b l l.length)) := by
  repeat' (conv => whnf
           first | done | refine Need.intro (by first | rfl | omega | (simp only [i64ok] at *; omega)) ?_ | refine Need.intro (Hold.out ?_) ?_ | refine Give.intro fun _ => ?_ | refine Both.intro ?_ ?_ | refine BIf.and ?_ | refine BIf.or ?_ | refine BIf.eqi (fun _ => ?_) (fun _ => ?_) | refine BIf.nei (fun _ => ?_) (fun _ => ?_) | refine BIf.dec (fun _ => ?_) (fun _ => ?_) | refine BIf.nt ?_ | refine BIf.intro (fun _ => ?_) (fun _ => ?_) | ((first | (with_reducible show Or (∃ n, rounds (acode _ (Code.seq (Code.region 3 _ _) _)) _ n _) _) | (with_reducible show Or (∃ n, rounds (acode _ (Code.seq (Code.seq (Code.region 3 _ _) _) _)) _ n _) _) | (with_reducible show Or (∃ n, rounds (acode _ (Code.seq (Code.seq (Code.seq (Code.region 3 _ _) _) _) _)) _ n _) _) | (with_reducible show Or (∃ n, rounds (acode _ (Code.seq (Code.seq (Code.seq (Code.seq (Code.region 3 _ _) _) _) _) _)) _ n _) _) | (with_reducible show Or (∃ n, rounds (acode _ (Code.block _ (Code.seq (Code.region 3 _ _) _))) _ n _) _) | (with_reducible show Or (∃ n, rounds (acode _ (Code.block _ (Code.seq (Code.seq (Code.region 3 _ _) _) _))) _ n _) _) | (with_reducible show Or (∃ n, rounds (acode _ (Code.block _ (Code.seq (Code.seq (Code.seq (Code.region 3 _ _) _) _) _))) _ n _) _) | (with_reducible show Or (∃ n, rounds (acode _ (Code.block _ (Code.seq (Code.seq (Code.seq (Code.seq (Code.region 3 _ _) _) _) _) _))) _ n _) _)); refine Or.inr (Exists.intro (Nat) (Exists.intro (loopDr1 n a b l) (And.intro (Exists.intro (0) (And.intro (Hold.out ?_) (And.intro ?_ (And.intro ?_ rfl)))) (fun i hi => ?_))))) | ((with_reducible show (∃ y, And (Spec.inv (loopDr1 _ _ _ _) y) _)); refine Exists.intro (i + 1) (And.intro (Hold.out ?_) (And.intro (And.intro ?_ (And.intro ?_ rfl)) (Hold.out ?_)))) | ((first | (with_reducible show Or (∃ n, rounds (acode _ (Code.seq (Code.region 8 _ _) _)) _ n _) _) | (with_reducible show Or (∃ n, rounds (acode _ (Code.seq (Code.seq (Code.region 8 _ _) _) _)) _ n _) _) | (with_reducible show Or (∃ n, rounds (acode _ (Code.seq (Code.seq (Code.seq (Code.region 8 _ _) _) _) _)) _ n _) _) | (with_reducible show Or (∃ n, rounds (acode _ (Code.seq (Code.seq (Code.seq (Code.seq (Code.region 8 _ _) _) _) _) _)) _ n _) _) | (with_reducible show Or (∃ n, rounds (acode _ (Code.block _ (Code.seq (Code.region 8 _ _) _))) _ n _) _) | (with_reducible show Or (∃ n, rounds (acode _ (Code.block _ (Code.seq (Code.seq (Code.region 8 _ _) _) _))) _ n _) _) | (with_reducible show Or (∃ n, rounds (acode _ (Code.block _ (Code.seq (Code.seq (Code.seq (Code.region 8 _ _) _) _) _))) _ n _) _) | (with_reducible show Or (∃ n, rounds (acode _ (Code.block _ (Code.seq (Code.seq (Code.seq (Code.seq (Code.region 8 _ _) _) _) _) _))) _ n _) _)); refine Or.inr (Exists.intro (Nat) (Exists.intro (loopDr2 a b (l.getD i (0, 0, 0))) (And.intro (Exists.intro (0) (And.intro (Hold.out ?_) (And.intro ?_ (And.intro ?_ rfl)))) (fun k hk => ?_))))) | ((with_reducible show (∃ y, And (Spec.inv (loopDr2 _ _ _) y) _)); refine Exists.intro (k + 1) (And.intro (Hold.out ?_) (And.intro (And.intro ?_ (And.intro ?_ rfl)) (Hold.out ?_)))) | ((first | (with_reducible show Or (∃ n, rounds (acode _ (Code.seq (Code.region 14 _ _) _)) _ n _) _) | (with_reducible show Or (∃ n, rounds (acode _ (Code.seq (Code.seq (Code.region 14 _ _) _) _)) _ n _) _) | (with_reducible show Or (∃ n, rounds (acode _ (Code.seq (Code.seq (Code.seq (Code.region 14 _ _) _) _) _)) _ n _) _) | (with_reducible show Or (∃ n, rounds (acode _ (Code.seq (Code.seq (Code.seq (Code.seq (Code.region 14 _ _) _) _) _) _)) _ n _) _) | (with_reducible show Or (∃ n, rounds (acode _ (Code.block _ (Code.seq (Code.region 14 _ _) _))) _ n _) _) | (with_reducible show Or (∃ n, rounds (acode _ (Code.block _ (Code.seq (Code.seq (Code.region 14 _ _) _) _))) _ n _) _) | (with_reducible show Or (∃ n, rounds (acode _ (Code.block _ (Code.seq (Code.seq (Code.seq (Code.region 14 _ _) _) _) _))) _ n _) _) | (with_reducible show Or (∃ n, rounds (acode _ (Code.block _ (Code.seq (Code.seq (Code.seq (Code.seq (Code.region 14 _ _) _) _) _) _))) _ n _) _)); refine Or.inr (Exists.intro (Nat) (Exists.intro (loopDr3 a b (l.getD i (0, 0, 0))) (And.intro (Exists.intro (0) (And.intro (Hold.out ?_) (And.intro ?_ (And.intro ?_ rfl)))) (fun q hq => ?_))))) | ((with_reducible show (∃ y, And (Spec.inv (loopDr3 _ _ _) y) _)); refine Exists.intro (q + 1) (And.intro (Hold.out ?_) (And.intro (And.intro ?_ (And.intro ?_ rfl)) (Hold.out ?_)))) | refine And.intro rfl ?_ | refine And.intro (HoldEq.out ?_) ?_ | refine And.intro (HoldOb.out ?_) ?_ | exact True.intro | refine HoldEq.out ?_ | refine HoldObs.out ?_ | refine KCheck.intro (by kernel_rfl) ?_ | refine HoldOr.out ?_)
  all_goals try first | refine HoldEq.int ?_ | refine HoldEq.bool ?_ | refine HoldEq.sl ?_ | refine HoldEq.own ?_ | refine HoldEq.ownS ?_ ?_ | refine HoldOb.row ?_ | refine HoldOb.map ?_ | refine HoldOb.gmap ?_ | refine HoldOb.grow ?_ | refine HoldObs.row ?_
  all_goals try simp only [take_one, take_one', set_one, take_all, List.length_singleton, rec_self, Int.toNat_natCast, pair_eta, ETy.dflt, List.getD_cons_zero, List.getD_cons_succ, Int.reduceToNat, Int.reduceAdd, Int.reduceSub, Int.reduceNeg, Nat.reduceAdd, Nat.zero_add, loopDr1, loopDr2, loopDr3] at *
  all_goals try have hl1 := drL_len a b l i
  all_goals try (refine Hold.intro ?_; omega)
  all_goals try have hi1 : (i : Int) < l.length := by assumption
  all_goals try have hf1 := hf i (by omega)
  all_goals try unfold tg at hf1
  all_goals try generalize ht : l.getD i (0, 0, 0) = t at *
  all_goals try have hN := hasN_le a b t k
  all_goals try (refine Hold.intro ?_; unfold i64ok; omega)
  all_goals try
    have hq1 : (q : Int) < 3 := by assumption
    obtain ⟨u, v, w⟩ := t
    have h3 : q = 0 ∨ q = 1 ∨ q = 2 := by omega
    simp only [dgn, InN] at hf1
    rcases h3 with e | e | e <;> subst e <;> clear hq1 <;> simp [mkT, ph, dn] at * <;> first
      | (refine Hold.intro ?_; unfold i64ok; omega)
      | (refine HoldOb.intro ?_; simp [*]; done)
      | (refine HoldOb.intro ?_; have h9 : ¬ a < b := by omega
         simp [*]; done)
      | (refine HoldOb.intro ?_; have h9 : ¬ a < u := by omega
         simp [*]; done)
      | (refine HoldOb.intro ?_; have h9 : ¬ a < v := by omega
         simp [*]; done)
      | (refine HoldOb.intro ?_; have h9 : ¬ a < w := by omega
         simp [*]; done)
  all_goals try
    have h9 : cmp3 t k = a ∨ cmp3 t k = b := by first | exact .inl (by assumption) | exact .inr (by assumption)
    rw [hasN_s, if_pos h9]
  all_goals try
    have h9 : ¬ (cmp3 t k = a ∨ cmp3 t k = b) := by rintro (h | h) <;> first | exact absurd h (by assumption)
    rw [hasN_s, if_neg h9]
  all_goals try have hk3 : k = 3 := by omega
  all_goals try subst hk3
  all_goals try
    have h9 : drG a b l i = none := by
      unfold drG tg; rw [ht, if_pos ((hasN_two hf1.2.2.2 hab).1 (by assumption))]
    first
      | (rw [drL_succ, h9]; exact HoldOb.intro (by rw [Option.toList, List.append_nil]))
      | (rw [drL_succ, h9]; exact List.append_nil _)
  all_goals try have hq3 : q = 3 := by omega
  all_goals try subst hq3
  all_goals try
    have h9 : drG a b l i = some (mkT a b t 3) := by
      unfold drG tg; rw [ht, if_neg (fun h => (by assumption : ¬ hasN a b t 3 > 1) ((hasN_two hf1.2.2.2 hab).2 h))]; rfl
    first
      | (rw [drL_succ, h9]; exact HoldOb.intro (by rw [Option.toList, List.length_append]; rfl))
      | (rw [drL_succ, h9]; rfl)
  · have hi9 : i = l.length := by omega
    subst hi9; exact HoldEq.intro rfl
def drawR (s : Int × List P3) (a b : Int) : Int × List P3 := (s.1 - 1, (colM a b s.2).map (mapT (dn a)))
def draw34C : List AV → Option Res := con3 soupE i64E i64E (fun s a b => some (none, some (Surf s ∧ InN s.1 a ∧ InN s.1 b ∧ a ≠ b), soupE.av (drawR s a b)))
theorem draw34Row : FnRow Try.prog 29 draw34C := ⟨con3_ok fun s a b r h => by
  cases h; exact fn_by (rulesF (fn := []) (fr := []) trivial trivial) Try.func29 (by kernel_rfl) fun _ h => by
    obtain ⟨hs, ha, hb, hab⟩ := h
    unfold drawR
    rw [← drL_all]
    exact draw_vc s.1 s.2 a b ⟨hs.fit.1, hs.fit.2.1⟩ hs.fit.2.2.1 ha.1 hb hab (fun i hi => by have h4 := triIn_spec (hs.fit.2.2.2 i hi); exact ⟨h4.1, h4.2.1, h4.2.2, hs.deg i hi⟩), _, Try.func29, by kernel_rfl, by kernel_rfl⟩
end S1

open Go Go.Vm Go.Proofs
namespace S1
set_option maxRecDepth 100000

/-! a table that is known -/
def laidXC (x : tabE.T) : List AV → Option Res := con1 soupE (fun s => some (none, some (laidO s = some x), (ETy.pt tabE).av (some x)))
theorem laidXRow (x : tabE.T) : FnRow Try.prog 15 (laidXC x) := ⟨con1_ok fun s r h => by
  cases h
  intro σ vals w hag hv
  refine ⟨trivial, fun hq => ?_⟩
  have := (laidRow.1 _ _ (rfl : laidC [soupE.av s] = _) σ vals w hag hv).2 trivial
  rw [show laidO s = some x from hq] at this
  exact this, _, Try.func15, by kernel_rfl, by kernel_rfl⟩
theorem nil_av {σ : Sig} {β : Places} {v : Value} (h : VRep σ β ((ETy.pt tabE).av none) v) : VRep σ β (nilO none) v := by
  have h : [v] = [Value.pointer none] := h
  exact ⟨(List.cons.inj h).1, by simp [Scal]⟩
def laidNC : List AV → Option Res := con1 soupE (fun s => some (none, some (laidO s = none), nilO none))
theorem laidNRow : FnRow Try.prog 15 laidNC := ⟨con1_ok fun s r h => by
  cases h
  intro σ vals w hag hv
  refine ⟨trivial, fun hq => ?_⟩
  have hv0 := hv
  have := (laidRow.1 _ _ (rfl : laidC [soupE.av s] = _) σ vals w hag hv).2 trivial
  rw [show laidO s = none from hq] at this
  refine this.mono fun e w' ⟨v, σ', e1, e2, e3, e4, e5, e6⟩ => ⟨v, σ', e1, e2, e3, e4, ?_, e6⟩
  exact nil_av e5, _, Try.func15, by kernel_rfl, by kernel_rfl⟩
/-! sets as maps -/
def insM (l : List Int) : ReM := l.foldl (fun m v => mset (.int .i64) m v true) []
theorem insM_succ {l : List Int} {k : Nat} (h : k < l.length) : insM (l.take (k + 1)) = mset (.int .i64) (insM (l.take k)) (l.getD k 0) true := by
  unfold insM
  rw [List.take_succ_eq_append_getElem h, List.foldl_append, List.getD_eq_getElem?_getD, List.getElem?_eq_getElem h]; rfl
theorem insM_had (l : List Int) (v : Int) : had (insM l) v = true ↔ v ∈ l := by
  have key : ∀ (l : List Int) (m : ReM), had (l.foldl (fun m v => mset (.int .i64) m v true) m) v = true ↔ (had m v = true ∨ v ∈ l) := fun l => by
    induction l with
    | nil => exact fun m => ⟨.inl, fun h => h.resolve_right (fun h => by cases h)⟩
    | cons a r ih =>
      intro m
      rw [List.foldl_cons, ih, had_set, List.mem_cons]
      by_cases e : a = v
      · subst e; simp
      · rw [if_neg e]
        exact ⟨fun h => h.imp id .inr, fun h => h.imp id (fun h => h.resolve_left (fun k => e k.symm))⟩
  unfold insM
  rw [key]
  exact ⟨fun h => h.resolve_left (fun h => by cases h), .inr⟩
theorem insM_keys (l : List Int) : (keysR (insM l)).Nodup ∧ ∀ v ∈ keysR (insM l), v ∈ l := by
  have key : ∀ (l : List Int) (m : ReM), (keysR m).Nodup → (keysR (l.foldl (fun m v => mset (.int .i64) m v true) m)).Nodup ∧ ∀ v ∈ keysR (l.foldl (fun m v => mset (.int .i64) m v true) m), v ∈ keysR m ∨ v ∈ l := fun l => by
    induction l with
    | nil => exact fun m h => ⟨h, fun v h => .inl h⟩
    | cons a r ih =>
      intro m h
      obtain ⟨k1, k2⟩ := keysR_set a m
      obtain ⟨i1, i2⟩ := ih (mset (.int .i64) m a true) (k2 h)
      refine ⟨i1, fun v hv => ?_⟩
      rcases i2 v hv with h | h
      · rcases k1 v h with h | h
        · exact .inr (by rw [h]; exact List.mem_cons_self ..)
        · exact .inl h
      · exact .inr (List.mem_cons_of_mem _ h)
  obtain ⟨a, b⟩ := key l [] List.nodup_nil
  exact ⟨a, fun v hv => (b v hv).resolve_left (fun h => by cases h)⟩
theorem insM_len (l : List Int) : (insM l).length = (keysR (insM l)).length := by unfold keysR; rw [List.length_map]
/-- How many there are: at least as many as are told, at most as many as it lies within. -/
theorem insM_ge {l F : List Int} (hn : F.Nodup) (h : ∀ v ∈ F, v ∈ l) : F.length ≤ (insM l).length := by
  rw [insM_len]
  exact len_sub F _ hn fun v hv => had_key ((insM_had l v).2 (h v hv))
theorem insM_le {l F : List Int} (h : ∀ v ∈ l, v ∈ F) : (insM l).length ≤ F.length := by
  rw [insM_len]
  exact len_sub _ F (insM_keys l).1 fun v hv => h v ((insM_keys l).2 v hv)
end S1

open Go Go.Vm Go.Proofs
namespace S1
set_option maxRecDepth 100000

/-! LinkThree -/
def newYC : List AV → Option Res := con1 soupE (fun s => some (none, some (newO s = some (newT s)), .tup [(ETy.pt tabE).av (some (newT s)), witE.av (0, 0, 0)]))
theorem newYRow : FnRow Try.prog 28 newYC := ⟨con1_ok fun s r h => by
  cases h
  intro σ vals w hag hv
  refine ⟨trivial, fun hq => ?_⟩
  have := (newRow.1 _ _ (rfl : newC [soupE.av s] = _) σ vals w hag hv).2 trivial
  have h0 : chkR s = (0, 0, 0) := by
    have hq : newO s = some (newT s) := hq
    unfold newO at hq
    split at hq
    · exact chk_eq (by assumption)
    · cases hq
  rw [show newO s = some (newT s) from hq, h0] at this
  exact this, _, Try.func28, by kernel_rfl, by kernel_rfl⟩
def loopL3 (n : Int) : Spec Nat where
  inv i := i ≤ n.toNat
  live i := [(20, .s (.int .i64 i))]
  keep := [1, 2, 5, 19]
  heap _ := []
  keepH := [0]
  mu i := n.toNat - i
structure L3F (x : tabE.T) (v w : Int) : Prop where
  len : (linkR x v).length = 3
  get : w ∈ linkR x v → (whyR x v w = 0 ∨ whyR x v w = 4) ∧ (whyR x v w = 0 → newO (drawR x.1 v w) = some (newT (drawR x.1 v w)) ∧ (Surf x.1 ∧ InN x.1.1 v ∧ InN x.1.1 w ∧ v ≠ w) ∧ ((newT (drawR x.1 v w)).1.2.length : Int) = x.1.2.length - 2)
theorem l3_facts {x : tabE.T} (g : Full x) (hs : Surf x.1) {v : Int} (hi : innerR x v = true) (hd : (aroundL (some x) v).length = 3) (w : Int) : L3F x v w := by
  have hl : (linkR x v).length = 3 := (link_lenI g hi).trans hd
  refine ⟨hl, fun hw => ⟨three_why g hs hi hl hw, fun h0 => ?_⟩⟩
  have hn := g.link_iff.1 hw
  have hab := near_in g.toGood hn
  have hS := draw_surf g hs h0
  have e := new_of hS
  refine ⟨e.1, ⟨hs, hab.1, hab.2, fun e' => near_neW g.toGood hn e'.symm⟩, ?_⟩
  have e2 : (newT (drawR x.1 v w)).1 = drawR x.1 v w := e.2.2
  rw [e2]
  obtain ⟨c, c1, c2, c3⟩ := inner_edge g hi hn
  have k := both_len g (surfM_of hs) c1
  rw [c2, if_pos c3] at k
  have k2 := col_len v w x.1.2
  unfold drawR
  rw [List.length_map]
  have k : (x.1.2.filter (both v w)).length = 2 := k
  omega
attribute [local irreducible] innerR whyR linkR newT drawR aroundL
set_option maxHeartbeats 4000000 in
theorem lawL3_vc (n : Int) (l : List P3) (b : Int) (x : tabE.T) (hb : 0 ≤ b ∧ b ≤ 255) (hx : laidO (n, l) = some x) : afun ⟨tyL, [(14, awake34C), (15, laidXC x), (25, innerC), (26, degC), (27, linkC), (18, whyC), (29, draw34C), (28, newYC), (30, trianglesC)], []⟩ Try.f5 [soupE.av (n, l), (ETy.int .u8).av b] (fun r => r = .s (.bool true)) := by
  obtain ⟨h1, g, hs, _⟩ := laid_full hx
  have e1 : x.1 = (n, l) := by rw [h1]; unfold newT; rfl
  repeat' (conv => whnf
           first | done | refine Need.intro (by first | rfl | omega | (simp only [i64ok] at *; omega)) ?_ | refine Need.intro (Hold.out ?_) ?_ | refine Give.intro fun _ => ?_ | refine Both.intro ?_ ?_ | refine BIf.and ?_ | refine BIf.or ?_ | refine BIf.eqi (fun _ => ?_) (fun _ => ?_) | refine BIf.nei (fun _ => ?_) (fun _ => ?_) | refine BIf.dec (fun _ => ?_) (fun _ => ?_) | refine BIf.nt ?_ | refine BIf.intro (fun _ => ?_) (fun _ => ?_) | ((first | (with_reducible show Or (∃ n, rounds (acode _ (Code.seq (Code.region 7 _ _) _)) _ n _) _) | (with_reducible show Or (∃ n, rounds (acode _ (Code.seq (Code.seq (Code.region 7 _ _) _) _)) _ n _) _) | (with_reducible show Or (∃ n, rounds (acode _ (Code.seq (Code.seq (Code.seq (Code.region 7 _ _) _) _) _)) _ n _) _) | (with_reducible show Or (∃ n, rounds (acode _ (Code.seq (Code.seq (Code.seq (Code.seq (Code.region 7 _ _) _) _) _) _)) _ n _) _) | (with_reducible show Or (∃ n, rounds (acode _ (Code.block _ (Code.seq (Code.region 7 _ _) _))) _ n _) _) | (with_reducible show Or (∃ n, rounds (acode _ (Code.block _ (Code.seq (Code.seq (Code.region 7 _ _) _) _))) _ n _) _) | (with_reducible show Or (∃ n, rounds (acode _ (Code.block _ (Code.seq (Code.seq (Code.seq (Code.region 7 _ _) _) _) _))) _ n _) _) | (with_reducible show Or (∃ n, rounds (acode _ (Code.block _ (Code.seq (Code.seq (Code.seq (Code.seq (Code.region 7 _ _) _) _) _) _))) _ n _) _)); refine Or.inr (Exists.intro (Nat) (Exists.intro (loopL3 n) (And.intro (Exists.intro (0) (And.intro (Hold.out ?_) (And.intro ?_ (And.intro ?_ rfl)))) (fun i hi => ?_))))) | ((with_reducible show (∃ y, And (Spec.inv (loopL3 _) y) _)); refine Exists.intro (i + 1) (And.intro (Hold.out ?_) (And.intro (And.intro ?_ (And.intro ?_ rfl)) (Hold.out ?_)))) | refine And.intro rfl ?_ | refine And.intro (HoldEq.out ?_) ?_ | refine And.intro (HoldOb.out ?_) ?_ | exact True.intro | refine HoldEq.out ?_ | refine HoldObs.out ?_ | refine KCheck.intro (by kernel_rfl) ?_ | refine HoldOr.out ?_)
  all_goals try first | refine HoldEq.int ?_ | refine HoldEq.bool ?_ | refine HoldEq.sl ?_ | refine HoldEq.own ?_ | refine HoldEq.ownS ?_ ?_ | refine HoldOb.row ?_ | refine HoldOb.map ?_ | refine HoldOb.gmap ?_ | refine HoldOb.grow ?_ | refine HoldObs.row ?_
  all_goals try simp only [take_one, take_one', set_one, take_all, List.length_singleton, rec_self, Int.toNat_natCast, pair_eta, ETy.dflt, List.getD_cons_zero, List.getD_cons_succ, Int.reduceToNat, Int.reduceAdd, Int.reduceSub, Int.reduceNeg, Nat.reduceAdd, Nat.zero_add, loopL3] at *
  all_goals have hn1 : 0 ≤ n ∧ n ≤ 4096 := ⟨hs.fit.1, hs.fit.2.1⟩
  all_goals try (refine Hold.intro ?_; omega)
  all_goals try (refine Hold.intro ?_; unfold i64ok; omega)
  all_goals try exact Hold.intro g.toGood
  all_goals try exact Hold.intro (fun y e => by cases e; exact g.toGood)
  all_goals
    have hi1 : innerR x ↑i = true := by assumption
    have hd1 : (((aroundL (some x) (i : Int)).length : Nat) : Int) = 3 := by assumption
    have f := l3_facts g (by rw [e1]; exact hs) hi1 (by omega) ((linkR x i).getD (b.tmod 3).toNat 0)
    have el : linkO (some x) (i : Int) = linkR x i := rfl
    have eW : ∀ w, whyO (some x) (i : Int) w = whyR x i w := fun w => rfl
    have hr : 0 ≤ b.tmod 3 ∧ b.tmod 3 < 3 := ⟨Int.tmod_nonneg _ hb.1, Int.tmod_lt_of_pos _ (by decide)⟩
    have f2 := f.get (getD_mem (by rw [f.len]; omega))
    rw [e1] at f2
    have f0 := f.len
    simp only [el, eW] at *
  · exact absurd (by assumption) (show ¬ (((linkR x i).length : Nat) : Int) ≠ 3 by omega)
  · refine Hold.intro ?_; omega
  all_goals try exact absurd (by assumption : whyR x _ _ = 4) (by assumption)
  all_goals try exact (f2.1.elim (fun h => absurd h (by assumption)) (fun h => absurd h (by assumption)))
  all_goals have f3 := f2.2 (f2.1.resolve_right (by assumption))
  all_goals try exact Hold.intro f3.2.1
  all_goals try exact Hold.intro f3.1
  all_goals exact absurd f3.2.2 (by assumption)
theorem lawL30_vc (n : Int) (l : List P3) (b : Int) (hx : laidO (n, l) = none) : afun ⟨tyL, [(14, awake34C), (15, laidNC), (25, innerC), (26, degC), (27, linkC), (18, whyC), (29, draw34C), (28, newYC), (30, trianglesC)], []⟩ Try.f5 [soupE.av (n, l), (ETy.int .u8).av b] (fun r => r = .s (.bool true)) := by
  repeat' (conv => whnf
           first | done | refine Need.intro (by first | rfl | omega | (simp only [i64ok] at *; omega)) ?_ | refine Need.intro (Hold.out ?_) ?_ | refine Give.intro fun _ => ?_ | refine Both.intro ?_ ?_ | refine BIf.and ?_ | refine BIf.or ?_ | refine BIf.eqi (fun _ => ?_) (fun _ => ?_) | refine BIf.nei (fun _ => ?_) (fun _ => ?_) | refine BIf.dec (fun _ => ?_) (fun _ => ?_) | refine BIf.nt ?_ | refine BIf.intro (fun _ => ?_) (fun _ => ?_) | refine And.intro rfl ?_ | refine And.intro (HoldEq.out ?_) ?_ | refine And.intro (HoldOb.out ?_) ?_ | exact True.intro | refine HoldEq.out ?_ | refine HoldObs.out ?_ | refine KCheck.intro (by kernel_rfl) ?_ | refine HoldOr.out ?_)
  all_goals try first | refine HoldEq.int ?_ | refine HoldEq.bool ?_ | refine HoldEq.sl ?_ | refine HoldEq.own ?_ | refine HoldEq.ownS ?_ ?_ | refine HoldOb.row ?_ | refine HoldOb.map ?_ | refine HoldOb.gmap ?_ | refine HoldOb.grow ?_ | refine HoldObs.row ?_
  all_goals try simp only [take_one, take_one', set_one, take_all, List.length_singleton, rec_self, Int.toNat_natCast, pair_eta, ETy.dflt, List.getD_cons_zero, List.getD_cons_succ, Int.reduceToNat, Int.reduceAdd, Int.reduceSub, Int.reduceNeg, Nat.reduceAdd, Nat.zero_add] at *
  all_goals exact Hold.intro hx
def lawL3C : List AV → Option Res := con2 soupE (.int .u8) (fun _ _ => some (none, none, .s (.bool true)))
theorem degRow : FnRow Try.prog 26 degC := deg_row seqS
theorem lawL3Row : FnRow Try.prog 5 lawL3C := ⟨con2_ok fun s b r h => by
  cases h
  cases hx : laidO s with
  | none => exact fn_by (rulesF (fn := [(14, awake34C), (15, laidNC), (25, innerC), (26, degC), (27, linkC), (18, whyC), (29, draw34C), (28, newYC), (30, trianglesC)]) (fr := []) ⟨awake34Row, laidNRow, innerRow, degRow, linkRow, whyRow, draw34Row, newYRow, trianglesRow, trivial⟩ trivial) Try.func5 (by kernel_rfl) fun hg _ => lawL30_vc s.1 s.2 b hx
  | some x => exact fn_by (rulesF (fn := [(14, awake34C), (15, laidXC x), (25, innerC), (26, degC), (27, linkC), (18, whyC), (29, draw34C), (28, newYC), (30, trianglesC)]) (fr := []) ⟨awake34Row, (laidXRow x), innerRow, degRow, linkRow, whyRow, draw34Row, newYRow, trianglesRow, trivial⟩ trivial) Try.func5 (by kernel_rfl) fun hg _ => lawL3_vc s.1 s.2 b x (InK.u8 hg.2.1) hx, _, Try.func5, by kernel_rfl, by kernel_rfl⟩
end S1
