/- What holds between the abstract state and the model's, and how it is kept. -/
import Derived.Test.YtkkhoppffmnkiaaVmOps5
set_option linter.unusedSimpArgs false
set_option linter.unusedVariables false
namespace Go.Vm
open Go.RowKit

/-- Where a function began: the world, and what it knew of it. -/
structure Base where
  w : World
  sg : Sig

/-- What is known has grown, by nothing that lay there before. -/
def Grew (B : Base) (σ : Sig) : Prop := B.sg.le σ ∧ ∀ b, B.sg b = none → b < B.w.heap.size → σ b = none

structure GG (B : Base) (σ : Sig) (β : Places) (st : St) (tmps : Array Value) (w : World) : Prop where
  mem : Mem σ β st.hp w
  env : ∀ t, VRep σ β (eget st.env t) (tmps.getD t undef)
  len : β.length = st.next
  sep : ∀ id ob p, hget st.hp id = some ob → β[id]? = some (some p) → σ p.b = none ∧ B.w.heap.size ≤ p.b ∧
    ∀ id' ob' p', id' ≠ id → hget st.hp id' = some ob' → β[id']? = some (some p') → p'.b ≠ p.b
  bel : Below B.w.heap.size B.w w
  grew : Grew B σ

def G (B : Base) (st : St) (a : Act) (w : World) : Prop := a.defers = [] ∧ ∃ σ β, GG B σ β st a.tmps w

section
variable {B : Base} {w : World} {σ : Sig} {β : Places} {st : St} {tmps : Array Value}

theorem VRep.undef : VRep σ β .undef undef := ⟨rfl, fun cs h => by cases h⟩

theorem eget_cons (k : Nat) (v : AV) (r : Env) (t : Nat) : eget ((k, v) :: r) t = if k = t then v else eget r t := by
  simp only [eget]
  by_cases h : k = t
  · subst h; simp [Nat.beq_refl]
  · rw [if_neg h]
    have : Nat.beq k t = false := by
      cases e : Nat.beq k t with
      | false => rfl
      | true => exact (h (Nat.eq_of_beq_eq_true e)).elim
    rw [this]
theorem hget_cons (k : Nat) (v : Ob) (r : Heap) (t : Nat) : hget ((k, v) :: r) t = if k = t then some v else hget r t := by
  simp only [hget]
  by_cases h : k = t
  · subst h; simp [Nat.beq_refl]
  · rw [if_neg h]
    have : Nat.beq k t = false := by
      cases e : Nat.beq k t with
      | false => rfl
      | true => exact (h (Nat.eq_of_beq_eq_true e)).elim
    rw [this]

theorem getD_set (tmps : Array Value) (d t : Nat) (v : Value) (h : d < tmps.size) : (tmps.setIfInBounds d v).getD t undef = if d = t then v else tmps.getD t undef := by
  simp only [Array.getD_eq_getD_getElem?, Array.getElem?_setIfInBounds]
  by_cases e : d = t
  · subst e; simp [h]
  · simp [e]

/-- Is there such a slot? -/
def dstOk (d : Option Tmp) (tmps : Array Value) : Prop := ∀ t, d = some t → t < tmps.size

def putT (tmps : Array Value) (d : Option Tmp) (v : Value) : Array Value := match d with
  | some t => tmps.setIfInBounds t v
  | none => tmps

theorem GG.put (h : GG B σ β st tmps w) {d : Option Tmp} (hd : dstOk d tmps) {a : AV} {v : Value} (hv : VRep σ β a v) : GG B σ β (st.put d a) (putT tmps d v) w := by
  cases d with
  | none => exact h
  | some t =>
    refine ⟨h.mem, fun t' => ?_, h.len, h.sep, h.bel, h.grew⟩
    show VRep σ β (eget ((t, a) :: st.env) t') ((tmps.setIfInBounds t v).getD t' Go.undef)
    rw [eget_cons, getD_set _ _ _ _ (hd t rfl)]
    split
    · exact hv
    · exact h.env t'

theorem ObAt.keep {w' : World} {id : Nat} {ob : Ob} (q : Option Bk) (h : ObAt σ β w id ob) (hk : ∀ p, β[id]? = some (some p) → w'.heap[p.b]? = w.heap[p.b]?) : ObAt σ (β ++ [q]) w' id ob := by
  have key : ∀ {x : Option Bk}, β[id]? = some x → (β ++ [q])[id]? = some x := fun {x} e => by
    rw [List.getElem?_append_left]; exact e
    exact (List.getElem?_eq_some_iff.1 e).1
  cases ob with
  | row e T xs =>
    obtain ⟨h0, h⟩ := h
    refine ⟨h0, ?_⟩
    cases hβ : β[id]? with
    | none => simp [hβ] at h
    | some x =>
      rw [key hβ]
      cases x with
      | none => simpa [hβ] using h
      | some p =>
        simp only [hβ] at h ⊢
        obtain ⟨h1, h2, h3, c, h4, h5⟩ := h
        exact ⟨h1, h2, h3, c, by rw [hk p hβ]; exact h4, h5⟩
  | flat T cs =>
    obtain ⟨p, h1, h2, h3, h4, h5, c, h6, h7⟩ := h
    exact ⟨p, key h1, h2, h3, h4, h5, c, by rw [hk p h1]; exact h6, h7.mono fun _ _ => ARep.more q⟩
  | map k v m =>
    obtain ⟨h0, p, es, clock, h1, h2, h3⟩ := h
    exact ⟨h0, p, es, clock, key h1, by rw [hk p h1]; exact h2, h3⟩

theorem ObAt.same {w' : World} {id : Nat} {ob : Ob} (h : ObAt σ β w id ob) (hk : ∀ p, β[id]? = some (some p) → w'.heap[p.b]? = w.heap[p.b]?) : ObAt σ β w' id ob := by
  cases ob with
  | row e T xs =>
    obtain ⟨h0, h⟩ := h
    refine ⟨h0, ?_⟩
    cases hβ : β[id]? with
    | none => simp [hβ] at h
    | some x =>
      cases x with
      | none => simpa [hβ] using h
      | some p =>
        simp only [hβ] at h ⊢
        obtain ⟨h1, h2, h3, c, h4, h5⟩ := h
        exact ⟨h1, h2, h3, c, by rw [hk p hβ]; exact h4, h5⟩
  | flat T cs =>
    obtain ⟨p, h1, h2, h3, h4, h5, c, h6, h7⟩ := h
    exact ⟨p, h1, h2, h3, h4, h5, c, by rw [hk p h1]; exact h6, h7⟩
  | map k v m =>
    obtain ⟨h0, p, es, clock, h1, h2, h3⟩ := h
    exact ⟨h0, p, es, clock, h1, by rw [hk p h1]; exact h2, h3⟩

theorem ObAt.sig {τ : Sig} {id : Nat} {ob : Ob} (hs : σ.le τ) (h : ObAt σ β w id ob) : ObAt τ β w id ob := by
  cases ob with
  | row e T xs =>
    obtain ⟨h0, h⟩ := h
    refine ⟨h0, ?_⟩
    cases hβ : β[id]? with
    | none => simp [hβ] at h
    | some x =>
      cases x with
      | none => simpa [hβ] using h
      | some p =>
        simp only [hβ] at h ⊢
        obtain ⟨h1, h2, h3, c, h4, h5, h6⟩ := h
        exact ⟨h1, h2, h3, c, h4, h5, fun i x hx => let ⟨d, e1, e2⟩ := h6 i x hx; ⟨d, e1.mono hs, e2⟩⟩
  | flat T cs =>
    obtain ⟨p, h1, h2, h3, h4, h5, c, h6, h7⟩ := h
    exact ⟨p, h1, h2, h3, h4, h5, c, h6, h7.mono fun _ _ => ARep.mono hs⟩
  | map k v m =>
    obtain ⟨h0, p, es, clock, h1, h2, h3, h4⟩ := h
    exact ⟨h0, p, es, clock, h1, h2, h3, fun i x hx => let ⟨en, dk, dv, e1, e2, e3, e4, e5⟩ := h4 i x hx; ⟨en, dk, dv, e1, e2.mono hs, e3, e4.mono hs, e5⟩⟩

/-- An owned thing has a place among the places. -/
theorem ObAt.place {id : Nat} {ob : Ob} (h : ObAt σ β w id ob) : ∃ x, β[id]? = some x := by
  cases ob with
  | row e T xs =>
    cases hβ : β[id]? with
    | none => simp [ObAt, hβ] at h
    | some x => exact ⟨x, rfl⟩
  | flat T cs => obtain ⟨p, h1, _⟩ := h; exact ⟨_, h1⟩
  | map k v m => obtain ⟨_, p, _, _, h1, _⟩ := h; exact ⟨_, h1⟩

theorem ObAt.lt {id : Nat} {ob : Ob} {p : Bk} (h : ObAt σ β w id ob) (hp : β[id]? = some (some p)) : p.b < w.heap.size := by
  have : ∃ o, w.heap[p.b]? = some o := by
    cases ob with
    | row e T xs => have := h.2; simp only [hp] at this; obtain ⟨_, _, _, c, h4, _⟩ := this; exact ⟨_, h4⟩
    | flat T cs => obtain ⟨p2, h1, _, _, _, _, c, h6, _⟩ := h; rw [hp] at h1; cases h1; exact ⟨_, h6⟩
    | map k v m => obtain ⟨_, p2, es, clock, h1, h2, _⟩ := h; rw [hp] at h1; cases h1; exact ⟨_, h2⟩
  obtain ⟨o, ho⟩ := this
  exact (Array.getElem?_eq_some_iff.1 ho).1

theorem GG.id_lt (h : GG B σ β st tmps w) {id : Nat} {ob : Ob} (hi : hget st.hp id = some ob) : id < st.next := by
  obtain ⟨x, hx⟩ := (h.mem.ob _ _ hi).place
  rw [← h.len]; exact (List.getElem?_eq_some_iff.1 hx).1

/-- A new thing of the function's own: with a block of its own, or (a nil slice) with none. -/
theorem GG.fresh (h : GG B σ β st tmps w) {d : Option Tmp} (hd : dstOk d tmps) {ob : Ob} {q : Option Bk} {a : AV} {v : Value} {w' : World}
    (hw : ∀ k, k < w.heap.size → w'.heap[k]? = w.heap[k]?) (hb : Below B.w.heap.size w w') (hq : ∀ p, q = some p → p.b = w.heap.size)
    (ho : ObAt σ (β ++ [q]) w' st.next ob) (hv : VRep σ (β ++ [q]) a v) :
    GG B σ (β ++ [q]) (({ st with hp := (st.next, ob) :: st.hp, next := st.next + 1 } : St).put d a) (putT tmps d v) w' := by
  have hlast : (β ++ [q])[st.next]? = some q := by rw [← h.len]; simp
  have hold : ∀ {id : Nat}, id < st.next → (β ++ [q])[id]? = β[id]? := fun hi => by rw [List.getElem?_append_left]; rw [h.len]; exact hi
  have hsig : ∀ b o, σ b = some o → b < w.heap.size := fun b o e => (Array.getElem?_eq_some_iff.1 (h.mem.ag _ _ e)).1
  have base : GG B σ (β ++ [q]) { st with hp := (st.next, ob) :: st.hp, next := st.next + 1 } tmps w' := by
    refine ⟨⟨fun b o e => ?_, fun id ob' hi => ?_⟩, fun t => (h.env t).more q, by simp [h.len], fun id ob' p hi hp => ?_, h.bel.trans hb, h.grew⟩
    · rw [hw b (hsig b o e)]; exact h.mem.ag _ _ e
    · simp only [hget_cons] at hi
      split at hi
      · rename_i e; subst e; cases hi; exact ho
      · exact (h.mem.ob _ _ hi).keep q fun p hp => hw _ ((h.mem.ob _ _ hi).lt hp)
    · simp only [hget_cons] at hi
      split at hi
      · rename_i e; subst e
        rw [hlast] at hp; cases hp
        have hpb := hq p rfl
        refine ⟨?_, by rw [hpb]; exact h.bel.size, fun id' ob'' p' hne hi' hp' => ?_⟩
        · cases e : σ p.b with
          | none => rfl
          | some o => have := hsig _ _ e; omega
        · simp only [hget_cons] at hi'
          rw [if_neg (Ne.symm hne)] at hi'
          have hlt := h.id_lt hi'
          rw [hold hlt] at hp'
          have := (h.mem.ob _ _ hi').lt hp'
          omega
      · rename_i hne
        have hlt := h.id_lt hi
        rw [hold hlt] at hp
        obtain ⟨s1, s2, s3⟩ := h.sep _ _ _ hi hp
        refine ⟨s1, s2, fun id' ob'' p' hne' hi' hp' => ?_⟩
        simp only [hget_cons] at hi'
        split at hi'
        · rename_i e; subst e
          rw [hlast] at hp'; cases hp'
          have := hq p' rfl
          have := (h.mem.ob _ _ hi).lt hp
          omega
        · have hlt' := h.id_lt hi'
          rw [hold hlt'] at hp'
          exact s3 _ _ _ hne' hi' hp'
  exact base.put hd hv

/-- An owned thing is turned, in its own block. -/
theorem GG.turn (h : GG B σ β st tmps w) {id : Nat} {ob ob' : Ob} {p : Bk} (hi : hget st.hp id = some ob) (hp : β[id]? = some (some p)) {w' : World}
    (hw : ∀ k, k ≠ p.b → w'.heap[k]? = w.heap[k]?) (hb : Below B.w.heap.size w w') (ho : ObAt σ β w' id ob') : GG B σ β { st with hp := hset st.hp id ob' } tmps w' := by
  have hget_set : ∀ {l : Heap} {i : Nat}, (∃ o, hget l id = some o) → hget (hset l id ob') i = if i = id then some ob' else hget l i := by
    intro l i
    induction l with
    | nil => intro ⟨o, e⟩; cases e
    | cons x r ih =>
      obtain ⟨k, v⟩ := x
      intro ⟨o, e⟩
      simp only [hset]
      cases hk : Nat.beq k id with
      | true =>
        have := Nat.eq_of_beq_eq_true hk
        subst this
        simp only [hget_cons]
        by_cases e : i = k
        · subst e; simp
        · rw [if_neg (Ne.symm e), if_neg (Ne.symm e), if_neg e]
      | false =>
        have hne : k ≠ id := by intro e; subst e; simp [Nat.beq_refl] at hk
        simp only [hget_cons] at e ⊢
        rw [if_neg hne] at e
        rw [ih ⟨o, e⟩]
        by_cases e1 : k = i
        · subst e1; simp [hne]
        · simp [e1]
  obtain ⟨s1, s2, s3⟩ := h.sep _ _ _ hi hp
  refine ⟨⟨fun b o e => ?_, fun id' ob'' hi' => ?_⟩, h.env, h.len, fun id' ob'' p' hi' hp' => ?_, h.bel.trans hb, h.grew⟩
  · rw [hw b (by rintro rfl; rw [s1] at e; cases e)]; exact h.mem.ag _ _ e
  · simp only [hget_set ⟨_, hi⟩] at hi'
    split at hi'
    · rename_i e; subst e; cases hi'; exact ho
    · rename_i hne
      exact (h.mem.ob _ _ hi').same fun q hq => hw _ (s3 _ _ _ hne hi' hq)
  · simp only [hget_set ⟨_, hi⟩] at hi'
    split at hi'
    · rename_i e; subst e
      rw [hp] at hp'; cases hp'
      refine ⟨s1, s2, fun id2 ob2 p2 hne hi2 hp2 => ?_⟩
      simp only [hget_set ⟨_, hi⟩] at hi2
      rw [if_neg hne] at hi2
      exact s3 _ _ _ hne hi2 hp2
    · rename_i hne
      obtain ⟨t1, t2, t3⟩ := h.sep _ _ _ hi' hp'
      refine ⟨t1, t2, fun id2 ob2 p2 hne2 hi2 hp2 => ?_⟩
      simp only [hget_set ⟨_, hi⟩] at hi2
      split at hi2
      · rename_i e; subst e; rw [hp] at hp2; cases hp2; exact fun e => (s3 _ _ _ hne hi' hp') e.symm
      · exact t3 _ _ _ hne2 hi2 hp2
end
end Go.Vm
