/- Calls that hand rows over to the caller. -/
import Derived.Test.YtkkhoppffmnkiaaVmMaps
set_option linter.unusedSimpArgs false
set_option linter.unusedVariables false
namespace Go.Vm
open Go.RowKit

/-- Rows that are nobody else's, from a block on. -/
def FreshL (σ : Sig) (base : Nat) (w : World) : List Ob → Places → Prop
  | [], [] => True
  | ob :: r, q :: s => (∃ e u xs, ob = .row e u xs) ∧ ObAt σ [q] w 0 ob ∧ (∀ p, q = some p → σ p.b = none ∧ base ≤ p.b ∧ ∀ q' ∈ s, ∀ p', q' = some p' → p'.b ≠ p.b) ∧ FreshL σ base w r s
  | _, _ => False

def FnOkF (P : Program) (f : FuncId) (args : List AV) (r : ResF) : Prop :=
  ∀ (σ : Sig) (vals : List Value) (w : World), (∀ b o, σ b = some o → w.heap[b]? = some o) → VReps σ [] args vals →
    Opt r.1 ∧ (Opt r.2.1 → Calls P f vals.toArray w fun e w' => ∃ v σ' β', e = .returned v ∧ σ.le σ' ∧ (∀ b o, σ' b = some o → w'.heap[b]? = some o) ∧
      (∀ b, σ b = none → b < w.heap.size → σ' b = none) ∧ VRep σ' β' r.2.2.1 v ∧ FreshL σ' w.heap.size w' r.2.2.2 β' ∧ Below w.heap.size w w')

structure TabFr (P : Program) (T : Tab) : Prop where
  ok : ∀ f c, lget T.fr f = some c → ∀ args r, c args = some r → FnOkF P f args r
  fn : ∀ f c, lget T.fr f = some c → ∃ fn, P.funcs[f]? = some fn ∧ (fn.name == "runtime.NumGoroutine") = false ∧ fn.body.isNone = false

section
variable {P : Program} {B : Base} {w : World} {σ : Sig} {β : Places} {st : St} {tmps : Array Value} {T : Tab} {hp : Heap}

theorem ObAt.move {γ : Places} {i j : Nat} {e : ETy} {u : TypeId} {xs : List e.T} (h : ObAt σ β w i (.row e u xs)) (he : β[i]? = γ[j]?) : ObAt σ γ w j (.row e u xs) := by
  obtain ⟨h0, h⟩ := h
  refine ⟨h0, ?_⟩
  rw [← he]; exact h

theorem GG.pushOne (h : GG B σ β st tmps w) {e : ETy} {u : TypeId} {xs : List e.T} {q : Option Bk} (ho : ObAt σ [q] w 0 (.row e u xs))
    (hs : ∀ p, q = some p → σ p.b = none ∧ B.w.heap.size ≤ p.b ∧ ∀ id ob p', hget st.hp id = some ob → β[id]? = some (some p') → p'.b ≠ p.b) :
    GG B σ (β ++ [q]) { st with hp := (st.next, .row e u xs) :: st.hp, next := st.next + 1 } tmps w := by
  have hlast : (β ++ [q])[st.next]? = some q := by rw [← h.len]; simp
  have hold : ∀ {id : Nat}, id < st.next → (β ++ [q])[id]? = β[id]? := fun hi => by rw [List.getElem?_append_left]; rw [h.len]; exact hi
  refine ⟨⟨h.mem.ag, fun id ob' hi => ?_⟩, fun t => (h.env t).more q, by simp [h.len], fun id ob' p hi hp => ?_, h.bel, h.grew⟩
  · simp only [hget_cons] at hi
    split at hi
    · rename_i e; subst e; cases hi; exact ho.move (by rw [hlast]; rfl)
    · exact (h.mem.ob _ _ hi).keep q fun p hp => rfl
  · simp only [hget_cons] at hi
    split at hi
    · rename_i e; subst e
      rw [hlast] at hp
      have hq := Option.some.inj hp
      obtain ⟨s1, s2, s3⟩ := hs p hq
      refine ⟨s1, s2, fun id' ob'' p' hne hi' hp' => ?_⟩
      simp only [hget_cons] at hi'
      rw [if_neg (Ne.symm hne)] at hi'
      have hlt := h.id_lt hi'
      rw [hold hlt] at hp'
      exact s3 _ _ _ hi' hp'
    · rename_i hne
      have hlt := h.id_lt hi
      rw [hold hlt] at hp
      obtain ⟨s1, s2, s3⟩ := h.sep _ _ _ hi hp
      refine ⟨s1, s2, fun id' ob'' p' hne' hi' hp' => ?_⟩
      simp only [hget_cons] at hi'
      split at hi'
      · rename_i e; subst e
        rw [hlast] at hp'
        exact fun e => (hs p' (Option.some.inj hp')).2.2 _ _ _ hi hp e.symm
      · have hlt' := h.id_lt hi'
        rw [hold hlt'] at hp'
        exact s3 _ _ _ hne' hi' hp'

theorem GG.push {base : Nat} (hb : B.w.heap.size ≤ base) : ∀ {obs : List Ob} {qs : Places} {st : St} {β : Places}, GG B σ β st tmps w → FreshL σ base w obs qs →
    (∀ id ob p, hget st.hp id = some ob → β[id]? = some (some p) → ∀ q ∈ qs, ∀ p', q = some p' → p.b ≠ p'.b) → GG B σ (β ++ qs) (pushObs st obs) tmps w
  | [], [], st, β, h, _, _ => by simpa [pushObs] using h
  | ob :: r, q :: s, st, β, h, hf, hs => by
    obtain ⟨⟨e, u, xs, rfl⟩, h1, h2, h3⟩ := hf
    have g := h.pushOne h1 fun p hp => ⟨(h2 p hp).1, Nat.le_trans hb (h2 p hp).2.1, fun id ob p' hi hp' => hs id ob p' hi hp' q (by simp) p hp⟩
    have hlast : (β ++ [q])[st.next]? = some q := by rw [← h.len]; simp
    have := GG.push hb g h3 fun id ob p hi hp q' hq' p' hp' => by
      simp only [hget_cons] at hi
      split at hi
      · rename_i e; subst e
        rw [hlast] at hp
        exact fun e => (h2 p (Option.some.inj hp)).2.2 q' hq' p' hp' e.symm
      · have hlt := h.id_lt hi
        rw [List.getElem?_append_left (by rw [h.len]; exact hlt)] at hp
        exact hs id ob p hi hp q' (by simp [hq']) p' hp'
    simpa [pushObs] using this
  | [], _ :: _, _, _, _, hf, _ => hf.elim
  | _ :: _, [], _, _, _, hf, _ => hf.elim

theorem ARep.shift {γ : Places} {a : AS} {v : Value} (h : ARep σ γ a v) : ARep σ (β ++ γ) (shiftAS β.length a) v := by
  have key : ∀ i, (β ++ γ)[β.length + i]? = γ[i]? := fun i => by rw [List.getElem?_append_right (by omega), Nat.add_sub_cancel_left]
  cases a with
  | own i s n => simp only [ARep, shiftAS] at h ⊢; rw [key]; exact h
  | ptr i j k => obtain ⟨p, e, r⟩ := h; exact ⟨p, (key i).trans e, r⟩
  | pti i j k => obtain ⟨p, e, r⟩ := h; exact ⟨p, (key i).trans e, r⟩
  | omp i => obtain ⟨p, e, r⟩ := h; exact ⟨p, (key i).trans e, r⟩
  | _ => exact h

theorem ERep.any {τ : Sig} : ∀ {e : ETy} {x : e.T} {ds : List Value}, e.solid = true → ERep σ e x ds → ERep τ e x ds
  | .int _, _, _, _, h => h
  | .bool, _, _, _, h => h
  | .arr2, _, _, _, h => h
  | .arr3, _, _, _, h => h
  | .pair a b, _, _, hs, h => by
    simp only [ETy.solid, Bool.and_eq_true] at hs
    obtain ⟨d1, d2, rfl, h1, h2⟩ := h; exact ⟨d1, d2, rfl, h1.any hs.1, h2.any hs.2⟩

theorem ObAt.any {τ : Sig} {i : Nat} {ob : Ob} (hs : ob.solid = true) (h : ObAt σ β w i ob) : ObAt τ β w i ob := by
  cases ob with
  | row e u xs =>
    obtain ⟨h0, h⟩ := h
    refine ⟨h0, ?_⟩
    cases hβ : β[i]? with
    | none => simp [hβ] at h
    | some q => cases q with
      | none => simpa [hβ] using h
      | some p =>
        simp only [hβ] at h ⊢
        obtain ⟨h1, h2, h3, c, h4, h5, h6⟩ := h
        exact ⟨h1, h2, h3, c, h4, h5, fun i x hx => let ⟨d, e1, e2⟩ := h6 i x hx; ⟨d, e1.any hs, e2⟩⟩
  | flat => cases hs
  | map => cases hs

theorem FreshL.any {τ : Sig} {base : Nat} : ∀ {obs : List Ob} {qs : Places}, obs.all Ob.solid = true → (∀ b, base ≤ b → τ b = none) → FreshL σ base w obs qs → FreshL τ base w obs qs
  | [], [], _, _, h => h
  | ob :: r, q :: s, hs, hn, ⟨h1, h2, h3, h4⟩ => by
    simp only [List.all_cons, Bool.and_eq_true] at hs
    exact ⟨h1, h2.any hs.1, fun p hp => ⟨hn _ (h3 p hp).2.1, (h3 p hp).2⟩, FreshL.any hs.2 hn h4⟩
  | [], _ :: _, _, _, h => h.elim
  | _ :: _, [], _, _, h => h.elim

theorem FreshL.ge {base : Nat} : ∀ {obs : List Ob} {qs : Places}, FreshL σ base w obs qs → ∀ q ∈ qs, ∀ p, q = some p → base ≤ p.b
  | [], [], _, q, hq, _, _ => by cases hq
  | ob :: r, q :: s, ⟨_, _, h3, h4⟩, q', hq', p, hp => by
    cases List.mem_cons.1 hq' with
    | inl e => subst e; exact (h3 p hp).2.1
    | inr e => exact FreshL.ge h4 q' e p hp
  | [], _ :: _, h, _, _, _, _ => h.elim
  | _ :: _, [], h, _, _, _, _ => h.elim

theorem plainF_rep {τ : Sig} {a : AS} {v : Value} (hc : a.plainF = true) (ha : ARep σ β a v) : ARep τ β a v := by
  cases a <;> first | exact ha | (simp [AS.plainF, AS.plain] at hc)

theorem plainF_all {τ : Sig} : ∀ {l : List AS} {ds : List Value}, l.all AS.plainF = true → All2 (ARep σ β) l ds → All2 (ARep τ β) l ds
  | [], [], _, _ => trivial
  | a :: l, d :: ds, h, hr => by
    simp only [List.all_cons, Bool.and_eq_true] at h
    exact ⟨plainF_rep h.1 hr.1, plainF_all h.2 hr.2⟩
  | [], _ :: _, _, hr => hr.elim
  | _ :: _, [], _, hr => hr.elim

theorem plainF_tup {τ : Sig} : ∀ {l : List AV} {ds : List Value}, (l.all fun v => match v with
    | .s a => a.plainF
    | .agg l => l.all AS.plainF
    | .tup _ => false) = true → VReps σ β l ds → VReps τ β l ds
  | [], [], _, _ => trivial
  | a :: l, d :: ds, h, hr => by
    simp only [List.all_cons, Bool.and_eq_true] at h
    refine ⟨?_, plainF_tup h.2 hr.2⟩
    cases a with
    | s a => exact plainF_rep h.1 hr.1
    | agg l => obtain ⟨ds, e, r⟩ := hr.1; exact ⟨ds, e, plainF_all h.1 r⟩
    | tup l => cases h.1
  | [], _ :: _, _, hr => hr.elim
  | _ :: _, [], _, hr => hr.elim

theorem AV.plainF_rep {τ : Sig} {a : AV} {v : Value} (hc : a.plainF = true) (ha : VRep σ β a v) : VRep τ β a v := by
  cases a with
  | s a => exact Vm.plainF_rep hc ha
  | agg l => obtain ⟨ds, e, r⟩ := ha; exact ⟨ds, e, plainF_all hc r⟩
  | tup l => obtain ⟨vs, e, r⟩ := ha; exact ⟨vs, e, plainF_tup hc r⟩



/-- A call that hands rows over. -/
theorem callF_sound (hF : TabFr P T) (h : GG B σ β st tmps w) {f : FuncId} {vs : List AV} {vals : List Value} (hv : VReps σ β vs vals) {d : Option Tmp} (hd : dstOk d tmps) {p q : Option Prop} {st' : St}
    (hc : eCallF T f vs st d = some (p, q, st')) :
    Opt p ∧ (Opt q → Calls P f vals.toArray w fun e w' => ∃ u σ' β', e = .returned u ∧ GG B σ' β' st' (putT tmps d u) w') ∧
      ∃ fn, P.funcs[f]? = some fn ∧ (fn.name == "runtime.NumGoroutine") = false ∧ fn.body.isNone = false := by
  unfold eCallF at hc
  split at hc
  case h_2 => cases hc
  rename_i c hcf
  split at hc
  case h_2 => cases hc
  rename_i p' q' v obs hcr
  split at hc
  case h_2 => cases hc
  rename_i hcl
  cases hc
  rw [Bool.or_eq_true] at hcl
  obtain ⟨fn, hfn⟩ := hF.fn _ _ hcf
  have hok := hF.ok _ _ hcf _ _ hcr
  have put : ∀ {σ' : Sig} {β' : Places} {st' : St} {w' : World} {u : Value}, GG B σ' (β ++ β') st' tmps w' → VRep σ' β' v u → ∃ σ'' β'', GG B σ'' β'' (st'.put d (v.mapAS (shiftAS st.next))) (putT tmps d u) w' := by
    intro σ' β' st' w' u hg hu
    refine ⟨σ', β ++ β', hg.put hd ?_⟩
    rw [← h.len]
    exact hu.mapAS fun a v ha => ARep.shift ha
  rcases hcl with hcl | hpl
  · have hview : ∀ {l : List AV} {ds : List Value}, l.all AV.clear = true → VReps σ β l ds → l.map (AV.view st.hp) = l ∧ VReps σ [] l ds := by
      intro l
      induction l with
      | nil => intro ds _ hr; cases ds with
        | nil => exact ⟨rfl, trivial⟩
        | cons _ _ => exact hr.elim
      | cons a l ih => intro ds hh hr; cases ds with
        | nil => exact hr.elim
        | cons d ds =>
          simp only [List.all_cons, Bool.and_eq_true] at hh
          obtain ⟨h1, h2⟩ := ih hh.2 hr.2
          obtain ⟨h3, h4⟩ := AV.clear_rep (hp := st.hp) hh.1 hr.1
          exact ⟨by simp [h1, h3], h4, h2⟩
    obtain ⟨h1, h2⟩ := hview hcl hv
    rw [h1] at hok
    obtain ⟨h3, h4⟩ := hok σ vals w h.mem.ag h2
    refine ⟨h3, fun hq => (h4 hq).mono fun e w' ⟨u, σ', β', e1, e2, e3, e4, e5, e6, e7⟩ => ?_, fn, hfn⟩
    have hg := (h.world e2 e3 e4 e7).push h.bel.size e6 fun id ob p hi hp q hq p' hp' => by
      have := (h.mem.ob _ _ hi).lt hp
      have := FreshL.ge e6 q hq p' hp'
      omega
    obtain ⟨σ'', β'', hg⟩ := put hg e5
    exact ⟨u, σ'', β'', e1, hg⟩
  · rw [Bool.and_eq_true] at hpl
    have hview : ∀ {l : List AV} {ds : List Value}, VReps σ β l ds → VReps (allSig w) [] (l.map (AV.view st.hp)) ds := by
      intro l
      induction l with
      | nil => intro ds hr; cases ds with
        | nil => trivial
        | cons _ _ => exact hr.elim
      | cons a l ih => intro ds hr; cases ds with
        | nil => exact hr.elim
        | cons d ds => exact ⟨AV.view_rep h.mem hr.1, ih hr.2⟩
    obtain ⟨h3, h4⟩ := hok (allSig w) vals w (fun _ _ e => e) (hview hv)
    refine ⟨h3, fun hq => (h4 hq).mono fun e w' ⟨u, σ', β', e1, e2, e3, e4, e5, e6, e7⟩ => ?_, fn, hfn⟩
    have hw : GG B σ β st tmps w' := h.world (Sig.le.refl _) (fun b o e => by
      rw [e7.block _ ((Array.getElem?_eq_some_iff.1 (h.mem.ag _ _ e)).1)]
      exact h.mem.ag _ _ e) (fun _ e _ => e) e7
    have hf : FreshL σ w.heap.size w' obs β' := e6.any hpl.2 fun b hb => by
      cases e : σ b with
      | none => rfl
      | some o => have := (Array.getElem?_eq_some_iff.1 (h.mem.ag _ _ e)).1; omega
    have hg := hw.push h.bel.size hf fun id ob p hi hp q hq p' hp' => by
      have := (h.mem.ob _ _ hi).lt hp
      have := FreshL.ge e6 q hq p' hp'
      omega
    obtain ⟨σ'', β'', hg⟩ := put hg (AV.plainF_rep hpl.1 e5)
    exact ⟨u, σ'', β'', e1, hg⟩
end
end Go.Vm
