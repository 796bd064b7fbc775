/- Calls of functions by what is proved of them. -/
import Derived.Test.YtkkhoppffmnkiaaVmApp
import Derived.CallsIn
import Derived.OrdersIn
set_option linter.unusedSimpArgs false
set_option linter.unusedVariables false
namespace Go.Vm
open Go.RowKit

/-- What is proved of a function at some arguments: under what (the second part), what it hands back (the third); the first part is known besides. -/
def FnOk (P : Program) (f : FuncId) (args : List AV) (r : Res) : Prop :=
  ∀ (σ : Sig) (vals : List Value) (w : World), (∀ b o, σ b = some o → w.heap[b]? = some o) → VReps σ [] args vals →
    Opt r.1 ∧ (Opt r.2.1 → Calls P f vals.toArray w fun e w' => ∃ v σ', e = .returned v ∧ σ.le σ' ∧ (∀ b o, σ' b = some o → w'.heap[b]? = some o) ∧
      (∀ b, σ b = none → b < w.heap.size → σ' b = none) ∧ VRep σ' [] r.2.2 v ∧ Below w.heap.size w w')

structure TabFn (P : Program) (T : Tab) : Prop where
  ok : ∀ f c, lget T.fn f = some c → ∀ args r, c args = some r → FnOk P f args r
  fn : ∀ f c, lget T.fn f = some c → ∃ fn, P.funcs[f]? = some fn ∧ (fn.name == "runtime.NumGoroutine") = false ∧ fn.body.isNone = false

section
variable {P : Program} {B : Base} {w : World} {σ : Sig} {β : Places} {st : St} {tmps : Array Value} {T : Tab} {hp : Heap}

/-- The whole of memory as known. -/
def allSig (w : World) : Sig := fun b => w.heap[b]?

theorem allSig_le (h : Mem σ β hp w) : σ.le (allSig w) := fun b o e => h.ag b o e

theorem view_rep_at {τ : Sig} (hτ : σ.le τ) (hown : ∀ id ob p, hget hp id = some ob → β[id]? = some (some p) → τ p.b = w.heap[p.b]?) (h : Mem σ β hp w) {a : AS} {v : Value} (ha : ARep σ β a v) : ARep τ [] (view hp a) v := by
  cases a with
  | int => exact ha
  | bool => exact ha
  | val => exact ha
  | sl => exact ERep.mono hτ ha
  | mp => exact ERep.mono hτ ha
  | pt => exact ERep.mono hτ ha
  | ip => obtain ⟨b, o, d, e, h1, h2⟩ := ha; exact ⟨b, o, d, e, h1.mono hτ, h2.mono hτ⟩
  | ipi => obtain ⟨b, o, d, e, h1, h2, h3⟩ := ha; exact ⟨b, o, d, e, h1.mono hτ, h2.mono hτ, h3⟩
  | junk => trivial
  | pti => trivial
  | own id s n =>
    simp only [view]
    split
    · rename_i e u xs hid
      obtain ⟨hl, hob⟩ := h.ob _ _ hid
      simp only [ARep] at ha
      cases hβ : β[id]? with
      | none => simp [hβ] at ha
      | some q =>
        cases q with
        | none =>
          simp only [hβ] at ha hob
          obtain ⟨rfl, rfl, rfl⟩ := ha
          subst hob
          exact ⟨none, 0, rfl, by simp, by simp, fun h => (h rfl).elim⟩
        | some p =>
          simp only [hβ] at ha hob
          obtain ⟨ad, cap, rfl, h1, h2, h3, h4⟩ := ha
          obtain ⟨q1, q2, q3, c, q4, q5, q6⟩ := hob
          have hlen : ((xs.drop s).take n).length = n := by simp; omega
          refine ⟨some ad, cap, by rw [hlen], by omega, by omega, fun hne => ?_⟩
          have hn : n ≠ 0 := by rintro rfl; simp at hne
          obtain rfl : ad = _ := h2.resolve_left (by omega)
          refine ⟨p.b, p.o + s * p.sz, rfl, fun i y hy => ?_⟩
          have hy' : xs[s + i]? = some y := by
            rw [List.getElem?_take] at hy
            split at hy
            · rw [List.getElem?_drop] at hy; exact hy
            · cases hy
          obtain ⟨d, h7, h8⟩ := q6 _ _ hy'
          refine ⟨d, h7.mono hτ, c, u, (0, 0), (hown _ _ _ hid hβ).trans q4, fun j v hj => ?_⟩
          have := h8 j v hj
          rw [← this, ← q1, Nat.add_mul]; congr 1; omega
    · trivial
  | ptr id i k =>
    cases k with
    | succ k => trivial
    | zero =>
      simp only [view]
      split
      · rename_i e u xs hid
        obtain ⟨hl, hob⟩ := h.ob _ _ hid
        obtain ⟨p, hp', rfl, hi⟩ := ha
        simp only [hp'] at hob
        obtain ⟨q1, q2, q3, c, q4, q5, q6⟩ := hob
        obtain ⟨y, hy⟩ := exists_get (l := xs) (q2 ▸ hi)
        obtain ⟨d, h7, h8⟩ := q6 _ _ hy
        rw [getD_of hy]
        exact ⟨p.b, p.o + i * p.sz, d, rfl, h7.mono hτ, c, u, (0, 0), (hown _ _ _ hid hp').trans q4, h8⟩
      · trivial
  | omp id =>
    simp only [view]
    split
    · rename_i k v m hid
      obtain ⟨hl, p, es, clock, h1, h2, h3, h4⟩ := h.ob _ _ hid
      obtain ⟨p', h1', rfl, _⟩ := ha
      rw [h1] at h1'; cases h1'
      refine ⟨some p.b, rfl, hl, (fun e => by cases e), fun b hb => ?_⟩
      cases hb
      exact ⟨es, clock, (hown _ _ _ hid h1).trans h2, h3, fun i x hx => let ⟨en, dk, dv, e1, e2, e3, e4, e5⟩ := h4 i x hx; ⟨en, dk, dv, e1, e2.mono hτ, e3, e4.mono hτ, e5⟩⟩
    · trivial

theorem view_rep (h : Mem σ β hp w) {a : AS} {v : Value} (ha : ARep σ β a v) : ARep (allSig w) [] (view hp a) v := view_rep_at (allSig_le h) (fun _ _ _ _ _ => rfl) h ha

theorem AV.view_rep_at {τ : Sig} (hτ : σ.le τ) (hown : ∀ id ob p, hget hp id = some ob → β[id]? = some (some p) → τ p.b = w.heap[p.b]?) (h : Mem σ β hp w) {a : AV} {v : Value} (ha : VRep σ β a v) : VRep τ [] (a.view hp) v := by
  cases a with
  | s a => exact Vm.view_rep_at hτ hown h ha
  | agg l => obtain ⟨ds, e, r⟩ := ha; exact ⟨ds, e, r.map (Vm.view hp) fun _ _ h' => Vm.view_rep_at hτ hown h h'⟩
  | tup l => trivial

theorem AV.view_rep (h : Mem σ β hp w) {a : AV} {v : Value} (ha : VRep σ β a v) : VRep (allSig w) [] (a.view hp) v := by
  cases a with
  | s a => exact Vm.view_rep h ha
  | agg l => obtain ⟨ds, e, r⟩ := ha; exact ⟨ds, e, r.map (Vm.view hp) fun _ _ h' => Vm.view_rep h h'⟩
  | tup l => trivial

theorem AS.clear_rep {a : AS} {v : Value} (hc : a.clear = true) (ha : ARep σ β a v) : view hp a = a ∧ ARep σ [] a v := by
  cases a <;> first | exact ⟨rfl, ha⟩ | (simp [AS.clear] at hc)

theorem clear_all : ∀ {l : List AS} {ds : List Value}, l.all AS.clear = true → All2 (ARep σ β) l ds → l.map (view hp) = l ∧ All2 (ARep σ []) l ds
  | [], [], _, _ => ⟨rfl, trivial⟩
  | a :: l, d :: ds, h, hr => by
    simp only [List.all_cons, Bool.and_eq_true] at h
    obtain ⟨h1, h2⟩ := clear_all h.2 hr.2
    obtain ⟨h3, h4⟩ := AS.clear_rep (hp := hp) h.1 hr.1
    exact ⟨by simp [h1, h3], h4, h2⟩
  | [], _ :: _, _, hr => hr.elim
  | _ :: _, [], _, hr => hr.elim

theorem AV.clear_rep {a : AV} {v : Value} (hc : a.clear = true) (ha : VRep σ β a v) : a.view hp = a ∧ VRep σ [] a v := by
  cases a with
  | s a => obtain ⟨h1, h2⟩ := AS.clear_rep (hp := hp) hc ha; exact ⟨congrArg AV.s h1, h2⟩
  | agg l => obtain ⟨ds, e, r⟩ := ha; obtain ⟨h1, h2⟩ := clear_all (hp := hp) hc r; exact ⟨congrArg AV.agg h1, ds, e, h2⟩
  | tup l => cases hc

theorem plain_rep {τ : Sig} {γ : Places} {a : AS} {v : Value} (hc : a.plain = true) (ha : ARep σ β a v) : ARep τ γ a v := by
  cases a <;> first | exact ha | (simp [AS.plain] at hc)

theorem plain_all {τ : Sig} {γ : Places} : ∀ {l : List AS} {ds : List Value}, l.all AS.plain = true → All2 (ARep σ β) l ds → All2 (ARep τ γ) l ds
  | [], [], _, _ => trivial
  | a :: l, d :: ds, h, hr => by
    simp only [List.all_cons, Bool.and_eq_true] at h
    exact ⟨plain_rep h.1 hr.1, plain_all h.2 hr.2⟩
  | [], _ :: _, _, hr => hr.elim
  | _ :: _, [], _, hr => hr.elim

theorem plain_tup {τ : Sig} {γ : Places} : ∀ {l : List AV} {ds : List Value}, (l.all fun v => match v with
    | .s a => a.plain
    | .agg l => l.all AS.plain
    | .tup _ => false) = true → VReps σ β l ds → VReps τ γ l ds
  | [], [], _, _ => trivial
  | a :: l, d :: ds, h, hr => by
    simp only [List.all_cons, Bool.and_eq_true] at h
    refine ⟨?_, plain_tup h.2 hr.2⟩
    cases a with
    | s a => exact plain_rep h.1 hr.1
    | agg l => obtain ⟨ds, e, r⟩ := hr.1; exact ⟨ds, e, plain_all h.1 r⟩
    | tup l => cases h.1
  | [], _ :: _, _, hr => hr.elim
  | _ :: _, [], _, hr => hr.elim

theorem AV.plain_rep {τ : Sig} {γ : Places} {a : AV} {v : Value} (hc : a.plain = true) (ha : VRep σ β a v) : VRep τ γ a v := by
  cases a with
  | s a => exact Vm.plain_rep hc ha
  | agg l => obtain ⟨ds, e, r⟩ := ha; exact ⟨ds, e, plain_all hc r⟩
  | tup l => obtain ⟨vs, e, r⟩ := ha; exact ⟨vs, e, plain_tup hc r⟩

/-- What is handed back by a callee that was handed nothing owned may hold on to memory of its own. -/
theorem VRep.nil_any {a : AV} {v : Value} (h : VRep σ [] a v) : VRep σ β a v := by
  refine h.map fun a v ha => ?_
  cases a with
  | own id s n => simp [ARep] at ha
  | ptr => obtain ⟨p, e, _⟩ := ha; simp at e
  | pti => obtain ⟨p, e, _⟩ := ha; simp at e
  | omp => obtain ⟨p, e, _⟩ := ha; simp at e
  | _ => exact ha

theorem GG.world (h : GG B σ β st tmps w) {σ' : Sig} {w' : World} (hs : σ.le σ') (hag : ∀ b o, σ' b = some o → w'.heap[b]? = some o) (hn : ∀ b, σ b = none → b < w.heap.size → σ' b = none) (hb : Below w.heap.size w w') : GG B σ' β st tmps w' := by
  refine ⟨⟨hag, fun id ob hi => ?_⟩, fun t => (h.env t).mono hs, h.len, fun id ob p hi hp => ?_, h.bel.trans (hb.mono h.bel.size), h.grew.1.trans hs, fun b e hl => hn b (h.grew.2 b e hl) (Nat.lt_of_lt_of_le hl h.bel.size)⟩
  · have hob := h.mem.ob _ _ hi
    exact (hob.same fun p hp => hb.block _ (hob.lt hp)).sig hs
  · obtain ⟨s1, s2, s3⟩ := h.sep _ _ _ hi hp
    exact ⟨hn _ s1 ((h.mem.ob _ _ hi).lt hp), s2, s3⟩

/-- A call of a function, as a calm operation. -/
theorem call_sound (hF : TabFn P T) (h : GG B σ β st tmps w) {f : FuncId} {ts : List TypeId} {vs : List AV} {vals : List Value} (hv : VReps σ β vs vals) {p q : Option Prop} {v : AV}
    (hc : cCall T st.hp (.value (.func f)) ts vs = some (p, q, v)) :
    Opt p ∧ (Opt q → Calls P f vals.toArray w fun e w' => ∃ u σ', e = .returned u ∧ GG B σ' β st tmps w' ∧ VRep σ' β v u) ∧
      ∃ fn, P.funcs[f]? = some fn ∧ (fn.name == "runtime.NumGoroutine") = false ∧ fn.body.isNone = false := by
  unfold cCall at hc
  split at hc
  all_goals first | contradiction | skip
  case h_5 => rename_i h3 _ _ _; exact (h3 f rfl).elim
  rename_i f' vs' e1
  cases e1
  split at hc
  case h_2 => cases hc
  rename_i c hcf
  split at hc
  case h_2 => cases hc
  rename_i p' q' v' hcr
  split at hc
  case h_2 => cases hc
  rename_i hcl
  cases hc
  rw [Bool.or_eq_true] at hcl
  obtain ⟨fn, hfn⟩ := hF.fn _ _ hcf
  have hok := hF.ok _ _ hcf _ _ hcr
  rcases hcl with hcl | hpl
  · have hview : ∀ {l : List AV} {ds : List Value}, l.all AV.clear = true → VReps σ β l ds → l.map (AV.view st.hp) = l ∧ VReps σ [] l ds := by
      intro l
      induction l with
      | nil => intro ds _ hr; cases ds with
        | nil => exact ⟨rfl, trivial⟩
        | cons _ _ => exact hr.elim
      | cons a l ih => intro ds hh hr; cases ds with
        | nil => exact hr.elim
        | cons d ds =>
          simp only [List.all_cons, Bool.and_eq_true] at hh
          obtain ⟨h1, h2⟩ := ih hh.2 hr.2
          obtain ⟨h3, h4⟩ := AV.clear_rep (hp := st.hp) hh.1 hr.1
          exact ⟨by simp [h1, h3], h4, h2⟩
    obtain ⟨h1, h2⟩ := hview hcl hv
    rw [h1] at hok
    obtain ⟨h3, h4⟩ := hok σ vals w h.mem.ag h2
    refine ⟨h3, fun hq => (h4 hq).mono fun e w' ⟨u, σ', e1, e2, e3, e4, e5, e6⟩ => ⟨u, σ', e1, h.world e2 e3 e4 e6, e5.nil_any⟩, fn, hfn⟩
  · have hview : ∀ {l : List AV} {ds : List Value}, VReps σ β l ds → VReps (allSig w) [] (l.map (AV.view st.hp)) ds := by
      intro l
      induction l with
      | nil => intro ds hr; cases ds with
        | nil => trivial
        | cons _ _ => exact hr.elim
      | cons a l ih => intro ds hr; cases ds with
        | nil => exact hr.elim
        | cons d ds => exact ⟨AV.view_rep h.mem hr.1, ih hr.2⟩
    obtain ⟨h3, h4⟩ := hok (allSig w) vals w (fun _ _ e => e) (hview hv)
    refine ⟨h3, fun hq => (h4 hq).mono fun e w' ⟨u, σ', e1, e2, e3, e4, e5, e6⟩ => ⟨u, σ, e1, h.world (Sig.le.refl _) (fun b o e => ?_) (fun _ e _ => e) e6, AV.plain_rep hpl e5⟩, fn, hfn⟩
    rw [e6.block _ ((Array.getElem?_eq_some_iff.1 (h.mem.ag _ _ e)).1)]
    exact h.mem.ag _ _ e
end
end Go.Vm
