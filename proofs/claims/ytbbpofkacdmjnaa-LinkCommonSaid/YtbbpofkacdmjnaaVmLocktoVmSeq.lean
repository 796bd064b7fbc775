/- A part of the proofs of the laws of this seat: contracts of functions, each for every input that its text names. -/
import Derived.Test.YtbbpofkacdmjnaaT0toVmInl
import Derived.RangeFuncFrom
import Derived.RangeFuncLeaves
import Derived.Test.YtbbpofkacdmjnaaVmKit
import Derived.Test.YtbbpofkacdmjnaaT12toT17
set_option linter.unusedSimpArgs false
set_option linter.unusedVariables false
set_option maxHeartbeats 2000000
/- A block that is no data, known for a while: nothing that is done changes it. -/
namespace Go.Vm
open Go.RowKit

def dataO : Obj → Bool
  | .cells _ _ _ => true
  | .map _ _ => true
  | _ => false
def Sig.add (σ : Sig) (l : Nat) (o : Obj) : Sig := fun b => if b = l then some o else σ b
def Sig.del (σ : Sig) (l : Nat) : Sig := fun b => if b = l then none else σ b
def Sig.leD (σ τ : Sig) : Prop := ∀ b o, σ b = some o → dataO o = true → τ b = some o
theorem Ole.nodata {o o' : Obj} (h : Ole o o') (hd : dataO o = false) : o' = o := by
  rcases h with h | ⟨c, c', T, fz, e, _⟩
  · exact h.symm
  · subst e; cases hd

section
variable {P : Program} {T : Tab} {B : Base} {w : World} {σ τ : Sig} {β : Places} {st : St} {tmps : Array Value}

theorem Sig.del_leD {l : Nat} (h : ∀ o, σ l = some o → dataO o = false) : σ.leD (σ.del l) := fun b o e hd => by
  unfold Sig.del
  split
  · rename_i hb; subst hb; rw [h o e] at hd; cases hd
  · exact e
theorem CellsAt.leD (h : σ.leD τ) {b o : Nat} {ds : List Value} : CellsAt σ b o ds → CellsAt τ b o ds :=
  fun ⟨c, T, fz, e, r⟩ => ⟨c, T, fz, h _ _ e rfl, r⟩
theorem ERep.leD (hs : σ.leD τ) : ∀ {e : ETy} {x : e.T} {ds : List Value}, ERep σ e x ds → ERep τ e x ds
  | .int _, _, _, h => h
  | .bool, _, _, h => h
  | .arr2, _, _, h => h
  | .arr3, _, _, h => h
  | .pair _ _, _, _, h => by obtain ⟨d1, d2, rfl, h1, h2⟩ := h; exact ⟨d1, d2, rfl, h1.leD hs, h2.leD hs⟩
  | .sl _, _, _, h => by
    obtain ⟨a, cap, rfl, hl, hc, h⟩ := h
    refine ⟨a, cap, rfl, hl, hc, fun hne => ?_⟩
    obtain ⟨b, o, ha, hr⟩ := h hne
    exact ⟨b, o, ha, fun i x hx => let ⟨d, h1, h2⟩ := hr i x hx; ⟨d, h1.leD hs, h2.leD hs⟩⟩
  | .mp _ _, _, _, h => by
    obtain ⟨r, rfl, hl, hn, h⟩ := h
    refine ⟨r, rfl, hl, hn, fun b hb => ?_⟩
    obtain ⟨es, clock, h1, h2, h3⟩ := h b hb
    exact ⟨es, clock, hs _ _ h1 rfl, h2, fun i x hx => let ⟨en, dk, dv, e1, e2, e3, e4, e5⟩ := h3 i x hx; ⟨en, dk, dv, e1, e2.leD hs, e3, e4.leD hs, e5⟩⟩
  | .pt _, none, _, h => h
  | .pt _, some _, _, h => by obtain ⟨b, off, d, rfl, h1, h2⟩ := h; exact ⟨b, off, d, rfl, h1.leD hs, h2.leD hs⟩
  | .unit, _, _, h => h
  | .fnc, _, _, h => h
theorem ARep.leD (hs : σ.leD τ) {a : AS} {v : Value} (h : ARep σ β a v) : ARep τ β a v := by
  cases a with
  | int => exact h
  | bool => exact h
  | val => exact h
  | sl => exact ERep.leD hs h
  | mp => exact ERep.leD hs h
  | pt => exact ERep.leD hs h
  | ip => obtain ⟨b, o, d, e, h1, h2⟩ := h; exact ⟨b, o, d, e, h1.leD hs, h2.leD hs⟩
  | ipi => obtain ⟨b, o, d, e, h1, h2, h3⟩ := h; exact ⟨b, o, d, e, h1.leD hs, h2.leD hs, h3⟩
  | own => exact h
  | ptr => exact h
  | pti => exact h
  | omp => exact h
  | arr => exact h
  | clo f ps => obtain ⟨vs, e, r⟩ := h; exact ⟨vs, e, r.mono fun _ _ => ERep.leD hs⟩
  | nq => exact h
  | junk => exact h
theorem VRep.leD (hs : σ.leD τ) {a : AV} {v : Value} (h : VRep σ β a v) : VRep τ β a v := h.map fun _ _ => ARep.leD hs
theorem FrontsV.leD {w' : World} {base sz : Nat} {vs : List Value} (hx : σ.leD τ) (hw : ∀ b o, σ b = some o → dataO o = true → w'.heap[b]? = w.heap[b]?) (h : FrontsV σ w base sz vs) : FrontsV τ w' base sz vs :=
  ⟨fun v hv => by
    rcases h.1 v hv with e | ⟨b, o, n, cap, c, c', T, h1, h2, h3, h4⟩
    · exact .inl e
    · exact .inr ⟨b, o, n, cap, c, c', T, h1, hx _ _ h2 rfl, by rw [hw _ _ h2 rfl]; exact h3, h4⟩, h.2⟩
theorem ObAt.leD {w' : World} {id : Nat} {ob : Ob} (hs : σ.leD τ) (hk : ∀ p, β[id]? = some (some p) → w'.heap[p.b]? = w.heap[p.b]?) (hkn : ∀ b o, σ b = some o → dataO o = true → w'.heap[b]? = w.heap[b]?)
    (h : ObAt σ β w id ob) : ObAt τ β w' id ob := by
  cases ob with
  | row e T xs =>
    obtain ⟨h0, h⟩ := h
    refine ⟨h0, ?_⟩
    cases hβ : β[id]? with
    | none => simp [hβ] at h
    | some x =>
      cases x with
      | none => simpa [hβ] using h
      | some p =>
        simp only [hβ] at h ⊢
        obtain ⟨h1, h2, h3, c, h4, h5, h6⟩ := h
        exact ⟨h1, h2, h3, c, by rw [hk p hβ]; exact h4, h5, fun i x hx => let ⟨d, e1, e2⟩ := h6 i x hx; ⟨d, e1.leD hs, e2⟩⟩
  | flat T cs =>
    obtain ⟨p, h1, h2, h3, h4, h5, c, h6, h7⟩ := h
    exact ⟨p, h1, h2, h3, h4, h5, c, by rw [hk p h1]; exact h6, h7.mono fun _ _ => ARep.leD hs⟩
  | map k v m =>
    obtain ⟨h0, p, es, clock, h1, h2, h3, h4⟩ := h
    exact ⟨h0, p, es, clock, h1, by rw [hk p h1]; exact h2, h3, fun i x hx => let ⟨en, dk, dv, e1, e2, e3, e4, e5⟩ := h4 i x hx; ⟨en, dk, dv, e1, e2.leD hs, e3, e4.leD hs, e5⟩⟩
  | gmap k e m =>
    obtain ⟨h0, p, es, clock, h1, h2, h3, h4, h5, h6⟩ := h
    exact ⟨h0, p, es, clock, h1, by rw [hk p h1]; exact h2, h3, fun i x hx => let ⟨en, dk, dv, e1, e2, e3, e4, e5⟩ := h4 i x hx; ⟨en, dk, dv, e1, e2.leD hs, e3, e4.leD hs, e5⟩, h5.leD hs hkn, h6⟩
  | grow e T xss =>
    obtain ⟨h0, p, h1, h2, h3, h4, c, h5, h6, h7, h8⟩ := h
    exact ⟨h0, p, h1, h2, h3, h4, c, by rw [hk p h1]; exact h5, h6, fun i x hx => let ⟨v, e1, e2⟩ := h7 i x hx; ⟨v, e1.leD hs, e2⟩, h8.leD hs hkn⟩
  | fr X l => exact ⟨h.1, fun t => (h.2 t).leD hs⟩

def Base.lock (B : Base) (l : Nat) (o : Obj) : Base := { B with sg := B.sg.add l o }

/-- The block is known from here on. -/
theorem GG.lock (h : GG B σ β st tmps w) {l : Nat} {o : Obj} (hB : B.w.heap.size ≤ l) (hl : w.heap[l]? = some o) (hn : σ l = none)
    (hp : ∀ id ob p, hget st.hp id = some ob → β[id]? = some (some p) → p.b ≠ l) : GG (B.lock l o) (σ.add l o) β st tmps w := by
  have hx : ∀ b u, σ b = some u → (σ.add l o) b = some u := fun b u e => by
    unfold Sig.add
    split
    · rename_i hb; subst hb; rw [hn] at e; cases e
    · exact e
  have hle : σ.le (σ.add l o) := fun b u e => ⟨u, hx b u e, .refl⟩
  refine ⟨⟨fun b u e => ?_, fun id ob hi => (h.mem.ob _ _ hi).sig hle hx⟩, fun t => (h.env t).mono hle, h.len, fun id ob p hi hp' => ?_, h.bel, ⟨fun b u e => ?_, fun b hb => ?_⟩⟩
  · unfold Sig.add at e
    split at e
    · rename_i hb; subst hb; cases e; exact ⟨_, hl, .refl⟩
    · exact h.mem.ag _ _ e
  · obtain ⟨s1, s2, s3⟩ := h.sep _ _ _ hi hp'
    refine ⟨?_, s2, s3⟩
    unfold Sig.add
    rw [if_neg (hp _ _ _ hi hp')]; exact s1
  · have e : (B.sg.add l o) b = some u := e
    unfold Sig.add at e ⊢
    split at e
    · rename_i hb; rw [if_pos hb]; exact ⟨u, e, .refl⟩
    · rename_i hb; rw [if_neg hb]; exact h.grew.1 _ _ e
  · have hb : b < B.w.heap.size := hb
    show (σ.add l o) b = (B.sg.add l o) b
    unfold Sig.add
    rw [if_neg (by omega), if_neg (by omega)]; exact h.grew.2 b hb

/-- What was locked lies as it lay. -/
theorem GG.locked {l : Nat} {o : Obj} (h : GG (B.lock l o) σ β st tmps w) (hd : dataO o = false) : σ l = some o ∧ w.heap[l]? = some o ∧ ∀ id ob p, hget st.hp id = some ob → β[id]? = some (some p) → p.b ≠ l := by
  obtain ⟨o', e1, e2⟩ := h.grew.1 l o (by show (B.sg.add l o) l = _; unfold Sig.add; rw [if_pos rfl])
  have := e2.nodata hd; subst this
  obtain ⟨o2, e3, e4⟩ := h.mem.ag _ _ e1
  have := e4.nodata hd; subst this
  refine ⟨e1, e3, fun id ob p hi hp e => ?_⟩
  have := (h.sep _ _ _ hi hp).1
  rw [e, e1] at this; cases this

/-- The block is let go, and turned. -/
theorem GG.unlock {l : Nat} {o : Obj} (h : GG (B.lock l o) σ β st tmps w) (hd : dataO o = false) (hB : B.w.heap.size ≤ l) (hn : B.sg l = none) (o' : Obj) :
    GG B (σ.del l) β st tmps (w.putObj l o') ∧ (σ.del l) l = none ∧ (w.putObj l o').heap[l]? = some o' ∧ ∀ id ob p, hget st.hp id = some ob → β[id]? = some (some p) → p.b ≠ l := by
  obtain ⟨h1, h2, h3⟩ := h.locked hd
  have hs : σ.leD (σ.del l) := Sig.del_leD fun o2 e => by rw [h1] at e; cases e; exact hd
  have hlt := (Array.getElem?_eq_some_iff.1 h2).1
  have hoth : ∀ b, b ≠ l → (w.putObj l o').heap[b]? = w.heap[b]? := fun b hb => World.putObj_heap_other (fun e => hb e)
  have hdl : (σ.del l) l = none := by unfold Sig.del; rw [if_pos rfl]
  refine ⟨⟨⟨fun b u e => ?_, fun id ob hi => (h.mem.ob _ _ hi).leD hs (fun p hp => hoth _ (h3 _ _ _ hi hp)) fun b u e hdu => hoth _ fun hb => ?_⟩, fun t => (h.env t).leD hs, h.len, fun id ob p hi hp' => ?_, ?_, ⟨fun b u e => ?_, fun b hb => ?_⟩⟩, hdl, World.putObj_heap_same hlt, h3⟩
  · unfold Sig.del at e
    split at e
    · cases e
    · rename_i hb; rw [hoth b hb]; exact h.mem.ag _ _ e
  · subst hb; rw [h1] at e; cases e; rw [hd] at hdu; cases hdu
  · obtain ⟨s1, s2, s3⟩ := h.sep _ _ _ hi hp'
    refine ⟨?_, s2, s3⟩
    unfold Sig.del
    rw [if_neg (h3 _ _ _ hi hp')]; exact s1
  · exact ⟨h.bel.toBelow.grown (grownBy_putObj' w l o') (Nat.le_of_lt (Nat.lt_of_le_of_lt hB hlt)) (fun k e => by cases e; exact hB), h.bel.drawn⟩
  · have hb : b ≠ l := fun hb => by subst hb; rw [hn] at e; cases e
    unfold Sig.del
    rw [if_neg hb]
    refine h.grew.1 b u ?_
    show (B.sg.add l o) b = _
    unfold Sig.add
    rw [if_neg hb]; exact e
  · have hne : b ≠ l := by omega
    unfold Sig.del
    rw [if_neg hne]
    have := h.grew.2 b hb
    rw [this]
    show (B.sg.add l o) b = _
    unfold Sig.add
    rw [if_neg hne]
end
end Go.Vm

/- A range over a function: the sequence is a closure that is known to yield a list. -/
namespace Go.Vm
open Go.RowKit

/-- In whatever world that what is known holds of, the sequence yields just this list. What it learns between two yields of blocks that are laid there is still known behind the next yield. -/
def SeqVm (P : Program) (g : FuncId) (lb : Array Value) (L : List Int) (σ : Sig) : Prop :=
  ∀ (l : Nat) (J : List Int → Sig → World → Prop) (W : World), Ag σ W → (∀ pre σp A A', J pre σp A → Below A.heap.size A A' → J pre σp A') →
    (∀ pre x σp σ1 Ws W1, J pre σp Ws → Below Ws.heap.size Ws W1 → (∀ b, b < Ws.heap.size → σ1 b = σp b) → Ag σ1 W1 → (pre ++ [x]) <+: L →
      YieldAt Fence.wide 0 P l #[.int .i64 x] W1 fun e W' => e = .returned (.bool true) ∧ J (pre ++ [x]) σ1 W' ∧ Ag σ1 W') →
    J [] σ W → CallsIn Fence.wide 0 P g (#[.func (.yield l) #[] #[]] ++ lb) W fun e W' => (∃ v, e = .returned v) ∧ ∃ σ', J L σ' W'
/-- What a closure of a program's yields, by what it has caught. -/
structure SeqOk (P : Program) (g : FuncId) (ps : List PtV) (L : List Int) : Prop where
  enter : ∀ args w, (callFunc g args).run P w = .ok (.enter g args) w
  ok : ∀ x ∈ L, InK .i64 x
  seq : ∀ (σ : Sig) (vs : List Value), All2 (fun (q : PtV) u => ERep σ (.pt q.e) (some q.x) [u]) ps vs → SeqVm P g vs.toArray L σ

def backTo (id : Nat) (X : Array Value) (s : St) (K : St → Prop) : Prop :=
  match hget s.hp id with
  | some (.fr X' l) => X' = X ∧ (⟨l, s.hp, s.next⟩ : St).forceAll K
  | _ => False
def rngSt (st : St) (X : Array Value) : St := ⟨packE [] st.env, (st.next, .fr X (packE [] st.env)) :: st.hp, st.next + 1⟩
/-- The rounds, by what holds before each. -/
def arange (T : Tab) (p : Tmp) (assign body : Code) (st : St) (L : List Int) (S : Array Value → Nat → St) : Prop :=
  ∀ X : Array Value, leSt (rngSt st X) (S X 0) ∧ ∀ k, k < L.length → ((S X k).put (some p) (.s (.int .i64 (L.getD k 0)))).forceAll fun h => acode T assign h fun e s => match e with
    | .normal => acode T body s fun e s => match e with
      | .normal => backTo st.next X s fun s => leSt s (S X (k + 1))
      | _ => False
    | _ => False

section
variable {P : Program} {T : Tab} {B : Base} {w w' : World} {σ τ : Sig} {β : Places} {st : St} {tmps : Array Value} {N : Nat} {a : Act}

theorem GG.rebase (h : GG B σ β st tmps w) {B' : Base} (hw : B'.w = B.w) (hg : B'.sg = B.sg) : GG B' σ β st tmps w := by
  obtain ⟨bw, bs, bd⟩ := B
  obtain ⟨bw', bs', bd'⟩ := B'
  cases hw; cases hg
  exact ⟨h.mem, h.env, h.len, h.sep, h.bel, h.grew⟩
theorem GG.base (h : GG B σ β st tmps w) (ds : List Deferred) : GG { w := B.w, sg := σ, dfs := ds } σ β st tmps w :=
  ⟨h.mem, h.env, h.len, h.sep, h.bel, ⟨Sig.le.refl _, fun _ _ => rfl⟩⟩
theorem GG.grown (h : GG B σ β st tmps w) (hb : Below w.heap.size w w') : GG B σ β st tmps w' := by
  have hs : B.w.heap.size ≤ w.heap.size := h.bel.size
  refine ⟨⟨fun b o e => ?_, fun id ob hi => (h.mem.ob _ _ hi).same (fun p hp => hb.block _ ((h.mem.ob _ _ hi).lt hp)) fun b o e => hb.block _ (h.mem.ag.lt e)⟩, h.env, h.len, h.sep, h.bel.trans (hb.mono hs), h.grew⟩
  rw [hb.block _ (h.mem.ag.lt e)]
  exact h.mem.ag _ _ e
theorem GG.framed (h : GG B σ β st tmps w) : GG B σ (β ++ [none]) (rngSt st tmps) tmps w := by
  have hlast : (β ++ [none])[st.next]? = some none := by rw [← h.len]; simp
  have hold : ∀ {id : Nat}, id < st.next → (β ++ [none])[id]? = β[id]? := fun hi => by rw [List.getElem?_append_left]; rw [h.len]; exact hi
  refine ⟨⟨h.mem.ag, fun id ob hi => ?_⟩, fun t => (pack_rep h.env t).more none, by simp [h.len, rngSt], fun id ob p hi hp => ?_, h.bel, h.grew⟩
  · simp only [rngSt, hget_cons] at hi
    split at hi
    · rename_i e; subst e; cases hi
      exact ⟨hlast, fun t => (pack_rep h.env t).more none⟩
    · exact (h.mem.ob _ _ hi).keep none (fun _ _ => rfl) fun _ _ _ => rfl
  · simp only [rngSt, hget_cons] at hi
    split at hi
    · rename_i e; subst e; rw [hlast] at hp; cases hp
    · have hlt := h.id_lt hi
      rw [hold hlt] at hp
      obtain ⟨s1, s2, s3⟩ := h.sep _ _ _ hi hp
      refine ⟨s1, s2, fun id2 ob2 p2 hne2 hi2 hp2 => ?_⟩
      simp only [rngSt, hget_cons] at hi2
      split at hi2
      · rename_i e; subst e; rw [hlast] at hp2; cases hp2
      · rw [hold (h.id_lt hi2)] at hp2
        exact s3 _ _ _ hne2 hi2 hp2
theorem GG.turnLock {l : Nat} {o : Obj} (h : GG (B.lock l o) σ β st tmps w) (hd : dataO o = false) (hB : B.w.heap.size ≤ l) (hn : B.sg l = none) (o' : Obj) :
    GG (B.lock l o') ((σ.del l).add l o') β st tmps (w.putObj l o') := by
  obtain ⟨h1, h2, h3, h4⟩ := h.unlock hd hB hn o'
  exact h1.lock hB h3 h2 h4
theorem GG.back {id : Nat} {X : Array Value} {l : Env} (h : GG B σ β st tmps w) (hi : hget st.hp id = some (.fr X l)) : GG B σ β ⟨l, st.hp, st.next⟩ X w :=
  ⟨h.mem, (h.mem.ob _ _ hi).2, h.len, h.sep, h.bel, h.grew⟩

theorem backTo_out {id : Nat} {X : Array Value} {s : St} {K : St → Prop} (h : backTo id X s K) : ∃ l, hget s.hp id = some (.fr X l) ∧ K ⟨l, s.hp, s.next⟩ := by
  unfold backTo at h
  split at h
  · rename_i X' l e
    obtain ⟨rfl, h⟩ := h
    rw [St.forceAll_eq] at h
    exact ⟨l, e, h⟩
  · exact h.elim

/-- More is known. -/
theorem GG.knowMore (h : GG B σ β st tmps w) (hx : ∀ b o, σ b = some o → τ b = some o) (hag : Ag τ w) (hp : ∀ id ob p, hget st.hp id = some ob → β[id]? = some (some p) → τ p.b = none) (ds : List Deferred) :
    GG { w := B.w, sg := τ, dfs := ds } τ β st tmps w := by
  have hle : σ.le τ := fun b o e => ⟨o, hx b o e, .refl⟩
  exact ⟨⟨hag, fun id ob hi => (h.mem.ob _ _ hi).sig hle hx⟩, fun t => (h.env t).mono hle, h.len, fun id ob p hi hq => ⟨hp _ _ _ hi hq, (h.sep _ _ _ hi hq).2⟩, h.bel, ⟨Sig.le.refl _, fun _ _ => rfl⟩⟩
theorem Base.relock (B : Base) {D : Nat} {o : Obj} (h : B.sg D = some o) : B = ({ B with sg := B.sg.del D } : Base).lock D o := by
  obtain ⟨bw, bs, bd⟩ := B
  show (⟨bw, bs, bd⟩ : Base) = ⟨bw, (bs.del D).add D o, bd⟩
  congr 1
  funext b
  unfold Sig.add Sig.del
  split
  · rename_i e; subst e; exact h
  · rfl

/-- What holds between two rounds. -/
structure Rnd (B : Base) (D l : Nat) (rdy : Obj) (N : Nat) (st : St) (tmps : Array Value) (σp : Sig) (w : World) (B1 : Base) : Prop where
  ww : B1.w = B.w
  dfs : B1.dfs = []
  grew : Grew B B1.sg
  le : σp.le B1.sg
  mark : B1.sg D = some (.deferred (some []))
  free : B1.sg l = none
  ga : GA (B1.lock l rdy) N st { tmps := tmps, defers := [] } w
theorem Rnd.grown {B1 : Base} {D l : Nat} {rdy : Obj} {σp : Sig} (h : Rnd B D l rdy N st tmps σp w B1) (hb : Below w.heap.size w w') : Rnd B D l rdy N st tmps σp w' B1 :=
  ⟨h.ww, h.dfs, h.grew, h.le, h.mark, h.free, let ⟨σ', β', hg'⟩ := h.ga.gg; ⟨h.ga.defers, h.ga.size, σ', β', hg'.grown hb⟩⟩
theorem Rnd.ag {B1 : Base} {D l : Nat} {rdy : Obj} {σp : Sig} (h : Rnd B D l rdy N st tmps σp w B1) : Ag σp w := fun b u e => by
  obtain ⟨σ', β', hg'⟩ := h.ga.gg
  obtain ⟨u1, e1, k1⟩ := h.le b u e
  have hne : b ≠ l := fun e' => by rw [e', h.free] at e1; cases e1
  obtain ⟨u2, e2, k2⟩ := hg'.grew.1 b u1 (by show (B1.sg.add _ _) b = _; unfold Sig.add; rw [if_neg hne]; exact e1)
  obtain ⟨u3, e3, k3⟩ := hg'.mem.ag _ _ e2
  exact ⟨u3, e3, (k1.trans k2).trans k3⟩
/-- The sequence's function has gone on for a while, and has learnt of what it laid. -/
theorem Rnd.learn {B1 : Base} {D l : Nat} {rdy : Obj} {σp σ1 : Sig} (h : Rnd B D l rdy N st tmps σp w B1) (hd : dataO rdy = false) (hBl : B.w.heap.size ≤ l) (hDl : D ≠ l) (hb : Below w.heap.size w w') (he : ∀ b, b < w.heap.size → σ1 b = σp b) (hag : Ag σ1 w') :
    ∃ B2, Rnd B D l rdy N st tmps σ1 w' B2 := by
  obtain ⟨σr, βr, hgr⟩ := h.ga.gg
  obtain ⟨hl1, hl2, _⟩ := hgr.locked hd
  have hll : l < w.heap.size := (Array.getElem?_eq_some_iff.1 hl2).1
  have hBw : B.w.heap.size ≤ w.heap.size := by have := hgr.bel.size; rw [show (B1.lock l rdy).w = B.w from h.ww] at this; exact this
  obtain ⟨τ, hτ⟩ : ∃ τ : Sig, τ = fun b => if b < w.heap.size then σr b else σ1 b := ⟨_, rfl⟩
  have ho : ∀ b, b < w.heap.size → τ b = σr b := fun b hb => by rw [hτ]; show (if _ then _ else _) = _; rw [if_pos hb]
  have hn : ∀ b, ¬ b < w.heap.size → τ b = σ1 b := fun b hb => by rw [hτ]; show (if _ then _ else _) = _; rw [if_neg hb]
  have hx : ∀ b o, σr b = some o → τ b = some o := fun b o e => by rw [ho b (hgr.mem.ag.lt e)]; exact e
  have hg2 := (hgr.grown hb).knowMore (τ := τ) hx (fun b o e => by
    by_cases hlt : b < w.heap.size
    · rw [ho b hlt] at e; exact (hgr.grown hb).mem.ag _ _ e
    · rw [hn b hlt] at e; exact hag _ _ e) (fun id ob p hi hp => by rw [ho _ ((hgr.mem.ob _ _ hi).lt hp)]; exact (hgr.sep _ _ _ hi hp).1) []
  have hτl : τ l = some rdy := hx _ _ hl1
  rw [Base.relock { w := (B1.lock l rdy).w, sg := τ, dfs := [] } hτl] at hg2
  have hdel : ∀ b, b ≠ l → (τ.del l) b = τ b := fun b hb => by unfold Sig.del; rw [if_neg hb]
  have hB1 : ∀ b o, B1.sg b = some o → ∃ o', τ b = some o' ∧ Ole o o' := fun b o e => by
    have hne : b ≠ l := fun e' => by rw [e', h.free] at e; cases e
    obtain ⟨u2, e2, k2⟩ := hgr.grew.1 b o (by show (B1.sg.add _ _) b = _; unfold Sig.add; rw [if_neg hne]; exact e)
    exact ⟨u2, hx _ _ e2, k2⟩
  have hne1 : ∀ b o, B1.sg b = some o → b ≠ l := fun b o e e' => by rw [e', h.free] at e; cases e
  refine ⟨{ w := (B1.lock l rdy).w, sg := τ.del l, dfs := [] }, h.ww, rfl, ⟨fun b o e => ?_, fun b hb' => ?_⟩, fun b o e => ?_, ?_, by show (τ.del l) l = none; unfold Sig.del; rw [if_pos rfl], ⟨rfl, h.ga.size, τ, βr, hg2⟩⟩
  · obtain ⟨o1, e1, k1⟩ := h.grew.1 b o e
    obtain ⟨o2, e2, k2⟩ := hB1 b o1 e1
    exact ⟨o2, by show (τ.del l) b = _; rw [hdel b (hne1 b o1 e1)]; exact e2, k1.trans k2⟩
  · show (τ.del l) b = _
    have hlt : b < l := by omega
    rw [hdel b (by omega), ho b (by omega)]
    refine ((hgr.grew.2 b (by rw [show (B1.lock l rdy).w = B.w from h.ww]; exact hb')).trans ?_).trans (h.grew.2 b hb')
    show (B1.sg.add _ _) b = _
    unfold Sig.add; rw [if_neg (by omega)]
  · by_cases hlt : b < w.heap.size
    · rw [he b hlt] at e
      obtain ⟨o1, e1, k1⟩ := h.le b o e
      obtain ⟨o2, e2, k2⟩ := hB1 b o1 e1
      exact ⟨o2, by show (τ.del l) b = _; rw [hdel b (hne1 b o1 e1)]; exact e2, k1.trans k2⟩
    · exact ⟨o, by show (τ.del l) b = _; rw [hdel b (by omega), hn b hlt]; exact e, .refl⟩
  · obtain ⟨o2, e2, k2⟩ := hB1 _ _ h.mark
    have := k2.nodata rfl; subst this
    show (τ.del l) D = _
    rw [hdel D hDl]; exact e2

theorem range_wp (R : Rules P T) {g : Operand} {p : Tmp} {assign body : Code} {Q : Exit → Act → World → Prop} (ha : codeOk N assign = true) (hb : codeOk N body = true) (hp : p < N) (hgo : opndOk g = true)
    (h : GA B N st a w) {f : FuncId} {ps : List PtV} {L : List Int} (hg : opnd st.env g = .s (.clo f ps)) (hs : SeqOk P f ps L) {S : Array Value → Nat → St} (hr : arange T p assign body st L S)
    (hQ : ∀ (B1 : Base) (D : Nat) (a' : Act) (w' : World), B1.w = B.w → Grew B B1.sg → B1.dfs = { target := .collected D, args := #[] } :: B.dfs → B1.sg D = some (.deferred (some [])) → B.w.heap.size ≤ D → B.sg D = none →
      GA B1 N (S a.tmps L.length) a' w' → Q .normal a' w') :
    (Code.rangeFunc g #[p] assign body).wpIn (FR none) 0 P Q a w := by
  obtain ⟨hle0, hround⟩ := hr a.tmps
  obtain ⟨σs, βs, hgg⟩ := h.gg
  have hval := opnd_rep hgg hgo
  rw [hg] at hval
  obtain ⟨vs, hev, hcap⟩ := hval
  have hseq := hs.seq σs vs hcap
  refine wpIn_rangeFunc ?_
  intro fn hfn
  obtain ⟨rec, hrec⟩ : ∃ rec : LoopState → Option Code → Loop, rec = fun st pe => { state := st, pending := pe, fn, tmps := a.tmps, params := #[p], assign, body, defers := w.heap.size } := ⟨_, rfl⟩
  obtain ⟨W1, hW1⟩ : ∃ W1, (w.alloc (.deferred (some []))).alloc (.loop (rec .ready none)) = W1 := ⟨_, rfl⟩
  have hL1 : W1.heap[w.heap.size + 1]? = some (.loop (rec .ready none)) := by
    rw [← hW1]; have := World.alloc_heap_new (w.alloc (.deferred (some []))) (.loop (rec .ready none)); rwa [World.size_alloc] at this
  have hK1 : W1.heap[w.heap.size]? = some (.deferred (some [])) := by
    rw [← hW1]; exact (Go.RowKit.Below.heap_alloc _ _ _ (by simp)).trans (World.alloc_heap_new w _)
  have hbw : Below w.heap.size w W1 := by
    rw [← hW1]
    exact ((Below.refl _ w).alloc (Nat.le_refl _) _).alloc (by simp) _
  have hBw : B.w.heap.size ≤ w.heap.size := hgg.bel.size
  -- the rounds' base: what is known at the start, and the block for the deferred calls
  have hσD : σs w.heap.size = none := by
    cases e : σs w.heap.size with
    | none => rfl
    | some o => exact absurd (hgg.mem.ag.lt e) (Nat.lt_irrefl _)
  have hσl : σs (w.heap.size + 1) = none := by
    cases e : σs (w.heap.size + 1) with
    | none => rfl
    | some o => exact absurd (hgg.mem.ag.lt e) (by omega)
  obtain ⟨B1, hB1⟩ : ∃ B1 : Base, B1 = ({ w := B.w, sg := σs, dfs := [] } : Base).lock w.heap.size (.deferred (some [])) := ⟨_, rfl⟩
  have hB1w : B1.w = B.w := by rw [hB1]; rfl
  have hB1l : B1.sg (w.heap.size + 1) = none := by
    rw [hB1]; show (Sig.add σs _ _) _ = _
    unfold Sig.add; rw [if_neg (by omega)]; exact hσl
  have hB1D : B1.sg w.heap.size = some (.deferred (some [])) := by
    rw [hB1]; show (Sig.add σs _ _) _ = _
    unfold Sig.add; rw [if_pos rfl]
  have hB1le : σs.le B1.sg := fun b o e => ⟨o, by
    rw [hB1]; show (Sig.add σs _ _) _ = _
    unfold Sig.add; rw [if_neg (fun e' => by rw [e', hσD] at e; cases e)]; exact e, .refl⟩
  have hBl : B1.w.heap.size ≤ w.heap.size + 1 := by rw [hB1w]; omega
  have hB1g : Grew B B1.sg := ⟨hgg.grew.1.trans hB1le, fun b hb' => by
    rw [hB1]
    show (Sig.add σs _ _) b = _
    unfold Sig.add
    rw [if_neg (by omega)]; exact hgg.grew.2 b hb'⟩
  have hstart : GA (B1.lock (w.heap.size + 1) (.loop (rec .ready none))) N (S a.tmps 0) { tmps := a.tmps, defers := [] } W1 := by
    have g1 := ((hgg.framed).base []).grown hbw
    have hpl : ∀ id ob q, hget (rngSt st a.tmps).hp id = some ob → (βs ++ [none])[id]? = some (some q) → q.b < w.heap.size := fun id ob q hi hq => (hgg.framed.mem.ob _ _ hi).lt hq
    have g2 := g1.lock (l := w.heap.size) (o := .deferred (some [])) hBw hK1 hσD (fun id ob q hi hq e => by have := hpl _ _ _ hi hq; omega)
    have g3 := g2.lock (l := w.heap.size + 1) (o := .loop (rec .ready none)) (Nat.le_succ_of_le hBw) hL1 (by unfold Sig.add; rw [if_neg (by omega)]; exact hσl) (fun id ob q hi hq e => by have := hpl _ _ _ hi hq; omega)
    rw [← hB1] at g3
    have : GA (B1.lock (w.heap.size + 1) (.loop (rec .ready none))) N (rngSt st a.tmps) { tmps := a.tmps, defers := [] } W1 := ⟨by rw [hB1]; rfl, h.size, _, _, g3⟩
    exact this.weaken hle0
  refine ⟨w.heap.size + 1, [{ target := .collected w.heap.size, args := #[] }], W1, { target := .fn (.func f) vs.toArray, args := #[.func (.yield (w.heap.size + 1)) #[] #[]] }, W1, f,
    #[.func (.yield (w.heap.size + 1)) #[] #[]] ++ vs.toArray, W1, ?_, ?_, ?_, ?_, fun hh => (by cases hh), ?_⟩
  · rw [← hW1, hrec]; exact run_enterLoop_outer _ _ _ _ _
  · simp only [resolve, hev]
    simp [go_sem]
  · intro f' hf'; trivial
  · simp [invoke, go_sem, hs.enter]
  · have hrnd : Rnd B w.heap.size (w.heap.size + 1) (.loop (rec .ready none)) N (S a.tmps 0) a.tmps σs W1 B1 := ⟨hB1w, by rw [hB1]; rfl, hB1g, hB1le, hB1D, hB1l, hstart⟩
    refine (hseq (w.heap.size + 1) (fun pre σp W => ∃ B1, Rnd B w.heap.size (w.heap.size + 1) (.loop (rec .ready none)) N (S a.tmps pre.length) a.tmps σp W B1) W1 hrnd.ag
      (fun pre σp A A' ⟨B2, hj⟩ hb' => ⟨B2, hj.grown hb'⟩) ?_ ⟨B1, hrnd⟩).mono ?_
    · -- one round
      rintro pre x σp σ1 Ws W ⟨B0, hj0⟩ hbW heq hag1 hpre
      obtain ⟨B2, hr2⟩ := hj0.learn rfl (Nat.le_succ_of_le hBw) (by omega) hbW heq hag1
      have hj := hr2.ga
      have hBl : B2.w.heap.size ≤ w.heap.size + 1 := by rw [hr2.ww]; omega
      have hB1l := hr2.free
      obtain ⟨σ1', β1, hg1⟩ := hj.gg
      obtain ⟨hl1, hl2, hl3⟩ := hg1.locked rfl
      have hlen : pre.length < L.length := by
        have := hpre.length_le; simp at this; omega
      have hxk : L.getD pre.length 0 = x := by
        obtain ⟨t, rfl⟩ := hpre
        simp [List.getD_eq_getElem?_getD]
      have hxL : x ∈ L := hpre.subset (by simp)
      have hy := run_yield (P := P) (args := #[.int .i64 x]) hl2 (by rw [hrec]; rfl)
      rw [hrec] at hy
      refine ⟨fn, _, assign, body, hy, roundIn_of_wpIn hfn ?_⟩
      have hrd := hround _ hlen
      rw [St.forceAll_eq, hxk] at hrd
      have hga1 : GA (B2.lock (w.heap.size + 1) (.loop (rec .ready none))) N ((S a.tmps pre.length).put (some p) (.s (.int .i64 x))) { tmps := a.tmps.setIfInBounds p (.int .i64 x), defers := [] } W :=
        ⟨hj.defers, by simpa using h.size, σ1', β1, hg1.put (d := some p) (v := .int .i64 x) (fun t e => by cases e; rw [h.size]; exact hp) ⟨rfl, hs.ok x hxL⟩⟩
      have hfold : Array.foldl (fun (tmps : Array Value) (x : Tmp × Value) => match x with | (t, a) => tmps.setIfInBounds t a) a.tmps ((#[p] : Array Tmp).zip #[Value.int .i64 x]) = a.tmps.setIfInBounds p (.int .i64 x) := by
        simp [Array.zip, Array.zipWith, Array.zipWithMAux]
      refine acode_wp (B := B2.lock (w.heap.size + 1) (.loop (rec .ready none))) (r := some (w.heap.size + 1)) R assign ha (by dsimp only; rw [hfold]; exact hga1) hrd fun e s1 a1 W2 hk2 hga2 => ?_
      cases e with
      | normal =>
        obtain ⟨σ2, β2, hg2⟩ := hga2.gg
        obtain ⟨_, hl2', _⟩ := hg2.locked rfl
        have hbr := run_beginRound (P := P) hl2' (by rw [hrec])
        refine ⟨_, hbr, ?_⟩
        have hg3 := hg2.turnLock rfl hBl hB1l (.loop { rec .ready none with state := .busy })
        have hga3 : GA (B2.lock (w.heap.size + 1) (.loop { rec .ready none with state := .busy })) N s1 a1 (W2.putObj (w.heap.size + 1) (.loop { rec .ready none with state := .busy })) := ⟨hga2.defers, hga2.size, _, _, hg3⟩
        refine acode_wp (r := some (w.heap.size + 1)) R body hb hga3 hk2 fun e s4 a4 W4 hk4 hga4 => ?_
        cases e with
        | normal =>
          obtain ⟨l', hfr, hle⟩ := backTo_out hk4
          obtain ⟨σ4, β4, hg4⟩ := hga4.gg
          obtain ⟨_, hl4, _⟩ := hg4.locked rfl
          have hg5 := (hg4.back hfr).turnLock rfl hBl hB1l (.loop (rec .ready none))
          have hga5 : GA (B2.lock (w.heap.size + 1) (.loop (rec .ready none))) N ⟨l', s4.hp, s4.next⟩ { tmps := a.tmps, defers := [] } (W4.putObj (w.heap.size + 1) (.loop (rec .ready none))) := ⟨hj.defers, h.size, _, _, hg5⟩
          have her := run_endRound (P := P) none hl4
          have hga6 := hga5.weaken hle
          have hr6 : Rnd B w.heap.size (w.heap.size + 1) (.loop (rec .ready none)) N (S a.tmps (pre.length + 1)) a.tmps σ1 (W4.putObj (w.heap.size + 1) (.loop (rec .ready none))) B2 := ⟨hr2.ww, hr2.dfs, hr2.grew, hr2.le, hr2.mark, hr2.free, hga6⟩
          refine ⟨_, _, by rw [hrec] at her ⊢; exact her, rfl, ?_, hr6.ag⟩
          rw [List.length_append]
          exact ⟨B2, hr6⟩
        | _ => exact hk4.elim
      | _ => exact hk2.elim
    · -- behind the sequence
      rintro e W2 ⟨⟨v, rfl⟩, σ', B2, hj⟩
      obtain ⟨σ2, β2, hg2⟩ := hj.ga.gg
      obtain ⟨_, hl2, _⟩ := hg2.locked rfl
      refine ⟨none, _, by have := run_endLoop (P := P) hl2 (by rw [hrec]; simp); rw [hrec] at this; exact this, ?_⟩
      obtain ⟨hg3, _, _, _⟩ := hg2.unlock rfl (by rw [hj.ww]; omega) hj.free (.loop { rec .ready none with state := .exhausted })
      refine hQ { B2 with dfs := { target := .collected w.heap.size, args := #[] } :: B.dfs } w.heap.size _ _ hj.ww hj.grew rfl hj.mark hBw ?_ ?_
      · cases e : B.sg w.heap.size with
        | none => rfl
        | some o => obtain ⟨o1, e1, _⟩ := hgg.grew.1 _ _ e; rw [hσD] at e1; cases e1
      · have hfin := hg3.rebase (B' := { B2 with dfs := { target := .collected w.heap.size, args := #[] } :: B.dfs }) rfl rfl
        rw [hrec] at hfin
        exact ⟨by show _ :: a.defers = _; rw [h.defers], h.size, _, _, hfin⟩
end
end Go.Vm

/- Code with ranges over functions at its top; what a caller may lean on. -/
namespace Go.Vm
open Go.RowKit

abbrev SeqTab := FuncId → List PtV → List Int → Prop
def SeqTabOk (P : Program) (SQ : SeqTab) : Prop := ∀ f ps L, SQ f ps L → SeqOk P f ps L
/-- A cell that holds no slice holds an empty row of the function's own. -/
def St.rowNil (T : Tab) (st : St) (id : Nat) : St :=
  match hget st.hp id with
  | some (.flat t [.val (.slice none 0 0)]) => match T.info t with
    | some ti => match ti.ety, ti.desc with
      | some (.sl e), .slice u => { env := st.env, hp := (id, .flat t [.own st.next 0 0]) :: (st.next, .row e u []) :: hdel st.hp id, next := st.next + 1 }
      | _, _ => st
    | none => st
  | _ => st
def St.rowNils (T : Tab) (st : St) : List Nat → St
  | [] => st
  | i :: r => (st.rowNil T i).rowNils T r
def withNils (T : Tab) (K : St → Prop) : List Nat → St → Prop
  | [], st => st.forceAll K
  | i :: r, st => (st.rowNil T i).forceAll fun st => withNils T K r st
theorem withNils_eq {T : Tab} {K : St → Prop} : ∀ (ids : List Nat) (st : St), withNils T K ids st = K (st.rowNils T ids)
  | [], st => by rw [withNils, St.forceAll_eq]; rfl
  | i :: r, st => by rw [withNils, St.forceAll_eq, withNils_eq r]; rfl
def heapIds : Heap → List Nat
  | [] => []
  | (i, _) :: r => i :: heapIds r

def acodeR (T : Tab) (SQ : SeqTab) : Code → St → (Exit → St → Prop) → Prop
  | .seq a b, st, K => acodeR T SQ a st (fun e s => match e with
    | .normal => acodeR T SQ b s K
    | e => K e s)
  | .block id c, st, K => acodeR T SQ c st (fun e s => match e with
    | .exit i => match Nat.beq i id with | true => K .normal s | false => K (.exit i) s
    | e => K e s)
  | .rangeFunc g ps assign body, st, K => match opnd st.env g, ps.toList with
    | .s (.clo f qs), [p] => ∃ L, SQ f qs L ∧ ∃ SP : Spec Nat, withNils T (fun st => arange T p assign body st L (fun X k => SP.head (rngSt st X) k) ∧ ∀ X, (SP.head (rngSt st X) L.length).forceAll (K .normal)) (heapIds st.hp) st
    | _, _ => False
  | .skip, st, K => acode T .skip st K
  | .label l, st, K => acode T (.label l) st K
  | .region i o d, st, K => acode T (.region i o d) st K
  | .cond c a b, st, K => acode T (.cond c a b) st K
  | .loop c, st, K => acode T (.loop c) st K
  | .exit i, st, K => acode T (.exit i) st K
  | .goto l, st, K => acode T (.goto l) st K
  | .ret, st, K => acode T .ret st K
  | .scope c, st, K => acode T (.scope c) st K
  | _, _, _ => False
def codeOkR (N : Nat) : Code → Bool
  | .seq a b => codeOkR N a && codeOkR N b
  | .block _ c => codeOkR N c
  | .rangeFunc g ps assign body => opndOk g && (ps.toList.all (fun p => Nat.blt p N) && (codeOk N assign && codeOk N body))
  | c => codeOk N c
def mark (D : Nat) : Deferred := { target := .collected D, args := #[] }
/-- A base further on: with marks. -/
structure Marks (B0 B : Base) : Prop where
  w : B.w = B0.w
  grew : Grew B0 B.sg
  ds : ∃ Ds : List Nat, B.dfs = Ds.map mark ∧ Ds.Nodup ∧ ∀ D ∈ Ds, B.sg D = some (.deferred (some [])) ∧ B0.w.heap.size ≤ D

section
variable {P : Program} {T : Tab} {SQ : SeqTab} {B B0 : Base} {w w' : World} {σ τ : Sig} {β : Places} {st : St} {tmps : Array Value} {N : Nat} {a : Act}

theorem Marks.more {B1 : Base} (h : Marks B0 B) {D : Nat} (h1 : B1.w = B.w) (h2 : Grew B B1.sg) (h3 : B1.dfs = mark D :: B.dfs) (h4 : B1.sg D = some (.deferred (some []))) (h5 : B.w.heap.size ≤ D) (h6 : B.sg D = none) : Marks B0 B1 := by
  obtain ⟨Ds, e1, e2, e3⟩ := h.ds
  refine ⟨h1.trans h.w, ⟨h.grew.1.trans h2.1, fun b hb => (h2.2 b (by rw [h.w]; exact hb)).trans (h.grew.2 b hb)⟩, D :: Ds, by rw [h3, e1]; rfl, List.nodup_cons.2 ⟨fun hm => ?_, e2⟩, fun D' hD => ?_⟩
  · rw [(e3 D hm).1] at h6; cases h6
  · rcases List.mem_cons.1 hD with e | hD
    · subst e; exact ⟨h4, by rw [← h.w]; exact h5⟩
    · obtain ⟨k1, k2⟩ := e3 D' hD
      obtain ⟨o', e4, e5⟩ := h2.1 _ _ k1
      have := e5.nodata rfl; subst this
      exact ⟨e4, k2⟩

theorem rowNil_env (i : Nat) : (st.rowNil T i).env = st.env := by
  unfold St.rowNil
  split
  · split
    · split <;> rfl
    · rfl
  · rfl
theorem rowNils_env : ∀ (ids : List Nat) {st : St}, (st.rowNils T ids).env = st.env
  | [], _ => rfl
  | i :: r, st => (rowNils_env r (st := st.rowNil T i)).trans (rowNil_env i)
theorem GG.rowNil (h : GG B σ β st tmps w) (id : Nat) : ∃ β', GG B σ β' (st.rowNil T id) tmps w := by
  unfold St.rowNil
  split
  case h_2 => exact ⟨β, h⟩
  rename_i t hi
  split
  case h_2 => exact ⟨β, h⟩
  split
  case h_2 => exact ⟨β, h⟩
  rename_i e u _ _
  have hlast : (β ++ [none])[st.next]? = some none := by rw [← h.len]; simp
  have hold : ∀ {id : Nat}, id < st.next → (β ++ [none])[id]? = β[id]? := fun hi => by rw [List.getElem?_append_left]; rw [h.len]; exact hi
  have hidlt := h.id_lt hi
  refine ⟨β ++ [none], ⟨h.mem.ag, fun id2 ob hi2 => ?_⟩, fun t => (h.env t).more none, by simp [h.len], fun id2 ob p hi2 hp => ?_, h.bel, h.grew⟩
  · simp only [hget_cons] at hi2
    split at hi2
    · rename_i e2; subst e2; cases hi2
      obtain ⟨p, h1, h2, h3, h4, h5, c, h6, h7⟩ := h.mem.ob _ _ hi
      refine ⟨p, by rw [hold hidlt]; exact h1, h2, h3, h4, h5, c, h6, ?_⟩
      match hc : c.toList, h7 with
      | [v], h7 =>
        refine ⟨?_, trivial⟩
        have : v = .slice none 0 0 := h7.1.1
        subst this
        simp only [ARep, hlast]
        exact ⟨trivial, trivial, trivial⟩
    · split at hi2
      · rename_i e2; subst e2; cases hi2
        exact ⟨Nat.zero_le _, by rw [hlast]⟩
      · rw [hget_hdel] at hi2
        split at hi2
        · cases hi2
        · exact (h.mem.ob _ _ hi2).keep none (fun _ _ => rfl) fun _ _ _ => rfl
  · have get : ∀ {j : Nat} {o2 : Ob} {q : Bk}, hget ((id, .flat t [.own st.next 0 0]) :: (st.next, .row e u []) :: hdel st.hp id) j = some o2 → (β ++ [none])[j]? = some (some q) → ∃ o1, hget st.hp j = some o1 ∧ β[j]? = some (some q) := fun {j o2 q} hj hq => by
      simp only [hget_cons] at hj
      split at hj
      · rename_i e2; subst e2; exact ⟨_, hi, by rw [hold hidlt] at hq; exact hq⟩
      · split at hj
        · rename_i e2; subst e2; rw [hlast] at hq; cases hq
        · rw [hget_hdel] at hj
          split at hj
          · cases hj
          · exact ⟨_, hj, by rw [hold (h.id_lt hj)] at hq; exact hq⟩
    obtain ⟨o1, g1, g2⟩ := get hi2 hp
    obtain ⟨s1, s2, s3⟩ := h.sep _ _ _ g1 g2
    refine ⟨s1, s2, fun id' ob' p' hne hi' hp' => ?_⟩
    obtain ⟨o2, g3, g4⟩ := get hi' hp'
    exact s3 _ _ _ hne g3 g4
theorem GG.rowNils : ∀ (ids : List Nat) {β : Places} {st : St}, GG B σ β st tmps w → ∃ β', GG B σ β' (st.rowNils T ids) tmps w
  | [], β, _, h => ⟨β, h⟩
  | i :: r, _, _, h => by
    obtain ⟨β', h'⟩ := h.rowNil (T := T) i
    exact GG.rowNils r h'

theorem acodeR_wp (R : Rules P T) (hSQ : SeqTabOk P SQ) : ∀ (c : Code) {B : Base} {st : St} {a : Act} {w : World} {K : Exit → St → Prop} {Q : Exit → Act → World → Prop}, codeOkR N c = true → Marks B0 B → GA B N st a w → acodeR T SQ c st K →
    (∀ e B1 st' a' w', Marks B0 B1 → K e st' → GA B1 N st' a' w' → Q e a' w') → c.wpIn (FR none) 0 P Q a w := by
  intro c
  induction c with
  | seq x y ihx ihy =>
    intro B st a w K Q hok hm h hk hQ
    simp only [codeOkR, Bool.and_eq_true] at hok
    refine wpIn_seq (ihx hok.1 hm h hk fun e B1 st' a' w' hm' hk' h' => ?_)
    cases e with
    | normal => exact ihy hok.2 hm' h' hk' hQ
    | _ => exact hQ _ _ _ _ _ hm' hk' h'
  | block id c ih =>
    intro B st a w K Q hok hm h hk hQ
    simp only [codeOkR] at hok
    refine wpIn_block (ih hok hm h hk fun e B1 st' a' w' hm' hk' h' => ?_)
    cases e with
    | exit i =>
      simp only [Exit.inBlock]
      dsimp only at hk'
      split at hk'
      · rename_i e; rw [if_pos (Nat.eq_of_beq_eq_true e)]; exact hQ _ _ _ _ _ hm' hk' h'
      · rename_i e
        rw [if_neg (fun e' => by subst e'; rw [Nat.beq_refl] at e; cases e)]; exact hQ _ _ _ _ _ hm' hk' h'
    | _ => exact hQ _ _ _ _ _ hm' hk' h'
  | rangeFunc g ps assign body =>
    intro B st a w K Q hok hm h hk hQ
    simp only [codeOkR, Bool.and_eq_true] at hok
    obtain ⟨ho1, ho2, ho3, ho4⟩ := hok
    simp only [acodeR] at hk
    split at hk
    case h_2 => exact hk.elim
    rename_i f qs p hg hps
    obtain ⟨L, hL, SP, hk⟩ := hk
    rw [withNils_eq] at hk
    obtain ⟨hr, hK⟩ := hk
    obtain ⟨σr, βr, hgr⟩ := h.gg
    obtain ⟨βn, hgn⟩ := hgr.rowNils (T := T) (heapIds st.hp)
    replace h : GA B N (st.rowNils T (heapIds st.hp)) a w := ⟨h.defers, h.size, σr, βn, hgn⟩
    rw [← rowNils_env (T := T) (st := st) (heapIds st.hp)] at hg
    have hpe : ps = #[p] := by rw [← Array.toArray_toList (xs := ps), hps]
    subst hpe
    have hp : p < N := by
      have := List.all_eq_true.1 ho2 p (by simp)
      exact Nat.lt_of_succ_le (by simpa [Nat.blt] using this)
    refine range_wp R ho3 ho4 hp ho1 h hg (hSQ f qs L hL) (S := fun X k => SP.head (rngSt (st.rowNils T (heapIds st.hp)) X) k) hr fun B1 D a' w' h1 h2 h3 h4 h5 h6 h7 => ?_
    have := hK a.tmps
    rw [St.forceAll_eq] at this
    exact hQ _ _ _ _ _ (hm.more h1 h2 h3 h4 h5 h6) this h7
  | skip => intro B st a w K Q hok hm h hk hQ; exact acode_wp R _ hok h hk fun e st' a' w' hk' h' => hQ _ _ _ _ _ hm hk' h'
  | label l => intro B st a w K Q hok hm h hk hQ; exact acode_wp R _ hok h hk fun e st' a' w' hk' h' => hQ _ _ _ _ _ hm hk' h'
  | region i o d => intro B st a w K Q hok hm h hk hQ; exact acode_wp R _ hok h hk fun e st' a' w' hk' h' => hQ _ _ _ _ _ hm hk' h'
  | cond c x y _ _ => intro B st a w K Q hok hm h hk hQ; exact acode_wp R _ hok h hk fun e st' a' w' hk' h' => hQ _ _ _ _ _ hm hk' h'
  | loop c _ => intro B st a w K Q hok hm h hk hQ; exact acode_wp R _ hok h hk fun e st' a' w' hk' h' => hQ _ _ _ _ _ hm hk' h'
  | exit i => intro B st a w K Q hok hm h hk hQ; exact acode_wp R _ hok h hk fun e st' a' w' hk' h' => hQ _ _ _ _ _ hm hk' h'
  | goto l => intro B st a w K Q hok hm h hk hQ; exact acode_wp R _ hok h hk fun e st' a' w' hk' h' => hQ _ _ _ _ _ hm hk' h'
  | ret => intro B st a w K Q hok hm h hk hQ; exact acode_wp R _ hok h hk fun e st' a' w' hk' h' => hQ _ _ _ _ _ hm hk' h'
  | _ => intro B st a w K Q hok; cases hok
def afunR (T : Tab) (SQ : SeqTab) (fn : Func) (args : List AV) (R : AV → Prop) : Prop :=
  match fn.body with
  | some c => (St.init args).forceAll fun s => acodeR T SQ c s (post T fn R)
  | none => False

theorem fn_okR (R : Rules P T) (hSQ : SeqTabOk P SQ) {f : FuncId} {fn : Func} {c : Code} (hf : P.funcs[f]? = some fn) (hb : fn.body = some c) (hok : codeOkR fn.ntmps c = true)
    {args : List AV} (hl : args.length ≤ fn.ntmps) {q : Option Prop} {u : AV} (h : goodArgs args → Opt q → afunR T SQ fn args (fun v => v = u)) : FnOk P f args (none, q, u) := by
  intro σ vals w hag hv
  refine ⟨trivial, fun hq => ?_⟩
  have hga := ga_init (N := fn.ntmps) hag hv hl
  have hk := h (vreps_good hv) hq
  simp only [afunR, hb, St.forceAll_eq] at hk
  refine (callsIn_of_wp_marks (F := Fence.wide) (n := 0) hf hb trivial ?_).calls (fun _ _ hd => by cases hd)
  rw [← FR.none]
  refine acodeR_wp (B0 := ⟨w, σ, []⟩) R hSQ c hok ⟨rfl, ⟨Sig.le.refl _, fun _ _ => rfl⟩, [], rfl, List.nodup_nil, fun D hD => by cases hD⟩ hga hk fun e B1 st' a' w' hm hp h' => ?_
  have fin : (match fn.results.toList.all (resOk T st') with | true => resAll T fn st' = u | false => False) → LeavesInM (FR none) 0 P fn a'.tmps (fun e w' => ∃ v σ', e = .returned v ∧ σ.le σ' ∧ Ag σ' w' ∧
      (∀ b, b < w.heap.size → σ' b = σ b) ∧ VRep σ' [] u v ∧ Below w.heap.size w w') a'.defers .returning w' := by
    intro hu
    split at hu
    case h_2 => exact hu.elim
    rename_i hallok
    obtain ⟨σ1, β1, hg⟩ := h'.gg
    obtain ⟨Ds, e1, e2, e3⟩ := hm.ds
    rw [h'.defers, e1]
    -- the marks, one by one
    have key : ∀ (Ds : List Nat) (B1 : Base) (σ1 : Sig) (w' : World), Ds.Nodup → (∀ D ∈ Ds, B1.sg D = some (.deferred (some [])) ∧ w.heap.size ≤ D) → B1.w = w → Grew ⟨w, σ, []⟩ B1.sg → GG B1 σ1 β1 st' a'.tmps w' →
        LeavesInM (FR none) 0 P fn a'.tmps (fun e w' => ∃ v σ', e = .returned v ∧ σ.le σ' ∧ Ag σ' w' ∧ (∀ b, b < w.heap.size → σ' b = σ b) ∧ VRep σ' [] u v ∧ Below w.heap.size w w') (Ds.map mark) .returning w' := by
      intro Ds
      induction Ds with
      | cons D r ih =>
        intro B1 σ1 w' hn hD hw hgr hg
        obtain ⟨hn1, hn2⟩ := List.nodup_cons.1 hn
        obtain ⟨d1, d2⟩ := hD D (List.mem_cons_self ..)
        rw [Base.relock B1 d1] at hg
        obtain ⟨_, hl2, _⟩ := hg.locked rfl
        have hdel : ∀ b, b ≠ D → (B1.sg.del D) b = B1.sg b := fun b hb => by unfold Sig.del; rw [if_neg hb]
        obtain ⟨hg2, _⟩ := hg.unlock rfl (by show B1.w.heap.size ≤ D; rw [hw]; exact d2) (by show (B1.sg.del D) D = none; unfold Sig.del; rw [if_pos rfl]) (.deferred none)
        refine ⟨by simp, .inl ⟨D, _, rfl, run_takeDeferred hl2, ih { B1 with sg := B1.sg.del D } _ _ hn2 (fun D' hD' => ?_) hw ⟨fun b o e => ?_, fun b hb => ?_⟩ hg2⟩⟩
        · obtain ⟨k1, k2⟩ := hD D' (List.mem_cons_of_mem _ hD')
          exact ⟨by show (B1.sg.del D) D' = _; rw [hdel _ (fun e => hn1 (e ▸ hD'))]; exact k1, k2⟩
        · have hb : b ≠ D := fun hb => by subst hb; have := hag.lt e; omega
          show ∃ o', (B1.sg.del D) b = some o' ∧ _
          rw [hdel b hb]; exact hgr.1 b o e
        · have hb : b < w.heap.size := hb
          show (B1.sg.del D) b = _
          rw [hdel b (by omega)]; exact hgr.2 b hb
      | nil =>
        intro B1 σ1 w' _ _ hw hgr hg
        have hsl : σ.le σ1 := Sig.le.trans hgr.1 hg.grew.1
        have hsb : ∀ b, b < w.heap.size → σ1 b = σ b := fun b hb => (hg.grew.2 b (by rw [hw]; exact hb)).trans (hgr.2 b hb)
        have hbel : Below w.heap.size w w' := by have := hg.bel; rw [hw] at this; exact this
        have hview : ∀ {x : AV} {v : Value}, VRep σ1 β1 x v → VRep (fun b => if b < w.heap.size then σ b else w'.heap[b]?) [] (x.viewT T st'.hp) v := fun {x v} hx => by
          refine AV.viewT_rep_at (fun b o e => ?_) (fun id ob p hi hp => ?_) hg.mem hx
          · split
            · rename_i hlt
              rw [hsb b hlt] at e; exact ⟨o, e, .refl⟩
            · exact hg.mem.ag _ _ e
          · have := (hg.sep _ _ _ hi hp).2.1
            rw [hw] at this
            rw [if_neg (by omega)]
        obtain ⟨vs, hrun, hall⟩ := results_run (P := P) (w := w') (fn := fn) (tmps := a'.tmps) (Q := fun r v => VRep (fun b => if b < w.heap.size then σ b else w'.heap[b]?) [] (resOne T st' r) v) (fun r hr => by
          have hro := List.all_eq_true.1 hallok r hr
          cases r with
          | tmp t => exact ⟨_, rfl, hview (hg.env t)⟩
          | cell a t =>
            simp only [resOk] at hro
            simp only [resOne]
            have hx := hg.env a
            split at hro
            · rename_i id i k hea
              rw [hea] at hx
              split at hro
              · rename_i v hv
                obtain ⟨p, _, hptr, _⟩ := hx
                obtain ⟨_, hrun⟩ := cLoad_sound (w := w') R.ty R.one hg.mem (t := t) (hg.env a) (p := none) (q := none) (v := v) (by rw [hea]; exact hv)
                obtain ⟨val, h1, h2⟩ := hrun trivial
                refine ⟨val, ?_, hview h2⟩
                rw [hptr] at h1 ⊢
                rw [loadAt_run] at h1
                simp only [asAddr, Sem.run_bind, Sem.run_pure, Result.andThen_ok]
                exact h1
              · cases hro
            · cases hro)
        refine ⟨_, hrun, _, (fun b => if b < w.heap.size then σ b else w'.heap[b]?), rfl, fun b o e => ?_, fun b o e => ?_, fun b hb => by simp [hb], by rw [← hu]; exact resAll_rep hall, hbel⟩
        · have : b < w.heap.size := hag.lt e
          exact ⟨o, by simp [this, e], .refl⟩
        · dsimp only at e
          split at e
          · rename_i hlt
            rw [← hsb b hlt] at e
            exact hg.mem.ag _ _ e
          · exact ⟨o, e, .refl⟩
    exact key Ds B1 σ1 w' e2 e3 hm.w hm.grew hg
  cases e with
  | normal => simp only [post, AV.force_eq] at hp; exact fin hp
  | ret => simp only [post, AV.force_eq] at hp; exact fin hp
  | _ => exact hp.elim
end
end Go.Vm

open Go Go.Vm Go.Proofs
namespace S1
set_option maxRecDepth 100000

/-! ring.Around, ring.Link -/
theorem around_vc {fn} (o : Option tabE.T) (v : Int) : afun ⟨tyL, fn, []⟩ Try.f64 [(ETy.pt tabE).av o, i64E.av v] (fun r => r = .s (.clo 91 [⟨.pt tabE, o⟩, ⟨i64E, v⟩])) := by
  repeat' (conv => whnf
           first
            | done
            | refine Need.intro (by first | rfl | omega | (simp only [i64ok] at *; omega)) ?_
            | refine Need.intro (Hold.out ?_) ?_
            | refine Give.intro fun _ => ?_
            | refine Both.intro ?_ ?_
            | refine BIf.and ?_
            | refine BIf.or ?_
            | refine BIf.eqi (fun _ => ?_) (fun _ => ?_)
            | refine BIf.nei (fun _ => ?_) (fun _ => ?_)
            | refine BIf.dec (fun _ => ?_) (fun _ => ?_)
            | refine BIf.nt ?_
            | refine BIf.intro (fun _ => ?_) (fun _ => ?_)
            | refine And.intro rfl ?_
            | refine And.intro (HoldEq.out ?_) ?_
            | refine And.intro (HoldOb.out ?_) ?_
            | exact True.intro
            | refine HoldEq.out ?_
            | refine HoldObs.out ?_
            | refine HoldOr.out ?_)
  all_goals try first | refine HoldEq.int ?_ | refine HoldEq.bool ?_ | refine HoldEq.sl ?_ | refine HoldEq.own ?_ | refine HoldEq.ownS ?_ ?_ | refine HoldOb.row ?_ | refine HoldOb.map ?_ | refine HoldOb.gmap ?_ | refine HoldOb.grow ?_ | refine HoldObs.row ?_
  all_goals try simp only [take_one, take_one', set_one, take_all, List.length_singleton, rec_self, Int.toNat_natCast, pair_eta, ETy.dflt, List.getD_cons_zero, List.getD_cons_succ, Int.reduceToNat, Int.reduceAdd, Int.reduceSub, Int.reduceNeg, Nat.reduceAdd, Nat.zero_add] at *
def aroundC : List AV → Option Res := con2 (.pt tabE) i64E (fun o v => some (none, none, .s (.clo 91 [⟨.pt tabE, o⟩, ⟨i64E, v⟩])))
theorem aroundRow : FnRow Try.prog 64 aroundC := ⟨con2_ok fun o v r h => by cases h; exact fn_by (rulesF (fn := []) (fr := []) trivial trivial) Try.func64 (by kernel_rfl) fun _ _ => around_vc o v, _, Try.func64, by kernel_rfl, by kernel_rfl⟩
def aroundF (x : tabE.T) (b : Int) : Nat → Int → List Int
  | 0, _ => []
  | n + 1, c => c :: (if tAfter x c < 0 then [] else if tAfter x c = b then [] else aroundF x b n (tAfter x c))
/-- What the sequence of ring.Around yields. -/
def aroundL (o : Option tabE.T) (v : Int) : List Int := onO o [] fun x => if tThere x v then aroundF x (firstR x v).1 30000 (firstR x v).1 else []
end S1

open Go Go.Vm Go.Proofs
namespace S1
set_option maxRecDepth 100000

/-! ring.Link -/
/-- What ring.Around's closure yields, where its table is good. -/
def seqT : SeqTab := fun f ps L => f = 91 ∧ ∃ (o : Option tabE.T) (v : Int), ps = [⟨.pt tabE, o⟩, ⟨i64E, v⟩] ∧ (∀ x, o = some x → Good x) ∧ L = aroundL o v
def lkO (x : tabE.T) (L : List Int) (k : Nat) : List Int := (L.take k).map fun c => tVert x (tNext x c)
def lkLast (L : List Int) (k : Nat) : Int := if k = 0 then -1 else L.getD (k - 1) 0
def linkR (x : tabE.T) (v : Int) : List Int :=
  lkO x (aroundL (some x) v) (aroundL (some x) v).length ++ (if lkLast (aroundL (some x) v) (aroundL (some x) v).length ≥ 0 ∧ tAfter x (lkLast (aroundL (some x) v) (aroundL (some x) v).length) < 0 then [tVert x (tPrev x (lkLast (aroundL (some x) v) (aroundL (some x) v).length))] else [])
theorem lkO_len (x : tabE.T) (L : List Int) (k : Nat) (h : k ≤ L.length) : (lkO x L k).length = k := by
  unfold lkO; rw [List.length_map, List.length_take]; omega
theorem lkO_succ (x : tabE.T) (L : List Int) (k : Nat) (h : k < L.length) : lkO x L (k + 1) = lkO x L k ++ [tVert x (tNext x (L.getD k 0))] := by
  have e : L.take (k + 1) = L.take k ++ [L.getD k 0] := by
    rw [List.take_succ_eq_append_getElem h, List.getD_eq_getElem?_getD, List.getElem?_eq_getElem h]; rfl
  unfold lkO
  rw [e, List.map_append]; rfl
theorem after_le {x : tabE.T} (g : Good x) (c : Int) : tAfter x c ≤ 30000 := by
  unfold tAfter; split
  · decide
  · exact next_le g _
theorem before_le {x : tabE.T} (g : Good x) (c : Int) : tBefore x c ≤ 30000 := by
  unfold tBefore; split
  · decide
  · exact prev_le g _
theorem aroundF_le {x : tabE.T} (g : Good x) {b : Int} : ∀ n c, c ≤ 30000 → (aroundF x b n c).length ≤ n ∧ ∀ a ∈ aroundF x b n c, a ≤ 30000
  | 0, c, _ => ⟨Nat.le_refl _, fun a h => by cases h⟩
  | n + 1, c, hc => by
    obtain ⟨h1, h2⟩ := aroundF_le g (b := b) n (tAfter x c) (after_le g c)
    unfold aroundF
    split
    · exact ⟨by simp, fun a h => by rw [List.mem_singleton] at h; omega⟩
    · split
      · exact ⟨by simp, fun a h => by rw [List.mem_singleton] at h; omega⟩
      · refine ⟨by rw [List.length_cons]; omega, fun a h => ?_⟩
        rcases List.mem_cons.1 h with e | h
        · omega
        · exact h2 a h
theorem firstF_le {x : tabE.T} (g : Good x) {c0 : Int} (h0 : c0 ≤ 30000) : ∀ n c, c ≤ 30000 → (firstF x c0 n c).1 ≤ 30000
  | 0, c, _ => by show (0 : Int) ≤ 30000; decide
  | n + 1, c, hc => by
    unfold firstF
    split
    · exact hc
    · split
      · exact h0
      · exact firstF_le g h0 n _ (before_le g c)
theorem aroundL_le {x : tabE.T} (g : Good x) (v : Int) : (aroundL (some x) v).length ≤ 30000 ∧ ∀ a ∈ aroundL (some x) v, a ≤ 30000 := by
  show (if tThere x v then _ else _ : List Int).length ≤ 30000 ∧ ∀ a ∈ (if tThere x v then _ else _ : List Int), a ≤ 30000
  split
  · exact aroundF_le g _ _ (firstF_le g (corner_le g v) _ _ (corner_le g v))
  · exact ⟨Nat.zero_le _, fun a h => by cases h⟩
theorem getD_le {L : List Int} (h : ∀ a ∈ L, a ≤ 30000) (k : Nat) : L.getD k 0 ≤ 30000 := by
  rw [List.getD_eq_getElem?_getD]
  cases e : L[k]? with
  | none => decide
  | some a => exact h a (List.mem_of_getElem? e)
theorem lkLast_le {L : List Int} (h : ∀ a ∈ L, a ≤ 30000) (k : Nat) : lkLast L k ≤ 30000 := by
  unfold lkLast; split
  · decide
  · exact getD_le h _
def loopK (x : tabE.T) (L : List Int) : Spec Nat where
  inv _ := True
  live _ := []
  keep := [2, 4, 5, 6]
  heap k := [(2, .flat 28 [.own 4 0 (lkO x L k).length]), (3, .flat 3 [.int .i64 (lkLast L k)]), (4, .row i64E 3 (lkO x L k))]
  keepH := [0, 1, 5]
  mu _ := 0
set_option maxHeartbeats 400000 in
theorem link_vc (x : tabE.T) (v : Int) (g : Good x) : afunR ⟨tyL, [(64, aroundC), (58, nextC), (59, prevC), (65, afterC), (24, vertexC)], []⟩ seqT Try.f27 [(ETy.pt tabE).av (some x), i64E.av v] (fun r => r = .s (.sl i64E (linkR x v))) := by
  obtain ⟨hl, ha⟩ := aroundL_le g v
  have hd := getD_le ha
  have hL := lkLast_le ha (aroundL (some x) v).length
  have ho := lkO_len x (aroundL (some x) v)
  have ho2 := ho _ (Nat.le_refl _)
  repeat' (conv => whnf
           first
            | done
            | refine Need.intro (by first | rfl | omega | (simp only [i64ok] at *; omega)) ?_
            | refine Need.intro (Hold.out ?_) ?_
            | refine Give.intro fun _ => ?_
            | refine Both.intro ?_ ?_
            | refine BIf.and ?_
            | refine BIf.or ?_
            | refine BIf.eqi (fun _ => ?_) (fun _ => ?_)
            | refine BIf.nei (fun _ => ?_) (fun _ => ?_)
            | refine BIf.dec (fun _ => ?_) (fun _ => ?_)
            | refine BIf.nt ?_
            | refine BIf.intro (fun _ => ?_) (fun _ => ?_)
            | refine Exists.intro (aroundL (some x) v) (And.intro (Hold.out ?_) (Exists.intro (loopK x (aroundL (some x) v)) ?_))
            | (refine And.intro (fun X => ?_) (fun X => ?_))
            | (refine And.intro (And.intro ?_ (And.intro ?_ rfl)) (fun k hk => ?_))
            | (refine And.intro ?_ (And.intro ?_ rfl))
            | refine And.intro rfl ?_
            | refine And.intro (HoldEq.out ?_) ?_
            | refine And.intro (HoldOb.out ?_) ?_
            | exact True.intro
            | refine HoldEq.out ?_
            | refine HoldObs.out ?_
            | refine HoldOr.out ?_)
  all_goals try first | refine HoldEq.int ?_ | refine HoldEq.bool ?_ | refine HoldEq.sl ?_ | refine HoldEq.own ?_ | refine HoldEq.ownS ?_ ?_ | refine HoldOb.row ?_ | refine HoldOb.map ?_ | refine HoldOb.gmap ?_ | refine HoldOb.grow ?_ | refine HoldObs.row ?_
  all_goals try simp only [take_one, take_one', set_one, take_all, List.length_singleton, rec_self, Int.toNat_natCast, pair_eta, ETy.dflt, List.getD_cons_zero, List.getD_cons_succ, Int.reduceToNat, Int.reduceAdd, Int.reduceSub, Int.reduceNeg, Nat.reduceAdd, Nat.zero_add] at *
  · exact Hold.intro ⟨rfl, some x, v, rfl, fun y e => by cases e; exact g, rfl⟩
  · exact Hold.intro (Int.le_trans (hd k) (by decide))
  · exact Hold.intro (Int.le_trans (next_le g _) (by decide))
  · have := ho k (Nat.le_of_lt hk)
    refine Hold.intro ?_; omega
  · rw [lkO_succ _ _ _ hk, List.length_append]; exact HoldOb.intro rfl
  · exact lkO_succ _ _ _ hk
  · exact Hold.intro ⟨g, hL⟩
  · exact Hold.intro (Int.le_trans hL (by decide))
  · exact Hold.intro (Int.le_trans (prev_le g _) (by decide))
  · refine Hold.intro ?_; omega
  · rename_i h1 h2
    unfold linkR
    rw [if_pos ⟨h1, h2⟩, List.drop_zero]
    exact List.take_of_length_le (by rw [List.length_append]; exact Nat.le_refl _)
  · rename_i h1 h2
    unfold linkR
    rw [if_neg (fun e => h2 e.2), List.append_nil]
  · rename_i h1
    unfold linkR
    rw [if_neg (fun e => h1 e.1), List.append_nil]
end S1

open Go Go.Vm Go.Proofs
namespace S1
set_option maxRecDepth 100000

def loopK0 : Spec Nat where
  inv _ := True
  live _ := []
  keep := [2, 4, 5, 6]
  heap _ := [(2, .flat 28 [.own 4 0 0]), (3, .flat 3 [.int .i64 (-1)]), (4, .row i64E 3 [])]
  keepH := [0, 1, 5]
  mu _ := 0
set_option maxHeartbeats 4000000 in
theorem link0_vc (v : Int) : afunR ⟨tyL, [(64, aroundC), (58, nextC), (59, prevC), (65, afterC), (24, vertexC)], []⟩ seqT Try.f27 [(ETy.pt tabE).av none, i64E.av v] (fun r => r = .s (.sl i64E [])) := by
  repeat' (conv => whnf
           first
            | done
            | refine Need.intro (by first | rfl | omega | (simp only [i64ok] at *; omega)) ?_
            | refine Need.intro (Hold.out ?_) ?_
            | refine Give.intro fun _ => ?_
            | refine Both.intro ?_ ?_
            | refine BIf.and ?_
            | refine BIf.or ?_
            | refine BIf.eqi (fun _ => ?_) (fun _ => ?_)
            | refine BIf.nei (fun _ => ?_) (fun _ => ?_)
            | refine BIf.dec (fun _ => ?_) (fun _ => ?_)
            | refine BIf.nt ?_
            | refine BIf.intro (fun _ => ?_) (fun _ => ?_)
            | refine Exists.intro [] (And.intro (Hold.out ?_) (Exists.intro loopK0 ?_))
            | (refine And.intro (fun X => ?_) (fun X => ?_))
            | (refine And.intro (And.intro ?_ (And.intro ?_ rfl)) (fun k hk => absurd hk (Nat.not_lt_zero _)))
            | refine And.intro rfl ?_
            | refine And.intro (HoldEq.out ?_) ?_
            | refine And.intro (HoldOb.out ?_) ?_
            | exact True.intro
            | refine HoldEq.out ?_
            | refine HoldObs.out ?_
            | refine HoldOr.out ?_)
  all_goals try first | refine HoldEq.int ?_ | refine HoldEq.bool ?_ | refine HoldEq.sl ?_ | refine HoldEq.own ?_ | refine HoldEq.ownS ?_ ?_ | refine HoldOb.row ?_ | refine HoldOb.map ?_ | refine HoldOb.gmap ?_ | refine HoldOb.grow ?_ | refine HoldObs.row ?_
  all_goals try simp only [take_one, take_one', set_one, take_all, List.length_singleton, rec_self, Int.toNat_natCast, pair_eta, ETy.dflt, List.getD_cons_zero, List.getD_cons_succ, Int.reduceToNat, Int.reduceAdd, Int.reduceSub, Int.reduceNeg, Nat.reduceAdd, Nat.zero_add] at *
  · exact Hold.intro ⟨rfl, none, v, rfl, fun y e => (by cases e), rfl⟩
  · rfl
def linkO (o : Option tabE.T) (v : Int) : List Int := onO o [] fun x => linkR x v
def linkC : List AV → Option Res := con2 (.pt tabE) i64E (fun o v => some (none, some (∀ x, o = some x → Good x), .s (.sl i64E (linkO o v))))
theorem link_row (hS : SeqTabOk Try.prog seqT) : FnRow Try.prog 27 linkC := ⟨con2_ok fun o v r h => by
  cases h
  cases o with
  | none => exact fn_okR (rulesF (fn := [(64, aroundC), (58, nextC), (59, prevC), (65, afterC), (24, vertexC)]) (fr := []) ⟨aroundRow, nextRow, prevRow, afterRow, vertexRow, trivial⟩ trivial) hS Try.func27 rfl (by kernel_rfl) (Nat.le_of_ble_eq_true rfl) fun _ _ => link0_vc v
  | some x => exact fn_okR (rulesF (fn := [(64, aroundC), (58, nextC), (59, prevC), (65, afterC), (24, vertexC)]) (fr := []) ⟨aroundRow, nextRow, prevRow, afterRow, vertexRow, trivial⟩ trivial) hS Try.func27 rfl (by kernel_rfl) (Nat.le_of_ble_eq_true rfl) fun _ h => link_vc x v (h x rfl), _, Try.func27, by kernel_rfl, by kernel_rfl⟩
end S1

open Go Go.Vm Go.Proofs
namespace S1
set_option maxRecDepth 100000

/-! link.Why, May (by link.Common's contract, still to be proved) -/
def comR (x : tabE.T) (a b : Int) : List Int := if a = b then [] else sortI ((linkR x a).filter fun v => hasI v (linkR x b))
def comO (o : Option tabE.T) (a b : Int) : List Int := onO o [] fun x => comR x a b
def comC : List AV → Option Res := con3 (.pt tabE) i64E i64E (fun o a b => some (none, some (∀ x, o = some x → Good x), .s (.sl i64E (comO o a b))))
def whyL (f : List Int) : List Int → Bool
  | [] => true
  | v :: r => hasI v f && whyL f r
def whyR (x : tabE.T) (a b : Int) : Int :=
  if !nearR x a b then 1 else if (facR x a b).length = 2 ∧ innerR x a = false ∧ innerR x b = false then 2
  else if whyL (facR x a b) (comR x a b) = false then 3 else if smallR x a then 4 else 0
theorem near_cor {x : tabE.T} (g : Good x) {a b : Int} (h : nearR x a b = true) : tHas x (tCorner x a) = true ∧ tHas x (tCorner x b) = true := by
  have key : ∀ {a b : Int}, 0 ≤ tFacing x (a, b) → tHas x (tCorner x a) = true ∧ tHas x (tCorner x b) = true := fun {a b} h => by
    unfold tFacing at h
    cases e : mget .arr2 x.2.1 (a, b) with
    | none => rw [e] at h; exact absurd h (by decide)
    | some c =>
      obtain ⟨h1, h2⟩ := g.map _ _ e
      have e1 : tVert x (tNext x c) = a := congrArg Prod.fst h2
      have e2 : tVert x (tPrev x c) = b := congrArg Prod.snd h2
      have k1 := g.cor _ (hasNP h1).1
      have k2 := g.cor _ (hasNP h1).2
      rw [e1] at k1; rw [e2] at k2
      exact ⟨k1, k2⟩
  unfold nearR at h
  rw [Bool.or_eq_true, decide_eq_true_eq, decide_eq_true_eq] at h
  rcases h with h | h
  · exact key h
  · exact (key h).symm
theorem onO_some {α : Type} {x : tabE.T} {d : α} {f : tabE.T → α} : onO (some x) d f = f x := rfl
theorem comO_some {x : tabE.T} {a b : Int} : comO (some x) a b = comR x a b := rfl
attribute [local irreducible] nearR innerR hasI smallR
def loopW (x : tabE.T) (a b : Int) : Spec Nat where
  inv i := i ≤ (comR x a b).length ∧ whyL (facR x a b) (comR x a b) = whyL (facR x a b) ((comR x a b).drop i)
  live i := [(39, .s (.int .i64 i))]
  keep := [0, 1, 2, 7, 37, 38]
  heap _ := []
  keepH := []
  mu i := (comR x a b).length - i
set_option maxHeartbeats 2000000 in
theorem why_vc (x : tabE.T) (a b : Int) (g : Good x) : afun ⟨tyL, [(23, nearC), (50, facing2C), (25, innerC), (16, comC), (47, containsC), (51, smallC)], []⟩ Try.f18 [(ETy.pt tabE).av (some x), i64E.av a, i64E.av b] (fun r => r = .s (.int .i64 (whyR x a b))) := by
  repeat' (conv => whnf
           first
            | done
            | refine Need.intro (by first | rfl | omega | (simp only [i64ok] at *; omega)) ?_
            | refine Need.intro (Hold.out ?_) ?_
            | refine Give.intro fun _ => ?_
            | refine Both.intro ?_ ?_
            | refine BIf.and ?_
            | refine BIf.or ?_
            | refine BIf.eqi (fun _ => ?_) (fun _ => ?_)
            | refine BIf.nei (fun _ => ?_) (fun _ => ?_)
            | refine BIf.dec (fun _ => ?_) (fun _ => ?_)
            | refine BIf.nt ?_
            | refine BIf.intro (fun _ => ?_) (fun _ => ?_)
            | ((first | (with_reducible show Or (∃ n, rounds (acode _ (Code.seq (Code.region 7 _ _) _)) _ n _) _) | (with_reducible show Or (∃ n, rounds (acode _ (Code.seq (Code.seq (Code.region 7 _ _) _) _)) _ n _) _) | (with_reducible show Or (∃ n, rounds (acode _ (Code.seq (Code.seq (Code.seq (Code.region 7 _ _) _) _) _)) _ n _) _) | (with_reducible show Or (∃ n, rounds (acode _ (Code.seq (Code.seq (Code.seq (Code.seq (Code.region 7 _ _) _) _) _) _)) _ n _) _) | (with_reducible show Or (∃ n, rounds (acode _ (Code.block _ (Code.seq (Code.region 7 _ _) _))) _ n _) _) | (with_reducible show Or (∃ n, rounds (acode _ (Code.block _ (Code.seq (Code.seq (Code.region 7 _ _) _) _))) _ n _) _) | (with_reducible show Or (∃ n, rounds (acode _ (Code.block _ (Code.seq (Code.seq (Code.seq (Code.region 7 _ _) _) _) _))) _ n _) _) | (with_reducible show Or (∃ n, rounds (acode _ (Code.block _ (Code.seq (Code.seq (Code.seq (Code.seq (Code.region 7 _ _) _) _) _) _))) _ n _) _)); refine Or.inr (Exists.intro (Nat) (Exists.intro (loopW x a b) (And.intro (Exists.intro (0) (And.intro (Hold.out ?_) (And.intro ?_ (And.intro ?_ rfl)))) (fun i hi => ?_)))))
            | ((with_reducible show (∃ y, And (Spec.inv (loopW _ _ _) y) _)); refine Exists.intro (i + 1) (And.intro (Hold.out ?_) (And.intro (And.intro ?_ (And.intro ?_ rfl)) (Hold.out ?_))))
            | refine And.intro rfl ?_
            | refine And.intro (HoldEq.out ?_) ?_
            | refine And.intro (HoldOb.out ?_) ?_
            | exact True.intro
            | refine HoldEq.out ?_
            | refine HoldObs.out ?_
            | refine HoldOr.out ?_)
  all_goals try first | refine HoldEq.int ?_ | refine HoldEq.bool ?_ | refine HoldEq.sl ?_ | refine HoldEq.own ?_ | refine HoldEq.ownS ?_ ?_ | refine HoldOb.row ?_ | refine HoldOb.map ?_ | refine HoldOb.gmap ?_ | refine HoldOb.grow ?_ | refine HoldObs.row ?_
  all_goals try simp only [take_one, take_one', set_one, take_all, List.length_singleton, rec_self, Int.toNat_natCast, pair_eta, ETy.dflt, List.getD_cons_zero, List.getD_cons_succ, Int.reduceToNat, Int.reduceAdd, Int.reduceSub, Int.reduceNeg, Nat.reduceAdd, Nat.zero_add, loopW, onO_some, comO_some] at *
  all_goals try have hnear : nearR x a b = true := by assumption
  all_goals try have hlt : (i : Int) < ((comR x a b).length : Int) := by assumption
  all_goals try have hge : ¬ (i : Int) < ((comR x a b).length : Int) := by assumption
  all_goals try have hh : hasI ((comR x a b).getD i 0) (facR x a b) = true := by assumption
  all_goals try have hf : hasI ((comR x a b).getD i 0) (facR x a b) = false := by assumption
  all_goals try have hno : nearR x a b = false := by assumption
  all_goals first
    | exact Hold.intro (fun y e => by cases e; exact g)
    | exact Hold.intro ⟨Nat.zero_le _, rfl⟩
    | exact Hold.intro ⟨g, (near_cor g hnear).1⟩
    | (refine Hold.intro ⟨by omega, ?_⟩; rw [hi.2, drop_now 0 hlt, whyL, hh]; rfl)
    | exact Hold.intro (by omega)
    | (have hw : whyL (facR x a b) (comR x a b) = true := by rw [hi.2, drop_all hge]; rfl
       clear hi; unfold whyR; (try have hfl : (facR x a b).length = 2 := by omega); (try have hfn : ¬ (facR x a b).length = 2 := by omega); simp [*]; done)
    | (have hw : whyL (facR x a b) (comR x a b) = false := by rw [hi.2, drop_now 0 hlt, whyL, hf]; rfl
       clear hi; unfold whyR; (try have hfl : (facR x a b).length = 2 := by omega); (try have hfn : ¬ (facR x a b).length = 2 := by omega); simp [*]; done)
    | (unfold whyR; (try have hfl : (facR x a b).length = 2 := by omega); simp [*]; done)
    | skip
end S1

/- The function of a sequence: between its yields it runs by the machine; at each yield it owns nothing. -/
namespace Go.Vm
open Go.RowKit

/-- A call of the yield that lies in a slot, at one argument. -/
def yFun (st : St) (o : Oper) : Option (Operand × Operand) :=
  match o.op with
  | .call ⟨.value (.tmp t), ⟨[x]⟩, _⟩ => match opnd st.env (.tmp t) with
    | .s (.val (.func (.yield _) ⟨[]⟩ ⟨[]⟩)) => some (.tmp t, x)
    | _ => none
  | _ => none
/-- May there be one? -/
def yCand (o : Oper) : Bool :=
  match o.op with
  | .call ⟨.value (.tmp _), ⟨[_]⟩, _⟩ => true
  | _ => false
def yGo (l : Nat) (L : List Int) (g x : Operand) (dst : Option Tmp) (st : St) (pre : List Int) (K : St → List Int → Prop) : Prop :=
  match opnd st.env g, opnd st.env x, st.hp with
  | .s (.val (.func (.yield l') ⟨[]⟩ ⟨[]⟩)), .s (.int .i64 n), [] => l' = l ∧ (pre ++ [n]) <+: L ∧ (st.put dst (.s (.bool true))).forceAll fun st => K st (pre ++ [n])
  | _, _, _ => False
def aopsY (T : Tab) (l : Nat) (L : List Int) (ops : Array Oper) : List Oper → St → List Int → (St → List Int → Prop) → Prop
  | [], st, pre, K => K st pre
  | o :: r, st, pre, K => match yFun st o with
    | some (g, x) => match o.guard with
      | none => yGo l L g x o.dst st pre fun st pre => aopsY T l L ops r st pre K
      | some (j, want) => match guardVal ops st.env j with
        | .s (.bool b) => BIf b
          (match want with
            | true => (st.put (guardSlot ops j) (.s (.bool true))).force fun st => yGo l L g x o.dst st pre fun st pre => aopsY T l L ops r st pre K
            | false => (st.put (guardSlot ops j) (.s (.bool true))).force fun st => (st.put o.dst .undef).force fun st => aopsY T l L ops r st pre K)
          (match want with
            | true => (st.put (guardSlot ops j) (.s (.bool false))).force fun st => (st.put o.dst .undef).force fun st => aopsY T l L ops r st pre K
            | false => (st.put (guardSlot ops j) (.s (.bool false))).force fun st => yGo l L g x o.dst st pre fun st pre => aopsY T l L ops r st pre K)
        | _ => False
    | none => aops T false ops [o] st fun st => aopsY T l L ops r st pre K
/-- A region with a yield in it, in the text's order. -/
def yParts (ops : Array Oper) (draw : Bool) : Bool :=
  match draw with
  | false => ops.toList.any yCand
  | true => false

def acodeY (T : Tab) (l : Nat) (L : List Int) : Code → St → List Int → (Exit → St → List Int → Prop) → Prop
  | .seq a b, st, pre, K => acodeY T l L a st pre (fun e s pre => match e with
    | .normal => acodeY T l L b s pre K
    | e => K e s pre)
  | .cond c a b, st, pre, K => match opnd st.env c with
    | .s (.bool t) => BIf t (acodeY T l L a st pre K) (acodeY T l L b st pre K)
    | _ => False
  | .block id c, st, pre, K => acodeY T l L c st pre (fun e s pre => match e with
    | .exit i => match Nat.beq i id with | true => K .normal s pre | false => K (.exit i) s pre
    | e => K e s pre)
  | .loop c, st, pre, K => ∃ (X : Type) (S : Spec X) (PR : X → List Int), (∃ x, S.inv x ∧ PR x = pre ∧ leSt st (S.head st x)) ∧
      ∀ x, S.inv x → (S.head st x).forceAll fun h => acodeY T l L c h (PR x) (fun e s pre' => match e with
        | .normal => ∃ y, S.inv y ∧ PR y = pre' ∧ leSt s (S.head st y) ∧ S.mu y < S.mu x
        | e => K e s pre')
  | .region i ops draw, st, pre, K => match yParts ops draw with
    | true => aopsY T l L ops ops.toList st pre (K .normal)
    | false => acode T (.region i ops draw) st (fun e s => K e s pre)
  | .skip, st, pre, K => K .normal st pre
  | .exit i, st, pre, K => K (.exit i) st pre
  | .ret, st, pre, K => K .ret st pre
  | _, _, _, _ => False

theorem yFun_eq {st : St} {o : Oper} {g x : Operand} (h : yFun st o = some (g, x)) : ∃ t ts, g = .tmp t ∧ o.op = .call ⟨.value (.tmp t), #[x], ts⟩ := by
  unfold yFun at h
  split at h
  · rename_i t x2 ts h1
    split at h
    · cases h; exact ⟨t, ts, rfl, h1⟩
    · cases h
  · cases h

section
variable {P : Program} {T : Tab} {B B0 : Base} {w w' : World} {σ τ : Sig} {β : Places} {st : St} {tmps : Array Value} {N : Nat} {a : Act}

theorem yGo_out {l : Nat} {L : List Int} {g x : Operand} {dst : Option Tmp} {pre : List Int} {K : St → List Int → Prop} (h : yGo l L g x dst st pre K) :
    opnd st.env g = .s (.val (.func (.yield l) #[] #[])) ∧ ∃ n, opnd st.env x = .s (.int .i64 n) ∧ st.hp = [] ∧ (pre ++ [n]) <+: L ∧ K (st.put dst (.s (.bool true))) (pre ++ [n]) := by
  unfold yGo at h
  split at h
  · rename_i l' n h1 h2 h3
    obtain ⟨rfl, hp, hk⟩ := h
    rw [St.forceAll_eq] at hk
    exact ⟨h1, n, h2, h3, hp, hk⟩
  · exact h.elim

/-- A call of yield. -/
theorem exec_yield {o : Oper} {ρ : Operand → Value} {l : Nat} {g x : Operand} {ts : Array TypeId} {r : Result Next} (ho : o.op = .call ⟨.value g, #[x], ts⟩) (hf : ρ g = .func (.yield l) #[] #[]) (hy : (Instr.yield l #[ρ x]).run P w = r) : (execOp ρ o).run P w = r := by
  simp only [execOp, ho, resolve, hf, Deferred.ofValue, Sem.run_bind, Sem.run_pure, Result.andThen_ok, invoke]
  simpa using hy

/-- What is known at a yield is still known behind it. -/
theorem GG.yielded (h : GG B σ β st tmps w) (hh : st.hp = []) (hag : Ag σ w') : GG ⟨w', σ, []⟩ σ β st tmps w' :=
  ⟨⟨hag, fun id ob hi => by rw [hh] at hi; cases hi⟩, h.env, h.len, fun id ob p hi => (by rw [hh] at hi; cases hi), Below.refl _ _, Sig.le.refl _, fun _ _ => rfl⟩

def YOk (P : Program) (l : Nat) (L : List Int) (J : List Int → Sig → World → Prop) : Prop :=
  ∀ pre x σp σ1 Ws W1, J pre σp Ws → Below Ws.heap.size Ws W1 → (∀ b, b < Ws.heap.size → σ1 b = σp b) → Ag σ1 W1 → (pre ++ [x]) <+: L →
    YieldAt Fence.wide 0 P l #[.int .i64 x] W1 fun e W' => e = .returned (.bool true) ∧ J (pre ++ [x]) σ1 W' ∧ Ag σ1 W'
theorem yield_step {l : Nat} {L : List Int} {J : List Int → Sig → World → Prop} (hY : YOk P l L J) {o : Oper} (ho : operOk N o = true) {ops : Array Oper} {os : List Oper} {Q : Exit → Act → World → Prop} {t : Tmp} {x : Operand} {ts : Array TypeId} (hop : o.op = .call ⟨.value (.tmp t), #[x], ts⟩)
    {pre : List Int} {K : St → List Int → Prop} (hd : B.dfs = []) (hj : J pre B.sg B.w) (h : GA B N st a w) (hk : yGo l L (.tmp t) x o.dst st pre K)
    (hQ : ∀ B1 st' pre' a' w', B1.dfs = [] → J pre' B1.sg B1.w → K st' pre' → GA B1 N st' a' w' → wpListIn (FR none) 0 P ops Q os a' w') : o.wpIn (FR none) 0 P a w (wpListIn (FR none) 0 P ops Q os) Q := by
  obtain ⟨hg, n, hx, hh, hpre, hK⟩ := yGo_out hk
  obtain ⟨σ1, β1, hgg⟩ := h.gg
  have hxo : opndOk x = true := by
    simp only [operOk, Bool.and_eq_true, List.all_eq_true] at ho
    exact ho.2 x (by simp [hop, Op.operands, Call.operands])
  have hgv : a.eval (.tmp t) = .func (.yield l) #[] #[] := by
    have := opnd_rep hgg (x := .tmp t) rfl
    rw [hg] at this
    exact this.1
  have hxv : a.eval x = .int .i64 n := by
    have := opnd_rep hgg hxo
    rw [hx] at this
    exact this.1
  obtain ⟨fn, tmps, assign, body, hrun, hround⟩ := hY pre n B.sg σ1 B.w w hj hgg.bel hgg.grew.2 hgg.mem.ag hpre
  refine ⟨fun f' _ => trivial, ?_⟩
  have hex := exec_yield (r := .ok (.round l fn tmps assign body) w) hop hgv (by rw [hxv]; exact hrun)
  rw [Oper.semAt_eq _ _ _ (by rw [hop]; intro c e; cases e), hex]
  refine ⟨(fun e => by cases e), ?_⟩
  refine hround.mono fun e w' hpost => ?_
  obtain ⟨rfl, hj', hag'⟩ := hpost
  refine hQ ⟨w', σ1, []⟩ (st.put o.dst (.s (.bool true))) (pre ++ [n]) _ _ rfl hj' hK ?_
  have hy := (hgg.yielded hh hag').put (d := o.dst) (dst_ok h.size ho) (a := .s (.bool true)) (v := .bool true) rfl
  exact ga_put (h.defers.trans hd) h.size ⟨σ1, β1, hy⟩
theorem aopsY_wp (R : Rules P T) {l : Nat} {L : List Int} {J : List Int → Sig → World → Prop} (hY : YOk P l L J) {ops : Array Oper} {Q : Exit → Act → World → Prop} : ∀ (os : List Oper) {B : Base} {st : St} {a : Act} {w : World} {pre : List Int} {K : St → List Int → Prop},
    (∀ o ∈ os, operOk N o = true) → B.dfs = [] → J pre B.sg B.w → GA B N st a w → aopsY T l L ops os st pre K →
    (∀ B1 st' pre' a' w', B1.dfs = [] → J pre' B1.sg B1.w → K st' pre' → GA B1 N st' a' w' → Q .normal a' w') → wpListIn (FR none) 0 P ops Q os a w
  | [], B, st, a, w, pre, K, _, hd, hj, h, hk, hQ => hQ _ _ _ _ _ hd hj hk h
  | o :: os, B, st, a, w, pre, K, hall, hd, hj, h, hk, hQ => by
    have ho := hall o (by simp)
    have hall' : ∀ o ∈ os, operOk N o = true := fun o' ho' => hall o' (by simp [ho'])
    simp only [aopsY, St.force_eq] at hk
    split at hk
    case h_2 =>
      have := aops_wpL R os [o] (ops := ops) (Q := Q) (fun o' ho' => hall o' (by rw [List.mem_singleton.1 ho']; simp)) h hk fun st' a' w' hk' h' => aopsY_wp R hY os hall' hd hj h' hk' hQ
      exact this
    rename_i g x hyf
    obtain ⟨t, ts, rfl, hop⟩ := yFun_eq hyf
    have go : ∀ {st : St}, GA B N st a w → yGo l L (.tmp t) x o.dst st pre (fun st pre => aopsY T l L ops os st pre K) → o.wpIn (FR none) 0 P a w (wpListIn (FR none) 0 P ops Q os) Q := fun h hk =>
      yield_step hY ho hop hd hj h hk fun B1 st' pre' a' w' hd' hj' hk' h' => aopsY_wp R hY os hall' hd' hj' h' hk' hQ
    have skip : ∀ {st : St}, GA B N st a w → aopsY T l L ops os (st.put o.dst .undef) pre K → wpListIn (FR none) 0 P ops Q os (a.put o.dst undef) w := fun h hk =>
      aopsY_wp R hY os hall' hd hj (ga_skip h ho) hk hQ
    simp only [wpListIn]
    cases hg : o.guard with
    | none =>
      simp only [hg] at hk
      have : Region.wanted o (yielded ops a.tmps) = true := by simp [Region.wanted, hg]
      rw [if_pos this]
      exact go h hk
    | some jw =>
      obtain ⟨j, want⟩ := jw
      simp only [hg] at hk
      obtain ⟨σ, β, hgg⟩ := h.gg
      split at hk
      case h_2 => exact hk.elim
      rename_i b hb
      obtain ⟨d, hd1, hd2⟩ := guardVal_slot (ops := ops) (env := st.env) (j := j) (by rw [hb]; simp)
      rw [hd2] at hb
      have hv := hgg.env d
      rw [hb] at hv
      have hy := guard_bool (ops := ops) hd1 (show a.tmps.getD d undef = .bool b from hv)
      rw [hd1] at hk
      cases b with
      | true =>
        cases want with
        | true =>
          rw [if_pos (by simp [Region.wanted, hg, hy])]
          exact go (ga_bool h hb) hk
        | false =>
          rw [if_neg (by simp [Region.wanted, hg, hy])]
          exact ⟨fun f _ => trivial, skip (ga_bool h hb) hk⟩
      | false =>
        cases want with
        | true =>
          rw [if_neg (by simp [Region.wanted, hg, hy])]
          exact ⟨fun f _ => trivial, skip (ga_bool h hb) hk⟩
        | false =>
          rw [if_pos (by simp [Region.wanted, hg, hy])]
          exact go (ga_bool h hb) hk

theorem acodeY_wp (R : Rules P T) {l : Nat} {L : List Int} {J : List Int → Sig → World → Prop}
    (hY : YOk P l L J) :
    ∀ (c : Code) {B : Base} {st : St} {a : Act} {w : World} {pre : List Int} {K : Exit → St → List Int → Prop} {Q : Exit → Act → World → Prop}, codeOk N c = true → B.dfs = [] → J pre B.sg B.w → GA B N st a w → acodeY T l L c st pre K →
    (∀ e B1 st' pre' a' w', B1.dfs = [] → J pre' B1.sg B1.w → K e st' pre' → GA B1 N st' a' w' → Q e a' w') → c.wpIn (FR none) 0 P Q a w := by
  intro c
  induction c with
  | skip => intro B st a w pre K Q _ hd hj h hk hQ; exact wpIn_skip (hQ _ _ _ _ _ _ hd hj hk h)
  | exit i => intro B st a w pre K Q _ hd hj h hk hQ; exact wpIn_exit (hQ _ _ _ _ _ _ hd hj hk h)
  | ret => intro B st a w pre K Q _ hd hj h hk hQ; exact wpIn_ret (hQ _ _ _ _ _ _ hd hj hk h)
  | seq x y ihx ihy =>
    intro B st a w pre K Q hok hd hj h hk hQ
    simp only [codeOk, Bool.and_eq_true] at hok
    refine wpIn_seq (ihx hok.1 hd hj h hk fun e B1 st' pre' a' w' hd' hj' hk' h' => ?_)
    cases e with
    | normal => exact ihy hok.2 hd' hj' h' hk' hQ
    | _ => exact hQ _ _ _ _ _ _ hd' hj' hk' h'
  | cond c x y ihx ihy =>
    intro B st a w pre K Q hok hd hj h hk hQ
    simp only [codeOk, Bool.and_eq_true] at hok
    simp only [acodeY] at hk
    split at hk
    · rename_i t ht
      have hev := cond_bool h hok.1.1 ht
      cases t with
      | true => exact wpIn_cond_true hev (ihx hok.1.2 hd hj h hk hQ)
      | false => exact wpIn_cond_false hev (ihy hok.2 hd hj h hk hQ)
    · exact hk.elim
  | block id c ih =>
    intro B st a w pre K Q hok hd hj h hk hQ
    simp only [codeOk] at hok
    refine wpIn_block (ih hok hd hj h hk fun e B1 st' pre' a' w' hd' hj' hk' h' => ?_)
    cases e with
    | exit i =>
      simp only [Exit.inBlock]
      dsimp only at hk'
      split at hk'
      · rename_i e; rw [if_pos (Nat.eq_of_beq_eq_true e)]; exact hQ _ _ _ _ _ _ hd' hj' hk' h'
      · rename_i e
        rw [if_neg (fun e' => by subst e'; rw [Nat.beq_refl] at e; cases e)]; exact hQ _ _ _ _ _ _ hd' hj' hk' h'
    | _ => exact hQ _ _ _ _ _ _ hd' hj' hk' h'
  | loop c ih =>
    intro B st a w pre K Q hok hd hj h hk hQ
    simp only [codeOk] at hok
    simp only [acodeY, St.forceAll_eq] at hk
    obtain ⟨X, S, PR, ⟨x0, hi0, hp0, hle0⟩, hround⟩ := hk
    refine wpIn_loop_ghost (fun m a w => ∃ x B, S.inv x ∧ S.mu x = m ∧ B.dfs = [] ∧ J (PR x) B.sg B.w ∧ GA B N (S.head st x) a w) (S.mu x0) ⟨x0, B, hi0, rfl, hd, by rw [hp0]; exact hj, h.weaken hle0⟩ ?_
    rintro m a w ⟨x, B, hi, rfl, hd, hj, hx⟩
    refine ih hok hd hj hx (hround x hi) fun e B1 st' pre' a' w' hd' hj' hk' h' => ?_
    cases e with
    | normal =>
      obtain ⟨y, hy, hp, hle, hlt⟩ := hk'
      exact ⟨_, hlt, y, B1, hy, rfl, hd', by rw [hp]; exact hj', h'.weaken hle⟩
    | _ => exact hQ _ _ _ _ _ _ hd' hj' hk' h'
  | region id ops draw =>
    intro B st a w pre K Q hok hd hj h hk hQ
    simp only [acodeY] at hk
    split at hk
    · rename_i hyp
      have hdr : draw = false := by
        unfold yParts at hyp
        cases draw with
        | false => rfl
        | true => cases hyp
      subst hdr
      simp only [codeOk, Bool.and_eq_true, List.all_eq_true] at hok
      refine wpIn_region_list ?_
      exact aopsY_wp R hY ops.toList hok.1 hd hj h hk fun B1 st' pre' a' w' hd' hj' hk' h' => hQ _ _ _ _ _ _ hd' hj' hk' h'
    · exact acode_wp R _ hok h hk fun e st' a' w' hk' h' => hQ _ _ _ _ _ _ hd hj hk' h'
  | _ => intro B st a w pre K Q hok hd hj h hk; exact hk.elim

def seqArgs (l : Nat) (ps : List PtV) : List AV := .s (.val (.func (.yield l) #[] #[])) :: ps.map fun q => .s (.pt q.e (some q.x))
def postY (L : List Int) : Exit → St → List Int → Prop
  | .normal, _, pre => pre = L
  | .ret, _, pre => pre = L
  | _, _, _ => False
/-- The function of a sequence, at any loop, yields just this. -/
def afunY (T : Tab) (fn : Func) (ps : List PtV) (L : List Int) : Prop :=
  match fn.body with
  | some c => ∀ l : Nat, (St.init (seqArgs l ps)).forceAll fun s => acodeY T l L c s [] (postY L)
  | none => False
theorem seqArgs_rep {l : Nat} : ∀ {ps : List PtV} {vs : List Value}, All2 (fun (q : PtV) u => ERep σ (.pt q.e) (some q.x) [u]) ps vs → VReps σ [] (ps.map fun q => AV.s (.pt q.e (some q.x))) vs
  | [], [], _ => trivial
  | q :: ps, v :: vs, h => ⟨h.1, seqArgs_rep (l := l) h.2⟩
  | [], _ :: _, h => h.elim
  | _ :: _, [], h => h.elim

theorem seq_ok (R : Rules P T) {f : FuncId} {fn : Func} {c : Code} (hf : P.funcs[f]? = some fn) (hb : fn.body = some c) (hok : codeOk fn.ntmps c = true) (hr : fn.results = #[])
    (hn : (fn.name == "runtime.NumGoroutine") = false) {ps : List PtV} (hl : ps.length + 1 ≤ fn.ntmps) {L : List Int} (hL : ∀ x ∈ L, InK .i64 x) (h : goodArgs (seqArgs 0 ps) → afunY T fn ps L) : SeqOk P f ps L := by
  refine ⟨fun args w => ?_, hL, fun σ vs hcap l J W hag hst hY hJ => ?_⟩
  · simp only [callFunc, Sem.run_bind, run_program, Result.andThen_ok, hf, hn, hb]
    simp
  · have hv : VReps σ [] (seqArgs l ps) (.func (.yield l) #[] #[] :: vs) := ⟨⟨rfl, fun cs e => by cases e⟩, seqArgs_rep (l := l) hcap⟩
    have hv0 : VReps σ [] (seqArgs 0 ps) (.func (.yield 0) #[] #[] :: vs) := ⟨⟨rfl, fun cs e => by cases e⟩, seqArgs_rep (l := 0) hcap⟩
    have hk := h (vreps_good hv0)
    simp only [afunY, hb, St.forceAll_eq] at hk
    have hga := ga_init (N := fn.ntmps) hag hv (by simpa [seqArgs] using hl)
    have e1 : #[Value.func (.yield l) #[] #[]] ++ vs.toArray = (Value.func (.yield l) #[] #[] :: vs).toArray := by simp
    rw [e1]
    refine callsIn_of_wp (F := Fence.wide) (n := 0) hf hb trivial ?_
    rw [← FR.none]
    refine acodeY_wp (J := J) (L := L) R hY c hok rfl hJ hga (hk l) fun e B1 st' pre' a' w' hd' hj' hk' h' => ?_
    have fin : pre' = L → a'.defers = [] ∧ ∃ v, (results fn a'.tmps).run P w' = .ok v w' ∧ (∃ v', (Ending.returned v) = .returned v') ∧ ∃ σ', J L σ' w' := by
      intro e
      subst e
      obtain ⟨vs, hrun, _⟩ := results_run (P := P) (w := w') (fn := fn) (tmps := a'.tmps) (Q := fun r v => True) (fun r hr' => by rw [hr] at hr'; cases hr')
      obtain ⟨σ1, β1, hg⟩ := h'.gg
      exact ⟨h'.defers.trans hd', _, hrun, ⟨_, rfl⟩, _, hst _ _ _ _ hj' hg.bel⟩
    cases e with
    | normal => exact fin hk'
    | ret => exact fin hk'
    | _ => exact hk'.elim
end
def HoldX {α : Type} (a b : α) : Prop := a = b
theorem HoldX.out {α : Type} {a b : α} (h : HoldX a b) : a = b := h
theorem HoldX.intro {α : Type} {a b : α} (h : a = b) : HoldX a b := h
attribute [irreducible] HoldX
end Go.Vm
