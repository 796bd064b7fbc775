/- A whole function: from what the evaluator asks to what its callers may lean on. -/
import Derived.Test.YtkkhoppffmnkiaaVmCode2
set_option linter.unusedSimpArgs false
set_option linter.unusedVariables false
namespace Go.Vm
open Go.RowKit

/-- What is true of every datum of the model. -/
def ETy.good : (e : ETy) → e.T → Prop
  | .int .i64, n => i64ok n
  | .int k, n => k.wrap n = n
  | .bool, _ => True
  | .arr2, x => i64ok x.1 ∧ i64ok x.2
  | .arr3, x => i64ok x.1 ∧ i64ok x.2.1 ∧ i64ok x.2.2
  | .pair a b, x => a.good x.1 ∧ b.good x.2
  | .sl e, xs => xs.length ≤ 140737488355328 ∧ ∀ x ∈ xs, e.good x
  | .mp k _, m => ∀ x ∈ m, k.good x.1
  | .pt e, o => ∀ x, o = some x → e.good x
  | .unit, _ => True

def AS.good : AS → Prop
  | .int .i64 n => i64ok n
  | .int k n => k.wrap n = n
  | .sl e xs => (ETy.sl e).good xs
  | .mp k v m => (ETy.mp k v).good m
  | .pt e o => (ETy.pt e).good o
  | .ip e x _ => e.good x
  | .ipi e x _ => e.good x
  | _ => True

def goodAll : List AS → Prop
  | [] => True
  | a :: l => a.good ∧ goodAll l

def AV.good : AV → Prop
  | .s a => a.good
  | .agg l => goodAll l
  | .tup _ => True

def goodArgs : List AV → Prop
  | [] => True
  | a :: l => a.good ∧ goodArgs l

section
variable {P : Program} {B : Base} {w : World} {σ : Sig} {β : Places} {st : St} {T : Tab} {a : Act} {hp : Heap}

theorem inK_i64 {n : Int} (h : InK .i64 n) : i64ok n := InK.i64.1 h

theorem ERep.good : ∀ {e : ETy} {x : e.T} {ds : List Value}, ERep σ e x ds → e.good x
  | .int k, n, ds, h => by cases k <;> first | exact inK_i64 h.2 | exact h.2
  | .bool, _, _, _ => trivial
  | .arr2, x, _, h => ⟨inK_i64 h.2.1, inK_i64 h.2.2⟩
  | .arr3, x, _, h => ⟨inK_i64 h.2.1, inK_i64 h.2.2.1, inK_i64 h.2.2.2⟩
  | .pair a b, x, _, h => by obtain ⟨d1, d2, _, h1, h2⟩ := h; exact ⟨h1.good, h2.good⟩
  | .sl e, xs, _, h => by
    obtain ⟨p, cap, _, hl, _, h⟩ := h
    refine ⟨hl, fun x hx => ?_⟩
    obtain ⟨b, o, _, h⟩ := h (List.ne_nil_of_mem hx)
    obtain ⟨i, hi, rfl⟩ := List.mem_iff_getElem.1 hx
    obtain ⟨d, h1, _⟩ := h i _ (List.getElem?_eq_getElem hi)
    exact h1.good
  | .mp k v, m, _, h => by
    obtain ⟨p, _, hl, hn, h⟩ := h
    refine fun x hx => ?_
    cases p with
    | none => rw [hn rfl] at hx; cases hx
    | some b =>
      obtain ⟨es, clock, _, _, h⟩ := h b rfl
      obtain ⟨i, hi, rfl⟩ := List.mem_iff_getElem.1 hx
      obtain ⟨en, dk, dv, _, h1, _⟩ := h i _ (List.getElem?_eq_getElem hi)
      exact h1.good
  | .pt e, none, _, _ => fun x hx => by cases hx
  | .pt e, some x, _, h => fun y hy => by
    cases hy
    obtain ⟨b, off, d, _, h1, _⟩ := h; exact h1.good
  | .unit, _, _, _ => trivial

theorem ARep.good {x : AS} {v : Value} (h : ARep σ β x v) : x.good := by
  cases x with
  | int k n => obtain ⟨_, h⟩ := h; cases k <;> first | exact inK_i64 h | exact h
  | sl e xs => exact ERep.good h
  | mp k v m => exact ERep.good h
  | pt e o => exact ERep.good h
  | ip e x k => obtain ⟨b, o, d, _, h1, _⟩ := h; exact h1.good
  | ipi e x k => obtain ⟨b, o, d, _, h1, _⟩ := h; exact h1.good
  | _ => trivial

theorem all2_good : ∀ {l : List AS} {ds : List Value}, All2 (ARep σ β) l ds → goodAll l
  | [], _, _ => trivial
  | _ :: _, _ :: _, h => ⟨h.1.good, all2_good h.2⟩
  | _ :: _, [], h => h.elim

theorem VRep.good {x : AV} {v : Value} (h : VRep σ β x v) : x.good := by
  cases x with
  | s a => exact ARep.good h
  | agg l => obtain ⟨ds, _, r⟩ := h; exact all2_good r
  | tup l => trivial

theorem vreps_good : ∀ {l : List AV} {m : List Value}, VReps σ β l m → goodArgs l
  | [], _, _ => trivial
  | _ :: _, _ :: _, h => ⟨VRep.good h.1, vreps_good h.2⟩
  | _ :: _, [], h => h.elim

theorem vreps_length : ∀ {l : List AV} {m : List Value}, VReps σ β l m → l.length = m.length
  | [], [], _ => rfl
  | _ :: _, _ :: _, h => by simp [vreps_length h.2]
  | [], _ :: _, h => h.elim
  | _ :: _, [], h => h.elim

theorem argEnv_rep {m : Nat} : ∀ {l : List AV} {vs : List Value} (i : Nat), VReps σ β l vs → ∀ t, VRep σ β (eget (argEnv i l) t) (if t < i then undef else (vs ++ List.replicate m undef).getD (t - i) undef)
  | [], _, i, _, t => trivial
  | x :: l, [], i, h, t => h.elim
  | x :: l, v :: vs, i, h, t => by
    simp only [argEnv]
    rw [eget_cons]
    split
    · rename_i e; subst e; simpa using h.1
    · rename_i hne
      have := argEnv_rep (m := m) (i + 1) h.2 t
      by_cases h1 : t < i
      · rw [if_pos (by omega)] at this; rw [if_pos h1]; exact this
      · rw [if_neg (by omega)] at this
        rw [if_neg h1]
        obtain ⟨j, rfl⟩ : ∃ j, t = i + 1 + j := ⟨t - (i + 1), by omega⟩
        rw [show i + 1 + j - (i + 1) = j by omega] at this
        rw [show i + 1 + j - i = j + 1 by omega]
        exact this

theorem ga_init {vals : List Value} {args : List AV} {N : Nat} (hag : ∀ b o, σ b = some o → w.heap[b]? = some o) (hv : VReps σ [] args vals) (hN : args.length ≤ N) :
    GA ⟨w, σ⟩ N (St.init args) { tmps := vals.toArray ++ Array.replicate (N - vals.toArray.size) undef, defers := [] } w := by
  have hlen := vreps_length hv
  refine ⟨rfl, by simp; omega, σ, [], ⟨hag, fun id ob hi => by cases hi⟩, fun t => ?_, rfl, fun id ob p hi => (by cases hi), Below.refl _ _, Sig.le.refl _, fun b e _ => e⟩
  have := argEnv_rep (m := N - vals.length) 0 hv t
  simp only [Nat.not_lt_zero, if_false, Nat.sub_zero] at this
  have e : ((vals.toArray ++ Array.replicate (N - vals.toArray.size) undef).getD t undef) = (vals ++ List.replicate (N - vals.length) undef).getD t undef := by
    rw [show vals.toArray ++ Array.replicate (N - vals.toArray.size) undef = (vals ++ List.replicate (N - vals.length) undef).toArray by simp]
    simp [Array.getD_eq_getD_getElem?, List.getD_eq_getElem?_getD]
  show VRep σ [] (eget (argEnv 0 args) t) ((vals.toArray ++ Array.replicate (N - vals.toArray.size) undef).getD t undef)
  rw [e]; exact this

def tupVal : List Value → Value
  | [v] => v
  | vs => .tuple vs.toArray

theorem mapM_run {Q : ResultVar → Value → Prop} {g : ResultVar → Sem Value} : ∀ {l : List ResultVar}, (∀ r ∈ l, ∃ v, (g r).run P w = .ok v w ∧ Q r v) → ∃ vs, (l.mapM g).run P w = .ok vs w ∧ All2 Q l vs
  | [], _ => ⟨[], by simp, trivial⟩
  | r :: l, h => by
    obtain ⟨v, h1, h2⟩ := h r (by simp)
    obtain ⟨vs, h3, h4⟩ := mapM_run (l := l) fun r hr => h r (by simp [hr])
    refine ⟨v :: vs, ?_, h2, h4⟩
    rw [List.mapM_cons]
    simp only [Sem.run_bind, h1, Result.andThen_ok, h3, Sem.run_pure]

theorem results_run {fn : Func} {tmps : Array Value} {Q : ResultVar → Value → Prop}
    (h : ∀ r ∈ fn.results.toList, ∃ v, (match r with | .tmp t => (pure (tmps.getD t undef) : Sem Value) | .cell a t => do loadVar t (← asAddr (tmps.getD a undef))).run P w = .ok v w ∧ Q r v) :
    ∃ vs, (results fn tmps).run P w = .ok (tupVal vs) w ∧ All2 Q fn.results.toList vs := by
  obtain ⟨vs, h1, h2⟩ := mapM_run h
  refine ⟨vs, ?_, h2⟩
  have e : fn.results = fn.results.toList.toArray := by simp
  unfold results
  rw [e, List.mapM_toArray]
  simp only [Sem.run_bind, Sem.run_map]
  refine (congrArg (fun z => (Result.andThen z fun (a : List Value) w' => Result.ok a.toArray w').andThen fun (a : Array Value) w' => Sem.run P (pure (if h : a.size = 1 then a[0] else Value.tuple a)) w') h1).trans ?_
  match vs with
  | [] => rfl
  | [v] => rfl
  | v :: u :: vs => rfl

theorem resAll_rep {τ : Sig} {fn : Func} {vs : List Value} (h : All2 (fun r v => VRep τ [] (resOne T st r) v) fn.results.toList vs) : VRep τ [] (resAll T fn st) (tupVal vs) := by
  unfold resAll
  generalize fn.results.toList = l at h
  match l, vs, h with
  | [], [], _ => exact ⟨[], rfl, trivial⟩
  | [r], [v], h => exact h.1
  | r :: s :: l, v :: u :: vs, h =>
    refine ⟨_, rfl, ?_⟩
    rw [vreps_all2]
    have : ∀ {l : List ResultVar} {vs : List Value}, All2 (fun r v => VRep τ [] (resOne T st r) v) l vs → All2 (VRep τ []) (l.map (resOne T st)) vs := by
      intro l
      induction l with
      | nil => intro vs h; cases vs with | nil => trivial | cons => exact h.elim
      | cons x l ih => intro vs h; cases vs with | nil => exact h.elim | cons v vs => exact ⟨h.1, ih h.2⟩
    exact this h

/-- What a caller may lean on. -/
theorem fn_ok (R : Rules P T) {f : FuncId} {fn : Func} {c : Code} (hf : P.funcs[f]? = some fn) (hb : fn.body = some c) (hok : codeOk fn.ntmps c = true)
    {args : List AV} (hl : args.length ≤ fn.ntmps) {q : Option Prop} {u : AV} (h : goodArgs args → Opt q → afun T fn args (fun v => v = u)) : FnOk P f args (none, q, u) := by
  intro σ vals w hag hv
  refine ⟨trivial, fun hq => ?_⟩
  have hga := ga_init (N := fn.ntmps) hag hv hl
  have hk := h (vreps_good hv) hq
  simp only [afun, hb, St.forceAll_eq] at hk
  refine (callsIn_of_wp (F := Fence.wide) (n := 0) hf hb trivial ?_).calls (fun _ _ hd => by cases hd)
  rw [← FR.none]
  refine acode_wp R c hok hga hk fun e st' a' w' hp h' => ?_
  have fin : (match fn.results.toList.all (resOk T st') with | true => resAll T fn st' = u | false => False) → a'.defers = [] ∧ ∃ v, (results fn a'.tmps).run P w' = .ok v w' ∧ ∃ v' σ', (Ending.returned v) = .returned v' ∧ σ.le σ' ∧ (∀ b o, σ' b = some o → w'.heap[b]? = some o) ∧
      (∀ b, σ b = none → b < w.heap.size → σ' b = none) ∧ VRep σ' [] u v' ∧ Below w.heap.size w w' := by
    intro hu
    split at hu
    case h_2 => exact hu.elim
    rename_i hallok
    obtain ⟨σ1, β1, hg⟩ := h'.gg
    have hview : ∀ {x : AV} {v : Value}, VRep σ1 β1 x v → VRep (fun b => if b < w.heap.size then σ b else w'.heap[b]?) [] (x.view st'.hp) v := fun {x v} hx => by
      refine AV.view_rep_at (fun b o e => ?_) (fun id ob p hi hp => ?_) hg.mem hx
      · split
        · rename_i hlt
          cases e' : σ b with
          | none => rw [hg.grew.2 b e' hlt] at e; cases e
          | some o' => have := hg.grew.1 _ _ e'; rw [this] at e; exact e
        · exact hg.mem.ag _ _ e
      · have := (hg.sep _ _ _ hi hp).2.1
        dsimp only at this
        rw [if_neg (by omega)]
    obtain ⟨vs, hrun, hall⟩ := results_run (P := P) (w := w') (fn := fn) (tmps := a'.tmps) (Q := fun r v => VRep (fun b => if b < w.heap.size then σ b else w'.heap[b]?) [] (resOne T st' r) v) (fun r hr => by
      have hro := List.all_eq_true.1 hallok r hr
      cases r with
      | tmp t => exact ⟨_, rfl, hview (hg.env t)⟩
      | cell a t =>
        simp only [resOk] at hro
        simp only [resOne]
        have hx := hg.env a
        split at hro
        · rename_i id i k hea
          rw [hea] at hx
          split at hro
          · rename_i v hv
            obtain ⟨p, _, hptr, _⟩ := hx
            obtain ⟨_, hrun⟩ := cLoad_sound (w := w') R.ty R.one hg.mem (t := t) (hg.env a) (p := none) (q := none) (v := v) (by rw [hea]; exact hv)
            obtain ⟨val, h1, h2⟩ := hrun trivial
            refine ⟨val, ?_, hview h2⟩
            rw [hptr] at h1 ⊢
            rw [loadAt_run] at h1
            simp only [asAddr, Sem.run_bind, Sem.run_pure, Result.andThen_ok]
            exact h1
          · cases hro
        · cases hro)
    refine ⟨h'.defers, _, hrun, _, (fun b => if b < w.heap.size then σ b else w'.heap[b]?), rfl, fun b o e => ?_, fun b o e => ?_, fun b e hb => by simp [hb, e], by rw [← hu]; exact resAll_rep hall, hg.bel⟩
    · have : b < w.heap.size := (Array.getElem?_eq_some_iff.1 (hag b o e)).1
      simp [this, e]
    · dsimp only at e
      split at e
      · exact hg.mem.ag _ _ (hg.grew.1 _ _ e)
      · exact e
  cases e with
  | normal => simp only [post, AV.force_eq] at hp; exact fin hp
  | ret => simp only [post, AV.force_eq] at hp; exact fin hp
  | _ => exact hp.elim

/-! ### Results with rows handed over -/
theorem findAt_get {i : Nat} : ∀ {l : List Nat} {n m : Nat}, findAt i l n = some m → ∃ j, m = n + j ∧ l[j]? = some i
  | [], _, _, h => by cases h
  | k :: r, n, m, h => by
    simp only [findAt] at h
    split at h
    · rename_i hb; cases h; exact ⟨0, rfl, by simp [Nat.eq_of_beq_eq_true hb]⟩
    · obtain ⟨j, e1, e2⟩ := findAt_get h
      exact ⟨j + 1, by omega, by simpa using e2⟩
theorem ARep.ren {ids : List Nat} {a : AS} {v : Value} (h : ARep σ β a v) : ARep σ (ids.map fun i => (β[i]?).getD none) (renAS ids a) v := by
  cases a with
  | own i s n =>
    simp only [renAS]
    split
    · rename_i m hm
      obtain ⟨j, e1, e2⟩ := findAt_get hm
      rw [Nat.zero_add] at e1; subst e1
      simp only [ARep] at h ⊢
      rw [List.getElem?_map, e2]
      cases e : β[i]? with
      | none => simp [e] at h
      | some q => simpa [e] using h
    · trivial
  | ptr => trivial
  | pti => trivial
  | omp => trivial
  | _ => exact h
theorem nodup_fresh {base : Nat} (hm : ∀ id ob, hget st.hp id = some ob → ObAt σ β w id ob)
    (hs : ∀ id ob p, hget st.hp id = some ob → β[id]? = some (some p) → σ p.b = none ∧ base ≤ p.b ∧ ∀ id' ob' p', id' ≠ id → hget st.hp id' = some ob' → β[id']? = some (some p') → p'.b ≠ p.b) :
    ∀ (ids : List Nat), nodupB ids = true → rowsB st.hp ids = true → FreshL σ base w (obsOf st.hp ids) (ids.map fun i => (β[i]?).getD none)
  | [], _, _ => trivial
  | i :: r, hn, hr => by
    simp only [nodupB, Bool.and_eq_true, Bool.not_eq_true'] at hn
    simp only [rowsB] at hr
    split at hr
    case h_2 => cases hr
    rename_i o ho
    rw [Bool.and_eq_true] at hr
    have hob := hm _ _ ho
    obtain ⟨x, hx⟩ := hob.place
    have e1 : obsOf st.hp (i :: r) = o :: obsOf st.hp r := by simp only [obsOf, ho]
    rw [e1, List.map_cons]
    have hrows : ∀ (ids : List Nat), rowsB st.hp ids = true → ∀ j ∈ ids, ∃ o, hget st.hp j = some o := by
      intro ids
      induction ids with
      | nil => intro _ j hj; cases hj
      | cons k l ih =>
        intro hh j hj
        simp only [rowsB] at hh
        split at hh
        · rename_i o' ho'
          rw [Bool.and_eq_true] at hh
          rcases List.mem_cons.1 hj with e | e
          · subst e; exact ⟨_, ho'⟩
          · exact ih hh.2 j e
        · cases hh
    refine ⟨?_, ?_, fun p hp => ?_, nodup_fresh hm hs r hn.2 hr.2⟩
    · cases o with
      | row e u xs => exact ⟨e, u, xs, rfl⟩
      | flat => cases hr.1
      | map => cases hr.1
    · cases o with
      | row e u xs => exact hob.move (by rw [hx]; rfl)
      | flat => cases hr.1
      | map => cases hr.1
    · rw [hx] at hp
      have hp : x = some p := hp
      subst hp
      obtain ⟨s1, s2, s3⟩ := hs _ _ _ ho hx
      refine ⟨s1, s2, fun q' hq' p' hp' => ?_⟩
      obtain ⟨j, hj, rfl⟩ := List.mem_map.1 hq'
      obtain ⟨o', ho'⟩ := hrows r hr.2 j hj
      have hne : j ≠ i := by
        intro e; subst e
        rw [memB_iff.2 hj] at hn; cases hn.1
      obtain ⟨y, hy⟩ := (hm _ _ ho').place
      rw [hy] at hp'
      have hp' : y = some p' := hp'
      subst hp'
      exact s3 _ _ _ hne ho' hy

theorem rawAll_rep {τ : Sig} {γ : Places} {fn : Func} {vs : List Value} (h : All2 (fun r v => VRep τ γ (rawOne T st r) v) fn.results.toList vs) : VRep τ γ (rawAll T fn st) (tupVal vs) := by
  unfold rawAll
  generalize fn.results.toList = l at h
  match l, vs, h with
  | [], [], _ => exact ⟨[], rfl, trivial⟩
  | [r], [v], h => exact h.1
  | r :: s :: l, v :: u :: vs, h =>
    refine ⟨_, rfl, ?_⟩
    rw [vreps_all2]
    have : ∀ {l : List ResultVar} {vs : List Value}, All2 (fun r v => VRep τ γ (rawOne T st r) v) l vs → All2 (VRep τ γ) (l.map (rawOne T st)) vs := by
      intro l
      induction l with
      | nil => intro vs h; cases vs with | nil => trivial | cons => exact h.elim
      | cons x l ih => intro vs h; cases vs with | nil => exact h.elim | cons v vs => exact ⟨h.1, ih h.2⟩
    exact this h

/-- What a caller may lean on, of a function that hands rows over. -/
theorem fn_okF (R : Rules P T) {f : FuncId} {fn : Func} {c : Code} (hf : P.funcs[f]? = some fn) (hb : fn.body = some c) (hok : codeOk fn.ntmps c = true)
    {args : List AV} (hl : args.length ≤ fn.ntmps) {q : Option Prop} {u : AV} {us : List Ob} (h : goodArgs args → Opt q → afunF T fn args (fun v obs => v = u ∧ obs = us)) : FnOkF P f args (none, q, u, us) := by
  intro σ vals w hag hv
  refine ⟨trivial, fun hq => ?_⟩
  have hga := ga_init (N := fn.ntmps) hag hv hl
  have hk := h (vreps_good hv) hq
  simp only [afunF, hb, St.forceAll_eq] at hk
  refine (callsIn_of_wp (F := Fence.wide) (n := 0) hf hb trivial ?_).calls (fun _ _ hd => by cases hd)
  rw [← FR.none]
  refine acode_wp R c hok hga hk fun e st' a' w' hp h' => ?_
  have fin : (match fn.results.toList.all (resOk T st') && (nodupB (rowIds (rawAll T fn st').parts) && rowsB st'.hp (rowIds (rawAll T fn st').parts)) with
      | true => (rawAll T fn st').mapAS (renAS (rowIds (rawAll T fn st').parts)) = u ∧ obsOf st'.hp (rowIds (rawAll T fn st').parts) = us
      | false => False) → a'.defers = [] ∧ ∃ v, (results fn a'.tmps).run P w' = .ok v w' ∧ ∃ v' σ' β', (Ending.returned v) = .returned v' ∧ σ.le σ' ∧ (∀ b o, σ' b = some o → w'.heap[b]? = some o) ∧
      (∀ b, σ b = none → b < w.heap.size → σ' b = none) ∧ VRep σ' β' u v' ∧ FreshL σ' w.heap.size w' us β' ∧ Below w.heap.size w w' := by
    intro hu
    split at hu
    case h_2 => exact hu.elim
    rename_i hallok
    rw [Bool.and_eq_true, Bool.and_eq_true] at hallok
    obtain ⟨hallok, hnd, hrows⟩ := hallok
    obtain ⟨σ1, β1, hg⟩ := h'.gg
    obtain ⟨vs, hrun, hall⟩ := results_run (P := P) (w := w') (fn := fn) (tmps := a'.tmps) (Q := fun r v => VRep σ1 β1 (rawOne T st' r) v) (fun r hr => by
      have hro := List.all_eq_true.1 hallok r hr
      cases r with
      | tmp t => exact ⟨_, rfl, hg.env t⟩
      | cell a t =>
        simp only [resOk] at hro
        simp only [rawOne]
        have hx := hg.env a
        split at hro
        · rename_i id i k hea
          rw [hea] at hx
          split at hro
          · rename_i v hv
            obtain ⟨p, _, hptr, _⟩ := hx
            obtain ⟨_, hrun⟩ := cLoad_sound (w := w') R.ty R.one hg.mem (t := t) (hg.env a) (p := none) (q := none) (v := v) (by rw [hea]; exact hv)
            obtain ⟨val, h1, h2⟩ := hrun trivial
            refine ⟨val, ?_, h2⟩
            rw [hptr] at h1 ⊢
            rw [loadAt_run] at h1
            simp only [asAddr, Sem.run_bind, Sem.run_pure, Result.andThen_ok]
            exact h1
          · cases hro
        · cases hro)
    refine ⟨h'.defers, _, hrun, _, σ1, (rowIds (rawAll T fn st').parts).map fun i => (β1[i]?).getD none, rfl, hg.grew.1, hg.mem.ag, hg.grew.2, ?_, ?_, hg.bel⟩
    · exact ((rawAll_rep hall).mapAS fun a v ha => ARep.ren (ids := rowIds (rawAll T fn st').parts) ha) |> fun h => by rw [hu.1] at h; exact h
    · have := nodup_fresh (w := w') hg.mem.ob hg.sep _ hnd hrows
      rw [hu.2] at this; exact this
  cases e with
  | normal => simp only [postF, AV.force_eq] at hp; exact fin hp
  | ret => simp only [postF, AV.force_eq] at hp; exact fin hp
  | _ => exact hp.elim

end
end Go.Vm
