/- One operation, and a region whose order is the text's. -/
import Derived.Test.YtkkhoppffmnkiaaVmFresh
set_option linter.unusedSimpArgs false
set_option linter.unusedVariables false
namespace Go.Vm
open Go.RowKit

def valOk : Value → Bool
  | .agg cs => cs.toList.all cellOk
  | v => cellOk v
def opndOk : Operand → Bool
  | .const v => valOk v
  | _ => true
def operOk (N : Nat) (o : Oper) : Bool :=
  (match o.dst with | some d => Nat.blt d N | none => true) && o.op.operands.toList.all opndOk

def isDefer : Op → Bool
  | .defer _ => true
  | _ => false

/-- What holds at a point of a function that began in the world B, with a frame of N slots. -/
structure GA (B : Base) (N : Nat) (st : St) (a : Act) (w : World) : Prop where
  defers : a.defers = []
  size : a.tmps.size = N
  gg : ∃ σ β, GG B σ β st a.tmps w

/-- No fence at all; perhaps within a round of a range over a function. -/
def FR (r : Option Nat) : Fence := { Fence.wide with round := r }
theorem FR.none : FR none = Fence.wide := rfl
theorem callsIn_FR {P : Program} {f : FuncId} {args : Array Value} {w : World} {R : Ending → World → Prop} (r : Option Nat) (m : Nat) (h : Calls P f args w R) : CallsIn (FR r) m P f args w R :=
  (callsIn_wide (n := m)).2 h

section
variable {P : Program} {B : Base} {w : World} {σ : Sig} {β : Places} {st : St} {T : Tab} {N : Nat} {a : Act} {r : Option Nat} {n : Nat}

theorem const_rep : ∀ {l : List Value}, l.all cellOk = true → All2 (ARep σ β) (l.map AS.ofVal) l := zero_rep

theorem opnd_rep (h : GG B σ β st a.tmps w) {x : Operand} (hx : opndOk x = true) : VRep σ β (opnd st.env x) (a.eval x) := by
  cases x with
  | tmp t => exact h.env t
  | const v =>
    simp only [opndOk] at hx
    show VRep σ β (AV.ofVal v) v
    cases v with
    | agg cs => exact ⟨cs.toList, by simp, zero_rep hx⟩
    | int k m => exact ⟨rfl, (cellOk_spec (v := .int k m) hx).2 _ _ rfl⟩
    | bool b => rfl
    | _ => exact ⟨rfl, fun cs e => by cases e⟩
  | global g => trivial
  | func f => exact ⟨rfl, fun cs e => by cases e⟩

theorem dst_ok {o : Oper} (hs : a.tmps.size = N) (ho : operOk N o = true) : dstOk o.dst a.tmps := by
  intro t e
  simp only [operOk, e, Bool.and_eq_true] at ho
  have : t + 1 ≤ N := by simpa [Nat.blt] using ho.1
  exact Nat.lt_of_lt_of_eq (Nat.lt_of_succ_le this) hs.symm

theorem putT_put (a : Act) (d : Option Tmp) (v : Value) : (a.put d v).tmps = putT a.tmps d v := by cases d <;> rfl
theorem put_defers (a : Act) (d : Option Tmp) (v : Value) : (a.put d v).defers = a.defers := by cases d <;> rfl
theorem putT_size (t : Array Value) (d : Option Tmp) (v : Value) : (putT t d v).size = t.size := by cases d <;> simp [putT]

theorem ga_put (hd : a.defers = []) (hs : a.tmps.size = N) {st' : St} {w' : World} {d : Option Tmp} {v : Value} (h : ∃ σ β, GG B σ β st' (putT a.tmps d v) w') : GA B N st' (a.put d v) w' :=
  ⟨by rw [put_defers]; exact hd, by rw [putT_put, putT_size]; exact hs, by rw [putT_put]; exact h⟩

/-- The rules of the whole: the program, its table, what is proved of its functions. -/
structure Rules (P : Program) (T : Tab) : Prop where
  ty : TabOk P T
  one : TabOne T
  ety : TabEty T
  fn : TabFn P T
  fr : TabFr P T
  mixed : P.follows .mixedOrders = true
  maps : TabMap P T

theorem exec_call {o : Oper} {ρ : Operand → Value} {f : FuncId} {args : Array Operand} {ts : Array TypeId} (ho : o.op = .call ⟨.value (.func f), args, ts⟩) (hf : ρ (.func f) = .func (.func f) #[] #[]) {fn : Func} (h1 : P.funcs[f]? = some fn)
    (h2 : (fn.name == "runtime.NumGoroutine") = false) (h3 : fn.body.isNone = false) : (execOp ρ o).run P w = .ok (.enter f (args.map ρ)) w := by
  simp only [execOp, ho, resolve, hf, Deferred.ofValue, Sem.run_bind, Sem.run_pure, Result.andThen_ok, invoke, callFunc, run_program, h1, h2, h3]
  simp

theorem vreps_map {ev : Operand → AV} {ρ : Operand → Value} : ∀ {l : List Operand}, (∀ x ∈ l, VRep σ β (ev x) (ρ x)) → VReps σ β (l.map ev) (l.map ρ)
  | [], _ => trivial
  | a :: l, h => ⟨h a (by simp), vreps_map fun x hx => h x (by simp [hx])⟩

theorem parts_rep {ev : Operand → AV} {ρ : Operand → Value} : ∀ {l : List (Nat × Operand)}, (∀ x ∈ l, VRep σ β (ev x.2) (ρ x.2)) → All2 (fun (p : Nat × AV) (q : Nat × Value) => p.1 = q.1 ∧ VRep σ β p.2 q.2) (l.map fun p => (p.1, ev p.2)) (l.map fun (i, x) => (i, ρ x))
  | [], _ => trivial
  | a :: l, h => ⟨⟨rfl, h a (by simp)⟩, parts_rep fun x hx => h x (by simp [hx])⟩

/-- The same, with the places told. -/
structure GB (B : Base) (N : Nat) (β : Places) (st : St) (a : Act) (w : World) : Prop where
  defers : a.defers = []
  size : a.tmps.size = N
  gg : ∃ σ, GG B σ β st a.tmps w
theorem GB.ga {β : Places} (h : GB B N β st a w) : GA B N st a w := let ⟨σ, hg⟩ := h.gg; ⟨h.defers, h.size, σ, β, hg⟩
theorem gb_put {β : Places} (hd : a.defers = []) (hs : a.tmps.size = N) {st' : St} {w' : World} {d : Option Tmp} {v : Value} (h : ∃ σ, GG B σ β st' (putT a.tmps d v) w') : GB B N β st' (a.put d v) w' :=
  ⟨by rw [put_defers]; exact hd, by rw [putT_put, putT_size]; exact hs, by rw [putT_put]; exact h⟩

theorem calm_wpB (R : Rules P T) (h : GB B N β st a w) {o : Oper} (ho : operOk N o = true) {p q : Option Prop} {v : AV} (hc : acalm T o.op (opnd st.env) st.hp = some (p, q, v)) :
    Opt p ∧ (Opt q → ∀ {K : Act → World → Prop} {Q : Exit → Act → World → Prop}, (∀ a' w', GB B N β (st.put o.dst v) a' w' → K a' w') → o.wpIn (FR r) n P a w K Q) := by
  obtain ⟨σ, hg⟩ := h.gg
  have hd := dst_ok h.size ho
  have hops : ∀ x ∈ o.op.operands, VRep σ β (opnd st.env x) (a.eval x) := fun x hx => by
    simp only [operOk, Bool.and_eq_true, List.all_eq_true] at ho
    exact opnd_rep hg (ho.2 x (by simpa using hx))
  have nodefer : ∀ c, o.op ≠ .defer c := by intro c e; rw [e] at hc; cases hc
  have value : ∀ {val : Value} {K : Act → World → Prop} {Q : Exit → Act → World → Prop}, (execOp a.eval o).run P w = .ok (.value val) w → VRep σ β v val → (∀ a' w', GB B N β (st.put o.dst v) a' w' → K a' w') → o.wpIn (FR r) n P a w K Q := by
    intro val K Q hrun hv hK
    refine ⟨fun f _ => trivial, ?_⟩
    rw [Oper.semAt_eq _ _ _ nodefer, hrun]
    exact hK _ _ (gb_put h.defers h.size ⟨σ, hg.put hd hv⟩)
  by_cases hs : Op.simple o.op = true
  · obtain ⟨h1, h2⟩ := acalm_sound R.ty R.one hg.mem hops hs hc
    exact ⟨h1, fun hq {K} {Q} hK => let ⟨val, e1, e2⟩ := h2 hq; value e1 e2 hK⟩
  · obtain ⟨dst, op, type, pos, after, guard⟩ := o
    cases op
    case lookup t x i commaOk =>
      simp only [acalm] at hc
      obtain ⟨h1, h2⟩ := look_sound R.ty R.one R.ety R.maps hg.mem (hops x (by simp [Op.operands])) (hops i (by simp [Op.operands])) _ _ _ hc
      exact ⟨h1, fun hq {K} {Q} hK => let ⟨val, e1, e2⟩ := h2 hq; value (by simp [execOp, e1]) e2 hK⟩
    case buildSlice t m ps =>
      simp only [acalm] at hc
      unfold cBuildSlice at hc
      split at hc
      · rename_i u hdc
        split at hc
        · rename_i ui hui
          split at hc
          · rename_i e hety
            split at hc
            · rename_i xs hdec hble hsz
              cases hc
              refine ⟨trivial, fun _ => ?_⟩
              intro K Q hK
              have hv : All2 (fun (p : Nat × AV) (q : Nat × Value) => p.1 = q.1 ∧ VRep σ β p.2 q.2) (ps.toList.map fun p => (p.1, opnd st.env p.2)) (ps.map fun (i, x) => (i, a.eval x)).toList := by
                rw [Array.toList_map]
                exact parts_rep fun x hx => hops x.2 (by simp [Op.operands]; exact ⟨x.1, by simpa using hx⟩)
              obtain ⟨c, hrun, h2, h3, h4, hnn⟩ := buildSlice_run (w := w) R.ty R.ety hv hdc hui hety hdec hble hsz
              obtain ⟨σ', hg', hr'⟩ := stable_row (u := u) hg (by omega) h2
              have hx : (execOp a.eval ⟨dst, .buildSlice t m ps, type, pos, after, guard⟩).run P w = .ok (.value (.slice (some ⟨w.heap.size, 0, none⟩) m m)) (w.alloc (.cells c u)) := by simp [execOp, hrun]
              refine ⟨fun f _ => trivial, ?_⟩
              rw [Oper.semAt_eq _ _ _ nodefer, hx]
              rw [← h4]
              exact hK _ _ (gb_put h.defers h.size ⟨σ', hg'.put hd hr'⟩)
            · cases hc
          · cases hc
        · cases hc
      · cases hc
    case call c =>
      obtain ⟨callee, args, ts⟩ := c
      cases callee with
      | builtin b => exact (hs rfl).elim
      | invoke rc m => simp only [acalm] at hc; unfold cCall at hc; split at hc <;> first | contradiction | (cases hc; done)
      | value f =>
        cases f with
        | func f =>
          simp only [acalm] at hc
          have hargs : VReps σ β (args.toList.map (opnd st.env)) (args.toList.map a.eval) := vreps_map fun x hx => hops x (by simp [Op.operands, Call.operands]; right; simpa using hx)
          obtain ⟨h1, h2, fn, h3, h4, h5⟩ := call_sound R.fn hg hargs hc
          refine ⟨h1, fun hq => ?_⟩
          intro K Q hK
          refine ⟨fun f _ => trivial, ?_⟩
          rw [Oper.semAt_eq _ _ _ nodefer, exec_call (ρ := a.eval) rfl rfl h3 h4 h5]
          refine ⟨(fun e => by cases e), ?_⟩
          have hcalls := h2 hq
          have e1 : (args.toList.map a.eval).toArray = args.map a.eval := by rw [← Array.toList_map]
          rw [e1] at hcalls
          exact (callsIn_FR r _ hcalls).mono fun e w' ⟨u, σ', e1, e2, e3⟩ => by
            subst e1
            exact hK _ _ (gb_put h.defers h.size ⟨σ', e2.put hd e3⟩)
        | _ => simp only [acalm] at hc; unfold cCall at hc; split at hc <;> first | contradiction | (cases hc; done) | (rename_i hh; cases hh)
    all_goals exact (hs rfl).elim

theorem calm_wp (R : Rules P T) (h : GA B N st a w) {o : Oper} (ho : operOk N o = true) {p q : Option Prop} {v : AV} (hc : acalm T o.op (opnd st.env) st.hp = some (p, q, v)) :
    Opt p ∧ (Opt q → ∀ {K : Act → World → Prop} {Q : Exit → Act → World → Prop}, (∀ a' w', GA B N (st.put o.dst v) a' w' → K a' w') → o.wpIn (FR r) n P a w K Q) := by
  obtain ⟨σ, β, hg⟩ := h.gg
  obtain ⟨h1, h2⟩ := calm_wpB (r := r) (n := n) R (⟨h.defers, h.size, σ, hg⟩ : GB B N β st a w) ho hc
  exact ⟨h1, fun hq {_} {_} hK => h2 hq fun a' w' hb => hK _ _ hb.ga⟩

theorem done_wp (h : GA B N st a w) {o : Oper} (nodefer : ∀ c, o.op ≠ .defer c) {st' : St} (hd : Done P B o a.eval st' a.tmps w) {K : Act → World → Prop} {Q : Exit → Act → World → Prop}
    (hK : ∀ a' w', GA B N st' a' w' → K a' w') : o.wpIn (FR r) n P a w K Q := by
  obtain ⟨v, w', σ', β', hrun, hg⟩ := hd
  refine ⟨fun f _ => trivial, ?_⟩
  rw [Oper.semAt_eq _ _ _ nodefer]
  rcases hrun with hrun | ⟨hrun, rfl⟩
  · rw [hrun]; exact hK _ _ (ga_put h.defers h.size ⟨σ', β', hg⟩)
  · rw [hrun]; exact hK _ _ (ga_put h.defers h.size ⟨σ', β', hg⟩)

theorem store_wpB (R : Rules P T) {β : Places} (h : GB B N β st a w) {o : Oper} (ho : operOk N o = true) {t : TypeId} {x y : Operand} (hop : o.op = .store t x y) {st' : St} (he : eStore T t (opnd st.env x) (opnd st.env y) st o.dst = some (none, none, st'))
    {K : Act → World → Prop} {Q : Exit → Act → World → Prop} (hK : ∀ a' w', GB B N β st' a' w' → K a' w') : o.wpIn (FR r) n P a w K Q := by
  obtain ⟨σ, hg⟩ := h.gg
  have hops : ∀ x ∈ o.op.operands, VRep σ β (opnd st.env x) (a.eval x) := fun x hx => by
    simp only [operOk, Bool.and_eq_true, List.all_eq_true] at ho
    exact opnd_rep hg (ho.2 x (by simpa using hx))
  obtain ⟨_, h2⟩ := eStore_soundB R.ty hg (dst_ok h.size ho) hop (hops x (by simp [hop, Op.operands])) (hops y (by simp [hop, Op.operands])) he
  obtain ⟨v, w', σ', hrun, hg'⟩ := h2 trivial
  refine ⟨fun f _ => trivial, ?_⟩
  rw [Oper.semAt_eq _ _ _ (by intro c e; rw [hop] at e; cases e)]
  rcases hrun with hrun | ⟨hrun, rfl⟩
  · rw [hrun]; exact hK _ _ (gb_put h.defers h.size ⟨σ', hg'⟩)
  · rw [hrun]; exact hK _ _ (gb_put h.defers h.size ⟨σ', hg'⟩)

theorem eff_wp (R : Rules P T) (h : GA B N st a w) {o : Oper} (ho : operOk N o = true) {p q : Option Prop} {st' : St} (he : aeff T o st = some (p, q, st')) :
    Opt p ∧ (Opt q → ∀ {K : Act → World → Prop} {Q : Exit → Act → World → Prop}, (∀ a' w', GA B N st' a' w' → K a' w') → o.wpIn (FR r) n P a w K Q) := by
  obtain ⟨σ, β, hg⟩ := h.gg
  have hd := dst_ok h.size ho
  have hops : ∀ x ∈ o.op.operands, VRep σ β (opnd st.env x) (a.eval x) := fun x hx => by
    simp only [operOk, Bool.and_eq_true, List.all_eq_true] at ho
    exact opnd_rep hg (ho.2 x (by simpa using hx))
  have nodefer : ∀ c, o.op ≠ .defer c := by intro c e; unfold aeff at he; rw [e] at he; cases he
  have fin : Opt p ∧ (Opt q → Done P B o a.eval st' a.tmps w) → Opt p ∧ (Opt q → ∀ {K : Act → World → Prop} {Q : Exit → Act → World → Prop}, (∀ a' w', GA B N st' a' w' → K a' w') → o.wpIn (FR r) n P a w K Q) :=
    fun ⟨h1, h2⟩ => ⟨h1, fun hq {_} {_} hK => done_wp h nodefer (h2 hq) hK⟩
  unfold aeff at he
  split at he
  · rename_i x hop
    exact fin <| eAssign_sound hg hd hop (hops x (by simp [hop, Op.operands])) he
  · rename_i t x hop
    dsimp only at he
    split at he
    · rename_i cs hf
      cases he
      exact fin ⟨trivial, fun _ => eBox_sound hg hd hop (hops x (by simp [hop, Op.operands])) hf⟩
    · cases he
  · rename_i t hop
    dsimp only at he
    split at he
    · rename_i ti hti
      cases he
      exact fin ⟨trivial, fun _ => eAlloc_sound R.ty hg hd hop hti⟩
    · cases he
  · rename_i t x y hop
    exact fin <| eStore_sound R.ty hg hd hop (hops x (by simp [hop, Op.operands])) (hops y (by simp [hop, Op.operands])) he
  · rename_i t m ps hop
    refine fin <| eBuildSlice_sound R.ty R.ety hg hd hop ?_ he
    rw [Array.toList_map]
    exact parts_rep fun x hx => hops x.2 (by simp [hop, Op.operands]; exact ⟨x.1, by simpa using hx⟩)
  · rename_i t l c hop
    exact fin <| eMakeSlice_sound R.ty R.ety hg hd hop (hops l (by simp [hop, Op.operands])) (hops c (by simp [hop, Op.operands])) he
  · rename_i t hop
    exact fin <| make_sound hg hd hop he
  · rename_i t x y z hop
    exact fin <| upd_sound R.ty R.maps hg hd hop (hops x (by simp [hop, Op.operands])) (hops y (by simp [hop, Op.operands])) (hops z (by simp [hop, Op.operands])) he
  · rename_i c hop
    obtain ⟨callee, args, ts⟩ := c
    dsimp only at he
    split at he
    · rename_i x y hargs
      have hA : args = #[x, y] := by
        have : args.toList = [x, y] := hargs
        rw [← Array.toArray_toList (xs := args), this]
      subst hA
      exact fin <| eAppend_sound R.ty hg hd hop (hops x (by simp [hop, Op.operands, Call.operands])) (hops y (by simp [hop, Op.operands, Call.operands])) he
    · rename_i f xs
      have hargs : VReps σ β (args.toList.map (opnd st.env)) (args.toList.map a.eval) := vreps_map fun x hx => hops x (by simp [hop, Op.operands, Call.operands]; right; simpa using hx)
      obtain ⟨h1, h2, fn, h3, h4, h5⟩ := callF_sound R.fr hg hargs hd he
      refine ⟨h1, fun hq => ?_⟩
      intro K Q hK
      refine ⟨fun f _ => trivial, ?_⟩
      rw [Oper.semAt_eq _ _ _ nodefer, exec_call (ρ := a.eval) hop rfl h3 h4 h5]
      refine ⟨(fun e => by cases e), ?_⟩
      have hcalls := h2 hq
      have e1 : (args.toList.map a.eval).toArray = args.map a.eval := by rw [← Array.toList_map]
      rw [e1] at hcalls
      exact (callsIn_FR r _ hcalls).mono fun e w' ⟨u, σ', β', e1, e2⟩ => by
        subst e1
        exact hK _ _ (ga_put h.defers h.size ⟨σ', β', e2⟩)
    · cases he
  · cases he

theorem aeffD_some {T : Tab} {o : Oper} {st : St} {r} (h : aeffD T o st = some r) : aeff T o st = some r := by
  unfold aeffD at h
  split at h
  · cases h
  · exact h

theorem step_wp (R : Rules P T) (h : GA B N st a w) {draw : Bool} {o : Oper} (ho : operOk N o = true) {p q : Option Prop} {st' : St} (he : astep T draw o st = some (p, q, st')) :
    Opt p ∧ (Opt q → ∀ {K : Act → World → Prop} {Q : Exit → Act → World → Prop}, (∀ a' w', GA B N st' a' w' → K a' w') → o.wpIn (FR r) n P a w K Q) := by
  have calm : ∀ {res}, calmStep T o st = some res → res = (p, q, st') → Opt p ∧ (Opt q → ∀ {K : Act → World → Prop} {Q : Exit → Act → World → Prop}, (∀ a' w', GA B N st' a' w' → K a' w') → o.wpIn (FR r) n P a w K Q) := by
    intro res hc e
    subst e
    unfold calmStep at hc
    split at hc
    · rename_i p' q' v hv
      cases hc
      exact calm_wp R h ho hv
    · cases hc
  unfold astep at he
  cases draw with
  | true =>
    simp only at he
    split at he
    · rename_i res hc; exact calm hc (Option.some.inj he)
    · exact eff_wp R h ho (aeffD_some he)
  | false =>
    simp only at he
    split at he
    · rename_i res hc; cases he; exact eff_wp R h ho hc
    · exact calm he rfl

/-- One operation: what the evaluator asks of it is enough. -/
theorem aop_wp (R : Rules P T) (h : GA B N st a w) {draw : Bool} {o : Oper} (ho : operOk N o = true) {K : St → Prop} (hk : aop T draw o st K) {K' : Act → World → Prop} {Q : Exit → Act → World → Prop}
    (hK : ∀ st' a' w', K st' → GA B N st' a' w' → K' a' w') : o.wpIn (FR r) n P a w K' Q := by
  unfold aop at hk
  simp only [St.force_eq] at hk
  split at hk
  · rename_i st' hs; exact (step_wp R h ho hs).2 trivial fun a' w' => hK _ _ _ hk
  · rename_i p st' hs; obtain ⟨h1, h2⟩ := step_wp (r := r) (n := n) R h ho hs; exact h2 trivial fun a' w' => hK _ _ _ (hk.out h1)
  · rename_i q st' hs; obtain ⟨k1, k2⟩ := hk.out; exact (step_wp R h ho hs).2 k1 fun a' w' => hK _ _ _ k2
  · rename_i p q st' hs; obtain ⟨h1, h2⟩ := step_wp (r := r) (n := n) R h ho hs; obtain ⟨k1, k2⟩ := (hk.out h1).out; exact h2 k1 fun a' w' => hK _ _ _ k2
  · exact hk.elim

theorem guard_undef {ops : Array Oper} {t : Array Value} {j : Nat} {d : Tmp} (hd : guardSlot ops j = some d) (hv : t.getD d undef = undef) : yielded ops t j = none := by
  unfold guardSlot at hd
  unfold yielded
  split at hd
  · rename_i o ho
    simp only [ho, Option.bind_some, hd]
    cases e : t[d]? with
    | none => rfl
    | some v =>
      simp only [Array.getD_eq_getD_getElem?, e, Option.getD_some] at hv
      subst hv; rfl
  · cases hd

theorem guard_bool {ops : Array Oper} {t : Array Value} {j : Nat} {d : Tmp} {b : Bool} (hd : guardSlot ops j = some d) (hv : t.getD d undef = .bool b) : yielded ops t j = some b := by
  unfold guardSlot at hd
  unfold yielded
  split at hd
  · rename_i o ho
    simp only [ho, Option.bind_some, hd]
    cases e : t[d]? with
    | none => simp [Array.getD_eq_getD_getElem?, e, undef] at hv
    | some v =>
      simp only [Array.getD_eq_getD_getElem?, e, Option.getD_some] at hv
      subst hv; rfl
  · cases hd

theorem guardVal_slot {ops : Array Oper} {env : Env} {j : Nat} (h : guardVal ops env j ≠ .junk) : ∃ d, guardSlot ops j = some d ∧ guardVal ops env j = eget env d := by
  unfold guardVal at h ⊢
  unfold guardSlot
  split
  · rename_i o ho
    simp only [ho] at h
    split
    · rename_i d hd; exact ⟨d, hd, rfl⟩
    · rename_i hd; simp [hd] at h
  · rename_i ho; simp [ho] at h

/-- Knowing a Bool better. -/
theorem ga_bool (h : GA B N st a w) {d : Tmp} {b : Bool} (hb : eget st.env d = .s (.bool b)) : GA B N (st.put (some d) (.s (.bool b))) a w := by
  obtain ⟨σ, β, hg⟩ := h.gg
  refine ⟨h.defers, h.size, σ, β, hg.mem, fun t => ?_, hg.len, hg.sep, hg.bel, hg.grew⟩
  show VRep σ β (eget ((d, _) :: st.env) t) _
  rw [eget_cons]
  split
  · rename_i e; subst e; have := hg.env d; rw [hb] at this; exact this
  · exact hg.env t

theorem ga_skip (h : GA B N st a w) {o : Oper} (ho : operOk N o = true) : GA B N (st.put o.dst .undef) (a.put o.dst undef) w := by
  obtain ⟨σ, β, hg⟩ := h.gg
  exact ga_put h.defers h.size ⟨σ, β, hg.put (dst_ok h.size ho) VRep.undef⟩

/-- A region whose order is the text's. -/
theorem aops_wp (R : Rules P T) {draw : Bool} {ops : Array Oper} (hall : ∀ (i : Nat) (o : Oper), ops[i]? = some o → operOk N o = true) {Q : Exit → Act → World → Prop} : ∀ (l : List Oper) (k : Nat) {st : St} {a : Act} {w : World} {K : St → Prop}, (∀ j : Nat, l[j]? = ops[k + j]?) →
    GA B N st a w → aops T draw ops l st K → (∀ st' a' w', K st' → GA B N st' a' w' → Q .normal a' w') → wpOpsIn (FR r) n P ops Q (List.range' k l.length) a w
  | [], k, st, a, w, K, _, h, hk, hQ => hQ _ _ _ hk h
  | o :: l, k, st, a, w, K, hl, h, hk, hQ => by
    have h0 : ops[k]? = some o := by simpa using (hl 0).symm
    have ho := hall k o h0
    have hl' : ∀ j : Nat, l[j]? = ops[k + 1 + j]? := fun j => by have := hl (j + 1); simpa [Nat.add_assoc, Nat.add_comm 1 j] using this
    have run : ∀ {st : St}, GA B N st a w → aop T draw o st (fun st' => aops T draw ops l st' K) → o.wpIn (FR r) n P a w (wpOpsIn (FR r) n P ops Q (List.range' (k + 1) l.length)) Q := fun h hk =>
      aop_wp R h ho hk fun st' a' w' hk' h' => aops_wp R hall l (k + 1) hl' h' hk' hQ
    have skip : ∀ {st : St}, GA B N st a w → aops T draw ops l (st.put o.dst .undef) K → wpOpsIn (FR r) n P ops Q (List.range' (k + 1) l.length) (a.put o.dst undef) w := fun h hk =>
      aops_wp R hall l (k + 1) hl' (ga_skip h ho) hk hQ
    simp only [List.length_cons, List.range'_succ, wpOpsIn, h0]
    simp only [aops, St.force_eq] at hk
    cases hg : o.guard with
    | none =>
      simp only [hg] at hk
      have : Region.wanted o (yielded ops a.tmps) = true := by simp [Region.wanted, hg]
      rw [if_pos this]
      exact run h hk
    | some jw =>
      obtain ⟨j, want⟩ := jw
      simp only [hg] at hk
      obtain ⟨σ, β, hgg⟩ := h.gg
      split at hk
      · rename_i b hb
        obtain ⟨d, hd, hd2⟩ := guardVal_slot (ops := ops) (env := st.env) (j := j) (by rw [hb]; simp)
        rw [hd2] at hb
        have hv := hgg.env d
        rw [hb] at hv
        have hy := guard_bool (ops := ops) hd (show a.tmps.getD d undef = .bool b from hv)
        rw [hd] at hk
        cases b with
        | true =>
          cases want with
          | true =>
            rw [if_pos (by simp [Region.wanted, hg, hy])]
            exact run (ga_bool h hb) hk
          | false =>
            rw [if_neg (by simp [Region.wanted, hg, hy])]
            exact ⟨fun f _ => trivial, skip (ga_bool h hb) hk⟩
        | false =>
          cases want with
          | true =>
            rw [if_neg (by simp [Region.wanted, hg, hy])]
            exact ⟨fun f _ => trivial, skip (ga_bool h hb) hk⟩
          | false =>
            rw [if_pos (by simp [Region.wanted, hg, hy])]
            exact run (ga_bool h hb) hk
      · rename_i vs hb
        obtain ⟨d, hd, hd2⟩ := guardVal_slot (ops := ops) (env := st.env) (j := j) (by rw [hb]; simp)
        rw [hd2] at hb
        have hv := hgg.env d
        rw [hb] at hv
        have hy : yielded ops a.tmps j = none := by
          have e1 : a.tmps.getD d undef = .tuple vs := hv.1
          unfold guardSlot at hd
          unfold yielded
          split at hd
          · rename_i o' ho'
            simp only [ho', Option.bind_some, hd]
            cases e : a.tmps[d]? with
            | none => rfl
            | some v =>
              simp only [Array.getD_eq_getD_getElem?, e, Option.getD_some] at e1
              subst e1; rfl
          · cases hd
        rw [if_neg (by simp [Region.wanted, hg, hy])]
        exact ⟨fun f _ => trivial, skip h hk⟩
      · exact hk.elim
end
end Go.Vm
