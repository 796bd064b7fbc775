/- A part of the proofs of the laws of this seat: contracts of functions, each for every input that its text names. -/
import Derived.Test.YtbbpofkacdmjnaaT12toVmRng
import Derived.Test.YtbbpofkacdmjnaaT0toVmInl
set_option linter.unusedSimpArgs false
set_option linter.unusedVariables false
set_option maxHeartbeats 2000000
/- Code with ranges over functions at its top; what a caller may lean on. -/
namespace Go.Vm
open Go.RowKit

abbrev SeqTab := FuncId → List PtV → List Int → Prop
def SeqTabOk (P : Program) (SQ : SeqTab) : Prop := ∀ f ps L, SQ f ps L → SeqOk P f ps L
def St.rowNils (T : Tab) (st : St) : List Nat → St
  | [] => st
  | i :: r => (st.rowNil T i).rowNils T r
def withNils (T : Tab) (K : St → Prop) : List Nat → St → Prop
  | [], st => st.forceAll K
  | i :: r, st => (st.rowNil T i).forceAll fun st => withNils T K r st
theorem withNils_eq {T : Tab} {K : St → Prop} : ∀ (ids : List Nat) (st : St), withNils T K ids st = K (st.rowNils T ids)
  | [], st => by rw [withNils, St.forceAll_eq]; rfl
  | i :: r, st => by rw [withNils, St.forceAll_eq, withNils_eq r]; rfl
def heapIds : Heap → List Nat
  | [] => []
  | (i, _) :: r => i :: heapIds r

/-- Is there a range over a function within? -/
def hasRng : Code → Bool
  | .seq a b => hasRng a || hasRng b
  | .block _ c => hasRng c
  | .cond _ a b => hasRng a || hasRng b
  | .loop c => hasRng c
  | .rangeFunc _ _ _ _ => true
  | _ => false
def acodeR (T : Tab) (SQ : SeqTab) : Code → St → (Exit → St → Prop) → Prop
  | .seq a b, st, K => acodeR T SQ a st (fun e s => match e with
    | .normal => acodeR T SQ b s K
    | e => K e s)
  | .block id c, st, K => acodeR T SQ c st (fun e s => match e with
    | .exit i => match Nat.beq i id with | true => K .normal s | false => K (.exit i) s
    | e => K e s)
  | .rangeFunc g ps assign body, st, K => match opnd st.env g, ps.toList with
    | .s (.clo f qs), [p] => ∃ L, SQ f qs L ∧ ∃ SP : Spec Nat, withNils T (fun st => arange T p assign body st L (fun X k => SP.head (rngSt st X) k) ∧ ∀ X, (SP.head (rngSt st X) L.length).forceAll (K .normal)) (heapIds st.hp) st
    | _, _ => False
  | .skip, st, K => acode T .skip st K
  | .label l, st, K => acode T (.label l) st K
  | .region i o d, st, K => acode T (.region i o d) st K
  | .cond c a b, st, K => match hasRng a || hasRng b with
    | false => acode T (.cond c a b) st K
    | true => match opnd st.env c with
      | .s (.bool t) => BIf t (acodeR T SQ a st K) (acodeR T SQ b st K)
      | _ => False
  | .loop c, st, K => match hasRng c with
    | false => withNils T (fun st => acode T (.loop c) st K) (heapIds st.hp) st
    | true => ∃ (X : Type) (S : Spec X), (∃ x, S.inv x ∧ leSt st (S.head st x)) ∧
      ∀ x, S.inv x → (S.head st x).forceAll fun h => acodeR T SQ c h (fun e s => match e with
        | .normal => ∃ y, S.inv y ∧ leSt s (S.head st y) ∧ S.mu y < S.mu x
        | e => K e s)
  | .exit i, st, K => acode T (.exit i) st K
  | .goto l, st, K => acode T (.goto l) st K
  | .ret, st, K => acode T .ret st K
  | .scope c, st, K => acode T (.scope c) st K
  | _, _, _ => False
def codeOkR (N : Nat) : Code → Bool
  | .seq a b => codeOkR N a && codeOkR N b
  | .block _ c => codeOkR N c
  | .rangeFunc g ps assign body => opndOk g && (ps.toList.all (fun p => Nat.blt p N) && (codeOk N assign && codeOk N body))
  | .cond c a b => match hasRng a || hasRng b with
    | false => codeOk N (.cond c a b)
    | true => opndOk c && codeOkR N a && codeOkR N b
  | .loop c => match hasRng c with
    | false => codeOk N (.loop c)
    | true => codeOkR N c
  | c => codeOk N c
def mark (D : Nat) : Deferred := { target := .collected D, args := #[] }
/-- A base further on: with marks. -/
structure Marks (B0 B : Base) : Prop where
  w : B.w = B0.w
  grew : Grew B0 B.sg
  ds : ∃ Ds : List Nat, B.dfs = Ds.map mark ∧ Ds.Nodup ∧ ∀ D ∈ Ds, B.sg D = some (.deferred (some [])) ∧ B0.w.heap.size ≤ D

section
variable {P : Program} {T : Tab} {SQ : SeqTab} {B B0 : Base} {w w' : World} {σ τ : Sig} {β : Places} {st : St} {tmps : Array Value} {N : Nat} {a : Act}

theorem Marks.more {B1 : Base} (h : Marks B0 B) {D : Nat} (h1 : B1.w = B.w) (h2 : Grew B B1.sg) (h3 : B1.dfs = mark D :: B.dfs) (h4 : B1.sg D = some (.deferred (some []))) (h5 : B.w.heap.size ≤ D) (h6 : B.sg D = none) : Marks B0 B1 := by
  obtain ⟨Ds, e1, e2, e3⟩ := h.ds
  refine ⟨h1.trans h.w, ⟨h.grew.1.trans h2.1, fun b hb => (h2.2 b (by rw [h.w]; exact hb)).trans (h.grew.2 b hb)⟩, D :: Ds, by rw [h3, e1]; rfl, List.nodup_cons.2 ⟨fun hm => ?_, e2⟩, fun D' hD => ?_⟩
  · rw [(e3 D hm).1] at h6; cases h6
  · rcases List.mem_cons.1 hD with e | hD
    · subst e; exact ⟨h4, by rw [← h.w]; exact h5⟩
    · obtain ⟨k1, k2⟩ := e3 D' hD
      obtain ⟨o', e4, e5⟩ := h2.1 _ _ k1
      have := e5.nodata rfl; subst this
      exact ⟨e4, k2⟩

theorem rowNils_env : ∀ (ids : List Nat) {st : St}, (st.rowNils T ids).env = st.env
  | [], _ => rfl
  | i :: r, st => (rowNils_env r (st := st.rowNil T i)).trans (rowNil_env i)
theorem GG.rowNils : ∀ (ids : List Nat) {β : Places} {st : St}, GG B σ β st tmps w → ∃ β', GG B σ β' (st.rowNils T ids) tmps w
  | [], β, _, h => ⟨β, h⟩
  | i :: r, _, _, h => by
    obtain ⟨β', h'⟩ := h.rowNil (T := T) i
    exact GG.rowNils r h'

theorem acodeR_wp (R : Rules P T) (hSQ : SeqTabOk P SQ) : ∀ (c : Code) {B : Base} {st : St} {a : Act} {w : World} {K : Exit → St → Prop} {Q : Exit → Act → World → Prop}, codeOkR N c = true → Marks B0 B → GA B N st a w → acodeR T SQ c st K →
    (∀ e B1 st' a' w', Marks B0 B1 → K e st' → GA B1 N st' a' w' → Q e a' w') → c.wpIn (FR none) 0 P Q a w := by
  intro c
  induction c with
  | seq x y ihx ihy =>
    intro B st a w K Q hok hm h hk hQ
    simp only [codeOkR, Bool.and_eq_true] at hok
    refine wpIn_seq (ihx hok.1 hm h hk fun e B1 st' a' w' hm' hk' h' => ?_)
    cases e with
    | normal => exact ihy hok.2 hm' h' hk' hQ
    | _ => exact hQ _ _ _ _ _ hm' hk' h'
  | block id c ih =>
    intro B st a w K Q hok hm h hk hQ
    simp only [codeOkR] at hok
    refine wpIn_block (ih hok hm h hk fun e B1 st' a' w' hm' hk' h' => ?_)
    cases e with
    | exit i =>
      simp only [Exit.inBlock]
      dsimp only at hk'
      split at hk'
      · rename_i e; rw [if_pos (Nat.eq_of_beq_eq_true e)]; exact hQ _ _ _ _ _ hm' hk' h'
      · rename_i e
        rw [if_neg (fun e' => by subst e'; rw [Nat.beq_refl] at e; cases e)]; exact hQ _ _ _ _ _ hm' hk' h'
    | _ => exact hQ _ _ _ _ _ hm' hk' h'
  | rangeFunc g ps assign body =>
    intro B st a w K Q hok hm h hk hQ
    simp only [codeOkR, Bool.and_eq_true] at hok
    obtain ⟨ho1, ho2, ho3, ho4⟩ := hok
    simp only [acodeR] at hk
    split at hk
    case h_2 => exact hk.elim
    rename_i f qs p hg hps
    obtain ⟨L, hL, SP, hk⟩ := hk
    rw [withNils_eq] at hk
    obtain ⟨hr, hK⟩ := hk
    obtain ⟨σr, βr, hgr⟩ := h.gg
    obtain ⟨βn, hgn⟩ := hgr.rowNils (T := T) (heapIds st.hp)
    replace h : GA B N (st.rowNils T (heapIds st.hp)) a w := ⟨h.defers, h.size, σr, βn, hgn⟩
    rw [← rowNils_env (T := T) (st := st) (heapIds st.hp)] at hg
    have hpe : ps = #[p] := by rw [← Array.toArray_toList (xs := ps), hps]
    subst hpe
    have hp : p < N := by
      have := List.all_eq_true.1 ho2 p (by simp)
      exact Nat.lt_of_succ_le (by simpa [Nat.blt] using this)
    refine range_wp R ho3 ho4 hp ho1 h hg (hSQ f qs L hL) (S := fun X k => SP.head (rngSt (st.rowNils T (heapIds st.hp)) X) k) hr fun B1 D a' w' h1 h2 h3 h4 h5 h6 h7 => ?_
    have := hK a.tmps
    rw [St.forceAll_eq] at this
    exact hQ _ _ _ _ _ (hm.more h1 h2 h3 h4 h5 h6) this h7
  | skip => intro B st a w K Q hok hm h hk hQ; exact acode_wp R _ hok h hk fun e st' a' w' hk' h' => hQ _ _ _ _ _ hm hk' h'
  | label l => intro B st a w K Q hok hm h hk hQ; exact acode_wp R _ hok h hk fun e st' a' w' hk' h' => hQ _ _ _ _ _ hm hk' h'
  | region i o d => intro B st a w K Q hok hm h hk hQ; exact acode_wp R _ hok h hk fun e st' a' w' hk' h' => hQ _ _ _ _ _ hm hk' h'
  | cond c x y ihx ihy =>
    intro B st a w K Q hok hm h hk hQ
    simp only [codeOkR] at hok
    simp only [acodeR] at hk
    split at hk
    · rename_i e
      rw [e] at hok
      exact acode_wp R _ hok h hk fun e st' a' w' hk' h' => hQ _ _ _ _ _ hm hk' h'
    · rename_i e
      rw [e] at hok
      simp only [Bool.and_eq_true] at hok
      split at hk
      case h_2 => exact hk.elim
      rename_i t ht
      have hev := cond_bool h hok.1.1 ht
      cases t with
      | true => exact wpIn_cond_true hev (ihx hok.1.2 hm h hk hQ)
      | false => exact wpIn_cond_false hev (ihy hok.2 hm h hk hQ)
  | loop c ih =>
    intro B st a w K Q hok hm h hk hQ
    simp only [codeOkR] at hok
    simp only [acodeR] at hk
    split at hk
    · rename_i e
      rw [e] at hok
      rw [withNils_eq] at hk
      obtain ⟨σr, βr, hgr⟩ := h.gg
      obtain ⟨βn, hgn⟩ := hgr.rowNils (T := T) (heapIds st.hp)
      replace h : GA B N (st.rowNils T (heapIds st.hp)) a w := ⟨h.defers, h.size, σr, βn, hgn⟩
      exact acode_wp R _ hok h hk fun e st' a' w' hk' h' => hQ _ _ _ _ _ hm hk' h'
    · rename_i e
      rw [e] at hok
      have hok : codeOkR N c = true := hok
      simp only [St.forceAll_eq] at hk
      obtain ⟨X, S, ⟨x0, hi0, hle0⟩, hround⟩ := hk
      refine wpIn_loop_ghost (fun m a w => ∃ x B, S.inv x ∧ S.mu x = m ∧ Marks B0 B ∧ GA B N (S.head st x) a w) (S.mu x0) ⟨x0, B, hi0, rfl, hm, h.weaken hle0⟩ ?_
      rintro m a w ⟨x, B, hi, rfl, hm, hx⟩
      refine ih hok hm hx (hround x hi) fun e B1 st' a' w' hm' hk' h' => ?_
      cases e with
      | normal =>
        obtain ⟨y, hy, hle, hlt⟩ := hk'
        exact ⟨_, hlt, y, B1, hy, rfl, hm', h'.weaken hle⟩
      | _ => exact hQ _ _ _ _ _ hm' hk' h'
  | exit i => intro B st a w K Q hok hm h hk hQ; exact acode_wp R _ hok h hk fun e st' a' w' hk' h' => hQ _ _ _ _ _ hm hk' h'
  | goto l => intro B st a w K Q hok hm h hk hQ; exact acode_wp R _ hok h hk fun e st' a' w' hk' h' => hQ _ _ _ _ _ hm hk' h'
  | ret => intro B st a w K Q hok hm h hk hQ; exact acode_wp R _ hok h hk fun e st' a' w' hk' h' => hQ _ _ _ _ _ hm hk' h'
  | _ => intro B st a w K Q hok; cases hok
def afunR (T : Tab) (SQ : SeqTab) (fn : Func) (args : List AV) (R : AV → Prop) : Prop :=
  match fn.body with
  | some c => (St.init args).forceAll fun s => acodeR T SQ c s (post T fn R)
  | none => False

theorem fn_okR (R : Rules P T) (hSQ : SeqTabOk P SQ) {f : FuncId} {fn : Func} {c : Code} (hf : P.funcs[f]? = some fn) (hb : fn.body = some c) (hok : codeOkR fn.ntmps c = true)
    {args : List AV} (hl : args.length ≤ fn.ntmps) {q : Option Prop} {u : AV} (h : goodArgs args → Opt q → afunR T SQ fn args (fun v => v = u)) : FnOk P f args (none, q, u) := by
  intro σ vals w hag hv
  refine ⟨trivial, fun hq => ?_⟩
  have hga := ga_init (N := fn.ntmps) hag hv hl
  have hk := h (vreps_good hv) hq
  simp only [afunR, hb, St.forceAll_eq] at hk
  refine (callsIn_of_wp_marks (F := Fence.wide) (n := 0) hf hb trivial ?_).calls (fun _ _ hd => by cases hd)
  rw [← FR.none]
  refine acodeR_wp (B0 := ⟨w, σ, []⟩) R hSQ c hok ⟨rfl, ⟨Sig.le.refl _, fun _ _ => rfl⟩, [], rfl, List.nodup_nil, fun D hD => by cases hD⟩ hga hk fun e B1 st' a' w' hm hp h' => ?_
  have fin : (match fn.results.toList.all (resOk T st') with | true => resAll T fn st' = u | false => False) → LeavesInM (FR none) 0 P fn a'.tmps (fun e w' => ∃ v σ', e = .returned v ∧ σ.le σ' ∧ Ag σ' w' ∧
      (∀ b, b < w.heap.size → σ' b = σ b) ∧ VRep σ' [] u v ∧ Below w.heap.size w w') a'.defers .returning w' := by
    intro hu
    split at hu
    case h_2 => exact hu.elim
    rename_i hallok
    obtain ⟨σ1, β1, hg⟩ := h'.gg
    obtain ⟨Ds, e1, e2, e3⟩ := hm.ds
    rw [h'.defers, e1]
    -- the marks, one by one
    have key : ∀ (Ds : List Nat) (B1 : Base) (σ1 : Sig) (w' : World), Ds.Nodup → (∀ D ∈ Ds, B1.sg D = some (.deferred (some [])) ∧ w.heap.size ≤ D) → B1.w = w → Grew ⟨w, σ, []⟩ B1.sg → GG B1 σ1 β1 st' a'.tmps w' →
        LeavesInM (FR none) 0 P fn a'.tmps (fun e w' => ∃ v σ', e = .returned v ∧ σ.le σ' ∧ Ag σ' w' ∧ (∀ b, b < w.heap.size → σ' b = σ b) ∧ VRep σ' [] u v ∧ Below w.heap.size w w') (Ds.map mark) .returning w' := by
      intro Ds
      induction Ds with
      | cons D r ih =>
        intro B1 σ1 w' hn hD hw hgr hg
        obtain ⟨hn1, hn2⟩ := List.nodup_cons.1 hn
        obtain ⟨d1, d2⟩ := hD D (List.mem_cons_self ..)
        rw [Base.relock B1 d1] at hg
        obtain ⟨_, hl2, _⟩ := hg.locked rfl
        have hdel : ∀ b, b ≠ D → (B1.sg.del D) b = B1.sg b := fun b hb => by unfold Sig.del; rw [if_neg hb]
        obtain ⟨hg2, _⟩ := hg.unlock rfl (by show B1.w.heap.size ≤ D; rw [hw]; exact d2) (by show (B1.sg.del D) D = none; unfold Sig.del; rw [if_pos rfl]) (.deferred none)
        refine ⟨by simp, .inl ⟨D, _, rfl, run_takeDeferred hl2, ih { B1 with sg := B1.sg.del D } _ _ hn2 (fun D' hD' => ?_) hw ⟨fun b o e => ?_, fun b hb => ?_⟩ hg2⟩⟩
        · obtain ⟨k1, k2⟩ := hD D' (List.mem_cons_of_mem _ hD')
          exact ⟨by show (B1.sg.del D) D' = _; rw [hdel _ (fun e => hn1 (e ▸ hD'))]; exact k1, k2⟩
        · have hb : b ≠ D := fun hb => by subst hb; have := hag.lt e; omega
          show ∃ o', (B1.sg.del D) b = some o' ∧ _
          rw [hdel b hb]; exact hgr.1 b o e
        · have hb : b < w.heap.size := hb
          show (B1.sg.del D) b = _
          rw [hdel b (by omega)]; exact hgr.2 b hb
      | nil =>
        intro B1 σ1 w' _ _ hw hgr hg
        have hsl : σ.le σ1 := Sig.le.trans hgr.1 hg.grew.1
        have hsb : ∀ b, b < w.heap.size → σ1 b = σ b := fun b hb => (hg.grew.2 b (by rw [hw]; exact hb)).trans (hgr.2 b hb)
        have hbel : Below w.heap.size w w' := by have := hg.bel; rw [hw] at this; exact this
        have hview : ∀ {x : AV} {v : Value}, VRep σ1 β1 x v → VRep (fun b => if b < w.heap.size then σ b else w'.heap[b]?) [] (x.viewT T st'.hp) v := fun {x v} hx => by
          refine AV.viewT_rep_at (fun b o e => ?_) (fun id ob p hi hp => ?_) hg.mem hx
          · split
            · rename_i hlt
              rw [hsb b hlt] at e; exact ⟨o, e, .refl⟩
            · exact hg.mem.ag _ _ e
          · have := (hg.sep _ _ _ hi hp).2.1
            rw [hw] at this
            rw [if_neg (by omega)]
        obtain ⟨vs, hrun, hall⟩ := results_run (P := P) (w := w') (fn := fn) (tmps := a'.tmps) (Q := fun r v => VRep (fun b => if b < w.heap.size then σ b else w'.heap[b]?) [] (resOne T st' r) v) (fun r hr => by
          have hro := List.all_eq_true.1 hallok r hr
          cases r with
          | tmp t => exact ⟨_, rfl, hview (hg.env t)⟩
          | cell a t =>
            simp only [resOk] at hro
            simp only [resOne]
            have hx := hg.env a
            split at hro
            · rename_i id i k hea
              rw [hea] at hx
              split at hro
              · rename_i v hv
                obtain ⟨p, _, hptr, _⟩ := hx
                obtain ⟨_, hrun⟩ := cLoad_sound (w := w') R.ty R.one hg.mem (t := t) (hg.env a) (p := none) (q := none) (v := v) (by rw [hea]; exact hv)
                obtain ⟨val, h1, h2⟩ := hrun trivial
                refine ⟨val, ?_, hview h2⟩
                rw [hptr] at h1 ⊢
                rw [loadAt_run] at h1
                simp only [asAddr, Sem.run_bind, Sem.run_pure, Result.andThen_ok]
                exact h1
              · cases hro
            · cases hro)
        refine ⟨_, hrun, _, (fun b => if b < w.heap.size then σ b else w'.heap[b]?), rfl, fun b o e => ?_, fun b o e => ?_, fun b hb => by simp [hb], by rw [← hu]; exact resAll_rep hall, hbel⟩
        · have : b < w.heap.size := hag.lt e
          exact ⟨o, by simp [this, e], .refl⟩
        · dsimp only at e
          split at e
          · rename_i hlt
            rw [← hsb b hlt] at e
            exact hg.mem.ag _ _ e
          · exact ⟨o, e, .refl⟩
    exact key Ds B1 σ1 w' e2 e3 hm.w hm.grew hg
  cases e with
  | normal => simp only [post, AV.force_eq] at hp; exact fin hp
  | ret => simp only [post, AV.force_eq] at hp; exact fin hp
  | _ => exact hp.elim
end
end Go.Vm

open Go Go.Vm Go.Proofs
namespace S1
set_option maxRecDepth 100000

/-! ring.Around, ring.Link -/
theorem around_vc {fn} (o : Option tabE.T) (v : Int) : afun ⟨tyL, fn, []⟩ Try.f64 [(ETy.pt tabE).av o, i64E.av v] (fun r => r = .s (.clo 91 [⟨.pt tabE, o⟩, ⟨i64E, v⟩])) := by
  repeat' (conv => whnf
           first | done | refine Need.intro (by first | rfl | omega | (simp only [i64ok] at *; omega)) ?_ | refine Need.intro (Hold.out ?_) ?_ | refine Give.intro fun _ => ?_ | refine Both.intro ?_ ?_ | refine BIf.and ?_ | refine BIf.or ?_ | refine BIf.eqi (fun _ => ?_) (fun _ => ?_) | refine BIf.nei (fun _ => ?_) (fun _ => ?_) | refine BIf.dec (fun _ => ?_) (fun _ => ?_) | refine BIf.nt ?_ | refine BIf.intro (fun _ => ?_) (fun _ => ?_) | refine And.intro rfl ?_ | refine And.intro (HoldEq.out ?_) ?_ | refine And.intro (HoldOb.out ?_) ?_ | exact True.intro | refine HoldEq.out ?_ | refine HoldObs.out ?_ | refine KCheck.intro (by kernel_rfl) ?_ | refine HoldOr.out ?_)
  all_goals try first | refine HoldEq.int ?_ | refine HoldEq.bool ?_ | refine HoldEq.sl ?_ | refine HoldEq.own ?_ | refine HoldEq.ownS ?_ ?_ | refine HoldOb.row ?_ | refine HoldOb.map ?_ | refine HoldOb.gmap ?_ | refine HoldOb.grow ?_ | refine HoldObs.row ?_
  all_goals try simp only [take_one, take_one', set_one, take_all, List.length_singleton, rec_self, Int.toNat_natCast, pair_eta, ETy.dflt, List.getD_cons_zero, List.getD_cons_succ, Int.reduceToNat, Int.reduceAdd, Int.reduceSub, Int.reduceNeg, Nat.reduceAdd, Nat.zero_add] at *
def aroundC : List AV → Option Res := con2 (.pt tabE) i64E (fun o v => some (none, none, .s (.clo 91 [⟨.pt tabE, o⟩, ⟨i64E, v⟩])))
theorem aroundRow : FnRow Try.prog 64 aroundC := ⟨con2_ok fun o v r h => by cases h; exact fn_by (rulesF (fn := []) (fr := []) trivial trivial) Try.func64 (by kernel_rfl) fun _ _ => around_vc o v, _, Try.func64, by kernel_rfl, by kernel_rfl⟩
def aroundF (x : tabE.T) (b : Int) : Nat → Int → List Int
  | 0, _ => []
  | n + 1, c => c :: (if tAfter x c < 0 then [] else if tAfter x c = b then [] else aroundF x b n (tAfter x c))
/-- What the sequence of ring.Around yields. -/
def aroundL (o : Option tabE.T) (v : Int) : List Int := onO o [] fun x => if tThere x v then aroundF x (firstR x v).1 30000 (firstR x v).1 else []
end S1

open Go Go.Vm Go.Proofs
namespace S1
set_option maxRecDepth 100000

/-! ring.Link -/
/-- What ring.Around's closure yields, where its table is good. -/
def seqT : SeqTab := fun f ps L => f = 91 ∧ ∃ (o : Option tabE.T) (v : Int), ps = [⟨.pt tabE, o⟩, ⟨i64E, v⟩] ∧ (∀ x, o = some x → Good x) ∧ L = aroundL o v
def lkO (x : tabE.T) (L : List Int) (k : Nat) : List Int := (L.take k).map fun c => tVert x (tNext x c)
def lkLast (L : List Int) (k : Nat) : Int := if k = 0 then -1 else L.getD (k - 1) 0
def linkR (x : tabE.T) (v : Int) : List Int :=
  lkO x (aroundL (some x) v) (aroundL (some x) v).length ++ (if lkLast (aroundL (some x) v) (aroundL (some x) v).length ≥ 0 ∧ tAfter x (lkLast (aroundL (some x) v) (aroundL (some x) v).length) < 0 then [tVert x (tPrev x (lkLast (aroundL (some x) v) (aroundL (some x) v).length))] else [])
theorem lkO_len (x : tabE.T) (L : List Int) (k : Nat) (h : k ≤ L.length) : (lkO x L k).length = k := by
  unfold lkO; rw [List.length_map, List.length_take]; omega
theorem lkO_succ (x : tabE.T) (L : List Int) (k : Nat) (h : k < L.length) : lkO x L (k + 1) = lkO x L k ++ [tVert x (tNext x (L.getD k 0))] := by
  have e : L.take (k + 1) = L.take k ++ [L.getD k 0] := by
    rw [List.take_succ_eq_append_getElem h, List.getD_eq_getElem?_getD, List.getElem?_eq_getElem h]; rfl
  unfold lkO
  rw [e, List.map_append]; rfl
theorem after_le {x : tabE.T} (g : Good x) (c : Int) : tAfter x c ≤ 30000 := by
  unfold tAfter; split
  · decide
  · exact next_le g _
theorem before_le {x : tabE.T} (g : Good x) (c : Int) : tBefore x c ≤ 30000 := by
  unfold tBefore; split
  · decide
  · exact prev_le g _
theorem aroundF_le {x : tabE.T} (g : Good x) {b : Int} : ∀ n c, c ≤ 30000 → (aroundF x b n c).length ≤ n ∧ ∀ a ∈ aroundF x b n c, a ≤ 30000
  | 0, c, _ => ⟨Nat.le_refl _, fun a h => by cases h⟩
  | n + 1, c, hc => by
    obtain ⟨h1, h2⟩ := aroundF_le g (b := b) n (tAfter x c) (after_le g c)
    unfold aroundF
    split
    · exact ⟨by simp, fun a h => by rw [List.mem_singleton] at h; omega⟩
    · split
      · exact ⟨by simp, fun a h => by rw [List.mem_singleton] at h; omega⟩
      · refine ⟨by rw [List.length_cons]; omega, fun a h => ?_⟩
        rcases List.mem_cons.1 h with e | h
        · omega
        · exact h2 a h
theorem firstF_le {x : tabE.T} (g : Good x) {c0 : Int} (h0 : c0 ≤ 30000) : ∀ n c, c ≤ 30000 → (firstF x c0 n c).1 ≤ 30000
  | 0, c, _ => by show (0 : Int) ≤ 30000; decide
  | n + 1, c, hc => by
    unfold firstF
    split
    · exact hc
    · split
      · exact h0
      · exact firstF_le g h0 n _ (before_le g c)
theorem aroundL_le {x : tabE.T} (g : Good x) (v : Int) : (aroundL (some x) v).length ≤ 30000 ∧ ∀ a ∈ aroundL (some x) v, a ≤ 30000 := by
  show (if tThere x v then _ else _ : List Int).length ≤ 30000 ∧ ∀ a ∈ (if tThere x v then _ else _ : List Int), a ≤ 30000
  split
  · exact aroundF_le g _ _ (firstF_le g (corner_le g v) _ _ (corner_le g v))
  · exact ⟨Nat.zero_le _, fun a h => by cases h⟩
theorem getD_le {L : List Int} (h : ∀ a ∈ L, a ≤ 30000) (k : Nat) : L.getD k 0 ≤ 30000 := by
  rw [List.getD_eq_getElem?_getD]
  cases e : L[k]? with
  | none => decide
  | some a => exact h a (List.mem_of_getElem? e)
theorem lkLast_le {L : List Int} (h : ∀ a ∈ L, a ≤ 30000) (k : Nat) : lkLast L k ≤ 30000 := by
  unfold lkLast; split
  · decide
  · exact getD_le h _
def loopK (x : tabE.T) (L : List Int) : Spec Nat where
  inv _ := True
  live _ := []
  keep := [2, 4, 5, 6]
  heap k := [(2, .flat 28 [.own 4 0 (lkO x L k).length]), (3, .flat 3 [.int .i64 (lkLast L k)]), (4, .row i64E 3 (lkO x L k))]
  keepH := [0, 1, 5]
  mu _ := 0
set_option maxHeartbeats 400000 in
theorem link_vc (x : tabE.T) (v : Int) (g : Good x) : afunR ⟨tyL, [(64, aroundC), (58, nextC), (59, prevC), (65, afterC), (24, vertexC)], []⟩ seqT Try.f27 [(ETy.pt tabE).av (some x), i64E.av v] (fun r => r = .s (.sl i64E (linkR x v))) := by
  obtain ⟨hl, ha⟩ := aroundL_le g v
  have hd := getD_le ha
  have hL := lkLast_le ha (aroundL (some x) v).length
  have ho := lkO_len x (aroundL (some x) v)
  have ho2 := ho _ (Nat.le_refl _)
  repeat' (conv => whnf
           first | done | refine Need.intro (by first | rfl | omega | (simp only [i64ok] at *; omega)) ?_ | refine Need.intro (Hold.out ?_) ?_ | refine Give.intro fun _ => ?_ | refine Both.intro ?_ ?_ | refine BIf.and ?_ | refine BIf.or ?_ | refine BIf.eqi (fun _ => ?_) (fun _ => ?_) | refine BIf.nei (fun _ => ?_) (fun _ => ?_) | refine BIf.dec (fun _ => ?_) (fun _ => ?_) | refine BIf.nt ?_ | refine BIf.intro (fun _ => ?_) (fun _ => ?_) | refine Exists.intro (aroundL (some x) v) (And.intro (Hold.out ?_) (Exists.intro (loopK x (aroundL (some x) v)) ?_)) | (refine And.intro (fun X => ?_) (fun X => ?_)) | (refine And.intro (And.intro ?_ (And.intro ?_ rfl)) (fun k hk => ?_)) | (refine And.intro ?_ (And.intro ?_ rfl)) | refine And.intro rfl ?_ | refine And.intro (HoldEq.out ?_) ?_ | refine And.intro (HoldOb.out ?_) ?_ | exact True.intro | refine HoldEq.out ?_ | refine HoldObs.out ?_ | refine KCheck.intro (by kernel_rfl) ?_ | refine HoldOr.out ?_)
  all_goals try first | refine HoldEq.int ?_ | refine HoldEq.bool ?_ | refine HoldEq.sl ?_ | refine HoldEq.own ?_ | refine HoldEq.ownS ?_ ?_ | refine HoldOb.row ?_ | refine HoldOb.map ?_ | refine HoldOb.gmap ?_ | refine HoldOb.grow ?_ | refine HoldObs.row ?_
  all_goals try simp only [take_one, take_one', set_one, take_all, List.length_singleton, rec_self, Int.toNat_natCast, pair_eta, ETy.dflt, List.getD_cons_zero, List.getD_cons_succ, Int.reduceToNat, Int.reduceAdd, Int.reduceSub, Int.reduceNeg, Nat.reduceAdd, Nat.zero_add] at *
  · exact Hold.intro ⟨rfl, some x, v, rfl, fun y e => by cases e; exact g, rfl⟩
  · exact Hold.intro (Int.le_trans (hd k) (by decide))
  · exact Hold.intro (Int.le_trans (next_le g _) (by decide))
  · have := ho k (Nat.le_of_lt hk)
    refine Hold.intro ?_; omega
  · rw [lkO_succ _ _ _ hk, List.length_append]; exact HoldOb.intro rfl
  · exact lkO_succ _ _ _ hk
  · exact Hold.intro ⟨g, hL⟩
  · exact Hold.intro (Int.le_trans hL (by decide))
  · exact Hold.intro (Int.le_trans (prev_le g _) (by decide))
  · refine Hold.intro ?_; omega
  · rename_i h1 h2
    unfold linkR
    rw [if_pos ⟨h1, h2⟩, List.drop_zero]
    exact List.take_of_length_le (by rw [List.length_append]; exact Nat.le_refl _)
  · rename_i h1 h2
    unfold linkR
    rw [if_neg (fun e => h2 e.2), List.append_nil]
  · rename_i h1
    unfold linkR
    rw [if_neg (fun e => h1 e.1), List.append_nil]
end S1

open Go Go.Vm Go.Proofs
namespace S1
set_option maxRecDepth 100000

def loopK0 : Spec Nat where
  inv _ := True
  live _ := []
  keep := [2, 4, 5, 6]
  heap _ := [(2, .flat 28 [.own 4 0 0]), (3, .flat 3 [.int .i64 (-1)]), (4, .row i64E 3 [])]
  keepH := [0, 1, 5]
  mu _ := 0
set_option maxHeartbeats 4000000 in
theorem link0_vc (v : Int) : afunR ⟨tyL, [(64, aroundC), (58, nextC), (59, prevC), (65, afterC), (24, vertexC)], []⟩ seqT Try.f27 [(ETy.pt tabE).av none, i64E.av v] (fun r => r = .s (.sl i64E [])) := by
  repeat' (conv => whnf
           first | done | refine Need.intro (by first | rfl | omega | (simp only [i64ok] at *; omega)) ?_ | refine Need.intro (Hold.out ?_) ?_ | refine Give.intro fun _ => ?_ | refine Both.intro ?_ ?_ | refine BIf.and ?_ | refine BIf.or ?_ | refine BIf.eqi (fun _ => ?_) (fun _ => ?_) | refine BIf.nei (fun _ => ?_) (fun _ => ?_) | refine BIf.dec (fun _ => ?_) (fun _ => ?_) | refine BIf.nt ?_ | refine BIf.intro (fun _ => ?_) (fun _ => ?_) | refine Exists.intro [] (And.intro (Hold.out ?_) (Exists.intro loopK0 ?_)) | (refine And.intro (fun X => ?_) (fun X => ?_)) | (refine And.intro (And.intro ?_ (And.intro ?_ rfl)) (fun k hk => absurd hk (Nat.not_lt_zero _))) | refine And.intro rfl ?_ | refine And.intro (HoldEq.out ?_) ?_ | refine And.intro (HoldOb.out ?_) ?_ | exact True.intro | refine HoldEq.out ?_ | refine HoldObs.out ?_ | refine KCheck.intro (by kernel_rfl) ?_ | refine HoldOr.out ?_)
  all_goals try first | refine HoldEq.int ?_ | refine HoldEq.bool ?_ | refine HoldEq.sl ?_ | refine HoldEq.own ?_ | refine HoldEq.ownS ?_ ?_ | refine HoldOb.row ?_ | refine HoldOb.map ?_ | refine HoldOb.gmap ?_ | refine HoldOb.grow ?_ | refine HoldObs.row ?_
  all_goals try simp only [take_one, take_one', set_one, take_all, List.length_singleton, rec_self, Int.toNat_natCast, pair_eta, ETy.dflt, List.getD_cons_zero, List.getD_cons_succ, Int.reduceToNat, Int.reduceAdd, Int.reduceSub, Int.reduceNeg, Nat.reduceAdd, Nat.zero_add] at *
  · exact Hold.intro ⟨rfl, none, v, rfl, fun y e => (by cases e), rfl⟩
  · rfl
def linkO (o : Option tabE.T) (v : Int) : List Int := onO o [] fun x => linkR x v
def linkC : List AV → Option Res := con2 (.pt tabE) i64E (fun o v => some (none, some (∀ x, o = some x → Good x), .s (.sl i64E (linkO o v))))
theorem link_row (hS : SeqTabOk Try.prog seqT) : FnRow Try.prog 27 linkC := ⟨con2_ok fun o v r h => by
  cases h
  cases o with
  | none => exact fn_okR (rulesF (fn := [(64, aroundC), (58, nextC), (59, prevC), (65, afterC), (24, vertexC)]) (fr := []) ⟨aroundRow, nextRow, prevRow, afterRow, vertexRow, trivial⟩ trivial) hS Try.func27 rfl (by kernel_rfl) (Nat.le_of_ble_eq_true rfl) fun _ _ => link0_vc v
  | some x => exact fn_okR (rulesF (fn := [(64, aroundC), (58, nextC), (59, prevC), (65, afterC), (24, vertexC)]) (fr := []) ⟨aroundRow, nextRow, prevRow, afterRow, vertexRow, trivial⟩ trivial) hS Try.func27 rfl (by kernel_rfl) (Nat.le_of_ble_eq_true rfl) fun _ h => link_vc x v (h x rfl), _, Try.func27, by kernel_rfl, by kernel_rfl⟩
end S1

/- The function of a sequence: between its yields it runs by the machine; at each yield it owns nothing. -/
namespace Go.Vm
open Go.RowKit

/-- A call of the yield that lies in a slot, at one argument. -/
def yFun (st : St) (o : Oper) : Option (Operand × Operand) :=
  match o.op with
  | .call ⟨.value (.tmp t), ⟨[x]⟩, _⟩ => match opnd st.env (.tmp t) with
    | .s (.val (.func (.yield _) ⟨[]⟩ ⟨[]⟩)) => some (.tmp t, x)
    | _ => none
  | _ => none
/-- May there be one? -/
def yCand (o : Oper) : Bool :=
  match o.op with
  | .call ⟨.value (.tmp _), ⟨[_]⟩, _⟩ => true
  | _ => false
def yGo (l : Nat) (L : List Int) (g x : Operand) (dst : Option Tmp) (st : St) (pre : List Int) (K : St → List Int → Prop) : Prop :=
  match opnd st.env g, opnd st.env x, st.hp with
  | .s (.val (.func (.yield l') ⟨[]⟩ ⟨[]⟩)), .s (.int .i64 n), [] => l' = l ∧ (pre ++ [n]) <+: L ∧ (st.put dst (.s (.bool true))).forceAll fun st => K st (pre ++ [n])
  | _, _, _ => False
def aopsY (T : Tab) (l : Nat) (L : List Int) (ops : Array Oper) : List Oper → St → List Int → (St → List Int → Prop) → Prop
  | [], st, pre, K => K st pre
  | o :: r, st, pre, K => match yFun st o with
    | some (g, x) => match o.guard with
      | none => yGo l L g x o.dst st pre fun st pre => aopsY T l L ops r st pre K
      | some (j, want) => match guardVal ops st.env j with
        | .s (.bool b) => BIf b
          (match want with
            | true => (st.put (guardSlot ops j) (.s (.bool true))).force fun st => yGo l L g x o.dst st pre fun st pre => aopsY T l L ops r st pre K
            | false => (st.put (guardSlot ops j) (.s (.bool true))).force fun st => (st.put o.dst .undef).force fun st => aopsY T l L ops r st pre K)
          (match want with
            | true => (st.put (guardSlot ops j) (.s (.bool false))).force fun st => (st.put o.dst .undef).force fun st => aopsY T l L ops r st pre K
            | false => (st.put (guardSlot ops j) (.s (.bool false))).force fun st => yGo l L g x o.dst st pre fun st pre => aopsY T l L ops r st pre K)
        | _ => False
    | none => aops T false ops [o] st fun st => aopsY T l L ops r st pre K
/-- A region with a yield in it, in the text's order. -/
def yParts (ops : Array Oper) (draw : Bool) : Bool :=
  match draw with
  | false => ops.toList.any yCand
  | true => false

def acodeY (T : Tab) (l : Nat) (L : List Int) : Code → St → List Int → (Exit → St → List Int → Prop) → Prop
  | .seq a b, st, pre, K => acodeY T l L a st pre (fun e s pre => match e with
    | .normal => acodeY T l L b s pre K
    | e => K e s pre)
  | .cond c a b, st, pre, K => match opnd st.env c with
    | .s (.bool t) => BIf t (acodeY T l L a st pre K) (acodeY T l L b st pre K)
    | _ => False
  | .block id c, st, pre, K => acodeY T l L c st pre (fun e s pre => match e with
    | .exit i => match Nat.beq i id with | true => K .normal s pre | false => K (.exit i) s pre
    | e => K e s pre)
  | .loop c, st, pre, K => ∃ (X : Type) (S : Spec X) (PR : X → List Int), (∃ x, S.inv x ∧ PR x = pre ∧ leSt st (S.head st x)) ∧
      ∀ x, S.inv x → (S.head st x).forceAll fun h => acodeY T l L c h (PR x) (fun e s pre' => match e with
        | .normal => ∃ y, S.inv y ∧ PR y = pre' ∧ leSt s (S.head st y) ∧ S.mu y < S.mu x
        | e => K e s pre')
  | .region i ops draw, st, pre, K => match yParts ops draw with
    | true => aopsY T l L ops ops.toList st pre (K .normal)
    | false => acode T (.region i ops draw) st (fun e s => K e s pre)
  | .skip, st, pre, K => K .normal st pre
  | .exit i, st, pre, K => K (.exit i) st pre
  | .ret, st, pre, K => K .ret st pre
  | _, _, _, _ => False

theorem yFun_eq {st : St} {o : Oper} {g x : Operand} (h : yFun st o = some (g, x)) : ∃ t ts, g = .tmp t ∧ o.op = .call ⟨.value (.tmp t), #[x], ts⟩ := by
  unfold yFun at h
  split at h
  · rename_i t x2 ts h1
    split at h
    · cases h; exact ⟨t, ts, rfl, h1⟩
    · cases h
  · cases h

section
variable {P : Program} {T : Tab} {B B0 : Base} {w w' : World} {σ τ : Sig} {β : Places} {st : St} {tmps : Array Value} {N : Nat} {a : Act}

theorem yGo_out {l : Nat} {L : List Int} {g x : Operand} {dst : Option Tmp} {pre : List Int} {K : St → List Int → Prop} (h : yGo l L g x dst st pre K) :
    opnd st.env g = .s (.val (.func (.yield l) #[] #[])) ∧ ∃ n, opnd st.env x = .s (.int .i64 n) ∧ st.hp = [] ∧ (pre ++ [n]) <+: L ∧ K (st.put dst (.s (.bool true))) (pre ++ [n]) := by
  unfold yGo at h
  split at h
  · rename_i l' n h1 h2 h3
    obtain ⟨rfl, hp, hk⟩ := h
    rw [St.forceAll_eq] at hk
    exact ⟨h1, n, h2, h3, hp, hk⟩
  · exact h.elim

/-- A call of yield. -/
theorem exec_yield {o : Oper} {ρ : Operand → Value} {l : Nat} {g x : Operand} {ts : Array TypeId} {r : Result Next} (ho : o.op = .call ⟨.value g, #[x], ts⟩) (hf : ρ g = .func (.yield l) #[] #[]) (hy : (Instr.yield l #[ρ x]).run P w = r) : (execOp ρ o).run P w = r := by
  simp only [execOp, ho, resolve, hf, Deferred.ofValue, Sem.run_bind, Sem.run_pure, Result.andThen_ok, invoke]
  simpa using hy

/-- What is known at a yield is still known behind it. -/
theorem GG.yielded (h : GG B σ β st tmps w) (hh : st.hp = []) (hag : Ag σ w') : GG ⟨w', σ, []⟩ σ β st tmps w' :=
  ⟨⟨hag, fun id ob hi => by rw [hh] at hi; cases hi⟩, h.env, h.len, fun id ob p hi => (by rw [hh] at hi; cases hi), Below.refl _ _, Sig.le.refl _, fun _ _ => rfl⟩

def YOk (P : Program) (l : Nat) (L : List Int) (J : List Int → Sig → World → Prop) : Prop :=
  ∀ pre x σp σ1 Ws W1, J pre σp Ws → Below Ws.heap.size Ws W1 → (∀ b, b < Ws.heap.size → σ1 b = σp b) → Ag σ1 W1 → (pre ++ [x]) <+: L →
    YieldAt Fence.wide 0 P l #[.int .i64 x] W1 fun e W' => e = .returned (.bool true) ∧ J (pre ++ [x]) σ1 W' ∧ Ag σ1 W'
theorem yield_step {l : Nat} {L : List Int} {J : List Int → Sig → World → Prop} (hY : YOk P l L J) {o : Oper} (ho : operOk N o = true) {ops : Array Oper} {os : List Oper} {Q : Exit → Act → World → Prop} {t : Tmp} {x : Operand} {ts : Array TypeId} (hop : o.op = .call ⟨.value (.tmp t), #[x], ts⟩)
    {pre : List Int} {K : St → List Int → Prop} (hd : B.dfs = []) (hj : J pre B.sg B.w) (h : GA B N st a w) (hk : yGo l L (.tmp t) x o.dst st pre K)
    (hQ : ∀ B1 st' pre' a' w', B1.dfs = [] → J pre' B1.sg B1.w → K st' pre' → GA B1 N st' a' w' → wpListIn (FR none) 0 P ops Q os a' w') : o.wpIn (FR none) 0 P a w (wpListIn (FR none) 0 P ops Q os) Q := by
  obtain ⟨hg, n, hx, hh, hpre, hK⟩ := yGo_out hk
  obtain ⟨σ1, β1, hgg⟩ := h.gg
  have hxo : opndOk x = true := by
    simp only [operOk, Bool.and_eq_true, List.all_eq_true] at ho
    exact ho.2 x (by simp [hop, Op.operands, Call.operands])
  have hgv : a.eval (.tmp t) = .func (.yield l) #[] #[] := by
    have := opnd_rep hgg (x := .tmp t) rfl
    rw [hg] at this
    exact this.1
  have hxv : a.eval x = .int .i64 n := by
    have := opnd_rep hgg hxo
    rw [hx] at this
    exact this.1
  obtain ⟨fn, tmps, assign, body, hrun, hround⟩ := hY pre n B.sg σ1 B.w w hj hgg.bel hgg.grew.2 hgg.mem.ag hpre
  refine ⟨fun f' _ => trivial, ?_⟩
  have hex := exec_yield (r := .ok (.round l fn tmps assign body) w) hop hgv (by rw [hxv]; exact hrun)
  rw [Oper.semAt_eq _ _ _ (by rw [hop]; intro c e; cases e), hex]
  refine ⟨(fun e => by cases e), ?_⟩
  refine hround.mono fun e w' hpost => ?_
  obtain ⟨rfl, hj', hag'⟩ := hpost
  refine hQ ⟨w', σ1, []⟩ (st.put o.dst (.s (.bool true))) (pre ++ [n]) _ _ rfl hj' hK ?_
  have hy := (hgg.yielded hh hag').put (d := o.dst) (dst_ok h.size ho) (a := .s (.bool true)) (v := .bool true) rfl
  exact ga_put (h.defers.trans hd) h.size ⟨σ1, β1, hy⟩
theorem aopsY_wp (R : Rules P T) {l : Nat} {L : List Int} {J : List Int → Sig → World → Prop} (hY : YOk P l L J) {ops : Array Oper} {Q : Exit → Act → World → Prop} : ∀ (os : List Oper) {B : Base} {st : St} {a : Act} {w : World} {pre : List Int} {K : St → List Int → Prop},
    (∀ o ∈ os, operOk N o = true) → B.dfs = [] → J pre B.sg B.w → GA B N st a w → aopsY T l L ops os st pre K →
    (∀ B1 st' pre' a' w', B1.dfs = [] → J pre' B1.sg B1.w → K st' pre' → GA B1 N st' a' w' → Q .normal a' w') → wpListIn (FR none) 0 P ops Q os a w
  | [], B, st, a, w, pre, K, _, hd, hj, h, hk, hQ => hQ _ _ _ _ _ hd hj hk h
  | o :: os, B, st, a, w, pre, K, hall, hd, hj, h, hk, hQ => by
    have ho := hall o (by simp)
    have hall' : ∀ o ∈ os, operOk N o = true := fun o' ho' => hall o' (by simp [ho'])
    simp only [aopsY, St.force_eq] at hk
    split at hk
    case h_2 =>
      have := aops_wpL R os [o] (ops := ops) (Q := Q) (fun o' ho' => hall o' (by rw [List.mem_singleton.1 ho']; simp)) h hk fun st' a' w' hk' h' => aopsY_wp R hY os hall' hd hj h' hk' hQ
      exact this
    rename_i g x hyf
    obtain ⟨t, ts, rfl, hop⟩ := yFun_eq hyf
    have go : ∀ {st : St}, GA B N st a w → yGo l L (.tmp t) x o.dst st pre (fun st pre => aopsY T l L ops os st pre K) → o.wpIn (FR none) 0 P a w (wpListIn (FR none) 0 P ops Q os) Q := fun h hk =>
      yield_step hY ho hop hd hj h hk fun B1 st' pre' a' w' hd' hj' hk' h' => aopsY_wp R hY os hall' hd' hj' h' hk' hQ
    have skip : ∀ {st : St}, GA B N st a w → aopsY T l L ops os (st.put o.dst .undef) pre K → wpListIn (FR none) 0 P ops Q os (a.put o.dst undef) w := fun h hk =>
      aopsY_wp R hY os hall' hd hj (ga_skip h ho) hk hQ
    simp only [wpListIn]
    cases hg : o.guard with
    | none =>
      simp only [hg] at hk
      have : Region.wanted o (yielded ops a.tmps) = true := by simp [Region.wanted, hg]
      rw [if_pos this]
      exact go h hk
    | some jw =>
      obtain ⟨j, want⟩ := jw
      simp only [hg] at hk
      obtain ⟨σ, β, hgg⟩ := h.gg
      split at hk
      case h_2 => exact hk.elim
      rename_i b hb
      obtain ⟨d, hd1, hd2⟩ := guardVal_slot (ops := ops) (env := st.env) (j := j) (by rw [hb]; simp)
      rw [hd2] at hb
      have hv := hgg.env d
      rw [hb] at hv
      have hy := guard_bool (ops := ops) hd1 (show a.tmps.getD d undef = .bool b from hv)
      rw [hd1] at hk
      cases b with
      | true =>
        cases want with
        | true =>
          rw [if_pos (by simp [Region.wanted, hg, hy])]
          exact go (ga_bool h hb) hk
        | false =>
          rw [if_neg (by simp [Region.wanted, hg, hy])]
          exact ⟨fun f _ => trivial, skip (ga_bool h hb) hk⟩
      | false =>
        cases want with
        | true =>
          rw [if_neg (by simp [Region.wanted, hg, hy])]
          exact ⟨fun f _ => trivial, skip (ga_bool h hb) hk⟩
        | false =>
          rw [if_pos (by simp [Region.wanted, hg, hy])]
          exact go (ga_bool h hb) hk

theorem acodeY_wp (R : Rules P T) {l : Nat} {L : List Int} {J : List Int → Sig → World → Prop}
    (hY : YOk P l L J) :
    ∀ (c : Code) {B : Base} {st : St} {a : Act} {w : World} {pre : List Int} {K : Exit → St → List Int → Prop} {Q : Exit → Act → World → Prop}, codeOk N c = true → B.dfs = [] → J pre B.sg B.w → GA B N st a w → acodeY T l L c st pre K →
    (∀ e B1 st' pre' a' w', B1.dfs = [] → J pre' B1.sg B1.w → K e st' pre' → GA B1 N st' a' w' → Q e a' w') → c.wpIn (FR none) 0 P Q a w := by
  intro c
  induction c with
  | skip => intro B st a w pre K Q _ hd hj h hk hQ; exact wpIn_skip (hQ _ _ _ _ _ _ hd hj hk h)
  | exit i => intro B st a w pre K Q _ hd hj h hk hQ; exact wpIn_exit (hQ _ _ _ _ _ _ hd hj hk h)
  | ret => intro B st a w pre K Q _ hd hj h hk hQ; exact wpIn_ret (hQ _ _ _ _ _ _ hd hj hk h)
  | seq x y ihx ihy =>
    intro B st a w pre K Q hok hd hj h hk hQ
    simp only [codeOk, Bool.and_eq_true] at hok
    refine wpIn_seq (ihx hok.1 hd hj h hk fun e B1 st' pre' a' w' hd' hj' hk' h' => ?_)
    cases e with
    | normal => exact ihy hok.2 hd' hj' h' hk' hQ
    | _ => exact hQ _ _ _ _ _ _ hd' hj' hk' h'
  | cond c x y ihx ihy =>
    intro B st a w pre K Q hok hd hj h hk hQ
    simp only [codeOk, Bool.and_eq_true] at hok
    simp only [acodeY] at hk
    split at hk
    · rename_i t ht
      have hev := cond_bool h hok.1.1 ht
      cases t with
      | true => exact wpIn_cond_true hev (ihx hok.1.2 hd hj h hk hQ)
      | false => exact wpIn_cond_false hev (ihy hok.2 hd hj h hk hQ)
    · exact hk.elim
  | block id c ih =>
    intro B st a w pre K Q hok hd hj h hk hQ
    simp only [codeOk] at hok
    refine wpIn_block (ih hok hd hj h hk fun e B1 st' pre' a' w' hd' hj' hk' h' => ?_)
    cases e with
    | exit i =>
      simp only [Exit.inBlock]
      dsimp only at hk'
      split at hk'
      · rename_i e; rw [if_pos (Nat.eq_of_beq_eq_true e)]; exact hQ _ _ _ _ _ _ hd' hj' hk' h'
      · rename_i e
        rw [if_neg (fun e' => by subst e'; rw [Nat.beq_refl] at e; cases e)]; exact hQ _ _ _ _ _ _ hd' hj' hk' h'
    | _ => exact hQ _ _ _ _ _ _ hd' hj' hk' h'
  | loop c ih =>
    intro B st a w pre K Q hok hd hj h hk hQ
    simp only [codeOk] at hok
    simp only [acodeY, St.forceAll_eq] at hk
    obtain ⟨X, S, PR, ⟨x0, hi0, hp0, hle0⟩, hround⟩ := hk
    refine wpIn_loop_ghost (fun m a w => ∃ x B, S.inv x ∧ S.mu x = m ∧ B.dfs = [] ∧ J (PR x) B.sg B.w ∧ GA B N (S.head st x) a w) (S.mu x0) ⟨x0, B, hi0, rfl, hd, by rw [hp0]; exact hj, h.weaken hle0⟩ ?_
    rintro m a w ⟨x, B, hi, rfl, hd, hj, hx⟩
    refine ih hok hd hj hx (hround x hi) fun e B1 st' pre' a' w' hd' hj' hk' h' => ?_
    cases e with
    | normal =>
      obtain ⟨y, hy, hp, hle, hlt⟩ := hk'
      exact ⟨_, hlt, y, B1, hy, rfl, hd', by rw [hp]; exact hj', h'.weaken hle⟩
    | _ => exact hQ _ _ _ _ _ _ hd' hj' hk' h'
  | region id ops draw =>
    intro B st a w pre K Q hok hd hj h hk hQ
    simp only [acodeY] at hk
    split at hk
    · rename_i hyp
      have hdr : draw = false := by
        unfold yParts at hyp
        cases draw with
        | false => rfl
        | true => cases hyp
      subst hdr
      simp only [codeOk, Bool.and_eq_true, List.all_eq_true] at hok
      refine wpIn_region_list ?_
      exact aopsY_wp R hY ops.toList hok.1 hd hj h hk fun B1 st' pre' a' w' hd' hj' hk' h' => hQ _ _ _ _ _ _ hd' hj' hk' h'
    · exact acode_wp R _ hok h hk fun e st' a' w' hk' h' => hQ _ _ _ _ _ _ hd hj hk' h'
  | _ => intro B st a w pre K Q hok hd hj h hk; exact hk.elim

def seqArgs (l : Nat) (ps : List PtV) : List AV := .s (.val (.func (.yield l) #[] #[])) :: ps.map fun q => .s (.pt q.e (some q.x))
def postY (L : List Int) : Exit → St → List Int → Prop
  | .normal, _, pre => pre = L
  | .ret, _, pre => pre = L
  | _, _, _ => False
/-- The function of a sequence, at any loop, yields just this. -/
def afunY (T : Tab) (fn : Func) (ps : List PtV) (L : List Int) : Prop :=
  match fn.body with
  | some c => ∀ l : Nat, (St.init (seqArgs l ps)).forceAll fun s => acodeY T l L c s [] (postY L)
  | none => False
theorem seqArgs_rep {l : Nat} : ∀ {ps : List PtV} {vs : List Value}, All2 (fun (q : PtV) u => ERep σ (.pt q.e) (some q.x) [u]) ps vs → VReps σ [] (ps.map fun q => AV.s (.pt q.e (some q.x))) vs
  | [], [], _ => trivial
  | q :: ps, v :: vs, h => ⟨h.1, seqArgs_rep (l := l) h.2⟩
  | [], _ :: _, h => h.elim
  | _ :: _, [], h => h.elim

theorem seq_ok (R : Rules P T) {f : FuncId} {fn : Func} {c : Code} (hf : P.funcs[f]? = some fn) (hb : fn.body = some c) (hok : codeOk fn.ntmps c = true) (hr : fn.results = #[])
    (hn : (fn.name == "runtime.NumGoroutine") = false) {ps : List PtV} (hl : ps.length + 1 ≤ fn.ntmps) {L : List Int} (hL : ∀ x ∈ L, InK .i64 x) (h : goodArgs (seqArgs 0 ps) → afunY T fn ps L) : SeqOk P f ps L := by
  refine ⟨fun args w => ?_, hL, fun σ vs hcap l J W hag hst hY hJ => ?_⟩
  · simp only [callFunc, Sem.run_bind, run_program, Result.andThen_ok, hf, hn, hb]
    simp
  · have hv : VReps σ [] (seqArgs l ps) (.func (.yield l) #[] #[] :: vs) := ⟨⟨rfl, fun cs e => by cases e⟩, seqArgs_rep (l := l) hcap⟩
    have hv0 : VReps σ [] (seqArgs 0 ps) (.func (.yield 0) #[] #[] :: vs) := ⟨⟨rfl, fun cs e => by cases e⟩, seqArgs_rep (l := 0) hcap⟩
    have hk := h (vreps_good hv0)
    simp only [afunY, hb, St.forceAll_eq] at hk
    have hga := ga_init (N := fn.ntmps) hag hv (by simpa [seqArgs] using hl)
    have e1 : #[Value.func (.yield l) #[] #[]] ++ vs.toArray = (Value.func (.yield l) #[] #[] :: vs).toArray := by simp
    rw [e1]
    refine callsIn_of_wp (F := Fence.wide) (n := 0) hf hb trivial ?_
    rw [← FR.none]
    refine acodeY_wp (J := J) (L := L) R hY c hok rfl hJ hga (hk l) fun e B1 st' pre' a' w' hd' hj' hk' h' => ?_
    have fin : pre' = L → a'.defers = [] ∧ ∃ v, (results fn a'.tmps).run P w' = .ok v w' ∧ (∃ v', (Ending.returned v) = .returned v') ∧ ∃ σ', J L σ' w' := by
      intro e
      subst e
      obtain ⟨vs, hrun, _⟩ := results_run (P := P) (w := w') (fn := fn) (tmps := a'.tmps) (Q := fun r v => True) (fun r hr' => by rw [hr] at hr'; cases hr')
      obtain ⟨σ1, β1, hg⟩ := h'.gg
      exact ⟨h'.defers.trans hd', _, hrun, ⟨_, rfl⟩, _, hst _ _ _ _ hj' hg.bel⟩
    cases e with
    | normal => exact fin hk'
    | ret => exact fin hk'
    | _ => exact hk'.elim
end
def HoldX {α : Type} (a b : α) : Prop := a = b
theorem HoldX.out {α : Type} {a b : α} (h : HoldX a b) : a = b := h
theorem HoldX.intro {α : Type} {a b : α} (h : a = b) : HoldX a b := h
attribute [irreducible] HoldX
end Go.Vm

open Go Go.Vm Go.Proofs
namespace S1
set_option maxRecDepth 100000

/-! What ring.Around's closure yields -/
theorem take_drop {L r : List Int} {c : Int} {k : Nat} (h : L.drop k = c :: r) : L.take (k + 1) = L.take k ++ [c] ∧ L.drop (k + 1) = r := by
  have hk : k < L.length := by
    rcases Nat.lt_or_ge k L.length with h' | h'
    · exact h'
    · rw [List.drop_eq_nil_of_le h'] at h; cases h
  rw [List.drop_eq_getElem_cons hk] at h
  injection h with h1 h2
  exact ⟨by rw [List.take_succ_eq_append_getElem hk, h1], h2⟩
theorem take_end {L : List Int} {c : Int} {k : Nat} (h : L.drop k = [c]) : L.take k ++ [c] = L := by
  have := take_drop h
  rw [← this.1]
  have h2 := List.take_append_drop (k + 1) L
  rw [this.2, List.append_nil] at h2
  exact h2
theorem take_pre {L r : List Int} {c : Int} {k : Nat} (h : L.drop k = c :: r) : (L.take k ++ [c]) <+: L := by
  rw [← (take_drop h).1]; exact List.take_prefix _ _
theorem firstF_ge {x : tabE.T} {c0 : Int} (h0 : 0 ≤ c0) : ∀ n c, 0 ≤ c → 0 ≤ (firstF x c0 n c).1
  | 0, c, _ => by show (0 : Int) ≤ 0; decide
  | n + 1, c, hc => by
    unfold firstF
    split
    · exact hc
    · split
      · exact h0
      · exact firstF_ge h0 n _ (by omega)
theorem aroundF_ge {x : tabE.T} {b : Int} : ∀ n c, 0 ≤ c → ∀ a ∈ aroundF x b n c, 0 ≤ a
  | 0, c, _, a, h => by cases h
  | n + 1, c, hc, a, h => by
    unfold aroundF at h
    split at h
    · rw [List.mem_singleton] at h; omega
    · split at h
      · rw [List.mem_singleton] at h; omega
      · rcases List.mem_cons.1 h with e | h
        · omega
        · exact aroundF_ge n _ (by omega) a h
theorem aroundL_ok {x : tabE.T} (g : Good x) (v : Int) : ∀ a ∈ aroundL (some x) v, InK .i64 a := fun a h => by
  have h1 := (aroundL_le g v).2 a h
  have h2 : 0 ≤ a := by
    have h : a ∈ (if tThere x v then _ else _ : List Int) := h
    split at h
    · rename_i ht
      have hc : 0 ≤ tCorner x v := by
        simp only [tThere, Bool.and_eq_true, decide_eq_true_eq] at ht; exact ht.2.2
      exact aroundF_ge _ _ (firstF_ge hc _ _ hc) a h
    · cases h
  exact InK.i64.2 (by unfold i64ok; omega)
theorem aroundF_step {x : tabE.T} {b c : Int} {k : Nat} (h : k ≤ 24576) : aroundF x b (30000 - k) c = c :: (if tAfter x c < 0 then [] else if tAfter x c = b then [] else aroundF x b (30000 - (k + 1)) (tAfter x c)) := by
  rw [show 30000 - k = (30000 - (k + 1)) + 1 by omega]; rfl
theorem aroundL_eq {x : tabE.T} {v : Int} (h1 : 0 ≤ v) (h2 : v < x.1.1) (h3 : 0 ≤ tCorner x v) : aroundL (some x) v = aroundF x (firstR x v).1 30000 (firstR x v).1 := by
  show (if tThere x v then _ else _ : List Int) = _
  rw [if_pos (by unfold tThere; rw [decide_eq_true h1, decide_eq_true h2, decide_eq_true h3]; rfl)]
theorem aroundL_no {x : tabE.T} {v : Int} (h : ¬ (0 ≤ v ∧ v < x.1.1 ∧ 0 ≤ tCorner x v)) : aroundL (some x) v = [] := by
  show (if tThere x v then _ else _ : List Int) = _
  rw [if_neg (fun e => h (by simpa [tThere] using e))]
def loopY (x : tabE.T) (b : Int) : Spec Nat where
  inv k := FInv (tAfter x) b k ∧ (aroundF x b 30000 b).drop k = aroundF x b (30000 - k) (iter (tAfter x) b k)
  live k := [(6, .s (.int .i64 (iter (tAfter x) b k)))]
  keep := [0, 1, 2, 4]
  heap _ := []
  keepH := []
  mu k := 30000 - k
theorem aroundY_vc (x : tabE.T) (v : Int) (g : Good x) : afunY ⟨tyL, [(62, thereC), (63, firstC), (65, afterC)], []⟩ Try.f91 [⟨.pt tabE, some x⟩, ⟨i64E, v⟩] (aroundL (some x) v) := by
  repeat' (conv => whnf
           first | done | refine Need.intro (by first | rfl | omega | (simp only [i64ok] at *; omega)) ?_ | refine Need.intro (Hold.out ?_) ?_ | refine Give.intro fun _ => ?_ | refine Both.intro ?_ ?_ | refine BIf.and ?_ | refine BIf.or ?_ | refine BIf.eqi (fun _ => ?_) (fun _ => ?_) | refine BIf.nei (fun _ => ?_) (fun _ => ?_) | refine BIf.dec (fun _ => ?_) (fun _ => ?_) | refine BIf.nt ?_ | refine BIf.intro (fun _ => ?_) (fun _ => ?_) | refine (fun (l : Nat) => ?_) | refine Exists.intro Nat (Exists.intro (loopY x (firstR x v).1) (Exists.intro (fun k => (aroundF x (firstR x v).1 30000 (firstR x v).1).take k) (And.intro (Exists.intro 0 (And.intro (Hold.out ?_) (And.intro (HoldX.out ?_) (And.intro ?_ (And.intro ?_ rfl))))) (fun k hk => ?_)))) | ((with_reducible show (∃ y, And (Spec.inv (loopY _ _) y) _)); refine Exists.intro (k + 1) (And.intro (Hold.out ?_) (And.intro (HoldX.out ?_) (And.intro (And.intro ?_ (And.intro ?_ rfl)) (Hold.out ?_))))) | refine And.intro (Hold.out (p := (_ ++ [_]) <+: _) ?_) ?_ | refine HoldX.out ?_ | refine And.intro rfl ?_ | refine And.intro (HoldEq.out ?_) ?_ | refine And.intro (HoldOb.out ?_) ?_ | exact True.intro | refine HoldEq.out ?_ | refine HoldObs.out ?_ | refine KCheck.intro (by kernel_rfl) ?_ | refine HoldOr.out ?_)
  all_goals try first | refine HoldEq.int ?_ | refine HoldEq.bool ?_ | refine HoldEq.sl ?_ | refine HoldEq.own ?_ | refine HoldEq.ownS ?_ ?_ | refine HoldOb.row ?_ | refine HoldOb.map ?_ | refine HoldOb.gmap ?_ | refine HoldOb.grow ?_ | refine HoldObs.row ?_
  all_goals try simp only [take_one, take_one', set_one, take_all, List.length_singleton, rec_self, Int.toNat_natCast, pair_eta, ETy.dflt, List.getD_cons_zero, List.getD_cons_succ, Int.reduceToNat, Int.reduceAdd, Int.reduceSub, Int.reduceNeg, Nat.reduceAdd, Nat.zero_add, loopY] at *
  · exact Hold.intro ⟨fun j a b => by omega, rfl⟩
  · exact HoldX.intro rfl
  · rename_i h1 h2 h3
    rw [aroundL_eq (v := v) h1 h2 h3]
    have h24 := fin_after g hk.1
    have := hk.2; rw [aroundF_step h24] at this
    exact Hold.intro (take_pre this)
  · rename_i h1 h2 h3
    exact Hold.intro ⟨g, iterA_le g (firstF_le g (corner_le g v) _ _ (corner_le g v)) k⟩
  · rename_i h1 h2 h3 h4
    rw [aroundL_eq (v := v) h1 h2 h3]
    have h24 := fin_after g hk.1
    have := hk.2; rw [aroundF_step h24, if_pos h4] at this
    exact HoldX.intro (take_end this)
  · rename_i h1 h2 h3 h4 h5
    replace h5 : tAfter x (iter (tAfter x) (firstR x v).1 k) = (firstR x v).1 := h5
    rw [aroundL_eq (v := v) h1 h2 h3]
    have h24 := fin_after g hk.1
    have := hk.2; rw [aroundF_step h24, if_neg h4, if_pos h5] at this
    exact HoldX.intro (take_end this)
  · rename_i h1 h2 h3 h4 h5
    replace h5 : ¬ tAfter x (iter (tAfter x) (firstR x v).1 k) = (firstR x v).1 := h5
    have h24 := fin_after g hk.1
    have := hk.2; rw [aroundF_step h24, if_neg h4, if_neg h5] at this
    exact Hold.intro ⟨hk.1.succ h4 h5, (take_drop this).2⟩
  · rename_i h1 h2 h3 h4 h5
    have h24 := fin_after g hk.1
    have := hk.2; rw [aroundF_step h24] at this
    exact HoldX.intro (take_drop this).1
  · rename_i h1 h2 h3 h4 h5
    have h24 := fin_after g hk.1
    refine Hold.intro ?_; omega
  · rename_i h1 h2 h3
    exact HoldX.intro (aroundL_no (fun h => h3 h.2.2)).symm
  · rename_i h1 h2
    exact HoldX.intro (aroundL_no (fun h => h2 h.2.1)).symm
  · rename_i h1
    exact HoldX.intro (aroundL_no (fun h => h1 h.1)).symm
theorem aroundY0_vc (v : Int) : afunY ⟨tyL, [(62, thereC), (63, firstC), (65, afterC)], []⟩ Try.f91 [⟨.pt tabE, none⟩, ⟨i64E, v⟩] (aroundL none v) := by
  repeat' (conv => whnf
           first | done | refine Need.intro (by first | rfl | omega | (simp only [i64ok] at *; omega)) ?_ | refine Need.intro (Hold.out ?_) ?_ | refine Give.intro fun _ => ?_ | refine Both.intro ?_ ?_ | refine BIf.and ?_ | refine BIf.or ?_ | refine BIf.eqi (fun _ => ?_) (fun _ => ?_) | refine BIf.nei (fun _ => ?_) (fun _ => ?_) | refine BIf.dec (fun _ => ?_) (fun _ => ?_) | refine BIf.nt ?_ | refine BIf.intro (fun _ => ?_) (fun _ => ?_) | refine (fun (l : Nat) => ?_) | refine HoldX.out ?_ | refine And.intro rfl ?_ | refine And.intro (HoldEq.out ?_) ?_ | refine And.intro (HoldOb.out ?_) ?_ | exact True.intro | refine HoldEq.out ?_ | refine HoldObs.out ?_ | refine KCheck.intro (by kernel_rfl) ?_ | refine HoldOr.out ?_)
  all_goals try first | refine HoldEq.int ?_ | refine HoldEq.bool ?_ | refine HoldEq.sl ?_ | refine HoldEq.own ?_ | refine HoldEq.ownS ?_ ?_ | refine HoldOb.row ?_ | refine HoldOb.map ?_ | refine HoldOb.gmap ?_ | refine HoldOb.grow ?_ | refine HoldObs.row ?_
  all_goals try simp only [take_one, take_one', set_one, take_all, List.length_singleton, rec_self, Int.toNat_natCast, pair_eta, ETy.dflt, List.getD_cons_zero, List.getD_cons_succ, Int.reduceToNat, Int.reduceAdd, Int.reduceSub, Int.reduceNeg, Nat.reduceAdd, Nat.zero_add] at *
  exact HoldX.intro rfl
/-- LINK's sequence: what link.Link leans on. -/
theorem seqS : SeqTabOk Try.prog seqT := fun f ps L h => by
  obtain ⟨rfl, o, v, rfl, hg, rfl⟩ := h
  cases o with
  | none => exact seq_ok (rulesF (fn := [(62, thereC), (63, firstC), (65, afterC)]) (fr := []) ⟨thereRow, firstRow, afterRow, trivial⟩ trivial) Try.func91 rfl (by kernel_rfl) rfl (by kernel_rfl) (Nat.le_of_ble_eq_true rfl) (fun a h => by cases h) fun _ => aroundY0_vc v
  | some x => exact seq_ok (rulesF (fn := [(62, thereC), (63, firstC), (65, afterC)]) (fr := []) ⟨thereRow, firstRow, afterRow, trivial⟩ trivial) Try.func91 rfl (by kernel_rfl) rfl (by kernel_rfl) (Nat.le_of_ble_eq_true rfl) (aroundL_ok (hg x rfl) v) fun _ => aroundY_vc x v (hg x rfl)
theorem linkRow : FnRow Try.prog 27 linkC := link_row seqS
end S1

open Go Go.Vm Go.Proofs
namespace S1
set_option maxRecDepth 100000

/-! what certify.together says -/
theorem sub_all : ∀ (ks l : List Int), ks.Nodup → (∀ x ∈ ks, x ∈ l) → l.length ≤ ks.length → ∀ x ∈ l, x ∈ ks
  | [], l, _, _, hl, x, hx => by
    have : l = [] := List.length_eq_zero_iff.1 (Nat.le_zero.1 hl)
    subst this; cases hx
  | a :: r, l, hd, hs, hl, x, hx => by
    have hd := List.nodup_cons.1 hd
    have ha := hs a (List.mem_cons_self ..)
    have hle : (l.erase a).length = l.length - 1 := List.length_erase_of_mem ha
    have ih := sub_all r (l.erase a) hd.2 (fun y hy => (List.mem_erase_of_ne (fun e => hd.1 (by rw [← e]; exact hy))).2 (hs y (List.mem_cons_of_mem _ hy))) (by rw [hle]; simp only [List.length_cons] at hl; omega)
    by_cases e : x = a
    · rw [e]; exact List.mem_cons_self ..
    · exact List.mem_cons_of_mem _ (ih x ((List.mem_erase_of_ne e).2 hx))
theorem trl_mem (t : P3) {k : Nat} (h : k < 3) : (trl t).getD k 0 ∈ trl t := getD_mem (by simpa [trl] using h)
/-- What stands in the map of ends. -/
def EnIn (l : List P3) (v : Int) (tris : List Int) (m : EndM) : Prop := ∀ w, ∀ x ∈ endAt m w, x ∈ tris ∧ w ∈ trl (tri l x) ∧ w ≠ v
theorem enW_in {l : List P3} {v i : Int} {tris : List Int} {m : EndM} {k : Nat} (hi : i ∈ tris) (hk : k < 3) (h : EnIn l v tris m) : EnIn l v tris (enW v i (tri l i) m k) := by
  intro w x hx
  unfold enW at hx
  split at hx
  · exact h w x hx
  · rename_i hn
    rw [endAt_set] at hx
    split at hx
    · rename_i e
      subst e
      rw [List.mem_append, List.mem_singleton] at hx
      rcases hx with hx | hx
      · exact h _ x hx
      · rw [hx]; exact ⟨hi, trl_mem _ hk, hn⟩
    · exact h w x hx
theorem enA_in (l : List P3) (v : Int) (tris : List Int) : EnIn l v tris (enA l v tris tris.length) :=
  irec_inv (n := tris.length) (fun _ (m : EndM) => EnIn l v tris m) (fun w x hx => by simp [endAt, mget] at hx) (fun j m hj h =>
    irec_inv (n := 3) (fun _ (m : EndM) => EnIn l v tris m) h (fun k m hk h => enW_in (getD_mem hj) hk h) 3 (Nat.le_refl _)) _ (Nat.le_refl _)
def keysR (m : ReM) : List Int := m.map Prod.fst
theorem keysR_set (k : Int) : ∀ m : ReM, (∀ x, x ∈ keysR (mset (.int .i64) m k true) → x = k ∨ x ∈ keysR m) ∧ ((keysR m).Nodup → (keysR (mset (.int .i64) m k true)).Nodup)
  | [] => ⟨fun x h => by simpa [keysR, mset] using h, fun _ => by simp [keysR, mset]⟩
  | (a, b) :: r => by
    obtain ⟨h1, h2⟩ := keysR_set k r
    simp only [mset]
    split
    · rename_i e
      refine ⟨fun x h => ?_, fun h => ?_⟩
      · exact .inr h
      · exact h
    · rename_i e _
      refine ⟨fun x h => ?_, fun h => ?_⟩
      · rcases List.mem_cons.1 h with h | h
        · exact .inr (by rw [h]; exact List.mem_cons_self ..)
        · rcases h1 x h with h | h
          · exact .inl h
          · exact .inr (List.mem_cons_of_mem _ h)
      · have h := List.nodup_cons.1 h
        refine List.nodup_cons.2 ⟨fun hm => ?_, h2 h.2⟩
        rcases h1 a hm with hm | hm
        · exact e hm
        · exact h.1 hm
structure TgIn (tris : List Int) (Q : Int → Prop) (S : TgS) : Prop where
  q : ∀ x ∈ S.2.1, x ∈ tris ∧ Q x
  k : ∀ x ∈ keysR S.2.2, x ∈ tris ∧ Q x
  nd : (keysR S.2.2).Nodup
theorem vis_in {tris av : List Int} {Q : Int → Prop} {S : TgS} {j : Nat} (h : TgIn tris Q S) (ha : av.getD j 0 ∈ tris ∧ Q (av.getD j 0)) : TgIn tris Q (vis av S j) := by
  unfold vis
  split
  · exact h
  · refine ⟨fun x hx => ?_, fun x hx => ?_, (keysR_set _ _).2 h.nd⟩
    · rcases List.mem_append.1 hx with hx | hx
      · exact h.q x (List.mem_of_mem_drop hx)
      · rw [List.mem_singleton.1 hx]; exact ha
    · rcases (keysR_set _ _).1 x hx with hx | hx
      · rw [hx]; exact ha
      · exact h.k x hx
theorem tgW_in {l : List P3} {v i : Int} {tris : List Int} {Q : Int → Prop} {E : EndM} (hE : EnIn l v tris E) (hc : ∀ i ∈ tris, ∀ j ∈ tris, (∃ w, w ≠ v ∧ w ∈ trl (tri l i) ∧ w ∈ trl (tri l j)) → Q i → Q j)
    (hi : i ∈ tris ∧ Q i) {S : TgS} (h : TgIn tris Q S) : TgIn tris Q (irec (tgW E v (tri l i)) S 3) :=
  irec_inv (n := 3) (fun _ (S : TgS) => TgIn tris Q S) h (fun k S hk h => by
    unfold tgW
    split
    · exact h
    · rename_i hn
      exact irec_inv (n := (endAt E ((trl (tri l i)).getD k 0)).length) (fun _ (S : TgS) => TgIn tris Q S) h (fun j S hj h => by
        have := hE _ _ (getD_mem hj)
        exact vis_in h ⟨this.1, hc i hi.1 _ this.1 ⟨_, this.2.2, trl_mem _ hk, this.2.1⟩ hi.2⟩) _ (Nat.le_refl _)) 3 (Nat.le_refl _)
theorem tgS_in {l : List P3} {v x0 : Int} {tris : List Int} {Q : Int → Prop} {E : EndM} (hE : EnIn l v tris E) (hc : ∀ i ∈ tris, ∀ j ∈ tris, (∃ w, w ≠ v ∧ w ∈ trl (tri l i) ∧ w ∈ trl (tri l j)) → Q i → Q j)
    (h0 : x0 ∈ tris ∧ Q x0) (r : Nat) : TgIn tris Q (tgS E l v x0 r) :=
  irec_inv (n := r) (fun _ (S : TgS) => TgIn tris Q S) ⟨fun x hx => by rw [List.mem_singleton.1 hx]; exact h0, fun x hx => by rw [List.mem_singleton.1 hx]; exact h0, (by show [x0].Nodup; exact List.nodup_cons.2 ⟨by simp, List.nodup_nil⟩)⟩ (fun j S _ h => by
    unfold tgR
    split
    · rename_i hs
      exact tgW_in hE hc (h.q _ (getD_mem hs)) (S := (S.1 + 1, S.2.1, S.2.2)) ⟨h.q, h.k, h.nd⟩
    · exact h) r (Nat.le_refl _)
/-- What has one triangle of those at a vertex, and with each its neighbours there, has all. -/
theorem tog_all {l : List P3} {v : Int} {tris : List Int} (ht : tris ≠ []) (h : togR l v tris = true) (Q : Int → Prop) (h0 : Q (tris.getD 0 0))
    (hc : ∀ i ∈ tris, ∀ j ∈ tris, (∃ w, w ≠ v ∧ w ∈ trl (tri l i) ∧ w ∈ trl (tri l j)) → Q i → Q j) : ∀ i ∈ tris, Q i := by
  have hm : tris.getD 0 0 ∈ tris := getD_mem (List.length_pos_iff.2 ht)
  have k := tgS_in (x0 := tris.getD 0 0) (enA_in l v tris) hc ⟨hm, h0⟩ (2 * tris.length + 2)
  unfold togR at h
  have h := eq_of_beq h
  intro i hi
  refine (k.k i (sub_all _ tris k.nd (fun x hx => (k.k x hx).1) ?_ i hi)).2
  unfold keysR
  rw [List.length_map]
  omega
end S1

open Go Go.Vm Go.Proofs
namespace S1
set_option maxRecDepth 100000

theorem atP_mem {s : List (List Int)} {w : Int} {j v : Nat} {x : Int} (hw : 0 ≤ w) (hv : v < s.length) : x ∈ (atP s w j).getD v [] ↔ x ∈ s.getD v [] ∨ (x = j ∧ w = v) := by
  rw [atP_get]
  split
  · rename_i h
    rw [List.mem_append, List.mem_singleton]
    have : w = v := by omega
    simp [this]
  · rename_i h
    have : ¬ w = v := fun e => h ⟨by omega, hv⟩
    simp [this]
/-- Which triangles certify.pinch has noted at a vertex. -/
theorem atF_mem {n : Nat} {l : List P3} (hl : ∀ j, j < l.length → 0 ≤ (l.getD j (0, 0, 0)).1 ∧ 0 ≤ (l.getD j (0, 0, 0)).2.1 ∧ 0 ≤ (l.getD j (0, 0, 0)).2.2) {v : Nat} (hv : v < n) :
    ∀ i, i ≤ l.length → ∀ x : Int, x ∈ (atF n l i).getD v [] ↔ ∃ j : Nat, j < i ∧ x = j ∧ hasV (l.getD j (0, 0, 0)) v
  | 0, _, x => by
    have e : (atF n l 0).getD v [] = [] := by
      show (List.replicate n ([] : List Int)).getD v [] = []
      rw [List.getD_eq_getElem?_getD, List.getElem?_replicate]; split <;> rfl
    rw [e]
    exact ⟨fun h => (by cases h), fun ⟨j, h, _⟩ => (by omega)⟩
  | i + 1, hi, x => by
    have ih := atF_mem hl hv i (by omega) x
    have hlen : (atF n l i).length = n := (atF_ok n l i).1
    obtain ⟨h1, h2, h3⟩ := hl i (by omega)
    show x ∈ (at3 (atF n l i) (l.getD i (0, 0, 0)) i).getD v [] ↔ _
    unfold at3
    rw [atP_mem h3 (by rw [atP_len, atP_len, hlen]; exact hv), atP_mem h2 (by rw [atP_len, hlen]; exact hv), atP_mem h1 (by rw [hlen]; exact hv), ih]
    constructor
    · rintro (((⟨j, a, b, c⟩ | ⟨b, c⟩) | ⟨b, c⟩) | ⟨b, c⟩)
      · exact ⟨j, by omega, b, c⟩
      · exact ⟨i, by omega, b, .inl c⟩
      · exact ⟨i, by omega, b, .inr (.inl c)⟩
      · exact ⟨i, by omega, b, .inr (.inr c)⟩
    · rintro ⟨j, a, b, c⟩
      by_cases e : j = i
      · subst e
        rcases c with c | c | c
        · exact .inl (.inl (.inr ⟨b, c⟩))
        · exact .inl (.inr ⟨b, c⟩)
        · exact .inr ⟨b, c⟩
      · exact .inl (.inl (.inl ⟨j, by omega, b, c⟩))
theorem trl_iff {t : P3} {v : Int} : v ∈ trl t ↔ hasV t v := by
  simp only [trl, hasV, List.mem_cons, List.not_mem_nil, or_false]
  constructor
  · rintro (h | h | h)
    · exact .inl h.symm
    · exact .inr (.inl h.symm)
    · exact .inr (.inr h.symm)
  · rintro (h | h | h)
    · exact .inl h.symm
    · exact .inr (.inl h.symm)
    · exact .inr (.inr h.symm)
/-- No vertex is pinched: what has one triangle at it, and with each its neighbours at it, has all. -/
theorem pin_all {n : Int} {l : List P3} (hp : pinR (n, l) = []) (hl : ∀ j, j < l.length → 0 ≤ (l.getD j (0, 0, 0)).1 ∧ 0 ≤ (l.getD j (0, 0, 0)).2.1 ∧ 0 ≤ (l.getD j (0, 0, 0)).2.2) {v : Nat} (hv : (v : Int) < n) (Q : Nat → Prop)
    (hc : ∀ i j : Nat, i < l.length → j < l.length → hasV (l.getD i (0, 0, 0)) v → hasV (l.getD j (0, 0, 0)) v → (∃ w : Int, w ≠ v ∧ hasV (l.getD i (0, 0, 0)) w ∧ hasV (l.getD j (0, 0, 0)) w) → Q i → Q j)
    {a : Nat} (ha : a < l.length) (hva : hasV (l.getD a (0, 0, 0)) v) (hQ : Q a) : ∀ i, i < l.length → hasV (l.getD i (0, 0, 0)) v → Q i := by
  have hvn : v < n.toNat := by omega
  have hm := atF_mem (n := n.toNat) hl hvn l.length (Nat.le_refl _)
  have htog : togR l v ((atF n.toNat l l.length).getD v []) = true := by
    have := List.filterMap_eq_nil_iff.1 hp v (List.mem_range.2 hvn)
    unfold piG at this
    split at this
    · assumption
    · cases this
  have hne : (atF n.toNat l l.length).getD v [] ≠ [] := atF_ne n.toNat l hvn l.length ⟨a, ha, hva⟩
  have tri_nat : ∀ j : Nat, tri l (j : Int) = l.getD j (0, 0, 0) := fun j => rfl
  have key : ∀ R : Nat → Prop, (∀ i j : Nat, i < l.length → j < l.length → hasV (l.getD i (0, 0, 0)) v → hasV (l.getD j (0, 0, 0)) v → (∃ w : Int, w ≠ v ∧ hasV (l.getD i (0, 0, 0)) w ∧ hasV (l.getD j (0, 0, 0)) w) → R i → R j) →
      (∀ x, ((atF n.toNat l l.length).getD v []).getD 0 0 = ((x : Nat) : Int) → R x) → ∀ i, i < l.length → hasV (l.getD i (0, 0, 0)) v → R i := fun R hR h0 i hi hvi => by
    have := tog_all hne htog (fun y => ∀ j : Nat, y = j → R j) h0 (fun y hy z hz ⟨w, h1, h2, h3⟩ hQy j e => by
      obtain ⟨a, ha1, ha2, ha3⟩ := (hm y).1 hy
      obtain ⟨b, hb1, hb2, hb3⟩ := (hm z).1 hz
      have : b = j := by omega
      subst this
      subst ha2; subst hb2
      rw [tri_nat, trl_iff] at h2 h3
      exact hR a b ha1 hb1 ha3 hb3 ⟨w, h1, h2, h3⟩ (hQy a rfl)) i ((hm i).2 ⟨i, hi, rfl, hvi⟩)
    exact this i rfl
  have hz := (hm _).1 (getD_mem (j := 0) (List.length_pos_iff.2 hne))
  obtain ⟨z, hz1, hz2, hz3⟩ := hz
  by_cases hQz : Q z
  · exact key Q hc fun x e => by
      have : x = z := by omega
      rw [this]; exact hQz
  · have := key (fun i => ¬ Q i) (fun i j hi hj h1 h2 ⟨w, h3, h4, h5⟩ hn hq => hn (hc j i hj hi h2 h1 ⟨w, h3, h5, h4⟩ hq)) (fun x e => by
      have : x = z := by omega
      rw [this]; exact hQz) a ha hva
    exact absurd hQ this
end S1
