/- A part of the proofs of the laws of this seat: contracts of functions, each for every input that its text names. -/
import Derived.Test.YtbpnklbmnihlgaaVmLocktoT22
import Derived.Test.YtbpnklbmnihlgaaT0toVmInl
set_option linter.unusedSimpArgs false
set_option linter.unusedVariables false
/- Functions with ranges over functions at their top that hand rows over. -/
namespace Go.Vm
open Go.RowKit

def afunRF (T : Tab) (SQ : SeqTab) (fn : Func) (args : List AV) (R : AV → List Ob → Prop) : Prop :=
  match fn.body with
  | some c => (St.init args).forceAll fun s => acodeR T SQ c s (postF T fn R)
  | none => False

section
variable {P : Program} {T : Tab} {SQ : SeqTab} {B B0 : Base} {w w' : World} {σ τ : Sig} {β : Places} {st : St} {tmps : Array Value} {N : Nat} {a : Act}

/-- The marks of ranges that are over, one by one. -/
theorem marks_leave {fn : Func} {st' : St} {R : Ending → World → Prop}
    (hend : ∀ (B1 : Base) (σ1 : Sig) (β1 : Places) (w' : World), B1.w = w → Grew ⟨w, σ, []⟩ B1.sg → GG B1 σ1 β1 st' tmps w' → ∃ v, (results fn tmps).run P w' = .ok v w' ∧ R (.returned v) w') (hag : Ag σ w) :
    ∀ (Ds : List Nat) (B1 : Base) (σ1 : Sig) (β1 : Places) (w' : World), Ds.Nodup → (∀ D ∈ Ds, B1.sg D = some (.deferred (some [])) ∧ w.heap.size ≤ D) → B1.w = w → Grew ⟨w, σ, []⟩ B1.sg → GG B1 σ1 β1 st' tmps w' →
      LeavesInM (FR none) 0 P fn tmps R (Ds.map mark) .returning w' := by
  intro Ds
  induction Ds with
  | cons D r ih =>
    intro B1 σ1 β1 w' hn hD hw hgr hg
    obtain ⟨hn1, hn2⟩ := List.nodup_cons.1 hn
    obtain ⟨d1, d2⟩ := hD D (List.mem_cons_self ..)
    rw [Base.relock B1 d1] at hg
    obtain ⟨_, hl2, _⟩ := hg.locked rfl
    have hdel : ∀ b, b ≠ D → (B1.sg.del D) b = B1.sg b := fun b hb => by unfold Sig.del; rw [if_neg hb]
    obtain ⟨hg2, _⟩ := hg.unlock rfl (by show B1.w.heap.size ≤ D; rw [hw]; exact d2) (by show (B1.sg.del D) D = none; unfold Sig.del; rw [if_pos rfl]) (.deferred none)
    refine ⟨by simp, .inl ⟨D, _, rfl, run_takeDeferred hl2, ih { B1 with sg := B1.sg.del D } _ _ _ hn2 (fun D' hD' => ?_) hw ⟨fun b o e => ?_, fun b hb => ?_⟩ hg2⟩⟩
    · obtain ⟨k1, k2⟩ := hD D' (List.mem_cons_of_mem _ hD')
      exact ⟨by show (B1.sg.del D) D' = _; rw [hdel _ (fun e => hn1 (e ▸ hD'))]; exact k1, k2⟩
    · have hb : b ≠ D := fun hb => by subst hb; have := hag.lt e; omega
      show ∃ o', (B1.sg.del D) b = some o' ∧ _
      rw [hdel b hb]; exact hgr.1 b o e
    · have hb : b < w.heap.size := hb
      show (B1.sg.del D) b = _
      rw [hdel b (by omega)]; exact hgr.2 b hb
  | nil =>
    intro B1 σ1 β1 w' _ _ hw hgr hg
    exact hend B1 σ1 β1 w' hw hgr hg

theorem fn_okRF (R : Rules P T) (hSQ : SeqTabOk P SQ) {f : FuncId} {fn : Func} {c : Code} (hf : P.funcs[f]? = some fn) (hb : fn.body = some c) (hok : codeOkR fn.ntmps c = true)
    {args : List AV} (hl : args.length ≤ fn.ntmps) {q : Option Prop} {u : AV} {us : List Ob} (h : goodArgs args → Opt q → afunRF T SQ fn args (fun v obs => v = u ∧ obs = us)) : FnOkF P f args (none, q, u, us) := by
  intro σ vals w hag hv
  refine ⟨trivial, fun hq => ?_⟩
  have hga := ga_init (N := fn.ntmps) hag hv hl
  have hk := h (vreps_good hv) hq
  simp only [afunRF, hb, St.forceAll_eq] at hk
  refine (callsIn_of_wp_marks (F := Fence.wide) (n := 0) hf hb trivial ?_).calls (fun _ _ hd => by cases hd)
  rw [← FR.none]
  refine acodeR_wp (B0 := ⟨w, σ, []⟩) R hSQ c hok ⟨rfl, ⟨Sig.le.refl _, fun _ _ => rfl⟩, [], rfl, List.nodup_nil, fun D hD => by cases hD⟩ hga hk fun e B1 st' a' w' hm hp h' => ?_
  have fin : (match fn.results.toList.all (resOk T st') && (nodupB (rowIds (rawAll T fn st').parts) && rowsB st'.hp (rowIds (rawAll T fn st').parts)) with
      | true => (rawAll T fn st').mapAS (renAS (rowIds (rawAll T fn st').parts)) = u ∧ obsOf st'.hp (rowIds (rawAll T fn st').parts) = us
      | false => False) → LeavesInM (FR none) 0 P fn a'.tmps (fun e w' => ∃ v σ' β', e = .returned v ∧ σ.le σ' ∧ Ag σ' w' ∧
      (∀ b, b < w.heap.size → σ' b = σ b) ∧ VRep σ' β' u v ∧ FreshL σ' w.heap.size w' us β' ∧ Below w.heap.size w w') a'.defers .returning w' := by
    intro hu
    split at hu
    case h_2 => exact hu.elim
    rename_i hallok
    rw [Bool.and_eq_true, Bool.and_eq_true] at hallok
    obtain ⟨hallok, hnd, hrows⟩ := hallok
    obtain ⟨σ1, β1, hg⟩ := h'.gg
    obtain ⟨Ds, e1, e2, e3⟩ := hm.ds
    rw [h'.defers, e1]
    refine marks_leave (w := w) (σ := σ) (st' := st') (fun B1 σ1 β1 w' hw hgr hg => ?_) hag Ds B1 σ1 β1 w' e2 e3 hm.w hm.grew hg
    have hsl : σ.le σ1 := Sig.le.trans hgr.1 hg.grew.1
    have hsb : ∀ b, b < w.heap.size → σ1 b = σ b := fun b hb => (hg.grew.2 b (by rw [hw]; exact hb)).trans (hgr.2 b hb)
    have hbel : Below w.heap.size w w' := by have := hg.bel; rw [hw] at this; exact this
    obtain ⟨vs, hrun, hall⟩ := results_run (P := P) (w := w') (fn := fn) (tmps := a'.tmps) (Q := fun r v => VRep σ1 β1 (rawOne T st' r) v) (fun r hr => by
      have hro := List.all_eq_true.1 hallok r hr
      cases r with
      | tmp t => exact ⟨_, rfl, hg.env t⟩
      | cell a t =>
        simp only [resOk] at hro
        simp only [rawOne]
        have hx := hg.env a
        split at hro
        · rename_i id i k hea
          rw [hea] at hx
          split at hro
          · rename_i v hv
            obtain ⟨p, _, hptr, _⟩ := hx
            obtain ⟨_, hrun⟩ := cLoad_sound (w := w') R.ty R.one hg.mem (t := t) (hg.env a) (p := none) (q := none) (v := v) (by rw [hea]; exact hv)
            obtain ⟨val, h1, h2⟩ := hrun trivial
            refine ⟨val, ?_, h2⟩
            rw [hptr] at h1 ⊢
            rw [loadAt_run] at h1
            simp only [asAddr, Sem.run_bind, Sem.run_pure, Result.andThen_ok]
            exact h1
          · cases hro
        · cases hro)
    refine ⟨_, hrun, _, σ1, (rowIds (rawAll T fn st').parts).map fun i => (β1[i]?).getD none, rfl, hsl, hg.mem.ag, hsb, ?_, ?_, hbel⟩
    · exact ((rawAll_rep hall).mapAS fun a v ha => ARep.ren (ids := rowIds (rawAll T fn st').parts) ha) |> fun h => by rw [hu.1] at h; exact h
    · have := nodup_fresh (w := w') hg.mem.ob (fun id ob p hi hp => by have := hg.sep id ob p hi hp; rw [hw] at this; exact this) _ hnd hrows
      rw [hu.2] at this; exact this
  cases e with
  | normal => simp only [postF, AV.force_eq] at hp; exact fin hp
  | ret => simp only [postF, AV.force_eq] at hp; exact fin hp
  | _ => exact hp.elim
end
end Go.Vm

open Go Go.Vm Go.Proofs
namespace S1
set_option maxRecDepth 100000

/-! ring.Link again: it hands its row over -/
set_option maxHeartbeats 400000 in
theorem linkF_vc (x : tabE.T) (v : Int) (g : Good x) : afunRF ⟨tyL, [(42, aroundC), (43, nextC), (45, prevC), (44, afterC), (34, vertexC)], []⟩ seqT Try.f21 [(ETy.pt tabE).av (some x), i64E.av v] (fun r obs => r = .s (.own 0 0 (linkR x v).length) ∧ obs = [.row i64E 3 (linkR x v)]) := by
  obtain ⟨hl, ha⟩ := aroundL_le g v
  have hd := getD_le ha
  have hL := lkLast_le ha (aroundL (some x) v).length
  have ho := lkO_len x (aroundL (some x) v)
  have ho2 := ho _ (Nat.le_refl _)
  repeat' (conv => whnf
           first
            | done
            | refine Need.intro (by first | rfl | omega | (simp only [i64ok] at *; omega)) ?_
            | refine Need.intro (Hold.out ?_) ?_
            | refine Give.intro fun _ => ?_
            | refine Both.intro ?_ ?_
            | refine BIf.and ?_
            | refine BIf.or ?_
            | refine BIf.eqi (fun _ => ?_) (fun _ => ?_)
            | refine BIf.nei (fun _ => ?_) (fun _ => ?_)
            | refine BIf.dec (fun _ => ?_) (fun _ => ?_)
            | refine BIf.nt ?_
            | refine BIf.intro (fun _ => ?_) (fun _ => ?_)
            | refine Exists.intro (aroundL (some x) v) (And.intro (Hold.out ?_) (Exists.intro (loopK x (aroundL (some x) v)) ?_))
            | (refine And.intro (fun X => ?_) (fun X => ?_))
            | (refine And.intro (And.intro ?_ (And.intro ?_ rfl)) (fun k hk => ?_))
            | (refine And.intro ?_ (And.intro ?_ rfl))
            | refine And.intro rfl ?_
            | refine And.intro (HoldEq.out ?_) ?_
            | refine And.intro (HoldOb.out ?_) ?_
            | exact True.intro
            | refine HoldEq.out ?_
            | refine HoldObs.out ?_
            | refine HoldOr.out ?_)
  all_goals try first | refine HoldEq.int ?_ | refine HoldEq.bool ?_ | refine HoldEq.sl ?_ | refine HoldEq.own ?_ | refine HoldEq.ownS ?_ ?_ | refine HoldOb.row ?_ | refine HoldOb.map ?_ | refine HoldOb.gmap ?_ | refine HoldOb.grow ?_ | refine HoldObs.row ?_
  all_goals try simp only [take_one, take_one', set_one, take_all, List.length_singleton, rec_self, Int.toNat_natCast, pair_eta, ETy.dflt, List.getD_cons_zero, List.getD_cons_succ, Int.reduceToNat, Int.reduceAdd, Int.reduceSub, Int.reduceNeg, Nat.reduceAdd, Nat.zero_add] at *
  · exact Hold.intro ⟨rfl, some x, v, rfl, fun y e => by cases e; exact g, rfl⟩
  · exact Hold.intro (Int.le_trans (hd k) (by decide))
  · exact Hold.intro (Int.le_trans (next_le g _) (by decide))
  · have := ho k (Nat.le_of_lt hk)
    refine Hold.intro ?_; omega
  · rw [lkO_succ _ _ _ hk, List.length_append]; exact HoldOb.intro rfl
  · exact lkO_succ _ _ _ hk
  · exact Hold.intro ⟨g, hL⟩
  · exact Hold.intro (Int.le_trans hL (by decide))
  · exact Hold.intro (Int.le_trans (prev_le g _) (by decide))
  · refine Hold.intro ?_; omega
  · rename_i h1 h2
    unfold linkR
    rw [if_pos ⟨h1, h2⟩, List.length_append]; rfl
  · rename_i h1 h2
    unfold linkR
    rw [if_pos ⟨h1, h2⟩]
  · rename_i h1 h2
    unfold linkR
    rw [if_neg (fun e => h2 e.2), List.append_nil]
  · rename_i h1 h2
    unfold linkR
    rw [if_neg (fun e => h2 e.2), List.append_nil]
  · rename_i h1
    unfold linkR
    rw [if_neg (fun e => h1 e.1), List.append_nil]
  · rename_i h1
    unfold linkR
    rw [if_neg (fun e => h1 e.1), List.append_nil]
set_option maxHeartbeats 4000000 in
theorem linkF0_vc (v : Int) : afunRF ⟨tyL, [(42, aroundC), (43, nextC), (45, prevC), (44, afterC), (34, vertexC)], []⟩ seqT Try.f21 [(ETy.pt tabE).av none, i64E.av v] (fun r obs => r = .s (.own 0 0 0) ∧ obs = [.row i64E 3 []]) := by
  repeat' (conv => whnf
           first
            | done
            | refine Need.intro (by first | rfl | omega | (simp only [i64ok] at *; omega)) ?_
            | refine Need.intro (Hold.out ?_) ?_
            | refine Give.intro fun _ => ?_
            | refine Both.intro ?_ ?_
            | refine BIf.and ?_
            | refine BIf.or ?_
            | refine BIf.eqi (fun _ => ?_) (fun _ => ?_)
            | refine BIf.nei (fun _ => ?_) (fun _ => ?_)
            | refine BIf.dec (fun _ => ?_) (fun _ => ?_)
            | refine BIf.nt ?_
            | refine BIf.intro (fun _ => ?_) (fun _ => ?_)
            | refine Exists.intro [] (And.intro (Hold.out ?_) (Exists.intro loopK0 ?_))
            | (refine And.intro (fun X => ?_) (fun X => ?_))
            | (refine And.intro (And.intro ?_ (And.intro ?_ rfl)) (fun k hk => absurd hk (Nat.not_lt_zero _)))
            | refine And.intro rfl ?_
            | refine And.intro (HoldEq.out ?_) ?_
            | refine And.intro (HoldOb.out ?_) ?_
            | exact True.intro
            | refine HoldEq.out ?_
            | refine HoldObs.out ?_
            | refine HoldOr.out ?_)
  all_goals try first | refine HoldEq.int ?_ | refine HoldEq.bool ?_ | refine HoldEq.sl ?_ | refine HoldEq.own ?_ | refine HoldEq.ownS ?_ ?_ | refine HoldOb.row ?_ | refine HoldOb.map ?_ | refine HoldOb.gmap ?_ | refine HoldOb.grow ?_ | refine HoldObs.row ?_
  all_goals try simp only [take_one, take_one', set_one, take_all, List.length_singleton, rec_self, Int.toNat_natCast, pair_eta, ETy.dflt, List.getD_cons_zero, List.getD_cons_succ, Int.reduceToNat, Int.reduceAdd, Int.reduceSub, Int.reduceNeg, Nat.reduceAdd, Nat.zero_add] at *
  exact Hold.intro ⟨rfl, none, v, rfl, fun y e => (by cases e), rfl⟩
def linkFC : List AV → Option ResF := con2 (.pt tabE) i64E (fun o v => some (none, some (∀ x, o = some x → Good x), .s (.own 0 0 (linkO o v).length), [.row i64E 3 (linkO o v)]))
theorem linkFRow : FnRowF Try.prog 21 linkFC := ⟨con2_okF fun o v r h => by
  cases h
  cases o with
  | none => exact fn_okRF (rulesF (fn := [(42, aroundC), (43, nextC), (45, prevC), (44, afterC), (34, vertexC)]) (fr := []) ⟨aroundRow, nextRow, prevRow, afterRow, vertexRow, trivial⟩ trivial) seqS Try.func21 rfl (by kernel_rfl) (Nat.le_of_ble_eq_true rfl) fun _ _ => linkF0_vc v
  | some x => exact fn_okRF (rulesF (fn := [(42, aroundC), (43, nextC), (45, prevC), (44, afterC), (34, vertexC)]) (fr := []) ⟨aroundRow, nextRow, prevRow, afterRow, vertexRow, trivial⟩ trivial) seqS Try.func21 rfl (by kernel_rfl) (Nat.le_of_ble_eq_true rfl) fun _ h => linkF_vc x v (h x rfl), _, Try.func21, by kernel_rfl, by kernel_rfl⟩
end S1

open Go Go.Vm Go.Proofs
namespace S1
set_option maxRecDepth 100000

/-! link.Common -/
theorem notin_vc (v : Int) (l : List Int) : afun ⟨tyL, [(19, containsC)], []⟩ Try.f23 [i64E.av v, (ETy.pt (.sl i64E)).av (some l)] (fun r => r = .s (.bool (!hasI v l))) := by
  repeat' (conv => whnf
           first
            | done
            | refine Need.intro (by first | rfl | omega | (simp only [i64ok] at *; omega)) ?_
            | refine Need.intro (Hold.out ?_) ?_
            | refine Give.intro fun _ => ?_
            | refine Both.intro ?_ ?_
            | refine BIf.and ?_
            | refine BIf.or ?_
            | refine BIf.eqi (fun _ => ?_) (fun _ => ?_)
            | refine BIf.nei (fun _ => ?_) (fun _ => ?_)
            | refine BIf.dec (fun _ => ?_) (fun _ => ?_)
            | refine BIf.nt ?_
            | refine BIf.intro (fun _ => ?_) (fun _ => ?_)
            | refine And.intro rfl ?_
            | refine And.intro (HoldEq.out ?_) ?_
            | refine And.intro (HoldOb.out ?_) ?_
            | exact True.intro
            | refine HoldEq.out ?_
            | refine HoldObs.out ?_
            | refine HoldOr.out ?_)
  all_goals try first | refine HoldEq.int ?_ | refine HoldEq.bool ?_ | refine HoldEq.sl ?_ | refine HoldEq.own ?_ | refine HoldEq.ownS ?_ ?_ | refine HoldOb.row ?_ | refine HoldOb.map ?_ | refine HoldOb.gmap ?_ | refine HoldOb.grow ?_ | refine HoldObs.row ?_
  all_goals try simp only [take_one, take_one', set_one, take_all, List.length_singleton, rec_self, Int.toNat_natCast, pair_eta, ETy.dflt, List.getD_cons_zero, List.getD_cons_succ, Int.reduceToNat, Int.reduceAdd, Int.reduceSub, Int.reduceNeg, Nat.reduceAdd, Nat.zero_add, Option.getD_some] at *
def notinC : List AV → Option Res := con2 i64E (.pt (.sl i64E)) (fun v o => match o with | some l => some (none, none, .s (.bool (!hasI v l))) | none => none)
theorem notinRow : FnRow Try.prog 23 notinC := ⟨con2_ok fun v o r h => by
  cases o with
  | none => cases h
  | some l => cases h; exact fn_by (rulesF (fn := [(19, containsC)]) (fr := []) ⟨containsRow, trivial⟩ trivial) Try.func23 (by kernel_rfl) fun _ _ => notin_vc v l, _, Try.func23, by kernel_rfl, by kernel_rfl⟩
attribute [local irreducible] hasI
/-- The first one that is to go. -/
def idxF (p : Int → Bool) : List Int → Nat → Int
  | [], _ => -1
  | a :: r, i => if p a = true then (i : Int) else idxF p r (i + 1)
def loopIF (p : Int → Bool) (l : List Int) : Spec Nat where
  inv x := x ≤ l.length ∧ idxF p l 0 = idxF p (l.drop x) x
  live x := [(8, .s (.int .i64 x))]
  keep := [0, 1, 7]
  heap _ := []
  keepH := []
  mu x := l.length - x
theorem idxF_vc (l m : List Int) : afun ⟨tyL, [(23, notinC)], []⟩ Try.f46 [(ETy.sl i64E).av l, .s (.clo 23 [⟨.sl i64E, m⟩])] (fun r => r = .s (.int .i64 (idxF (fun v => !hasI v m) l 0))) := by
  repeat' (conv => whnf
           first
            | done
            | refine Need.intro (by first | rfl | omega | (simp only [i64ok] at *; omega)) ?_
            | refine Need.intro (Hold.out ?_) ?_
            | refine Give.intro fun _ => ?_
            | refine Both.intro ?_ ?_
            | refine BIf.and ?_
            | refine BIf.or ?_
            | refine BIf.eqi (fun _ => ?_) (fun _ => ?_)
            | refine BIf.nei (fun _ => ?_) (fun _ => ?_)
            | refine BIf.dec (fun _ => ?_) (fun _ => ?_)
            | refine BIf.nt ?_
            | refine BIf.intro (fun _ => ?_) (fun _ => ?_)
            | ((first | (with_reducible show Or (∃ n, rounds (acode _ (Code.seq (Code.region 2 _ _) _)) _ n _) _) | (with_reducible show Or (∃ n, rounds (acode _ (Code.seq (Code.seq (Code.region 2 _ _) _) _)) _ n _) _) | (with_reducible show Or (∃ n, rounds (acode _ (Code.seq (Code.seq (Code.seq (Code.region 2 _ _) _) _) _)) _ n _) _) | (with_reducible show Or (∃ n, rounds (acode _ (Code.seq (Code.seq (Code.seq (Code.seq (Code.region 2 _ _) _) _) _) _)) _ n _) _) | (with_reducible show Or (∃ n, rounds (acode _ (Code.block _ (Code.seq (Code.region 2 _ _) _))) _ n _) _) | (with_reducible show Or (∃ n, rounds (acode _ (Code.block _ (Code.seq (Code.seq (Code.region 2 _ _) _) _))) _ n _) _) | (with_reducible show Or (∃ n, rounds (acode _ (Code.block _ (Code.seq (Code.seq (Code.seq (Code.region 2 _ _) _) _) _))) _ n _) _) | (with_reducible show Or (∃ n, rounds (acode _ (Code.block _ (Code.seq (Code.seq (Code.seq (Code.seq (Code.region 2 _ _) _) _) _) _))) _ n _) _)); refine Or.inr (Exists.intro (Nat) (Exists.intro (loopIF (fun v => !hasI v m) l) (And.intro (Exists.intro (0) (And.intro (Hold.out ?_) (And.intro ?_ (And.intro ?_ rfl)))) (fun x hx => ?_)))))
            | ((with_reducible show (∃ y, And (Spec.inv (loopIF _ _) y) _)); refine Exists.intro (x + 1) (And.intro (Hold.out ?_) (And.intro (And.intro ?_ (And.intro ?_ rfl)) (Hold.out ?_))))
            | refine And.intro rfl ?_
            | refine And.intro (HoldEq.out ?_) ?_
            | refine And.intro (HoldOb.out ?_) ?_
            | exact True.intro
            | refine HoldEq.out ?_
            | refine HoldObs.out ?_
            | refine HoldOr.out ?_)
  all_goals try first | refine HoldEq.int ?_ | refine HoldEq.bool ?_ | refine HoldEq.sl ?_ | refine HoldEq.own ?_ | refine HoldEq.ownS ?_ ?_ | refine HoldOb.row ?_ | refine HoldOb.map ?_ | refine HoldOb.gmap ?_ | refine HoldOb.grow ?_ | refine HoldObs.row ?_
  all_goals try simp only [take_one, take_one', set_one, take_all, List.length_singleton, rec_self, Int.toNat_natCast, pair_eta, ETy.dflt, List.getD_cons_zero, List.getD_cons_succ, Int.reduceToNat, Int.reduceAdd, Int.reduceSub, Int.reduceNeg, Nat.reduceAdd, Nat.zero_add, loopIF] at *
  all_goals try (refine Hold.intro ?_; omega)
  · exact Hold.intro ⟨Nat.zero_le _, rfl⟩
  · rename_i h1 h2
    exact Hold.intro ⟨by omega, by rw [hx.2, drop_now 0 h1, idxF, if_neg (by rw [h2]; simp)]⟩
  · rename_i h1 h2
    rw [hx.2, drop_now 0 h1, idxF, if_pos (by rw [h2]; rfl)]
  · rw [hx.2, drop_all (by assumption)]; rfl
def idxFC : List AV → Option Res
  | [.s (.sl (.int .i64) l), .s (.clo f [⟨.sl (.int .i64), m⟩])] => match Nat.beq f 23 with
    | true => some (none, none, .s (.int .i64 (idxF (fun v => !hasI v m) l 0)))
    | false => none
  | _ => none
theorem idxFRow : FnRow Try.prog 46 idxFC := ⟨fun args r h => by
  unfold idxFC at h
  split at h
  case h_2 => cases h
  split at h
  case h_2 => cases h
  rename_i he
  cases h
  rw [Nat.eq_of_beq_eq_true he]
  exact fn_by (rulesF (fn := [(23, notinC)]) (fr := []) ⟨notinRow, trivial⟩ trivial) Try.func46 (by kernel_rfl) fun _ _ => idxF_vc _ _, _, Try.func46, by kernel_rfl, by kernel_rfl⟩
/-- slices.DeleteFunc: its body, run in its caller's memory. -/
def delH : List AV → St → (AV → St → Prop) → Prop := inlRun ⟨tyL, [(23, notinC), (46, idxFC)], []⟩ Try.f22
theorem delRow : RunOk Try.prog 22 delH ∧ ∃ fn, Try.prog.funcs[22]? = some fn ∧ (fn.name == "runtime.NumGoroutine") = false ∧ fn.body.isNone = false :=
  ⟨inline_ok (rulesF (fn := [(23, notinC), (46, idxFC)]) (fr := []) ⟨notinRow, idxFRow, trivial⟩ trivial) Try.func22 rfl (by kernel_rfl), _, Try.func22, by kernel_rfl, by kernel_rfl⟩
/-- The walk of DeleteFunc: where it is, how many it has kept, and the row as it stands. -/
def loopDF (p : Int → Bool) (xs : List Int) : Spec (Nat × Nat × List Int) where
  inv x := x.2.1 < x.1 ∧ x.1 ≤ xs.length ∧ x.2.2.length = xs.length ∧ x.2.2.take x.2.1 = (xs.take x.1).filter (fun v => !p v) ∧ x.2.2.drop x.1 = xs.drop x.1
  live x := [(5, .s (.int .i64 x.2.1)), (6, .s (.int .i64 x.1))]
  keep := [0, 1]
  heap x := [(3, .row i64E 3 x.2.2)]
  keepH := [0, 4, 5]
  mu x := xs.length - x.1
theorem linkO_len (o : Option tabE.T) (a : Int) (hg : ∀ x, o = some x → Good x) : (linkO o a).length ≤ 40000 := by
  cases o with
  | none => exact Nat.zero_le _
  | some x =>
    have := (aroundL_le (hg x rfl) a).1
    show (linkR x a).length ≤ 40000
    unfold linkR
    rw [List.length_append, lkO_len _ _ _ (Nat.le_refl _)]
    split
    · simp only [List.length_singleton]; omega
    · simp only [List.length_nil]; omega
theorem idxF_lt (p : Int → Bool) : ∀ (l : List Int) (i : Nat), (idxF p l i = -1 ∧ l.filter (fun v => !p v) = l) ∨ (∃ k : Nat, idxF p l i = ((i + k : Nat) : Int) ∧ k < l.length ∧ (l.take k).filter (fun v => !p v) = l.take k ∧ p (l.getD k 0) = true)
  | [], i => .inl ⟨rfl, rfl⟩
  | a :: r, i => by
    unfold idxF
    cases h : p a with
    | true => exact .inr ⟨0, by simp, by simp, rfl, by simpa using h⟩
    | false =>
      rw [if_neg (by simp)]
      rcases idxF_lt p r (i + 1) with ⟨h1, h2⟩ | ⟨k, h1, h2, h3, h4⟩
      · exact .inl ⟨h1, by rw [List.filter_cons_of_pos (by simp [h]), h2]⟩
      · exact .inr ⟨k + 1, by rw [h1]; congr 1; omega, by simp; omega, by rw [List.take_succ_cons, List.filter_cons_of_pos (by simp [h]), h3], by simpa using h4⟩
theorem com_eq {o : Option tabE.T} {a b : Int} (h : a ≠ b) : comO o a b = sortI ((linkO o a).filter fun v => hasI v (linkO o b)) := by
  cases o with
  | none => show [] = sortI []; exact (List.length_eq_zero_iff.1 (sortI_len [])).symm
  | some x => show comR x a b = _; unfold comR; rw [if_neg h]; rfl
theorem del_keep {p : Int → Bool} {xs : List Int} {x : Nat × Nat × List Int} (h : (loopDF p xs).inv x) (hlt : x.1 < xs.length) (hp : p (x.2.2.getD x.1 0) = false) : (loopDF p xs).inv (x.1 + 1, x.2.1 + 1, x.2.2.set x.2.1 (x.2.2.getD x.1 0)) := by
  obtain ⟨h1, h2, h3, h4, h5⟩ := h
  have e : x.2.2.getD x.1 0 = xs.getD x.1 0 := by
    have := congrArg (fun l => l.getD 0 0) h5
    simpa [List.getD_eq_getElem?_getD] using this
  refine ⟨by show x.2.1 + 1 < x.1 + 1; omega, by show x.1 + 1 ≤ _; omega, by show (x.2.2.set _ _).length = _; rw [List.length_set]; exact h3, ?_, ?_⟩
  · show (x.2.2.set x.2.1 (x.2.2.getD x.1 0)).take (x.2.1 + 1) = (xs.take (x.1 + 1)).filter _
    rw [List.take_succ_eq_append_getElem (by rw [List.length_set]; omega), List.take_set_of_le (Nat.le_refl _), h4, List.getElem_set_self, List.take_succ_eq_append_getElem hlt, List.filter_append]
    rw [e] at hp ⊢
    rw [List.getD_eq_getElem?_getD, List.getElem?_eq_getElem hlt] at hp ⊢
    have hp : p xs[x.1] = false := hp
    rw [List.filter_cons_of_pos (by rw [hp]; rfl)]; rfl
  · show (x.2.2.set x.2.1 _).drop (x.1 + 1) = xs.drop (x.1 + 1)
    rw [List.drop_set_of_lt (by omega), ← List.drop_drop, h5, List.drop_drop]
theorem del_skip {p : Int → Bool} {xs : List Int} {x : Nat × Nat × List Int} (h : (loopDF p xs).inv x) (hlt : x.1 < xs.length) (hp : p (x.2.2.getD x.1 0) = true) : (loopDF p xs).inv (x.1 + 1, x.2.1, x.2.2) := by
  obtain ⟨h1, h2, h3, h4, h5⟩ := h
  have e : x.2.2.getD x.1 0 = xs.getD x.1 0 := by
    have := congrArg (fun l => l.getD 0 0) h5
    simpa [List.getD_eq_getElem?_getD] using this
  refine ⟨by show x.2.1 < x.1 + 1; omega, by show x.1 + 1 ≤ _; omega, h3, ?_, ?_⟩
  · show x.2.2.take x.2.1 = (xs.take (x.1 + 1)).filter _
    rw [h4, List.take_succ_eq_append_getElem hlt, List.filter_append]
    rw [e, List.getD_eq_getElem?_getD, List.getElem?_eq_getElem hlt] at hp
    have hp : p xs[x.1] = true := hp
    rw [List.filter_cons_of_neg (by rw [hp]; simp)]; simp
  · show x.2.2.drop (x.1 + 1) = xs.drop (x.1 + 1)
    rw [← List.drop_drop, h5, List.drop_drop]
theorem keep_eq (xs m : List Int) : xs.filter (fun v => !!hasI v m) = xs.filter fun v => hasI v m := by simp
theorem com_vc (o : Option tabE.T) (a b : Int) (hg : ∀ x, o = some x → Good x) : afun ⟨tyL, [], [(21, .res linkFC), (22, .run delH), (24, .run sortNH)]⟩ Try.f8 [(ETy.pt tabE).av o, i64E.av a, i64E.av b] (fun r => r = .s (.sl i64E (comO o a b))) := by
  have hlt := idxF_lt (fun v => !hasI v (linkO o b)) (linkO o a) 0
  have hlen := linkO_len o a hg
  repeat' (conv => whnf
           first
            | done
            | refine Need.intro (by first | rfl | omega | (simp only [i64ok] at *; omega)) ?_
            | refine Need.intro (Hold.out ?_) ?_
            | refine Give.intro fun _ => ?_
            | refine Both.intro ?_ ?_
            | refine BIf.and ?_
            | refine BIf.or ?_
            | refine BIf.eqi (fun _ => ?_) (fun _ => ?_)
            | refine BIf.nei (fun _ => ?_) (fun _ => ?_)
            | refine BIf.dec (fun _ => ?_) (fun _ => ?_)
            | refine BIf.nt ?_
            | refine BIf.intro (fun _ => ?_) (fun _ => ?_)
            | (refine (fun (X : Array Value) => ?_))
            | ((first | (with_reducible show Or (∃ n, rounds (acode _ (Code.seq (Code.region 5 _ _) _)) _ n _) _) | (with_reducible show Or (∃ n, rounds (acode _ (Code.seq (Code.seq (Code.region 5 _ _) _) _)) _ n _) _) | (with_reducible show Or (∃ n, rounds (acode _ (Code.seq (Code.seq (Code.seq (Code.region 5 _ _) _) _) _)) _ n _) _) | (with_reducible show Or (∃ n, rounds (acode _ (Code.seq (Code.seq (Code.seq (Code.seq (Code.region 5 _ _) _) _) _) _)) _ n _) _) | (with_reducible show Or (∃ n, rounds (acode _ (Code.block _ (Code.seq (Code.region 5 _ _) _))) _ n _) _) | (with_reducible show Or (∃ n, rounds (acode _ (Code.block _ (Code.seq (Code.seq (Code.region 5 _ _) _) _))) _ n _) _) | (with_reducible show Or (∃ n, rounds (acode _ (Code.block _ (Code.seq (Code.seq (Code.seq (Code.region 5 _ _) _) _) _))) _ n _) _) | (with_reducible show Or (∃ n, rounds (acode _ (Code.block _ (Code.seq (Code.seq (Code.seq (Code.seq (Code.region 5 _ _) _) _) _) _))) _ n _) _)); refine Or.inr (Exists.intro (Nat × Nat × List Int) (Exists.intro (loopDF (fun v => !hasI v (linkO o b)) (linkO o a)) (And.intro (Exists.intro (((idxF (fun v => !hasI v (linkO o b)) (linkO o a) 0).toNat + 1, (idxF (fun v => !hasI v (linkO o b)) (linkO o a) 0).toNat, linkO o a)) (And.intro (Hold.out ?_) (And.intro ?_ (And.intro ?_ rfl)))) (fun x hx => ?_)))))
            | ((with_reducible show (∃ y, And (Spec.inv (loopDF _ _) y) _)); refine Exists.intro ((x.1 + 1, if hasI (x.2.2.getD x.1 0) (linkO o b) = true then x.2.1 + 1 else x.2.1, if hasI (x.2.2.getD x.1 0) (linkO o b) = true then x.2.2.set x.2.1 (x.2.2.getD x.1 0) else x.2.2)) (And.intro (Hold.out ?_) (And.intro (And.intro ?_ (And.intro ?_ rfl)) (Hold.out ?_))))
            | refine And.intro rfl ?_
            | refine And.intro (HoldEq.out ?_) ?_
            | refine And.intro (HoldOb.out ?_) ?_
            | exact True.intro
            | refine HoldEq.out ?_
            | refine HoldObs.out ?_
            | refine HoldOr.out ?_)
  all_goals try first | refine HoldEq.int ?_ | refine HoldEq.bool ?_ | refine HoldEq.sl ?_ | refine HoldEq.own ?_ | refine HoldEq.ownS ?_ ?_ | refine HoldOb.row ?_ | refine HoldOb.map ?_ | refine HoldOb.gmap ?_ | refine HoldOb.grow ?_ | refine HoldObs.row ?_
  all_goals try simp only [take_one, take_one', set_one, take_all, List.length_singleton, rec_self, Int.toNat_natCast, pair_eta, ETy.dflt, List.getD_cons_zero, List.getD_cons_succ, Int.reduceToNat, Int.reduceAdd, Int.reduceSub, Int.reduceNeg, Nat.reduceAdd, Nat.zero_add, loopDF] at *
  · rename_i h
    cases o with
    | none => rfl
    | some x => show [] = comR x a b; unfold comR; rw [if_pos h]
  · have hne : a ≠ b := by assumption
    have hi : idxF (fun v => !hasI v (linkO o b)) (linkO o a) 0 = -1 := by assumption
    rcases hlt with ⟨_, hf⟩ | ⟨k, hk, _⟩
    · rw [com_eq hne, ← keep_eq (linkO o a) (linkO o b), hf]
      simp only [List.take_zero, List.nil_append, List.drop_zero, List.drop_length, List.append_nil]
      exact List.take_of_length_le (Nat.le_of_eq (sortI_len _))
    · rw [hk] at hi; omega
  all_goals
    have hne : a ≠ b := by assumption
    have hi : ¬ idxF (fun v => !hasI v (linkO o b)) (linkO o a) 0 = -1 := by assumption
    obtain ⟨k, hk, hk2, hk3, hk4⟩ := hlt.resolve_left (fun e => hi e.1)
  · rw [hk]; refine Hold.intro ?_; unfold i64ok; omega
  · rw [hk]
    refine Hold.intro ⟨by show ((k : Nat) : Int).toNat < ((k : Nat) : Int).toNat + 1; omega, by show ((k : Nat) : Int).toNat + 1 ≤ _; omega, True.intro, ?_, True.intro⟩
    rw [Int.toNat_natCast, List.take_succ_eq_append_getElem hk2, List.filter_append, hk3]
    rw [List.getD_eq_getElem?_getD, List.getElem?_eq_getElem hk2] at hk4
    have hk4 : (!hasI (linkO o a)[k] (linkO o b)) = true := hk4
    rw [List.filter_cons_of_neg (by rw [hk4]; simp)]; simp
  · rw [hk]; rfl
  · rw [hk]; rfl
  · refine Hold.intro ?_; omega
  · refine Hold.intro ?_; unfold i64ok; omega
  · rename_i hq
    rw [if_pos hq, if_pos hq]
    exact Hold.intro (del_keep hx (by omega) (by rw [hq]; rfl))
  · rename_i hq
    rw [if_pos hq]; rfl
  · rename_i hq
    rw [if_pos hq]
  · refine Hold.intro ?_; omega
  · rename_i hq
    rw [if_neg (by rw [hq]; simp), if_neg (by rw [hq]; simp)]
    exact Hold.intro (del_skip hx (by omega) (by rw [hq]; rfl))
  · rename_i hq
    rw [if_neg (by rw [hq]; simp)]
  · rename_i hq
    rw [if_neg (by rw [hq]; simp)]
  · refine Hold.intro ?_; omega
  · refine Hold.intro ?_; omega
  · refine Hold.intro ?_; omega
  · obtain ⟨h1, h2, h3, h4, h5⟩ := hx
    have he : x.1 = (linkO o a).length := by omega
    rw [he, List.take_length] at h4
    rw [com_eq hne, ← keep_eq (linkO o a) (linkO o b), ← h4]
    have hl : (x.2.2.take x.2.1).length = x.2.1 := by rw [List.length_take]; omega
    simp only [List.drop_zero, List.take_zero, List.nil_append]
    have e2 : ∀ z : List Int, List.take x.2.1 (x.2.2.take x.2.1 ++ z) = x.2.2.take x.2.1 := fun z => by rw [List.take_append_of_le_length (Nat.le_of_eq hl.symm), List.take_of_length_le (Nat.le_of_eq hl)]
    rw [e2, List.take_append_of_le_length (by rw [sortI_len]; omega), List.take_of_length_le (by rw [sortI_len]; omega)]
theorem comRow : FnRow Try.prog 8 comC := ⟨con3_ok fun o a b r h => by
  cases h
  exact fn_by (rulesF (fn := []) (fr := [(21, .res linkFC), (22, .run delH), (24, .run sortNH)]) trivial ⟨linkFRow, delRow, sortNRow, trivial⟩) Try.func8 (by kernel_rfl) fun _ h => com_vc o a b h, _, Try.func8, by kernel_rfl, by kernel_rfl⟩
end S1

open Go Go.Vm Go.Proofs
namespace S1
set_option maxRecDepth 100000

/-! sorted lists -/
theorem sortI_ok {l : List Int} (h : l.Pairwise (· ≤ ·)) : sortI l = l := by
  unfold sortI
  exact List.mergeSort_of_pairwise (h.imp fun h => by simpa using h)
theorem sortI_perm (l : List Int) : (sortI l).Perm l := by unfold sortI; exact List.mergeSort_perm _ _
theorem sortI_sorted (l : List Int) : (sortI l).Pairwise (· ≤ ·) := by
  have := List.pairwise_mergeSort (le := fun x y : Int => decide (x ≤ y)) (fun a b c h1 h2 => by simp at *; omega) (fun a b => by simp; omega) l
  unfold sortI
  exact this.imp fun h => by simpa using h
theorem sorted_eq {l m : List Int} (hp : l.Perm m) (h1 : l.Pairwise (· ≤ ·)) (h2 : m.Pairwise (· ≤ ·)) : l = m :=
  hp.eq_of_pairwise (fun a b _ _ h1 h2 => by omega) h1 h2
def srt3 (a b c : Int) : List Int := if a ≤ b then (if b ≤ c then [a, b, c] else if a ≤ c then [a, c, b] else [c, a, b]) else (if a ≤ c then [b, a, c] else if b ≤ c then [b, c, a] else [c, b, a])
theorem sortI_3 (a b c : Int) : sortI [a, b, c] = srt3 a b c := by
  refine sorted_eq ((sortI_perm _).trans ?_) (sortI_sorted _) ?_
  · unfold srt3
    repeat' split
    · exact .refl _
    · exact .cons _ (.swap ..)
    · exact (List.Perm.cons _ (.swap ..)).trans (.swap ..)
    · exact .swap ..
    · exact (List.Perm.swap ..).trans (.cons _ (.swap ..))
    · exact ((List.Perm.swap ..).trans (.cons _ (.swap ..))).trans (.swap ..)
  · unfold srt3
    repeat' split
    all_goals simp; omega
/-- certify.mirrored's key, told without the sort. -/
def kMir' (t : P3) : List P3 := [((srt3 t.1 t.2.1 t.2.2).getD 0 0, (srt3 t.1 t.2.1 t.2.2).getD 1 0, (srt3 t.1 t.2.1 t.2.2).getD 2 0)]
theorem kMir_eq : kMir = kMir' := by
  funext t
  unfold kMir kMir' s3
  rw [sortI_3]
def allR' (s : Int × List P3) : List Wit := firstW [indexR s, dgL s.2 s.2.length, (prS kTwice 3 s.2 s.2.length).2.2, (prS kMir' 4 s.2 s.2.length).2.2, loneR s, pinR s]
theorem allR_eq (s : Int × List P3) : allR s = allR' s := by unfold allR allR'; rw [kMir_eq]
def chkR' (s : Int × List P3) : Wit := (allR' s).headD (0, 0, 0)
theorem chkR_eq (s : Int × List P3) : chkR s = chkR' s := by unfold chkR chkR'; rw [allR_eq]
theorem newO_ok {s : Int × List P3} (h : (chkR' s).1 = 0) : newO s = some (newT s) := by unfold newO; rw [if_pos (by rw [chkR_eq]; exact h)]
theorem newO_good {s : Int × List P3} : ∀ x, newO s = some x → Good x := fun x h => by
  unfold newO at h
  split at h
  · rename_i hc; cases h; exact good_new (cert_of hc)
  · cases h
theorem laidO_good {s : Int × List P3} : ∀ x, laidO s = some x → Good x := fun x h => (laid_good h).1
/-! link.Why, May -/
theorem why0_vc (a b : Int) : afun ⟨tyL, [(16, nearC), (17, facing2C), (18, innerC), (8, comC), (19, containsC), (20, smallC)], []⟩ Try.f6 [(ETy.pt tabE).av none, i64E.av a, i64E.av b] (fun r => r = .s (.int .i64 1)) := by
  repeat' (conv => whnf
           first
            | done
            | refine Need.intro (by first | rfl | omega | (simp only [i64ok] at *; omega)) ?_
            | refine Need.intro (Hold.out ?_) ?_
            | refine Give.intro fun _ => ?_
            | refine Both.intro ?_ ?_
            | refine BIf.and ?_
            | refine BIf.or ?_
            | refine BIf.eqi (fun _ => ?_) (fun _ => ?_)
            | refine BIf.nei (fun _ => ?_) (fun _ => ?_)
            | refine BIf.dec (fun _ => ?_) (fun _ => ?_)
            | refine BIf.nt ?_
            | refine BIf.intro (fun _ => ?_) (fun _ => ?_)
            | refine And.intro rfl ?_
            | refine And.intro (HoldEq.out ?_) ?_
            | refine And.intro (HoldOb.out ?_) ?_
            | exact True.intro
            | refine HoldEq.out ?_
            | refine HoldObs.out ?_
            | refine HoldOr.out ?_)
  all_goals try first | refine HoldEq.int ?_ | refine HoldEq.bool ?_ | refine HoldEq.sl ?_ | refine HoldEq.own ?_ | refine HoldEq.ownS ?_ ?_ | refine HoldOb.row ?_ | refine HoldOb.map ?_ | refine HoldOb.gmap ?_ | refine HoldOb.grow ?_ | refine HoldObs.row ?_
  all_goals try simp only [take_one, take_one', set_one, take_all, List.length_singleton, rec_self, Int.toNat_natCast, pair_eta, ETy.dflt, List.getD_cons_zero, List.getD_cons_succ, Int.reduceToNat, Int.reduceAdd, Int.reduceSub, Int.reduceNeg, Nat.reduceAdd, Nat.zero_add] at *
def whyO (o : Option tabE.T) (a b : Int) : Int := onO o 1 fun x => whyR x a b
def whyC : List AV → Option Res := con3 (.pt tabE) i64E i64E (fun o a b => some (none, some (∀ x, o = some x → Good x), .s (.int .i64 (whyO o a b))))
theorem whyRow : FnRow Try.prog 6 whyC := ⟨con3_ok fun o a b r h => by
  cases h
  cases o with
  | none => exact fn_by (rulesF (fn := [(16, nearC), (17, facing2C), (18, innerC), (8, comC), (19, containsC), (20, smallC)]) (fr := []) ⟨nearRow, facing2Row, innerRow, comRow, containsRow, smallRow, trivial⟩ trivial) Try.func6 (by kernel_rfl) fun _ _ => why0_vc a b
  | some x => exact fn_by (rulesF (fn := [(16, nearC), (17, facing2C), (18, innerC), (8, comC), (19, containsC), (20, smallC)]) (fr := []) ⟨nearRow, facing2Row, innerRow, comRow, containsRow, smallRow, trivial⟩ trivial) Try.func6 (by kernel_rfl) fun _ h => why_vc x a b (h x rfl), _, Try.func6, by kernel_rfl, by kernel_rfl⟩
theorem may_vc (o : Option tabE.T) (a b : Int) (hg : ∀ x, o = some x → Good x) : afun ⟨tyL, [(6, whyC)], []⟩ Try.f7 [(ETy.pt tabE).av o, i64E.av a, i64E.av b] (fun r => r = .s (.bool (whyO o a b == 0))) := by
  repeat' (conv => whnf
           first
            | done
            | refine Need.intro (by first | rfl | omega | (simp only [i64ok] at *; omega)) ?_
            | refine Need.intro (Hold.out ?_) ?_
            | refine Give.intro fun _ => ?_
            | refine Both.intro ?_ ?_
            | refine BIf.and ?_
            | refine BIf.or ?_
            | refine BIf.eqi (fun _ => ?_) (fun _ => ?_)
            | refine BIf.nei (fun _ => ?_) (fun _ => ?_)
            | refine BIf.dec (fun _ => ?_) (fun _ => ?_)
            | refine BIf.nt ?_
            | refine BIf.intro (fun _ => ?_) (fun _ => ?_)
            | refine And.intro rfl ?_
            | refine And.intro (HoldEq.out ?_) ?_
            | refine And.intro (HoldOb.out ?_) ?_
            | exact True.intro
            | refine HoldEq.out ?_
            | refine HoldObs.out ?_
            | refine HoldOr.out ?_)
  all_goals try first | refine HoldEq.int ?_ | refine HoldEq.bool ?_ | refine HoldEq.sl ?_ | refine HoldEq.own ?_ | refine HoldEq.ownS ?_ ?_ | refine HoldOb.row ?_ | refine HoldOb.map ?_ | refine HoldOb.gmap ?_ | refine HoldOb.grow ?_ | refine HoldObs.row ?_
  all_goals try simp only [take_one, take_one', set_one, take_all, List.length_singleton, rec_self, Int.toNat_natCast, pair_eta, ETy.dflt, List.getD_cons_zero, List.getD_cons_succ, Int.reduceToNat, Int.reduceAdd, Int.reduceSub, Int.reduceNeg, Nat.reduceAdd, Nat.zero_add] at *
  all_goals first | exact Hold.intro hg | skip
def mayC : List AV → Option Res := con3 (.pt tabE) i64E i64E (fun o a b => some (none, some (∀ x, o = some x → Good x), .s (.bool (whyO o a b == 0))))
theorem mayRow : FnRow Try.prog 7 mayC := ⟨con3_ok fun o a b r h => by cases h; exact fn_by (rulesF (fn := [(6, whyC)]) (fr := []) ⟨whyRow, trivial⟩ trivial) Try.func7 (by kernel_rfl) fun _ h => may_vc o a b h, _, Try.func7, by kernel_rfl, by kernel_rfl⟩
/-! the sample -/
def aw1 : Int × List P3 := (4, [(0, 1, 2), (0, 2, 3), (0, 3, 1), (1, 3, 2)])
def aw2 : Int × List P3 := (4, [(0, 1, 2), (2, 1, 3)])
def whyW (x : tabE.T) (a b : Int) (l : List Int) : Int :=
  if !nearR x a b then 1 else if (facR x a b).length = 2 ∧ innerR x a = false ∧ innerR x b = false then 2
  else if whyL (facR x a b) l = false then 3 else if smallR x a then 4 else 0
theorem whyW_is (x : tabE.T) (a b : Int) : whyR x a b = whyW x a b (comR x a b) := rfl
theorem com_is {x : tabE.T} {a b : Int} {l0 l : List Int} (hne : a ≠ b) (hl : ((linkR x a).filter fun v => hasI v (linkR x b)) = l0) (hp : l0.Perm l) (hs : l.Pairwise (· ≤ ·)) : comR x a b = l := by
  unfold comR
  rw [if_neg hne, hl]
  exact sorted_eq ((sortI_perm _).trans hp) (sortI_sorted _) hs
theorem aw1_ok : (chkR' aw1).1 = 0 := by decide +kernel
theorem aw2_ok : (chkR' aw2).1 = 0 := by decide +kernel
theorem aw1_01 : whyO (newO aw1) 0 1 = 4 := by
  rw [newO_ok aw1_ok]
  show whyR (newT aw1) 0 1 = 4
  rw [whyW_is, com_is (l0 := [2, 3]) (l := [2, 3]) (by decide) (by decide +kernel) (.refl _) (by decide)]
  decide +kernel
theorem aw2_12 : whyO (newO aw2) 1 2 = 2 := by
  rw [newO_ok aw2_ok]
  show whyR (newT aw2) 1 2 = 2
  rw [whyW_is, com_is (l0 := [3, 0]) (l := [0, 3]) (by decide) (by decide +kernel) (.swap ..) (by decide)]
  decide +kernel
theorem aw2_01 : whyO (newO aw2) 0 1 = 0 := by
  rw [newO_ok aw2_ok]
  show whyR (newT aw2) 0 1 = 0
  rw [whyW_is, com_is (l0 := [2]) (l := [2]) (by decide) (by decide +kernel) (.refl _) (by decide)]
  decide +kernel
theorem aw2_c : comO (newO aw2) 0 3 = [1, 2] := by
  rw [newO_ok aw2_ok]
  show comR (newT aw2) 0 3 = [1, 2]
  rw [com_is (l0 := [1, 2]) (l := [1, 2]) (by decide) (by decide +kernel) (.refl _) (by decide)]
theorem aw2_03 : whyO (newO aw2) 0 3 = 1 := by
  rw [newO_ok aw2_ok]
  show whyR (newT aw2) 0 3 = 1
  have : comR (newT aw2) 0 3 = [1, 2] := by
    rw [com_is (l0 := [1, 2]) (l := [1, 2]) (by decide) (by decide +kernel) (.refl _) (by decide)]
  rw [whyW_is, this]
  decide +kernel
attribute [local irreducible] newO whyO comO
set_option maxHeartbeats 1000000 in
theorem awake_vc : afun ⟨tyL, [(15, newC), (6, whyC), (7, mayC), (8, comC)], []⟩ Try.f5 [] (fun r => r = .s (.bool true)) := by
  have a1 := aw1_01
  have a2 := aw2_12
  have a3 := aw2_01
  have a4 := aw2_c
  have a5 := aw2_03
  repeat' (conv => whnf
           first
            | done
            | refine Need.intro (by first | rfl | omega | (simp only [i64ok] at *; omega)) ?_
            | refine Need.intro (Hold.out ?_) ?_
            | refine Give.intro fun _ => ?_
            | refine Both.intro ?_ ?_
            | refine BIf.and ?_
            | refine BIf.or ?_
            | refine BIf.eqi (fun _ => ?_) (fun _ => ?_)
            | refine BIf.nei (fun _ => ?_) (fun _ => ?_)
            | refine BIf.dec (fun _ => ?_) (fun _ => ?_)
            | refine BIf.nt ?_
            | refine BIf.intro (fun _ => ?_) (fun _ => ?_)
            | refine And.intro rfl ?_
            | refine And.intro (HoldEq.out ?_) ?_
            | refine And.intro (HoldOb.out ?_) ?_
            | exact True.intro
            | refine HoldEq.out ?_
            | refine HoldObs.out ?_
            | refine HoldOr.out ?_)
  all_goals try first | refine HoldEq.int ?_ | refine HoldEq.bool ?_ | refine HoldEq.sl ?_ | refine HoldEq.own ?_ | refine HoldEq.ownS ?_ ?_ | refine HoldOb.row ?_ | refine HoldOb.map ?_ | refine HoldOb.gmap ?_ | refine HoldOb.grow ?_ | refine HoldObs.row ?_
  all_goals try simp only [take_one, take_one', set_one, take_all, List.length_singleton, rec_self, Int.toNat_natCast, pair_eta, ETy.dflt, List.getD_cons_zero, List.getD_cons_succ, Int.reduceToNat, Int.reduceAdd, Int.reduceSub, Int.reduceNeg, Nat.reduceAdd, Nat.zero_add] at *
  all_goals try have a1' : ¬ whyO (newO aw1) 0 1 = 0 := by rw [a1]; decide
  all_goals try have a4' : ((comO (newO aw2) 0 3).length : Int) = 2 := by rw [a4]; rfl
  all_goals try have a6 : (comO (newO aw2) 0 3).getD 0 0 = 1 := by rw [a4]; rfl
  all_goals try have a7 : (comO (newO aw2) 0 3).getD 1 0 = 2 := by rw [a4]; rfl
  all_goals first
    | exact Hold.intro newO_good
    | exact absurd a1 (by assumption)
    | exact absurd a2 (by assumption)
    | exact absurd a3 (by assumption)
    | exact absurd a4' (by assumption)
    | exact absurd a5 (by assumption)
    | exact absurd a6 (by assumption)
    | exact absurd a7 (by assumption)
    | exact absurd (by assumption) a1'
    | skip
  · show (decide ((comO (newO aw2) 0 3).getD 1 0 = 2)) = true
    exact decide_eq_true a7
end S1

open Go Go.Vm Go.Proofs
namespace S1
set_option maxRecDepth 100000

/-! gypsumlaw34.LinkNone -/
def awake34C : List AV → Option Res
  | [] => some (none, none, .s (.bool true))
  | _ => none
theorem awake34Row : FnRow Try.prog 5 awake34C := ⟨fun args r h => by
  cases args with
  | nil => cases h; exact fn_by (rulesF (fn := [(15, newC), (6, whyC), (7, mayC), (8, comC)]) (fr := []) ⟨newRow, whyRow, mayRow, comRow, trivial⟩ trivial) Try.func5 (by kernel_rfl) fun _ _ => awake_vc
  | cons a l => (cases h), _, Try.func5, by kernel_rfl, by kernel_rfl⟩
theorem near_self {x : tabE.T} (g : Good x) (a : Int) : nearR x a a = false := by
  have key : ¬ 0 ≤ tFacing x (a, a) := fun h => by
    unfold tFacing at h
    cases e : mget .arr2 x.2.1 (a, a) with
    | none => rw [e] at h; exact absurd h (by decide)
    | some c =>
      obtain ⟨h1, h2⟩ := g.map _ _ e
      exact g.ends c h1 (by rw [h2])
  unfold nearR
  rw [decide_eq_false key]; rfl
/-- What has an edge is a vertex. -/
theorem near_in {x : tabE.T} (g : Good x) {a b : Int} (h : nearR x a b = true) : (0 ≤ a ∧ a < x.1.1) ∧ (0 ≤ b ∧ b < x.1.1) := by
  have key : ∀ {a b : Int}, 0 ≤ tFacing x (a, b) → (0 ≤ a ∧ a < x.1.1) ∧ (0 ≤ b ∧ b < x.1.1) := fun {a b} h => by
    unfold tFacing at h
    cases e : mget .arr2 x.2.1 (a, b) with
    | none => rw [e] at h; exact absurd h (by decide)
    | some c =>
      obtain ⟨h1, h2⟩ := g.map _ _ e
      have e1 : tVert x (tNext x c) = a := congrArg Prod.fst h2
      have e2 : tVert x (tPrev x c) = b := congrArg Prod.snd h2
      have k1 := tVert_in g.fit (hasNP h1).1
      have k2 := tVert_in g.fit (hasNP h1).2
      rw [e1] at k1; rw [e2] at k2
      exact ⟨k1, k2⟩
  unfold nearR at h
  rw [Bool.or_eq_true, decide_eq_true_eq, decide_eq_true_eq] at h
  rcases h with h | h
  · exact key h
  · exact (key h).symm
theorem why_far {x : tabE.T} {a b : Int} (h : nearR x a b = false) : whyR x a b = 1 := by unfold whyR; rw [h]; rfl
theorem link_far {x : tabE.T} {v : Int} (h : ¬ (0 ≤ v ∧ v < x.1.1)) : linkR x v = [] := by
  have e : aroundL (some x) v = [] := aroundL_no fun k => h ⟨k.1, k.2.1⟩
  unfold linkR
  rw [e]
  simp [lkO, lkLast]
theorem com_far {x : tabE.T} {a b : Int} (h : ¬ (0 ≤ b ∧ b < x.1.1)) : comR x a b = [] := by
  unfold comR
  split
  · rfl
  · rw [link_far h]
    have : (linkR x a).filter (fun v => hasI v []) = [] := List.filter_eq_nil_iff.2 fun v _ => by simp [hasI, fstI]
    rw [this]
    exact List.length_eq_zero_iff.1 (sortI_len [])
attribute [local irreducible] laidO whyR comR
theorem lawLN_vc (n : Int) (l : List P3) (a b : Int) (hb : 0 ≤ b ∧ b ≤ 255) : afun ⟨tyL, [(5, awake34C), (6, whyC), (7, mayC), (8, comC), (9, laidC)], []⟩ Try.f3 [soupE.av (n, l), i64E.av a, (ETy.int .u8).av b] (fun r => r = .s (.bool true)) := by
  have hl : ∀ x, laidO (n, l) = some x → Good x ∧ x.1 = (n, l) := fun x h => laid_good h
  have c1 : ∀ x, laidO (n, l) = some x → n ≤ 60 ∧ 0 ≤ n := fun x h => by
    have hg := (hl x h).1.fit
    rw [(hl x h).2] at hg
    unfold laidO at h
    split at h
    · cases h
    · rename_i hn
      unfold greatR at hn
      have : 0 ≤ n := hg.1
      split at hn
      · exact absurd rfl hn
      · split at hn
        · exact absurd rfl hn
        · rename_i h60
          have h60 : ¬ n > 60 := h60
          omega
  have c2 : ∀ x, laidO (n, l) = some x → whyO (laidO (n, l)) a a = 1 ∧ whyO (laidO (n, l)) (-1 - b) 0 = 1 ∧ whyO (laidO (n, l)) 0 (n + b) = 1 ∧ comO (laidO (n, l)) a a = [] ∧ comO (laidO (n, l)) 0 (n + b) = [] := fun x h => by
    rw [h]
    obtain ⟨g, e⟩ := hl x h
    have e1 : x.1.1 = n := congrArg Prod.fst e
    refine ⟨why_far (near_self g a), why_far ?_, why_far ?_, ?_, com_far (by rw [e1]; omega)⟩
    · cases hn : nearR x (-1 - b) 0 with
      | false => rfl
      | true => have := (near_in g hn).1.1; omega
    · cases hn : nearR x 0 (n + b) with
      | false => rfl
      | true => have := (near_in g hn).2.2; rw [e1] at this; omega
    · show comR x a a = []
      unfold comR; rw [if_pos rfl]
  repeat' (conv => whnf
           first
            | done
            | refine Need.intro (by first | rfl | omega | (simp only [i64ok] at *; omega)) ?_
            | refine Need.intro (Hold.out ?_) ?_
            | refine Give.intro fun _ => ?_
            | refine Both.intro ?_ ?_
            | refine BIf.and ?_
            | refine BIf.or ?_
            | refine BIf.eqi (fun _ => ?_) (fun _ => ?_)
            | refine BIf.nei (fun _ => ?_) (fun _ => ?_)
            | refine BIf.dec (fun _ => ?_) (fun _ => ?_)
            | refine BIf.nt ?_
            | refine BIf.intro (fun _ => ?_) (fun _ => ?_)
            | refine And.intro rfl ?_
            | refine And.intro (HoldEq.out ?_) ?_
            | refine And.intro (HoldOb.out ?_) ?_
            | exact True.intro
            | refine HoldEq.out ?_
            | refine HoldObs.out ?_
            | refine HoldOr.out ?_)
  all_goals try first | refine HoldEq.int ?_ | refine HoldEq.bool ?_ | refine HoldEq.sl ?_ | refine HoldEq.own ?_ | refine HoldEq.ownS ?_ ?_ | refine HoldOb.row ?_ | refine HoldOb.map ?_ | refine HoldOb.gmap ?_ | refine HoldOb.grow ?_ | refine HoldObs.row ?_
  all_goals try simp only [take_one, take_one', set_one, take_all, List.length_singleton, rec_self, Int.toNat_natCast, pair_eta, ETy.dflt, List.getD_cons_zero, List.getD_cons_succ, Int.reduceToNat, Int.reduceAdd, Int.reduceSub, Int.reduceNeg, Nat.reduceAdd, Nat.zero_add] at *
  all_goals try (first | exact Hold.intro (fun x h => (by cases h)) | exact Hold.intro (fun x h => (hl x h).1))
  all_goals
    have hs : (laidO (n, l)).isNone = false := by assumption
    obtain ⟨x, hx⟩ : ∃ x, laidO (n, l) = some x := by
      cases e : laidO (n, l) with
      | none => rw [e] at hs; cases hs
      | some x => exact ⟨x, rfl⟩
    have k1 := c1 x hx
    have k2 := c2 x hx
  · refine Hold.intro ?_; unfold i64ok; omega
  · rw [k2.2.2.2.2]; rfl
  · exact absurd (by rw [k2.2.2.2.1]; rfl) ‹¬ ((comO (laidO (n, l)) a a).length : Int) = 0›
  · exact absurd k2.2.2.1 (by assumption)
  · exact absurd k2.2.1 (by assumption)
  · exact absurd k2.1 (by assumption)
def lawLNC : List AV → Option Res := con3 soupE i64E (.int .u8) (fun _ _ _ => some (none, none, .s (.bool true)))
theorem lawLNRow : FnRow Try.prog 3 lawLNC := ⟨con3_ok fun s a b r h => by
  cases h
  exact fn_by (rulesF (fn := [(5, awake34C), (6, whyC), (7, mayC), (8, comC), (9, laidC)]) (fr := []) ⟨awake34Row, whyRow, mayRow, comRow, laidRow, trivial⟩ trivial) Try.func3 (by kernel_rfl) fun hg _ => lawLN_vc s.1 s.2 a b (InK.u8 hg.2.2.1), _, Try.func3, by kernel_rfl, by kernel_rfl⟩
end S1
