/- A part of the proofs of the laws of this seat: contracts of functions, each for every input that its text names. -/
import Derived.Test.YtbbpofkacdmjnaaF8toF11a
import Derived.Test.YtbbpofkacdmjnaaT5toT11
set_option linter.unusedSimpArgs false
set_option linter.unusedVariables false
set_option maxHeartbeats 2000000
open Go Go.Vm Go.Proofs
namespace S1
set_option maxRecDepth 100000

/-! a table that is made -/
def newXC (x : tabE.T) : List AV → Option Res := con1 soupE (fun s => some (none, some (newO s = some x), .tup [(ETy.pt tabE).av (some x), witE.av (0, 0, 0)]))
theorem newXRow (x : tabE.T) : FnRow Try.prog 28 (newXC x) := ⟨con1_ok fun s r h => by
  cases h
  intro σ vals w hag hv
  refine ⟨trivial, fun hq => ?_⟩
  have hq : newO s = some x := hq
  have := (newRow.1 _ _ (rfl : newC [soupE.av s] = _) σ vals w hag hv).2 trivial
  have hc : (chkR s).1 = 0 := by
    unfold newO at hq
    split at hq
    · assumption
    · cases hq
  rw [hq, chk_eq hc] at this
  exact this, _, Try.func28, by kernel_rfl, by kernel_rfl⟩
def newNC : List AV → Option Res := con1 soupE (fun s => some (none, some (newO s = none), .tup [nilO none, witE.av (chkR s)]))
theorem newNRow : FnRow Try.prog 28 newNC := ⟨con1_ok fun s r h => by
  cases h
  intro σ vals w hag hv
  refine ⟨trivial, fun hq => ?_⟩
  have hq : newO s = none := hq
  have := (newRow.1 _ _ (rfl : newC [soupE.av s] = _) σ vals w hag hv).2 trivial
  rw [hq] at this
  refine this.mono fun e w' ⟨v, σ', e1, e2, e3, e4, e5, e6⟩ => ⟨v, σ', e1, e2, e3, e4, ?_, e6⟩
  obtain ⟨vs, e, r⟩ := e5
  match vs, r with
  | [a, b], r => exact ⟨_, e, nil_av r.1, r.2.1, trivial⟩, _, Try.func28, by kernel_rfl, by kernel_rfl⟩
/-! star.Open -/
def loopSO1 (ap : List Int) : Spec Nat where
  inv k := k ≤ ap.length
  live k := [(37, .s (.int .i64 k))]
  keep := [1, 2, 4, 5, 6, 7, 10, 35, 36]
  heap k := [(4, .map i64E .bool (insM (ap.take k)))]
  keepH := [0, 1, 2, 5]
  mu k := ap.length - k
def loopSO2 (n : Int) (ap : List Int) : Spec Nat where
  inv k := (k : Int) ≤ n
  live k := [(49, .s (.int .i64 k)), (13, .s (.own 5 0 (oldL ap k).length))]
  keep := [1, 2, 4, 5, 6, 7, 10, 14, 48]
  heap k := [(5, .row i64E 3 (oldL ap k)), (6, .row i64E 3 (namL n.toNat ap k))]
  keepH := [0, 1, 2, 4]
  mu k := n.toNat - k
def loopSO3 (n : Int) (ap : List Int) (l : List P3) : Spec Nat where
  inv j := j ≤ l.length
  live j := [(72, .s (.int .i64 j))]
  keep := [1, 2, 4, 5, 6, 7, 10, 13, 14, 16, 70, 71]
  heap j := [(7, .flat 24 [.int .i64 (oldL ap n.toNat).length, .own 8 0 (opT n.toNat ap l j).length]), (8, .row .arr3 72 (opT n.toNat ap l j))]
  keepH := [0, 1, 2, 4, 5, 6]
  mu j := l.length - j
  nils := [7]
theorem nam_t {n : Nat} {ap : List Int} {k : Nat} (h : had (insM ap) k = true) : namL n ap (k + 1) = namL n ap k := by
  show namS ap (namL n ap k) k = _
  unfold namS; rw [if_pos h]
theorem nam_f {n : Nat} {ap : List Int} {k : Nat} (h : had (insM ap) k = false) : namL n ap (k + 1) = (namL n ap k).set k ((oldL ap k).length : Int) := by
  show namS ap (namL n ap k) k = _
  unfold namS; rw [if_neg (by rw [h]; simp)]
theorem old_t {ap : List Int} {k : Nat} (h : had (insM ap) k = true) : oldL ap (k + 1) = oldL ap k := by
  rw [oldL_succ]; unfold oldG; rw [if_pos h]; simp
theorem old_f {ap : List Int} {k : Nat} (h : had (insM ap) k = false) : oldL ap (k + 1) = oldL ap k ++ [(k : Int)] := by
  rw [oldL_succ]; unfold oldG; rw [if_neg (by rw [h]; simp)]; rfl
theorem op_t {n : Nat} {ap : List Int} {l : List P3} {j : Nat} (h : had (insM ap) (tg l j).1 = true ∨ had (insM ap) (tg l j).2.1 = true ∨ had (insM ap) (tg l j).2.2 = true) : opT n ap l (j + 1) = opT n ap l j := by
  unfold opT; rw [fm_succ]; conv => lhs; rhs; rw [opG, if_pos h]
  simp
theorem op_f {n : Nat} {ap : List Int} {l : List P3} {j : Nat} (h1 : had (insM ap) (tg l j).1 = false) (h2 : had (insM ap) (tg l j).2.1 = false) (h3 : had (insM ap) (tg l j).2.2 = false) :
    opT n ap l (j + 1) = opT n ap l j ++ [((namL n ap n).getD (tg l j).1.toNat 0, (namL n ap n).getD (tg l j).2.1.toNat 0, (namL n ap n).getD (tg l j).2.2.toNat 0)] := by
  unfold opT; rw [fm_succ]; conv => lhs; rhs; rw [opG, if_neg (by rw [h1, h2, h3]; simp)]
  rfl
theorem openW_bad {x : tabE.T} {ap : List Int} (h : checkR x ap ≠ 0) : openW (openR x ap) = .tup [.agg [.int .i64 0, .val (.slice none 0 0)], .s (.sl i64E []), .s (.int .i64 (checkR x ap))] := by
  unfold openR openW; rw [if_pos h, if_neg h]
theorem openW_no {x : tabE.T} {ap : List Int} (h : checkR x ap = 0) (h2 : ¬ (chkR (openS x.1 ap)).1 = 0) : openW (openR x ap) = .tup [.agg [.int .i64 0, .val (.slice none 0 0)], .s (.sl i64E []), .s (.int .i64 11)] := by
  have e : openR x ap = ((0, []), [], 11) := by unfold openR; rw [if_neg (fun k => k h), if_neg h2]
  rw [e]; unfold openW; rw [if_neg (by show ¬ (11 : Int) = 0; omega)]
theorem openW_ok {x : tabE.T} {ap : List Int} (h : checkR x ap = 0) (h2 : (chkR (openS x.1 ap)).1 = 0) : openW (openR x ap) = .tup [soupE.av (openS x.1 ap), .s (.sl i64E (oldL ap x.1.1.toNat)), .s (.int .i64 0)] := by
  have e : openR x ap = (openS x.1 ap, oldL ap x.1.1.toNat, 0) := by unfold openR; rw [if_neg (fun k => k h), if_pos h2]
  rw [e]; unfold openW; rw [if_pos rfl]; rfl
attribute [local irreducible] insM checkR
set_option maxHeartbeats 4000000 in
theorem open_vc (n : Int) (l : List P3) (ap : List Int) (x : tabE.T) (hx : newO (n, l) = some x) : afun ⟨tyL, [(28, newXC x), (71, starCkC), (72, isC)], []⟩ Try.f37 [soupE.av (n, l), (ETy.sl i64E).av ap] (fun r => r = openW (openR x ap)) := by
  obtain ⟨hx1, g, hs⟩ := new_full hx
  have e1 : x.1 = (n, l) := by rw [hx1]; rfl
  have hn : 0 ≤ n ∧ n ≤ 4096 ∧ l.length ≤ 8192 := ⟨hs.fit.1, hs.fit.2.1, hs.fit.2.2.1⟩
  have hin : ∀ i, i < l.length → triIn n (l.getD i (0, 0, 0)) = true := hs.fit.2.2.2
  repeat' (conv => whnf
           first | done | refine Need.intro (by first | rfl | omega | (simp only [i64ok] at *; omega)) ?_ | refine Need.intro (Hold.out ?_) ?_ | refine Give.intro fun _ => ?_ | refine Both.intro ?_ ?_ | refine BIf.and ?_ | refine BIf.or ?_ | refine BIf.eqi (fun _ => ?_) (fun _ => ?_) | refine BIf.nei (fun _ => ?_) (fun _ => ?_) | refine BIf.dec (fun _ => ?_) (fun _ => ?_) | refine BIf.nt ?_ | refine BIf.intro (fun _ => ?_) (fun _ => ?_) | ((first | (with_reducible show Or (∃ n, rounds (acode _ (Code.seq (Code.region 9 _ _) _)) _ n _) _) | (with_reducible show Or (∃ n, rounds (acode _ (Code.seq (Code.seq (Code.region 9 _ _) _) _)) _ n _) _) | (with_reducible show Or (∃ n, rounds (acode _ (Code.seq (Code.seq (Code.seq (Code.region 9 _ _) _) _) _)) _ n _) _) | (with_reducible show Or (∃ n, rounds (acode _ (Code.seq (Code.seq (Code.seq (Code.seq (Code.region 9 _ _) _) _) _) _)) _ n _) _) | (with_reducible show Or (∃ n, rounds (acode _ (Code.block _ (Code.seq (Code.region 9 _ _) _))) _ n _) _) | (with_reducible show Or (∃ n, rounds (acode _ (Code.block _ (Code.seq (Code.seq (Code.region 9 _ _) _) _))) _ n _) _) | (with_reducible show Or (∃ n, rounds (acode _ (Code.block _ (Code.seq (Code.seq (Code.seq (Code.region 9 _ _) _) _) _))) _ n _) _) | (with_reducible show Or (∃ n, rounds (acode _ (Code.block _ (Code.seq (Code.seq (Code.seq (Code.seq (Code.region 9 _ _) _) _) _) _))) _ n _) _)); refine Or.inr (Exists.intro (Nat) (Exists.intro (loopSO1 ap) (And.intro (Exists.intro (0) (And.intro (Hold.out ?_) (And.intro ?_ (And.intro ?_ rfl)))) (fun k hk => ?_))))) | ((with_reducible show (∃ y, And (Spec.inv (loopSO1 _) y) _)); refine Exists.intro (k + 1) (And.intro (Hold.out ?_) (And.intro (And.intro ?_ (And.intro ?_ rfl)) (Hold.out ?_)))) | ((first | (with_reducible show Or (∃ n, rounds (acode _ (Code.seq (Code.region 16 _ _) _)) _ n _) _) | (with_reducible show Or (∃ n, rounds (acode _ (Code.seq (Code.seq (Code.region 16 _ _) _) _)) _ n _) _) | (with_reducible show Or (∃ n, rounds (acode _ (Code.seq (Code.seq (Code.seq (Code.region 16 _ _) _) _) _)) _ n _) _) | (with_reducible show Or (∃ n, rounds (acode _ (Code.seq (Code.seq (Code.seq (Code.seq (Code.region 16 _ _) _) _) _) _)) _ n _) _) | (with_reducible show Or (∃ n, rounds (acode _ (Code.block _ (Code.seq (Code.region 16 _ _) _))) _ n _) _) | (with_reducible show Or (∃ n, rounds (acode _ (Code.block _ (Code.seq (Code.seq (Code.region 16 _ _) _) _))) _ n _) _) | (with_reducible show Or (∃ n, rounds (acode _ (Code.block _ (Code.seq (Code.seq (Code.seq (Code.region 16 _ _) _) _) _))) _ n _) _) | (with_reducible show Or (∃ n, rounds (acode _ (Code.block _ (Code.seq (Code.seq (Code.seq (Code.seq (Code.region 16 _ _) _) _) _) _))) _ n _) _)); refine Or.inr (Exists.intro (Nat) (Exists.intro (loopSO2 n ap) (And.intro (Exists.intro (0) (And.intro (Hold.out ?_) (And.intro ?_ (And.intro ?_ rfl)))) (fun v hv => ?_))))) | ((with_reducible show (∃ y, And (Spec.inv (loopSO2 _ _) y) _)); refine Exists.intro (v + 1) (And.intro (Hold.out ?_) (And.intro (And.intro ?_ (And.intro ?_ rfl)) (Hold.out ?_)))) | ((first | (with_reducible show Or (∃ n, rounds (acode _ (Code.seq (Code.region 24 _ _) _)) _ n _) _) | (with_reducible show Or (∃ n, rounds (acode _ (Code.seq (Code.seq (Code.region 24 _ _) _) _)) _ n _) _) | (with_reducible show Or (∃ n, rounds (acode _ (Code.seq (Code.seq (Code.seq (Code.region 24 _ _) _) _) _)) _ n _) _) | (with_reducible show Or (∃ n, rounds (acode _ (Code.seq (Code.seq (Code.seq (Code.seq (Code.region 24 _ _) _) _) _) _)) _ n _) _) | (with_reducible show Or (∃ n, rounds (acode _ (Code.block _ (Code.seq (Code.region 24 _ _) _))) _ n _) _) | (with_reducible show Or (∃ n, rounds (acode _ (Code.block _ (Code.seq (Code.seq (Code.region 24 _ _) _) _))) _ n _) _) | (with_reducible show Or (∃ n, rounds (acode _ (Code.block _ (Code.seq (Code.seq (Code.seq (Code.region 24 _ _) _) _) _))) _ n _) _) | (with_reducible show Or (∃ n, rounds (acode _ (Code.block _ (Code.seq (Code.seq (Code.seq (Code.seq (Code.region 24 _ _) _) _) _) _))) _ n _) _)); refine Or.inr (Exists.intro (Nat) (Exists.intro (loopSO3 n ap l) (And.intro (Exists.intro (0) (And.intro (Hold.out ?_) (And.intro ?_ (And.intro ?_ rfl)))) (fun j hj => ?_))))) | ((with_reducible show (∃ y, And (Spec.inv (loopSO3 _ _ _) y) _)); refine Exists.intro (j + 1) (And.intro (Hold.out ?_) (And.intro (And.intro ?_ (And.intro ?_ rfl)) (Hold.out ?_)))) | refine And.intro rfl ?_ | refine And.intro (HoldEq.out ?_) ?_ | refine And.intro (HoldOb.out ?_) ?_ | exact True.intro | refine HoldEq.out ?_ | refine HoldObs.out ?_ | refine KCheck.intro (by kernel_rfl) ?_ | refine HoldOr.out ?_)
  all_goals try first | refine HoldEq.int ?_ | refine HoldEq.bool ?_ | refine HoldEq.sl ?_ | refine HoldEq.own ?_ | refine HoldEq.ownS ?_ ?_ | refine HoldOb.row ?_ | refine HoldOb.map ?_ | refine HoldOb.gmap ?_ | refine HoldOb.grow ?_ | refine HoldObs.row ?_
  all_goals try simp only [take_one, take_one', set_one, take_all, List.length_singleton, rec_self, Int.toNat_natCast, pair_eta, ETy.dflt, List.getD_cons_zero, List.getD_cons_succ, Int.reduceToNat, Int.reduceAdd, Int.reduceSub, Int.reduceNeg, Nat.reduceAdd, Nat.zero_add, loopSO1, loopSO2, loopSO3, had_def, had_def2] at *
  all_goals try (refine Hold.intro ?_; first | omega | (unfold i64ok; omega))
  · exact Hold.intro g.toGood
  · rw [openW_bad (by assumption)]; exact HoldEq.intro rfl
  · unfold insM; rfl
  · exact insM_succ (by omega)
  all_goals have ek : ap.take k = ap := List.take_of_length_le (by omega)
  all_goals try have hln := fm_len (oldG ap) v
  all_goals try have hlm := fm_len (opG n.toNat ap l) j
  all_goals try (refine Hold.intro ?_; first | omega | (unfold oldL; omega) | (unfold opT; omega))
  all_goals try
    have hh : had (insM (List.take k ap)) v = true := by assumption
    rw [ek] at hh
    first
    | (rw [old_t hh]; done)
    | (rw [nam_t hh]; done)
  all_goals try
    have hh : had (insM (List.take k ap)) v = false := by assumption
    rw [ek] at hh
    first
    | (rw [old_f hh, List.length_append]; rfl)
    | (rw [old_f hh]; done)
    | (rw [nam_f hh]; done)
  all_goals try have ht := triIn_spec (hin j (by omega))
  all_goals try (refine Hold.intro ?_; rw [Int.toNat_of_nonneg hn.1]; first | exact ht.1 | exact ht.2.1 | exact ht.2.2)
  all_goals have ev : v = n.toNat := by omega
  all_goals subst ev
  · exact HoldOb.intro rfl
  all_goals try
    have hh : had (insM (List.take k ap)) (tg l j).1 = true := by assumption
    rw [ek] at hh
    have e := op_t (n := n.toNat) (.inl hh)
    first
    | (rw [e]; done)
    | (refine HoldOb.intro ?_; rw [e]; done)
  all_goals try
    have hh : had (insM (List.take k ap)) (tg l j).2.1 = true := by assumption
    rw [ek] at hh
    have e := op_t (n := n.toNat) (.inr (.inl hh))
    first
    | (rw [e]; done)
    | (refine HoldOb.intro ?_; rw [e]; done)
  all_goals try
    have hh : had (insM (List.take k ap)) (tg l j).2.2 = true := by assumption
    rw [ek] at hh
    have e := op_t (n := n.toNat) (.inr (.inr hh))
    first
    | (rw [e]; done)
    | (refine HoldOb.intro ?_; rw [e]; done)
  all_goals try
    have hh1 : had (insM (List.take k ap)) (tg l j).1 = false := by assumption
    have hh2 : had (insM (List.take k ap)) (tg l j).2.1 = false := by assumption
    have hh3 : had (insM (List.take k ap)) (tg l j).2.2 = false := by assumption
    rw [ek] at hh1 hh2 hh3
    have e := op_f (n := n.toNat) hh1 hh2 hh3
    first
    | (rw [e]; done)
    | (refine HoldOb.intro ?_; rw [e, List.length_append]; rfl)
  all_goals have ej : j = l.length := by omega
  all_goals subst ej
  all_goals have eo : openS x.1 ap = (((oldL ap n.toNat).length : Int), opT n.toNat ap l l.length) := by rw [e1]; rfl
  all_goals have en : x.1.1.toNat = n.toNat := by rw [e1]
  all_goals have hck : checkR x ap = 0 := by assumption
  · have hc : chkR (((oldL ap n.toNat).length : Int), opT n.toNat ap l l.length) = (0, 0, 0) := by assumption
    rw [openW_ok hck (by rw [eo, hc]), eo, en]; exact HoldEq.intro rfl
  · have hc : ¬ chkR (((oldL ap n.toNat).length : Int), opT n.toNat ap l l.length) = (0, 0, 0) := by assumption
    rw [openW_no hck (by rw [eo]; exact fun e => hc (chk_eq e))]; exact HoldEq.intro rfl
theorem open0_vc (n : Int) (l : List P3) (ap : List Int) (hx : newO (n, l) = none) : afun ⟨tyL, [(28, newNC), (71, starCkC), (72, isC)], []⟩ Try.f37 [soupE.av (n, l), (ETy.sl i64E).av ap] (fun r => r = .tup [.agg [.int .i64 0, .val (.slice none 0 0)], .s (.sl i64E []), .s (.int .i64 11)]) := by
  repeat' (conv => whnf
           first | done | refine Need.intro (by first | rfl | omega | (simp only [i64ok] at *; omega)) ?_ | refine Need.intro (Hold.out ?_) ?_ | refine Give.intro fun _ => ?_ | refine Both.intro ?_ ?_ | refine BIf.and ?_ | refine BIf.or ?_ | refine BIf.eqi (fun _ => ?_) (fun _ => ?_) | refine BIf.nei (fun _ => ?_) (fun _ => ?_) | refine BIf.dec (fun _ => ?_) (fun _ => ?_) | refine BIf.nt ?_ | refine BIf.intro (fun _ => ?_) (fun _ => ?_) | refine And.intro rfl ?_ | refine And.intro (HoldEq.out ?_) ?_ | refine And.intro (HoldOb.out ?_) ?_ | exact True.intro | refine HoldEq.out ?_ | refine HoldObs.out ?_ | refine KCheck.intro (by kernel_rfl) ?_ | refine HoldOr.out ?_)
  all_goals try first | refine HoldEq.int ?_ | refine HoldEq.bool ?_ | refine HoldEq.sl ?_ | refine HoldEq.own ?_ | refine HoldEq.ownS ?_ ?_ | refine HoldOb.row ?_ | refine HoldOb.map ?_ | refine HoldOb.gmap ?_ | refine HoldOb.grow ?_ | refine HoldObs.row ?_
  all_goals try simp only [take_one, take_one', set_one, take_all, List.length_singleton, rec_self, Int.toNat_natCast, pair_eta, ETy.dflt, List.getD_cons_zero, List.getD_cons_succ, Int.reduceToNat, Int.reduceAdd, Int.reduceSub, Int.reduceNeg, Nat.reduceAdd, Nat.zero_add] at *
  all_goals try exact HoldEq.intro rfl
  all_goals rfl
theorem FnOk.res {P : Program} {f : FuncId} {args : List AV} {p q : Option Prop} {u u' : AV} (h : FnOk P f args (p, q, u)) (hu : ∀ (σ : Sig) (v : Value), VRep σ [] u v → VRep σ [] u' v) : FnOk P f args (p, q, u') :=
  fun σ vals w h1 h2 => ⟨(h σ vals w h1 h2).1, fun hq => ((h σ vals w h1 h2).2 hq).mono fun _ _ ⟨v, σ', e1, e2, e3, e4, e5, e6⟩ => ⟨v, σ', e1, e2, e3, e4, hu σ' v e5, e6⟩⟩
/-- No slice is the empty one. -/
theorem bad_rep {σ : Sig} {e : Int} {v : Value} (h : VRep σ [] (.tup [.agg [.int .i64 0, .val (.slice none 0 0)], .s (.sl i64E []), .s (.int .i64 e)]) v) : VRep σ [] (openV ((0, []), [], e)) v := by
  obtain ⟨vs, e1, h⟩ := h
  match vs, h with
  | [a, b, c], ⟨⟨ds, ea, h1⟩, h2⟩ =>
    refine ⟨_, e1, ⟨ds, ea, ?_⟩, h2⟩
    match ds, h1 with
    | [d1, d2], ⟨k1, k2, k3⟩ =>
      obtain ⟨k2, _⟩ := k2
      subst k2
      exact ⟨k1, zeroVals_rep (.sl .arr3), k3⟩
theorem openW_rep {σ : Sig} {r : (Int × List P3) × List Int × Int} (hr : r.2.2 ≠ 0 → r = ((0, []), [], r.2.2)) {v : Value} (h : VRep σ [] (openW r) v) : VRep σ [] (openV r) v := by
  unfold openW at h
  split at h
  · exact h
  · rename_i hne
    rw [hr hne]
    exact bad_rep h
theorem open_err (x : tabE.T) (ap : List Int) (h : (openR x ap).2.2 ≠ 0) : openR x ap = ((0, []), [], (openR x ap).2.2) := by
  unfold openR at h ⊢
  split
  · rfl
  · rename_i hc
    rw [if_neg hc] at h
    split at h
    · exact absurd rfl h
    · rename_i h2; rw [if_neg h2]
def opnC : List AV → Option Res := con2 soupE (.sl i64E) (fun s ap => some (none, none, openV (openO s ap)))
theorem opnRow : FnRow Try.prog 37 opnC := ⟨con2_ok fun s ap r h => by
  cases h
  unfold openO
  cases e : newO s with
  | none => exact FnOk.res (fn_by (rulesF (fn := [(28, newNC), (71, starCkC), (72, isC)]) (fr := []) ⟨newNRow, starCkRow, isRow, trivial⟩ trivial) Try.func37 (by kernel_rfl) fun _ _ => open0_vc s.1 s.2 ap e) fun σ v h => bad_rep h
  | some x => exact FnOk.res (fn_by (rulesF (fn := [(28, newXC x), (71, starCkC), (72, isC)]) (fr := []) ⟨(newXRow x), starCkRow, isRow, trivial⟩ trivial) Try.func37 (by kernel_rfl) fun _ _ => open_vc s.1 s.2 ap x e) fun σ v h => openW_rep (open_err x ap) h, _, Try.func37, by kernel_rfl, by kernel_rfl⟩
end S1

open Go Go.Vm Go.Proofs
namespace S1
set_option maxRecDepth 100000

/-! star.Fill, in plain words -/
def apx (n : Int) (k : Nat) : List Int := (List.range k).map fun (j : Nat) => n + (j : Int)
theorem apx_succ (n : Int) (k : Nat) : apx n (k + 1) = apx n k ++ [n + (k : Int)] := by
  unfold apx; rw [List.range_succ, List.map_append]; rfl
theorem apx_len (n : Int) (k : Nat) : (apx n k).length = k := by unfold apx; rw [List.length_map, List.length_range]
theorem apx_mem {n : Int} {k : Nat} {v : Int} : v ∈ apx n k ↔ n ≤ v ∧ v < n + k := by
  unfold apx
  rw [List.mem_map]
  constructor
  · rintro ⟨j, hj, rfl⟩
    have := List.mem_range.1 hj
    omega
  · intro h
    exact ⟨(v - n).toNat, List.mem_range.2 (by omega), by omega⟩
theorem apx_nodup (n : Int) (k : Nat) : (apx n k).Nodup := by
  unfold apx
  refine List.Pairwise.map _ (fun i j h => ?_) (List.nodup_range (n := k))
  omega
def filT (x : tabE.T) (k : Nat) : List P3 := x.1.2 ++ fillS (vN x) (loopsR x) k
def fillR (x : tabE.T) : (Int × List P3) × List Int × Int :=
  if vN x + (loopsR x).length > 4096 ∨ ((filT x (loopsR x).length).length : Int) > 8192 then ((0, []), [], 7) else ((vN x + (loopsR x).length, filT x (loopsR x).length), apx (vN x) (loopsR x).length, 0)
def fillO (s : Int × List P3) : (Int × List P3) × List Int × Int := match newO s with | some x => fillR x | none => ((0, []), [], 11)
theorem starT_len (L : List Int) (z : Int) (m : Nat) : (starT L z m).length = m := by unfold starT; rw [List.length_map, List.length_range]
theorem loops_len (x : tabE.T) : ∀ k, ∀ L ∈ (lpS x k).2, L.length ≤ 10001
  | 0 => fun L h => (by cases h)
  | k + 1 => fun L h => by
    have ih := loops_len x k
    cases hh : had (lpS x k).1 k with
    | true => rw [lpS_t hh] at h; exact ih L h
    | false =>
      rw [lpS_f hh] at h
      have h : L ∈ (if (walkL (some x) k).length > 0 then (lpS x k).2 ++ [walkL (some x) k] else (lpS x k).2) := h
      split at h
      · rcases List.mem_append.1 h with h | h
        · exact ih L h
        · rw [List.mem_singleton] at h; rw [h]; exact walkL_len
      · exact ih L h
theorem loop_at_len (x : tabE.T) (k : Nat) : ((loopsR x).getD k []).length ≤ 10001 := by
  by_cases h : k < (loopsR x).length
  · exact loops_len x _ _ (getDn_mem h)
  · rw [List.getD_eq_getElem?_getD, List.getElem?_eq_none (by omega)]; exact Nat.zero_le _
theorem filT_succ (x : tabE.T) (k : Nat) : filT x (k + 1) = filT x k ++ starT ((loopsR x).getD k []) (vN x + (k : Int)) ((loopsR x).getD k []).length := by
  unfold filT; rw [fillS_succ, List.append_assoc]
theorem filT_len (x : tabE.T) : ∀ k, (filT x k).length ≤ x.1.2.length + 10001 * k
  | 0 => by unfold filT; rw [List.length_append]; simp [fillS]
  | k + 1 => by
    have ih := filT_len x k
    have h2 := loop_at_len x k
    rw [filT_succ, List.length_append, starT_len]
    omega
theorem new_of {s : Int × List P3} (h : Surf s) : newO s = some (newT s) ∧ Full (newT s) ∧ (newT s).1 = s := by
  have hc := (surf_iff s).2 h
  refine ⟨?_, full_new hc, rfl⟩
  unfold newO; rw [if_pos hc]
end S1

open Go Go.Vm Go.Proofs
namespace S1
set_option maxRecDepth 100000

/-! star.Fill -/
theorem cloneF_vc {fn} (l : List P3) (hb : l.length ≤ 8192) : afunF ⟨tyL, fn, []⟩ Try.f67 [(ETy.sl .arr3).av l] (fun v obs => v = .s (.own 0 0 l.length) ∧ obs = [.row .arr3 72 l]) := by
  repeat' (conv => whnf
           first | done | refine Need.intro (by first | rfl | omega | (simp only [i64ok] at *; omega)) ?_ | refine Need.intro (Hold.out ?_) ?_ | refine Give.intro fun _ => ?_ | refine Both.intro ?_ ?_ | refine BIf.and ?_ | refine BIf.or ?_ | refine BIf.eqi (fun _ => ?_) (fun _ => ?_) | refine BIf.nei (fun _ => ?_) (fun _ => ?_) | refine BIf.dec (fun _ => ?_) (fun _ => ?_) | refine BIf.nt ?_ | refine BIf.intro (fun _ => ?_) (fun _ => ?_) | refine And.intro rfl ?_ | refine And.intro (HoldEq.out ?_) ?_ | refine And.intro (HoldOb.out ?_) ?_ | exact True.intro | refine HoldEq.out ?_ | refine HoldObs.out ?_ | refine KCheck.intro (by kernel_rfl) ?_ | refine HoldOr.out ?_)
  all_goals try first | refine HoldEq.int ?_ | refine HoldEq.bool ?_ | refine HoldEq.sl ?_ | refine HoldEq.own ?_ | refine HoldEq.ownS ?_ ?_ | refine HoldOb.row ?_ | refine HoldOb.map ?_ | refine HoldOb.gmap ?_ | refine HoldOb.grow ?_ | refine HoldObs.row ?_
  all_goals try simp only [take_one, take_one', set_one, take_all, List.length_singleton, rec_self, Int.toNat_natCast, pair_eta, ETy.dflt, List.getD_cons_zero, List.getD_cons_succ, Int.reduceToNat, Int.reduceAdd, Int.reduceSub, Int.reduceNeg, Nat.reduceAdd, Nat.zero_add] at *
  · rename_i h; rw [h]; rfl
  · rename_i h; exact h.symm
  · rfl
def cloneFC : List AV → Option ResF := con1 (.sl .arr3) (fun l => some (none, some (l.length ≤ 8192), .s (.own 0 0 l.length), [.row .arr3 72 l]))
theorem cloneFRow : FnRowF Try.prog 67 cloneFC := ⟨con1_okF fun l r h => by cases h; exact fn_byF (rulesF (fn := []) (fr := []) trivial trivial) Try.func67 (by kernel_rfl) fun _ h => cloneF_vc l h, _, Try.func67, by kernel_rfl, by kernel_rfl⟩
def loopFi (x : tabE.T) : Spec Nat where
  inv k := k ≤ (loopsR x).length
  live k := [(30, .s (.int .i64 k)), (8, .s (.own 6 0 (apx (vN x) k).length))]
  keep := [1, 2, 3, 4, 5, 6, 7, 28, 29]
  heap k := [(5, .flat 24 [.int .i64 (vN x + k), .own 4 0 (filT x k).length]), (4, .row .arr3 72 (filT x k)), (6, .row i64E 3 (apx (vN x) k))]
  keepH := [0, 1, 2, 3]
  mu k := (loopsR x).length - k
def loopFj (x : tabE.T) (k : Nat) : Spec Nat where
  inv i := i ≤ ((loopsR x).getD k []).length
  live i := [(46, .s (.int .i64 i))]
  keep := [1, 2, 3, 4, 5, 6, 7, 8, 10, 11, 28, 29, 30, 44, 45]
  heap i := [(5, .flat 24 [.int .i64 (vN x + k + 1), .own 4 0 (filT x k ++ starT ((loopsR x).getD k []) (vN x + k) i).length]), (4, .row .arr3 72 (filT x k ++ starT ((loopsR x).getD k []) (vN x + k) i))]
  keepH := [0, 1, 2, 3, 6]
  mu i := ((loopsR x).getD k []).length - i
theorem loops_few (x : tabE.T) : (loopsR x).length ≤ (vN x).toNat := lpS_len x _
theorem loopsO_some (x : tabE.T) : loopsO (some x) = loopsR x := rfl
theorem tmod_nat {i m : Nat} : ((i : Int) + 1).tmod (m : Int) = (((i + 1) % m : Nat) : Int) := by
  rw [show (i : Int) + 1 = ((i + 1 : Nat) : Int) by omega]; exact (Int.ofNat_tmod _ _).symm
theorem fillW_bad {x : tabE.T} (h : vN x + (loopsR x).length > 4096 ∨ ((filT x (loopsR x).length).length : Int) > 8192) : openW (fillR x) = .tup [.agg [.int .i64 0, .val (.slice none 0 0)], .s (.sl i64E []), .s (.int .i64 7)] := by
  have e : fillR x = ((0, []), [], 7) := by unfold fillR; rw [if_pos h]
  rw [e]; unfold openW; rw [if_neg (by show ¬ (7 : Int) = 0; omega)]
theorem fillW_ok {x : tabE.T} (h : ¬ (vN x + (loopsR x).length > 4096 ∨ ((filT x (loopsR x).length).length : Int) > 8192)) : openW (fillR x) = .tup [soupE.av (vN x + (loopsR x).length, filT x (loopsR x).length), .s (.sl i64E (apx (vN x) (loopsR x).length)), .s (.int .i64 0)] := by
  have e : fillR x = ((vN x + (loopsR x).length, filT x (loopsR x).length), apx (vN x) (loopsR x).length, 0) := by unfold fillR; rw [if_neg h]
  rw [e]; unfold openW; rw [if_pos rfl]; rfl
attribute [local irreducible] loopsR
set_option maxHeartbeats 4000000 in
theorem fill_vc (n : Int) (l : List P3) (x : tabE.T) (hx : newO (n, l) = some x) : afun ⟨tyL, [(28, newXC x), (40, loopsC)], [(67, .res cloneFC)]⟩ Try.f33 [soupE.av (n, l)] (fun r => r = openW (fillR x)) := by
  obtain ⟨hx1, g, hs⟩ := new_full hx
  have e1 : x.1 = (n, l) := by rw [hx1]; rfl
  have en : vN x = n := congrArg Prod.fst e1
  have el : x.1.2 = l := congrArg Prod.snd e1
  have hn : 0 ≤ n ∧ n ≤ 4096 ∧ l.length ≤ 8192 := ⟨hs.fit.1, hs.fit.2.1, hs.fit.2.2.1⟩
  have hlk : (loopsR x).length ≤ n.toNat := by rw [← en]; exact loops_few x
  have hLo : loopsO (some x) = loopsR x := loopsO_some x
  repeat' (conv => whnf
           first | done | refine Need.intro (by first | rfl | omega | (simp only [i64ok] at *; omega)) ?_ | refine Need.intro (Hold.out ?_) ?_ | refine Give.intro fun _ => ?_ | refine Both.intro ?_ ?_ | refine BIf.and ?_ | refine BIf.or ?_ | refine BIf.eqi (fun _ => ?_) (fun _ => ?_) | refine BIf.nei (fun _ => ?_) (fun _ => ?_) | refine BIf.dec (fun _ => ?_) (fun _ => ?_) | refine BIf.nt ?_ | refine BIf.intro (fun _ => ?_) (fun _ => ?_) | ((first | (with_reducible show Or (∃ n, rounds (acode _ (Code.seq (Code.region 7 _ _) _)) _ n _) _) | (with_reducible show Or (∃ n, rounds (acode _ (Code.seq (Code.seq (Code.region 7 _ _) _) _)) _ n _) _) | (with_reducible show Or (∃ n, rounds (acode _ (Code.seq (Code.seq (Code.seq (Code.region 7 _ _) _) _) _)) _ n _) _) | (with_reducible show Or (∃ n, rounds (acode _ (Code.seq (Code.seq (Code.seq (Code.seq (Code.region 7 _ _) _) _) _) _)) _ n _) _) | (with_reducible show Or (∃ n, rounds (acode _ (Code.block _ (Code.seq (Code.region 7 _ _) _))) _ n _) _) | (with_reducible show Or (∃ n, rounds (acode _ (Code.block _ (Code.seq (Code.seq (Code.region 7 _ _) _) _))) _ n _) _) | (with_reducible show Or (∃ n, rounds (acode _ (Code.block _ (Code.seq (Code.seq (Code.seq (Code.region 7 _ _) _) _) _))) _ n _) _) | (with_reducible show Or (∃ n, rounds (acode _ (Code.block _ (Code.seq (Code.seq (Code.seq (Code.seq (Code.region 7 _ _) _) _) _) _))) _ n _) _)); refine Or.inr (Exists.intro (Nat) (Exists.intro (loopFi x) (And.intro (Exists.intro (0) (And.intro (Hold.out ?_) (And.intro ?_ (And.intro ?_ rfl)))) (fun k hk => ?_))))) | ((with_reducible show (∃ y, And (Spec.inv (loopFi _) y) _)); refine Exists.intro (k + 1) (And.intro (Hold.out ?_) (And.intro (And.intro ?_ (And.intro ?_ rfl)) (Hold.out ?_)))) | ((first | (with_reducible show Or (∃ n, rounds (acode _ (Code.seq (Code.region 13 _ _) _)) _ n _) _) | (with_reducible show Or (∃ n, rounds (acode _ (Code.seq (Code.seq (Code.region 13 _ _) _) _)) _ n _) _) | (with_reducible show Or (∃ n, rounds (acode _ (Code.seq (Code.seq (Code.seq (Code.region 13 _ _) _) _) _)) _ n _) _) | (with_reducible show Or (∃ n, rounds (acode _ (Code.seq (Code.seq (Code.seq (Code.seq (Code.region 13 _ _) _) _) _) _)) _ n _) _) | (with_reducible show Or (∃ n, rounds (acode _ (Code.block _ (Code.seq (Code.region 13 _ _) _))) _ n _) _) | (with_reducible show Or (∃ n, rounds (acode _ (Code.block _ (Code.seq (Code.seq (Code.region 13 _ _) _) _))) _ n _) _) | (with_reducible show Or (∃ n, rounds (acode _ (Code.block _ (Code.seq (Code.seq (Code.seq (Code.region 13 _ _) _) _) _))) _ n _) _) | (with_reducible show Or (∃ n, rounds (acode _ (Code.block _ (Code.seq (Code.seq (Code.seq (Code.seq (Code.region 13 _ _) _) _) _) _))) _ n _) _)); refine Or.inr (Exists.intro (Nat) (Exists.intro (loopFj x k) (And.intro (Exists.intro (0) (And.intro (Hold.out ?_) (And.intro ?_ (And.intro ?_ rfl)))) (fun i hi => ?_))))) | ((with_reducible show (∃ y, And (Spec.inv (loopFj _ _) y) _)); refine Exists.intro (i + 1) (And.intro (Hold.out ?_) (And.intro (And.intro ?_ (And.intro ?_ rfl)) (Hold.out ?_)))) | refine And.intro rfl ?_ | refine And.intro (HoldEq.out ?_) ?_ | refine And.intro (HoldOb.out ?_) ?_ | exact True.intro | refine HoldEq.out ?_ | refine HoldObs.out ?_ | refine KCheck.intro (by kernel_rfl) ?_ | refine HoldOr.out ?_)
  all_goals try first | refine HoldEq.int ?_ | refine HoldEq.bool ?_ | refine HoldEq.sl ?_ | refine HoldEq.own ?_ | refine HoldEq.ownS ?_ ?_ | refine HoldOb.row ?_ | refine HoldOb.map ?_ | refine HoldOb.gmap ?_ | refine HoldOb.grow ?_ | refine HoldObs.row ?_
  all_goals try simp only [take_one, take_one', set_one, take_all, List.length_singleton, rec_self, Int.toNat_natCast, pair_eta, ETy.dflt, List.getD_cons_zero, List.getD_cons_succ, Int.reduceToNat, Int.reduceAdd, Int.reduceSub, Int.reduceNeg, Nat.reduceAdd, Nat.zero_add, loopFi, loopFj, loopsO_some, apx_len] at *
  all_goals try have hfl := filT_len x k
  all_goals try have hla := loop_at_len x k
  all_goals try have hsl := starT_len ((loopsR x).getD k []) (vN x + (k : Int)) i
  all_goals try have hk1 : (k : Int) < (loopsR x).length := by assumption
  all_goals try have hi1 : (i : Int) < ((loopsR x).getD k []).length := by assumption
  all_goals try have hk2 : ¬ (k : Int) < (loopsR x).length := by assumption
  all_goals try have hi2 : ¬ (i : Int) < ((loopsR x).getD k []).length := by assumption
  all_goals have hel : List.length x.1.2 = l.length := by rw [el]
  all_goals try (refine Hold.intro ?_; first | omega | (unfold i64ok; omega) | (rw [List.length_append, hsl]; omega))
  · exact Hold.intro fun y h => by cases h; exact g
  · refine HoldOb.intro ?_
    have e : filT x 0 = x.1.2 := List.append_nil _
    rw [e, el, ← en, show vN x + ((0 : Nat) : Int) = vN x by omega]
  · exact (List.append_nil _).trans el
  · refine HoldOb.intro ?_
    rw [List.length_append, starT_len]; rfl
  · exact List.append_nil _
  · refine Hold.intro ?_
    rw [hLo, tmod_nat]
    have := Nat.mod_lt (i + 1) (y := ((loopsR x).getD k []).length) (by omega)
    omega
  · refine HoldOb.intro ?_
    rw [List.length_append, starT_len, List.length_append, starT_len]; rfl
  · rw [hLo, tmod_nat, Int.toNat_natCast, starT_succ, List.append_assoc]
  · have e : i = ((loopsR x).getD k []).length := by omega
    subst e
    refine HoldOb.intro ?_
    rw [filT_succ, show vN x + ((k + 1 : Nat) : Int) = vN x + (k : Int) + 1 by omega]
  · have e : i = ((loopsR x).getD k []).length := by omega
    subst e
    exact filT_succ x k
  · rw [apx_succ, List.drop_zero, List.take_of_length_le (by rw [apx_len]; omega)]
  all_goals have e : k = (loopsR x).length := by omega
  all_goals subst e
  · rw [fillW_bad (.inl (by assumption))]; exact HoldEq.intro rfl
  · rw [fillW_bad (.inr (by assumption))]; exact HoldEq.intro rfl
  · rw [fillW_ok (by rintro (h | h) <;> contradiction), List.drop_zero, List.take_of_length_le (by rw [apx_len]; omega)]; exact HoldEq.intro rfl
theorem fill0_vc (n : Int) (l : List P3) (hx : newO (n, l) = none) : afun ⟨tyL, [(28, newNC), (40, loopsC)], [(67, .res cloneFC)]⟩ Try.f33 [soupE.av (n, l)] (fun r => r = .tup [.agg [.int .i64 0, .val (.slice none 0 0)], .s (.sl i64E []), .s (.int .i64 11)]) := by
  repeat' (conv => whnf
           first | done | refine Need.intro (by first | rfl | omega | (simp only [i64ok] at *; omega)) ?_ | refine Need.intro (Hold.out ?_) ?_ | refine Give.intro fun _ => ?_ | refine Both.intro ?_ ?_ | refine BIf.and ?_ | refine BIf.or ?_ | refine BIf.eqi (fun _ => ?_) (fun _ => ?_) | refine BIf.nei (fun _ => ?_) (fun _ => ?_) | refine BIf.dec (fun _ => ?_) (fun _ => ?_) | refine BIf.nt ?_ | refine BIf.intro (fun _ => ?_) (fun _ => ?_) | refine And.intro rfl ?_ | refine And.intro (HoldEq.out ?_) ?_ | refine And.intro (HoldOb.out ?_) ?_ | exact True.intro | refine HoldEq.out ?_ | refine HoldObs.out ?_ | refine KCheck.intro (by kernel_rfl) ?_ | refine HoldOr.out ?_)
  all_goals try first | refine HoldEq.int ?_ | refine HoldEq.bool ?_ | refine HoldEq.sl ?_ | refine HoldEq.own ?_ | refine HoldEq.ownS ?_ ?_ | refine HoldOb.row ?_ | refine HoldOb.map ?_ | refine HoldOb.gmap ?_ | refine HoldOb.grow ?_ | refine HoldObs.row ?_
  all_goals try simp only [take_one, take_one', set_one, take_all, List.length_singleton, rec_self, Int.toNat_natCast, pair_eta, ETy.dflt, List.getD_cons_zero, List.getD_cons_succ, Int.reduceToNat, Int.reduceAdd, Int.reduceSub, Int.reduceNeg, Nat.reduceAdd, Nat.zero_add] at *
  all_goals try exact HoldEq.intro rfl
  all_goals rfl
theorem fill_err (x : tabE.T) (h : (fillR x).2.2 ≠ 0) : fillR x = ((0, []), [], (fillR x).2.2) := by
  unfold fillR at h ⊢
  split
  · rfl
  · rename_i hc
    rw [if_neg hc] at h
    exact absurd rfl h
def filC : List AV → Option Res := con1 soupE (fun s => some (none, none, openV (fillO s)))
theorem filRow : FnRow Try.prog 33 filC := ⟨con1_ok fun s r h => by
  cases h
  unfold fillO
  cases e : newO s with
  | none => exact FnOk.res (fn_by (rulesF (fn := [(28, newNC), (40, loopsC)]) (fr := [(67, .res cloneFC)]) ⟨newNRow, loopsRow, trivial⟩ ⟨cloneFRow, trivial⟩) Try.func33 (by kernel_rfl) fun _ _ => fill0_vc s.1 s.2 e) fun σ v h => bad_rep h
  | some x => exact FnOk.res (fn_by (rulesF (fn := [(28, newXC x), (40, loopsC)]) (fr := [(67, .res cloneFC)]) ⟨(newXRow x), loopsRow, trivial⟩ ⟨cloneFRow, trivial⟩) Try.func33 (by kernel_rfl) fun _ _ => fill_vc s.1 s.2 x e) fun σ v h => openW_rep (fill_err x) h, _, Try.func33, by kernel_rfl, by kernel_rfl⟩
end S1

open Go Go.Vm Go.Proofs
namespace S9
open S1
set_option maxRecDepth 100000

/-! gypsumref09: Edge, Has, twice -/
@[irreducible] def hasR (t : P3) (v : Int) : Bool := t.1 == v || (t.2.1 == v || t.2.2 == v)
@[irreducible] def edgeR (t : P3) (a b : Int) : Bool := (t.1 == a && t.2.1 == b) || ((t.2.1 == a && t.2.2 == b) || (t.2.2 == a && t.1 == b))
theorem edge9_vc {fn} (t : P3) (a b : Int) : afun ⟨tyL, fn, []⟩ Try.f144 [ETy.arr3.av t, (ETy.int .i64).av a, (ETy.int .i64).av b] (fun r => r = .s (.bool (edgeR t a b))) := by
  repeat' (conv => whnf
           first | done | refine Need.intro (by first | rfl | omega | (simp only [i64ok] at *; omega)) ?_ | refine Need.intro (Hold.out ?_) ?_ | refine Give.intro fun _ => ?_ | refine Both.intro ?_ ?_ | refine BIf.and ?_ | refine BIf.or ?_ | refine BIf.eqi (fun _ => ?_) (fun _ => ?_) | refine BIf.nei (fun _ => ?_) (fun _ => ?_) | refine BIf.dec (fun _ => ?_) (fun _ => ?_) | refine BIf.nt ?_ | refine BIf.intro (fun _ => ?_) (fun _ => ?_) | refine And.intro rfl ?_ | refine And.intro (HoldEq.out ?_) ?_ | refine And.intro (HoldOb.out ?_) ?_ | exact True.intro | refine HoldEq.out ?_ | refine HoldObs.out ?_ | refine KCheck.intro (by kernel_rfl) ?_ | refine HoldOr.out ?_)
  all_goals try first | refine HoldEq.int ?_ | refine HoldEq.bool ?_ | refine HoldEq.sl ?_ | refine HoldEq.own ?_ | refine HoldEq.ownS ?_ ?_ | refine HoldOb.row ?_ | refine HoldOb.map ?_ | refine HoldOb.gmap ?_ | refine HoldOb.grow ?_ | refine HoldObs.row ?_
  all_goals try simp only [take_one, take_one', set_one, take_all, List.length_singleton, rec_self, Int.toNat_natCast, pair_eta, ETy.dflt, List.getD_cons_zero, List.getD_cons_succ, Int.reduceToNat, Int.reduceAdd, Int.reduceSub, Int.reduceNeg, Nat.reduceAdd, Nat.zero_add, edgeR] at *
  all_goals rw [Bool.eq_iff_iff]; simp only [Bool.or_eq_true, Bool.and_eq_true, beq_iff_eq, Bool.false_eq_true, true_iff, iff_true, false_iff, iff_false]; omega
def edge9C : List AV → Option Res := con3 .arr3 (.int .i64) (.int .i64) (fun t a b => some (none, none, .s (.bool (edgeR t a b))))
theorem edge9Row : FnRow Try.prog 144 edge9C := ⟨con3_ok fun t a b r h => by cases h; exact fn_by (rulesF (fn := []) (fr := []) trivial trivial) Try.func144 (by kernel_rfl) fun _ _ => edge9_vc t a b, _, Try.func144, by kernel_rfl, by kernel_rfl⟩
theorem has9_vc {fn} (t : P3) (v : Int) : afun ⟨tyL, fn, []⟩ Try.f95 [ETy.arr3.av t, (ETy.int .i64).av v] (fun r => r = .s (.bool (hasR t v))) := by
  repeat' (conv => whnf
           first | done | refine Need.intro (by first | rfl | omega | (simp only [i64ok] at *; omega)) ?_ | refine Need.intro (Hold.out ?_) ?_ | refine Give.intro fun _ => ?_ | refine Both.intro ?_ ?_ | refine BIf.and ?_ | refine BIf.or ?_ | refine BIf.eqi (fun _ => ?_) (fun _ => ?_) | refine BIf.nei (fun _ => ?_) (fun _ => ?_) | refine BIf.dec (fun _ => ?_) (fun _ => ?_) | refine BIf.nt ?_ | refine BIf.intro (fun _ => ?_) (fun _ => ?_) | refine And.intro rfl ?_ | refine And.intro (HoldEq.out ?_) ?_ | refine And.intro (HoldOb.out ?_) ?_ | exact True.intro | refine HoldEq.out ?_ | refine HoldObs.out ?_ | refine KCheck.intro (by kernel_rfl) ?_ | refine HoldOr.out ?_)
  all_goals try first | refine HoldEq.int ?_ | refine HoldEq.bool ?_ | refine HoldEq.sl ?_ | refine HoldEq.own ?_ | refine HoldEq.ownS ?_ ?_ | refine HoldOb.row ?_ | refine HoldOb.map ?_ | refine HoldOb.gmap ?_ | refine HoldOb.grow ?_ | refine HoldObs.row ?_
  all_goals try simp only [take_one, take_one', set_one, take_all, List.length_singleton, rec_self, Int.toNat_natCast, pair_eta, ETy.dflt, List.getD_cons_zero, List.getD_cons_succ, Int.reduceToNat, Int.reduceAdd, Int.reduceSub, Int.reduceNeg, Nat.reduceAdd, Nat.zero_add, hasR] at *
  · rename_i h; rw [h]; simp
  · rename_i h1 h; rw [h]; simp
  · rename_i h1 h2; rw [beq_false_of_ne h1, beq_false_of_ne h2]; rfl
def has9C : List AV → Option Res := con2 .arr3 (.int .i64) (fun t v => some (none, none, .s (.bool (hasR t v))))
theorem has9Row : FnRow Try.prog 95 has9C := ⟨con2_ok fun t v r h => by cases h; exact fn_by (rulesF (fn := []) (fr := []) trivial trivial) Try.func95 (by kernel_rfl) fun _ _ => has9_vc t v, _, Try.func95, by kernel_rfl, by kernel_rfl⟩
@[irreducible] def twiceR (t u : P3) : Bool := edgeR u t.1 t.2.1 || (edgeR u t.2.1 t.2.2 || edgeR u t.2.2 t.1)
theorem twice9_vc (t u : P3) : afun ⟨tyL, [(144, edge9C)], []⟩ Try.f130 [ETy.arr3.av t, ETy.arr3.av u] (fun r => r = .s (.bool (twiceR t u))) := by
  repeat' (conv => whnf
           first | done | refine Need.intro (by first | rfl | omega | (simp only [i64ok] at *; omega)) ?_ | refine Need.intro (Hold.out ?_) ?_ | refine Give.intro fun _ => ?_ | refine Both.intro ?_ ?_ | refine BIf.and ?_ | refine BIf.or ?_ | refine BIf.eqi (fun _ => ?_) (fun _ => ?_) | refine BIf.nei (fun _ => ?_) (fun _ => ?_) | refine BIf.dec (fun _ => ?_) (fun _ => ?_) | refine BIf.nt ?_ | refine BIf.intro (fun _ => ?_) (fun _ => ?_) | refine And.intro rfl ?_ | refine And.intro (HoldEq.out ?_) ?_ | refine And.intro (HoldOb.out ?_) ?_ | exact True.intro | refine HoldEq.out ?_ | refine HoldObs.out ?_ | refine KCheck.intro (by kernel_rfl) ?_ | refine HoldOr.out ?_)
  all_goals try first | refine HoldEq.int ?_ | refine HoldEq.bool ?_ | refine HoldEq.sl ?_ | refine HoldEq.own ?_ | refine HoldEq.ownS ?_ ?_ | refine HoldOb.row ?_ | refine HoldOb.map ?_ | refine HoldOb.gmap ?_ | refine HoldOb.grow ?_ | refine HoldObs.row ?_
  all_goals try simp only [take_one, take_one', set_one, take_all, List.length_singleton, rec_self, Int.toNat_natCast, pair_eta, ETy.dflt, List.getD_cons_zero, List.getD_cons_succ, Int.reduceToNat, Int.reduceAdd, Int.reduceSub, Int.reduceNeg, Nat.reduceAdd, Nat.zero_add, twiceR] at *
  all_goals simp [*]
def twice9C : List AV → Option Res := con2 .arr3 .arr3 (fun t u => some (none, none, .s (.bool (twiceR t u))))
theorem twice9Row : FnRow Try.prog 130 twice9C := ⟨con2_ok fun t u r h => by cases h; exact fn_by (rulesF (fn := [(144, edge9C)]) (fr := []) ⟨edge9Row, trivial⟩ trivial) Try.func130 (by kernel_rfl) fun _ _ => twice9_vc t u, _, Try.func130, by kernel_rfl, by kernel_rfl⟩

/-! index -/
def idxL (n : Int) : Nat → List P3 → List Wit
  | _, [] => []
  | i, t :: r => if triIn n t then idxL n (i + 1) r else (1, (i : Int), 0) :: idxL n (i + 1) r
def bigR (s : Int × List P3) : Bool := decide (s.1 < 0) || (decide (s.1 > 4096) || decide ((s.2.length : Int) > 8192))
def indexR (s : Int × List P3) : List Wit := if bigR s then [(1, -1, 0)] else idxL s.1 0 s.2
def loopI (n : Int) (l : List P3) : Spec (Nat × List Wit) where
  inv x := x.1 ≤ l.length ∧ x.2.length ≤ x.1 ∧ idxL n 0 l = x.2 ++ idxL n x.1 (l.drop x.1)
  live x := [(4, .s (.int .i64 x.1)), (3, .s (.own 2 0 x.2.length))]
  keep := [1]
  heap x := [(2, .row witE 116 x.2)]
  keepH := [0]
  mu x := l.length - x.1
theorem tri_bad {n : Int} {t : P3} (h : t.1 < 0 ∨ t.1 ≥ n ∨ t.2.1 < 0 ∨ t.2.1 ≥ n ∨ t.2.2 < 0 ∨ t.2.2 ≥ n) : triIn n t = false := by
  rw [← Bool.not_eq_true]; intro e; have := triIn_spec e; omega
theorem tri_good {n : Int} {t : P3} (h : ¬ (t.1 < 0 ∨ t.1 ≥ n ∨ t.2.1 < 0 ∨ t.2.1 ≥ n ∨ t.2.2 < 0 ∨ t.2.2 ≥ n)) : triIn n t = true := by
  simp only [triIn, vIn, Bool.and_eq_true, Bool.not_eq_true', Bool.or_eq_false_iff, decide_eq_false_iff_not]; omega
theorem index9_vc {fn} (n : Int) (l : List P3) : afunF ⟨tyL, fn, []⟩ Try.f93 [soupE.av (n, l)] (fun v obs => v = .s (.own 0 0 (indexR (n, l)).length) ∧ obs = [.row witE 116 (indexR (n, l))]) := by
  repeat' (conv => whnf
           first | done | refine Need.intro (by first | rfl | omega | (simp only [i64ok] at *; omega)) ?_ | refine Need.intro (Hold.out ?_) ?_ | refine Give.intro fun _ => ?_ | refine Both.intro ?_ ?_ | refine BIf.and ?_ | refine BIf.or ?_ | refine BIf.eqi (fun _ => ?_) (fun _ => ?_) | refine BIf.nei (fun _ => ?_) (fun _ => ?_) | refine BIf.dec (fun _ => ?_) (fun _ => ?_) | refine BIf.nt ?_ | refine BIf.intro (fun _ => ?_) (fun _ => ?_) | ((first | (with_reducible show Or (∃ n, rounds (acode _ (Code.seq (Code.region 5 _ _) _)) _ n _) _) | (with_reducible show Or (∃ n, rounds (acode _ (Code.seq (Code.seq (Code.region 5 _ _) _) _)) _ n _) _) | (with_reducible show Or (∃ n, rounds (acode _ (Code.seq (Code.seq (Code.seq (Code.region 5 _ _) _) _) _)) _ n _) _) | (with_reducible show Or (∃ n, rounds (acode _ (Code.seq (Code.seq (Code.seq (Code.seq (Code.region 5 _ _) _) _) _) _)) _ n _) _) | (with_reducible show Or (∃ n, rounds (acode _ (Code.block _ (Code.seq (Code.region 5 _ _) _))) _ n _) _) | (with_reducible show Or (∃ n, rounds (acode _ (Code.block _ (Code.seq (Code.seq (Code.region 5 _ _) _) _))) _ n _) _) | (with_reducible show Or (∃ n, rounds (acode _ (Code.block _ (Code.seq (Code.seq (Code.seq (Code.region 5 _ _) _) _) _))) _ n _) _) | (with_reducible show Or (∃ n, rounds (acode _ (Code.block _ (Code.seq (Code.seq (Code.seq (Code.seq (Code.region 5 _ _) _) _) _) _))) _ n _) _)); refine Or.inr (Exists.intro (Nat × List Wit) (Exists.intro (loopI n l) (And.intro (Exists.intro ((0, [])) (And.intro (Hold.out ?_) (And.intro ?_ (And.intro ?_ rfl)))) (fun x hx => ?_))))) | ((first | (with_reducible show Or (∃ n, rounds (acode _ (Code.seq (Code.region 9 _ _) _)) _ n _) _) | (with_reducible show Or (∃ n, rounds (acode _ (Code.seq (Code.seq (Code.region 9 _ _) _) _)) _ n _) _) | (with_reducible show Or (∃ n, rounds (acode _ (Code.seq (Code.seq (Code.seq (Code.region 9 _ _) _) _) _)) _ n _) _) | (with_reducible show Or (∃ n, rounds (acode _ (Code.seq (Code.seq (Code.seq (Code.seq (Code.region 9 _ _) _) _) _) _)) _ n _) _) | (with_reducible show Or (∃ n, rounds (acode _ (Code.block _ (Code.seq (Code.region 9 _ _) _))) _ n _) _) | (with_reducible show Or (∃ n, rounds (acode _ (Code.block _ (Code.seq (Code.seq (Code.region 9 _ _) _) _))) _ n _) _) | (with_reducible show Or (∃ n, rounds (acode _ (Code.block _ (Code.seq (Code.seq (Code.seq (Code.region 9 _ _) _) _) _))) _ n _) _) | (with_reducible show Or (∃ n, rounds (acode _ (Code.block _ (Code.seq (Code.seq (Code.seq (Code.seq (Code.region 9 _ _) _) _) _) _))) _ n _) _)); refine Or.inl (Exists.intro (4) ?_)) | ((with_reducible show (∃ y, And (Spec.inv (loopI _ _) y) _)); refine Exists.intro ((x.1 + 1, if triIn n (l.getD x.1 (0, 0, 0)) then x.2 else x.2 ++ [(1, (x.1 : Int), 0)])) (And.intro (Hold.out ?_) (And.intro (And.intro ?_ (And.intro ?_ rfl)) (Hold.out ?_)))) | refine And.intro rfl ?_ | refine And.intro (HoldEq.out ?_) ?_ | refine And.intro (HoldOb.out ?_) ?_ | exact True.intro | refine HoldEq.out ?_ | refine HoldObs.out ?_ | refine KCheck.intro (by kernel_rfl) ?_ | refine HoldOr.out ?_)
  all_goals try first | refine HoldEq.int ?_ | refine HoldEq.bool ?_ | refine HoldEq.sl ?_ | refine HoldEq.own ?_ | refine HoldEq.ownS ?_ ?_ | refine HoldOb.row ?_ | refine HoldOb.map ?_ | refine HoldOb.gmap ?_ | refine HoldOb.grow ?_ | refine HoldObs.row ?_
  all_goals try simp only [take_one, take_one', set_one, take_all, List.length_singleton, rec_self, Int.toNat_natCast, pair_eta, ETy.dflt, List.getD_cons_zero, List.getD_cons_succ, Int.reduceToNat, Int.reduceAdd, Int.reduceSub, Int.reduceNeg, Nat.reduceAdd, Nat.zero_add, loopI] at *
  all_goals try (refine Hold.intro ?_; omega)
  all_goals try (refine Hold.intro ?_; simp only [List.length_singleton]; omega)
  · rename_i h; simp only [indexR, bigR, decide_eq_true h, Bool.true_or, if_true]; rfl
  · rename_i h; simp only [indexR, bigR, decide_eq_true h, Bool.true_or, if_true]
  · rename_i h; simp only [indexR, bigR, decide_eq_true h, Bool.true_or, Bool.or_true, if_true]; rfl
  · rename_i h; simp only [indexR, bigR, decide_eq_true h, Bool.true_or, Bool.or_true, if_true]
  · rename_i h; simp only [indexR, bigR, decide_eq_true h, Bool.true_or, Bool.or_true, if_true]; rfl
  · rename_i h; simp only [indexR, bigR, decide_eq_true h, Bool.true_or, Bool.or_true, if_true]
  · exact Hold.intro ⟨Nat.zero_le _, Nat.le_refl _, rfl⟩
  all_goals try
    (have ht : triIn n (l.getD x.1 (0, 0, 0)) = false := tri_bad (by omega)
     (simp only [ht, Bool.false_eq_true, if_false, List.length_append, List.length_singleton]) <;>
     (refine Hold.intro ⟨by omega, by omega, ?_⟩; rw [hx.2.2, drop_now (0, 0, 0) (by assumption), idxL, ht]; simp; done))
  all_goals try
    (have ht : triIn n (l.getD x.1 (0, 0, 0)) = true := tri_good (by omega)
     (simp only [ht, if_true]) <;>
     (refine Hold.intro ⟨by omega, by omega, ?_⟩; rw [hx.2.2, drop_now (0, 0, 0) (by assumption), idxL, ht]; simp; done))
  all_goals
    have e : indexR (n, l) = x.2 := by
      have hb : bigR (n, l) = false := by simp only [bigR, Bool.or_eq_false_iff, decide_eq_false_iff_not]; omega
      simp only [indexR, hb, Bool.false_eq_true, if_false]
      rw [hx.2.2, drop_all (by assumption)]; simp [idxL]
    rw [e]
def index9C : List AV → Option ResF := con1 soupE (fun s => some (none, none, .s (.own 0 0 (indexR s).length), [.row witE 116 (indexR s)]))
theorem index9Row : FnRowF Try.prog 93 index9C := ⟨con1_okF fun s r h => by cases h; exact fn_byF (rulesF (fn := []) (fr := []) trivial trivial) Try.func93 (by kernel_rfl) fun _ _ => index9_vc s.1 s.2, _, Try.func93, by kernel_rfl, by kernel_rfl⟩
end S9

open Go Go.Vm Go.Proofs
namespace S9
open S1
set_option maxRecDepth 100000

/-! pairs -/
@[irreducible] def ptR (k : Int) (t u : P3) : Bool := (k == 3 && twiceR t u) || (k == 4 && (hasR u t.1 && (hasR u t.2.1 && hasR u t.2.2)))
def prG (l : List P3) (k : Int) (b a : Nat) : Option Wit := if ptR k (l.getD a (0, 0, 0)) (l.getD b (0, 0, 0)) then some (k, (a : Int), (b : Int)) else none
def prI (l : List P3) (k : Int) (b a : Nat) : List Wit := (List.range a).filterMap (prG l k b)
def prO (l : List P3) (k : Int) (b : Nat) : List Wit := (List.range b).flatMap fun b => prI l k b b
theorem prI_succ (l : List P3) (k : Int) (b a : Nat) : prI l k b (a + 1) = prI l k b a ++ (prG l k b a).toList := by
  unfold prI; rw [List.range_succ, List.filterMap_append]; simp only [List.filterMap_cons, List.filterMap_nil]; cases prG l k b a <;> rfl
theorem prO_succ (l : List P3) (k : Int) (b : Nat) : prO l k (b + 1) = prO l k b ++ prI l k b b := by
  unfold prO; rw [List.range_succ, List.flatMap_append]; simp
theorem prI_len (l : List P3) (k : Int) (b a : Nat) : (prI l k b a).length ≤ a := by
  unfold prI; exact Nat.le_trans (List.length_filterMap_le _ _) (by simp)
theorem prO_len (l : List P3) (k : Int) : ∀ b : Nat, b ≤ 8192 → (prO l k b).length ≤ b * 8192
  | 0, _ => by simp [prO]
  | b + 1, h => by
    rw [prO_succ, List.length_append]
    have := prO_len l k b (by omega)
    have := prI_len l k b b
    omega
def loopP1 (l : List P3) (k : Int) : Spec Nat where
  inv b := b ≤ l.length
  live b := [(6, .s (.int .i64 b)), (5, .s (.own 2 0 (prO l k b).length))]
  keep := [1, 2]
  heap b := [(2, .row witE 116 (prO l k b))]
  keepH := [0]
  mu b := l.length - b
def loopP2 (l : List P3) (k : Int) (b : Nat) : Spec Nat where
  inv a := a ≤ b
  live a := [(7, .s (.int .i64 a)), (5, .s (.own 2 0 (prO l k b ++ prI l k b a).length))]
  keep := [1, 2, 6]
  heap a := [(2, .row witE 116 (prO l k b ++ prI l k b a))]
  keepH := [0]
  mu a := b - a
set_option maxHeartbeats 4000000 in
theorem pairs9_vc (n : Int) (l : List P3) (k : Int) (hl : l.length ≤ 8192) : afunF ⟨tyL, [(130, twice9C), (95, has9C)], []⟩ Try.f94 [soupE.av (n, l), (ETy.int .i64).av k] (fun v obs => v = .s (.own 0 0 (prO l k l.length).length) ∧ obs = [.row witE 116 (prO l k l.length)]) := by
  repeat' (conv => whnf
           first | done | refine Need.intro (by first | rfl | omega | (simp only [i64ok] at *; omega)) ?_ | refine Need.intro (Hold.out ?_) ?_ | refine Give.intro fun _ => ?_ | refine Both.intro ?_ ?_ | refine BIf.and ?_ | refine BIf.or ?_ | refine BIf.eqi (fun _ => ?_) (fun _ => ?_) | refine BIf.nei (fun _ => ?_) (fun _ => ?_) | refine BIf.dec (fun _ => ?_) (fun _ => ?_) | refine BIf.nt ?_ | refine BIf.intro (fun _ => ?_) (fun _ => ?_) | ((first | (with_reducible show Or (∃ n, rounds (acode _ (Code.seq (Code.region 3 _ _) _)) _ n _) _) | (with_reducible show Or (∃ n, rounds (acode _ (Code.seq (Code.seq (Code.region 3 _ _) _) _)) _ n _) _) | (with_reducible show Or (∃ n, rounds (acode _ (Code.seq (Code.seq (Code.seq (Code.region 3 _ _) _) _) _)) _ n _) _) | (with_reducible show Or (∃ n, rounds (acode _ (Code.seq (Code.seq (Code.seq (Code.seq (Code.region 3 _ _) _) _) _) _)) _ n _) _) | (with_reducible show Or (∃ n, rounds (acode _ (Code.block _ (Code.seq (Code.region 3 _ _) _))) _ n _) _) | (with_reducible show Or (∃ n, rounds (acode _ (Code.block _ (Code.seq (Code.seq (Code.region 3 _ _) _) _))) _ n _) _) | (with_reducible show Or (∃ n, rounds (acode _ (Code.block _ (Code.seq (Code.seq (Code.seq (Code.region 3 _ _) _) _) _))) _ n _) _) | (with_reducible show Or (∃ n, rounds (acode _ (Code.block _ (Code.seq (Code.seq (Code.seq (Code.seq (Code.region 3 _ _) _) _) _) _))) _ n _) _)); refine Or.inr (Exists.intro (Nat) (Exists.intro (loopP1 l k) (And.intro (Exists.intro (0) (And.intro (Hold.out ?_) (And.intro ?_ (And.intro ?_ rfl)))) (fun b hb => ?_))))) | ((with_reducible show (∃ y, And (Spec.inv (loopP1 _ _) y) _)); refine Exists.intro (b + 1) (And.intro (Hold.out ?_) (And.intro (And.intro ?_ (And.intro ?_ rfl)) (Hold.out ?_)))) | ((first | (with_reducible show Or (∃ n, rounds (acode _ (Code.seq (Code.region 6 _ _) _)) _ n _) _) | (with_reducible show Or (∃ n, rounds (acode _ (Code.seq (Code.seq (Code.region 6 _ _) _) _)) _ n _) _) | (with_reducible show Or (∃ n, rounds (acode _ (Code.seq (Code.seq (Code.seq (Code.region 6 _ _) _) _) _)) _ n _) _) | (with_reducible show Or (∃ n, rounds (acode _ (Code.seq (Code.seq (Code.seq (Code.seq (Code.region 6 _ _) _) _) _) _)) _ n _) _) | (with_reducible show Or (∃ n, rounds (acode _ (Code.block _ (Code.seq (Code.region 6 _ _) _))) _ n _) _) | (with_reducible show Or (∃ n, rounds (acode _ (Code.block _ (Code.seq (Code.seq (Code.region 6 _ _) _) _))) _ n _) _) | (with_reducible show Or (∃ n, rounds (acode _ (Code.block _ (Code.seq (Code.seq (Code.seq (Code.region 6 _ _) _) _) _))) _ n _) _) | (with_reducible show Or (∃ n, rounds (acode _ (Code.block _ (Code.seq (Code.seq (Code.seq (Code.seq (Code.region 6 _ _) _) _) _) _))) _ n _) _)); refine Or.inr (Exists.intro (Nat) (Exists.intro (loopP2 l k b) (And.intro (Exists.intro (0) (And.intro (Hold.out ?_) (And.intro ?_ (And.intro ?_ rfl)))) (fun a ha => ?_))))) | ((with_reducible show (∃ y, And (Spec.inv (loopP2 _ _ _) y) _)); refine Exists.intro (a + 1) (And.intro (Hold.out ?_) (And.intro (And.intro ?_ (And.intro ?_ rfl)) (Hold.out ?_)))) | refine And.intro rfl ?_ | refine And.intro (HoldEq.out ?_) ?_ | refine And.intro (HoldOb.out ?_) ?_ | exact True.intro | refine HoldEq.out ?_ | refine HoldObs.out ?_ | refine KCheck.intro (by kernel_rfl) ?_ | refine HoldOr.out ?_)
  all_goals try first | refine HoldEq.int ?_ | refine HoldEq.bool ?_ | refine HoldEq.sl ?_ | refine HoldEq.own ?_ | refine HoldEq.ownS ?_ ?_ | refine HoldOb.row ?_ | refine HoldOb.map ?_ | refine HoldOb.gmap ?_ | refine HoldOb.grow ?_ | refine HoldObs.row ?_
  all_goals try simp only [take_one, take_one', set_one, take_all, List.length_singleton, rec_self, Int.toNat_natCast, pair_eta, ETy.dflt, List.getD_cons_zero, List.getD_cons_succ, Int.reduceToNat, Int.reduceAdd, Int.reduceSub, Int.reduceNeg, Nat.reduceAdd, Nat.zero_add, loopP1, loopP2] at *
  all_goals try (refine Hold.intro ?_; omega)
  all_goals try
    (have h1 := prO_len l k b (by omega)
     have h2 := prI_len l k b a
     refine Hold.intro ?_; rw [List.length_append]; omega)
  all_goals try (simp [prI]; done)
  all_goals try (exfalso; omega)
  all_goals try
    (have hp : ptR k (l.getD a (0, 0, 0)) (l.getD b (0, 0, 0)) = true := by unfold ptR; simp only [*]; simp
     rw [prI_succ, prG, if_pos hp]; simp [Nat.add_assoc]; done)
  all_goals try
    (have hp : ptR k (l.getD a (0, 0, 0)) (l.getD b (0, 0, 0)) = false := by unfold ptR; simp only [*]; simp [*]
     rw [prI_succ, prG, if_neg (by rw [hp]; decide)]; simp; done)
  all_goals try
    (have hp : ptR k (l.getD a (0, 0, 0)) (l.getD b (0, 0, 0)) = false := by
       unfold ptR; rw [beq_false_of_ne (by assumption : k ≠ 3), beq_false_of_ne (by assumption : k ≠ 4)]; rfl
     rw [prI_succ, prG, if_neg (by rw [hp]; decide)]; simp; done)
  all_goals try
    (have e : a = b := by omega
     subst e; rw [prO_succ])
  all_goals
    have e : b = l.length := by omega
    rw [e]
def pairs9C : List AV → Option ResF := con2 soupE (.int .i64) (fun s k => some (none, some (s.2.length ≤ 8192), .s (.own 0 0 (prO s.2 k s.2.length).length), [.row witE 116 (prO s.2 k s.2.length)]))
theorem pairs9Row : FnRowF Try.prog 94 pairs9C := ⟨con2_okF fun s k r h => by cases h; exact fn_byF (rulesF (fn := [(130, twice9C), (95, has9C)]) (fr := []) ⟨twice9Row, has9Row, trivial⟩ trivial) Try.func94 (by kernel_rfl) fun _ h => pairs9_vc s.1 s.2 k h, _, Try.func94, by kernel_rfl, by kernel_rfl⟩

/-! Pinched -/
def ringL (l : List P3) (v : Int) : List P3 := l.filter (hasR · v)
def tch (v w : Int) (u : P3) : Bool := decide (w ≠ v) && hasR u w
@[irreducible] def touch (m : List P3) (v : Int) (i k : Nat) : Bool :=
  tch v (m.getD i (0, 0, 0)).1 (m.getD k (0, 0, 0)) || (tch v (m.getD i (0, 0, 0)).2.1 (m.getD k (0, 0, 0)) || tch v (m.getD i (0, 0, 0)).2.2 (m.getD k (0, 0, 0)))
def pk (m : List P3) (v : Int) (i : Nat) (s : List Bool) (k : Nat) : List Bool := if s.getD i false = false ∨ s.getD k false = true then s else if touch m v i k then s.set k true else s
def foldK (m : List P3) (v : Int) (i : Nat) (s : List Bool) (k : Nat) : List Bool := (List.range k).foldl (pk m v i) s
def foldI (m : List P3) (v : Int) (s : List Bool) (i : Nat) : List Bool := (List.range i).foldl (fun s i => foldK m v i s m.length) s
def foldR (m : List P3) (v : Int) (r : Nat) : List Bool := (List.range r).foldl (fun s _ => foldI m v s m.length) ((List.replicate m.length false).set 0 true)
@[irreducible] def pinchR (l : List P3) (v : Int) : Bool := !(List.range (ringL l v).length).all fun j => (foldR (ringL l v) v (ringL l v).length).getD j false
theorem foldK_succ (m : List P3) (v : Int) (i : Nat) (s : List Bool) (k : Nat) : foldK m v i s (k + 1) = pk m v i (foldK m v i s k) k := by
  unfold foldK; rw [List.range_succ, List.foldl_append]; rfl
theorem foldI_succ (m : List P3) (v : Int) (s : List Bool) (i : Nat) : foldI m v s (i + 1) = foldK m v i (foldI m v s i) m.length := by
  unfold foldI; rw [List.range_succ, List.foldl_append]; rfl
theorem foldR_succ (m : List P3) (v : Int) (r : Nat) : foldR m v (r + 1) = foldI m v (foldR m v r) m.length := by
  unfold foldR; rw [List.range_succ, List.foldl_append]; rfl
theorem ringL_take (l : List P3) (v : Int) {i : Nat} (h : (i : Int) < l.length) : ringL (l.take (i + 1)) v = ringL (l.take i) v ++ (if hasR (l.getD i (0, 0, 0)) v then [l.getD i (0, 0, 0)] else []) := by
  have h : i < l.length := by omega
  unfold ringL
  rw [List.take_add_one, List.filter_append, List.getD_eq_getElem?_getD, List.getElem?_eq_getElem h]
  simp only [Option.toList_some, Option.getD_some, List.filter_cons, List.filter_nil]
theorem ringL_len (l : List P3) (v : Int) (i : Nat) : (ringL (l.take i) v).length ≤ l.length := by
  unfold ringL
  exact Nat.le_trans (List.length_filter_le _ _) (by simp; omega)
theorem not_or_t {s : List Bool} {i k : Nat} (h1 : s.getD i false = true) (h2 : s.getD k false = false) : ¬ (s.getD i false = false ∨ s.getD k false = true) := by
  rw [h1, h2]; decide
theorem touch_t {m : List P3} {v : Int} {i k : Nat} (h : ((m.getD i (0, 0, 0)).1 ≠ v ∧ hasR (m.getD k (0, 0, 0)) (m.getD i (0, 0, 0)).1 = true) ∨ ((m.getD i (0, 0, 0)).2.1 ≠ v ∧ hasR (m.getD k (0, 0, 0)) (m.getD i (0, 0, 0)).2.1 = true) ∨
    ((m.getD i (0, 0, 0)).2.2 ≠ v ∧ hasR (m.getD k (0, 0, 0)) (m.getD i (0, 0, 0)).2.2 = true)) : touch m v i k = true := by
  unfold touch tch
  simp only [Bool.or_eq_true, Bool.and_eq_true, decide_eq_true_eq]; exact h
theorem touch_f {m : List P3} {v : Int} {i k : Nat} (h1 : (m.getD i (0, 0, 0)).1 = v ∨ hasR (m.getD k (0, 0, 0)) (m.getD i (0, 0, 0)).1 = false) (h2 : (m.getD i (0, 0, 0)).2.1 = v ∨ hasR (m.getD k (0, 0, 0)) (m.getD i (0, 0, 0)).2.1 = false)
    (h3 : (m.getD i (0, 0, 0)).2.2 = v ∨ hasR (m.getD k (0, 0, 0)) (m.getD i (0, 0, 0)).2.2 = false) : ¬ touch m v i k = true := by
  have key : ∀ {w : Int} {u : P3}, w = v ∨ hasR u w = false → ¬ (w ≠ v ∧ hasR u w = true) := by
    rintro w u (h | h) ⟨a, b⟩
    · exact a h
    · rw [h] at b; cases b
  unfold touch tch
  simp only [Bool.or_eq_true, Bool.and_eq_true, decide_eq_true_eq]
  rintro (h | h | h)
  · exact key h1 h
  · exact key h2 h
  · exact key h3 h
def loopV1 (l : List P3) (v : Int) : Spec Nat where
  inv i := i ≤ l.length
  live i := [(6, .s (.int .i64 i)), (5, .s (.own 1 0 (ringL (l.take i) v).length))]
  keep := [1, 2]
  heap i := [(1, .row .arr3 72 (ringL (l.take i) v))]
  keepH := [0]
  mu i := l.length - i
def loopV2 (m : List P3) (v : Int) : Spec Nat where
  inv r := r ≤ m.length
  live r := [(45, .s (.int .i64 r))]
  keep := [1, 5, 7, 44]
  heap r := [(2, .row .bool 4 (foldR m v r))]
  keepH := [1]
  mu r := m.length - r
def loopV3 (m : List P3) (v : Int) (s : List Bool) : Spec Nat where
  inv i := i ≤ m.length
  live i := [(8, .s (.int .i64 i))]
  keep := [1, 5, 7, 44, 45]
  heap i := [(2, .row .bool 4 (foldI m v s i))]
  keepH := [1]
  mu i := m.length - i
def loopV4 (m : List P3) (v : Int) (i : Nat) (s : List Bool) : Spec Nat where
  inv k := k ≤ m.length
  live k := [(9, .s (.int .i64 k))]
  keep := [1, 5, 7, 8, 44, 45]
  heap k := [(2, .row .bool 4 (foldK m v i s k))]
  keepH := [1]
  mu k := m.length - k
def loopV5 (n : Nat) (s : List Bool) : Spec Nat where
  inv i := i ≤ n ∧ ∀ j, j < i → s.getD j false = true
  live i := [(12, .s (.int .i64 i))]
  keep := [1, 5, 7]
  heap _ := []
  keepH := [1, 2]
  mu i := n - i
set_option maxHeartbeats 4000000 in
theorem pinch9_vc (n : Int) (l : List P3) (v : Int) (hl : l.length ≤ 8192) : afun ⟨tyL, [(95, has9C)], []⟩ Try.f96 [soupE.av (n, l), (ETy.int .i64).av v] (fun r => r = .s (.bool (pinchR l v))) := by
  repeat' (conv => whnf
           first | done | refine Need.intro (by first | rfl | omega | (simp only [i64ok] at *; omega)) ?_ | refine Need.intro (Hold.out ?_) ?_ | refine Give.intro fun _ => ?_ | refine Both.intro ?_ ?_ | refine BIf.and ?_ | refine BIf.or ?_ | refine BIf.eqi (fun _ => ?_) (fun _ => ?_) | refine BIf.nei (fun _ => ?_) (fun _ => ?_) | refine BIf.dec (fun _ => ?_) (fun _ => ?_) | refine BIf.nt ?_ | refine BIf.intro (fun _ => ?_) (fun _ => ?_) | ((first | (with_reducible show Or (∃ n, rounds (acode _ (Code.seq (Code.region 3 _ _) _)) _ n _) _) | (with_reducible show Or (∃ n, rounds (acode _ (Code.seq (Code.seq (Code.region 3 _ _) _) _)) _ n _) _) | (with_reducible show Or (∃ n, rounds (acode _ (Code.seq (Code.seq (Code.seq (Code.region 3 _ _) _) _) _)) _ n _) _) | (with_reducible show Or (∃ n, rounds (acode _ (Code.seq (Code.seq (Code.seq (Code.seq (Code.region 3 _ _) _) _) _) _)) _ n _) _) | (with_reducible show Or (∃ n, rounds (acode _ (Code.block _ (Code.seq (Code.region 3 _ _) _))) _ n _) _) | (with_reducible show Or (∃ n, rounds (acode _ (Code.block _ (Code.seq (Code.seq (Code.region 3 _ _) _) _))) _ n _) _) | (with_reducible show Or (∃ n, rounds (acode _ (Code.block _ (Code.seq (Code.seq (Code.seq (Code.region 3 _ _) _) _) _))) _ n _) _) | (with_reducible show Or (∃ n, rounds (acode _ (Code.block _ (Code.seq (Code.seq (Code.seq (Code.seq (Code.region 3 _ _) _) _) _) _))) _ n _) _)); refine Or.inr (Exists.intro (Nat) (Exists.intro (loopV1 l v) (And.intro (Exists.intro (0) (And.intro (Hold.out ?_) (And.intro ?_ (And.intro ?_ rfl)))) (fun i hi => ?_))))) | ((with_reducible show (∃ y, And (Spec.inv (loopV1 _ _) y) _)); refine Exists.intro (i + 1) (And.intro (Hold.out ?_) (And.intro (And.intro ?_ (And.intro ?_ rfl)) (Hold.out ?_)))) | ((first | (with_reducible show Or (∃ n, rounds (acode _ (Code.seq (Code.region 12 _ _) _)) _ n _) _) | (with_reducible show Or (∃ n, rounds (acode _ (Code.seq (Code.seq (Code.region 12 _ _) _) _)) _ n _) _) | (with_reducible show Or (∃ n, rounds (acode _ (Code.seq (Code.seq (Code.seq (Code.region 12 _ _) _) _) _)) _ n _) _) | (with_reducible show Or (∃ n, rounds (acode _ (Code.seq (Code.seq (Code.seq (Code.seq (Code.region 12 _ _) _) _) _) _)) _ n _) _) | (with_reducible show Or (∃ n, rounds (acode _ (Code.block _ (Code.seq (Code.region 12 _ _) _))) _ n _) _) | (with_reducible show Or (∃ n, rounds (acode _ (Code.block _ (Code.seq (Code.seq (Code.region 12 _ _) _) _))) _ n _) _) | (with_reducible show Or (∃ n, rounds (acode _ (Code.block _ (Code.seq (Code.seq (Code.seq (Code.region 12 _ _) _) _) _))) _ n _) _) | (with_reducible show Or (∃ n, rounds (acode _ (Code.block _ (Code.seq (Code.seq (Code.seq (Code.seq (Code.region 12 _ _) _) _) _) _))) _ n _) _)); refine Or.inr (Exists.intro (Nat) (Exists.intro (loopV2 (ringL (l.take i) v) v) (And.intro (Exists.intro (0) (And.intro (Hold.out ?_) (And.intro ?_ (And.intro ?_ rfl)))) (fun r hr => ?_))))) | ((with_reducible show (∃ y, And (Spec.inv (loopV2 _ _) y) _)); refine Exists.intro (r + 1) (And.intro (Hold.out ?_) (And.intro (And.intro ?_ (And.intro ?_ rfl)) (Hold.out ?_)))) | ((first | (with_reducible show Or (∃ n, rounds (acode _ (Code.seq (Code.region 14 _ _) _)) _ n _) _) | (with_reducible show Or (∃ n, rounds (acode _ (Code.seq (Code.seq (Code.region 14 _ _) _) _)) _ n _) _) | (with_reducible show Or (∃ n, rounds (acode _ (Code.seq (Code.seq (Code.seq (Code.region 14 _ _) _) _) _)) _ n _) _) | (with_reducible show Or (∃ n, rounds (acode _ (Code.seq (Code.seq (Code.seq (Code.seq (Code.region 14 _ _) _) _) _) _)) _ n _) _) | (with_reducible show Or (∃ n, rounds (acode _ (Code.block _ (Code.seq (Code.region 14 _ _) _))) _ n _) _) | (with_reducible show Or (∃ n, rounds (acode _ (Code.block _ (Code.seq (Code.seq (Code.region 14 _ _) _) _))) _ n _) _) | (with_reducible show Or (∃ n, rounds (acode _ (Code.block _ (Code.seq (Code.seq (Code.seq (Code.region 14 _ _) _) _) _))) _ n _) _) | (with_reducible show Or (∃ n, rounds (acode _ (Code.block _ (Code.seq (Code.seq (Code.seq (Code.seq (Code.region 14 _ _) _) _) _) _))) _ n _) _)); refine Or.inr (Exists.intro (Nat) (Exists.intro (loopV3 (ringL (l.take i) v) v (foldR (ringL (l.take i) v) v r)) (And.intro (Exists.intro (0) (And.intro (Hold.out ?_) (And.intro ?_ (And.intro ?_ rfl)))) (fun x hx => ?_))))) | ((with_reducible show (∃ y, And (Spec.inv (loopV3 _ _ _) y) _)); refine Exists.intro (x + 1) (And.intro (Hold.out ?_) (And.intro (And.intro ?_ (And.intro ?_ rfl)) (Hold.out ?_)))) | ((first | (with_reducible show Or (∃ n, rounds (acode _ (Code.seq (Code.region 17 _ _) _)) _ n _) _) | (with_reducible show Or (∃ n, rounds (acode _ (Code.seq (Code.seq (Code.region 17 _ _) _) _)) _ n _) _) | (with_reducible show Or (∃ n, rounds (acode _ (Code.seq (Code.seq (Code.seq (Code.region 17 _ _) _) _) _)) _ n _) _) | (with_reducible show Or (∃ n, rounds (acode _ (Code.seq (Code.seq (Code.seq (Code.seq (Code.region 17 _ _) _) _) _) _)) _ n _) _) | (with_reducible show Or (∃ n, rounds (acode _ (Code.block _ (Code.seq (Code.region 17 _ _) _))) _ n _) _) | (with_reducible show Or (∃ n, rounds (acode _ (Code.block _ (Code.seq (Code.seq (Code.region 17 _ _) _) _))) _ n _) _) | (with_reducible show Or (∃ n, rounds (acode _ (Code.block _ (Code.seq (Code.seq (Code.seq (Code.region 17 _ _) _) _) _))) _ n _) _) | (with_reducible show Or (∃ n, rounds (acode _ (Code.block _ (Code.seq (Code.seq (Code.seq (Code.seq (Code.region 17 _ _) _) _) _) _))) _ n _) _)); refine Or.inr (Exists.intro (Nat) (Exists.intro (loopV4 (ringL (l.take i) v) v x (foldI (ringL (l.take i) v) v (foldR (ringL (l.take i) v) v r) x)) (And.intro (Exists.intro (0) (And.intro (Hold.out ?_) (And.intro ?_ (And.intro ?_ rfl)))) (fun k hk => ?_))))) | ((with_reducible show (∃ y, And (Spec.inv (loopV4 _ _ _ _) y) _)); refine Exists.intro (k + 1) (And.intro (Hold.out ?_) (And.intro (And.intro ?_ (And.intro ?_ rfl)) (Hold.out ?_)))) | ((first | (with_reducible show Or (∃ n, rounds (acode _ (Code.seq (Code.region 21 _ _) _)) _ n _) _) | (with_reducible show Or (∃ n, rounds (acode _ (Code.seq (Code.seq (Code.region 21 _ _) _) _)) _ n _) _) | (with_reducible show Or (∃ n, rounds (acode _ (Code.seq (Code.seq (Code.seq (Code.region 21 _ _) _) _) _)) _ n _) _) | (with_reducible show Or (∃ n, rounds (acode _ (Code.seq (Code.seq (Code.seq (Code.seq (Code.region 21 _ _) _) _) _) _)) _ n _) _) | (with_reducible show Or (∃ n, rounds (acode _ (Code.block _ (Code.seq (Code.region 21 _ _) _))) _ n _) _) | (with_reducible show Or (∃ n, rounds (acode _ (Code.block _ (Code.seq (Code.seq (Code.region 21 _ _) _) _))) _ n _) _) | (with_reducible show Or (∃ n, rounds (acode _ (Code.block _ (Code.seq (Code.seq (Code.seq (Code.region 21 _ _) _) _) _))) _ n _) _) | (with_reducible show Or (∃ n, rounds (acode _ (Code.block _ (Code.seq (Code.seq (Code.seq (Code.seq (Code.region 21 _ _) _) _) _) _))) _ n _) _)); refine Or.inl (Exists.intro (4) ?_)) | ((first | (with_reducible show Or (∃ n, rounds (acode _ (Code.seq (Code.region 28 _ _) _)) _ n _) _) | (with_reducible show Or (∃ n, rounds (acode _ (Code.seq (Code.seq (Code.region 28 _ _) _) _)) _ n _) _) | (with_reducible show Or (∃ n, rounds (acode _ (Code.seq (Code.seq (Code.seq (Code.region 28 _ _) _) _) _)) _ n _) _) | (with_reducible show Or (∃ n, rounds (acode _ (Code.seq (Code.seq (Code.seq (Code.seq (Code.region 28 _ _) _) _) _) _)) _ n _) _) | (with_reducible show Or (∃ n, rounds (acode _ (Code.block _ (Code.seq (Code.region 28 _ _) _))) _ n _) _) | (with_reducible show Or (∃ n, rounds (acode _ (Code.block _ (Code.seq (Code.seq (Code.region 28 _ _) _) _))) _ n _) _) | (with_reducible show Or (∃ n, rounds (acode _ (Code.block _ (Code.seq (Code.seq (Code.seq (Code.region 28 _ _) _) _) _))) _ n _) _) | (with_reducible show Or (∃ n, rounds (acode _ (Code.block _ (Code.seq (Code.seq (Code.seq (Code.seq (Code.region 28 _ _) _) _) _) _))) _ n _) _)); refine Or.inr (Exists.intro (Nat) (Exists.intro (loopV5 (ringL (l.take i) v).length (foldR (ringL (l.take i) v) v r)) (And.intro (Exists.intro (0) (And.intro (Hold.out ?_) (And.intro ?_ (And.intro ?_ rfl)))) (fun y hy => ?_))))) | ((with_reducible show (∃ y, And (Spec.inv (loopV5 _ _) y) _)); refine Exists.intro (y + 1) (And.intro (Hold.out ?_) (And.intro (And.intro ?_ (And.intro ?_ rfl)) (Hold.out ?_)))) | refine And.intro rfl ?_ | refine And.intro (HoldEq.out ?_) ?_ | refine And.intro (HoldOb.out ?_) ?_ | exact True.intro | refine HoldEq.out ?_ | refine HoldObs.out ?_ | refine KCheck.intro (by kernel_rfl) ?_ | refine HoldOr.out ?_)
  all_goals try first | refine HoldEq.int ?_ | refine HoldEq.bool ?_ | refine HoldEq.sl ?_ | refine HoldEq.own ?_ | refine HoldEq.ownS ?_ ?_ | refine HoldOb.row ?_ | refine HoldOb.map ?_ | refine HoldOb.gmap ?_ | refine HoldOb.grow ?_ | refine HoldObs.row ?_
  all_goals try simp only [take_one, take_one', set_one, take_all, List.length_singleton, rec_self, Int.toNat_natCast, pair_eta, ETy.dflt, List.getD_cons_zero, List.getD_cons_succ, Int.reduceToNat, Int.reduceAdd, Int.reduceSub, Int.reduceNeg, Nat.reduceAdd, Nat.zero_add, loopV1, loopV2, loopV3, loopV4, loopV5] at *
  all_goals try (refine Hold.intro ?_; omega)
  all_goals try rfl
  all_goals try
    (have h := ringL_len l v i
     refine Hold.intro ?_; omega)
  all_goals try (rw [foldK_succ, pk, if_pos (Or.inl (by assumption))]; done)
  all_goals try (rw [foldK_succ, pk, if_pos (Or.inr (by assumption))]; done)
  all_goals try (rw [foldK_succ, pk, if_neg (not_or_t (by assumption) (by assumption)), if_pos (touch_t (by first | exact .inl ⟨by assumption, by assumption⟩ | exact .inr (.inl ⟨by assumption, by assumption⟩) | exact .inr (.inr ⟨by assumption, by assumption⟩)))]; (try simp only [List.set_set]); done)
  all_goals try (rw [foldK_succ, pk, if_neg (not_or_t (by assumption) (by assumption)), if_neg (touch_f (by first | exact .inl (by assumption) | exact .inr (by assumption)) (by first | exact .inl (by assumption) | exact .inr (by assumption)) (by first | exact .inl (by assumption) | exact .inr (by assumption)))]; done)
  all_goals try
    (have e : k = (ringL (l.take i) v).length := by omega
     rw [foldI_succ, ← e]; done)
  all_goals try
    (have e : x = (ringL (l.take i) v).length := by omega
     rw [foldR_succ, ← e]; done)
  · rw [ringL_take _ _ (by assumption), if_pos (by assumption)]; simp
  · rw [ringL_take _ _ (by assumption), if_pos (by assumption)]
  · rw [ringL_take _ _ (by assumption), if_neg (by rw [‹hasR _ _ = false›]; decide)]; simp
  · rw [ringL_take _ _ (by assumption), if_neg (by rw [‹hasR _ _ = false›]; decide)]; simp
  · have e : l.take i = l := List.take_of_length_le (by omega)
    rename_i h; rw [e] at h
    have h : (ringL l v).length = 0 := by omega
    unfold pinchR; rw [h]; rfl
  · exact Hold.intro ⟨Nat.zero_le _, fun j hj => absurd hj (by omega)⟩
  · refine Hold.intro ⟨by omega, fun j hj => ?_⟩
    by_cases e : j = y
    · subst e; assumption
    · exact hy.2 j (by omega)
  all_goals
    have e : l.take i = l := List.take_of_length_le (by omega)
    have er : r = (ringL (l.take i) v).length := by omega
    rw [er] at hy
    rw [e] at hy
  · rename_i h
    have hyl : y < (ringL l v).length := by rw [← e]; omega
    rw [er, e] at h
    unfold pinchR
    symm
    rw [Bool.not_eq_true', ← Bool.not_eq_true, List.all_eq_true]
    intro hh
    rw [hh y (List.mem_range.2 hyl)] at h; cases h
  · rename_i h; rw [e] at h
    have hyl : (ringL l v).length ≤ y := by omega
    unfold pinchR
    symm
    rw [Bool.not_eq_false', List.all_eq_true]
    intro j hj
    exact hy.2 j (by have := List.mem_range.1 hj; omega)
def pinch9C : List AV → Option Res := con2 soupE (.int .i64) (fun s v => some (none, some (s.2.length ≤ 8192), .s (.bool (pinchR s.2 v))))
theorem pinch9Row : FnRow Try.prog 96 pinch9C := ⟨con2_ok fun s v r h => by cases h; exact fn_by (rulesF (fn := [(95, has9C)]) (fr := []) ⟨has9Row, trivial⟩ trivial) Try.func96 (by kernel_rfl) fun _ h => pinch9_vc s.1 s.2 v h, _, Try.func96, by kernel_rfl, by kernel_rfl⟩
end S9
