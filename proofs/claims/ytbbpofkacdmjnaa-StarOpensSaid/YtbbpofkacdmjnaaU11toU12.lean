/- A part of the proofs of the laws of this seat: contracts of functions, each for every input that its text names. -/
import Derived.Test.YtbbpofkacdmjnaaR3toU7
set_option linter.unusedSimpArgs false
set_option linter.unusedVariables false
set_option maxHeartbeats 2000000
open Go Go.Vm Go.Proofs
open S9 (surf9C surf9Row surfR surf9_iff chk_surf)
namespace S1
set_option maxRecDepth 100000

/-! gypsumref17.Open -/
def goneL (n : Nat) (ap : List Int) (k : Nat) : List Bool := irec (fun g j => g.set (ap.getD j 0).toNat true) (List.replicate n false) k
def goneB (n : Nat) (ap : List Int) (v : Int) : Bool := (goneL n ap ap.length).getD v.toNat false
def manyP (n : Nat) (ap : List Int) (t : P3) : Prop := (goneB n ap t.1 = true ∧ goneB n ap t.2.1 = true) ∨ (goneB n ap t.1 = true ∧ goneB n ap t.2.2 = true) ∨ (goneB n ap t.2.1 = true ∧ goneB n ap t.2.2 = true)
def ckN (s : Int × List P3) (ap : List Int) : Prop := ∀ a ∈ ap, aftR s a < 0
def ckM (s : Int × List P3) (ap : List Int) (i : Nat) : Prop := ∀ j, j < i → ¬ manyP s.1.toNat ap (tg s.2 j)
open Classical in
noncomputable def ropR (s : Int × List P3) (ap : List Int) : FoR :=
  if ¬ ckA s.1 ap then ((0, []), [], 2) else if ¬ ap.Nodup then ((0, []), [], 9) else if ¬ ckN s ap then ((0, []), [], 13) else if ¬ ckM s ap s.2.length then ((0, []), [], 14)
  else if surfR (openS s ap) = true then (openS s ap, oldL ap s.1.toNat, 0) else ((0, []), [], 11)
def loopRA (n : Int) (ap : List Int) : Spec Nat where
  inv k := k ≤ ap.length ∧ ckA n (ap.take k)
  live k := [(8, .s (.int .i64 k))]
  keep := [1, 2, 4, 5, 6, 7]
  heap _ := []
  keepH := [0, 1, 2, 3]
  mu k := ap.length - k
def loopRB (n : Int) (ap : List Int) : Spec Nat where
  inv k := k ≤ ap.length ∧ (ap.take k).Nodup
  live k := [(9, .s (.int .i64 k))]
  keep := [1, 2, 4, 5, 6, 7]
  heap k := [(3, .row .bool 4 (goneL n.toNat ap k))]
  keepH := [0, 1, 2]
  mu k := ap.length - k
def loopRC (s : Int × List P3) (ap : List Int) : Spec Nat where
  inv k := k ≤ ap.length ∧ ckN s (ap.take k)
  live k := [(10, .s (.int .i64 k))]
  keep := [1, 2, 4, 5, 6, 7]
  heap _ := []
  keepH := [0, 1, 2, 3]
  mu k := ap.length - k
def loopRD (s : Int × List P3) (ap : List Int) : Spec Nat where
  inv i := i ≤ s.2.length ∧ ckM s ap i
  live i := [(11, .s (.int .i64 i))]
  keep := [1, 2, 4, 5, 6, 7]
  heap _ := []
  keepH := [0, 1, 2, 3]
  mu i := s.2.length - i
def loopRE (n : Int) (ap : List Int) : Spec Nat where
  inv k := (k : Int) ≤ n
  live k := [(16, .s (.int .i64 k)), (14, .s (.own 4 0 (oldL ap k).length))]
  keep := [1, 2, 4, 5, 6, 7, 15]
  heap k := [(4, .row i64E 3 (oldL ap k)), (5, .row i64E 3 (namL n.toNat ap k))]
  keepH := [0, 1, 2, 3]
  mu k := n.toNat - k
def loopRF (n : Int) (ap : List Int) (l : List P3) : Spec Nat where
  inv j := j ≤ l.length
  live j := [(18, .s (.int .i64 j))]
  keep := [1, 2, 4, 5, 6, 7, 14, 15, 17]
  heap j := [(6, .flat 24 [.int .i64 (oldL ap n.toNat).length, .own 7 0 (opT n.toNat ap l j).length]), (7, .row .arr3 72 (opT n.toNat ap l j))]
  keepH := [0, 1, 2, 3, 4, 5]
  mu j := l.length - j
  nils := [6]
theorem many_no {n : Nat} {ap : List Int} {t : P3} (h : (goneB n ap t.1 = false ∧ goneB n ap t.2.1 = false) ∨ (goneB n ap t.1 = false ∧ goneB n ap t.2.2 = false) ∨ (goneB n ap t.2.1 = false ∧ goneB n ap t.2.2 = false)) : ¬ manyP n ap t := by
  unfold manyP
  rcases h with ⟨h1, h2⟩ | ⟨h1, h2⟩ | ⟨h1, h2⟩ <;> simp [h1, h2]
theorem gone_len (n : Nat) (ap : List Int) : ∀ k, (goneL n ap k).length = n
  | 0 => List.length_replicate
  | k + 1 => by
    show ((goneL n ap k).set _ true).length = n
    rw [List.length_set]; exact gone_len n ap k
theorem ckA_at {n : Int} {ap : List Int} (h : ckA n ap) {k : Nat} (hk : k < ap.length) : 0 ≤ ap.getD k 0 ∧ ap.getD k 0 < n := h _ (getD_mem hk)
theorem gone_get {n : Int} {ap : List Int} (h : ckA n ap) : ∀ k, k ≤ ap.length → ∀ v : Int, 0 ≤ v → v < n → ((goneL n.toNat ap k).getD v.toNat false = true ↔ v ∈ ap.take k)
  | 0, _, v, h0, h1 => by
    refine ⟨fun e => ?_, fun e => (by cases e)⟩
    have e : (List.replicate n.toNat false).getD v.toNat false = true := e
    rw [List.getD_eq_getElem?_getD, List.getElem?_replicate] at e
    split at e <;> cases e
  | k + 1, hk, v, h0, h1 => by
    have ih := gone_get h k (by omega) v h0 h1
    have ha := ckA_at h (k := k) (by omega)
    rw [take_succ_mem (by omega)]
    show ((goneL n.toNat ap k).set (ap.getD k 0).toNat true).getD v.toNat false = true ↔ _
    by_cases e : v = ap.getD k 0
    · refine ⟨fun _ => .inr e, fun _ => ?_⟩
      rw [e, List.getD_eq_getElem?_getD, List.getElem?_set_self (by rw [gone_len]; omega)]; rfl
    · rw [List.getD_eq_getElem?_getD, List.getElem?_set_ne (by omega), ← List.getD_eq_getElem?_getD, ih]
      exact ⟨.inl, fun h => h.resolve_right e⟩
theorem gone_had {n : Int} {ap : List Int} (h : ckA n ap) {v : Int} (h0 : 0 ≤ v) (h1 : v < n) : (goneL n.toNat ap ap.length).getD v.toNat false = had (insM ap) v := by
  have := gone_get h ap.length (Nat.le_refl _) v h0 h1
  rw [List.take_length] at this
  rw [Bool.eq_iff_iff, this, had_iff]
theorem ckN_nil {s : Int × List P3} {ap : List Int} : ckN s (ap.take 0) := fun a h => by cases h
theorem ckN_succ {s : Int × List P3} {ap : List Int} {k : Nat} (h : ckN s (ap.take k)) (hk : k < ap.length) (h2 : aftR s (ap.getD k 0) < 0) : ckN s (ap.take (k + 1)) := fun a ha => by
  rcases (take_succ_mem hk).1 ha with e | e
  · exact h a e
  · rw [e]; exact h2
theorem ckM_zero {s : Int × List P3} {ap : List Int} : ckM s ap 0 := fun j h => by omega
theorem ckM_succ {s : Int × List P3} {ap : List Int} {i : Nat} (h : ckM s ap i) (h2 : ¬ manyP s.1.toNat ap (tg s.2 i)) : ckM s ap (i + 1) := fun j hj => by
  by_cases e : j = i
  · subst e; exact h2
  · exact h j (by omega)
abbrev badV (e : Int) : AV := .tup [.agg [.int .i64 0, .val (.slice none 0 0)], .s (.sl i64E []), .s (.int .i64 e)]
theorem openW_err {e : Int} (he : e ≠ 0) : openW ((0, []), [], e) = badV e := by
  unfold openW; rw [if_neg he]
section
variable {s : Int × List P3} {ap : List Int}
theorem rop_2 (h : ¬ ckA s.1 ap) : openW (ropR s ap) = badV 2 := by
  have e : ropR s ap = ((0, []), [], 2) := by unfold ropR; rw [if_pos h]
  rw [e]; exact openW_err (by omega)
theorem rop_9 (h : ckA s.1 ap) (h2 : ¬ ap.Nodup) : openW (ropR s ap) = badV 9 := by
  have e : ropR s ap = ((0, []), [], 9) := by unfold ropR; rw [if_neg (fun k => k h), if_pos h2]
  rw [e]; exact openW_err (by omega)
theorem rop_13 (h : ckA s.1 ap) (h2 : ap.Nodup) (h3 : ¬ ckN s ap) : openW (ropR s ap) = badV 13 := by
  have e : ropR s ap = ((0, []), [], 13) := by unfold ropR; rw [if_neg (fun k => k h), if_neg (fun k => k h2), if_pos h3]
  rw [e]; exact openW_err (by omega)
theorem rop_14 (h : ckA s.1 ap) (h2 : ap.Nodup) (h3 : ckN s ap) (h4 : ¬ ckM s ap s.2.length) : openW (ropR s ap) = badV 14 := by
  have e : ropR s ap = ((0, []), [], 14) := by unfold ropR; rw [if_neg (fun k => k h), if_neg (fun k => k h2), if_neg (fun k => k h3), if_pos h4]
  rw [e]; exact openW_err (by omega)
theorem ropR_0 (h : ckA s.1 ap) (h2 : ap.Nodup) (h3 : ckN s ap) (h4 : ckM s ap s.2.length) : ropR s ap = if surfR (openS s ap) = true then (openS s ap, oldL ap s.1.toNat, 0) else ((0, []), [], 11) := by
  unfold ropR; rw [if_neg (fun k => k h), if_neg (fun k => k h2), if_neg (fun k => k h3), if_neg (fun k => k h4)]
theorem rop_11 (h : ckA s.1 ap) (h2 : ap.Nodup) (h3 : ckN s ap) (h4 : ckM s ap s.2.length) (h5 : surfR (openS s ap) = false) : openW (ropR s ap) = badV 11 := by
  rw [ropR_0 h h2 h3 h4, if_neg (by rw [h5]; simp)]; exact openW_err (by omega)
theorem rop_0 (h : ckA s.1 ap) (h2 : ap.Nodup) (h3 : ckN s ap) (h4 : ckM s ap s.2.length) (h5 : surfR (openS s ap) = true) : openW (ropR s ap) = .tup [soupE.av (openS s ap), .s (.sl i64E (oldL ap s.1.toNat)), .s (.int .i64 0)] := by
  rw [ropR_0 h h2 h3 h4, if_pos h5]; unfold openW; rw [if_pos rfl]; rfl
theorem ckN_no (h : ckN s ap) {k : Nat} (hk : k < ap.length) (h2 : aftR s (ap.getD k 0) ≥ 0) : False := by
  have := h _ (getD_mem hk); omega
theorem ckM_no {d : Nat} (h : ckM s ap s.2.length) (hd : d < s.2.length) (h2 : manyP s.1.toNat ap (tg s.2 d)) : False := h d hd h2
end
attribute [local irreducible] insM aftR surfR ckA ckN ckM
set_option maxHeartbeats 8000000 in
theorem rop_vc (n : Int) (l : List P3) (ap : List Int) (h : fitS (n, l)) : afun ⟨tyL, [(73, after17C), (34, surf9C)], []⟩ Try.f38 [soupE.av (n, l), (ETy.sl i64E).av ap] (fun r => r = openW (ropR (n, l) ap)) := by
  have hn : 0 ≤ n ∧ n ≤ 4096 ∧ l.length ≤ 8192 := ⟨h.1, h.2.1, h.2.2.1⟩
  have hin : ∀ i, i < l.length → triIn n (l.getD i (0, 0, 0)) = true := h.2.2.2
  repeat' (conv => whnf
           first | done | refine Need.intro (by first | rfl | omega | (simp only [i64ok] at *; omega)) ?_ | refine Need.intro (Hold.out ?_) ?_ | refine Give.intro fun _ => ?_ | refine Both.intro ?_ ?_ | refine BIf.and ?_ | refine BIf.or ?_ | refine BIf.eqi (fun _ => ?_) (fun _ => ?_) | refine BIf.nei (fun _ => ?_) (fun _ => ?_) | refine BIf.dec (fun _ => ?_) (fun _ => ?_) | refine BIf.nt ?_ | refine BIf.intro (fun _ => ?_) (fun _ => ?_) | ((first | (with_reducible show Or (∃ n, rounds (acode _ (Code.seq (Code.region 3 _ _) _)) _ n _) _) | (with_reducible show Or (∃ n, rounds (acode _ (Code.seq (Code.seq (Code.region 3 _ _) _) _)) _ n _) _) | (with_reducible show Or (∃ n, rounds (acode _ (Code.seq (Code.seq (Code.seq (Code.region 3 _ _) _) _) _)) _ n _) _) | (with_reducible show Or (∃ n, rounds (acode _ (Code.seq (Code.seq (Code.seq (Code.seq (Code.region 3 _ _) _) _) _) _)) _ n _) _) | (with_reducible show Or (∃ n, rounds (acode _ (Code.block _ (Code.seq (Code.region 3 _ _) _))) _ n _) _) | (with_reducible show Or (∃ n, rounds (acode _ (Code.block _ (Code.seq (Code.seq (Code.region 3 _ _) _) _))) _ n _) _) | (with_reducible show Or (∃ n, rounds (acode _ (Code.block _ (Code.seq (Code.seq (Code.seq (Code.region 3 _ _) _) _) _))) _ n _) _) | (with_reducible show Or (∃ n, rounds (acode _ (Code.block _ (Code.seq (Code.seq (Code.seq (Code.seq (Code.region 3 _ _) _) _) _) _))) _ n _) _)); refine Or.inr (Exists.intro (Nat) (Exists.intro (loopRA n ap) (And.intro (Exists.intro (0) (And.intro (Hold.out ?_) (And.intro ?_ (And.intro ?_ rfl)))) (fun a ha => ?_))))) | ((with_reducible show (∃ y, And (Spec.inv (loopRA _ _) y) _)); refine Exists.intro (a + 1) (And.intro (Hold.out ?_) (And.intro (And.intro ?_ (And.intro ?_ rfl)) (Hold.out ?_)))) | ((first | (with_reducible show Or (∃ n, rounds (acode _ (Code.seq (Code.region 8 _ _) _)) _ n _) _) | (with_reducible show Or (∃ n, rounds (acode _ (Code.seq (Code.seq (Code.region 8 _ _) _) _)) _ n _) _) | (with_reducible show Or (∃ n, rounds (acode _ (Code.seq (Code.seq (Code.seq (Code.region 8 _ _) _) _) _)) _ n _) _) | (with_reducible show Or (∃ n, rounds (acode _ (Code.seq (Code.seq (Code.seq (Code.seq (Code.region 8 _ _) _) _) _) _)) _ n _) _) | (with_reducible show Or (∃ n, rounds (acode _ (Code.block _ (Code.seq (Code.region 8 _ _) _))) _ n _) _) | (with_reducible show Or (∃ n, rounds (acode _ (Code.block _ (Code.seq (Code.seq (Code.region 8 _ _) _) _))) _ n _) _) | (with_reducible show Or (∃ n, rounds (acode _ (Code.block _ (Code.seq (Code.seq (Code.seq (Code.region 8 _ _) _) _) _))) _ n _) _) | (with_reducible show Or (∃ n, rounds (acode _ (Code.block _ (Code.seq (Code.seq (Code.seq (Code.seq (Code.region 8 _ _) _) _) _) _))) _ n _) _)); refine Or.inr (Exists.intro (Nat) (Exists.intro (loopRB n ap) (And.intro (Exists.intro (0) (And.intro (Hold.out ?_) (And.intro ?_ (And.intro ?_ rfl)))) (fun b hb => ?_))))) | ((with_reducible show (∃ y, And (Spec.inv (loopRB _ _) y) _)); refine Exists.intro (b + 1) (And.intro (Hold.out ?_) (And.intro (And.intro ?_ (And.intro ?_ rfl)) (Hold.out ?_)))) | ((first | (with_reducible show Or (∃ n, rounds (acode _ (Code.seq (Code.region 14 _ _) _)) _ n _) _) | (with_reducible show Or (∃ n, rounds (acode _ (Code.seq (Code.seq (Code.region 14 _ _) _) _)) _ n _) _) | (with_reducible show Or (∃ n, rounds (acode _ (Code.seq (Code.seq (Code.seq (Code.region 14 _ _) _) _) _)) _ n _) _) | (with_reducible show Or (∃ n, rounds (acode _ (Code.seq (Code.seq (Code.seq (Code.seq (Code.region 14 _ _) _) _) _) _)) _ n _) _) | (with_reducible show Or (∃ n, rounds (acode _ (Code.block _ (Code.seq (Code.region 14 _ _) _))) _ n _) _) | (with_reducible show Or (∃ n, rounds (acode _ (Code.block _ (Code.seq (Code.seq (Code.region 14 _ _) _) _))) _ n _) _) | (with_reducible show Or (∃ n, rounds (acode _ (Code.block _ (Code.seq (Code.seq (Code.seq (Code.region 14 _ _) _) _) _))) _ n _) _) | (with_reducible show Or (∃ n, rounds (acode _ (Code.block _ (Code.seq (Code.seq (Code.seq (Code.seq (Code.region 14 _ _) _) _) _) _))) _ n _) _)); refine Or.inr (Exists.intro (Nat) (Exists.intro (loopRC (n, l) ap) (And.intro (Exists.intro (0) (And.intro (Hold.out ?_) (And.intro ?_ (And.intro ?_ rfl)))) (fun c hc => ?_))))) | ((with_reducible show (∃ y, And (Spec.inv (loopRC _ _) y) _)); refine Exists.intro (c + 1) (And.intro (Hold.out ?_) (And.intro (And.intro ?_ (And.intro ?_ rfl)) (Hold.out ?_)))) | ((first | (with_reducible show Or (∃ n, rounds (acode _ (Code.seq (Code.region 19 _ _) _)) _ n _) _) | (with_reducible show Or (∃ n, rounds (acode _ (Code.seq (Code.seq (Code.region 19 _ _) _) _)) _ n _) _) | (with_reducible show Or (∃ n, rounds (acode _ (Code.seq (Code.seq (Code.seq (Code.region 19 _ _) _) _) _)) _ n _) _) | (with_reducible show Or (∃ n, rounds (acode _ (Code.seq (Code.seq (Code.seq (Code.seq (Code.region 19 _ _) _) _) _) _)) _ n _) _) | (with_reducible show Or (∃ n, rounds (acode _ (Code.block _ (Code.seq (Code.region 19 _ _) _))) _ n _) _) | (with_reducible show Or (∃ n, rounds (acode _ (Code.block _ (Code.seq (Code.seq (Code.region 19 _ _) _) _))) _ n _) _) | (with_reducible show Or (∃ n, rounds (acode _ (Code.block _ (Code.seq (Code.seq (Code.seq (Code.region 19 _ _) _) _) _))) _ n _) _) | (with_reducible show Or (∃ n, rounds (acode _ (Code.block _ (Code.seq (Code.seq (Code.seq (Code.seq (Code.region 19 _ _) _) _) _) _))) _ n _) _)); refine Or.inr (Exists.intro (Nat) (Exists.intro (loopRD (n, l) ap) (And.intro (Exists.intro (0) (And.intro (Hold.out ?_) (And.intro ?_ (And.intro ?_ rfl)))) (fun d hd => ?_))))) | ((with_reducible show (∃ y, And (Spec.inv (loopRD _ _) y) _)); refine Exists.intro (d + 1) (And.intro (Hold.out ?_) (And.intro (And.intro ?_ (And.intro ?_ rfl)) (Hold.out ?_)))) | ((first | (with_reducible show Or (∃ n, rounds (acode _ (Code.seq (Code.region 23 _ _) _)) _ n _) _) | (with_reducible show Or (∃ n, rounds (acode _ (Code.seq (Code.seq (Code.region 23 _ _) _) _)) _ n _) _) | (with_reducible show Or (∃ n, rounds (acode _ (Code.seq (Code.seq (Code.seq (Code.region 23 _ _) _) _) _)) _ n _) _) | (with_reducible show Or (∃ n, rounds (acode _ (Code.seq (Code.seq (Code.seq (Code.seq (Code.region 23 _ _) _) _) _) _)) _ n _) _) | (with_reducible show Or (∃ n, rounds (acode _ (Code.block _ (Code.seq (Code.region 23 _ _) _))) _ n _) _) | (with_reducible show Or (∃ n, rounds (acode _ (Code.block _ (Code.seq (Code.seq (Code.region 23 _ _) _) _))) _ n _) _) | (with_reducible show Or (∃ n, rounds (acode _ (Code.block _ (Code.seq (Code.seq (Code.seq (Code.region 23 _ _) _) _) _))) _ n _) _) | (with_reducible show Or (∃ n, rounds (acode _ (Code.block _ (Code.seq (Code.seq (Code.seq (Code.seq (Code.region 23 _ _) _) _) _) _))) _ n _) _)); refine Or.inl (Exists.intro (4) ?_)) | ((first | (with_reducible show Or (∃ n, rounds (acode _ (Code.seq (Code.region 32 _ _) _)) _ n _) _) | (with_reducible show Or (∃ n, rounds (acode _ (Code.seq (Code.seq (Code.region 32 _ _) _) _)) _ n _) _) | (with_reducible show Or (∃ n, rounds (acode _ (Code.seq (Code.seq (Code.seq (Code.region 32 _ _) _) _) _)) _ n _) _) | (with_reducible show Or (∃ n, rounds (acode _ (Code.seq (Code.seq (Code.seq (Code.seq (Code.region 32 _ _) _) _) _) _)) _ n _) _) | (with_reducible show Or (∃ n, rounds (acode _ (Code.block _ (Code.seq (Code.region 32 _ _) _))) _ n _) _) | (with_reducible show Or (∃ n, rounds (acode _ (Code.block _ (Code.seq (Code.seq (Code.region 32 _ _) _) _))) _ n _) _) | (with_reducible show Or (∃ n, rounds (acode _ (Code.block _ (Code.seq (Code.seq (Code.seq (Code.region 32 _ _) _) _) _))) _ n _) _) | (with_reducible show Or (∃ n, rounds (acode _ (Code.block _ (Code.seq (Code.seq (Code.seq (Code.seq (Code.region 32 _ _) _) _) _) _))) _ n _) _)); refine Or.inr (Exists.intro (Nat) (Exists.intro (loopRE n ap) (And.intro (Exists.intro (0) (And.intro (Hold.out ?_) (And.intro ?_ (And.intro ?_ rfl)))) (fun v hv => ?_))))) | ((with_reducible show (∃ y, And (Spec.inv (loopRE _ _) y) _)); refine Exists.intro (v + 1) (And.intro (Hold.out ?_) (And.intro (And.intro ?_ (And.intro ?_ rfl)) (Hold.out ?_)))) | ((first | (with_reducible show Or (∃ n, rounds (acode _ (Code.seq (Code.region 39 _ _) _)) _ n _) _) | (with_reducible show Or (∃ n, rounds (acode _ (Code.seq (Code.seq (Code.region 39 _ _) _) _)) _ n _) _) | (with_reducible show Or (∃ n, rounds (acode _ (Code.seq (Code.seq (Code.seq (Code.region 39 _ _) _) _) _)) _ n _) _) | (with_reducible show Or (∃ n, rounds (acode _ (Code.seq (Code.seq (Code.seq (Code.seq (Code.region 39 _ _) _) _) _) _)) _ n _) _) | (with_reducible show Or (∃ n, rounds (acode _ (Code.block _ (Code.seq (Code.region 39 _ _) _))) _ n _) _) | (with_reducible show Or (∃ n, rounds (acode _ (Code.block _ (Code.seq (Code.seq (Code.region 39 _ _) _) _))) _ n _) _) | (with_reducible show Or (∃ n, rounds (acode _ (Code.block _ (Code.seq (Code.seq (Code.seq (Code.region 39 _ _) _) _) _))) _ n _) _) | (with_reducible show Or (∃ n, rounds (acode _ (Code.block _ (Code.seq (Code.seq (Code.seq (Code.seq (Code.region 39 _ _) _) _) _) _))) _ n _) _)); refine Or.inr (Exists.intro (Nat) (Exists.intro (loopRF n ap l) (And.intro (Exists.intro (0) (And.intro (Hold.out ?_) (And.intro ?_ (And.intro ?_ rfl)))) (fun j hj => ?_))))) | ((with_reducible show (∃ y, And (Spec.inv (loopRF _ _ _) y) _)); refine Exists.intro (j + 1) (And.intro (Hold.out ?_) (And.intro (And.intro ?_ (And.intro ?_ rfl)) (Hold.out ?_)))) | refine And.intro rfl ?_ | refine And.intro (HoldEq.out ?_) ?_ | refine And.intro (HoldOb.out ?_) ?_ | exact True.intro | refine HoldEq.out ?_ | refine HoldObs.out ?_ | refine KCheck.intro (by kernel_rfl) ?_ | refine HoldOr.out ?_)
  all_goals try first | refine HoldEq.int ?_ | refine HoldEq.bool ?_ | refine HoldEq.sl ?_ | refine HoldEq.own ?_ | refine HoldEq.ownS ?_ ?_ | refine HoldOb.row ?_ | refine HoldOb.map ?_ | refine HoldOb.gmap ?_ | refine HoldOb.grow ?_ | refine HoldObs.row ?_
  all_goals try simp only [take_one, take_one', set_one, take_all, List.length_singleton, rec_self, Int.toNat_natCast, pair_eta, ETy.dflt, List.getD_cons_zero, List.getD_cons_succ, Int.reduceToNat, Int.reduceAdd, Int.reduceSub, Int.reduceNeg, Nat.reduceAdd, Nat.zero_add, loopRA, loopRB, loopRC, loopRD, loopRE, loopRF] at *
  all_goals try (refine Hold.intro ?_; first | omega | (unfold i64ok; omega))
  · exact Hold.intro ⟨Nat.zero_le _, ckA_nil⟩
  · rw [rop_2 (fun e => by have := ckA_at e (k := a) (by omega); omega)]; exact HoldEq.intro rfl
  · rw [rop_2 (fun e => by have h1 := ckA_at e (k := a) (by omega); have h2 : ap.getD a 0 < n := h1.2; omega)]; exact HoldEq.intro rfl
  · exact Hold.intro ⟨by omega, ckA_succ ha.2 (by omega) ⟨by omega, by omega⟩⟩
  all_goals
    have hA : ckA n ap := by have e : ap.take a = ap := List.take_of_length_le (by omega)
                             have := ha.2
                             rw [e] at this; exact this
  all_goals try have hat := ckA_at hA (k := b) (by omega)
  all_goals try (refine Hold.intro ?_; rw [Int.toNat_of_nonneg hn.1]; exact hat)
  · exact Hold.intro ⟨Nat.zero_le _, List.nodup_nil⟩
  · have hg : (goneL n.toNat ap b).getD (ap.getD b 0).toNat false = true := by assumption
    rw [gone_get hA b (by omega) _ hat.1 hat.2] at hg
    rw [rop_9 hA (fun hn2 => nodup_take hn2 (by omega) hg)]; exact HoldEq.intro rfl
  · have hg : (goneL n.toNat ap b).getD (ap.getD b 0).toNat false = false := by assumption
    refine Hold.intro ⟨by omega, nodup_succ hb.2 (by omega) (fun hm => ?_)⟩
    rw [(gone_get hA b (by omega) _ hat.1 hat.2).2 hm] at hg; cases hg
  · rfl
  all_goals
    have eb : b = ap.length := by omega
    subst eb
    have hB : ap.Nodup := by have := hb.2; rw [List.take_length] at this; exact this
  · exact Hold.intro ⟨Nat.zero_le _, ckN_nil⟩
  · exact Hold.intro ⟨hn.2.2, hn.2.1⟩
  · rw [rop_13 hA hB (fun e => ckN_no e (k := c) (by omega) (by assumption))]; exact HoldEq.intro rfl
  · exact Hold.intro ⟨by omega, ckN_succ hc.2 (by omega) (by omega)⟩
  all_goals
    have ec : c = ap.length := by omega
    subst ec
    have hC : ckN (n, l) ap := by have := hc.2; rw [List.take_length] at this; exact this
  · exact Hold.intro ⟨Nat.zero_le _, ckM_zero⟩
  all_goals try have htd := triIn_spec (hin d (by omega))
  all_goals try (refine Hold.intro ?_; rw [Int.toNat_of_nonneg hn.1]; first | exact htd.1 | exact htd.2.1 | exact htd.2.2)
  all_goals try
    have hM : manyP n.toNat ap (tg l d) := by unfold manyP goneB; first | exact .inl ⟨by assumption, by assumption⟩ | exact .inr (.inl ⟨by assumption, by assumption⟩) | exact .inr (.inr ⟨by assumption, by assumption⟩)
    rw [rop_14 hA hB hC (fun e => ckM_no e (d := d) (by show d < l.length; omega) hM)]
    exact HoldEq.intro rfl
  all_goals try
    have hM : ¬ manyP n.toNat ap (tg l d) := many_no (by unfold goneB; first | exact .inl ⟨by assumption, by assumption⟩ | exact .inr (.inl ⟨by assumption, by assumption⟩) | exact .inr (.inr ⟨by assumption, by assumption⟩))
    exact Hold.intro ⟨by omega, ckM_succ hd.2 hM⟩
  all_goals
    have ed : d = l.length := by omega
    subst ed
    have hD : ckM (n, l) ap l.length := hd.2
    have hgh : ∀ v : Int, 0 ≤ v → v < n → (goneL n.toNat ap ap.length).getD v.toNat false = had (insM ap) v := fun v h0 h1 => gone_had hA h0 h1
  all_goals try have hgv := hgh v (by omega) (by omega)
  all_goals try rw [Int.toNat_natCast] at hgv
  all_goals try have hln := fm_len (oldG ap) v
  all_goals try have hlm := fm_len (opG n.toNat ap l) j
  all_goals try (refine Hold.intro ?_; first | omega | (unfold oldL; omega) | (unfold opT; omega))
  all_goals try
    have hh : (goneL n.toNat ap ap.length).getD v false = true := by assumption
    rw [hgv] at hh
    first
    | (rw [old_t hh]; done)
    | (rw [nam_t hh]; done)
  all_goals try
    have hh : (goneL n.toNat ap ap.length).getD v false = false := by assumption
    rw [hgv] at hh
    first
    | (rw [old_f hh, List.length_append]; rfl)
    | (rw [old_f hh]; done)
    | (rw [nam_f hh]; done)
  all_goals have ev : v = n.toNat := by omega
  all_goals subst ev
  · exact HoldOb.intro rfl
  all_goals try have ht := triIn_spec (hin j (by omega))
  all_goals try (refine Hold.intro ?_; rw [Int.toNat_of_nonneg hn.1]; first | exact ht.1 | exact ht.2.1 | exact ht.2.2)
  all_goals try
    have hh : (goneL n.toNat ap ap.length).getD (l.getD j (0, 0, 0)).1.toNat false = true := by assumption
    rw [hgh _ ht.1.1 ht.1.2] at hh
    have e := op_t (n := n.toNat) (l := l) (j := j) (.inl hh)
    first
    | (rw [e]; done)
    | (refine HoldOb.intro ?_; rw [e]; done)
  all_goals try
    have hh : (goneL n.toNat ap ap.length).getD (l.getD j (0, 0, 0)).2.1.toNat false = true := by assumption
    rw [hgh _ ht.2.1.1 ht.2.1.2] at hh
    have e := op_t (n := n.toNat) (l := l) (j := j) (.inr (.inl hh))
    first
    | (rw [e]; done)
    | (refine HoldOb.intro ?_; rw [e]; done)
  all_goals try
    have hh : (goneL n.toNat ap ap.length).getD (l.getD j (0, 0, 0)).2.2.toNat false = true := by assumption
    rw [hgh _ ht.2.2.1 ht.2.2.2] at hh
    have e := op_t (n := n.toNat) (l := l) (j := j) (.inr (.inr hh))
    first
    | (rw [e]; done)
    | (refine HoldOb.intro ?_; rw [e]; done)
  all_goals try
    have hh1 : (goneL n.toNat ap ap.length).getD (l.getD j (0, 0, 0)).1.toNat false = false := by assumption
    have hh2 : (goneL n.toNat ap ap.length).getD (l.getD j (0, 0, 0)).2.1.toNat false = false := by assumption
    have hh3 : (goneL n.toNat ap ap.length).getD (l.getD j (0, 0, 0)).2.2.toNat false = false := by assumption
    rw [hgh _ ht.1.1 ht.1.2] at hh1
    rw [hgh _ ht.2.1.1 ht.2.1.2] at hh2
    rw [hgh _ ht.2.2.1 ht.2.2.2] at hh3
    have e := op_f (n := n.toNat) (l := l) (j := j) hh1 hh2 hh3
    first
    | (rw [e]; done)
    | (refine HoldOb.intro ?_; rw [e, List.length_append]; rfl)
  all_goals have ej : j = l.length := by omega
  all_goals subst ej
  · rw [rop_0 hA hB hC hD (by assumption)]; exact HoldEq.intro rfl
  · rw [rop_11 hA hB hC hD (by assumption)]; exact HoldEq.intro rfl
end S1

open Go Go.Vm Go.Proofs
open S9 (surf9C surf9Row surfR surf9_iff chk_surf)
namespace S1
set_option maxRecDepth 100000

/-! the laws of star -/
def newFC (N : Int × List P3 → tabE.T) : List AV → Option Res := con1 soupE (fun s => some (none, some (newO s = some (N s)), .tup [(ETy.pt tabE).av (some (N s)), witE.av (0, 0, 0)]))
theorem newFRow (N : Int × List P3 → tabE.T) : FnRow Try.prog 28 (newFC N) := ⟨con1_ok fun s r h => by
  cases h
  intro σ vals w hag hv
  refine ⟨trivial, fun hq => ?_⟩
  have hq : newO s = some (N s) := hq
  exact ((newXRow (N s)).1 _ _ (rfl : newXC (N s) [soupE.av s] = _) σ vals w hag hv).2 hq, _, Try.func28, by kernel_rfl, by kernel_rfl⟩
theorem open_bad {x : tabE.T} {ap : List Int} {e : Int} (h : checkR x ap = e) (he : e ≠ 0) : openR x ap = ((0, []), [], e) := by
  unfold openR; rw [if_pos (by rw [h]; exact he), h]
theorem openO_of {s : Int × List P3} (h : Surf s) (ap : List Int) : openO s ap = openR (newT s) ap := by
  unfold openO; rw [(new_of h).1]
theorem fillO_of {s : Int × List P3} (h : Surf s) : fillO s = fillR (newT s) := by
  unfold fillO; rw [(new_of h).1]
end S1

open Go Go.Vm Go.Proofs
open S9 (surf9C surf9Row surfR surf9_iff chk_surf)
namespace S1
set_option maxRecDepth 100000

/-! star.Open is the document's -/
theorem rop_err (s : Int × List P3) (ap : List Int) (h : (ropR s ap).2.2 ≠ 0) : ropR s ap = ((0, []), [], (ropR s ap).2.2) := by
  unfold ropR at h ⊢
  split
  · rfl
  · rename_i h1; rw [if_neg h1] at h
    split
    · rfl
    · rename_i h1; rw [if_neg h1] at h
      split
      · rfl
      · rename_i h1; rw [if_neg h1] at h
        split
        · rfl
        · rename_i h1; rw [if_neg h1] at h
          split
          · rename_i h1; rw [if_pos h1] at h; exact absurd rfl h
          · rfl
theorem ckN_iff {s : Int × List P3} (hS : Surf s) {ap : List Int} (hA : ckA s.1 ap) : ckC (newT s) ap ↔ ckN s ap := by
  obtain ⟨k1, g, k3⟩ := new_of hS
  have key : ∀ a, aftR s a < 0 ↔ ¬ ∃ w, bE (newT s) w a := fun a => by
    have := aft_iff g (v := a)
    rw [k3] at this
    rw [← this]; omega
  constructor
  · intro h a ha
    exact (key a).2 ((inner_iff g).1 (h a ha)).2
  · intro h a ha
    exact (inner_iff g).2 ⟨hA a ha, (key a).1 (h a ha)⟩
theorem ckM_iff {s : Int × List P3} (hS : Surf s) {ap : List Int} (hA : ckA s.1 ap) : ckD (newT s) ap ↔ ckM s ap s.2.length := by
  obtain ⟨k1, g, k3⟩ := new_of hS
  have gone : ∀ v : Int, 0 ≤ v → v < s.1 → (goneB s.1.toNat ap v = true ↔ v ∈ ap) := fun v h0 h1 => by
    unfold goneB; rw [gone_had hA h0 h1, had_iff]
  constructor
  · intro h j hj hm
    have ht : (0 ≤ (tg s.2 j).1 ∧ (tg s.2 j).1 < s.1) ∧ (0 ≤ (tg s.2 j).2.1 ∧ (tg s.2 j).2.1 < s.1) ∧ (0 ≤ (tg s.2 j).2.2 ∧ (tg s.2 j).2.2 < s.1) := triIn_spec (hS.fit.2.2.2 j hj)
    have no : ∀ u w : Int, dE (tg s.2 j) u w → u ∈ ap → w ∈ ap → False := fun u w hd hu hw => by
      have : eE (newT s).1.2 u w := by rw [k3]; exact ⟨j, hj, hd⟩
      obtain ⟨d, d1, d2⟩ := eE_iff.1 this
      exact h u hu w (g.link_iff.2 ((near_iff g).2 ⟨d, d1, .inl d2⟩)) hw
    rcases hm with ⟨h1, h2⟩ | ⟨h1, h2⟩ | ⟨h1, h2⟩
    · exact no _ _ (.inl ⟨rfl, rfl⟩) ((gone _ ht.1.1 ht.1.2).1 h1) ((gone _ ht.2.1.1 ht.2.1.2).1 h2)
    · exact no _ _ (.inr (.inr ⟨rfl, rfl⟩)) ((gone _ ht.2.2.1 ht.2.2.2).1 h2) ((gone _ ht.1.1 ht.1.2).1 h1)
    · exact no _ _ (.inr (.inl ⟨rfl, rfl⟩)) ((gone _ ht.2.1.1 ht.2.1.2).1 h1) ((gone _ ht.2.2.1 ht.2.2.2).1 h2)
  · intro h a ha v hv hvm
    obtain ⟨d, d1, d2⟩ := (near_iff g).1 (g.link_iff.1 hv)
    have ka := hA a ha
    have kv := hA v hvm
    have he : ∃ u w, eE s.2 u w ∧ (u ∈ ap ∧ w ∈ ap) ∧ (0 ≤ u ∧ u < s.1) ∧ (0 ≤ w ∧ w < s.1) := by
      rcases d2 with d2 | d2
      · have := eE_iff.2 ⟨d, d1, d2⟩; rw [k3] at this; exact ⟨a, v, this, ⟨ha, hvm⟩, ka, kv⟩
      · have := eE_iff.2 ⟨d, d1, d2⟩; rw [k3] at this; exact ⟨v, a, this, ⟨hvm, ha⟩, kv, ka⟩
    obtain ⟨u, w, ⟨j, hj, hd⟩, ⟨hu, hw⟩, ru, rw'⟩ := he
    have gu := (gone u ru.1 ru.2).2 hu
    have gw := (gone w rw'.1 rw'.2).2 hw
    refine h j hj ?_
    rcases hd with ⟨e1, e2⟩ | ⟨e1, e2⟩ | ⟨e1, e2⟩
    · exact .inl ⟨by rw [e1]; exact gu, by rw [e2]; exact gw⟩
    · exact .inr (.inr ⟨by rw [e1]; exact gu, by rw [e2]; exact gw⟩)
    · exact .inr (.inl ⟨by rw [e2]; exact gw, by rw [e1]; exact gu⟩)
theorem open_ref {s : Int × List P3} (hS : Surf s) (ap : List Int) : openO s ap = ropR s ap := by
  rw [openO_of hS]
  obtain ⟨k1, g, k3⟩ := new_of hS
  by_cases hA : ckA s.1 ap
  case neg =>
    have e : ropR s ap = ((0, []), [], 2) := by unfold ropR; rw [if_pos hA]
    rw [e]
    refine open_bad ?_ (by omega)
    unfold checkR; rw [k3, if_pos hA]
  by_cases hB : ap.Nodup
  case neg =>
    have e : ropR s ap = ((0, []), [], 9) := by unfold ropR; rw [if_neg (fun k => k hA), if_pos hB]
    rw [e]
    refine open_bad (checkR_9 (by rw [k3]; exact hA) hB) (by omega)
  by_cases hC : ckN s ap
  case neg =>
    have e : ropR s ap = ((0, []), [], 13) := by unfold ropR; rw [if_neg (fun k => k hA), if_neg (fun k => k hB), if_pos hC]
    rw [e]
    refine open_bad ?_ (by omega)
    unfold checkR; rw [k3, if_neg (fun k => k hA), if_neg (fun k => k hB), if_pos (fun k => hC ((ckN_iff hS hA).1 k))]
  by_cases hD : ckM s ap s.2.length
  case neg =>
    have e : ropR s ap = ((0, []), [], 14) := by unfold ropR; rw [if_neg (fun k => k hA), if_neg (fun k => k hB), if_neg (fun k => k hC), if_pos hD]
    rw [e]
    refine open_bad ?_ (by omega)
    unfold checkR; rw [k3, if_neg (fun k => k hA), if_neg (fun k => k hB), if_neg (fun k => k ((ckN_iff hS hA).2 hC)), if_pos (fun k => hD ((ckM_iff hS hA).1 k))]
  rw [ropR_0 hA hB hC hD]
  have hck : checkR (newT s) ap = 0 := checkR_0 (by rw [k3]; exact hA) hB ((ckN_iff hS hA).2 hC) ((ckM_iff hS hA).2 hD)
  unfold openR
  rw [if_neg (fun k => k hck), k3]
  by_cases hs : surfR (openS s ap) = true
  · rw [if_pos hs, if_pos ((chk_surf _).2 hs)]
  · rw [if_neg hs, if_neg (fun k => hs ((chk_surf _).1 k))]
theorem openO_no {s : Int × List P3} (h : ¬ Surf s) (ap : List Int) : openO s ap = ((0, []), [], 11) := by
  have e : newO s = none := by unfold newO; rw [if_neg (fun e => h ((surf_iff s).1 e))]
  unfold openO; rw [e]
def ropFC (F : Int × List P3 → List Int → FoR) : List AV → Option Res := con2 soupE (.sl i64E) (fun s ap => some (none, some (fitS s ∧ F = ropR), openV (F s ap)))
theorem ropFRow (F : Int × List P3 → List Int → FoR) : FnRow Try.prog 38 (ropFC F) := ⟨con2_ok fun s ap r' h => by
  cases h
  intro σ vals w hag hv
  refine ⟨trivial, fun hq => ?_⟩
  obtain ⟨h1, h2⟩ : fitS s ∧ F = ropR := hq
  subst h2
  have := FnOk.res (fn_by (rulesF (fn := [(73, after17C), (34, surf9C)]) (fr := []) ⟨after17Row, surf9Row, trivial⟩ trivial) Try.func38 (by kernel_rfl) (q := none) fun _ _ => rop_vc s.1 s.2 ap h1) (fun σ v h => openW_rep (rop_err s ap) h)
  exact (this σ vals w hag hv).2 trivial, _, Try.func38, by kernel_rfl, by kernel_rfl⟩
set_option maxHeartbeats 4000000 in
theorem lawSO_vc (n : Int) (l : List P3) (ap : List Int) (F : Int × List P3 → List Int → FoR) (hF : F = openO) (G : Int × List P3 → List Int → FoR) (hG : G = ropR) : afun ⟨tyL, [(31, awake17C), (32, great17C), (37, opnFC F), (34, surf9C), (38, ropFC G), (36, sameC), (39, intsC)], []⟩ Try.f7 [soupE.av (n, l), (ETy.sl i64E).av ap] (fun r => r = .s (.bool true)) := by
  repeat' (conv => whnf
           first | done | refine Need.intro (by first | rfl | omega | (simp only [i64ok] at *; omega)) ?_ | refine Need.intro (Hold.out ?_) ?_ | refine Give.intro fun _ => ?_ | refine Both.intro ?_ ?_ | refine BIf.and ?_ | refine BIf.or ?_ | refine BIf.eqi (fun _ => ?_) (fun _ => ?_) | refine BIf.nei (fun _ => ?_) (fun _ => ?_) | refine BIf.dec (fun _ => ?_) (fun _ => ?_) | refine BIf.nt ?_ | refine BIf.intro (fun _ => ?_) (fun _ => ?_) | refine And.intro rfl ?_ | refine And.intro (HoldEq.out ?_) ?_ | refine And.intro (HoldOb.out ?_) ?_ | exact True.intro | refine HoldEq.out ?_ | refine HoldObs.out ?_ | refine KCheck.intro (by kernel_rfl) ?_ | refine HoldOr.out ?_)
  all_goals try first | refine HoldEq.int ?_ | refine HoldEq.bool ?_ | refine HoldEq.sl ?_ | refine HoldEq.own ?_ | refine HoldEq.ownS ?_ ?_ | refine HoldOb.row ?_ | refine HoldOb.map ?_ | refine HoldOb.gmap ?_ | refine HoldOb.grow ?_ | refine HoldObs.row ?_
  all_goals try simp only [take_one, take_one', set_one, take_all, List.length_singleton, rec_self, Int.toNat_natCast, pair_eta, ETy.dflt, List.getD_cons_zero, List.getD_cons_succ, Int.reduceToNat, Int.reduceAdd, Int.reduceSub, Int.reduceNeg, Nat.reduceAdd, Nat.zero_add] at *
  all_goals try
    have hS : Surf (n, l) := (surf9_iff (n, l)).1 (by unfold surfR; rw [beq_iff_eq]; assumption)
    have e : F (n, l) ap = G (n, l) ap := by rw [hF, hG]; exact open_ref hS ap
    first
    | exact Hold.intro ⟨hS.fit, hG⟩
    | (unfold intsR; rw [decide_eq_true_eq, e]; done)
    | exact absurd (congrArg (fun r => r.2.2) e) (by assumption)
    | exact absurd (congrArg (fun r => r.1) e) (by assumption)
  all_goals
    have hS : ¬ Surf (n, l) := fun hS => by
      have := (surf9_iff (n, l)).2 hS
      unfold surfR at this
      rw [beq_iff_eq] at this
      exact absurd this (by assumption)
    have e : F (n, l) ap = ((0, []), [], 11) := by rw [hF]; exact openO_no hS ap
  · rw [e]; rfl
  all_goals exfalso
  · have hh : ((F (n, l) ap).2.1.length : Int) ≠ 0 := by assumption
    rw [e] at hh; exact hh rfl
  · have hh : (List.length (F (n, l) ap).1.2 : Int) ≠ 0 := by assumption
    rw [e] at hh; exact hh rfl
  · have hh : (F (n, l) ap).1.1 ≠ 0 := by assumption
    rw [e] at hh; exact hh rfl
def lawSOC : List AV → Option Res := con2 soupE (.sl i64E) (fun _ _ => some (none, none, .s (.bool true)))
theorem lawSORow : FnRow Try.prog 7 lawSOC := ⟨con2_ok fun s ap r h => by
  cases h
  exact fn_by (rulesF (fn := [(31, awake17C), (32, great17C), (37, opnFC openO), (34, surf9C), (38, ropFC ropR), (36, sameC), (39, intsC)]) (fr := []) ⟨awake17Row, great17Row, (opnFRow openO), surf9Row, (ropFRow ropR), sameRow, intsRow, trivial⟩ trivial) Try.func7 (by kernel_rfl) fun _ _ => lawSO_vc s.1 s.2 ap openO rfl ropR rfl, _, Try.func7, by kernel_rfl, by kernel_rfl⟩
end S1
