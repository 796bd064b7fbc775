/- A part of the proofs of the laws of this seat: contracts of functions, each for every input that its text names. -/
import Derived.Test.YtkkhoppffmnkiaaS4
set_option linter.unusedSimpArgs false
set_option linter.unusedVariables false
open Go Go.Vm Go.Proofs
namespace S1
set_option maxRecDepth 100000

/-! sorted -/
def sw1 (t : P3) : P3 := if t.1 > t.2.1 then (t.2.1, t.1, t.2.2) else t
def sw2 (t : P3) : P3 := if t.2.1 > t.2.2 then (t.1, t.2.2, t.2.1) else t
def sortR (t : P3) : P3 := sw1 (sw2 (sw1 t))
theorem sw1_pos {a b c : Int} (h : a > b) : sw1 (a, b, c) = (b, a, c) := if_pos h
theorem sw1_neg {a b c : Int} (h : ¬ a > b) : sw1 (a, b, c) = (a, b, c) := if_neg h
theorem sw2_pos {a b c : Int} (h : b > c) : sw2 (a, b, c) = (a, c, b) := if_pos h
theorem sw2_neg {a b c : Int} (h : ¬ b > c) : sw2 (a, b, c) = (a, b, c) := if_neg h
theorem sort_vc {fn} (t : P3) : afun ⟨tyL, fn, []⟩ Try.f24 [ETy.arr3.av t] (fun v => v = ETy.arr3.av (sortR t)) := by
  obtain ⟨a, b, c⟩ := t
  repeat' (conv => whnf
           first
            | done
            | refine Need.intro (by first | omega | (simp only [i64ok] at *; omega)) ?_
            | refine Need.intro (Hold.out ?_) ?_
            | refine Give.intro fun _ => ?_
            | refine BIf.and ?_
            | refine BIf.or ?_
            | refine BIf.eqi (fun _ => ?_) (fun _ => ?_)
            | refine BIf.nei (fun _ => ?_) (fun _ => ?_)
            | refine BIf.dec (fun _ => ?_) (fun _ => ?_)
            | refine BIf.nt ?_
            | refine BIf.intro (fun _ => ?_) (fun _ => ?_)
            | refine And.intro rfl ?_
            | refine And.intro (HoldEq.out ?_) ?_
            | refine And.intro (HoldOb.out ?_) ?_
            | exact True.intro
            | refine HoldEq.out ?_
            | refine HoldObs.out ?_
            | refine HoldOr.out ?_)
  all_goals rename_i h1 h2 h3
  all_goals refine HoldEq.intro ?_
  all_goals unfold sortR
  all_goals (first | rw [sw1_pos h1] | rw [sw1_neg h1])
  all_goals (first | rw [sw2_pos h2] | rw [sw2_neg h2])
  all_goals (first | rw [sw1_pos h3] | rw [sw1_neg h3])
  all_goals rfl
def sortC : List AV → Option Res := con1 .arr3 (fun t => some (none, none, ETy.arr3.av (sortR t)))
theorem sortRow : FnRow Try.prog 24 sortC := ⟨con1_ok fun s r h => by cases h; exact fn_by (rules (fn := []) trivial) Try.func24 (by kernel_rfl) fun _ _ => sort_vc s, _, Try.func24, by kernel_rfl, by kernel_rfl⟩

/-! fits -/
def vIn (n v : Int) : Bool := !(decide (v < 0) || decide (v ≥ n))
def triIn (n : Int) (t : P3) : Bool := vIn n t.1 && (vIn n t.2.1 && vIn n t.2.2)
def fitsR (s : Int × List P3) : Bool := s.2.all (triIn s.1)
def loopFits (n : Int) (l : List P3) : Spec Nat where
  inv i := i ≤ l.length ∧ l.all (triIn n) = (l.drop i).all (triIn n)
  live i := [(10, .s (.int .i64 i))]
  keep := [0, 1, 8, 9]
  heap _ := []
  keepH := [0]
  mu i := l.length - i
theorem fits_vc {fn} (n : Int) (l : List P3) : afun ⟨tyL, fn, []⟩ Try.f22 [soupE.av (n, l)] (fun v => v = .s (.bool (fitsR (n, l)))) := by
  repeat' (conv => whnf
           first
            | done
            | refine Need.intro (by first | omega | (simp only [i64ok] at *; omega)) ?_
            | refine Need.intro (Hold.out ?_) ?_
            | refine Give.intro fun _ => ?_
            | refine BIf.and ?_
            | refine BIf.or ?_
            | refine BIf.eqi (fun _ => ?_) (fun _ => ?_)
            | refine BIf.nei (fun _ => ?_) (fun _ => ?_)
            | refine BIf.dec (fun _ => ?_) (fun _ => ?_)
            | refine BIf.nt ?_
            | refine BIf.intro (fun _ => ?_) (fun _ => ?_)
            | refine And.intro rfl ?_
            | refine And.intro (HoldEq.out ?_) ?_
            | refine And.intro (HoldOb.out ?_) ?_
            | exact True.intro
            | refine HoldEq.out ?_
            | refine HoldObs.out ?_
            | refine HoldOr.out ?_)
  refine HoldOr.intro ?_
  refine Or.inr (Exists.intro (Nat) (Exists.intro (loopFits n l) (And.intro (Exists.intro (0) (And.intro (Hold.out ?_) (And.intro ?_ (And.intro ?_ rfl)))) (fun x hi => ?_))))
  repeat' (conv => whnf
           first
            | done
            | refine Need.intro (by first | omega | (simp only [i64ok] at *; omega)) ?_
            | refine Need.intro (Hold.out ?_) ?_
            | refine Give.intro fun _ => ?_
            | refine BIf.and ?_
            | refine BIf.or ?_
            | refine BIf.eqi (fun _ => ?_) (fun _ => ?_)
            | refine BIf.nei (fun _ => ?_) (fun _ => ?_)
            | refine BIf.dec (fun _ => ?_) (fun _ => ?_)
            | refine BIf.nt ?_
            | refine BIf.intro (fun _ => ?_) (fun _ => ?_)
            | refine Or.inl (Exists.intro (4) ?_)
            | refine Exists.intro (x + 1) (And.intro (Hold.out ?_) (And.intro (And.intro ?_ (And.intro ?_ rfl)) (Hold.out ?_)))
            | refine And.intro rfl ?_
            | refine And.intro (HoldEq.out ?_) ?_
            | refine And.intro (HoldOb.out ?_) ?_
            | exact True.intro
            | refine HoldEq.out ?_
            | refine HoldObs.out ?_
            | refine HoldOr.out ?_)
  · exact Hold.intro ⟨Nat.zero_le _, rfl⟩
  all_goals (try dsimp only at *)
  all_goals (try (refine HoldEq.bool ?_; simp only [fitsR]; rw [show l.all (triIn n) = (l.drop x).all (triIn n) from hi.2, drop_now ETy.arr3.dflt (by omega)]; simp [triIn, vIn, -List.all_eq_true] at *; omega))
  all_goals (try (refine HoldEq.bool ?_; simp only [fitsR]; rw [show l.all (triIn n) = (l.drop x).all (triIn n) from hi.2, drop_all (by omega)]; simp; done))
  · refine Hold.intro ⟨by omega, ?_⟩
    have hp : triIn n (l.getD x ETy.arr3.dflt) = true := by simp [triIn, vIn] at *; omega
    rw [show l.all (triIn n) = (l.drop x).all (triIn n) from hi.2, drop_now ETy.arr3.dflt (by omega), List.all_cons, hp, Bool.true_and]
  · refine Hold.intro ?_
    show l.length - (x + 1) < l.length - x
    omega
def fitsC : List AV → Option Res := con1 soupE (fun s => some (none, none, .s (.bool (fitsR s))))
theorem fitsRow : FnRow Try.prog 22 fitsC := ⟨con1_ok fun s r h => by cases h; exact fn_by (rules (fn := []) trivial) Try.func22 (by kernel_rfl) fun _ _ => fits_vc s.1 s.2, _, Try.func22, by kernel_rfl, by kernel_rfl⟩

/-! known -/
abbrev M2 := List (ETy.arr2.T × ETy.bool.T)
abbrev M3 := List (ETy.arr3.T × ETy.bool.T)
def edge (a b : Int) : Int × Int := (min a b, max a b)
def addE (m : M2) (t : P3) : M2 := mset .arr2 (mset .arr2 (mset .arr2 m (edge t.1 t.2.1) true) (edge t.2.1 t.2.2) true) (edge t.2.2 t.1) true
def knownR : List P3 → M2 → M3 → M2 × M3
  | [], m, k => (m, k)
  | t :: l, m, k => knownR l (addE m t) (mset .arr3 k (sortR t) true)
def loopKnown (l : List P3) : Spec (Nat × M2 × M3) where
  inv x := x.1 ≤ l.length ∧ knownR l [] [] = knownR (l.drop x.1) x.2.1 x.2.2
  live x := [(16, .s (.int .i64 x.1))]
  keep := [0, 1, 4, 5, 14, 15]
  heap x := [(1, .map .arr2 .bool x.2.1), (2, .map .arr3 .bool x.2.2)]
  keepH := [0]
  mu x := l.length - x.1
theorem known_vc (n : Int) (l : List P3) : afun ⟨tyL, ([(24, sortC)]), []⟩ Try.f23 [soupE.av (n, l)] (fun v => v = .tup [.s (.mp .arr2 .bool (knownR l [] []).1), .s (.mp .arr3 .bool (knownR l [] []).2)]) := by
  repeat' (conv => whnf
           first
            | done
            | refine Need.intro (by first | omega | (simp only [i64ok] at *; omega)) ?_
            | refine Need.intro (Hold.out ?_) ?_
            | refine Give.intro fun _ => ?_
            | refine BIf.and ?_
            | refine BIf.or ?_
            | refine BIf.eqi (fun _ => ?_) (fun _ => ?_)
            | refine BIf.nei (fun _ => ?_) (fun _ => ?_)
            | refine BIf.dec (fun _ => ?_) (fun _ => ?_)
            | refine BIf.nt ?_
            | refine BIf.intro (fun _ => ?_) (fun _ => ?_)
            | refine And.intro rfl ?_
            | refine And.intro (HoldEq.out ?_) ?_
            | refine And.intro (HoldOb.out ?_) ?_
            | exact True.intro
            | refine HoldEq.out ?_
            | refine HoldObs.out ?_
            | refine HoldOr.out ?_)
  refine HoldOr.intro ?_
  refine Or.inr (Exists.intro (Nat × M2 × M3) (Exists.intro (loopKnown l) (And.intro (Exists.intro ((0, [], [])) (And.intro (Hold.out ?_) (And.intro ?_ (And.intro ?_ rfl)))) (fun x hi => ?_))))
  repeat' (conv => whnf
           first
            | done
            | refine Need.intro (by first | omega | (simp only [i64ok] at *; omega)) ?_
            | refine Need.intro (Hold.out ?_) ?_
            | refine Give.intro fun _ => ?_
            | refine BIf.and ?_
            | refine BIf.or ?_
            | refine BIf.eqi (fun _ => ?_) (fun _ => ?_)
            | refine BIf.nei (fun _ => ?_) (fun _ => ?_)
            | refine BIf.dec (fun _ => ?_) (fun _ => ?_)
            | refine BIf.nt ?_
            | refine BIf.intro (fun _ => ?_) (fun _ => ?_)
            | refine Or.inl (Exists.intro (4) ?_)
            | refine Exists.intro ((x.1 + 1, addE x.2.1 (l.getD x.1 ETy.arr3.dflt), mset .arr3 x.2.2 (sortR (l.getD x.1 ETy.arr3.dflt)) true)) (And.intro (Hold.out ?_) (And.intro (And.intro ?_ (And.intro ?_ rfl)) (Hold.out ?_)))
            | refine And.intro rfl ?_
            | refine And.intro (HoldEq.out ?_) ?_
            | refine And.intro (HoldOb.out ?_) ?_
            | exact True.intro
            | refine HoldEq.out ?_
            | refine HoldObs.out ?_
            | refine HoldOr.out ?_)
  · exact Hold.intro ⟨Nat.zero_le _, rfl⟩
  · exact Hold.intro (by decide)
  · exact Hold.intro (by decide)
  · exact Hold.intro (by decide)
  all_goals (try dsimp only at *)
  · have hi : _ ∧ _ := hi
    refine Hold.intro ⟨by omega, ?_⟩
    rw [hi.2, drop_now ETy.arr3.dflt (by omega)]; rfl
  · refine Hold.intro ?_
    show l.length - (x.1 + 1) < l.length - x.1
    omega
  · have hi : _ ∧ _ := hi
    refine HoldEq.intro ?_
    rw [hi.2, drop_all (by omega)]; rfl
def knownC : List AV → Option Res := con1 soupE (fun s => some (none, none, .tup [.s (.mp .arr2 .bool (knownR s.2 [] []).1), .s (.mp .arr3 .bool (knownR s.2 [] []).2)]))
theorem knownRow : FnRow Try.prog 23 knownC := ⟨con1_ok fun s r h => by cases h; exact fn_by (rules (fn := ([(24, sortC)])) ⟨sortRow, trivial⟩) Try.func23 (by kernel_rfl) fun _ _ => known_vc s.1 s.2, _, Try.func23, by kernel_rfl, by kernel_rfl⟩

/-! Simplicial -/
def imgOf (image : List Int) (t : P3) : P3 := sortR (image.getD t.1.toNat 0, image.getD t.2.1.toNat 0, image.getD t.2.2.toNat 0)
def simpT (m : M2) (k : M3) (image : List Int) (t : P3) : Bool :=
  if (imgOf image t).1 = (imgOf image t).2.2 then true
  else if (imgOf image t).1 = (imgOf image t).2.1 ∨ (imgOf image t).2.1 = (imgOf image t).2.2 then (mget .arr2 m ((imgOf image t).1, (imgOf image t).2.2)).getD false
  else (mget .arr3 k (imgOf image t)).getD false
def simpG (fine coarse : Int × List P3) (image : List Int) : Bool :=
  (image.length : Int) == max fine.1 0 && (fitsR fine && (fitsR coarse && ((image.length : Int) == fine.1 && !badAny coarse.1 image)))
def simpR (fine coarse : Int × List P3) (image : List Int) : Bool :=
  simpG fine coarse image && fine.2.all (simpT (knownR coarse.2 [] []).1 (knownR coarse.2 [] []).2 image)
def loopS1 (image : List Int) (n : Int) : Spec Nat where
  inv i := i ≤ image.length ∧ badAny n image = badAny n (image.drop i)
  live i := [(39, .s (.int .i64 i))]
  keep := [2, 3, 4, 37, 38]
  heap _ := []
  keepH := [0, 1]
  mu i := image.length - i
def loopS2 (l : List P3) (f : P3 → Bool) : Spec Nat where
  inv i := i ≤ l.length ∧ l.all f = (l.drop i).all f
  live i := [(60, .s (.int .i64 i))]
  keep := [2, 3, 4, 9, 10, 58, 59]
  heap _ := []
  keepH := [0, 1]
  mu i := l.length - i
theorem all_step {l : List P3} {f : P3 → Bool} {x : Nat} (hi : x ≤ l.length ∧ l.all f = (l.drop x).all f) (h : (x : Int) < l.length) (hf : f (l.getD x (0, 0, 0)) = true) : x + 1 ≤ l.length ∧ l.all f = (l.drop (x + 1)).all f :=
  ⟨by omega, by rw [hi.2, drop_now (0, 0, 0) h, List.all_cons, hf, Bool.true_and]⟩
theorem all_bad {l : List P3} {f : P3 → Bool} {x : Nat} (hi : x ≤ l.length ∧ l.all f = (l.drop x).all f) (h : (x : Int) < l.length) (hf : f (l.getD x (0, 0, 0)) = false) : false = l.all f := by
  rw [hi.2, drop_now (0, 0, 0) h, List.all_cons, hf, Bool.false_and]
theorem all_end {l : List P3} {f : P3 → Bool} {x : Nat} (hi : x ≤ l.length ∧ l.all f = (l.drop x).all f) (h : ¬ (x : Int) < l.length) : true = l.all f := by
  rw [hi.2, drop_all h]; rfl
theorem simpT_1 {m : M2} {k : M3} {image : List Int} {t : P3} (h : (imgOf image t).1 = (imgOf image t).2.2) : simpT m k image t = true := if_pos h
theorem simpT_2 {m : M2} {k : M3} {image : List Int} {t : P3} {b : Bool} (h : (imgOf image t).1 ≠ (imgOf image t).2.2) (h2 : (imgOf image t).1 = (imgOf image t).2.1) (hb : (mget .arr2 m ((imgOf image t).1, (imgOf image t).2.2)).getD false = b) : simpT m k image t = b := by
  unfold simpT; rw [if_neg h, if_pos (.inl h2), hb]
theorem simpT_3 {m : M2} {k : M3} {image : List Int} {t : P3} {b : Bool} (h : (imgOf image t).1 ≠ (imgOf image t).2.2) (h2 : (imgOf image t).2.1 = (imgOf image t).2.2) (hb : (mget .arr2 m ((imgOf image t).1, (imgOf image t).2.2)).getD false = b) : simpT m k image t = b := by
  unfold simpT; rw [if_neg h, if_pos (.inr h2), hb]
theorem simpT_4 {m : M2} {k : M3} {image : List Int} {t : P3} {b : Bool} (h : (imgOf image t).1 ≠ (imgOf image t).2.2) (h2 : (imgOf image t).1 ≠ (imgOf image t).2.1) (h3 : (imgOf image t).2.1 ≠ (imgOf image t).2.2) (hb : (mget .arr3 k (imgOf image t)).getD false = b) : simpT m k image t = b := by
  unfold simpT; rw [if_neg h, if_neg (by rintro (h | h) <;> contradiction), hb]
theorem fits_at {n : Int} {l : List P3} {x : Nat} (h : fitsR (n, l) = true) (hx : (x : Int) < l.length) : triIn n (l.getD x (0, 0, 0)) = true := by
  simp only [fitsR, List.all_eq_true] at h
  have hx : x < l.length := by omega
  rw [List.getD_eq_getElem?_getD, List.getElem?_eq_getElem hx]
  exact h _ (List.getElem_mem hx)
theorem vIn_spec {n v : Int} (h : vIn n v = true) : 0 ≤ v ∧ v < n := by simp [vIn] at h; omega
theorem simp_vc (fine coarse : Int × List P3) (image : List Int) : afun ⟨tyL, ([(22, fitsC), (23, knownC), (24, sortC)]), []⟩ Try.f15 [soupE.av fine, soupE.av coarse, (ETy.sl (.int .i64)).av image] (fun v => v = .s (.bool (simpR fine coarse image))) := by
  obtain ⟨fn, fl⟩ := fine
  obtain ⟨cn, cl⟩ := coarse
  repeat' (conv => whnf
           first
            | done
            | refine Need.intro (by first | omega | (simp only [i64ok] at *; omega)) ?_
            | refine Need.intro (Hold.out ?_) ?_
            | refine Give.intro fun _ => ?_
            | refine BIf.and ?_
            | refine BIf.or ?_
            | refine BIf.eqi (fun _ => ?_) (fun _ => ?_)
            | refine BIf.nei (fun _ => ?_) (fun _ => ?_)
            | refine BIf.dec (fun _ => ?_) (fun _ => ?_)
            | refine BIf.nt ?_
            | refine BIf.intro (fun _ => ?_) (fun _ => ?_)
            | refine And.intro rfl ?_
            | refine And.intro (HoldEq.out ?_) ?_
            | refine And.intro (HoldOb.out ?_) ?_
            | exact True.intro
            | refine HoldEq.out ?_
            | refine HoldObs.out ?_
            | refine HoldOr.out ?_)
  · rename_i h
    refine HoldEq.bool ?_
    have h : ((image.length : Int) == max fn 0) = false := beq_false_of_ne h
    simp only [simpR, simpG, h, Bool.false_and]
  · rename_i h
    refine HoldEq.bool ?_
    have h : ((image.length : Int) == fn) = false := beq_false_of_ne h
    simp only [simpR, simpG, h, Bool.false_and, Bool.and_false]
  · rename_i a1 a2 a3 a4 a5 a6 a7
    have hm : (image.length : Int) = max fn 0 := a2
    have hf : fitsR (fn, fl) = true := a3
    have hc : fitsR (cn, cl) = true := a4
    have hl : (image.length : Int) = fn := a6
    clear a2 a3 a4 a5 a6 a7
    have hG : simpG (fn, fl) (cn, cl) image = !badAny cn image := by
      have e1 : ((image.length : Int) == max fn 0) = true := beq_iff_eq.2 hm
      have e2 : ((image.length : Int) == fn) = true := beq_iff_eq.2 hl
      simp only [simpG, hf, hc, e1, e2, Bool.true_and]
    refine HoldOr.intro ?_
    refine Or.inr (Exists.intro (Nat) (Exists.intro (loopS1 image cn) (And.intro (Exists.intro (0) (And.intro (Hold.out ?_) (And.intro ?_ (And.intro ?_ rfl)))) (fun x hi => ?_))))
    repeat' (conv => whnf
             first
              | done
              | refine Need.intro (by first | omega | (simp only [i64ok] at *; omega)) ?_
              | refine Need.intro (Hold.out ?_) ?_
              | refine Give.intro fun _ => ?_
              | refine BIf.and ?_
              | refine BIf.or ?_
              | refine BIf.eqi (fun _ => ?_) (fun _ => ?_)
              | refine BIf.nei (fun _ => ?_) (fun _ => ?_)
              | refine BIf.dec (fun _ => ?_) (fun _ => ?_)
              | refine BIf.nt ?_
              | refine BIf.intro (fun _ => ?_) (fun _ => ?_)
              | refine Exists.intro (x + 1) (And.intro (Hold.out ?_) (And.intro (And.intro ?_ (And.intro ?_ rfl)) (Hold.out ?_)))
              | refine And.intro rfl ?_
              | refine And.intro (HoldEq.out ?_) ?_
              | refine And.intro (HoldOb.out ?_) ?_
              | exact True.intro
              | refine HoldEq.out ?_
              | refine HoldObs.out ?_
              | refine HoldOr.out ?_)
    · exact Hold.intro ⟨Nat.zero_le _, rfl⟩
    · rename_i h1 h2
      have h2 : image.getD x 0 < 0 := h2
      have hi : _ ∧ _ := hi
      refine HoldEq.bool ?_
      simp only [simpR, hG]
      rw [hi.2, drop_now 0 h1]
      simp only [badAny, decide_eq_true h2, Bool.true_or, Bool.not_true, Bool.false_and]
    · rename_i h1 h2 h3
      have h3 : image.getD x 0 ≥ cn := h3
      have hi : _ ∧ _ := hi
      refine HoldEq.bool ?_
      simp only [simpR, hG]
      rw [hi.2, drop_now 0 h1]
      simp only [badAny, decide_eq_true h3, Bool.true_or, Bool.or_true, Bool.not_true, Bool.false_and]
    · rename_i h1 h2 h3
      have h2 : ¬ image.getD x 0 < 0 := h2
      have h3 : ¬ image.getD x 0 ≥ cn := h3
      have hi : _ ∧ _ := hi
      refine Hold.intro ⟨by omega, ?_⟩
      rw [hi.2, drop_now 0 h1]
      simp only [badAny, decide_eq_false h2, decide_eq_false h3, Bool.false_or]
    · rename_i h1 h2 h3
      refine Hold.intro ?_
      show image.length - (x + 1) < image.length - x
      omega
    · rename_i h1 h2
      have hi : _ ∧ _ := hi
      have hb : badAny cn image = false := by rw [hi.2, drop_all h1]; rfl
      rw [hb] at hG
      have hR : simpR (fn, fl) (cn, cl) image = fl.all (simpT (knownR cl [] []).1 (knownR cl [] []).2 image) := by
        simp only [simpR, hG, Bool.not_false, Bool.true_and]
      clear hi h1
      rename Nat => x0
      refine HoldOr.intro ?_
      refine Or.inr (Exists.intro (Nat) (Exists.intro (loopS2 fl (simpT (knownR cl [] []).1 (knownR cl [] []).2 image)) (And.intro (Exists.intro (0) (And.intro (Hold.out ?_) (And.intro ?_ (And.intro ?_ rfl)))) (fun x hi => ?_))))
      repeat' (conv => whnf
               first
                | done
                | refine Need.intro (by first | omega | (simp only [i64ok] at *; omega)) ?_
                | refine Need.intro (Hold.out ?_) ?_
                | refine Give.intro fun _ => ?_
                | refine BIf.and ?_
                | refine BIf.or ?_
                | refine BIf.eqi (fun _ => ?_) (fun _ => ?_)
                | refine BIf.nei (fun _ => ?_) (fun _ => ?_)
                | refine BIf.dec (fun _ => ?_) (fun _ => ?_)
                | refine BIf.nt ?_
                | refine BIf.intro (fun _ => ?_) (fun _ => ?_)
                | refine Exists.intro (x + 1) (And.intro (Hold.out ?_) (And.intro (And.intro ?_ (And.intro ?_ rfl)) (Hold.out ?_)))
                | refine And.intro rfl ?_
                | refine And.intro (HoldEq.out ?_) ?_
                | refine And.intro (HoldOb.out ?_) ?_
                | exact True.intro
                | refine HoldEq.out ?_
                | refine HoldObs.out ?_
                | refine HoldOr.out ?_)
      · exact Hold.intro ⟨Nat.zero_le _, rfl⟩
      · rename_i h1
        have := fits_at hf h1
        simp only [triIn, Bool.and_eq_true] at this
        rw [← hl] at this
        exact Hold.intro (vIn_spec this.1)
      · rename_i h1
        have := fits_at hf h1
        simp only [triIn, Bool.and_eq_true] at this
        rw [← hl] at this
        exact Hold.intro (vIn_spec this.2.1)
      · rename_i h1
        have := fits_at hf h1
        simp only [triIn, Bool.and_eq_true] at this
        rw [← hl] at this
        exact Hold.intro (vIn_spec this.2.2)
      · rename_i h1 h3
        exact Hold.intro (all_step hi h1 (simpT_1 h3))
      · rename_i h1 h3
        have h1 : (x : Int) < fl.length := h1
        exact Hold.intro (show fl.length - (x + 1) < fl.length - x by omega)
      · rename_i h1 h3 h4 h5
        exact Hold.intro (all_step hi h1 (simpT_2 h3 h4 h5))
      · rename_i h1 h3 h4 h5
        have h1 : (x : Int) < fl.length := h1
        exact Hold.intro (show fl.length - (x + 1) < fl.length - x by omega)
      · rename_i h1 h3 h4 h5
        refine HoldEq.bool ?_
        rw [hR]
        exact all_bad hi h1 (simpT_2 h3 h4 h5)
      · rename_i h1 h3 h3' h4 h5
        exact Hold.intro (all_step hi h1 (simpT_3 h3 h4 h5))
      · rename_i h1 h3 h3' h4 h5
        have h1 : (x : Int) < fl.length := h1
        exact Hold.intro (show fl.length - (x + 1) < fl.length - x by omega)
      · rename_i h1 h3 h3' h4 h5
        refine HoldEq.bool ?_
        rw [hR]
        exact all_bad hi h1 (simpT_3 h3 h4 h5)
      · rename_i h1 h3 h3' h4 h5
        exact Hold.intro (all_step hi h1 (simpT_4 h3 h3' h4 h5))
      · rename_i h1 h3 h3' h4 h5
        have h1 : (x : Int) < fl.length := h1
        exact Hold.intro (show fl.length - (x + 1) < fl.length - x by omega)
      · rename_i h1 h3 h3' h4 h5
        refine HoldEq.bool ?_
        rw [hR]
        exact all_bad hi h1 (simpT_4 h3 h3' h4 h5)
      · rename_i h1
        refine HoldEq.bool ?_
        rw [hR]
        exact all_end hi h1
  · rename_i h
    have h : fitsR (cn, cl) = false := h
    refine HoldEq.bool ?_
    simp only [simpR, simpG, h, Bool.false_and, Bool.and_false]
  · rename_i h
    have h : fitsR (fn, fl) = false := h
    refine HoldEq.bool ?_
    simp only [simpR, simpG, h, Bool.false_and, Bool.and_false]
end S1
