/- A part of the proofs of the laws of this seat: contracts of functions, each for every input that its text names. -/
import Derived.Test.YtkkhoppffmnkiaaS2
set_option linter.unusedSimpArgs false
set_option linter.unusedVariables false
open Go Go.Vm Go.Proofs
namespace S1
set_option maxRecDepth 100000

theorem drop_at {α : Type} {l : List α} {i : Nat} (d : α) (h : i < l.length) : l.drop i = l.getD i d :: l.drop (i + 1) := by
  rw [List.drop_eq_getElem_cons h]
  simp [List.getD_eq_getElem?_getD, h]
theorem drop_all {α : Type} {l : List α} {i : Nat} (h : ¬ (i : Int) < l.length) : l.drop i = [] := List.drop_eq_nil_of_le (by omega)
theorem drop_now {α : Type} {l : List α} {i : Nat} (d : α) (h : (i : Int) < l.length) : l.drop i = l.getD i d :: l.drop (i + 1) := drop_at d (by omega)

/-! check -/
def badAny (n : Int) : List Int → Bool
  | [] => false
  | k :: r => decide (k < 0) || decide (k ≥ n) || badAny n r
def checkR (p : List P3) (image : List Int) (q : List P3) : Int :=
  if (image.length : Int) ≠ p.length then 1 else if badAny q.length image then 2 else 0
def loopCheck (image : List Int) (n : Int) : Spec Nat where
  inv i := i ≤ image.length ∧ badAny n image = badAny n (image.drop i)
  live i := [(16, .s (.int .i64 i))]
  keep := [0, 1, 2, 14, 15]
  heap _ := []
  keepH := []
  mu i := image.length - i

theorem check_vc {fn} (p : List P3) (image : List Int) (q : List P3) : afun ⟨tyL, fn, []⟩ Try.f20 [(ETy.sl .arr3).av p, (ETy.sl (.int .i64)).av image, (ETy.sl .arr3).av q] (fun v => v = .s (.int .i64 (checkR p image q))) := by
  repeat' (conv => whnf
           first
            | done
            | refine Need.intro (by first | omega | (simp only [i64ok] at *; omega)) ?_
            | refine Need.intro (Hold.out ?_) ?_
            | refine Give.intro fun _ => ?_
            | refine BIf.and ?_
            | refine BIf.or ?_
            | refine BIf.eqi (fun _ => ?_) (fun _ => ?_)
            | refine BIf.nei (fun _ => ?_) (fun _ => ?_)
            | refine BIf.dec (fun _ => ?_) (fun _ => ?_)
            | refine BIf.nt ?_
            | refine BIf.intro (fun _ => ?_) (fun _ => ?_)
            | refine Or.inr (Exists.intro (Nat) (Exists.intro (loopCheck image q.length) (And.intro (Exists.intro (0) (And.intro (Hold.out ?_) (And.intro ?_ (And.intro ?_ rfl)))) (fun x hi => ?_))))
            | refine Exists.intro (x + 1) (And.intro (Hold.out ?_) (And.intro (And.intro ?_ (And.intro ?_ rfl)) (Hold.out ?_)))
            | refine And.intro rfl ?_
            | refine And.intro (HoldEq.out ?_) ?_
            | refine And.intro (HoldOb.out ?_) ?_
            | exact True.intro
            | refine HoldEq.out ?_
            | refine HoldObs.out ?_
            | refine HoldOr.out ?_)
  · exact HoldEq.int (by simp [checkR, *])
  · exact Hold.intro ⟨Nat.zero_le _, rfl⟩
  · rename_i h1 h2
    refine HoldEq.int ?_
    have h2 : image.getD x 0 < 0 := h2
    simp only [checkR]
    rw [if_neg (by omega), hi.2, drop_now 0 h1]
    simp only [badAny, decide_eq_true h2, Bool.true_or, if_true]
  · rename_i h1 h2 _ h3
    refine HoldEq.int ?_
    have h3 : image.getD x 0 ≥ q.length := h3
    simp only [checkR]
    rw [if_neg (by omega), hi.2, drop_now 0 h1]
    simp only [badAny, decide_eq_true h3, Bool.true_or, Bool.or_true, if_true]
  · rename_i h1 h2 _ h3
    have h2 : ¬ image.getD x 0 < 0 := h2
    have h3 : ¬ image.getD x 0 ≥ q.length := h3
    refine Hold.intro ⟨by omega, ?_⟩
    rw [hi.2, drop_now 0 h1]
    simp only [badAny, decide_eq_false h2, decide_eq_false h3, Bool.false_or]
  · rename_i h1 h2 _ h3
    refine Hold.intro ?_
    show image.length - (x + 1) < image.length - x
    omega
  · rename_i h1
    refine HoldEq.int ?_
    simp only [checkR]
    rw [if_neg (by omega), hi.2, drop_all h1]
    rfl

def FnRow (P : Program) (f : Nat) (c : List AV → Option Res) : Prop := (∀ args r, c args = some r → FnOk P f args r) ∧ ∃ fn, P.funcs[f]? = some fn ∧ (fn.name == "runtime.NumGoroutine") = false ∧ fn.body.isNone = false

def farC : List AV → Option Res := con2 .arr3 .arr3 (fun p q => some (none, none, .s (.int .i64 (farI p q))))
theorem farRow : FnRow Try.prog 18 farC := ⟨far_ok, _, Try.func18, by kernel_rfl, by kernel_rfl⟩

def checkC : List AV → Option Res := con3 (.sl .arr3) (.sl (.int .i64)) (.sl .arr3) (fun p im q => some (none, none, .s (.int .i64 (checkR p im q))))
theorem checkRow : FnRow Try.prog 20 checkC := ⟨con3_ok fun p im q r h => by cases h; exact fn_by (rules (fn := []) trivial) Try.func20 (by kernel_rfl) fun _ _ => check_vc p im q, _, Try.func20, by kernel_rfl, by kernel_rfl⟩

/-! Move -/
def farFold (p q : List P3) : Nat → List Int → Int → Int
  | _, [], m => m
  | i, k :: r, m => farFold p q (i + 1) r (max m (farI (p.getD i (0, 0, 0)) (q.getD k.toNat (0, 0, 0))))
def moveR (p : List P3) (image : List Int) (q : List P3) : Int × Int :=
  if checkR p image q ≠ 0 then (0, checkR p image q) else (farFold p q 0 image 0, 0)
def loopMove (p : List P3) (image : List Int) (q : List P3) : Spec (Nat × Int) where
  inv x := x.1 ≤ image.length ∧ farFold p q 0 image 0 = farFold p q x.1 (image.drop x.1) x.2
  live x := [(21, .s (.int .i64 x.1)), (9, .s (.int .i64 x.2))]
  keep := [0, 1, 2, 19, 20]
  heap _ := []
  keepH := []
  mu x := image.length - x.1

theorem bad_at {n : Int} : ∀ {l : List Int} {i : Nat}, badAny n l = false → i < l.length → 0 ≤ l.getD i 0 ∧ l.getD i 0 < n
  | [], i, _, h => by simp at h
  | k :: r, 0, hb, _ => by
    simp [badAny] at hb
    simp; omega
  | k :: r, i + 1, hb, h => by
    simp [badAny] at hb
    simpa using bad_at hb.2 (by simpa using h)

theorem check_zero {p : List P3} {image : List Int} {q : List P3} (h : ¬ checkR p image q ≠ 0) : image.length = p.length ∧ badAny q.length image = false := by
  unfold checkR at h
  split at h
  · omega
  · split at h
    · omega
    · rename_i h1 h2; exact ⟨by omega, by simpa using h2⟩

theorem move_vc (p : List P3) (image : List Int) (q : List P3) : afun ⟨tyL, ([(18, farC), (20, checkC)]), []⟩ Try.f11 [(ETy.sl .arr3).av p, (ETy.sl (.int .i64)).av image, (ETy.sl .arr3).av q]
    (fun v => v = .tup [.s (.int .i64 (moveR p image q).1), .s (.int .i64 (moveR p image q).2)]) := by
  repeat' (conv => whnf
           first
            | done
            | refine Need.intro (by first | omega | (simp only [i64ok] at *; omega)) ?_
            | refine Need.intro (Hold.out ?_) ?_
            | refine Give.intro fun _ => ?_
            | refine BIf.and ?_
            | refine BIf.or ?_
            | refine BIf.eqi (fun _ => ?_) (fun _ => ?_)
            | refine BIf.nei (fun _ => ?_) (fun _ => ?_)
            | refine BIf.dec (fun _ => ?_) (fun _ => ?_)
            | refine BIf.nt ?_
            | refine BIf.intro (fun _ => ?_) (fun _ => ?_)
            | refine Or.inr (Exists.intro (Nat × Int) (Exists.intro (loopMove p image q) (And.intro (Exists.intro ((0, 0)) (And.intro (Hold.out ?_) (And.intro ?_ (And.intro ?_ rfl)))) (fun x hi => ?_))))
            | refine Exists.intro ((x.1 + 1, max x.2 (farI (p.getD x.1 (0, 0, 0)) (q.getD (image.getD x.1 0).toNat (0, 0, 0))))) (And.intro (Hold.out ?_) (And.intro (And.intro ?_ (And.intro ?_ rfl)) (Hold.out ?_)))
            | refine And.intro rfl ?_
            | refine And.intro (HoldEq.out ?_) ?_
            | refine And.intro (HoldOb.out ?_) ?_
            | exact True.intro
            | refine HoldEq.out ?_
            | refine HoldObs.out ?_
            | refine HoldOr.out ?_)
  · rename_i h0
    have h0 : checkR p image q ≠ 0 := h0
    refine HoldEq.intro ?_
    simp only [moveR, if_pos h0]
  · exact Hold.intro ⟨Nat.zero_le _, rfl⟩
  · rename_i h0 _ h1
    have h0 : checkR p image q = 0 := h0
    have := (check_zero (p := p) (image := image) (q := q) (by omega)).1
    exact Hold.intro (by omega)
  · rename_i h0 _ h1
    have h0 : checkR p image q = 0 := h0
    exact Hold.intro (bad_at (check_zero (p := p) (image := image) (q := q) (by omega)).2 (by omega))
  · rename_i h0 _ h1
    have hi : _ ∧ _ := hi
    refine Hold.intro ⟨by omega, ?_⟩
    rw [hi.2, drop_now 0 h1]; rfl
  · refine Hold.intro ?_
    show image.length - (x.1 + 1) < image.length - x.1
    omega
  · rename_i h0 _ h1
    have h0 : checkR p image q = 0 := h0
    have hi : _ ∧ _ := hi
    refine HoldEq.intro ?_
    simp only [moveR, if_neg (show ¬ checkR p image q ≠ 0 by omega)]
    rw [hi.2, drop_all h1]; rfl

def moveC : List AV → Option Res := con3 (.sl .arr3) (.sl (.int .i64)) (.sl .arr3) (fun p im q => some (none, none, .tup [.s (.int .i64 (moveR p im q).1), .s (.int .i64 (moveR p im q).2)]))
theorem moveRow : FnRow Try.prog 11 moveC := ⟨con3_ok fun p im q r h => by cases h; exact fn_by (rules (fn := ([(18, farC), (20, checkC)])) ⟨farRow, checkRow, trivial⟩) Try.func11 (by kernel_rfl) fun _ _ => move_vc p im q, _, Try.func11, by kernel_rfl, by kernel_rfl⟩
end S1
