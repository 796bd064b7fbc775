/- A part of the proofs of the laws of this seat: contracts of functions, each for every input that its text names. -/
import Derived.Test.YtbbpofkacdmjnaaF10toU5
import Derived.Test.YtbbpofkacdmjnaaR1toF6
set_option linter.unusedSimpArgs false
set_option linter.unusedVariables false
set_option maxHeartbeats 2000000
open Go Go.Vm Go.Proofs
open S9 (surf9C surf9Row surfR surf9_iff chk_surf)
namespace S1
set_option maxRecDepth 100000

/-! the laws of star: what they share -/
def sameR (a b : Int × List P3) : Bool := decide (a = b)
theorem same_vc (a b : Int) (l m : List P3) : afun ⟨tyL, [(70, equalC)], []⟩ Try.f36 [soupE.av (a, l), soupE.av (b, m)] (fun r => r = .s (.bool (sameR (a, l) (b, m)))) := by
  repeat' (conv => whnf
           first | done | refine Need.intro (by first | rfl | omega | (simp only [i64ok] at *; omega)) ?_ | refine Need.intro (Hold.out ?_) ?_ | refine Give.intro fun _ => ?_ | refine Both.intro ?_ ?_ | refine BIf.and ?_ | refine BIf.or ?_ | refine BIf.eqi (fun _ => ?_) (fun _ => ?_) | refine BIf.nei (fun _ => ?_) (fun _ => ?_) | refine BIf.dec (fun _ => ?_) (fun _ => ?_) | refine BIf.nt ?_ | refine BIf.intro (fun _ => ?_) (fun _ => ?_) | refine And.intro rfl ?_ | refine And.intro (HoldEq.out ?_) ?_ | refine And.intro (HoldOb.out ?_) ?_ | exact True.intro | refine HoldEq.out ?_ | refine HoldObs.out ?_ | refine KCheck.intro (by kernel_rfl) ?_ | refine HoldOr.out ?_)
  all_goals try first | refine HoldEq.int ?_ | refine HoldEq.bool ?_ | refine HoldEq.sl ?_ | refine HoldEq.own ?_ | refine HoldEq.ownS ?_ ?_ | refine HoldOb.row ?_ | refine HoldOb.map ?_ | refine HoldOb.gmap ?_ | refine HoldOb.grow ?_ | refine HoldObs.row ?_
  all_goals try simp only [take_one, take_one', set_one, take_all, List.length_singleton, rec_self, Int.toNat_natCast, pair_eta, ETy.dflt, List.getD_cons_zero, List.getD_cons_succ, Int.reduceToNat, Int.reduceAdd, Int.reduceSub, Int.reduceNeg, Nat.reduceAdd, Nat.zero_add, sameR, eqR] at *
  · rename_i h; subst h
    rw [decide_eq_decide]
    exact ⟨fun e => by rw [e], fun e => congrArg Prod.snd e⟩
  · rename_i h; symm; rw [decide_eq_false_iff_not]; exact fun e => h (congrArg Prod.fst e)
def sameC : List AV → Option Res := con2 soupE soupE (fun a b => some (none, none, .s (.bool (sameR a b))))
theorem sameRow : FnRow Try.prog 36 sameC := ⟨con2_ok fun a b r h => by cases h; exact fn_by (rulesF (fn := [(70, equalC)]) (fr := []) ⟨equalRow, trivial⟩ trivial) Try.func36 (by kernel_rfl) fun _ _ => same_vc a.1 b.1 a.2 b.2, _, Try.func36, by kernel_rfl, by kernel_rfl⟩
def great17R (s : Int × List P3) : Bool := decide (s.2.length > 40 ∨ s.1 > 120)
theorem great17_vc {fn} (n : Int) (l : List P3) : afun ⟨tyL, fn, []⟩ Try.f32 [soupE.av (n, l)] (fun r => r = .s (.bool (great17R (n, l)))) := by
  repeat' (conv => whnf
           first | done | refine Need.intro (by first | rfl | omega | (simp only [i64ok] at *; omega)) ?_ | refine Need.intro (Hold.out ?_) ?_ | refine Give.intro fun _ => ?_ | refine Both.intro ?_ ?_ | refine BIf.and ?_ | refine BIf.or ?_ | refine BIf.eqi (fun _ => ?_) (fun _ => ?_) | refine BIf.nei (fun _ => ?_) (fun _ => ?_) | refine BIf.dec (fun _ => ?_) (fun _ => ?_) | refine BIf.nt ?_ | refine BIf.intro (fun _ => ?_) (fun _ => ?_) | refine And.intro rfl ?_ | refine And.intro (HoldEq.out ?_) ?_ | refine And.intro (HoldOb.out ?_) ?_ | exact True.intro | refine HoldEq.out ?_ | refine HoldObs.out ?_ | refine KCheck.intro (by kernel_rfl) ?_ | refine HoldOr.out ?_)
  all_goals try first | refine HoldEq.int ?_ | refine HoldEq.bool ?_ | refine HoldEq.sl ?_ | refine HoldEq.own ?_ | refine HoldEq.ownS ?_ ?_ | refine HoldOb.row ?_ | refine HoldOb.map ?_ | refine HoldOb.gmap ?_ | refine HoldOb.grow ?_ | refine HoldObs.row ?_
  all_goals try simp only [take_one, take_one', set_one, take_all, List.length_singleton, rec_self, Int.toNat_natCast, pair_eta, ETy.dflt, List.getD_cons_zero, List.getD_cons_succ, Int.reduceToNat, Int.reduceAdd, Int.reduceSub, Int.reduceNeg, Nat.reduceAdd, Nat.zero_add, great17R] at *
  · symm; rw [decide_eq_true_eq]; exact .inl (by omega)
  · rw [decide_eq_decide]; exact ⟨.inr, fun e => e.resolve_left (by omega)⟩
def great17C : List AV → Option Res := con1 soupE (fun s => some (none, none, .s (.bool (great17R s))))
theorem great17Row : FnRow Try.prog 32 great17C := ⟨con1_ok fun s r h => by cases h; exact fn_by (rulesF (fn := []) (fr := []) trivial trivial) Try.func32 (by kernel_rfl) fun _ _ => great17_vc s.1 s.2, _, Try.func32, by kernel_rfl, by kernel_rfl⟩
def intsR (a b : List Int) : Bool := decide (a = b)
def loopIs (a b : List Int) : Spec Nat where
  inv x := x ≤ a.length ∧ ∀ i, i < x → a.getD i 0 = b.getD i 0
  live x := [(13, .s (.int .i64 x))]
  keep := [0, 1, 12]
  heap _ := []
  keepH := []
  mu x := a.length - x
theorem ints_vc {fn} (a b : List Int) : afun ⟨tyL, fn, []⟩ Try.f39 [(ETy.sl i64E).av a, (ETy.sl i64E).av b] (fun v => v = .s (.bool (intsR a b))) := by
  repeat' (conv => whnf
           first | done | refine Need.intro (by first | rfl | omega | (simp only [i64ok] at *; omega)) ?_ | refine Need.intro (Hold.out ?_) ?_ | refine Give.intro fun _ => ?_ | refine Both.intro ?_ ?_ | refine BIf.and ?_ | refine BIf.or ?_ | refine BIf.eqi (fun _ => ?_) (fun _ => ?_) | refine BIf.nei (fun _ => ?_) (fun _ => ?_) | refine BIf.dec (fun _ => ?_) (fun _ => ?_) | refine BIf.nt ?_ | refine BIf.intro (fun _ => ?_) (fun _ => ?_) | ((first | (with_reducible show Or (∃ n, rounds (acode _ (Code.seq (Code.region 4 _ _) _)) _ n _) _) | (with_reducible show Or (∃ n, rounds (acode _ (Code.seq (Code.seq (Code.region 4 _ _) _) _)) _ n _) _) | (with_reducible show Or (∃ n, rounds (acode _ (Code.seq (Code.seq (Code.seq (Code.region 4 _ _) _) _) _)) _ n _) _) | (with_reducible show Or (∃ n, rounds (acode _ (Code.seq (Code.seq (Code.seq (Code.seq (Code.region 4 _ _) _) _) _) _)) _ n _) _) | (with_reducible show Or (∃ n, rounds (acode _ (Code.block _ (Code.seq (Code.region 4 _ _) _))) _ n _) _) | (with_reducible show Or (∃ n, rounds (acode _ (Code.block _ (Code.seq (Code.seq (Code.region 4 _ _) _) _))) _ n _) _) | (with_reducible show Or (∃ n, rounds (acode _ (Code.block _ (Code.seq (Code.seq (Code.seq (Code.region 4 _ _) _) _) _))) _ n _) _) | (with_reducible show Or (∃ n, rounds (acode _ (Code.block _ (Code.seq (Code.seq (Code.seq (Code.seq (Code.region 4 _ _) _) _) _) _))) _ n _) _)); refine Or.inr (Exists.intro (Nat) (Exists.intro (loopIs a b) (And.intro (Exists.intro (0) (And.intro (Hold.out ?_) (And.intro ?_ (And.intro ?_ rfl)))) (fun x hx => ?_))))) | ((with_reducible show (∃ y, And (Spec.inv (loopIs _ _) y) _)); refine Exists.intro (x + 1) (And.intro (Hold.out ?_) (And.intro (And.intro ?_ (And.intro ?_ rfl)) (Hold.out ?_)))) | refine And.intro rfl ?_ | refine And.intro (HoldEq.out ?_) ?_ | refine And.intro (HoldOb.out ?_) ?_ | exact True.intro | refine HoldEq.out ?_ | refine HoldObs.out ?_ | refine KCheck.intro (by kernel_rfl) ?_ | refine HoldOr.out ?_)
  all_goals try first | refine HoldEq.int ?_ | refine HoldEq.bool ?_ | refine HoldEq.sl ?_ | refine HoldEq.own ?_ | refine HoldEq.ownS ?_ ?_ | refine HoldOb.row ?_ | refine HoldOb.map ?_ | refine HoldOb.gmap ?_ | refine HoldOb.grow ?_ | refine HoldObs.row ?_
  all_goals try simp only [take_one, take_one', set_one, take_all, List.length_singleton, rec_self, Int.toNat_natCast, pair_eta, ETy.dflt, List.getD_cons_zero, List.getD_cons_succ, Int.reduceToNat, Int.reduceAdd, Int.reduceSub, Int.reduceNeg, Nat.reduceAdd, Nat.zero_add, loopIs, intsR] at *
  · symm; rw [decide_eq_false_iff_not]; intro e; subst e; exact absurd rfl (by assumption)
  · exact Hold.intro ⟨Nat.zero_le _, fun i hi => by omega⟩
  · symm; rw [decide_eq_false_iff_not]; intro e; subst e; exact absurd rfl (by assumption)
  · refine Hold.intro ⟨by omega, fun i hi => ?_⟩
    by_cases e : i = x
    · subst e; assumption
    · exact hx.2 i (by omega)
  · refine Hold.intro ?_; omega
  · symm; rw [decide_eq_true_eq]
    apply List.ext_getElem
    · omega
    · intro i h1 h2
      have := hx.2 i (by omega)
      rw [List.getD_eq_getElem?_getD, List.getD_eq_getElem?_getD, List.getElem?_eq_getElem h1, List.getElem?_eq_getElem h2] at this
      exact this
def intsC : List AV → Option Res := con2 (.sl i64E) (.sl i64E) (fun a b => some (none, none, .s (.bool (intsR a b))))
theorem intsRow : FnRow Try.prog 39 intsC := ⟨con2_ok fun a b r h => by cases h; exact fn_by (rulesF (fn := []) (fr := []) trivial trivial) Try.func39 (by kernel_rfl) fun _ _ => ints_vc a b, _, Try.func39, by kernel_rfl, by kernel_rfl⟩
/-! awake -/
abbrev aw17 : Int × List P3 := (3, [(0, 1, 2)])
abbrev aw18 : Int × List P3 := (4, [(0, 1, 2), (0, 2, 3), (2, 1, 3), (1, 0, 3)])
theorem aw17_ok : (chkR' aw17).1 = 0 := by decide +kernel
theorem aw18_ok : (chkR' aw18).1 = 0 := by decide +kernel
theorem aw17_fil : fillR (newT aw17) = (aw18, [3], 0) := by decide +kernel
theorem aw17_fill : fillO aw17 = (aw18, [3], 0) := by
  unfold fillO
  rw [newO_ok aw17_ok]
  exact aw17_fil
theorem aw18_ck : checkR (newT aw18) [3] = 0 := by decide +kernel
theorem aw18_op : openS aw18 [3] = aw17 := by decide +kernel
theorem aw18_old : oldL [3] 4 = [0, 1, 2] := by decide +kernel
theorem aw17_open : openO aw18 [3] = (aw17, [0, 1, 2], 0) := by
  unfold openO
  rw [newO_ok aw18_ok]
  show openR (newT aw18) [3] = _
  have e : (newT aw18).1 = aw18 := rfl
  unfold openR
  rw [if_neg (fun k => k aw18_ck), e, aw18_op, if_pos (by rw [chkR_eq]; exact aw17_ok)]
  exact congrArg (fun z => (aw17, z, (0 : Int))) aw18_old
/-! what is known of Fill's and Open's answers -/
abbrev FoR := (Int × List P3) × List Int × Int
def filKC (r : FoR) : List AV → Option Res := con1 soupE (fun s => some (none, some (fillO s = r), openV r))
theorem filKRow (r : FoR) : FnRow Try.prog 33 (filKC r) := ⟨con1_ok fun s r' h => by
  cases h
  intro σ vals w hag hv
  refine ⟨trivial, fun hq => ?_⟩
  have hq : fillO s = r := hq
  have := (filRow.1 _ _ (rfl : filC [soupE.av s] = _) σ vals w hag hv).2 trivial
  rw [hq] at this
  exact this, _, Try.func33, by kernel_rfl, by kernel_rfl⟩
def opnKC (r : FoR) : List AV → Option Res := con2 soupE (.sl i64E) (fun s ap => some (none, some (openO s ap = r), openV r))
theorem opnKRow (r : FoR) : FnRow Try.prog 37 (opnKC r) := ⟨con2_ok fun s ap r' h => by
  cases h
  intro σ vals w hag hv
  refine ⟨trivial, fun hq => ?_⟩
  have hq : openO s ap = r := hq
  have := (opnRow.1 _ _ (rfl : opnC [soupE.av s, (ETy.sl i64E).av ap] = _) σ vals w hag hv).2 trivial
  rw [hq] at this
  exact this, _, Try.func37, by kernel_rfl, by kernel_rfl⟩
def opnFC (F : Int × List P3 → List Int → FoR) : List AV → Option Res := con2 soupE (.sl i64E) (fun s ap => some (none, some (F = openO), openV (F s ap)))
theorem opnFRow (F : Int × List P3 → List Int → FoR) : FnRow Try.prog 37 (opnFC F) := ⟨con2_ok fun s ap r' h => by
  cases h
  intro σ vals w hag hv
  refine ⟨trivial, fun hq => ?_⟩
  have hq : F = openO := hq
  subst hq
  exact (opnRow.1 _ _ (rfl : opnC [soupE.av s, (ETy.sl i64E).av ap] = _) σ vals w hag hv).2 trivial, _, Try.func37, by kernel_rfl, by kernel_rfl⟩
def filFC (F : Int × List P3 → FoR) : List AV → Option Res := con1 soupE (fun s => some (none, some (F = fillO), openV (F s)))
theorem filFRow (F : Int × List P3 → FoR) : FnRow Try.prog 33 (filFC F) := ⟨con1_ok fun s r' h => by
  cases h
  intro σ vals w hag hv
  refine ⟨trivial, fun hq => ?_⟩
  have hq : F = fillO := hq
  subst hq
  exact (filRow.1 _ _ (rfl : filC [soupE.av s] = _) σ vals w hag hv).2 trivial, _, Try.func33, by kernel_rfl, by kernel_rfl⟩
abbrev aw17r : FoR := (aw18, [3], 0)
abbrev aw18r : FoR := (aw17, [0, 1, 2], 0)
theorem awake17_vc : afun ⟨tyL, [(33, filKC aw17r), (37, opnKC aw18r), (36, sameC)], []⟩ Try.f31 [] (fun r => r = .s (.bool true)) := by
  repeat' (conv => whnf
           first | done | refine Need.intro (by first | rfl | omega | (simp only [i64ok] at *; omega)) ?_ | refine Need.intro (Hold.out ?_) ?_ | refine Give.intro fun _ => ?_ | refine Both.intro ?_ ?_ | refine BIf.and ?_ | refine BIf.or ?_ | refine BIf.eqi (fun _ => ?_) (fun _ => ?_) | refine BIf.nei (fun _ => ?_) (fun _ => ?_) | refine BIf.dec (fun _ => ?_) (fun _ => ?_) | refine BIf.nt ?_ | refine BIf.intro (fun _ => ?_) (fun _ => ?_) | refine And.intro rfl ?_ | refine And.intro (HoldEq.out ?_) ?_ | refine And.intro (HoldOb.out ?_) ?_ | exact True.intro | refine HoldEq.out ?_ | refine HoldObs.out ?_ | refine KCheck.intro (by kernel_rfl) ?_ | refine HoldOr.out ?_)
  all_goals try first | refine HoldEq.int ?_ | refine HoldEq.bool ?_ | refine HoldEq.sl ?_ | refine HoldEq.own ?_ | refine HoldEq.ownS ?_ ?_ | refine HoldOb.row ?_ | refine HoldOb.map ?_ | refine HoldOb.gmap ?_ | refine HoldOb.grow ?_ | refine HoldObs.row ?_
  all_goals try simp only [take_one, take_one', set_one, take_all, List.length_singleton, rec_self, Int.toNat_natCast, pair_eta, ETy.dflt, List.getD_cons_zero, List.getD_cons_succ, Int.reduceToNat, Int.reduceAdd, Int.reduceSub, Int.reduceNeg, Nat.reduceAdd, Nat.zero_add] at *
  · exact Hold.intro aw17_fill
  · exact Hold.intro aw17_open
  · refine Hold.intro ?_; omega
  · rfl
def awake17C : List AV → Option Res := fun l => match l with
  | [] => some (none, none, .s (.bool true))
  | _ => none
theorem awake17Row : FnRow Try.prog 31 awake17C := ⟨fun args r h => by
  cases args with
  | nil => cases h; exact fn_by (rulesF (fn := [(33, filKC aw17r), (37, opnKC aw18r), (36, sameC)]) (fr := []) ⟨(filKRow aw17r), (opnKRow aw18r), sameRow, trivial⟩ trivial) Try.func31 (by kernel_rfl) fun _ _ => awake17_vc
  | cons a l => (cases h), _, Try.func31, by kernel_rfl, by kernel_rfl⟩
end S1

open Go Go.Vm Go.Proofs
open S9 (surf9C surf9Row surfR surf9_iff chk_surf)
namespace S1
set_option maxRecDepth 100000

/-! the laws of star -/
def newFC (N : Int × List P3 → tabE.T) : List AV → Option Res := con1 soupE (fun s => some (none, some (newO s = some (N s)), .tup [(ETy.pt tabE).av (some (N s)), witE.av (0, 0, 0)]))
theorem newFRow (N : Int × List P3 → tabE.T) : FnRow Try.prog 28 (newFC N) := ⟨con1_ok fun s r h => by
  cases h
  intro σ vals w hag hv
  refine ⟨trivial, fun hq => ?_⟩
  have hq : newO s = some (N s) := hq
  exact ((newXRow (N s)).1 _ _ (rfl : newXC (N s) [soupE.av s] = _) σ vals w hag hv).2 hq, _, Try.func28, by kernel_rfl, by kernel_rfl⟩
theorem open_bad {x : tabE.T} {ap : List Int} {e : Int} (h : checkR x ap = e) (he : e ≠ 0) : openR x ap = ((0, []), [], e) := by
  unfold openR; rw [if_pos (by rw [h]; exact he), h]
theorem openO_of {s : Int × List P3} (h : Surf s) (ap : List Int) : openO s ap = openR (newT s) ap := by
  unfold openO; rw [(new_of h).1]
theorem fillO_of {s : Int × List P3} (h : Surf s) : fillO s = fillR (newT s) := by
  unfold fillO; rw [(new_of h).1]
theorem sn_facts {n : Int} {l : List P3} (h : Surf (n, l)) (hn : n ≠ 0) {b : Int} (hb : 0 ≤ b) : openO (n, l) [b.tmod n, b.tmod n] = ((0, []), [], 9) ∧ openO (n, l) [b.tmod n, n] = ((0, []), [], 2) ∧ openO (n, l) [-1] = ((0, []), [], 2) ∧ openO (n, l) [] = ((n, l), (List.range n.toNat).map (fun v => ((v : Nat) : Int)), 0) := by
  obtain ⟨k1, k2, k3⟩ := new_of h
  have h0 : 0 ≤ n := h.fit.1
  have z0 : 0 ≤ b.tmod n := Int.tmod_nonneg _ hb
  have z1 : b.tmod n < n := Int.tmod_lt_of_pos _ (by omega)
  have en : vN (newT (n, l)) = n := rfl
  simp only [openO_of h]
  refine ⟨open_bad (checkR_9 (fun a ha => ?_) (fun hn2 => ?_)) (by omega), open_bad (checkR_2 (a := n) (by simp) (fun e => ?_)) (by omega), open_bad (checkR_2 (a := -1) (by simp) (fun e => by omega)) (by omega), ?_⟩
  · have : a = b.tmod n := by simpa using ha
    show 0 ≤ a ∧ a < vN (newT (n, l))
    rw [en]; omega
  · exact (List.nodup_cons.1 hn2).1 (by simp)
  · have : n < vN (newT (n, l)) := e.2
    rw [en] at this; omega
  · have := open_nil k2 (by rw [k3]; exact h)
    rw [k3] at this
    exact this
set_option maxHeartbeats 4000000 in
theorem lawSN_vc (n : Int) (l : List P3) (b : Int) (F : Int × List P3 → List Int → FoR) (hF : F = openO) (hb : 0 ≤ b ∧ b ≤ 255) : afun ⟨tyL, [(31, awake17C), (32, great17C), (34, surf9C), (37, opnFC F), (36, sameC)], []⟩ Try.f11 [soupE.av (n, l), (ETy.int .u8).av b] (fun r => r = .s (.bool true)) := by
  repeat' (conv => whnf
           first | done | refine Need.intro (by first | rfl | omega | (simp only [i64ok] at *; omega)) ?_ | refine Need.intro (Hold.out ?_) ?_ | refine Give.intro fun _ => ?_ | refine Both.intro ?_ ?_ | refine BIf.and ?_ | refine BIf.or ?_ | refine BIf.eqi (fun _ => ?_) (fun _ => ?_) | refine BIf.nei (fun _ => ?_) (fun _ => ?_) | refine BIf.dec (fun _ => ?_) (fun _ => ?_) | refine BIf.nt ?_ | refine BIf.intro (fun _ => ?_) (fun _ => ?_) | refine And.intro rfl ?_ | refine And.intro (HoldEq.out ?_) ?_ | refine And.intro (HoldOb.out ?_) ?_ | exact True.intro | refine HoldEq.out ?_ | refine HoldObs.out ?_ | refine KCheck.intro (by kernel_rfl) ?_ | refine HoldOr.out ?_)
  all_goals try first | refine HoldEq.int ?_ | refine HoldEq.bool ?_ | refine HoldEq.sl ?_ | refine HoldEq.own ?_ | refine HoldEq.ownS ?_ ?_ | refine HoldOb.row ?_ | refine HoldOb.map ?_ | refine HoldOb.gmap ?_ | refine HoldOb.grow ?_ | refine HoldObs.row ?_
  all_goals try simp only [take_one, take_one', set_one, take_all, List.length_singleton, rec_self, Int.toNat_natCast, pair_eta, ETy.dflt, List.getD_cons_zero, List.getD_cons_succ, Int.reduceToNat, Int.reduceAdd, Int.reduceSub, Int.reduceNeg, Nat.reduceAdd, Nat.zero_add] at *
  all_goals
    have hS : Surf (n, l) := (surf9_iff (n, l)).1 (by unfold surfR; rw [beq_iff_eq]; assumption)
    obtain ⟨k1, k2, k3, k4⟩ := sn_facts hS (by assumption) (b := b) hb.1
    subst hF
  · rw [k4]
    rw [beq_iff_eq, List.length_map, List.length_range]
    have := hS.fit.1
    exact Int.toNat_of_nonneg this
  all_goals exfalso
  all_goals first
    | exact absurd (congrArg Prod.fst k4) (by assumption)
    | exact absurd (congrArg (fun r => r.2.2) k4) (by assumption)
    | exact absurd (congrArg (fun r => r.2.2) k3) (by assumption)
    | exact absurd (congrArg (fun r => r.2.2) k2) (by assumption)
    | exact absurd (congrArg (fun r => r.2.2) k1) (by assumption)
    | exact absurd (congrArg (fun r => r.1.1) k1) (by assumption)
def lawSNC : List AV → Option Res := con2 soupE (.int .u8) (fun _ _ => some (none, none, .s (.bool true)))
theorem lawSNRow : FnRow Try.prog 11 lawSNC := ⟨con2_ok fun s b r h => by
  cases h
  exact fn_by (rulesF (fn := [(31, awake17C), (32, great17C), (34, surf9C), (37, opnFC openO), (36, sameC)]) (fr := []) ⟨awake17Row, great17Row, surf9Row, (opnFRow openO), sameRow, trivial⟩ trivial) Try.func11 (by kernel_rfl) fun hg _ => lawSN_vc s.1 s.2 b openO rfl (InK.u8 hg.2.1), _, Try.func11, by kernel_rfl, by kernel_rfl⟩
end S1
