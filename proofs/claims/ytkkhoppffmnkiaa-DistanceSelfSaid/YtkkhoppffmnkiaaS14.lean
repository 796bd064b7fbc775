/- A part of the proofs of the laws of this seat: contracts of functions, each for every input that its text names. -/
import Derived.Test.YtkkhoppffmnkiaaS13
set_option linter.unusedSimpArgs false
set_option linter.unusedVariables false
open Go Go.Vm Go.Proofs
namespace S1
set_option maxRecDepth 100000

/-! DistanceSimplicial -/
theorem mget_same {k : ETy} {V : Type} (v : V) (q : k.T) : ∀ m : List (k.T × V), mget k (mset k m q v) q = some v
  | [] => by
    simp only [mset, mget]
    cases k.decT q q with
    | isTrue h => rfl
    | isFalse h => exact absurd rfl h
  | (x, y) :: r => by
    simp only [mset]
    cases h1 : k.decT x q with
    | isTrue h =>
      simp only [mget]
      cases k.decT x q with
      | isTrue h => rfl
      | isFalse h2 => exact absurd h h2
    | isFalse h =>
      simp only [mget]
      cases k.decT x q with
      | isTrue h2 => exact absurd h2 h
      | isFalse h2 => exact mget_same v q r
theorem mget_other {k : ETy} {V : Type} (v : V) {q q' : k.T} (hn : q ≠ q') : ∀ m : List (k.T × V), mget k (mset k m q v) q' = mget k m q'
  | [] => by
    simp only [mset, mget]
    cases k.decT q q' with
    | isTrue h => exact absurd h hn
    | isFalse h => rfl
  | (x, y) :: r => by
    simp only [mset]
    cases h1 : k.decT x q with
    | isTrue h =>
      simp only [mget]
      cases k.decT x q' with
      | isTrue h2 => exact absurd (h.symm.trans h2) hn
      | isFalse h => rfl
    | isFalse h =>
      simp only [mget]
      cases k.decT x q' with
      | isTrue h2 => rfl
      | isFalse h2 => exact mget_other v hn r
def mhas (k : ETy) (m : List (k.T × Bool)) (q : k.T) : Bool := (mget k m q).getD false
theorem mhas_set {k : ETy} (m : List (k.T × Bool)) (q q' : k.T) : mhas k (mset k m q true) q' = true ↔ q = q' ∨ mhas k m q' = true := by
  unfold mhas
  by_cases h : q = q'
  · subst h; rw [mget_same]; simp
  · rw [mget_other _ h]; simp [h]
def hasE (u : P3) (e : Int × Int) : Prop := edge u.1 u.2.1 = e ∨ edge u.2.1 u.2.2 = e ∨ edge u.2.2 u.1 = e
theorem known_1 (e : Int × Int) : ∀ (l : List P3) (m : M2) (k : M3), mhas .arr2 (knownR l m k).1 e = true ↔ mhas .arr2 m e = true ∨ ∃ u ∈ l, hasE u e
  | [], m, k => by simp [knownR]
  | u :: l, m, k => by
    have ih := known_1 e l (addE m u) (mset .arr3 k (sortR u) true)
    show mhas .arr2 (knownR l (addE m u) (mset .arr3 k (sortR u) true)).1 e = true ↔ _
    rw [ih]
    have : mhas .arr2 (addE m u) e = true ↔ hasE u e ∨ mhas .arr2 m e = true := by
      unfold addE hasE
      have h1 := mhas_set (k := .arr2) (mset .arr2 (mset .arr2 m (edge u.1 u.2.1) true) (edge u.2.1 u.2.2) true) (edge u.2.2 u.1) e
      have h2 := mhas_set (k := .arr2) (mset .arr2 m (edge u.1 u.2.1) true) (edge u.2.1 u.2.2) e
      have h3 := mhas_set (k := .arr2) m (edge u.1 u.2.1) e
      rw [h1, h2, h3]
      constructor
      · rintro (h | h | h | h)
        · exact .inl (.inr (.inr h))
        · exact .inl (.inr (.inl h))
        · exact .inl (.inl h)
        · exact .inr h
      · rintro ((h | h | h) | h)
        · exact .inr (.inr (.inl h))
        · exact .inr (.inl h)
        · exact .inl h
        · exact .inr (.inr (.inr h))
    rw [this]
    constructor
    · rintro ((h | h) | ⟨v, hv, h⟩)
      · exact .inr ⟨u, List.mem_cons_self, h⟩
      · exact .inl h
      · exact .inr ⟨v, List.mem_cons_of_mem _ hv, h⟩
    · rintro (h | ⟨v, hv, h⟩)
      · exact .inl (.inr h)
      · rcases List.mem_cons.1 hv with e | hv
        · subst e; exact .inl (.inl h)
        · exact .inr ⟨v, hv, h⟩
theorem known_2 (x : P3) : ∀ (l : List P3) (m : M2) (k : M3), mhas .arr3 (knownR l m k).2 x = true ↔ mhas .arr3 k x = true ∨ ∃ u ∈ l, sortR u = x
  | [], m, k => by simp [knownR]
  | u :: l, m, k => by
    have ih := known_2 x l (addE m u) (mset .arr3 k (sortR u) true)
    show mhas .arr3 (knownR l (addE m u) (mset .arr3 k (sortR u) true)).2 x = true ↔ _
    rw [ih, mhas_set (k := .arr3) k (sortR u) x]
    constructor
    · rintro ((h | h) | ⟨v, hv, h⟩)
      · exact .inr ⟨u, List.mem_cons_self, h⟩
      · exact .inl h
      · exact .inr ⟨v, List.mem_cons_of_mem _ hv, h⟩
    · rintro (h | ⟨v, hv, h⟩)
      · exact .inl (.inr h)
      · rcases List.mem_cons.1 hv with e | hv
        · subst e; exact .inl (.inl h)
        · exact .inr ⟨v, hv, h⟩
theorem sw1_eq (a b c : Int) : sw1 (a, b, c) = (min a b, max a b, c) := by
  by_cases h : a > b
  · rw [sw1_pos h, show min a b = b by omega, show max a b = a by omega]
  · rw [sw1_neg h, show min a b = a by omega, show max a b = b by omega]
theorem sw2_eq (a b c : Int) : sw2 (a, b, c) = (a, min b c, max b c) := by
  by_cases h : b > c
  · rw [sw2_pos h, show min b c = c by omega, show max b c = b by omega]
  · rw [sw2_neg h, show min b c = b by omega, show max b c = c by omega]
theorem sortR_eq (a b c : Int) : sortR (a, b, c) = (min (min a b) (min (max a b) c), max (min a b) (min (max a b) c), max (max a b) c) := by
  unfold sortR; rw [sw1_eq, sw2_eq, sw1_eq]
theorem hasR_iff (u : P3) (v : Int) : hasR u v = true ↔ u.1 = v ∨ u.2.1 = v ∨ u.2.2 = v := by
  simp only [hasR, Bool.or_eq_true, beq_iff_eq]
theorem hasAll_iff (a u : P3) : hasAll a u = true ↔ (u.1 = a.1 ∨ u.2.1 = a.1 ∨ u.2.2 = a.1) ∧ (u.1 = a.2.1 ∨ u.2.1 = a.2.1 ∨ u.2.2 = a.2.1) ∧ (u.1 = a.2.2 ∨ u.2.1 = a.2.2 ∨ u.2.2 = a.2.2) := by
  simp only [hasAll, Bool.and_eq_true, hasR_iff]
theorem edge_iff (a b x y : Int) : edge a b = (x, y) ↔ min a b = x ∧ max a b = y := by
  unfold edge; rw [Prod.mk.injEq]
theorem hasE_iff (u : P3) (x y : Int) (h : x < y) : hasE u (x, y) ↔ hasR u x = true ∧ hasR u y = true := by
  rw [hasR_iff, hasR_iff]
  simp only [hasE, edge_iff]
  constructor
  · rintro (h | h | h) <;> omega
  · rintro ⟨h1 | h1 | h1, h2 | h2 | h2⟩ <;> omega
theorem sort_iff (u : P3) (x y z : Int) (h : x < y ∧ y < z) : sortR u = (x, y, z) ↔ hasR u x = true ∧ hasR u y = true ∧ hasR u z = true := by
  rw [hasR_iff, hasR_iff, hasR_iff]
  obtain ⟨a, b, c⟩ := u
  rw [sortR_eq, Prod.mk.injEq, Prod.mk.injEq]
  dsimp only
  constructor
  · rintro ⟨h1, h2, h3⟩; refine ⟨?_, ?_, ?_⟩ <;> omega
  · rintro ⟨h1 | h1 | h1, h2 | h2 | h2, h3 | h3 | h3⟩ <;> omega
theorem two_iff {P : Int → Prop} {a b c x y : Int} (ha : a = x ∨ a = y) (hb : b = x ∨ b = y) (hc : c = x ∨ c = y) (hx : x = a ∨ x = b ∨ x = c) (hy : y = a ∨ y = b ∨ y = c) : (P a ∧ P b ∧ P c) ↔ (P x ∧ P y) := by
  constructor
  · rintro ⟨p, q, r⟩
    exact ⟨by rcases hx with e | e | e <;> rw [e] <;> assumption, by rcases hy with e | e | e <;> rw [e] <;> assumption⟩
  · rintro ⟨p, q⟩
    exact ⟨by rcases ha with e | e <;> rw [e] <;> assumption, by rcases hb with e | e <;> rw [e] <;> assumption, by rcases hc with e | e <;> rw [e] <;> assumption⟩
theorem three_iff {P : Int → Prop} {a b c x y z : Int} (ha : a = x ∨ a = y ∨ a = z) (hb : b = x ∨ b = y ∨ b = z) (hc : c = x ∨ c = y ∨ c = z) (hx : x = a ∨ x = b ∨ x = c) (hy : y = a ∨ y = b ∨ y = c) (hz : z = a ∨ z = b ∨ z = c) : (P a ∧ P b ∧ P c) ↔ (P x ∧ P y ∧ P z) := by
  constructor
  · rintro ⟨p, q, r⟩
    exact ⟨by rcases hx with e | e | e <;> rw [e] <;> assumption, by rcases hy with e | e | e <;> rw [e] <;> assumption, by rcases hz with e | e | e <;> rw [e] <;> assumption⟩
  · rintro ⟨p, q, r⟩
    exact ⟨by rcases ha with e | e | e <;> rw [e] <;> assumption, by rcases hb with e | e | e <;> rw [e] <;> assumption, by rcases hc with e | e | e <;> rw [e] <;> assumption⟩
theorem imgOf_eq (image : List Int) (t : P3) : imgOf image t = sortR (img3 image t) := rfl
theorem simpT_eq (cl : List P3) (image : List Int) (t : P3) : simpT (knownR cl [] []).1 (knownR cl [] []).2 image t = rsT cl image t := by
  unfold simpT rsT
  rw [imgOf_eq]
  generalize img3 image t = v
  obtain ⟨a, b, c⟩ := v
  rw [sortR_eq]
  dsimp only
  have k0 : min (min a b) (min (max a b) c) ≤ max (min a b) (min (max a b) c) ∧ max (min a b) (min (max a b) c) ≤ max (max a b) c := by omega
  have ka : a = min (min a b) (min (max a b) c) ∨ a = max (min a b) (min (max a b) c) ∨ a = max (max a b) c := by omega
  have kb : b = min (min a b) (min (max a b) c) ∨ b = max (min a b) (min (max a b) c) ∨ b = max (max a b) c := by omega
  have kc : c = min (min a b) (min (max a b) c) ∨ c = max (min a b) (min (max a b) c) ∨ c = max (max a b) c := by omega
  have kx : min (min a b) (min (max a b) c) = a ∨ min (min a b) (min (max a b) c) = b ∨ min (min a b) (min (max a b) c) = c := by omega
  have ky : max (min a b) (min (max a b) c) = a ∨ max (min a b) (min (max a b) c) = b ∨ max (min a b) (min (max a b) c) = c := by omega
  have kz : max (max a b) c = a ∨ max (max a b) c = b ∨ max (max a b) c = c := by omega
  generalize min (min a b) (min (max a b) c) = x at *
  generalize max (min a b) (min (max a b) c) = y at *
  generalize max (max a b) c = z at *
  by_cases h1 : x = z
  · rw [if_pos h1]
    have : same3 (a, b, c) = true := by simp only [same3, Bool.and_eq_true, beq_iff_eq]; omega
    rw [this]; rfl
  · rw [if_neg h1]
    have hs : same3 (a, b, c) = false := by
      rw [← Bool.not_eq_true]; simp only [same3, Bool.and_eq_true, beq_iff_eq]; omega
    rw [hs, Bool.false_or]
    have hA : ∀ u, hasAll (a, b, c) u = true ↔ (hasR u a = true ∧ hasR u b = true ∧ hasR u c = true) := fun u => by simp only [hasAll, Bool.and_eq_true]
    by_cases h2 : x = y ∨ y = z
    · rw [if_pos h2, Bool.eq_iff_iff]
      refine (known_1 _ cl [] []).trans ?_
      rw [List.any_eq_true]
      have hT : ∀ u, hasAll (a, b, c) u = true ↔ (hasR u x = true ∧ hasR u z = true) := fun u => (hA u).trans (two_iff (P := fun v => hasR u v = true) (by omega) (by omega) (by omega) kx kz)
      constructor
      · rintro (h | ⟨u, hu, h⟩)
        · simp [mhas, mget] at h
        · exact ⟨u, hu, (hT u).2 ((hasE_iff u x z (by omega)).1 h)⟩
      · rintro ⟨u, hu, h⟩
        exact .inr ⟨u, hu, (hasE_iff u x z (by omega)).2 ((hT u).1 h)⟩
    · rw [if_neg h2, Bool.eq_iff_iff]
      refine (known_2 _ cl [] []).trans ?_
      rw [List.any_eq_true]
      have hT : ∀ u, hasAll (a, b, c) u = true ↔ (hasR u x = true ∧ hasR u y = true ∧ hasR u z = true) := fun u => (hA u).trans (three_iff (P := fun v => hasR u v = true) ka kb kc kx ky kz)
      constructor
      · rintro (h | ⟨u, hu, h⟩)
        · simp [mhas, mget] at h
        · exact ⟨u, hu, (hT u).2 ((sort_iff u x y z (by omega)).1 h)⟩
      · rintro ⟨u, hu, h⟩
        exact .inr ⟨u, hu, (sort_iff u x y z (by omega)).2 ((hT u).1 h)⟩
theorem simpG_eq (fine coarse : Int × List P3) (image : List Int) : simpG fine coarse image = rsG fine coarse image := by
  unfold simpG rsG
  by_cases h : (image.length : Int) = fine.1
  · have h2 : (image.length : Int) = max fine.1 0 := by omega
    rw [beq_iff_eq.2 h, beq_iff_eq.2 h2]; simp only [Bool.true_and]
  · rw [beq_false_of_ne h]; simp only [Bool.false_and, Bool.and_false]
theorem simpR_eq (fine coarse : Int × List P3) (image : List Int) : simpR fine coarse image = rsimpR fine coarse image := by
  unfold simpR rsimpR
  rw [simpG_eq, show simpT (knownR coarse.2 [] []).1 (knownR coarse.2 [] []).2 image = rsT coarse.2 image from funext (simpT_eq _ _)]
theorem lawSimp_vc (fine coarse : Int × List P3) (image : List Int) : afun ⟨tyL, ([(9, awakeC), (14, greatC), (15, simpC), (16, rsimpC)]), []⟩ Try.f4 [soupE.av fine, soupE.av coarse, (ETy.sl (.int .i64)).av image] (fun v => v = .s (.bool true)) := by
  have H := simpR_eq fine coarse image
  repeat' (conv => whnf
           first
            | done
            | refine Need.intro (by first | omega | (simp only [i64ok] at *; omega)) ?_
            | refine Need.intro (Hold.out ?_) ?_
            | refine Give.intro fun _ => ?_
            | refine BIf.and ?_
            | refine BIf.or ?_
            | refine BIf.eqi (fun _ => ?_) (fun _ => ?_)
            | refine BIf.nei (fun _ => ?_) (fun _ => ?_)
            | refine BIf.dec (fun _ => ?_) (fun _ => ?_)
            | refine BIf.nt ?_
            | refine BIf.intro (fun _ => ?_) (fun _ => ?_)
            | refine And.intro rfl ?_
            | refine And.intro (HoldEq.out ?_) ?_
            | refine And.intro (HoldOb.out ?_) ?_
            | exact True.intro
            | refine HoldEq.out ?_
            | refine HoldObs.out ?_
            | refine HoldOr.out ?_)
  all_goals try first | refine HoldEq.int ?_ | refine HoldEq.bool ?_ | refine HoldEq.sl ?_ | refine HoldEq.own ?_ | refine HoldOb.row ?_ | refine HoldOb.map ?_ | refine HoldObs.row ?_
  all_goals try simp only [take_one, take_one', set_one, take_all, List.length_singleton, rec_self, Int.toNat_natCast, pair_eta, ETy.dflt, List.getD_cons_zero, List.getD_cons_succ, Int.reduceToNat, Int.reduceAdd, Int.reduceSub, Int.reduceNeg, Nat.reduceAdd, Nat.zero_add] at *
  exact beq_iff_eq.2 H
def lawSimpC : List AV → Option Res := con3 soupE soupE (.sl (.int .i64)) (fun _ _ _ => some (none, none, .s (.bool true)))
theorem lawSimpRow : FnRow Try.prog 4 lawSimpC := ⟨con3_ok fun s t im r h => by cases h; exact fn_by (rulesF (fn := [(9, awakeC), (14, greatC), (15, simpC), (16, rsimpC)]) (fr := []) ⟨awakeRow, greatRow, simpRow, rsimpRow, trivial⟩ trivial) Try.func4 (by kernel_rfl) fun _ _ => lawSimp_vc s t im, _, Try.func4, by kernel_rfl, by kernel_rfl⟩
end S1
