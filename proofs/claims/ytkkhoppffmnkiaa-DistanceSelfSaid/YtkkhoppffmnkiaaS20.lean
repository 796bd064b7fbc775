/- A part of the proofs of the laws of this seat: contracts of functions, each for every input that its text names. -/
import Derived.Test.YtkkhoppffmnkiaaS19
import Derived.Test.YtkkhoppffmnkiaaS15
set_option linter.unusedSimpArgs false
set_option linter.unusedVariables false
open Go Go.Vm Go.Proofs
namespace S1
set_option maxRecDepth 100000

/-! DistanceSelf -/
def idL (i : Nat) : List Int := (List.range i).map Int.ofNat
theorem idL_len (i : Nat) : (idL i).length = i := by simp [idL]
theorem idL_take (i : Nat) : List.take i (List.drop 0 (idL i)) = idL i := by
  rw [List.drop_zero]; exact List.take_of_length_le (by rw [idL_len]; omega)
theorem idL_succ (i : Nat) : idL (i + 1) = idL i ++ [(i : Int)] := by
  unfold idL; rw [List.range_succ, List.map_append]; rfl
theorem rep_take (i : Nat) (c : Int) : List.take i (List.drop 0 (List.replicate i c)) = List.replicate i c := by
  rw [List.drop_zero]; exact List.take_of_length_le (by simp)
theorem idL_get {i k : Nat} (h : k < i) : (idL i).getD k 0 = (k : Int) := by
  rw [List.getD_eq_getElem?_getD]; simp [idL, h]
theorem rep_get {i k : Nat} {c : Int} (h : k < i) : (List.replicate i c).getD k 0 = c := by
  rw [List.getD_eq_getElem?_getD]; simp [h]
theorem bad_of {n : Int} : ∀ {l : List Int}, (∀ x ∈ l, 0 ≤ x ∧ x < n) → badAny n l = false
  | [], _ => rfl
  | k :: r, h => by
    have := h k (by simp)
    simp only [badAny, bad_of (l := r) fun x hx => h x (by simp [hx]), Bool.or_false, Bool.or_eq_false_iff, decide_eq_false_iff_not]
    omega
theorem idL_bad (i : Nat) : badAny (i : Int) (idL i) = false := bad_of fun x hx => by
  obtain ⟨k, hk, rfl⟩ := List.mem_map.1 hx
  have := List.mem_range.1 hk
  exact ⟨Int.natCast_nonneg _, Int.ofNat_lt.2 this⟩
theorem rep_bad {i : Nat} {n c : Int} (h : 0 ≤ c ∧ c < n) : badAny n (List.replicate i c) = false := bad_of fun x hx => by
  rw [(List.mem_replicate.1 hx).2]; exact h
theorem farI_self (p : P3) : farI p p = 0 := by simp only [farI, far1]; omega
theorem farFold_id (p : List P3) : ∀ (l : List Int) (i : Nat), (∀ k, k < l.length → l.getD k 0 = ((i + k : Nat) : Int)) → farFold p p i l 0 = 0
  | [], _, _ => rfl
  | k :: r, i, h => by
    have h0 := h 0 (by simp)
    simp only [List.getD_cons_zero] at h0
    simp only [farFold]
    rw [Nat.add_zero] at h0
    rw [h0, Int.toNat_natCast, farI_self, Int.max_self]
    exact farFold_id p r (i + 1) fun k hk => by
      have := h (k + 1) (by simpa using hk)
      simp only [List.getD_cons_succ] at this
      rw [this]; omega
theorem self_1 (p : List P3) : moveR p (idL p.length) p = (0, 0) := by
  have hc : checkR p (idL p.length) p = 0 := by
    unfold checkR
    rw [if_neg (by rw [idL_len]; simp), idL_bad]; rfl
  unfold moveR
  rw [hc, if_neg (by decide), farFold_id p (idL p.length) 0 fun k hk => by rw [idL_get (by simpa [idL_len] using hk), Nat.zero_add]]
theorem farFold_att (p q : List P3) : ∀ (l : List Int) (i : Nat) (m : Int), farFold p q i l m = m ∨ ∃ k, k < l.length ∧ farI (p.getD (i + k) (0, 0, 0)) (q.getD (l.getD k 0).toNat (0, 0, 0)) = farFold p q i l m
  | [], _, _ => .inl rfl
  | a :: r, i, m => by
    simp only [farFold]
    rcases farFold_att p q r (i + 1) (max m (farI (p.getD i (0, 0, 0)) (q.getD a.toNat (0, 0, 0)))) with h | ⟨k, hk, h⟩
    · rw [h]
      by_cases hm : m ≤ farI (p.getD i (0, 0, 0)) (q.getD a.toNat (0, 0, 0))
      · exact .inr ⟨0, by simp, by simp only [Nat.add_zero, List.getD_cons_zero]; omega⟩
      · exact .inl (by omega)
    · exact .inr ⟨k + 1, by simpa using hk, by rw [List.getD_cons_succ, show i + (k + 1) = i + 1 + k by omega]; exact h⟩
theorem worst_found (p q : List P3) (far : Int) : ∀ (l : List Int) (i : Nat), (∃ k, k < l.length ∧ farI (p.getD (i + k) (0, 0, 0)) (q.getD (l.getD k 0).toNat (0, 0, 0)) = far) →
    ∃ k, k < l.length ∧ worstFind p q far i l = (((i + k : Nat) : Int), true) ∧ farI (p.getD (i + k) (0, 0, 0)) (q.getD (l.getD k 0).toNat (0, 0, 0)) = far
  | [], _, ⟨k, hk, _⟩ => by simp at hk
  | a :: r, i, ⟨k, hk, h⟩ => by
    simp only [worstFind]
    by_cases h0 : farI (p.getD i (0, 0, 0)) (q.getD a.toNat (0, 0, 0)) = far
    · rw [if_pos h0]
      exact ⟨0, by simp, by simp, by simpa using h0⟩
    · rw [if_neg h0]
      cases k with
      | zero => exact absurd (by simpa using h) h0
      | succ k =>
        obtain ⟨k', h1, h2, h3⟩ := worst_found p q far r (i + 1) ⟨k, by simpa using hk, by rw [List.getD_cons_succ, show i + (k + 1) = i + 1 + k by omega] at h; exact h⟩
        exact ⟨k' + 1, by simpa using h1, by rw [h2, show i + (k' + 1) = i + 1 + k' by omega], by rw [List.getD_cons_succ, show i + (k' + 1) = i + 1 + k' by omega]; exact h3⟩
theorem self_2 (p : List P3) (c : Int) (hc : 0 ≤ c ∧ c < p.length) : (moveR p (List.replicate p.length c) p).2 = 0 ∧ (worstR p (List.replicate p.length c) p).2 = true ∧
    (0 ≤ (worstR p (List.replicate p.length c) p).1 ∧ (worstR p (List.replicate p.length c) p).1 < p.length) ∧
    (moveR p (List.replicate p.length c) p).1 = farI (p.getD (worstR p (List.replicate p.length c) p).1.toNat (0, 0, 0)) (p.getD c.toNat (0, 0, 0)) := by
  have hk : checkR p (List.replicate p.length c) p = 0 := by
    unfold checkR
    rw [if_neg (by simp), rep_bad hc]; rfl
  have hm : moveR p (List.replicate p.length c) p = (farFold p p 0 (List.replicate p.length c) 0, 0) := by unfold moveR; rw [hk, if_neg (by decide)]
  have hw : worstR p (List.replicate p.length c) p = worstFind p p (farFold p p 0 (List.replicate p.length c) 0) 0 (List.replicate p.length c) := by
    unfold worstR; rw [hm]; rfl
  have hn : 0 < p.length := by omega
  have hl : (List.replicate p.length c).length = p.length := by simp
  obtain ⟨k, h1, h2, h3⟩ := worst_found p p (farFold p p 0 (List.replicate p.length c) 0) (List.replicate p.length c) 0 (by
    rcases farFold_att p p (List.replicate p.length c) 0 0 with h | h
    · refine ⟨0, by rw [hl]; exact hn, ?_⟩
      have h4 := farFold_max p p (List.replicate p.length c) 0 0 0 (by rw [hl]; exact hn)
      have h5 := farI_nn (p.getD (0 + 0) (0, 0, 0)) (p.getD ((List.replicate p.length c).getD 0 0).toNat (0, 0, 0))
      omega
    · exact h)
  rw [hl] at h1
  rw [hw, hm, h2]
  rw [rep_get h1] at h3
  refine ⟨rfl, rfl, ⟨by dsimp only; omega, by dsimp only; omega⟩, ?_⟩
  dsimp only
  rw [Int.toNat_natCast]; exact h3.symm
theorem self_3 {n : Int} {l : List P3} (hf : fitsR (n, l) = true) {m : Nat} (hm : (m : Int) = n) : simpR (n, l) (n, l) (idL m) = true := by
  rw [simpR_eq]
  have hG : rsG (n, l) (n, l) (idL m) = true := by
    have hb := idL_bad m
    rw [hm] at hb
    simp only [rsG, hf, idL_len, hm, hb]; simp
  simp only [rsimpR, hG, Bool.true_and, List.all_eq_true]
  intro t ht
  have h3 := triIn_spec (List.all_eq_true.1 (by simpa [fitsR] using hf : l.all (triIn n) = true) t ht)
  have e : img3 (idL m) t = t := by
    obtain ⟨a, b, c⟩ := t
    simp only at h3
    unfold img3
    dsimp only
    rw [idL_get (by omega), idL_get (by omega), idL_get (by omega), Int.toNat_of_nonneg h3.1.1, Int.toNat_of_nonneg h3.2.1.1, Int.toNat_of_nonneg h3.2.2.1]
  unfold rsT
  rw [e, Bool.or_eq_true, List.any_eq_true]
  exact .inr ⟨t, ht, by rw [hasAll_iff]; exact ⟨.inl rfl, .inr (.inl rfl), .inr (.inr rfl)⟩⟩
theorem self_4 {n c : Int} {l : List P3} (hf : fitsR (n, l) = true) {m : Nat} (hm : (m : Int) = n) (hc : 0 ≤ c ∧ c < n) : simpR (n, l) (n, l) (List.replicate m c) = true := by
  rw [simpR_eq]
  have hG : rsG (n, l) (n, l) (List.replicate m c) = true := by
    simp only [rsG, hf, List.length_replicate, rep_bad hc, hm]; simp
  simp only [rsimpR, hG, Bool.true_and, List.all_eq_true]
  intro t ht
  have h3 := triIn_spec (List.all_eq_true.1 (by simpa [fitsR] using hf : l.all (triIn n) = true) t ht)
  have e : img3 (List.replicate m c) t = (c, c, c) := by
    unfold img3
    rw [rep_get (by omega), rep_get (by omega), rep_get (by omega)]
  unfold rsT
  rw [e]; simp [same3]
def loopY (n : Int) (c : Int) : Spec Nat where
  inv i := (i : Int) ≤ n
  live i := [(47, .s (.int .i64 i)), (7, .s (.own 1 0 i)), (8, .s (.own 2 0 i))]
  keep := [1, 2, 3, 46]
  heap i := [(1, .row (.int .i64) 3 (idL i)), (2, .row (.int .i64) 3 (List.replicate i c))]
  keepH := [0]
  mu i := n.toNat - i
set_option maxHeartbeats 4000000 in
theorem lawY_vc (n : Int) (l : List P3) (p : List P3) (v : Int) (hg : goodArgs [soupE.av (n, l), (ETy.sl .arr3).av p, (ETy.int .u8).av v]) : afun ⟨tyL, [(9, awakeC), (14, greatC), (10, smallC), (19, surf9C), (11, moveC), (12, worstC), (18, farC), (15, simpC)], []⟩ Try.f7 [soupE.av (n, l), (ETy.sl .arr3).av p, (ETy.int .u8).av v] (fun v => v = .s (.bool true)) := by
  have hvv : 0 ≤ v ∧ v ≤ 255 := by
    have h : InK .u8 v := hg.2.2.1
    simp only [InK, IntKind.wrap_u8] at h
    omega
  clear hg
  repeat' (conv => whnf
           first
            | done
            | refine Need.intro (by first | omega | (simp only [i64ok] at *; omega)) ?_
            | refine Need.intro (Hold.out ?_) ?_
            | refine Give.intro fun _ => ?_
            | refine BIf.and ?_
            | refine BIf.or ?_
            | refine BIf.eqi (fun _ => ?_) (fun _ => ?_)
            | refine BIf.nei (fun _ => ?_) (fun _ => ?_)
            | refine BIf.dec (fun _ => ?_) (fun _ => ?_)
            | refine BIf.nt ?_
            | refine BIf.intro (fun _ => ?_) (fun _ => ?_)
            | ((first | (with_reducible show Or (∃ n, rounds (acode _ (Code.seq (Code.region 5 _ _) _)) _ n _) _) | (with_reducible show Or (∃ n, rounds (acode _ (Code.seq (Code.seq (Code.region 5 _ _) _) _)) _ n _) _) | (with_reducible show Or (∃ n, rounds (acode _ (Code.seq (Code.seq (Code.seq (Code.region 5 _ _) _) _) _)) _ n _) _) | (with_reducible show Or (∃ n, rounds (acode _ (Code.seq (Code.seq (Code.seq (Code.seq (Code.region 5 _ _) _) _) _) _)) _ n _) _)); refine Or.inr (Exists.intro (Nat) (Exists.intro (loopY n (v.tmod n)) (And.intro (Exists.intro (0) (And.intro (Hold.out ?_) (And.intro ?_ (And.intro ?_ rfl)))) (fun i hi => ?_)))))
            | ((with_reducible show (∃ y, And (Spec.inv (loopY _ _) y) _)); refine Exists.intro (i + 1) (And.intro (Hold.out ?_) (And.intro (And.intro ?_ (And.intro ?_ rfl)) (Hold.out ?_))))
            | refine And.intro rfl ?_
            | refine And.intro (HoldEq.out ?_) ?_
            | refine And.intro (HoldOb.out ?_) ?_
            | exact True.intro
            | refine HoldEq.out ?_
            | refine HoldObs.out ?_
            | refine HoldOr.out ?_)
  all_goals try first | refine HoldEq.int ?_ | refine HoldEq.bool ?_ | refine HoldEq.sl ?_ | refine HoldEq.own ?_ | refine HoldOb.row ?_ | refine HoldOb.map ?_ | refine HoldObs.row ?_
  all_goals try simp only [take_one, take_one', set_one, take_all, List.length_singleton, rec_self, Int.toNat_natCast, pair_eta, ETy.dflt, List.getD_cons_zero, List.getD_cons_succ, Int.reduceToNat, Int.reduceAdd, Int.reduceSub, Int.reduceNeg, Nat.reduceAdd, Nat.zero_add, loopY] at *
  all_goals try rfl
  all_goals try (rw [idL_take, idL_succ]; done)
  all_goals try (rw [rep_take, List.replicate_succ']; done)
  all_goals try (refine Hold.intro ?_; omega)
  all_goals
    have e : i = p.length := by omega
    subst e
    have hn : (p.length : Int) = n := by assumption
    have hf := (surf_fits (n := n) (l := l) (by simpa [surfR] using (by assumption : (allR (n, l)).length = 0))).1
    have hc : 0 ≤ v.tmod n ∧ v.tmod n < p.length := by
      have hv := hvv
      rw [hn]; exact ⟨Int.tmod_nonneg _ hv.1, Int.tmod_lt_of_pos _ (by omega)⟩
    simp only [idL_take, rep_take] at *
    have h1 := self_1 p
    have h2 := self_2 p (v.tmod n) hc
    have h3 := self_3 hf hn
    have h4 := self_4 hf hn (by rw [← hn]; exact hc)
    have h5 := h3
    simp only [simpR, simpG, Bool.and_eq_true, beq_iff_eq, Bool.not_eq_true'] at h5
  all_goals first
    | exact Hold.intro h2.2.2.1
    | exact Hold.intro hc
    | exact h4
    | (exfalso; exact absurd h5.1.1 (by assumption))
    | (exfalso; exact absurd h5.1.2.2.2.1 (by assumption))
    | (exfalso; have hh : badAny n (idL p.length) = true := by assumption
       rw [h5.1.2.2.2.2] at hh; cases hh)
    | (exfalso; have hh : l.all (simpT (knownR l [] []).fst (knownR l [] []).snd (idL p.length)) = false := by assumption
       rw [h5.2] at hh; cases hh)
    | (exfalso; have hh : fitsR (n, l) = false := by assumption
       rw [hf] at hh; cases hh)
    | (exfalso; have hh : (worstR p (List.replicate p.length (v.tmod n)) p).snd = false := by assumption
       rw [h2.2.1] at hh; cases hh)
    | (exfalso; exact absurd h2.2.2.2 (by assumption))
    | (exfalso; exact absurd h2.1 (by assumption))
    | (exfalso; exact absurd (congrArg Prod.fst h1) (by assumption))
    | (exfalso; exact absurd (congrArg Prod.snd h1) (by assumption))
def lawYC : List AV → Option Res := con3 soupE (.sl .arr3) (.int .u8) (fun _ _ _ => some (none, none, .s (.bool true)))
theorem lawYRow : FnRow Try.prog 7 lawYC := ⟨con3_ok fun s p v r h => by cases h; exact fn_by (rulesF (fn := [(9, awakeC), (14, greatC), (10, smallC), (19, surf9C), (11, moveC), (12, worstC), (18, farC), (15, simpC)]) (fr := []) ⟨awakeRow, greatRow, smallRow, surf9Row, moveRow, worstRow, farRow, simpRow, trivial⟩ trivial) Try.func7 (by kernel_rfl) fun hg _ => lawY_vc s.1 s.2 p v hg, _, Try.func7, by kernel_rfl, by kernel_rfl⟩
end S1
