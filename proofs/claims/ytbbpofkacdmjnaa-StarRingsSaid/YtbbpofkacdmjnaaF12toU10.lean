/- A part of the proofs of the laws of this seat: contracts of functions, each for every input that its text names. -/
import Derived.Test.YtbbpofkacdmjnaaU4toR2
import Derived.Test.YtbbpofkacdmjnaaR3toF11
set_option linter.unusedSimpArgs false
set_option linter.unusedVariables false
set_option maxHeartbeats 2000000
open Go Go.Vm Go.Proofs
namespace S1
set_option maxRecDepth 100000

/-! what is filled, and opened again -/
theorem nodup_in {l : List Int} {n : Int} (hn : l.Nodup) (h : ∀ v ∈ l, 0 ≤ v ∧ v < n) : l.length ≤ n.toNat := by
  have := len_sub l ((List.range n.toNat).map fun v => ((v : Nat) : Int)) hn fun v hv => List.mem_map.2 ⟨v.toNat, List.mem_range.2 (by have := h v hv; omega), by have := h v hv; omega⟩
  rwa [List.length_map, List.length_range] at this
structure Filled (x x' : tabE.T) : Prop where
  one : x'.1 = (vN x + (loopsR x).length, filT x (loopsR x).length)
  eq : fillR x = (x'.1, apx (vN x) (loopsR x).length, 0)
  new : newO x'.1 = some x'
  full : Full x'
  surf : Surf x'.1
  nob : ∀ w u, ¬ bE x' w u
  few : (loopsR x).length ≤ (vN x).toNat
theorem filled {x : tabE.T} (g : Full x) (hs : Surf x.1) (h1 : x.1.2.length ≤ 40) (h2 : vN x ≤ 120) : ∃ x', Filled x x' := by
  have hl := loops_lps g
  have hn := fitN g
  have hk : (loopsR x).length ≤ (vN x).toNat := lpS_len x _
  have hf : (fillS (vN x) (loopsR x) (loopsR x).length).length ≤ (vN x).toNat := by
    have e := congrArg List.length (fillS_fst (vN x) (loopsR x))
    rw [List.length_map] at e
    rw [e]
    exact nodup_in hl.nd fun v hv => by
      obtain ⟨w, hw⟩ := (loops_mem g).1 hv
      exact (bE_inN g hw).2.1
  have hlen : (filT x (loopsR x).length).length ≤ 160 := by
    unfold filT; rw [List.length_append]; omega
  have hS := fill_surf hl g hs (by omega) (by show (filT x (loopsR x).length).length ≤ 8192; omega)
  obtain ⟨k1, k2, k3⟩ := new_of hS
  refine ⟨newT _, k3, ?_, by rw [k3]; exact k1, k2, by rw [k3]; exact hS, fun w u hb => ?_, hk⟩
  · unfold fillR
    rw [if_neg (by omega), k3]; rfl
  · obtain ⟨e1, e2⟩ := (bE_iff k2).1 hb
    rw [k3] at e1 e2
    exact e2 (fill_closed hl g e1)
/-- Of what has no border nothing is filled. -/
theorem loops_none {x : tabE.T} (g : Full x) (h : ∀ w u, ¬ bE x w u) : loopsR x = [] := by
  have hl := loops_lps g
  refine List.eq_nil_iff_forall_not_mem.2 fun L hL => ?_
  have ok := hl.ok L hL
  obtain ⟨w, hw⟩ := ok.bord (getD_mem (l := L) (j := 0) ok.ne)
  exact h _ _ hw
theorem fill_none {x : tabE.T} (g : Full x) (h : ∀ w u, ¬ bE x w u) : fillR x = (x.1, [], 0) := by
  have hn := fitN g
  have e : filT x 0 = x.1.2 := List.append_nil _
  have hl : x.1.2.length ≤ 8192 := g.fit.2.2.1
  unfold fillR
  rw [loops_none g h]
  show (if vN x + ((0 : Nat) : Int) > 4096 ∨ ((filT x 0).length : Int) > 8192 then _ else ((vN x + ((0 : Nat) : Int), filT x 0), apx (vN x) 0, 0)) = _
  rw [e, if_neg (by omega)]
  have e0 : vN x + ((0 : Nat) : Int) = vN x := by omega
  rw [e0]; rfl
/-- What was filled is opened again. -/
theorem open_filled {x x' : tabE.T} (g : Full x) (hs : Surf x.1) (h : Filled x x') : openR x' (apx (vN x) (loopsR x).length) = (x.1, (List.range (vN x).toNat).map (fun v => ((v : Nat) : Int)), 0) := by
  have hl := loops_lps g
  have hn := fitN g
  have e1 : vN x' = vN x + ((loopsR x).length : Int) := congrArg Prod.fst h.one
  have e2 : x'.1.2 = filT x (loopsR x).length := congrArg Prod.snd h.one
  have hck : checkR x' (apx (vN x) (loopsR x).length) = 0 := by
    refine checkR_0 (fun a ha => ?_) (apx_nodup _ _) (fun a ha => ?_) fun a ha v hv hvm => ?_
    · have := apx_mem.1 ha
      show 0 ≤ a ∧ a < vN x'
      omega
    · have := apx_mem.1 ha
      refine (inner_iff h.full).2 ⟨?_, fun ⟨w, hw⟩ => h.nob _ _ hw⟩
      show 0 ≤ a ∧ a < vN x'
      omega
    · have ka := apx_mem.1 ha
      have kv := apx_mem.1 hvm
      have hnear := h.full.link_iff.1 hv
      obtain ⟨d, d1, d2⟩ := (near_iff h.full).1 hnear
      have he : ∃ b c, eE (filT x (loopsR x).length) b c ∧ vN x ≤ b ∧ vN x ≤ c := by
        rw [← e2]
        rcases d2 with d2 | d2
        · exact ⟨a, v, eE_iff.2 ⟨d, d1, d2⟩, ka.1, kv.1⟩
        · exact ⟨v, a, eE_iff.2 ⟨d, d1, d2⟩, kv.1, ka.1⟩
      obtain ⟨b, c, hbc, hb, hc⟩ := he
      rcases eE_app.1 hbc with ⟨i, hi, hd⟩ | hn2
      · have k1 : 0 ≤ b ∧ b < vN x := fit_hasV g.fit hi (dE_hasV hd).1
        omega
      · obtain ⟨t, ht, hd⟩ := eE_mem.1 hn2
        have bd := fill_bounds hl g ht
        rcases dE_st hd with ⟨ea, eb⟩ | ⟨ea, eb⟩ | ⟨ea, eb⟩ <;> omega
  have hok := open_keep (n := vN x) (k := (loopsR x).length) (l := x.1.2) (S := fillS (vN x) (loopsR x) (loopsR x).length) (ap := apx (vN x) (loopsR x).length) hn.1
    (fun i hi => by
      have : (0 ≤ (tg x.1.2 i).1 ∧ (tg x.1.2 i).1 < vN x) ∧ (0 ≤ (tg x.1.2 i).2.1 ∧ (tg x.1.2 i).2.1 < vN x) ∧ (0 ≤ (tg x.1.2 i).2.2 ∧ (tg x.1.2 i).2.2 < vN x) := triIn_spec (g.fit.2.2.2 i hi)
      exact this)
    (fun t ht => by
      have := fill_bounds hl g ht
      exact apx_mem.2 (by omega))
    (fun v => apx_mem)
  have hx1 : x'.1 = (vN x + ((loopsR x).length : Int), x.1.2 ++ fillS (vN x) (loopsR x) (loopsR x).length) := h.one
  unfold openR
  rw [if_neg (by rw [hck]; simp), hx1, hok.1]
  have hc : (chkR (vN x, x.1.2)).1 = 0 := (surf_iff x.1).2 hs
  rw [if_pos hc]
  exact congrArg (fun z => ((vN x, x.1.2), z, (0 : Int))) hok.2
/-- Nothing is opened: it is what it was. -/
theorem open_nil {x : tabE.T} (g : Full x) (hs : Surf x.1) : openR x [] = (x.1, (List.range (vN x).toNat).map (fun v => ((v : Nat) : Int)), 0) := by
  have hn := fitN g
  have hck : checkR x [] = 0 := checkR_0 (fun a ha => (by cases ha)) List.nodup_nil (fun a ha => (by cases ha)) fun a ha => (by cases ha)
  have hok := open_keep (n := vN x) (k := 0) (l := x.1.2) (S := []) (ap := []) hn.1
    (fun i hi => by
      have : (0 ≤ (tg x.1.2 i).1 ∧ (tg x.1.2 i).1 < vN x) ∧ (0 ≤ (tg x.1.2 i).2.1 ∧ (tg x.1.2 i).2.1 < vN x) ∧ (0 ≤ (tg x.1.2 i).2.2 ∧ (tg x.1.2 i).2.2 < vN x) := triIn_spec (g.fit.2.2.2 i hi)
      exact this)
    (fun t ht => by cases ht) (fun v => ⟨fun h => (by cases h), fun h => by omega⟩)
  have e0 : vN x + ((0 : Nat) : Int) = vN x := by omega
  rw [List.append_nil, e0] at hok
  unfold openR
  rw [if_neg (by rw [hck]; simp)]
  have e3 : openS x.1 [] = (vN x, x.1.2) := hok.1
  rw [e3]
  have hc : (chkR (vN x, x.1.2)).1 = 0 := (surf_iff x.1).2 hs
  rw [if_pos hc]
  exact congrArg (fun z => ((vN x, x.1.2), z, (0 : Int))) hok.2
/-! round an apex -/
theorem aroundF_nodup {x : tabE.T} (g : Good x) {b : Int} : ∀ n k, k + n = 30000 → FInv (tAfter x) b k → (aroundF x b n (iter (tAfter x) b k)).Nodup ∧ ∀ y ∈ aroundF x b n (iter (tAfter x) b k), ∃ m, k ≤ m ∧ y = iter (tAfter x) b m ∧ FInv (tAfter x) b m
  | 0, k, e, h => by have := fin_after g h; omega
  | n + 1, k, e, h => by
    unfold aroundF
    by_cases h1 : tAfter x (iter (tAfter x) b k) < 0
    · rw [if_pos h1]
      exact ⟨List.nodup_cons.2 ⟨by simp, List.nodup_nil⟩, fun y hy => ⟨k, Nat.le_refl _, List.mem_singleton.1 hy, h⟩⟩
    · rw [if_neg h1]
      by_cases h2 : tAfter x (iter (tAfter x) b k) = b
      · rw [if_pos h2]
        exact ⟨List.nodup_cons.2 ⟨by simp, List.nodup_nil⟩, fun y hy => ⟨k, Nat.le_refl _, List.mem_singleton.1 hy, h⟩⟩
      · rw [if_neg h2]
        obtain ⟨i1, i2⟩ := aroundF_nodup g n (k + 1) (by omega) (h.succ h1 h2)
        refine ⟨List.nodup_cons.2 ⟨fun hy => ?_, i1⟩, fun y hy => ?_⟩
        · obtain ⟨m, m1, m2, m3⟩ := i2 _ hy
          have := iter_back (f := tAfter x) g.after_inj (c := b) (i := k) (j := m - k) (fun q q1 q2 => (h q q1 q2).1) (by rw [m2]; congr 1; omega)
          exact (m3 (m - k) (by omega) (by omega)).2 this
        · rcases List.mem_cons.1 hy with e | hy
          · exact ⟨k, Nat.le_refl _, e, h⟩
          · obtain ⟨m, m1, m2, m3⟩ := i2 y hy
            exact ⟨m, by omega, m2, m3⟩
theorem around_nodup {x : tabE.T} (g : Full x) {v : Int} (h0 : 0 ≤ v) (h1 : v < vN x) : (aroundL (some x) v).Nodup := by
  obtain ⟨b, _, eL, _⟩ := g.around h0 h1
  rw [eL]
  exact (aroundF_nodup g.toGood 30000 0 rfl (fun j a b => by omega)).1
theorem link_nodup {x : tabE.T} (g : Full x) {v : Int} (hi : innerR x v = true) : (linkR x v).Nodup := by
  obtain ⟨⟨h0, h1⟩, hb⟩ := (inner_iff g).1 hi
  obtain ⟨b, _, eL, hb1, hb2, hb3, hall, hcl, _⟩ := g.around h0 h1
  have hno : ∀ c ∈ aroundL (some x) v, ¬ tAfter x c < 0 := fun c hc ha => by
    obtain ⟨k1, k2⟩ := hall c hc
    have := last_bE g k1 ha
    rw [k2] at this
    exact hb ⟨_, this⟩
  have hpos : (aroundL (some x) v).length ≥ 1 := List.length_pos_of_mem hb3
  have hlast : lkLast (aroundL (some x) v) (aroundL (some x) v).length = (aroundL (some x) v).getD ((aroundL (some x) v).length - 1) 0 := by
    unfold lkLast; rw [if_neg (by omega)]
  have hin : (aroundL (some x) v).getD ((aroundL (some x) v).length - 1) 0 ∈ aroundL (some x) v := getD_mem (by omega)
  unfold linkR
  rw [if_neg (fun e => hno _ (by rw [hlast] at e; exact hin) (by rw [hlast] at e; exact e.2)), List.append_nil]
  unfold lkO
  rw [List.take_length]
  refine List.Pairwise.map _ (fun c d h => ?_) ((around_nodup g h0 h1).imp_of_mem (S := fun c d => c ≠ d ∧ c ∈ aroundL (some x) v ∧ d ∈ aroundL (some x) v) fun hc hd hn => ⟨hn, hc, hd⟩)
  obtain ⟨hn, hc, hd⟩ := h
  intro e
  exact hn (g.toGood.same (hall c hc).1 (hall d hd).1 ((hall c hc).2.trans (hall d hd).2.symm) e)
theorem ring_mem {x x' : tabE.T} (g : Full x) (h : Filled x x') {j : Nat} (hj : j < (loopsR x).length) {v : Int} : v ∈ linkR x' (vN x + (j : Int)) ↔ v ∈ (loopsR x).getD j [] := by
  have hl := loops_lps g
  have hn := fitN g
  have e2 : x'.1.2 = filT x (loopsR x).length := congrArg Prod.snd h.one
  have key : ∀ {b c : Int}, eE (filT x (loopsR x).length) b c → (b = vN x + (j : Int) → c ∈ (loopsR x).getD j []) ∧ (c = vN x + (j : Int) → b ∈ (loopsR x).getD j []) := fun {b c} hbc => by
    rcases eE_app.1 hbc with ⟨i, hi, hd⟩ | hn2
    · have k1 : 0 ≤ b ∧ b < vN x := fit_hasV g.fit hi (dE_hasV hd).1
      have k2 : 0 ≤ c ∧ c < vN x := fit_hasV g.fit hi (dE_hasV hd).2
      exact ⟨fun e => by omega, fun e => by omega⟩
    · obtain ⟨t, ht, hd⟩ := eE_mem.1 hn2
      have bd := fill_bounds hl g ht
      obtain ⟨j', st⟩ := stT_of hl ht
      have hz := st.z
      have same : t.2.2 = vN x + (j : Int) → j' = j := fun e => by omega
      rcases dE_st hd with ⟨ea, eb⟩ | ⟨ea, eb⟩ | ⟨ea, eb⟩
      · exact ⟨fun e => by omega, fun e => by omega⟩
      · refine ⟨fun e => by omega, fun e => ?_⟩
        have := same (by omega)
        subst this
        rw [ea]; exact st.m2
      · refine ⟨fun e => ?_, fun e => by omega⟩
        have := same (by omega)
        subst this
        rw [eb]; exact st.m1
  rw [h.full.link_iff, near_iff h.full]
  constructor
  · rintro ⟨d, d1, d2 | d2⟩
    · have := eE_iff.2 ⟨d, d1, d2⟩
      rw [e2] at this
      exact (key this).1 rfl
    · have := eE_iff.2 ⟨d, d1, d2⟩
      rw [e2] at this
      exact (key this).2 rfl
  · intro hv
    obtain ⟨i, hi, ei⟩ := mem_getD hv
    have hm : ((loopsR x).getD j []).getD i 0 = v := ei
    have : eE x'.1.2 (vN x + (j : Int)) v := by
      rw [e2]
      refine eE_app.2 (.inr (eE_mem.2 ⟨_, fillS_mem.2 ⟨j, i, hj, hi, rfl⟩, .inr (.inr ⟨rfl, hm⟩)⟩))
    obtain ⟨d, d1, d2⟩ := eE_iff.1 this
    exact ⟨d, d1, .inl d2⟩
theorem apx_in {x x' : tabE.T} (g : Full x) (h : Filled x x') {j : Nat} (hj : j < (loopsR x).length) : innerR x' (vN x + (j : Int)) = true := by
  have hn := fitN g
  have e1 : vN x' = vN x + ((loopsR x).length : Int) := congrArg Prod.fst h.one
  refine (inner_iff h.full).2 ⟨?_, fun ⟨w, hw⟩ => h.nob _ _ hw⟩
  show 0 ≤ _ ∧ _ < vN x'
  omega
theorem ring_len {x x' : tabE.T} (g : Full x) (h : Filled x x') {j : Nat} (hj : j < (loopsR x).length) : (linkR x' (vN x + (j : Int))).length = ((loopsR x).getD j []).length := by
  have h1 := link_nodup h.full (apx_in g h hj)
  have h2 := ((loops_lps g).ok _ (getDn_mem hj)).nd
  have k1 := len_sub _ _ h1 fun v hv => (ring_mem g h hj).1 hv
  have k2 := len_sub _ _ h2 fun v hv => (ring_mem g h hj).2 hv
  omega
end S1

open Go Go.Vm Go.Proofs
open S9 (surf9C surf9Row surfR surf9_iff chk_surf)
namespace S1
set_option maxRecDepth 100000

/-! StarRings -/
def lkI (N : Int × List P3 → tabE.T) (F : Int × List P3 → FoR) (s : Int × List P3) (i : Nat) : List Int := linkR (N (F s).1) ((F s).2.1.getD i 0)
def loopRi (F : Int × List P3 → FoR) (s : Int × List P3) : Spec Nat where
  inv i := i ≤ (F s).2.1.length
  live i := [(60, .s (.int .i64 i))]
  keep := [1, 2, 3, 4, 5, 6, 7, 8, 9, 10, 58, 59]
  heap _ := []
  keepH := [0, 1, 2, 3]
  mu i := (F s).2.1.length - i
def loopRj (L : List Int) : Spec Nat where
  inv j := j ≤ L.length
  live j := [(85, .s (.int .i64 j))]
  keep := [1, 2, 3, 4, 5, 6, 7, 8, 9, 10, 11, 12, 13, 14, 58, 59, 60, 83, 84]
  heap j := [(4, .map i64E .bool (insM (L.take j)))]
  keepH := [0, 1, 2, 3]
  mu j := L.length - j
def loopRk (L : List Int) : Spec Nat where
  inv k := k ≤ L.length
  live k := [(97, .s (.int .i64 k))]
  keep := [1, 2, 3, 4, 5, 6, 7, 8, 9, 10, 11, 12, 13, 14, 58, 59, 60, 95, 96]
  heap _ := []
  keepH := [0, 1, 2, 3, 4]
  mu k := L.length - k
theorem sr_facts {n : Int} {l : List P3} (h : Surf (n, l)) (hc : ¬ (l.length > 40 ∨ n > 120)) : ∃ x' : tabE.T, Filled (newT (n, l)) x' ∧ fillO (n, l) = (x'.1, apx n (loopsR (newT (n, l))).length, 0) ∧ newT (fillO (n, l)).1 = x' := by
  obtain ⟨k1, k2, k3⟩ := new_of h
  obtain ⟨x', f⟩ := filled (x := newT (n, l)) k2 (by rw [k3]; exact h) (by show l.length ≤ 40; omega) (by show n ≤ 120; omega)
  have e : fillO (n, l) = (x'.1, apx n (loopsR (newT (n, l))).length, 0) := by rw [fillO_of h]; exact f.eq
  refine ⟨x', f, e, ?_⟩
  rw [e]
  exact (new_full f.new).1.symm
attribute [local irreducible] insM linkR loopsR innerR
set_option maxHeartbeats 4000000 in
theorem lawSR_vc (n : Int) (l : List P3) (F : Int × List P3 → FoR) (hF : F = fillO) (N : Int × List P3 → tabE.T) (hN : N = newT) : afun ⟨tyL, [(31, awake17C), (32, great17C), (34, surf9C), (33, filFC F), (28, newFC N), (40, loopsC), (27, linkC), (25, innerC)], []⟩ Try.f9 [soupE.av (n, l)] (fun r => r = .s (.bool true)) := by
  repeat' (conv => whnf
           first | done | refine Need.intro (by first | rfl | omega | (simp only [i64ok] at *; omega)) ?_ | refine Need.intro (Hold.out ?_) ?_ | refine Give.intro fun _ => ?_ | refine Both.intro ?_ ?_ | refine BIf.and ?_ | refine BIf.or ?_ | refine BIf.eqi (fun _ => ?_) (fun _ => ?_) | refine BIf.nei (fun _ => ?_) (fun _ => ?_) | refine BIf.dec (fun _ => ?_) (fun _ => ?_) | refine BIf.nt ?_ | refine BIf.intro (fun _ => ?_) (fun _ => ?_) | ((first | (with_reducible show Or (∃ n, rounds (acode _ (Code.seq (Code.region 10 _ _) _)) _ n _) _) | (with_reducible show Or (∃ n, rounds (acode _ (Code.seq (Code.seq (Code.region 10 _ _) _) _)) _ n _) _) | (with_reducible show Or (∃ n, rounds (acode _ (Code.seq (Code.seq (Code.seq (Code.region 10 _ _) _) _) _)) _ n _) _) | (with_reducible show Or (∃ n, rounds (acode _ (Code.seq (Code.seq (Code.seq (Code.seq (Code.region 10 _ _) _) _) _) _)) _ n _) _) | (with_reducible show Or (∃ n, rounds (acode _ (Code.block _ (Code.seq (Code.region 10 _ _) _))) _ n _) _) | (with_reducible show Or (∃ n, rounds (acode _ (Code.block _ (Code.seq (Code.seq (Code.region 10 _ _) _) _))) _ n _) _) | (with_reducible show Or (∃ n, rounds (acode _ (Code.block _ (Code.seq (Code.seq (Code.seq (Code.region 10 _ _) _) _) _))) _ n _) _) | (with_reducible show Or (∃ n, rounds (acode _ (Code.block _ (Code.seq (Code.seq (Code.seq (Code.seq (Code.region 10 _ _) _) _) _) _))) _ n _) _)); refine Or.inr (Exists.intro (Nat) (Exists.intro (loopRi F (n, l)) (And.intro (Exists.intro (0) (And.intro (Hold.out ?_) (And.intro ?_ (And.intro ?_ rfl)))) (fun i hi => ?_))))) | ((with_reducible show (∃ y, And (Spec.inv (loopRi _ _) y) _)); refine Exists.intro (i + 1) (And.intro (Hold.out ?_) (And.intro (And.intro ?_ (And.intro ?_ rfl)) (Hold.out ?_)))) | ((first | (with_reducible show Or (∃ n, rounds (acode _ (Code.seq (Code.region 17 _ _) _)) _ n _) _) | (with_reducible show Or (∃ n, rounds (acode _ (Code.seq (Code.seq (Code.region 17 _ _) _) _)) _ n _) _) | (with_reducible show Or (∃ n, rounds (acode _ (Code.seq (Code.seq (Code.seq (Code.region 17 _ _) _) _) _)) _ n _) _) | (with_reducible show Or (∃ n, rounds (acode _ (Code.seq (Code.seq (Code.seq (Code.seq (Code.region 17 _ _) _) _) _) _)) _ n _) _) | (with_reducible show Or (∃ n, rounds (acode _ (Code.block _ (Code.seq (Code.region 17 _ _) _))) _ n _) _) | (with_reducible show Or (∃ n, rounds (acode _ (Code.block _ (Code.seq (Code.seq (Code.region 17 _ _) _) _))) _ n _) _) | (with_reducible show Or (∃ n, rounds (acode _ (Code.block _ (Code.seq (Code.seq (Code.seq (Code.region 17 _ _) _) _) _))) _ n _) _) | (with_reducible show Or (∃ n, rounds (acode _ (Code.block _ (Code.seq (Code.seq (Code.seq (Code.seq (Code.region 17 _ _) _) _) _) _))) _ n _) _)); refine Or.inr (Exists.intro (Nat) (Exists.intro (loopRj (lkI N F (n, l) i)) (And.intro (Exists.intro (0) (And.intro (Hold.out ?_) (And.intro ?_ (And.intro ?_ rfl)))) (fun j hj => ?_))))) | ((with_reducible show (∃ y, And (Spec.inv (loopRj _) y) _)); refine Exists.intro (j + 1) (And.intro (Hold.out ?_) (And.intro (And.intro ?_ (And.intro ?_ rfl)) (Hold.out ?_)))) | ((first | (with_reducible show Or (∃ n, rounds (acode _ (Code.seq (Code.region 22 _ _) _)) _ n _) _) | (with_reducible show Or (∃ n, rounds (acode _ (Code.seq (Code.seq (Code.region 22 _ _) _) _)) _ n _) _) | (with_reducible show Or (∃ n, rounds (acode _ (Code.seq (Code.seq (Code.seq (Code.region 22 _ _) _) _) _)) _ n _) _) | (with_reducible show Or (∃ n, rounds (acode _ (Code.seq (Code.seq (Code.seq (Code.seq (Code.region 22 _ _) _) _) _) _)) _ n _) _) | (with_reducible show Or (∃ n, rounds (acode _ (Code.block _ (Code.seq (Code.region 22 _ _) _))) _ n _) _) | (with_reducible show Or (∃ n, rounds (acode _ (Code.block _ (Code.seq (Code.seq (Code.region 22 _ _) _) _))) _ n _) _) | (with_reducible show Or (∃ n, rounds (acode _ (Code.block _ (Code.seq (Code.seq (Code.seq (Code.region 22 _ _) _) _) _))) _ n _) _) | (with_reducible show Or (∃ n, rounds (acode _ (Code.block _ (Code.seq (Code.seq (Code.seq (Code.seq (Code.region 22 _ _) _) _) _) _))) _ n _) _)); refine Or.inr (Exists.intro (Nat) (Exists.intro (loopRk ((loopsR (N (n, l))).getD i [])) (And.intro (Exists.intro (0) (And.intro (Hold.out ?_) (And.intro ?_ (And.intro ?_ rfl)))) (fun k hk => ?_))))) | ((with_reducible show (∃ y, And (Spec.inv (loopRk _) y) _)); refine Exists.intro (k + 1) (And.intro (Hold.out ?_) (And.intro (And.intro ?_ (And.intro ?_ rfl)) (Hold.out ?_)))) | refine And.intro rfl ?_ | refine And.intro (HoldEq.out ?_) ?_ | refine And.intro (HoldOb.out ?_) ?_ | exact True.intro | refine HoldEq.out ?_ | refine HoldObs.out ?_ | refine KCheck.intro (by kernel_rfl) ?_ | refine HoldOr.out ?_)
  all_goals try first | refine HoldEq.int ?_ | refine HoldEq.bool ?_ | refine HoldEq.sl ?_ | refine HoldEq.own ?_ | refine HoldEq.ownS ?_ ?_ | refine HoldOb.row ?_ | refine HoldOb.map ?_ | refine HoldOb.gmap ?_ | refine HoldOb.grow ?_ | refine HoldObs.row ?_
  all_goals try simp only [take_one, take_one', set_one, take_all, List.length_singleton, rec_self, Int.toNat_natCast, pair_eta, ETy.dflt, List.getD_cons_zero, List.getD_cons_succ, Int.reduceToNat, Int.reduceAdd, Int.reduceSub, Int.reduceNeg, Nat.reduceAdd, Nat.zero_add, loopRi, loopRj, loopRk, had_def, had_def2] at *
  all_goals
    have hS : Surf (n, l) := (surf9_iff (n, l)).1 (by unfold surfR; rw [beq_iff_eq]; assumption)
    obtain ⟨k1, g, k3⟩ := new_of hS
    obtain ⟨x', f, e1, hy⟩ := sr_facts hS (by assumption)
    subst hF hN
    have ha : (fillO (n, l)).2.1 = apx n (loopsR (newT (n, l))).length := by rw [e1]
    have hal : (fillO (n, l)).2.1.length = (loopsR (newT (n, l))).length := by rw [ha, apx_len]
    have hz : ∀ i, i < (loopsR (newT (n, l))).length → (fillO (n, l)).2.1.getD i 0 = vN (newT (n, l)) + (i : Int) := fun i hi => by
      rw [ha]; exact mapr_get hi
    have hlk : ∀ i, i < (loopsR (newT (n, l))).length → lkI newT fillO (n, l) i = linkR x' (vN (newT (n, l)) + (i : Int)) := fun i hi => by
      unfold lkI; rw [hy, hz i hi]
    have hg : Full (newT (fillO (n, l)).1) := by rw [hy]; exact f.full
  all_goals try (refine Hold.intro ?_; omega)
  all_goals try exact Hold.intro k1
  all_goals try (refine Hold.intro ?_; rw [hy, e1]; exact f.new)
  all_goals try exact Hold.intro (fun y h => by cases h; exact g)
  all_goals try exact Hold.intro (fun y h => by cases h; exact hg.toGood)
  all_goals try exact absurd (congrArg (fun r => r.2.2) e1) (by assumption)
  all_goals try exact absurd (show (((loopsR (newT (n, l))).length : Nat) : Int) = (fillO (n, l)).2.1.length by rw [hal]) (by assumption)
  all_goals have hi1 : i < (loopsR (newT (n, l))).length := by omega
  all_goals have hk := hlk i hi1
  · have e := ring_len g f hi1
    rw [← hk] at e
    exact absurd (show (((lkI newT fillO (n, l) i).length : Nat) : Int) = ((loopsR (newT (n, l))).getD i []).length by rw [e]) (by assumption)
  · exact Hold.intro hg.toGood
  · unfold insM; rfl
  · have hj1 : (j : Int) < (lkI newT fillO (n, l) i).length := by assumption
    refine Hold.intro ?_; omega
  · have hj1 : (j : Int) < (lkI newT fillO (n, l) i).length := by assumption
    exact insM_succ (by omega)
  · have hj1 : (j : Int) < (lkI newT fillO (n, l) i).length := by assumption
    refine Hold.intro ?_; omega
  all_goals try have hk1 : (k : Int) < ((loopsR (newT (n, l))).getD i []).length := by assumption
  all_goals try (refine Hold.intro ?_; omega)
  · have hj2 : ¬ (j : Int) < (lkI newT fillO (n, l) i).length := by assumption
    have ej : (lkI newT fillO (n, l) i).take j = lkI newT fillO (n, l) i := List.take_of_length_le (by omega)
    have hv : ((loopsR (newT (n, l))).getD i []).getD k 0 ∈ lkI newT fillO (n, l) i := by
      rw [hk]
      exact (ring_mem g f hi1).2 (getD_mem (by omega))
    have hh : had (insM ((lkI newT fillO (n, l) i).take j)) (((loopsR (newT (n, l))).getD i []).getD k 0) = false := by assumption
    rw [ej] at hh
    rw [had_iff.2 hv] at hh
    cases hh
  · have e := apx_in g f hi1
    have hh : innerR (newT (fillO (n, l)).1) ((fillO (n, l)).2.1.getD i 0) = false := by assumption
    rw [hy, hz i hi1, e] at hh
    cases hh
def lawSRC : List AV → Option Res := con1 soupE (fun _ => some (none, none, .s (.bool true)))
theorem lawSRRow : FnRow Try.prog 9 lawSRC := ⟨con1_ok fun s r h => by
  cases h
  exact fn_by (rulesF (fn := [(31, awake17C), (32, great17C), (34, surf9C), (33, filFC fillO), (28, newFC newT), (40, loopsC), (27, linkC), (25, innerC)]) (fr := []) ⟨awake17Row, great17Row, surf9Row, (filFRow fillO), (newFRow newT), loopsRow, linkRow, innerRow, trivial⟩ trivial) Try.func9 (by kernel_rfl) fun _ _ => lawSR_vc s.1 s.2 fillO rfl newT rfl, _, Try.func9, by kernel_rfl, by kernel_rfl⟩
end S1
