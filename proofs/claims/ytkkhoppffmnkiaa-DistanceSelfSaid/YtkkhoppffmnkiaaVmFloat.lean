/- A drawn region in whose midst a row grows: the calm operations behind the append, which do not wait for it, may come ahead of it or behind it. -/
import Derived.Test.YtkkhoppffmnkiaaVmCode
set_option linter.unusedSimpArgs false
set_option linter.unusedVariables false
namespace Go.Vm
open Go.RowKit

theorem slotsOf_eq (ops : Array Oper) (o : Oper) : slotsOf ops o = o.looksAt ops := by
  unfold slotsOf Oper.looksAt
  congr 1
  cases o.guard with
  | none => rfl
  | some jw =>
    obtain ⟨j, w⟩ := jw
    simp only
    cases ops[j]? with
    | none => rfl
    | some o' =>
      simp only [Option.bind_some]
      cases o'.dst <;> rfl

/-! ### Values that have nothing to do with a row -/
theorem beq_not {i r : Nat} (h : (!Nat.beq i r) = true) : Nat.beq i r = false := by simpa using h
theorem AS.kill_free {r : Nat} {a : AS} (h : a.free r = true) : kill r a = a := by
  cases a <;> simp only [kill] <;> simp only [AS.free] at h <;> (try rw [beq_not h])
theorem map_kill {r : Nat} : ∀ {l : List AS}, l.all (AS.free r) = true → l.map (kill r) = l
  | [], _ => rfl
  | a :: l, h => by
    simp only [List.all_cons, Bool.and_eq_true] at h
    rw [List.map_cons, AS.kill_free h.1, map_kill h.2]
theorem AV.kill_free {r : Nat} {v : AV} (h : v.free r = true) : v.mapAS (kill r) = v := by
  cases v with
  | s a => simp only [AV.mapAS]; rw [AS.kill_free h]
  | agg l => simp only [AV.mapAS]; rw [map_kill h]
  | tup l =>
    simp only [AV.mapAS]
    congr 1
    simp only [AV.free] at h
    induction l with
    | nil => rfl
    | cons v l ih =>
      simp only [List.all_cons, Bool.and_eq_true] at h
      rw [List.map_cons, ih h.2]
      congr 1
      cases v with
      | s a => simp only [AV.map1]; rw [AS.kill_free h.1]
      | agg l => simp only [AV.map1]; rw [map_kill h.1]
      | tup l => cases h.1
theorem Ob.kill_free {r : Nat} {o : Ob} (h : o.free r = true) : o.mapAS (kill r) = o := by
  cases o with
  | flat u cs => simp only [Ob.mapAS]; rw [map_kill h]
  | _ => rfl
theorem heapFree_get {r : Nat} : ∀ {hp : Heap}, heapFree r hp = true → ∀ id, id ≠ r → hget (hp.mapAS (kill r)) id = hget hp id
  | [], _, _, _ => rfl
  | (k, o) :: l, h, id, hne => by
    simp only [heapFree, Bool.and_eq_true, Bool.or_eq_true] at h
    simp only [Heap.mapAS, hget_cons]
    split
    · rename_i e
      rcases h.1 with hb | hf
      · exact absurd (e.symm.trans (Nat.eq_of_beq_eq_true hb)) hne
      · rw [Ob.kill_free hf]
    · exact heapFree_get h.2 id hne
theorem AS.free_okP {r : Nat} {a : AS} (h : a.free r = true) : a.okP (fun i => !Nat.beq i r) = true := by cases a <;> exact h
theorem AV.free_okP {r : Nat} {v : AV} (h : v.free r = true) : v.okP (fun i => !Nat.beq i r) := by
  cases v with
  | s a => exact AS.free_okP h
  | agg l => exact List.all_eq_true.2 fun a ha => AS.free_okP (List.all_eq_true.1 h a ha)
  | tup l => trivial

theorem ofVal_free {r : Nat} (u : Value) : (AS.ofVal u).free r = true := by
  unfold AS.ofVal
  split <;> rfl
theorem const_free {r : Nat} (u : Value) : (AV.ofVal u).free r = true := by
  unfold AV.ofVal
  split
  · simp only [AV.free, List.all_map, List.all_eq_true]
    intro a _; exact ofVal_free a
  · exact ofVal_free u
/-! ### The append -/
theorem isApp_spec {o : Oper} {x y : Operand} {d : Tmp} (h : isApp o = some (x, y, d)) : o.guard = none ∧ o.dst = some d ∧ ∃ ts, o.op = .call ⟨.builtin .append, #[x, y], ts⟩ := by
  unfold isApp at h
  split at h
  · rename_i c d' hop hg hd
    split at h
    · rename_i x' y' hc ha
      cases h
      obtain ⟨callee, args, ts⟩ := c
      simp only at hc ha
      subst hc
      have : args = #[x, y] := by rw [← Array.toArray_toList (xs := args), ha]
      subst this
      exact ⟨hg, hd, ts, hop⟩
    · cases h
  · cases h

theorem eAppend_env {T : Tab} {ts : List TypeId} {xv yv : AV} {env : Env} {hp : Heap} {nx : Nat} {d : Option Tmp} {res} (h : eAppend T ts xv yv ⟨env, hp, nx⟩ d = some res) :
    ∃ r s n n' row q, xv = .s (.own r s n) ∧ (∃ ob, hget hp r = some ob) ∧ res = (none, q, (⟨env.mapAS (kill r), hset (hp.mapAS (kill r)) r row, nx⟩ : St).put d (.s (.own r 0 n'))) ∧ ∀ env', eAppend T ts xv yv ⟨env', hp, nx⟩ d = some (none, q, (⟨env'.mapAS (kill r), hset (hp.mapAS (kill r)) r row, nx⟩ : St).put d (.s (.own r 0 n'))) := by
  unfold eAppend at h ⊢
  dsimp only at h ⊢
  split at h
  case h_2 => cases h
  rename_i t t' id s n e' ys hys
  split at h
  case h_2 => cases h
  rename_i u' e u xs hb hd hid
  split at h
  case h_2 => cases h
  rename_i he ui hdec hbu hui
  split at h
  case h_2 => cases h
  rename_i c1 c2 c3
  refine ⟨id, s, n, n + ys.length, .row e u ((xs.drop s).take n ++ (he ▸ ys)), some (((n : Int) + ys.length) * ui.bytes ≤ 140737488355328), rfl, ⟨_, hid⟩, (Option.some.inj h).symm, fun env' => ?_⟩
  simp only [hys, hb, hd, hid, hdec, hbu, hui, c1, c2, c3]

section
variable {P : Program} {B : Base} {w : World} {σ : Sig} {β : Places} {st : St} {T : Tab} {N : Nat} {a : Act} {r : Option Nat} {n : Nat} {ops : Array Oper} {Q : Exit → Act → World → Prop}

/-- What an operation of the front part yields: the append (at f), its row; a calm one behind it has nothing to do with that row. -/
def YA (T : Tab) (ops : Array Oper) (hp : Heap) (f row : Nat) (x y : Operand) (xv yv vF : AV) (i : Nat) (o : Oper) (v : AV) (e : Fr) : Prop :=
  (i = f ∧ v = vF ∧ (x ∈ o.op.operands ∧ y ∈ o.op.operands) ∧ opndF e x = xv ∧ opndF e y = yv) ∨
  (i ≠ f ∧ ((wantedF ops e o = some true ∧ ∃ p q, acalm T o.op (opndF e) hp = some (p, q, v) ∧ Opt q) ∨ (wantedF ops e o = some false ∧ v = .undef)) ∧ (f < i → (∀ t ∈ o.looksAt ops, (e t).free row = true) ∧ (o.dst ≠ none → v.free row = true)))

theorem wantedF_upd {o : Oper} {e : Fr} {d : Option Tmp} {u : AV} (h : ∀ t, d = some t → t ∉ o.looksAt ops) : wantedF ops (upd e d u) o = wantedF ops e o := by
  unfold wantedF
  cases hg : o.guard with
  | none => rfl
  | some jw =>
    obtain ⟨j, want⟩ := jw
    simp only
    cases hs : guardSlot ops j with
    | none => rfl
    | some s =>
      simp only
      have : upd e d u s = e s := by
        cases d with
        | none => rfl
        | some t =>
          have hne : t ≠ s := by
            rintro rfl
            refine h t rfl ?_
            simp only [Oper.looksAt, hg, List.mem_append]
            right
            unfold guardSlot at hs
            cases ho : ops[j]? with
            | none => simp [ho] at hs
            | some o' => simp only [ho] at hs; simp [hs]
          simp [upd, hne]
      rw [this]
theorem looks_op {o : Oper} {t : Tmp} (h : Operand.tmp t ∈ o.op.operands) : t ∈ o.looksAt ops := by
  simp only [Oper.looksAt, List.mem_append, List.mem_filterMap]
  exact .inl ⟨.tmp t, by simpa using h, rfl⟩
theorem opndF_upd' {o : Oper} {e : Fr} {d : Option Tmp} {u : AV} (h : ∀ t, d = some t → t ∉ o.looksAt ops) : ∀ x ∈ o.op.operands, opndF (upd e d u) x = opndF e x := fun x hx => opndF_upd fun t ht hxt => h t ht (by subst hxt; exact looks_op hx)
theorem upd_same {e : Fr} {d : Option Tmp} {u : AV} {t : Tmp} (h : ∀ t', d = some t' → t' ≠ t) : upd e d u t = e t := by
  cases d with
  | none => rfl
  | some t' => simp only [upd]; rw [if_neg (h t' rfl)]

theorem YA_still {hp : Heap} {f row : Nat} {x y : Operand} {xv yv vF : AV} : Still (YA T ops hp f row x y xv yv vF) ops := by
  intro i o v u e d h
  unfold YA
  rw [wantedF_upd h, acalm_congr (opndF_upd' h)]
  have : ∀ t ∈ o.looksAt ops, upd e d u t = e t := fun t ht => upd_same fun t' hd e => h t' hd (e ▸ ht)
  constructor
  · rintro (⟨h1, h2, h3, h4⟩ | ⟨h1, h2, h3⟩)
    · rw [opndF_upd' h x h3.1, opndF_upd' h y h3.2] at h4
      exact .inl ⟨h1, h2, h3, h4⟩
    · exact .inr ⟨h1, h2, fun hlt => ⟨fun t ht => by rw [← this t ht]; exact (h3 hlt).1 t ht, (h3 hlt).2⟩⟩
  · rintro (⟨h1, h2, h3, h4⟩ | ⟨h1, h2, h3⟩)
    · rw [← opndF_upd' h x h3.1, ← opndF_upd' h y h3.2] at h4
      exact .inl ⟨h1, h2, h3, h4⟩
    · exact .inr ⟨h1, h2, fun hlt => ⟨fun t ht => by rw [this t ht]; exact (h3 hlt).1 t ht, (h3 hlt).2⟩⟩

theorem aops_cons {draw : Bool} {o : Oper} {l : List Oper} {st : St} {K : St → Prop} (h : aops T draw ops (o :: l) st K) : aops T draw ops [o] st (fun s => aops T draw ops l s K) := by
  simp only [aops] at h ⊢
  exact h

/-- One calm operation of a region whose order is drawn. -/
theorem calm_one (R : Rules P T) {o : Oper} (hc : opCalm o.op = true) (ho : operOk N o = true) {env : Env} {hp : Heap} {nx : Nat} (h : GA B N ⟨env, hp, nx⟩ a w) {K : St → Prop} (hk : aops T true ops [o] ⟨env, hp, nx⟩ K) :
    ∃ v env' a' w', eget env' = upd (eget env) o.dst v ∧ K ⟨env', hp, nx⟩ ∧ GA B N ⟨env', hp, nx⟩ a' w' ∧
      ((wantedF ops (eget env) o = some true ∧ ∃ p q, acalm T o.op (opndF (eget env)) hp = some (p, q, v) ∧ Opt q) ∨ (wantedF ops (eget env) o = some false ∧ v = .undef)) := by
  have run : ∀ {env1 : Env}, eget env1 = eget env → wantedF ops (eget env) o = some true → aop T true o ⟨env1, hp, nx⟩ K →
      ∃ v env' a' w', eget env' = upd (eget env) o.dst v ∧ K ⟨env', hp, nx⟩ ∧ GA B N ⟨env', hp, nx⟩ a' w' ∧
      ((wantedF ops (eget env) o = some true ∧ ∃ p q, acalm T o.op (opndF (eget env)) hp = some (p, q, v) ∧ Opt q) ∨ (wantedF ops (eget env) o = some false ∧ v = .undef)) := by
    intro env1 hE hw hk
    have hEv : opnd env1 = opndF (eget env) := by rw [← opndF_eq, hE]
    have h1 : GA B N ⟨env1, hp, nx⟩ a w := by
      obtain ⟨σ, β, hg⟩ := h.gg
      exact ⟨h.defers, h.size, σ, β, hg.congr hE.symm fun _ => rfl⟩
    have core : ∀ {p q : Option Prop} {st' : St}, astep T true o ⟨env1, hp, nx⟩ = some (p, q, st') → Opt p ∧ (Opt q → K st' →
        ∃ v env' a' w', eget env' = upd (eget env) o.dst v ∧ K ⟨env', hp, nx⟩ ∧ GA B N ⟨env', hp, nx⟩ a' w' ∧
        ((wantedF ops (eget env) o = some true ∧ ∃ p q, acalm T o.op (opndF (eget env)) hp = some (p, q, v) ∧ Opt q) ∨ (wantedF ops (eget env) o = some false ∧ v = .undef))) := by
      intro p q st' hs
      unfold astep at hs
      simp only at hs
      split at hs
      · rename_i res hcs
        cases Option.some.inj hs
        unfold calmStep at hcs
        split at hcs
        · rename_i p' q' v hv
          cases hcs
          obtain ⟨g1, g2⟩ := calm_wp (r := none) (n := 0) R h1 ho hv
          refine ⟨g1, fun hq hk' => ?_⟩
          obtain ⟨a', w', hga'⟩ := wpIn_exists (g2 hq (K := fun a' w' => GA B N ((⟨env1, hp, nx⟩ : St).put o.dst v) a' w') (Q := fun _ _ _ => False) fun _ _ h => h)
          obtain ⟨env', e1, e2⟩ := put_upd env1 hp nx o.dst v
          rw [e1] at hk' hga'
          refine ⟨v, env', a', w', by rw [e2, hE], hk', hga', .inl ⟨hw, p, q, ?_, hq⟩⟩
          rw [← hEv]; exact hv
        · cases hcs
      · rename_i hcs
        rw [aeff_none hc hcs] at hs; cases hs
    unfold aop at hk
    simp only [St.force_eq] at hk
    split at hk
    · rename_i st' hs; exact (core hs).2 trivial hk
    · rename_i p st' hs; obtain ⟨h1, h2⟩ := core hs; exact h2 trivial (hk.out h1)
    · rename_i q st' hs; obtain ⟨h1, h2⟩ := core hs; obtain ⟨k1, k2⟩ := hk.out; exact h2 k1 k2
    · rename_i p q st' hs; obtain ⟨h1, h2⟩ := core hs; obtain ⟨k1, k2⟩ := (hk.out h1).out; exact h2 k1 k2
    · exact hk.elim
  have skip : ∀ {env1 : Env}, eget env1 = eget env → wantedF ops (eget env) o = some false → K ((⟨env1, hp, nx⟩ : St).put o.dst .undef) →
      ∃ v env' a' w', eget env' = upd (eget env) o.dst v ∧ K ⟨env', hp, nx⟩ ∧ GA B N ⟨env', hp, nx⟩ a' w' ∧
      ((wantedF ops (eget env) o = some true ∧ ∃ p q, acalm T o.op (opndF (eget env)) hp = some (p, q, v) ∧ Opt q) ∨ (wantedF ops (eget env) o = some false ∧ v = .undef)) := by
    intro env1 hE hw hk
    have h1 : GA B N ⟨env1, hp, nx⟩ a w := by
      obtain ⟨σ, β, hg⟩ := h.gg
      exact ⟨h.defers, h.size, σ, β, hg.congr hE.symm fun _ => rfl⟩
    obtain ⟨env', e1, e2⟩ := put_upd env1 hp nx o.dst .undef
    have hga := ga_skip h1 ho
    rw [e1] at hk hga
    exact ⟨.undef, env', _, w, by rw [e2, hE], hk, hga, .inr ⟨hw, rfl⟩⟩
  simp only [aops, St.force_eq] at hk
  cases hg : o.guard with
  | none =>
    simp only [hg] at hk
    exact run rfl (by simp [wantedF, hg]) hk
  | some jw =>
    obtain ⟨j, want⟩ := jw
    simp only [hg] at hk
    split at hk
    · rename_i b hb
      obtain ⟨d, hd, hd2⟩ := guardVal_slot (ops := ops) (env := env) (j := j) (by rw [hb]; simp)
      rw [hd2] at hb
      rw [hd] at hk
      have hw : wantedF ops (eget env) o = some (b == want) := by simp [wantedF, hg, hd, hb]
      have hE : ∀ b', eget env d = .s (.bool b') → eget ((d, .s (.bool b')) :: env) = eget env := fun b' hb' => by
        funext x; rw [eget_cons]; split
        · rename_i e; subst e; exact hb'.symm
        · rfl
      cases b with
      | true =>
        cases want with
        | true => exact run (hE _ hb) hw hk
        | false => exact skip (hE _ hb) hw hk
      | false =>
        cases want with
        | true => exact skip (hE _ hb) hw hk
        | false => exact run (hE _ hb) hw hk
    · rename_i vs hb
      obtain ⟨d, hd, hd2⟩ := guardVal_slot (ops := ops) (env := env) (j := j) (by rw [hb]; simp)
      rw [hd2] at hb
      exact skip rfl (by simp [wantedF, hg, hd, hb]) hk
    · exact hk.elim

theorem lexRun_append {Y : Nat → Oper → AV → Fr → Prop} {em ef : Fr} : ∀ {l1 l2 : List Oper} {i : Nat} {e : Fr}, lexRun Y em i l1 e → lexRun Y ef (i + l1.length) l2 em → lexRun Y ef i (l1 ++ l2) e
  | [], l2, i, e, h1, h2 => by
    obtain rfl : e = em := h1
    simpa using h2
  | o :: l1, l2, i, e, ⟨v, h1, h3⟩, h2 => ⟨v, h1, lexRun_append h3 (by rw [show i + 1 + l1.length = i + (o :: l1).length by simp; omega]; exact h2)⟩

theorem run_first (R : Rules P T) {hp : Heap} {nx f : Nat} : ∀ (l : List Oper) (i : Nat) {env : Env} {a : Act} {w : World} {K : St → Prop}, i + l.length ≤ f → (∀ o ∈ l, opCalm o.op = true ∧ operOk N o = true) →
    GA B N ⟨env, hp, nx⟩ a w → aops T true ops l ⟨env, hp, nx⟩ K → ∃ env' a' w', K ⟨env', hp, nx⟩ ∧ GA B N ⟨env', hp, nx⟩ a' w' ∧ ∀ row x y xv yv vF, lexRun (YA T ops hp f row x y xv yv vF) (eget env') i l (eget env)
  | [], i, env, a, w, K, _, _, h, hk => ⟨env, a, w, hk, h, fun _ _ _ _ _ _ => rfl⟩
  | o :: l, i, env, a, w, K, hi, hl, h, hk => by
    simp only [List.length_cons] at hi
    obtain ⟨hc, ho⟩ := hl o (by simp)
    obtain ⟨v, env1, a1, w1, e1, k1, g1, y1⟩ := calm_one R hc ho h (aops_cons hk)
    obtain ⟨env', a', w', k2, g2, y2⟩ := run_first R (f := f) l (i + 1) (by omega) (fun o' h' => hl o' (by simp [h'])) g1 k1
    exact ⟨env', a', w', k2, g2, fun row x y xv yv vF => ⟨v, .inr ⟨by omega, y1, fun hlt => absurd hlt (by omega)⟩, by rw [← e1]; exact y2 row x y xv yv vF⟩⟩

theorem run_window (R : Rules P T) {hp : Heap} {nx f row : Nat} {oF : Oper} {d : Tmp} {x y : Operand} (hx : x ∈ oF.op.operands) (hy : y ∈ oF.op.operands) :
    ∀ (l : List Oper) (i : Nat) {env : Env} {a : Act} {w : World} {K : St → Prop}, f < i → (∀ j : Nat, j < l.length → l[j]? = ops[i + j]?) → winOk ops oF d l = true → (∀ o ∈ l, operOk N o = true) →
    GA B N ⟨env, hp, nx⟩ a w → aopsC T row ops l ⟨env, hp, nx⟩ K → ∃ env' a' w', K ⟨env', hp, nx⟩ ∧ GA B N ⟨env', hp, nx⟩ a' w' ∧ (opndF (eget env') x = opndF (eget env) x ∧ opndF (eget env') y = opndF (eget env) y) ∧
      ∀ xv yv vF, lexRun (YA T ops hp f row x y xv yv vF) (upd (eget env') (some d) vF) i l (upd (eget env) (some d) vF)
  | [], i, env, a, w, K, _, _, _, _, h, hk => ⟨env, a, w, hk, h, ⟨rfl, rfl⟩, fun _ _ _ => rfl⟩
  | o :: l, i, env, a, w, K, hi, hop, hw, hl, h, hk => by
    simp only [winOk, Bool.and_eq_true, Bool.not_eq_true'] at hw
    obtain ⟨⟨hc, hlk, hdst⟩, hw'⟩ := hw
    simp only [aopsC] at hk
    split at hk
    case h_2 => exact hk.elim
    rename_i hfo
    obtain ⟨v, env1, a1, w1, e1, k1, g1, y1⟩ := calm_one R hc (hl o (by simp)) h hk
    split at k1
    case h_2 => exact k1.elim
    rename_i hfd
    obtain ⟨env', a', w', k2, g2, ⟨ex, ey⟩, y2⟩ := run_window R (f := f) hx hy l (i + 1) (by omega) (fun j hj => by
      have := hop (j + 1) (by simp; omega); simpa [Nat.add_assoc, Nat.add_comm 1 j] using this) hw' (fun o' h' => hl o' (by simp [h'])) g1 k1
    have h0 : ops[i]? = some o := by simpa using (hop 0 (by simp)).symm
    have hdl : ∀ t, some d = some t → t ∉ o.looksAt ops := fun t e hm => by
      cases e
      have : (o.looksAt ops).contains d = true := by simpa using hm
      rw [hlk] at this; cases this
    have hdd : ∀ t, some d = some t → o.dst ≠ some t := fun t e hd => by
      cases e
      rw [hd] at hdst
      simp only [Bool.and_eq_true, Bool.not_eq_true'] at hdst
      rw [Nat.beq_refl] at hdst; cases hdst.1
    have hdF : ∀ t, o.dst = some t → t ∉ oF.looksAt ops := fun t hd hm => by
      rw [hd] at hdst
      simp only [Bool.and_eq_true, Bool.not_eq_true'] at hdst
      have : (oF.looksAt ops).contains t = true := by simpa using hm
      rw [this] at hdst; cases hdst.2
    refine ⟨env', a', w', k2, g2, ⟨?_, ?_⟩, fun xv yv vF => ⟨v, .inr ⟨by omega, ?_, fun _ => ⟨fun t ht => ?_, fun hne => ?_⟩⟩, ?_⟩⟩
    · rw [ex, e1]; exact opndF_upd' hdF x hx
    · rw [ey, e1]; exact opndF_upd' hdF y hy
    · rw [wantedF_upd hdl, acalm_congr (opndF_upd' hdl)]; exact y1
    · rw [upd_same fun t' e => by cases e; rintro rfl; exact hdl _ rfl ht]
      simp only [freeOps, List.all_eq_true, slotsOf_eq] at hfo
      exact hfo t ht
    · cases hd : o.dst with
      | none => exact absurd hd hne
      | some t =>
        simp only [freeDst, hd] at hfd
        have : eget env1 t = v := by rw [e1, hd]; simp [upd]
        rw [this] at hfd; exact hfd
    · rw [upd_comm hdd, ← e1]; exact y2 xv yv vF

/-- In the midst of the front part: the append has come, or not. -/
structure FA (B : Base) (N : Nat) (ops : Array Oper) (k f row : Nat) (d : Tmp) (hp : Heap) (nx : Nat) (hpF : Heap) (listed : Array Bool) (e : Fr) (a : Act) (w : World) : Prop where
  dn : ∀ j i, j < k → listed.getD j true = true → waits ops j i = true → listed.getD i true = true
  pre : listed.getD f true = false → ∃ env, eget env = e ∧ GA B N ⟨env, hp, nx⟩ a w
  post : listed.getD f true = true → ∃ env, (∀ t, eget env t = if t = d then e t else (e t).mapAS (kill row)) ∧ GA B N ⟨env, hpF, nx⟩ a w

theorem need_spec {k : Nat} {listed : Array Bool} (dn : ∀ j i, j < k → listed.getD j true = true → waits ops j i = true → listed.getD i true = true) : ∀ (i : Nat) (acc : List Nat), needAll ops i acc = true → (∀ j ∈ acc, j < k ∧ listed.getD j true = true) → i ≤ k → ∀ i' < i, listed.getD i' true = true
  | 0, _, _, _, _, i', h => absurd h (by omega)
  | i + 1, acc, hn, ha, hik, i', hi' => by
    simp only [needAll] at hn
    split at hn
    case h_2 => cases hn
    rename_i hany
    obtain ⟨j, hj, hw⟩ := List.any_eq_true.1 hany
    have hi : listed.getD i true = true := dn j i (ha j hj).1 (ha j hj).2 hw
    by_cases e : i' = i
    · subst e; exact hi
    · exact need_spec dn i (i :: acc) hn (fun j hj => by
        rcases List.mem_cons.1 hj with rfl | hj
        · exact ⟨by omega, hi⟩
        · exact ha j hj) (by omega) i' (by omega)

theorem getD_false_true {l : Array Bool} {i : Nat} (h : l.getD i false = true) : l.getD i true = true := by
  rcases Nat.lt_or_ge i l.size with h' | h'
  · simpa [Array.getD_eq_getD_getElem?, h'] using h
  · simp [Array.getD_eq_getD_getElem?, Array.getElem?_eq_none h'] at h

theorem ready_waits {i j : Nat} {listed : Array Bool} (h : i ∈ Region.ready .any ops listed) (hw : waits ops i j = true) : listed.getD j true = true := by
  obtain ⟨_, o, ho, hall⟩ := mem_ready.1 h
  unfold waits at hw
  rw [ho] at hw
  obtain ⟨x, hx, hb⟩ := Array.any_eq_true'.1 hw
  simp only [Bool.and_eq_true, beq_iff_eq] at hb
  have := hall x hx hb.1
  rw [hb.2] at this
  exact getD_false_true this

theorem float_any (R : Rules P T) (hall : ∀ (i : Nat) (o : Oper), ops[i]? = some o → operOk N o = true) {hp hpF : Heap} {nx k f row fuel : Nat} {d : Tmp} {oF : Oper} {x y : Operand} {xv yv vF : AV} {ef : Fr} {q : Option Prop} (lk : Array Bool)
    (hfk : f < k) (hoF : ops[f]? = some oF) (hgF : oF.guard = none) (hdF : oF.dst = some d) (hq : Opt q)
    (hF : ∀ env, opnd env x = xv → opnd env y = yv → aeff T oF ⟨env, hp, nx⟩ = some (none, q, (⟨env.mapAS (kill row), hpF, nx⟩ : St).put (some d) vF)) (hneed : needAll ops f [f] = true)
    (hsame : ∀ id, id ≠ row → hget hpF id = hget hp id)
    (hwin : ∀ i o, f < i → i < k → ops[i]? = some o → d ∉ o.looksAt ops ∧ o.dst ≠ some d)
    (htail : ∀ (a : Act) (w : World) (listed : Array Bool) (env : Env), (∀ i < k, listed.getD i true = true) → (∀ i, listed.getD i true = lk.getD i true) → listed.size = lk.size → (∀ t, eget env t = if t = d then ef t else (ef t).mapAS (kill row)) → GA B N ⟨env, hpF, nx⟩ a w → wpAnyIn (FR r) n P .any ops Q fuel listed a w) :
    ∀ (m : Nat) (listed : Array Bool) (e : Fr) (a : Act) (w : World), calmAny (YA T ops hp f row x y xv yv vF) ops k ef m listed e → (∀ i, k ≤ i → listed.getD i true = lk.getD i true) → (∀ i < k, lk.getD i true = true) → listed.size = lk.size → FA B N ops k f row d hp nx hpF listed e a w →
      wpAnyIn (FR r) n P .any ops Q (m + fuel) listed a w
  | 0, listed, e, a, w, h, hl1, hl2, hs, hr => by
    obtain ⟨h1, rfl⟩ := h
    rw [Nat.zero_add]
    obtain ⟨env, e1, g1⟩ := hr.post (h1 f hfk)
    refine htail a w listed env h1 (fun i => ?_) hs e1 g1
    by_cases hi : i < k
    · rw [h1 i hi, hl2 i hi]
    · exact hl1 i (by omega)
  | m + 1, listed, e, a, w, h, hl1, hl2, hs, hr => by
    rw [show m + 1 + fuel = (m + fuel) + 1 by omega]
    refine ⟨fun h0 => (h.1 h0).elim, fun i hi => ?_⟩
    obtain ⟨hik, o, v, ho, hy, hk⟩ := h.2 i hi
    have hun := (mem_ready.1 hi).1
    have hop := hall i o ho
    have nxt : ∀ (a' : Act) (w' : World), FA B N ops k f row d hp nx hpF (listed.setIfInBounds i true) (upd e o.dst v) a' w' → wpAnyIn (FR r) n P .any ops Q (m + fuel) (listed.setIfInBounds i true) a' w' := fun a' w' hr' =>
      float_any R hall lk hfk hoF hgF hdF hq hF hneed hsame hwin htail m _ _ a' w' hk (fun j hj => by rw [getD_set_ne true (by omega)]; exact hl1 j hj) hl2 (by simpa using hs) hr'
    have dn' : ∀ j i', j < k → (listed.setIfInBounds i true).getD j true = true → waits ops j i' = true → (listed.setIfInBounds i true).getD i' true = true := fun j i' hj hl hw => by
      have hres : listed.getD i' true = true := by
        by_cases e : i = j
        · subst e; exact ready_waits hi hw
        · rw [getD_set_ne true e] at hl; exact hr.dn j i' hj hl hw
      by_cases e : i = i'
      · subst e; exact getD_set_self
      · rw [getD_set_ne true e]; exact hres
    unfold wpOpIn
    simp only [ho]
    rcases hy with ⟨rfl, rfl, _, hxv, hyv⟩ | ⟨hif, hyc, hfree⟩
    · -- the append
      rw [hoF] at ho; cases ho
      obtain ⟨env, e1, g1⟩ := hr.pre hun
      rw [if_pos (by simp [Region.wanted, hgF])]
      have he := hF env (by rw [← opndF_eq, e1]; exact hxv) (by rw [← opndF_eq, e1]; exact hyv)
      refine (eff_wp R g1 hop he).2 hq fun a' w' hga => nxt a' w' ⟨dn', fun hl => ?_, fun _ => ⟨_, fun t => ?_, hga⟩⟩
      · rw [getD_set_self] at hl; cases hl
      · show eget ((d, v) :: env.mapAS (kill row)) t = _
        rw [eget_cons, hdF]
        by_cases e : t = d
        · subst e; simp [upd]
        · rw [if_neg (Ne.symm e), if_neg e, eget_mapAS _ rfl, e1]; simp only [upd]; rw [if_neg (Ne.symm e)]
    · have keepF : (listed.setIfInBounds i true).getD f true = listed.getD f true := getD_set_ne true hif
      cases hlf : listed.getD f true with
      | false =>
        obtain ⟨env, e1, g1⟩ := hr.pre hlf
        have step : ∀ {a' : Act} {w' : World} {u : AV}, GA B N ((⟨env, hp, nx⟩ : St).put o.dst u) a' w' → u = v → FA B N ops k f row d hp nx hpF (listed.setIfInBounds i true) (upd e o.dst v) a' w' := fun {a' w' u} hga hu => by
          subst hu
          obtain ⟨env', e2, e3⟩ := put_upd env hp nx o.dst u
          rw [e2] at hga
          exact ⟨dn', fun _ => ⟨env', by rw [e3, e1], hga⟩, fun hl => by rw [keepF, hlf] at hl; cases hl⟩
        rcases hyc with ⟨hw, p, q', hc, hq'⟩ | ⟨hw, rfl⟩
        · rw [if_pos (wanted_of hw e1 g1)]
          rw [← e1, opndF_eq] at hc
          exact (calm_wp R g1 hop hc).2 hq' fun a' w' hga => nxt a' w' (step hga rfl)
        · rw [if_neg (by rw [wanted_of hw e1 g1]; simp)]
          exact ⟨fun f _ => trivial, nxt _ _ (step (ga_skip g1 hop) rfl)⟩
      | true =>
        obtain ⟨env, e1, g1⟩ := hr.post hlf
        have hfi : f < i := by
          rcases Nat.lt_trichotomy i f with hlt | heq | hgt
          · have := need_spec hr.dn f [f] hneed (fun j hj => by
              obtain rfl := List.mem_singleton.1 hj; exact ⟨hfk, hlf⟩) (by omega) i hlt
            rw [this] at hun; cases hun
          · exact absurd heq hif
          · exact hgt
        obtain ⟨hf1, hf2⟩ := hfree hfi
        obtain ⟨hd1, hd2⟩ := hwin i o hfi hik ho
        have hlook : ∀ t ∈ o.looksAt ops, eget env t = e t := fun t ht => by
          rw [e1, if_neg (by rintro rfl; exact hd1 ht), AV.kill_free (hf1 t ht)]
        have hopnd : ∀ x ∈ o.op.operands, opnd env x = opndF e x := fun x hx => by
          cases x with
          | tmp t => exact hlook t (looks_op hx)
          | _ => rfl
        have hwant : ∀ {b}, wantedF ops e o = some b → wantedF ops (eget env) o = some b := fun {b} hw => by
          rw [← hw]
          unfold wantedF
          cases hg : o.guard with
          | none => rfl
          | some jw =>
            obtain ⟨j, want⟩ := jw
            simp only
            cases hs : guardSlot ops j with
            | none => rfl
            | some s =>
              simp only
              rw [hlook s (by
                simp only [Oper.looksAt, hg, List.mem_append]
                right
                unfold guardSlot at hs
                cases ho : ops[j]? with
                | none => simp [ho] at hs
                | some o' => simp only [ho] at hs; simp [hs])]
        have step : ∀ {a' : Act} {w' : World} {u : AV}, GA B N ((⟨env, hpF, nx⟩ : St).put o.dst u) a' w' → u = v → FA B N ops k f row d hp nx hpF (listed.setIfInBounds i true) (upd e o.dst v) a' w' := fun {a' w' u} hga hu => by
          subst hu
          obtain ⟨env', e2, e3⟩ := put_upd env hpF nx o.dst u
          rw [e2] at hga
          refine ⟨dn', fun hl => (by rw [keepF, hlf] at hl; cases hl), fun _ => ⟨env', fun t => ?_, hga⟩⟩
          rw [e3]
          cases hd : o.dst with
          | none => exact e1 t
          | some d' =>
            simp only [upd]
            have hne : d' ≠ d := fun e => hd2 (by rw [hd, e])
            by_cases e : d' = t
            · subst e
              rw [if_pos rfl, if_neg hne, if_pos rfl, AV.kill_free (hf2 (by rw [hd]; simp))]
            · rw [if_neg e, if_neg e]; exact e1 t
        rcases hyc with ⟨hw, p, q', hc, hq'⟩ | ⟨hw, rfl⟩
        · rw [if_pos (wanted_of (hwant hw) rfl g1)]
          have hc' : acalm T o.op (opnd env) hpF = some (p, q', v) := by
            rw [acalm_congr hopnd, acalm_heapP (Pr := fun i => !Nat.beq i row) (fun x hx => AV.free_okP (by
              cases x with
              | tmp t => exact hf1 t (looks_op hx)
              | const u => exact const_free u
              | _ => rfl)) (hp := hp) fun id hid => hsame id (fun e => by subst e; simp [Nat.beq_refl] at hid)]
            exact hc
          exact (calm_wp R g1 hop hc').2 hq' fun a' w' hga => nxt a' w' (step hga rfl)
        · rw [if_neg (by rw [wanted_of (hwant hw) rfl g1]; simp)]
          exact ⟨fun f _ => trivial, nxt _ _ (step (ga_skip g1 hop) rfl)⟩
end
end Go.Vm
