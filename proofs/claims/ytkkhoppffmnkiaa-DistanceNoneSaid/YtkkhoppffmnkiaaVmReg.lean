/- A region whose order is drawn: the calm operations in any order, then the others in theirs. -/
import Derived.Test.YtkkhoppffmnkiaaVmRun
set_option linter.unusedSimpArgs false
set_option linter.unusedVariables false
namespace Go.Vm
open Go.RowKit

/-- A look at a frame. -/
abbrev Fr := Nat → AV
def upd (e : Fr) (d : Option Tmp) (v : AV) : Fr := match d with
  | some t => fun x => if t = x then v else e x
  | none => e

def opndF (e : Fr) : Operand → AV
  | .tmp t => e t
  | .const v => AV.ofVal v
  | .global _ => .junk
  | .func f => .s (.val (.func (.func f) #[] #[]))

theorem opndF_eq (env : Env) : opndF (eget env) = opnd env := by funext x; cases x <;> rfl

/-- Is an operation's guard as wanted? -/
def wantedF (ops : Array Oper) (e : Fr) (o : Oper) : Option Bool :=
  match o.guard with
  | none => some true
  | some (j, want) => match guardSlot ops j with
    | some d => match e d with
      | .s (.bool b) => some (b == want)
      | .s (.val (.tuple _)) => some false
      | _ => none
    | none => none

def isAlloc : Op → Option TypeId
  | .alloc t => some t
  | _ => none

/-- The allocations ahead of a place. -/
def acnt : List Oper → Nat → Nat
  | [], _ => 0
  | _ :: _, 0 => 0
  | o :: l, i + 1 => (match isAlloc o.op with | some _ => 1 | none => 0) + acnt l i

/-- As far as a number, the heaps are the same. -/
def HExt (nx : Nat) (hp hp' : Heap) : Prop := ∀ id, id < nx → hget hp' id = hget hp id

/-- What an operation of the front part yields: a calm one, whatever lies in the heap from nx on; an allocation, its thing. -/
def Yields (T : Tab) (ops : Array Oper) (hp : Heap) (nx i : Nat) (o : Oper) (v : AV) (e : Fr) : Prop :=
  match isAlloc o.op with
  | none => (wantedF ops e o = some true ∧ ∃ p q, (∀ hp', HExt nx hp hp' → acalm T o.op (opndF e) hp' = some (p, q, v)) ∧ Opt q) ∨ (wantedF ops e o = some false ∧ v = .undef)
  | some t => o.guard = none ∧ (T.info t).isSome = true ∧ v = .s (.ptr (nx + acnt ops.toList i) 0 0)

theorem acalm_congr {T : Tab} {op : Op} {ev ev' : Operand → AV} {hp : Heap} (h : ∀ x ∈ op.operands, ev x = ev' x) : acalm T op ev hp = acalm T op ev' hp := by
  have pairs : ∀ l : List (Nat × Operand), (∀ x ∈ l.map (·.2), ev x = ev' x) → (l.map fun p => (p.1, ev p.2)) = (l.map fun p => (p.1, ev' p.2)) := fun l hl =>
    List.map_congr_left fun p hp => by rw [hl p.2 (List.mem_map.2 ⟨p, hp, rfl⟩)]
  cases op <;> simp only [acalm] <;> simp only [Op.operands] at h
  case move x => rw [h x (by simp)]
  case assign x => rw [h x (by simp)]
  case pick c a b => rw [h c (by simp), h a (by simp), h b (by simp)]
  case build t ps => rw [pairs _ fun x hx => h x (by simpa using hx)]
  case buildSlice t n ps => rw [pairs _ fun x hx => h x (by simpa using hx)]
  case load t x => rw [h x (by simp)]
  case nilCheck x => rw [h x (by simp)]
  case binOp op t x y u => rw [h x (by simp), h y (by simp)]
  case unOp op t x => rw [h x (by simp)]
  case convert s d x => rw [h x (by simp)]
  case slice t x lo hi mx =>
    cases mx with
    | some _ => rfl
    | none =>
      simp only
      rw [h x (by simp)]
      congr 1
      · cases lo with
        | none => rfl
        | some y => simp [h y (by simp)]
      · cases hi with
        | none => rfl
        | some y => simp [h y (by simp)]
  case fieldAddr t x f => rw [h x (by simp)]
  case field t x f => rw [h x (by simp)]
  case indexAddr t x i => rw [h x (by simp), h i (by simp)]
  case index t x i => rw [h x (by simp), h i (by simp)]
  case lookup t x i c => rw [h x (by simp), h i (by simp)]
  case extract x i => rw [h x (by simp)]
  case call c =>
    have : c.args.toList.map ev = c.args.toList.map ev' := List.map_congr_left fun x hx => h x (by simp [Call.operands]; right; simpa using hx)
    rw [this]

section
variable {T : Tab} {ops : Array Oper} {hp : Heap} {nx : Nat}

theorem opndF_upd {e : Fr} {d : Option Tmp} {v : AV} {x : Operand} (h : ∀ t, d = some t → x ≠ .tmp t) : opndF (upd e d v) x = opndF e x := by
  cases d with
  | none => rfl
  | some t =>
    cases x with
    | tmp s =>
      have : t ≠ s := fun e => h t rfl (by rw [e])
      simp [opndF, upd, this]
    | _ => rfl

theorem Yields.of_apart {i : Nat} {o : Oper} {v u : AV} {e : Fr} {d : Option Tmp} (h : ∀ t, d = some t → t ∉ o.looksAt ops) : Yields T ops hp nx i o v (upd e d u) ↔ Yields T ops hp nx i o v e := by
  have h1 : ∀ hp, acalm T o.op (opndF (upd e d u)) hp = acalm T o.op (opndF e) hp := fun hp => acalm_congr fun x hx => opndF_upd fun t ht hxt => h t ht (by
    subst hxt
    simp only [Oper.looksAt, List.mem_append, List.mem_filterMap]
    exact .inl ⟨.tmp t, by simpa using hx, rfl⟩)
  have h2 : wantedF ops (upd e d u) o = wantedF ops e o := by
    unfold wantedF
    cases hg : o.guard with
    | none => rfl
    | some jw =>
      obtain ⟨j, want⟩ := jw
      simp only
      cases hs : guardSlot ops j with
      | none => rfl
      | some s =>
        simp only
        have : upd e d u s = e s := by
          cases d with
          | none => rfl
          | some t =>
            have hne : t ≠ s := by
              rintro rfl
              refine h t rfl ?_
              simp only [Oper.looksAt, hg, List.mem_append]
              right
              unfold guardSlot at hs
              cases ho : ops[j]? with
              | none => simp [ho] at hs
              | some o' => simp only [ho] at hs; simp [hs]
            simp [upd, hne]
        rw [this]
  unfold Yields
  simp only [h1, h2]

theorem upd_comm {e : Fr} {x y : Option Tmp} {u v : AV} (h : ∀ t, x = some t → y ≠ some t) : upd (upd e x u) y v = upd (upd e y v) x u := by
  cases x with
  | none => rfl
  | some s =>
    cases y with
    | none => rfl
    | some t =>
      have hne : s ≠ t := fun e => h s rfl (by rw [e])
      funext z
      simp only [upd]
      by_cases h1 : t = z
      · subst h1; simp [hne]
      · simp [h1]

def calmOp (T : Tab) (ops : Array Oper) (hp : Heap) (nx : Nat) (i : Nat) (K : Fr → Prop) (e : Fr) : Prop := ∃ o v, ops[i]? = some o ∧ Yields T ops hp nx i o v e ∧ K (upd e o.dst v)

/-- The calm operations, those below k, in whatever order. -/
def calmAny (T : Tab) (ops : Array Oper) (hp : Heap) (nx k : Nat) (ef : Fr) : Nat → Array Bool → Fr → Prop
  | 0, listed, e => (∀ i < k, listed.getD i true = true) ∧ e = ef
  | m + 1, listed, e => (Region.ready .any ops listed ≠ []) ∧ ∀ i ∈ Region.ready .any ops listed, i < k ∧ calmOp T ops hp nx i (calmAny T ops hp nx k ef m (listed.setIfInBounds i true)) e

theorem calmOp_mono {i : Nat} {K K' : Fr → Prop} {e : Fr} (h : ∀ e, K e → K' e) (hh : calmOp T ops hp nx i K e) : calmOp T ops hp nx i K' e :=
  let ⟨o, v, h1, h2, h3⟩ := hh; ⟨o, v, h1, h2, h _ h3⟩

theorem calmOp_put {j : Nat} {oi oj : Oper} {v : AV} (hj : ops[j]? = some oj) (hap : oi.apart ops oj = true) {K : Fr → Prop} {e : Fr}
    {i : Nat} (hy : Yields T ops hp nx i oi v e) (h : calmOp T ops hp nx j K (upd e oi.dst v)) : calmOp T ops hp nx j (fun e' => Yields T ops hp nx i oi v e' ∧ K (upd e' oi.dst v)) e := by
  obtain ⟨h1, h2, h3⟩ := Oper.apart_spec hap
  obtain ⟨o, u, ho, hyu, hk⟩ := h
  rw [hj] at ho; cases ho
  refine ⟨oj, u, hj, (Yields.of_apart h1).1 hyu, (Yields.of_apart h3).2 hy, ?_⟩
  rw [upd_comm fun t ht => fun e => h2 t e ht]
  exact hk

theorem calmAny_first {k : Nat} {ef : Fr} {i : Nat} {oi : Oper} {v : AV} (hi : ops[i]? = some oi) (hik : i < k) : ∀ (m : Nat) (listed : Array Bool) (e : Fr),
    (∀ (j : Nat) (oj : Oper), ops[j]? = some oj → j ≠ i → listed.getD j true = false → (∀ x ∈ oj.after, Region.binds .any x = true → x.on ≠ i) → j < k ∧ oi.apart ops oj = true) →
    i ∈ Region.ready .any ops listed → Yields T ops hp nx i oi v e → calmAny T ops hp nx k ef m (listed.setIfInBounds i true) (upd e oi.dst v) → calmAny T ops hp nx k ef (m + 1) listed e := by
  intro m
  induction m with
  | zero =>
    intro listed e hfree hr hy H
    refine ⟨(fun h => by rw [h] at hr; cases hr), fun j hj => ?_⟩
    by_cases hji : j = i
    · subst hji; exact ⟨hik, oi, v, hi, hy, H⟩
    · obtain ⟨hjun, oj, hoj, hall⟩ := mem_ready.1 hj
      have hnot : ∀ x ∈ oj.after, Region.binds .any x = true → x.on ≠ i := fun x hx hb heq => by
        have h1 := hall x hx hb
        have h0 := (mem_ready.1 hr).1
        rw [heq] at h1
        rcases Nat.lt_or_ge i listed.size with h' | h'
        · simp [h'] at h0 h1; rw [h0] at h1; cases h1
        · simp [Array.getElem?_eq_none h'] at h1
      have hjk := (hfree j oj hoj hji hjun hnot).1
      have := H.1 j hjk
      rw [getD_set_ne true (Ne.symm hji)] at this
      rw [this] at hjun; cases hjun
  | succ m ih =>
    intro listed e hfree hr hy H
    refine ⟨(fun h => by rw [h] at hr; cases hr), fun j hj => ?_⟩
    by_cases hji : j = i
    · subst hji; exact ⟨hik, oi, v, hi, hy, H⟩
    · obtain ⟨hjk', h1⟩ := H.2 j (ready_mono hj hji)
      obtain ⟨hjun, oj, hoj, hall⟩ := mem_ready.1 hj
      have hnot : ∀ x ∈ oj.after, Region.binds .any x = true → x.on ≠ i := fun x hx hb heq => by
        have h1 := hall x hx hb
        have h0 := (mem_ready.1 hr).1
        rw [heq] at h1
        rcases Nat.lt_or_ge i listed.size with h' | h'
        · simp [h'] at h0 h1; rw [h0] at h1; cases h1
        · simp [Array.getElem?_eq_none h'] at h1
      obtain ⟨hjk, hap⟩ := hfree j oj hoj hji hjun hnot
      have h2 := calmOp_put hoj hap hy h1
      have hfree' : ∀ (l : Nat) (ol : Oper), ops[l]? = some ol → l ≠ i → (listed.setIfInBounds j true).getD l true = false →
          (∀ x ∈ ol.after, Region.binds .any x = true → x.on ≠ i) → l < k ∧ oi.apart ops ol = true := fun l ol hl hli hun hno => by
        refine hfree l ol hl hli ?_ hno
        by_cases hjl : j = l
        · subst hjl; exact hjun
        · rw [getD_set_ne true hjl] at hun; exact hun
      refine ⟨hjk, calmOp_mono (fun e' h3 => ih (listed.setIfInBounds j true) e' hfree' (ready_mono hr (Ne.symm hji)) h3.1 ?_) h2⟩
      rw [Array.setIfInBounds_comm _ _ hji]
      exact h3.2

/-- The text's order of the calm operations. -/
def lexRun (T : Tab) (ops : Array Oper) (hp : Heap) (nx : Nat) (ef : Fr) : Nat → List Oper → Fr → Prop
  | _, [], e => e = ef
  | i, o :: l, e => ∃ v, Yields T ops hp nx i o v e ∧ lexRun T ops hp nx ef (i + 1) l (upd e o.dst v)

/-- What is asked of a region's edges: of the calm operations, those below k, each is ready in the text's turn, and apart from whatever does not wait for it; all others wait for it. -/
def calmFree (ops : Array Oper) (k : Nat) (listed : Array Bool) (i : Nat) : Bool :=
  match ops[i]? with
  | none => false
  | some oi => (List.range ops.size).all fun j => j == i || listed.getD j true || match ops[j]? with
      | some oj => oj.after.any (fun e => Region.binds .any e && e.on == i) || (Nat.blt j k && oi.apart ops oj)
      | none => true
def calmLex (ops : Array Oper) (k : Nat) : Nat → Nat → Array Bool → Bool
  | 0, _, _ => true
  | m + 1, i, listed => (Region.ready .any ops listed).contains i && calmFree ops k listed i && calmLex ops k m (i + 1) (listed.setIfInBounds i true)

theorem calmFree_spec {k i : Nat} {oi : Oper} {listed : Array Bool} (hi : ops[i]? = some oi) (h : calmFree ops k listed i = true) (j : Nat) (oj : Oper)
    (hj : ops[j]? = some oj) (hne : j ≠ i) (hun : listed.getD j true = false) (hno : ∀ e ∈ oj.after, Region.binds .any e = true → e.on ≠ i) : j < k ∧ oi.apart ops oj = true := by
  simp only [calmFree, hi, List.all_eq_true, List.mem_range] at h
  have h1 := h j (Array.getElem?_eq_some_iff.1 hj).1
  simp only [hj, Bool.or_eq_true, beq_iff_eq, hne, false_or, hun, Bool.false_eq_true] at h1
  rcases h1 with h1 | h1
  · obtain ⟨e, he, hb⟩ := Array.any_eq_true'.1 h1
    simp only [Bool.and_eq_true, beq_iff_eq] at hb
    exact absurd hb.2 (hno e he hb.1)
  · rw [Bool.and_eq_true] at h1
    exact ⟨Nat.lt_of_succ_le (by simpa [Nat.blt] using h1.1), h1.2⟩

theorem calmAny_lex {k : Nat} {ef : Fr} : ∀ (l : List Oper) (i : Nat) (listed : Array Bool) (e : Fr), i + l.length = k → (∀ j : Nat, j < l.length → l[j]? = ops[i + j]?) → (∀ j, j < i → listed.getD j true = true) →
    calmLex ops k l.length i listed = true → lexRun T ops hp nx ef i l e → calmAny T ops hp nx k ef l.length listed e
  | [], i, listed, e, hk, _, hlis, _, h => ⟨fun j hj => hlis j (by simp at hk; omega), h⟩
  | o :: l, i, listed, e, hk, hl, hlis, hB, h => by
    have h0 : ops[i]? = some o := by simpa using (hl 0 (by simp)).symm
    simp only [List.length_cons, calmLex, Bool.and_eq_true] at hB
    obtain ⟨⟨hr, hf⟩, hB'⟩ := hB
    obtain ⟨v, hy, hK⟩ := h
    simp only [List.length_cons] at hk
    refine calmAny_first h0 (by omega) l.length listed e (calmFree_spec h0 hf) (by simpa using hr) hy (calmAny_lex l (i + 1) _ _ (by omega) (fun j hj => by
      have := hl (j + 1) (by simp; omega); simpa [Nat.add_assoc, Nat.add_comm 1 j] using this) (fun j hj => ?_) hB' hK)
    by_cases hji : i = j
    · subst hji
      rcases Nat.lt_or_ge i listed.size with h' | h'
      · simp [h']
      · simp [Array.getElem?_eq_none (show (listed.setIfInBounds i true).size ≤ i by simpa using h')]
    · rw [getD_set_ne true hji]; exact hlis j (by omega)
end
end Go.Vm
