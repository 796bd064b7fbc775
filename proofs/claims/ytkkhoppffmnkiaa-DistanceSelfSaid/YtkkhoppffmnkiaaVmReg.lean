/- A region whose order is drawn: the calm operations in any order, then the others in theirs. -/
import Derived.Test.YtkkhoppffmnkiaaVmRun
set_option linter.unusedSimpArgs false
set_option linter.unusedVariables false
namespace Go.Vm
open Go.RowKit

/-- A look at a frame. -/
abbrev Fr := Nat → AV
def upd (e : Fr) (d : Option Tmp) (v : AV) : Fr := match d with
  | some t => fun x => if t = x then v else e x
  | none => e

def opndF (e : Fr) : Operand → AV
  | .tmp t => e t
  | .const v => AV.ofVal v
  | .global _ => .junk
  | .func f => .s (.val (.func (.func f) #[] #[]))

theorem opndF_eq (env : Env) : opndF (eget env) = opnd env := by funext x; cases x <;> rfl

/-- Is an operation's guard as wanted? -/
def wantedF (ops : Array Oper) (e : Fr) (o : Oper) : Option Bool :=
  match o.guard with
  | none => some true
  | some (j, want) => match guardSlot ops j with
    | some d => match e d with
      | .s (.bool b) => some (b == want)
      | .s (.val (.tuple _)) => some false
      | _ => none
    | none => none

def isAlloc : Op → Option TypeId
  | .alloc t => some t
  | _ => none

/-- A store into what a slot points to: the slot, and what is stored. -/
def isInit : Op → Option (TypeId × Tmp × Operand)
  | .store t (.tmp d) x => some (t, d, x)
  | _ => none

/-- The allocations ahead of a place. -/
def acnt : List Oper → Nat → Nat
  | [], _ => 0
  | _ :: _, 0 => 0
  | o :: l, i + 1 => (match isAlloc o.op with | some _ => 1 | none => 0) + acnt l i

/-- As far as a number, the heaps are the same. -/
def HExt (nx : Nat) (hp hp' : Heap) : Prop := ∀ id, id < nx → hget hp' id = hget hp id

/-- What an operation of the front part yields: a calm one, whatever lies in the heap from nx on; an allocation, its thing; a store into such a thing: nothing, but what it stores is told by its number. -/
def Yields (T : Tab) (ops : Array Oper) (hp : Heap) (nx : Nat) (gf : Nat → List AS) (i : Nat) (o : Oper) (v : AV) (e : Fr) : Prop :=
  match isAlloc o.op with
  | none => match isInit o.op with
    | none => (wantedF ops e o = some true ∧ ∃ p q, (∀ hp', HExt nx hp hp' → acalm T o.op (opndF e) hp' = some (p, q, v)) ∧ Opt q) ∨ (wantedF ops e o = some false ∧ v = .undef)
    | some (t, d, x) => o.guard = none ∧ v = .undef ∧ ∃ j oj ti, j < i ∧ ops[j]? = some oj ∧ isAlloc oj.op = some t ∧ oj.dst = some d ∧ opndF e (.tmp d) = .s (.ptr (nx + acnt ops.toList j) 0 0) ∧ T.info t = some ti ∧
        (opndF e x).flat = some (gf i) ∧ (Nat.beq (gf i).length (T.sizeOf t) && !Nat.beq (T.sizeOf t) 0) = true ∧ (gf i).all AS.storable = true ∧ Nat.ble (0 + (gf i).length) ti.zero.length = true
  | some t => o.guard = none ∧ (T.info t).isSome = true ∧ v = .s (.ptr (nx + acnt ops.toList i) 0 0)

theorem acalm_congr {T : Tab} {op : Op} {ev ev' : Operand → AV} {hp : Heap} (h : ∀ x ∈ op.operands, ev x = ev' x) : acalm T op ev hp = acalm T op ev' hp := by
  have pairs : ∀ l : List (Nat × Operand), (∀ x ∈ l.map (·.2), ev x = ev' x) → (l.map fun p => (p.1, ev p.2)) = (l.map fun p => (p.1, ev' p.2)) := fun l hl =>
    List.map_congr_left fun p hp => by rw [hl p.2 (List.mem_map.2 ⟨p, hp, rfl⟩)]
  cases op <;> simp only [acalm] <;> simp only [Op.operands] at h
  case move x => rw [h x (by simp)]
  case assign x => rw [h x (by simp)]
  case pick c a b => rw [h c (by simp), h a (by simp), h b (by simp)]
  case build t ps => rw [pairs _ fun x hx => h x (by simpa using hx)]
  case buildSlice t n ps => rw [pairs _ fun x hx => h x (by simpa using hx)]
  case load t x => rw [h x (by simp)]
  case nilCheck x => rw [h x (by simp)]
  case binOp op t x y u => rw [h x (by simp), h y (by simp)]
  case unOp op t x => rw [h x (by simp)]
  case convert s d x => rw [h x (by simp)]
  case slice t x lo hi mx =>
    cases mx with
    | some _ => rfl
    | none =>
      simp only
      rw [h x (by simp)]
      congr 1
      · cases lo with
        | none => rfl
        | some y => simp [h y (by simp)]
      · cases hi with
        | none => rfl
        | some y => simp [h y (by simp)]
  case fieldAddr t x f => rw [h x (by simp)]
  case field t x f => rw [h x (by simp)]
  case indexAddr t x i => rw [h x (by simp), h i (by simp)]
  case index t x i => rw [h x (by simp), h i (by simp)]
  case lookup t x i c => rw [h x (by simp), h i (by simp)]
  case extract x i => rw [h x (by simp)]
  case call c =>
    have : c.args.toList.map ev = c.args.toList.map ev' := List.map_congr_left fun x hx => h x (by simp [Call.operands]; right; simpa using hx)
    rw [this]

section
variable {T : Tab} {ops : Array Oper} {hp : Heap} {nx : Nat} {gf : Nat → List AS}

theorem opndF_upd {e : Fr} {d : Option Tmp} {v : AV} {x : Operand} (h : ∀ t, d = some t → x ≠ .tmp t) : opndF (upd e d v) x = opndF e x := by
  cases d with
  | none => rfl
  | some t =>
    cases x with
    | tmp s =>
      have : t ≠ s := fun e => h t rfl (by rw [e])
      simp [opndF, upd, this]
    | _ => rfl

theorem Yields.of_apart {i : Nat} {o : Oper} {v u : AV} {e : Fr} {d : Option Tmp} (h : ∀ t, d = some t → t ∉ o.looksAt ops) : Yields T ops hp nx gf i o v (upd e d u) ↔ Yields T ops hp nx gf i o v e := by
  have h1 : ∀ hp, acalm T o.op (opndF (upd e d u)) hp = acalm T o.op (opndF e) hp := fun hp => acalm_congr fun x hx => opndF_upd fun t ht hxt => h t ht (by
    subst hxt
    simp only [Oper.looksAt, List.mem_append, List.mem_filterMap]
    exact .inl ⟨.tmp t, by simpa using hx, rfl⟩)
  have h2 : wantedF ops (upd e d u) o = wantedF ops e o := by
    unfold wantedF
    cases hg : o.guard with
    | none => rfl
    | some jw =>
      obtain ⟨j, want⟩ := jw
      simp only
      cases hs : guardSlot ops j with
      | none => rfl
      | some s =>
        simp only
        have : upd e d u s = e s := by
          cases d with
          | none => rfl
          | some t =>
            have hne : t ≠ s := by
              rintro rfl
              refine h t rfl ?_
              simp only [Oper.looksAt, hg, List.mem_append]
              right
              unfold guardSlot at hs
              cases ho : ops[j]? with
              | none => simp [ho] at hs
              | some o' => simp only [ho] at hs; simp [hs]
            simp [upd, hne]
        rw [this]
  have h3 : ∀ x ∈ o.op.operands, opndF (upd e d u) x = opndF e x := fun x hx => opndF_upd fun t ht hxt => h t ht (by
    subst hxt
    simp only [Oper.looksAt, List.mem_append, List.mem_filterMap]
    exact .inl ⟨.tmp t, by simpa using hx, rfl⟩)
  unfold Yields
  cases hi : isInit o.op with
  | none => simp only [h1, h2]
  | some tdx =>
    obtain ⟨t, s, x⟩ := tdx
    have hop : o.op = .store t (.tmp s) x := by
      revert hi
      cases o.op <;> simp only [isInit] <;> first | (intro h; cases h; done) | skip
      rename_i t' y z
      cases y <;> simp only [isInit] <;> intro h <;> cases h
      rfl
    simp only [hop, Op.operands] at h3
    simp only [h3 (.tmp s) (by simp), h3 x (by simp)]

theorem upd_comm {e : Fr} {x y : Option Tmp} {u v : AV} (h : ∀ t, x = some t → y ≠ some t) : upd (upd e x u) y v = upd (upd e y v) x u := by
  cases x with
  | none => rfl
  | some s =>
    cases y with
    | none => rfl
    | some t =>
      have hne : s ≠ t := fun e => h s rfl (by rw [e])
      funext z
      simp only [upd]
      by_cases h1 : t = z
      · subst h1; simp [hne]
      · simp [h1]

def calmOp (Y : Nat → Oper → AV → Fr → Prop) (ops : Array Oper) (i : Nat) (K : Fr → Prop) (e : Fr) : Prop := ∃ o v, ops[i]? = some o ∧ Y i o v e ∧ K (upd e o.dst v)

/-- The calm operations, those below k, in whatever order. -/
def calmAny (Y : Nat → Oper → AV → Fr → Prop) (ops : Array Oper) (k : Nat) (ef : Fr) : Nat → Array Bool → Fr → Prop
  | 0, listed, e => (∀ i < k, listed.getD i true = true) ∧ e = ef
  | m + 1, listed, e => (Region.ready .any ops listed ≠ []) ∧ ∀ i ∈ Region.ready .any ops listed, i < k ∧ calmOp Y ops i (calmAny Y ops k ef m (listed.setIfInBounds i true)) e

variable {Y : Nat → Oper → AV → Fr → Prop}
/-- What an operation yields does not hang on slots that it does not look at. -/
def Still (Y : Nat → Oper → AV → Fr → Prop) (ops : Array Oper) : Prop := ∀ (i : Nat) (o : Oper) (v u : AV) (e : Fr) (d : Option Tmp), (∀ t, d = some t → t ∉ o.looksAt ops) → (Y i o v (upd e d u) ↔ Y i o v e)

theorem calmOp_mono {i : Nat} {K K' : Fr → Prop} {e : Fr} (h : ∀ e, K e → K' e) (hh : calmOp Y ops i K e) : calmOp Y ops i K' e :=
  let ⟨o, v, h1, h2, h3⟩ := hh; ⟨o, v, h1, h2, h _ h3⟩

theorem calmOp_put (hY : Still Y ops) {j : Nat} {oi oj : Oper} {v : AV} (hj : ops[j]? = some oj) (hap : oi.apart ops oj = true) {K : Fr → Prop} {e : Fr}
    {i : Nat} (hy : Y i oi v e) (h : calmOp Y ops j K (upd e oi.dst v)) : calmOp Y ops j (fun e' => Y i oi v e' ∧ K (upd e' oi.dst v)) e := by
  obtain ⟨h1, h2, h3⟩ := Oper.apart_spec hap
  obtain ⟨o, u, ho, hyu, hk⟩ := h
  rw [hj] at ho; cases ho
  refine ⟨oj, u, hj, (hY _ _ _ _ _ _ h1).1 hyu, (hY _ _ _ _ _ _ h3).2 hy, ?_⟩
  rw [upd_comm fun t ht => fun e => h2 t e ht]
  exact hk

/-- Does an operation wait for another one? -/
def waits (ops : Array Oper) (j i : Nat) : Bool := match ops[j]? with
  | some o => o.after.any fun e => Region.binds .any e && e.on == i
  | none => false
/-- The same, by way of others: down from one place to the other, whatever is waited for by what is told. -/
def twl (ops : Array Oper) (i : Nat) : Nat → List Nat → Bool
  | 0, _ => false
  | n + 1, acc => match acc.any (fun a => waits ops a (i + n)) with
    | true => Nat.beq n 0 || twl ops i n ((i + n) :: acc)
    | false => twl ops i n acc
def twaits (ops : Array Oper) (j i : Nat) : Bool := twl ops i (j - i) [j]
/-- Whatever is listed, what it waits for is, too. -/
def Dn (ops : Array Oper) (listed : Array Bool) : Prop := ∀ j i, listed.getD j false = true → waits ops j i = true → listed.getD i false = true
theorem getD_false_of {l : Array Bool} {i : Nat} (h : l.getD i true = false) : l.getD i false = false := by
  rcases Nat.lt_or_ge i l.size with h' | h'
  · simpa [Array.getD_eq_getD_getElem?, h'] using h
  · simp [Array.getD_eq_getD_getElem?, Array.getElem?_eq_none h'] at h
theorem Dn.set {listed : Array Bool} (h : Dn ops listed) {i : Nat} (hi : i ∈ Region.ready .any ops listed) : Dn ops (listed.setIfInBounds i true) := by
  intro j k hj hw
  have hres : listed.getD k false = true := by
    by_cases e : i = j
    · subst e
      obtain ⟨_, o, ho, hall⟩ := mem_ready.1 hi
      unfold waits at hw
      rw [ho] at hw
      obtain ⟨x, hx, hb⟩ := Array.any_eq_true'.1 hw
      simp only [Bool.and_eq_true, beq_iff_eq] at hb
      have := hall x hx hb.1
      rw [hb.2] at this; exact this
    · have hj' : listed.getD j false = true := by
        simp only [Array.getD_eq_getD_getElem?, Array.getElem?_setIfInBounds, if_neg e] at hj ⊢; exact hj
      exact h j k hj' hw
  simp only [Array.getD_eq_getD_getElem?, Array.getElem?_setIfInBounds] at hres ⊢
  split
  · rename_i e; subst e
    split
    · rfl
    · rename_i hlt; rw [Array.getElem?_eq_none (by omega)] at hres; simp at hres
  · exact hres
theorem twl_spec {listed : Array Bool} (h : Dn ops listed) {i : Nat} : ∀ (n : Nat) (acc : List Nat), (∀ a ∈ acc, ∀ m, waits ops a m = true → listed.getD m false = true) → twl ops i n acc = true → listed.getD i false = true
  | 0, _, _, ht => by cases ht
  | n + 1, acc, ha, ht => by
    simp only [twl] at ht
    split at ht
    · rename_i hany
      obtain ⟨a, haa, hw⟩ := List.any_eq_true.1 hany
      have hl := ha a haa _ hw
      rw [Bool.or_eq_true] at ht
      rcases ht with e | ht
      · have := Nat.eq_of_beq_eq_true e
        subst this; exact hl
      · exact twl_spec h n _ (fun b hb m hm => by
          rcases List.mem_cons.1 hb with rfl | hb
          · exact h _ m hl hm
          · exact ha b hb m hm) ht
    · exact twl_spec h n acc ha ht
theorem twaits_spec {listed : Array Bool} (h : Dn ops listed) {j i : Nat} (ht : twaits ops j i = true) (hj : ∀ (o : Oper), ops[j]? = some o → ∀ e ∈ o.after, Region.binds .any e = true → listed.getD e.on false = true) : listed.getD i false = true :=
  twl_spec h _ _ (fun a ha m hm => by
    obtain rfl := List.mem_singleton.1 ha
    unfold waits at hm
    split at hm
    · rename_i o ho
      obtain ⟨x, hx, hb⟩ := Array.any_eq_true'.1 hm
      simp only [Bool.and_eq_true, beq_iff_eq] at hb
      have := hj o ho x hx hb.1
      rw [hb.2] at this; exact this
    · cases hm) ht

theorem calmAny_first (hY : Still Y ops) {k : Nat} {ef : Fr} {i : Nat} {oi : Oper} {v : AV} (hi : ops[i]? = some oi) (hik : i < k) : ∀ (m : Nat) (listed : Array Bool) (e : Fr),
    (∀ (j : Nat) (oj : Oper), ops[j]? = some oj → j ≠ i → listed.getD j true = false → twaits ops j i = true ∨ (j < k ∧ oi.apart ops oj = true)) → Dn ops listed →
    i ∈ Region.ready .any ops listed → Y i oi v e → calmAny Y ops k ef m (listed.setIfInBounds i true) (upd e oi.dst v) → calmAny Y ops k ef (m + 1) listed e := by
  intro m
  induction m with
  | zero =>
    intro listed e hfree hdn hr hy H
    refine ⟨(fun h => by rw [h] at hr; cases hr), fun j hj => ?_⟩
    by_cases hji : j = i
    · subst hji; exact ⟨hik, oi, v, hi, hy, H⟩
    · obtain ⟨hjun, oj, hoj, hall⟩ := mem_ready.1 hj
      have hnot : j < k ∧ oi.apart ops oj = true := by
        rcases hfree j oj hoj hji hjun with ht | h
        · have h1 := twaits_spec hdn ht fun o ho => by rw [hoj] at ho; cases ho; exact hall
          rw [getD_false_of (mem_ready.1 hr).1] at h1; cases h1
        · exact h
      have hjk := hnot.1
      have := H.1 j hjk
      rw [getD_set_ne true (Ne.symm hji)] at this
      rw [this] at hjun; cases hjun
  | succ m ih =>
    intro listed e hfree hdn hr hy H
    refine ⟨(fun h => by rw [h] at hr; cases hr), fun j hj => ?_⟩
    by_cases hji : j = i
    · subst hji; exact ⟨hik, oi, v, hi, hy, H⟩
    · obtain ⟨hjk', h1⟩ := H.2 j (ready_mono hj hji)
      obtain ⟨hjun, oj, hoj, hall⟩ := mem_ready.1 hj
      have hnot : j < k ∧ oi.apart ops oj = true := by
        rcases hfree j oj hoj hji hjun with ht | h
        · have h1 := twaits_spec hdn ht fun o ho => by rw [hoj] at ho; cases ho; exact hall
          rw [getD_false_of (mem_ready.1 hr).1] at h1; cases h1
        · exact h
      obtain ⟨hjk, hap⟩ := hnot
      have h2 := calmOp_put hY hoj hap hy h1
      have hfree' : ∀ (l : Nat) (ol : Oper), ops[l]? = some ol → l ≠ i → (listed.setIfInBounds j true).getD l true = false →
          twaits ops l i = true ∨ (l < k ∧ oi.apart ops ol = true) := fun l ol hl hli hun => by
        refine hfree l ol hl hli ?_
        by_cases hjl : j = l
        · subst hjl; exact hjun
        · rw [getD_set_ne true hjl] at hun; exact hun
      refine ⟨hjk, calmOp_mono (fun e' h3 => ih (listed.setIfInBounds j true) e' hfree' (hdn.set hj) (ready_mono hr (Ne.symm hji)) h3.1 ?_) h2⟩
      rw [Array.setIfInBounds_comm _ _ hji]
      exact h3.2

/-- The text's order of the calm operations. -/
def lexRun (Y : Nat → Oper → AV → Fr → Prop) (ef : Fr) : Nat → List Oper → Fr → Prop
  | _, [], e => e = ef
  | i, o :: l, e => ∃ v, Y i o v e ∧ lexRun Y ef (i + 1) l (upd e o.dst v)

/-- What is asked of a region's edges: of the calm operations, those below k, each is ready in the text's turn, and apart from whatever does not wait for it; all others wait for it. -/
def calmFree (ops : Array Oper) (k : Nat) (listed : Array Bool) (i : Nat) : Bool :=
  match ops[i]? with
  | none => false
  | some oi => (List.range ops.size).all fun j => j == i || listed.getD j true || match ops[j]? with
      | some oj => twaits ops j i || (Nat.blt j k && oi.apart ops oj)
      | none => true
def calmLex (ops : Array Oper) (k : Nat) : Nat → Nat → Array Bool → Bool
  | 0, _, _ => true
  | m + 1, i, listed => (Region.ready .any ops listed).contains i && calmFree ops k listed i && calmLex ops k m (i + 1) (listed.setIfInBounds i true)

theorem calmFree_spec {k i : Nat} {oi : Oper} {listed : Array Bool} (hi : ops[i]? = some oi) (h : calmFree ops k listed i = true) (j : Nat) (oj : Oper)
    (hj : ops[j]? = some oj) (hne : j ≠ i) (hun : listed.getD j true = false) : twaits ops j i = true ∨ (j < k ∧ oi.apart ops oj = true) := by
  simp only [calmFree, hi, List.all_eq_true, List.mem_range] at h
  have h1 := h j (Array.getElem?_eq_some_iff.1 hj).1
  simp only [hj, Bool.or_eq_true, beq_iff_eq, hne, false_or, hun, Bool.false_eq_true] at h1
  rcases h1 with h1 | h1
  · exact .inl h1
  · rw [Bool.and_eq_true] at h1
    exact .inr ⟨Nat.lt_of_succ_le (by simpa [Nat.blt] using h1.1), h1.2⟩

theorem calmAny_lex (hY : Still Y ops) {k : Nat} {ef : Fr} : ∀ (l : List Oper) (i : Nat) (listed : Array Bool) (e : Fr), i + l.length = k → (∀ j : Nat, j < l.length → l[j]? = ops[i + j]?) → (∀ j, j < i → listed.getD j true = true) →
    calmLex ops k l.length i listed = true → Dn ops listed → lexRun Y ef i l e → calmAny Y ops k ef l.length listed e
  | [], i, listed, e, hk, _, hlis, _, _, h => ⟨fun j hj => hlis j (by simp at hk; omega), h⟩
  | o :: l, i, listed, e, hk, hl, hlis, hB, hdn, h => by
    have h0 : ops[i]? = some o := by simpa using (hl 0 (by simp)).symm
    simp only [List.length_cons, calmLex, Bool.and_eq_true] at hB
    obtain ⟨⟨hr, hf⟩, hB'⟩ := hB
    obtain ⟨v, hy, hK⟩ := h
    simp only [List.length_cons] at hk
    refine calmAny_first hY h0 (by omega) l.length listed e (calmFree_spec h0 hf) hdn (by simpa using hr) hy (calmAny_lex hY l (i + 1) _ _ (by omega) (fun j hj => by
      have := hl (j + 1) (by simp; omega); simpa [Nat.add_assoc, Nat.add_comm 1 j] using this) (fun j hj => ?_) hB' (hdn.set (by simpa using hr)) hK)
    by_cases hji : i = j
    · subst hji
      rcases Nat.lt_or_ge i listed.size with h' | h'
      · simp [h']
      · simp [Array.getElem?_eq_none (show (listed.setIfInBounds i true).size ≤ i by simpa using h')]
    · rw [getD_set_ne true hji]; exact hlis j (by omega)
end
end Go.Vm
