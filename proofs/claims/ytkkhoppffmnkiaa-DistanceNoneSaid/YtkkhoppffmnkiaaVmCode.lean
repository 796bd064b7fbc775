/- A whole code, and a function. -/
import Derived.Test.YtkkhoppffmnkiaaVmHeap
set_option linter.unusedSimpArgs false
set_option linter.unusedVariables false
namespace Go.Vm
open Go.RowKit

def opCalm : Op → Bool
  | .box _ _ => false
  | .alloc _ => false
  | .store _ _ _ => false
  | .makeSlice _ _ _ => false
  | .makeMap _ _ => false
  | .mapUpdate _ _ _ _ => false
  | .call c => match c.callee with
    | .value (.func _) => true
    | .builtin .len => true
    | .builtin .max => true
    | .builtin .min => true
    | _ => false
  | _ => true

/-- May it stand in the front part, in whatever order? -/
def preOp (o : Oper) : Bool := opCalm o.op || ((isAlloc o.op).isSome && o.guard.isNone)

def calmCount : List Oper → Nat
  | [] => 0
  | o :: l => match preOp o with | true => calmCount l + 1 | false => 0

/-- The slots of the allocations. -/
def allocSlots : List Oper → List Tmp
  | [] => []
  | o :: l => match isAlloc o.op, o.dst with
    | some _, some d => d :: allocSlots l
    | _, _ => allocSlots l

/-- No calm operation of the front part looks at a thing that is allocated there. -/
def noLook (ops : Array Oper) (D : List Tmp) : List Oper → Bool
  | [] => true
  | o :: l => (!(opCalm o.op) || (o.looksAt ops).all fun t => !D.contains t) && noLook ops D l

def tailLex (ops : Array Oper) : Nat → Nat → Array Bool → Bool
  | 0, _, listed => (Region.ready .any ops listed).isEmpty
  | m + 1, t, listed => (Region.ready .any ops listed == [t]) && tailLex ops m (t + 1) (listed.setIfInBounds t true)

def regOk (ops : Array Oper) : Bool :=
  let k := calmCount ops.toList
  noLook ops (allocSlots (ops.toList.take k)) (ops.toList.take k) && calmLex ops k k 0 (Array.replicate ops.size false) &&
    tailLex ops (ops.size - k) k ((List.range k).foldl (fun l i => l.setIfInBounds i true) (Array.replicate ops.size false))

def codeOk (N : Nat) : Code → Bool
  | .region _ ops draw => ops.toList.all (operOk N) && (!draw || regOk ops)
  | .seq a b => codeOk N a && codeOk N b
  | .cond c a b => opndOk c && codeOk N a && codeOk N b
  | .block _ c => codeOk N c
  | .loop c => codeOk N c
  | .skip => true
  | .label _ => true
  | .exit _ => true
  | .goto _ => true
  | .ret => true
  | _ => false

section
variable {P : Program} {B : Base} {w : World} {σ : Sig} {β : Places} {st : St} {T : Tab} {N : Nat} {a : Act} {r : Option Nat} {n : Nat} {ops : Array Oper} {Q : Exit → Act → World → Prop}

/-- What an operation arrives at is there. -/
theorem wpIn_exists {o : Oper} {K : Act → World → Prop} (h : o.wpIn (FR r) n P a w K (fun _ _ _ => False)) : ∃ a' w', K a' w' := by
  obtain ⟨_, h⟩ := h
  generalize (o.semAt (FR r).round a.eval).run P w = res at h
  cases res with
  | halt x w' => cases x <;> simp only [Oper.uponIn] at h
  | ok nx w' =>
    cases nx <;> simp only [Oper.uponIn] at h
    case value v => exact ⟨_, _, h⟩
    case skip => exact ⟨_, _, h⟩
    case defer d => exact ⟨_, _, h⟩
    case enter f args =>
      obtain ⟨e, w'', fr, hR, _⟩ := h.2.2 [] (fun d hd => by cases hd)
      cases e with
      | returned v => exact ⟨_, _, hR⟩
      | panicked c => exact hR.elim
      | outgrown => obtain ⟨_, _, hR⟩ := hR; exact hR.elim
    case row row args =>
      obtain ⟨v, w'', hR, _⟩ := h.2 default [] (fun d hd => by cases hd)
      exact ⟨_, _, hR⟩
    case round l f tmps assign body =>
      obtain ⟨e, w'', hR, _⟩ := h.2.2 default [] (fun d hd => by cases hd)
      cases e with
      | returned v => exact ⟨_, _, hR⟩
      | panicked c => exact hR.elim
      | outgrown => obtain ⟨_, _, hR⟩ := hR; exact hR.elim

/-- Where the allocations of the front part stand. -/
def AllocAt (ops : Array Oper) (k i : Nat) (t : TypeId) : Prop := i < k ∧ ∃ o, ops[i]? = some o ∧ isAlloc o.op = some t

/-- A frame that looks so, in the midst of the front part. -/
structure RF (B : Base) (N : Nat) (T : Tab) (ops : Array Oper) (k : Nat) (hp : Heap) (nx : Nat) (listed : Array Bool) (e : Fr) (a : Act) (w : World) (env : Env) (hp' : Heap) (β : Places) : Prop where
  look : eget env = e
  gb : GB B N β ⟨env, hp', nx + acnt ops.toList k⟩ a w
  ext : HExt nx hp hp'
  done : ∀ i t, AllocAt ops k i t → listed.getD i true = true → ∃ ti, T.info t = some ti ∧ hget hp' (nx + acnt ops.toList i) = some (.flat t ti.zero)
  wait : ∀ i t, AllocAt ops k i t → listed.getD i true = false → hget hp' (nx + acnt ops.toList i) = none ∧ β[nx + acnt ops.toList i]? = some dead
  only : ∀ id ob, hget hp' id = some ob → id < nx ∨ ∃ i t, AllocAt ops k i t ∧ id = nx + acnt ops.toList i

theorem acnt_lt {o : Oper} {t : TypeId} (h2 : isAlloc o.op = some t) : ∀ (l : List Oper) (i j : Nat), l[i]? = some o → i < j → acnt l i < acnt l j := by
  intro l
  induction l with
  | nil => intro i j h; simp at h
  | cons x l ih =>
    intro i j h h3
    obtain ⟨j', rfl⟩ : ∃ j', j = j' + 1 := ⟨j - 1, by omega⟩
    cases i with
    | zero => simp at h; subst h; simp only [acnt, h2]; omega
    | succ i =>
      simp only [acnt]
      have := ih i j' (by simpa using h) (by omega)
      omega

theorem acnt_inj {k i j : Nat} {t u : TypeId} (hi : AllocAt ops k i t) (hj : AllocAt ops k j u) (h : acnt ops.toList i = acnt ops.toList j) : i = j := by
  obtain ⟨_, o, ho, ha⟩ := hi
  obtain ⟨_, o', ho', ha'⟩ := hj
  rcases Nat.lt_trichotomy i j with hlt | heq | hgt
  · have := acnt_lt ha ops.toList i j (by simpa using ho) hlt; omega
  · exact heq
  · have := acnt_lt ha' ops.toList j i (by simpa using ho') hgt; omega

theorem put_upd (env : Env) (hp : Heap) (nx : Nat) (d : Option Tmp) (v : AV) : ∃ env', (⟨env, hp, nx⟩ : St).put d v = ⟨env', hp, nx⟩ ∧ eget env' = upd (eget env) d v := by
  cases d with
  | none => exact ⟨env, rfl, rfl⟩
  | some t => exact ⟨(t, v) :: env, rfl, by funext x; rw [eget_cons]; rfl⟩

theorem yielded_tuple {t : Array Value} {j : Nat} {d : Tmp} {vs : Array Value} (hd : guardSlot ops j = some d) (hv : t.getD d undef = .tuple vs) : yielded ops t j = none := by
  unfold guardSlot at hd
  unfold yielded
  split at hd
  · rename_i o' ho'
    simp only [ho', Option.bind_some, hd]
    cases e : t[d]? with
    | none => rfl
    | some v =>
      simp only [Array.getD_eq_getD_getElem?, e, Option.getD_some] at hv
      subst hv; rfl
  · cases hd

theorem wanted_of {e : Fr} {o : Oper} {b : Bool} (hw : wantedF ops e o = some b) {env : Env} (he : eget env = e) {hp : Heap} {nx : Nat} (h : GA B N ⟨env, hp, nx⟩ a w) : Region.wanted o (yielded ops a.tmps) = b := by
  unfold wantedF at hw
  unfold Region.wanted
  split at hw
  · rename_i hg; cases hw; simp [hg]
  · rename_i j want hg
    simp only [hg]
    obtain ⟨σ, β, hgg⟩ := h.gg
    split at hw
    · rename_i d hd
      have hv := hgg.env d
      rw [he] at hv
      split at hw
      · rename_i b' hb'
        rw [hb'] at hv
        cases hw
        rw [guard_bool hd (show a.tmps.getD d undef = .bool b' from hv)]
        cases b' <;> cases want <;> rfl
      · rename_i vs hb'
        rw [hb'] at hv
        cases hw
        rw [yielded_tuple hd hv.1]; rfl
      · cases hw
    · cases hw

theorem alloc_wp (R : Rules P T) {env : Env} {hp' : Heap} {m : Nat} (h : GB B N β ⟨env, hp', m⟩ a w) {o : Oper} (ho : operOk N o = true) {t : TypeId} (hop : o.op = .alloc t) {ti : TI} (hti : T.info t = some ti) {id : Nat} (hdd : β[id]? = some dead) {K : Act → World → Prop}
    (hK : ∀ (a' : Act) (w' : World) (p : Option Bk), GB B N (β.set id p) ((⟨env, (id, .flat t ti.zero) :: hp', m⟩ : St).put o.dst (.s (.ptr id 0 0))) a' w' → K a' w') : o.wpIn (FR r) n P a w K Q := by
  obtain ⟨σ, hg⟩ := h.gg
  obtain ⟨i, z, hi, hs, hb, hz, hzl⟩ := (R.ty _ _ hti).get
  have hx : (execOp a.eval o).run P w = .ok (.value (.pointer (some ⟨w.heap.size, 0, none⟩))) (w.alloc (.cells z.cells t)) := by
    simp [execOp, hop, Instr.alloc, zeroValue, typeInfo, hi, hz, newVar, newRow]
  refine ⟨fun f _ => trivial, ?_⟩
  rw [Oper.semAt_eq _ _ _ (by intro c e; rw [hop] at e; cases e), hx]
  exact hK _ _ _ (gb_put h.defers h.size ⟨σ, hg.revive hdd (dst_ok h.size ho) (by rw [hzl]; exact zero_rep (R.ty _ _ hti).zok)⟩)

theorem getD_set_self {l : Array Bool} {i : Nat} : (l.setIfInBounds i true).getD i true = true := by
  rcases Nat.lt_or_ge i l.size with h' | h'
  · simp [Array.getD_eq_getD_getElem?, h']
  · simp [Array.getD_eq_getD_getElem?, Array.getElem?_eq_none (show (l.setIfInBounds i true).size ≤ i by simpa using h')]

theorem isAlloc_eq {op : Op} {t : TypeId} (h : isAlloc op = some t) : op = .alloc t := by
  cases op <;> simp only [isAlloc] at h <;> first | contradiction | (cases h; rfl)

theorem calm_to_any (R : Rules P T) (hall : ∀ (i : Nat) (o : Oper), ops[i]? = some o → operOk N o = true) {hp : Heap} {nx k fuel : Nat} {ef : Fr} (lk : Array Bool)
    (htail : ∀ (a : Act) (w : World) (listed : Array Bool) (env : Env) (hp' : Heap) (β : Places), (∀ i < k, listed.getD i true = true) → (∀ i, listed.getD i true = lk.getD i true) → listed.size = lk.size → RF B N T ops k hp nx listed ef a w env hp' β → wpAnyIn (FR r) n P .any ops Q fuel listed a w) :
    ∀ (m : Nat) (listed : Array Bool) (e : Fr) (a : Act) (w : World) (env : Env) (hp' : Heap) (β : Places), calmAny T ops hp nx k ef m listed e → (∀ i, k ≤ i → listed.getD i true = lk.getD i true) → (∀ i < k, lk.getD i true = true) → listed.size = lk.size → RF B N T ops k hp nx listed e a w env hp' β →
      wpAnyIn (FR r) n P .any ops Q (m + fuel) listed a w
  | 0, listed, e, a, w, env, hp', β, h, hl1, hl2, hs, hr => by
    obtain ⟨h1, rfl⟩ := h
    rw [Nat.zero_add]
    refine htail a w listed env hp' β h1 (fun i => ?_) hs hr
    by_cases hi : i < k
    · rw [h1 i hi, hl2 i hi]
    · exact hl1 i (by omega)
  | m + 1, listed, e, a, w, env, hp', β, h, hl1, hl2, hs, hr => by
    rw [show m + 1 + fuel = (m + fuel) + 1 by omega]
    refine ⟨fun h0 => (h.1 h0).elim, fun i hi => ?_⟩
    obtain ⟨hik, o, v, ho, hy, hk⟩ := h.2 i hi
    have hun := (mem_ready.1 hi).1
    have hop := hall i o ho
    have nxt : ∀ (a' : Act) (w' : World) (env' : Env) (hp2 : Heap) (β' : Places), RF B N T ops k hp nx (listed.setIfInBounds i true) (upd e o.dst v) a' w' env' hp2 β' → wpAnyIn (FR r) n P .any ops Q (m + fuel) (listed.setIfInBounds i true) a' w' := fun a' w' env' hp2 β' hr' =>
      calm_to_any R hall lk htail m _ _ a' w' env' hp2 β' hk (fun j hj => by rw [getD_set_ne true (by omega)]; exact hl1 j hj) hl2 (by simpa using hs) hr'
    unfold wpOpIn
    simp only [ho]
    unfold Yields at hy
    split at hy
    · -- a calm one
      rename_i hna
      have keep : ∀ {j : Nat} {t : TypeId}, AllocAt ops k j t → (listed.setIfInBounds i true).getD j true = listed.getD j true := fun {j t} hj => by
        refine getD_set_ne true (fun e => ?_)
        obtain ⟨_, o', ho', ha'⟩ := hj
        rw [← e, ho] at ho'; cases ho'; rw [hna] at ha'; cases ha'
      have step : ∀ {u : AV} {a' : Act} {w' : World}, GB B N β ((⟨env, hp', nx + acnt ops.toList k⟩ : St).put o.dst u) a' w' → ∃ env', RF B N T ops k hp nx (listed.setIfInBounds i true) (upd e o.dst u) a' w' env' hp' β := fun {u a' w'} hgb => by
        obtain ⟨env', e1, e2⟩ := put_upd env hp' (nx + acnt ops.toList k) o.dst u
        rw [e1] at hgb
        exact ⟨env', by rw [e2, hr.look], hgb, hr.ext, fun j t hj hl => hr.done j t hj (by rw [← keep hj]; exact hl), fun j t hj hl => hr.wait j t hj (by rw [← keep hj]; exact hl), hr.only⟩
      rcases hy with ⟨hw, p, q, hc, hq⟩ | ⟨hw, rfl⟩
      · rw [if_pos (wanted_of hw hr.look hr.gb.ga)]
        have hc := hc hp' hr.ext
        rw [← hr.look, opndF_eq] at hc
        refine (calm_wpB R hr.gb hop hc).2 hq fun a' w' hga' => ?_
        obtain ⟨env', h'⟩ := step hga'
        exact nxt a' w' _ _ _ h'
      · rw [if_neg (by rw [wanted_of hw hr.look hr.gb.ga]; simp)]
        refine ⟨fun f _ => trivial, ?_⟩
        have : GB B N β ((⟨env, hp', nx + acnt ops.toList k⟩ : St).put o.dst .undef) (a.put o.dst undef) w := by
          obtain ⟨σ, hg⟩ := hr.gb.gg
          exact gb_put hr.gb.defers hr.gb.size ⟨σ, hg.put (dst_ok hr.gb.size hop) VRep.undef⟩
        obtain ⟨env', h'⟩ := step this
        exact nxt _ _ _ _ _ h'
    · -- an allocation
      rename_i t ha
      obtain ⟨hg, hti, rfl⟩ := hy
      obtain ⟨ti, hti⟩ := Option.isSome_iff_exists.1 hti
      have hat : AllocAt ops k i t := ⟨hik, o, ho, ha⟩
      obtain ⟨_, hdd⟩ := hr.wait i t hat hun
      rw [if_pos (by simp [Region.wanted, hg])]
      refine alloc_wp R hr.gb hop (isAlloc_eq ha) hti hdd fun a' w' p hgb => ?_
      obtain ⟨env', e1, e2⟩ := put_upd env ((nx + acnt ops.toList i, .flat t ti.zero) :: hp') (nx + acnt ops.toList k) o.dst (.s (.ptr (nx + acnt ops.toList i) 0 0))
      rw [e1] at hgb
      refine nxt a' w' env' _ _ ⟨by rw [e2, hr.look], hgb, fun id hid => ?_, fun j u hj hl => ?_, fun j u hj hl => ?_, fun id ob hi' => ?_⟩
      · rw [hget_cons, if_neg (by omega)]; exact hr.ext id hid
      · rw [hget_cons]
        by_cases hji : i = j
        · subst hji
          obtain ⟨_, o', ho', ha'⟩ := hj
          rw [ho] at ho'; cases ho'; rw [ha] at ha'; cases ha'
          exact ⟨ti, hti, by rw [if_pos rfl]⟩
        · rw [getD_set_ne true hji] at hl
          rw [if_neg (fun e => hji (acnt_inj hat hj (by omega)))]
          exact hr.done j u hj hl
      · by_cases hji : i = j
        · subst hji; rw [getD_set_self] at hl; cases hl
        · rw [getD_set_ne true hji] at hl
          have hne : nx + acnt ops.toList i ≠ nx + acnt ops.toList j := fun e => hji (acnt_inj hat hj (by omega))
          obtain ⟨q1, q2⟩ := hr.wait j u hj hl
          exact ⟨by rw [hget_cons, if_neg hne]; exact q1, by rw [List.getElem?_set_ne hne]; exact q2⟩
      · rw [hget_cons] at hi'
        split at hi'
        · rename_i e; exact .inr ⟨i, t, hat, e.symm⟩
        · exact hr.only id ob hi'

/-- The others, each in its turn. -/
theorem tail_any (R : Rules P T) (hall : ∀ (i : Nat) (o : Oper), ops[i]? = some o → operOk N o = true) : ∀ (l : List Oper) (t : Nat) (listed : Array Bool) {st : St} {a : Act} {w : World} {K : St → Prop}, (∀ j : Nat, l[j]? = ops[t + j]?) →
    tailLex ops l.length t listed = true → GA B N st a w → aops T true ops l st K → (∀ st' a' w', K st' → GA B N st' a' w' → Q .normal a' w') → wpAnyIn (FR r) n P .any ops Q l.length listed a w
  | [], t, listed, st, a, w, K, _, hB, h, hk, hQ => ⟨by simpa [tailLex] using hB, hQ _ _ _ hk h⟩
  | o :: l, t, listed, st, a, w, K, hl, hB, h, hk, hQ => by
    have h0 : ops[t]? = some o := by simpa using (hl 0).symm
    have ho := hall t o h0
    have hl' : ∀ j : Nat, l[j]? = ops[t + 1 + j]? := fun j => by have := hl (j + 1); simpa [Nat.add_assoc, Nat.add_comm 1 j] using this
    simp only [List.length_cons, tailLex, Bool.and_eq_true, beq_iff_eq] at hB
    obtain ⟨hr, hB'⟩ := hB
    refine ⟨fun h => (by rw [h] at hr; cases hr), fun i hi => ?_⟩
    rw [hr] at hi
    obtain rfl := List.mem_singleton.1 hi
    have run : ∀ {st : St}, GA B N st a w → aop T true o st (fun st' => aops T true ops l st' K) → o.wpIn (FR r) n P a w (wpAnyIn (FR r) n P .any ops Q l.length (listed.setIfInBounds i true)) Q := fun h hk =>
      aop_wp R h ho hk fun st' a' w' hk' h' => tail_any R hall l (i + 1) _ hl' hB' h' hk' hQ
    have skip : ∀ {st : St}, GA B N st a w → aops T true ops l (st.put o.dst .undef) K → wpAnyIn (FR r) n P .any ops Q l.length (listed.setIfInBounds i true) (a.put o.dst undef) w := fun h hk =>
      tail_any R hall l (i + 1) _ hl' hB' (ga_skip h ho) hk hQ
    unfold wpOpIn
    simp only [h0]
    simp only [aops, St.force_eq] at hk
    cases hg : o.guard with
    | none =>
      simp only [hg] at hk
      rw [if_pos (by simp [Region.wanted, hg])]
      exact run h hk
    | some jw =>
      obtain ⟨j, want⟩ := jw
      simp only [hg] at hk
      obtain ⟨σ, β, hgg⟩ := h.gg
      split at hk
      · rename_i b hb
        obtain ⟨d, hd, hd2⟩ := guardVal_slot (ops := ops) (env := st.env) (j := j) (by rw [hb]; simp)
        rw [hd2] at hb
        have hv := hgg.env d
        rw [hb] at hv
        have hy := guard_bool (ops := ops) hd (show a.tmps.getD d undef = .bool b from hv)
        rw [hd] at hk
        cases b with
        | true =>
          cases want with
          | true =>
            rw [if_pos (by simp [Region.wanted, hg, hy])]
            exact run (ga_bool h hb) hk
          | false =>
            rw [if_neg (by simp [Region.wanted, hg, hy])]
            exact ⟨fun f _ => trivial, skip (ga_bool h hb) hk⟩
        | false =>
          cases want with
          | true =>
            rw [if_neg (by simp [Region.wanted, hg, hy])]
            exact ⟨fun f _ => trivial, skip (ga_bool h hb) hk⟩
          | false =>
            rw [if_pos (by simp [Region.wanted, hg, hy])]
            exact run (ga_bool h hb) hk
      · rename_i vs hb
        obtain ⟨d, hd, hd2⟩ := guardVal_slot (ops := ops) (env := st.env) (j := j) (by rw [hb]; simp)
        rw [hd2] at hb
        have hv := hgg.env d
        rw [hb] at hv
        rw [if_neg (by simp [Region.wanted, hg, yielded_tuple hd hv.1])]
        exact ⟨fun f _ => trivial, skip h hk⟩
      · exact hk.elim
end
end Go.Vm
