/- The calm operations do what the evaluator says. -/
import Derived.Test.YtkkhoppffmnkiaaVmRep
import Derived.IntWalk
set_option linter.unusedSimpArgs false
set_option linter.unusedVariables false
namespace Go.Vm
open Go.RowKit

theorem InK.i64 {n : Int} : InK .i64 n ↔ i64ok n := by
  unfold InK i64ok; rw [IntKind.wrap_i64]; omega
theorem InK.u64 {n : Int} (h : InK .u64 n) : 0 ≤ n ∧ n ≤ 18446744073709551615 := by
  unfold InK at h; rw [IntKind.wrap_u64] at h; omega
theorem InK.u8 {n : Int} (h : InK .u8 n) : 0 ≤ n ∧ n ≤ 255 := by
  unfold InK at h; rw [IntKind.wrap_u8] at h; omega
theorem InK.wrap (k : IntKind) (n : Int) : InK k (k.wrap n) := by
  unfold InK IntKind.wrap
  cases k <;> simp only [IntKind.bits, IntKind.signed] <;> simp <;> split <;> (try split) <;> omega

def Opt : Option Prop → Prop
  | none => True
  | some p => p

/-- An operation that makes one value and leaves the world alone. -/
def Snd (P : Program) (σ : Sig) (β : Places) (w : World) (r : Option Res) (s : Sem Value) : Prop :=
  ∀ p q v, r = some (p, q, v) → Opt p ∧ (Opt q → ∃ val, s.run P w = .ok val w ∧ VRep σ β v val)

structure TyOk (P : Program) (t : TypeId) (ti : TI) : Prop where
  und : P.underlying t = some ti.desc
  info : (P.info? t).map (fun i => (i.size, i.bytes, i.zero.map fun z => z.cells.toList)) = some (ti.size, ti.bytes, some ti.zl)
  zok : ti.zl.all cellOk = true
  zlen : ti.zl.length = ti.size

section
variable {P : Program} {σ : Sig} {β : Places} {w : World}

theorem Snd.none {s : Sem Value} : Snd P σ β w none s := fun _ _ _ h => by cases h
theorem Snd.ok {a : AS} {s : Sem Value} (h : ∃ val, s.run P w = .ok val w ∧ ARep σ β a val) : Snd P σ β w (Vm.ok a) s := by
  intro p q v e; simp only [Vm.ok, Option.some.injEq, Prod.mk.injEq] at e; obtain ⟨rfl, rfl, rfl⟩ := e
  exact ⟨trivial, fun _ => h⟩
theorem Snd.pure {v : AV} {s : Sem Value} (h : ∃ val, s.run P w = .ok val w ∧ VRep σ β v val) : Snd P σ β w (some (Option.none, Option.none, v)) s := by
  intro p q v' e; simp only [Option.some.injEq, Prod.mk.injEq] at e; obtain ⟨rfl, rfl, rfl⟩ := e
  exact ⟨trivial, fun _ => h⟩
theorem Snd.need {q : Prop} {a : AS} {s : Sem Value} (h : q → ∃ val, s.run P w = .ok val w ∧ ARep σ β a val) : Snd P σ β w (Vm.need q a) s := by
  intro p q' v e; simp only [Vm.need, Option.some.injEq, Prod.mk.injEq] at e; obtain ⟨rfl, rfl, rfl⟩ := e
  exact ⟨trivial, h⟩
theorem Snd.mk {p q : Option Prop} {v : AV} {s : Sem Value} (hp : Opt p) (h : Opt q → ∃ val, s.run P w = .ok val w ∧ VRep σ β v val) : Snd P σ β w (some (p, q, v)) s := by
  intro p' q' v' e; simp only [Option.some.injEq, Prod.mk.injEq] at e; obtain ⟨rfl, rfl, rfl⟩ := e
  exact ⟨hp, h⟩
theorem Snd.fitting {a b : Nat} {v : AV} {s : Sem Value} (h : a ≤ b → ∃ val, s.run P w = .ok val w ∧ VRep σ β v val) : Snd P σ β w (Vm.fitting a b v) s := by
  unfold Vm.fitting
  split
  · rename_i hb; exact Snd.pure (h (Nat.le_of_ble_eq_true hb))
  · exact Snd.none

theorem TyOk.run_underlying {t : TypeId} {ti : TI} (h : TyOk P t ti) : (underlying t).run P w = .ok ti.desc w := Go.run_underlying h.und w
theorem TyOk.get {t : TypeId} {ti : TI} (h : TyOk P t ti) : ∃ i z, P.info? t = some i ∧ i.size = ti.size ∧ i.bytes = ti.bytes ∧ i.zero = some z ∧ z.cells.toList = ti.zl := by
  have := h.info
  cases hi : P.info? t with
  | none => simp [hi] at this
  | some i =>
    simp only [hi, Option.map_some, Option.some.injEq, Prod.mk.injEq] at this
    obtain ⟨h1, h2, h3⟩ := this
    cases hz : i.zero with
    | none => simp [hz] at h3
    | some z => exact ⟨i, z, rfl, h1, h2, hz, by simpa [hz] using h3⟩
theorem cellOk_spec {v : Value} (h : cellOk v = true) : Scal v ∧ ∀ k n, v = .int k n → InK k n := by
  refine ⟨fun cs e => by subst e; simp [cellOk] at h, fun k n e => by subst e; unfold InK; simpa [cellOk] using h⟩
theorem zero_rep : ∀ {l : List Value}, l.all cellOk = true → All2 (ARep σ β) (l.map AS.ofVal) l
  | [], _ => trivial
  | v :: l, h => by
    simp only [List.all_cons, Bool.and_eq_true] at h
    obtain ⟨h1, h2⟩ := cellOk_spec h.1
    exact ⟨ofVal_rep h1 h2, zero_rep h.2⟩
theorem TyOk.run_sizeOf {t : TypeId} {ti : TI} (h : TyOk P t ti) : (sizeOf t).run P w = .ok ti.size w := by
  obtain ⟨i, z, hi, hs, _⟩ := h.get
  simp [sizeOf, typeInfo, hi, hs]
theorem TyOk.run_isAgg {t : TypeId} {ti : TI} (h : TyOk P t ti) : (isAgg t).run P w = .ok (isAggD ti.desc) w := by
  unfold isAgg
  rw [Sem.run_bind, h.run_underlying]
  simp only [Result.andThen_ok]
  cases ti.desc <;> rfl

theorem arith_sound {k : IntKind} {n : Int} {s : Sem Value} (h : s.run P w = .ok (.int k (k.wrap n)) w) : Snd P σ β w (some (arith k n)) s := by
  unfold arith
  cases k
  case i64 => exact Snd.mk trivial fun q => ⟨_, h, by rw [InK.i64.2 q], InK.i64.2 q⟩
  all_goals exact Snd.pure ⟨_, h, rfl, InK.wrap _ _⟩

theorem tmod_in {k : IntKind} {a b : Int} (ha : InK k a) : InK k (a.tmod b) := by
  have h1 : (a.tmod b).natAbs ≤ a.natAbs := by
    rw [Int.natAbs_tmod]; exact Nat.mod_le _ _
  have h2 : 0 ≤ a → 0 ≤ a.tmod b := fun h => Int.tmod_nonneg _ h
  have h3 : a ≤ 0 → a.tmod b ≤ 0 := fun h => by
    have : 0 ≤ (-a).tmod b := Int.tmod_nonneg _ (by omega)
    rw [Int.neg_tmod] at this; omega
  unfold InK IntKind.wrap at *
  generalize a.tmod b = m at *
  cases k <;> simp only [IntKind.bits, IntKind.signed] at * <;> simp at * <;> (try split at ha) <;> (try split) <;> omega

theorem binInt_sound {t : TypeId} {op : BinOp} {k : IntKind} {a b : Int} (ha : InK k a) : Snd P σ β w (binInt op k a b) (binOp op t (.int k a) (.int k b)) := by
  unfold binInt
  cases op
  case add => exact arith_sound (by simp [binOp, Op.intArith])
  case sub => exact arith_sound (by simp [binOp, Op.intArith])
  case mul => exact arith_sound (by simp [binOp, Op.intArith])
  case quo =>
    by_cases hb : b = 0
    · intro p q v e
      refine ⟨?_, fun hq => ?_⟩
      all_goals (unfold arith at e; cases k <;> simp at e <;> obtain ⟨rfl, rfl, rfl⟩ := e <;> first | exact trivial | exact (hq.1 hb).elim | exact (hq hb).elim)
    · have hs : (binOp .quo t (.int k a) (.int k b)).run P w = .ok (.int k (k.wrap (a.tdiv b))) w := by simp [binOp, Op.intDiv, hb]
      have := arith_sound (σ := σ) (β := β) hs
      intro p q v e
      unfold arith at this e
      cases k <;> simp at e <;> obtain ⟨rfl, rfl, rfl⟩ := e
      case i64 => exact ⟨trivial, fun hq => (this _ _ _ rfl).2 hq.2⟩
      all_goals exact ⟨trivial, fun _ => (this _ _ _ rfl).2 trivial⟩
  case rem => exact Snd.mk trivial fun hb => ⟨_, by simp only [Opt] at hb; simp [binOp, Op.intDiv, hb], rfl, tmod_in ha⟩
  case eql => exact Snd.ok ⟨_, by simp [binOp, Op.intCmp], rfl⟩
  case neq => exact Snd.ok ⟨_, by simp [binOp, Op.intCmp], rfl⟩
  case lss => exact Snd.ok ⟨_, by simp [binOp, Op.intCmp], rfl⟩
  case leq => exact Snd.ok ⟨_, by simp [binOp, Op.intCmp], rfl⟩
  case gtr => exact Snd.ok ⟨_, by simp [binOp, Op.intCmp], rfl⟩
  case geq => exact Snd.ok ⟨_, by simp [binOp, Op.intCmp], rfl⟩
  all_goals exact Snd.none

/-- The table of types is the program's. -/
def TabOk (P : Program) (T : Tab) : Prop := ∀ t ti, lget T.ty t = some ti → TyOk P t ti

theorem TabOk.desc {T : Tab} (hT : TabOk P T) {t : TypeId} {d : TypeDesc} (h : T.desc t = d) (hd : d ≠ .invalid) : (underlying t).run P w = .ok d w := by
  unfold Tab.desc at h
  cases e : lget T.ty t with
  | none => simp [e] at h; exact (hd h.symm).elim
  | some ti => simp only [e] at h; rw [(hT t ti e).run_underlying, h]
theorem TabOk.und {T : Tab} (hT : TabOk P T) {t : TypeId} {d : TypeDesc} (h : T.desc t = d) (hd : d ≠ .invalid) : P.underlying t = some d := by
  unfold Tab.desc at h
  cases e : lget T.ty t with
  | none => simp [e] at h; exact (hd h.symm).elim
  | some ti => simp only [e] at h; rw [(hT t ti e).und, h]
theorem TabOk.size {T : Tab} (hT : TabOk P T) {t : TypeId} {d : TypeDesc} (h : T.desc t = d) (hd : d ≠ .invalid) : (sizeOf t).run P w = .ok (T.sizeOf t) w := by
  unfold Tab.desc at h
  unfold Tab.sizeOf
  cases e : lget T.ty t with
  | none => simp [e] at h; exact (hd h.symm).elim
  | some ti => exact (hT t ti e).run_sizeOf
theorem TyOk.cells {t : TypeId} {ti : TI} (h : TyOk P t ti) : P.cellsOf t = ti.size := by
  obtain ⟨i, _, hi, hs, _⟩ := h.get
  simp [Program.cellsOf, hi, hs]
theorem TabOk.cells {T : Tab} (hT : TabOk P T) {t : TypeId} {d : TypeDesc} (h : T.desc t = d) (hd : d ≠ .invalid) : P.cellsOf t = T.sizeOf t := by
  unfold Tab.desc at h
  unfold Tab.sizeOf
  cases e : lget T.ty t with
  | none => simp [e] at h; exact (hd h.symm).elim
  | some ti => exact (hT t ti e).cells
theorem Tab.desc_of {T : Tab} {t : TypeId} {ti : TI} (h : T.info t = some ti) : T.desc t = ti.desc := by
  unfold Tab.info at h; unfold Tab.desc; rw [h]
theorem Tab.sizeOf_of {T : Tab} {t : TypeId} {ti : TI} (h : T.info t = some ti) : T.sizeOf t = ti.size := by
  unfold Tab.info at h; unfold Tab.sizeOf; rw [h]

theorem eqRes_sound {op : BinOp} {r : Bool} {s : BinOp → Sem Value} (h1 : (s .eql).run P w = .ok (.bool r) w) (h2 : (s .neq).run P w = .ok (.bool (!r)) w) : Snd P σ β w (eqRes op r) (s op) := by
  unfold eqRes
  cases op
  case eql => exact Snd.ok ⟨_, h1, rfl⟩
  case neq => exact Snd.ok ⟨_, h2, rfl⟩
  all_goals exact Snd.none

theorem equal_deep : ∃ d, ∀ t x y, Op.equal t x y = Op.equalIn (d + 2) t x y := ⟨9998, fun _ _ _ => rfl⟩

theorem equal_ptr {t u : TypeId} (h : (underlying t).run P w = .ok (.pointer u) w) (a : Option Addr) : (Op.equal t (.pointer a) (.pointer none)).run P w = .ok a.isNone w := by
  obtain ⟨d, hd⟩ := equal_deep
  rw [hd]
  simp only [Op.equalIn, Sem.run_bind, h, Result.andThen_ok]
  cases a <;> rfl
theorem equal_map {t k u : TypeId} (h : (underlying t).run P w = .ok (.map k u) w) (a : Option Nat) : (Op.equal t (.map a) (.map none)).run P w = .ok a.isNone w := by
  obtain ⟨d, hd⟩ := equal_deep
  rw [hd]
  simp only [Op.equalIn, Sem.run_bind, h, Result.andThen_ok]
  cases a <;> rfl
theorem equal_bool {t : TypeId} (h : (underlying t).run P w = .ok .bool w) (a b : Bool) : (Op.equal t (.bool a) (.bool b)).run P w = .ok (a == b) w := by
  obtain ⟨d, hd⟩ := equal_deep
  rw [hd]
  simp only [Op.equalIn, Sem.run_bind, h, Result.andThen_ok]
  rfl

theorem eqRes_of {op : BinOp} {t : TypeId} {x y : Value} {r : Bool} (h : (Op.equal t x y).run P w = .ok r w)
    (h1 : binOp .eql t x y = (do pure (.bool (← Op.equal t x y)))) (h2 : binOp .neq t x y = (do pure (.bool (!(← Op.equal t x y))))) : Snd P σ β w (eqRes op r) (binOp op t x y) := by
  refine eqRes_sound (s := fun op => binOp op t x y) ?_ ?_
  · show (binOp .eql t x y).run P w = _
    rw [h1, Sem.run_bind, h]; rfl
  · show (binOp .neq t x y).run P w = _
    rw [h2, Sem.run_bind, h]; rfl

theorem eqGuard_other {op : BinOp} {t : TypeId} {x y : Operand} {a b : Value} (h : ∀ cs, a ≠ .agg cs) (h' : a ≠ .nilIface) : (eqGuard op t x y a b).run P w = .ok () w := by
  cases op <;> simp only [eqGuard] <;> first | rfl | skip
  all_goals (cases a <;> first | rfl | exact (h _ rfl).elim | exact (h' rfl).elim)

theorem Snd.guarded {r : Option Res} {g : Sem Unit} {s : Sem Value} (hg : g.run P w = .ok () w) (hs : Snd P σ β w r s) : Snd P σ β w r (do g; s) := by
  intro p q v e
  obtain ⟨h1, h2⟩ := hs p q v e
  exact ⟨h1, fun hq => let ⟨val, e1, e2⟩ := h2 hq; ⟨val, by rw [Sem.run_bind, hg]; exact e1, e2⟩⟩

theorem binNil_sound {T : Tab} (hT : TabOk P T) {t : TypeId} {op : BinOp} {a b : AS} {x y : Value} {ox oy : Operand} (hx : ARep σ β a x) (hy : ARep σ β b y) :
    Snd P σ β w (binNil op (T.desc t) a b) (do eqGuard op t ox oy x y; binOp op t x y) := by
  unfold binNil
  split
  · rename_i e o hd
    obtain ⟨rfl, _⟩ := hy
    have hu := hT.desc (w := w) hd (by simp)
    cases o with
    | none => obtain rfl := (List.cons.inj (show _ = _ from hx)).1; exact Snd.guarded (eqGuard_other (by simp) (by simp)) (eqRes_of (equal_ptr hu _) rfl rfl)
    | some z => obtain ⟨b, off, d, e1, _⟩ := hx; obtain rfl := (List.cons.inj e1).1; exact Snd.guarded (eqGuard_other (by simp) (by simp)) (eqRes_of (equal_ptr hu _) rfl rfl)
  · rename_i hd
    obtain ⟨rfl, _⟩ := hy
    obtain ⟨rfl, _⟩ := hx
    exact Snd.guarded (eqGuard_other (by simp) (by simp)) (eqRes_of (equal_ptr (hT.desc (w := w) hd (by simp)) _) rfl rfl)
  · rename_i hd
    obtain ⟨rfl, _⟩ := hy
    obtain ⟨b, o, d, rfl, _⟩ := hx
    exact Snd.guarded (eqGuard_other (by simp) (by simp)) (eqRes_of (equal_ptr (hT.desc (w := w) hd (by simp)) _) rfl rfl)
  · rename_i hd
    obtain ⟨rfl, _⟩ := hy
    obtain ⟨p, _, rfl, _⟩ := hx
    exact Snd.guarded (eqGuard_other (by simp) (by simp)) (eqRes_of (equal_ptr (hT.desc (w := w) hd (by simp)) _) rfl rfl)
  · rename_i hd
    obtain ⟨rfl, _⟩ := hy
    obtain ⟨p, _, rfl, _⟩ := hx
    exact Snd.guarded (eqGuard_other (by simp) (by simp)) (eqRes_of (equal_map (hT.desc (w := w) hd (by simp)) _) rfl rfl)
  · rename_i hd
    obtain ⟨rfl, _⟩ := hy
    obtain ⟨rfl, _⟩ := hx
    exact Snd.guarded (eqGuard_other (by simp) (by simp)) (eqRes_of (equal_map (hT.desc (w := w) hd (by simp)) _) rfl rfl)
  · exact Snd.none

/-- An array's cells as numbers: compared place by place. -/
theorem cellsEq_spec : ∀ {l m : List AS} {ds es : List Value} {r : Bool}, cellsEq l m = some r → All2 (ARep σ β) l ds → All2 (ARep σ β) m es →
    ds.length = es.length ∧ (∀ (i : Nat) (x y : Value), ds[i]? = some x → es[i]? = some y → ∃ k a b, x = .int k a ∧ y = .int k b) ∧ (r = true ↔ ds = es)
  | [], [], ds, es, r, h, h1, h2 => by
    cases h; obtain rfl := h1.len_nil; obtain rfl := h2.len_nil; simp
  | .int k a :: l, .int k' b :: m, d :: ds, e :: es, r, h, h1, h2 => by
    simp only [cellsEq] at h
    split at h
    · rename_i hk r' hd hr
      cases h
      subst hk
      obtain ⟨i1, i2, i3⟩ := cellsEq_spec hr h1.2 h2.2
      obtain ⟨⟨rfl, _⟩, ⟨rfl, _⟩⟩ := And.intro h1.1 h2.1
      refine ⟨by simp [i1], ?_, ?_⟩
      · intro i x y hx hy
        cases i with
        | zero => simp at hx hy; exact ⟨k, a, b, hx.symm, hy.symm⟩
        | succ i => exact i2 i x y (by simpa using hx) (by simpa using hy)
      · simp [i3]
    · contradiction
  | .int _ _ :: _, .int _ _ :: _, [], _, _, _, h1, _ => h1.elim
  | .int _ _ :: _, .int _ _ :: _, _ :: _, [], _, _, _, h2 => h2.elim

theorem run_part_int {T : Tab} (hT : TabOk P T) {u : TypeId} {k : IntKind} (hu : T.desc u = .int k) {xs : List Value} {i : Nat} {x : Value} (hx : xs[i]? = some x) :
    (Go.part u xs.toArray i).run P w = .ok x w := by
  unfold Go.part
  have h1 : (isAgg u).run P w = .ok false w := by
    unfold isAgg; rw [Sem.run_bind, hT.desc hu (by simp)]; rfl
  simp [h1, hx]

theorem eqItems_ints {T : Tab} (hT : TabOk P T) {u : TypeId} {k : IntKind} (hu : T.desc u = .int k) (d : Nat) {ds es : List Value}
    (h : ∀ (i : Nat) (x y : Value), ds[i]? = some x → es[i]? = some y → ∃ k a b, x = .int k a ∧ y = .int k b) :
    ∀ is : List Nat, (∀ i ∈ is, i < ds.length ∧ i < es.length) → ∃ r, (Op.eqItems (d + 1) u 1 ds.toArray es.toArray is).run P w = .ok r w ∧ (r = true ↔ ∀ i ∈ is, ds[i]? = es[i]?)
  | [], _ => ⟨true, by simp [Op.eqItems], by simp⟩
  | i :: is, hi => by
    obtain ⟨r, hr, hiff⟩ := eqItems_ints hT hu d h is (fun j hj => hi j (by simp [hj]))
    obtain ⟨h1, h2⟩ := hi i (by simp)
    obtain ⟨x, hx⟩ : ∃ x, ds[i]? = some x := ⟨_, List.getElem?_eq_getElem h1⟩
    obtain ⟨y, hy⟩ : ∃ y, es[i]? = some y := ⟨_, List.getElem?_eq_getElem h2⟩
    obtain ⟨k', a, b, rfl, rfl⟩ := h i x y hx hy
    have e1 := run_part_int (w := w) hT hu hx
    have e2 := run_part_int (w := w) hT hu hy
    have e3 : (Op.equalIn (d + 1) u (.int k' a) (.int k' b)).run P w = .ok (a == b) w := by
      simp only [Op.equalIn, Sem.run_bind, hT.desc (w := w) hu (by simp), Result.andThen_ok]
      simp
    simp only [Op.eqItems, Nat.mul_one, Sem.run_bind, e1, e2, e3, Result.andThen_ok]
    by_cases hab : a = b
    · subst hab
      refine ⟨r, by simpa using hr, ?_⟩
      simp [hiff, hx, hy]
    · refine ⟨false, by simp [hab], ?_⟩
      simp [hx, hy, hab]

theorem eqGuard_array {T : Tab} (hT : TabOk P T) {t u : TypeId} {n : Nat} {k : IntKind} (ht : T.desc t = .array n u) (hu : T.desc u = .int k) (op : BinOp) (x y : Operand) (xs ys : Array Value) :
    (eqGuard op t x y (.agg xs) (.agg ys)).run P w = .ok () w := by
  have : P.eqGuardType P.depth t = false := by
    unfold Program.depth
    simp only [Program.eqGuardType, hT.und ht (by simp), hT.und hu (by simp)]
  cases op <;> simp [eqGuard, run_program, this]

theorem list_eq_of_range {ds es : List Value} {n : Nat} (h1 : ds.length = n) (h2 : es.length = n) : (∀ i ∈ List.range n, ds[i]? = es[i]?) ↔ ds = es := by
  constructor
  · intro h
    apply List.ext_getElem?
    intro i
    by_cases hi : i < n
    · exact h i (by simpa using hi)
    · rw [List.getElem?_eq_none (by omega), List.getElem?_eq_none (by omega)]
  · rintro rfl _ _; rfl

theorem bin_sound {T : Tab} (hT : TabOk P T) {t : TypeId} {op : BinOp} {a b : AV} {x y : Value} {ox oy : Operand} (hx : VRep σ β a x) (hy : VRep σ β b y) :
    Snd P σ β w (bin T t op a b) (do eqGuard op t ox oy x y; binOp op t x y) := by
  unfold bin
  split
  · obtain ⟨rfl, ha⟩ := hx
    obtain ⟨rfl, hb⟩ := hy
    split
    · rename_i hk _; subst hk; exact Snd.guarded (eqGuard_other (by simp) (by simp)) (binInt_sound ha)
    · exact Snd.none
  · obtain rfl := hx
    obtain rfl := hy
    split
    · rename_i hd
      exact Snd.guarded (eqGuard_other (by simp) (by simp)) (eqRes_of (equal_bool (hT.desc hd (by simp)) _ _) rfl rfl)
    · exact Snd.none
  · obtain ⟨ds, rfl, hds⟩ := hx
    obtain ⟨es, rfl, hes⟩ := hy
    split
    · rename_i n u ht
      split
      · rename_i k r hu hs hn hr
        obtain ⟨h1, h2, h3⟩ := cellsEq_spec hr hds hes
        have hn' : ds.length = n := by rw [← hds.length]; exact Nat.eq_of_beq_eq_true hn
        obtain ⟨d, hd⟩ := equal_deep
        obtain ⟨i, hi⟩ : ∃ i, P.info? u = some i := by
          unfold Tab.desc at hu
          cases e : lget T.ty u with
          | none => simp [e] at hu
          | some ti => obtain ⟨i, _, hi, _⟩ := (hT u ti e).get; exact ⟨i, hi⟩
        have hsz : P.cellsOf u = 1 := by rw [hT.cells hu (by simp)]; exact Nat.eq_of_beq_eq_true hs
        obtain ⟨r', hr', hiff⟩ := eqItems_ints (w := w) hT hu d h2 (List.range n) (fun i hi => by simp at hi; omega)
        have e1 : (Op.equal t (.agg ds.toArray) (.agg es.toArray)).run P w = .ok r w := by
          rw [hd, run_equalIn_array w (d + 1) _ _ (hT.und ht (by simp)) hi, hsz, hr']
          congr 1
          rw [Bool.eq_iff_iff, hiff, h3, list_eq_of_range hn' (by omega)]
        exact Snd.guarded (eqGuard_array hT ht hu op _ _ _ _) (eqRes_of e1 rfl rfl)
      · exact Snd.none
    · exact Snd.none
  · exact binNil_sound hT hx hy
  · exact Snd.none
end
end Go.Vm
