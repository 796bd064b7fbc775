/- The calm operations, last: slices of slices, greatest and least; all together. -/
import Derived.Test.YtkkhoppffmnkiaaVmOps4
set_option linter.unusedSimpArgs false
set_option linter.unusedVariables false
namespace Go.Vm
open Go.RowKit
section
variable {P : Program} {σ : Sig} {β : Places} {w : World} {T : Tab} {hp : Heap}

/-- A bound of a slice expression as a number. -/
def BoundIs (x : Option Value) (d n : Nat) : Prop := match x with
  | none => n = d
  | some v => ∃ k i, v = .int k i ∧ 0 ≤ i ∧ i.toNat = n

theorem sliceAt_run (hT : TabOk P T) {t u : TypeId} (hd : T.desc t = .slice u) (hu : T.sizeOf u ≠ 0) {a : Option Addr} {len cap L H : Nat} {lo hi : Option Value}
    (hl : BoundIs lo 0 L) (hh : BoundIs hi len H) (h1 : L ≤ H) (h2 : H ≤ cap) :
    (Instr.sliceAt t (.slice a len cap) lo hi none).run P w = .ok (.slice (if cap = L then a else a.map (·.add (L * T.sizeOf u))) (H - L) (cap - L)) w := by
  have hb : (Instr.sliceBounds true len cap lo hi none).run P w = .ok (L, H, cap) w := by
    unfold Instr.sliceBounds
    cases hi with
    | none =>
      obtain rfl : H = len := hh
      cases lo with
      | none => obtain rfl : L = 0 := hl; simp
      | some v => obtain ⟨k, i, rfl, h0, rfl⟩ := hl; simp [Instr.sliceBound, asIntOf, h0, show i ≤ (H : Int) by omega]
    | some v =>
      obtain ⟨k, i, rfl, h0, rfl⟩ := hh
      cases lo with
      | none => obtain rfl : L = 0 := hl; simp [Instr.sliceBound, asIntOf, h0, show i ≤ (cap : Int) by omega]
      | some v =>
        obtain ⟨k', j, rfl, h0', rfl⟩ := hl
        have h3 : j ≤ ((i.toNat : Nat) : Int) := by omega
        simp only [Instr.sliceBound, asIntOf, Sem.run_bind, Sem.run_pure, Result.andThen_ok, show 0 ≤ i ∧ i ≤ (cap : Int) from by omega, and_self, if_true, show 0 ≤ j ∧ j ≤ ((i.toNat : Nat) : Int) from ⟨h0', h3⟩]
  unfold Instr.sliceAt
  rw [Sem.run_bind, hT.desc hd (by simp), Result.andThen_ok]
  show (Instr.slice t (.slice a len cap) lo hi none).run P w = _
  unfold Instr.slice
  rw [Sem.run_bind, hT.desc hd (by simp), Result.andThen_ok]
  simp only [Sem.run_bind, hb, Result.andThen_ok, sizeOf_run (w := w) hT hu]
  rfl

theorem sl_part {e : ETy} {xs : List e.T} {x : Value} (hx : ARep σ β (.sl e xs) x) : ∃ a cap, x = .slice a xs.length cap ∧ xs.length ≤ cap ∧ ∀ L H : Nat, L ≤ H → H ≤ xs.length →
    ARep σ β (.sl e ((xs.take H).drop L)) (.slice (if cap = L then a else a.map (·.add (L * e.size))) (H - L) (cap - L)) := by
  obtain ⟨a, cap, e1, hle, hcap, hr⟩ := hx
  refine ⟨a, cap, (List.cons.inj e1).1, hcap, fun L H h1 h2 => ?_⟩
  have hlen : ((xs.take H).drop L).length = H - L := by simp; omega
  refine ⟨_, _, by rw [hlen], by rw [hlen]; omega, by rw [hlen]; omega, fun hne => ?_⟩
  have hpos : 0 < H - L := by
    rcases Nat.eq_zero_or_pos (H - L) with h | h
    · exact (hne (List.eq_nil_of_length_eq_zero (by omega))).elim
    · exact h
  have hne' : xs ≠ [] := by rintro rfl; simp at h2; omega
  obtain ⟨b, o, rfl, hr'⟩ := hr hne'
  refine ⟨b, o + L * e.size, ?_, fun i y hy => ?_⟩
  · rw [if_neg (by omega)]; simp [Addr.add_none]
  · have : xs[L + i]? = some y := by
      rw [List.getElem?_drop, List.getElem?_take] at hy
      split at hy
      · exact hy
      · cases hy
    obtain ⟨d, h3, h4⟩ := hr' _ _ this
    exact ⟨d, h3, by rw [Nat.add_assoc, ← Nat.add_mul]; exact h4⟩

def ORep (σ : Sig) (β : Places) : Option AV → Option Value → Prop
  | none, none => True
  | some a, some v => VRep σ β a v
  | _, _ => False

theorem ORep.none' {v : Option Value} (h : ORep σ β none v) (d : Nat) : BoundIs v d d := by
  cases v with
  | none => rfl
  | some _ => exact h.elim
theorem ORep.some' {v : Option Value} {k : IntKind} {i : Int} (h : ORep σ β (some (.s (.int k i))) v) (h0 : 0 ≤ i) (d : Nat) : BoundIs v d i.toNat := by
  cases v with
  | none => exact h.elim
  | some v => obtain ⟨rfl, _⟩ := (show VRep σ β _ _ from h); exact ⟨k, i, rfl, h0, rfl⟩

theorem own_part {id s n : Nat} {x : Value} (hx : ARep σ β (.own id s n) x) {sz : Nat} (hs : ∀ p, β[id]? = some (some p) → p.sz = sz) : ∃ a cap, x = .slice a n cap ∧ n ≤ cap ∧ ∀ L H : Nat, L ≤ H → H ≤ n →
    ARep σ β (.own id (s + L) (H - L)) (.slice (if cap = L then a else a.map (·.add (L * sz))) (H - L) (cap - L)) := by
  simp only [ARep] at hx
  cases hβ : β[id]? with
  | none => simp [hβ] at hx
  | some q =>
    cases q with
    | none =>
      simp only [hβ] at hx
      obtain ⟨rfl, rfl, rfl⟩ := hx
      refine ⟨none, 0, rfl, Nat.le_refl _, fun L H h1 h2 => ?_⟩
      have : L = 0 := by omega
      have : H = 0 := by omega
      subst L H
      simp [ARep, hβ]
    | some p =>
      simp only [hβ] at hx
      have hs := hs p hβ
      obtain ⟨a, cap, rfl, h1, h2, h3, h4⟩ := hx
      refine ⟨some a, cap, rfl, h1, fun L H g1 g2 => ?_⟩
      simp only [ARep, hβ]
      by_cases hc : cap = L
      · exact ⟨a, cap - L, by simp [hc], by omega, .inl (by omega), by rw [show s + L + (cap - L) = s + cap by omega]; exact h3, by omega⟩
      · obtain rfl : a = _ := h2.resolve_left (by omega)
        exact ⟨_, cap - L, by simp [hc]; rfl, by omega, .inr (by rw [Addr.add_none, ← hs, Nat.add_mul, Nat.add_assoc]), by rw [show s + L + (cap - L) = s + cap by omega]; exact h3, by omega⟩

theorem cSlice_sound (hT : TabOk P T) (hm : Mem σ β hp w) {t : TypeId} {a : AV} {lo hi : Option AV} {x : Value} {vlo vhi : Option Value} (ha : VRep σ β a x)
    (hlo : ORep σ β lo vlo) (hhi : ORep σ β hi vhi) : Snd P σ β w (cSlice T t hp a lo hi) (Instr.sliceAt t x vlo vhi none) := by
  have nn : ∀ {u : TypeId}, Nat.beq (T.sizeOf u) 0 = false → T.sizeOf u ≠ 0 := fun h e => by rw [e] at h; cases h
  unfold cSlice
  split
  · rename_i e xs u hd
    split
    · rename_i hb hz
      have hu := nn hz
      have hb := Nat.eq_of_beq_eq_true hb
      obtain ⟨a, cap, rfl, hcap, hpart⟩ := sl_part (σ := σ) (β := β) (show ARep σ β (.sl e xs) x from ha)
      rw [← hb] at hpart
      split
      · refine Snd.need fun _ => ⟨_, sliceAt_run hT hd hu (L := 0) (H := xs.length) (hlo.none' _) (hhi.none' _) (by omega) hcap, ?_⟩
        simpa using hpart 0 xs.length (by omega) (by omega)
      · refine Snd.need fun ⟨h0, h1⟩ => ⟨_, sliceAt_run hT hd hu (hlo.some' h0 _) (hhi.none' _) (by omega) hcap, hpart _ _ (by omega) (by omega)⟩
      · refine Snd.need fun ⟨h0, h1⟩ => ⟨_, sliceAt_run hT hd hu (hlo.none' _) (hhi.some' h0 _) (by omega) (by omega), hpart _ _ (by omega) (by omega)⟩
      · refine Snd.need fun ⟨h0, h1, h2⟩ => ⟨_, sliceAt_run hT hd hu (hlo.some' h0 _) (hhi.some' (by omega) _) (by omega) (by omega), hpart _ _ (by omega) (by omega)⟩
      · exact Snd.none
    · exact Snd.none
  · rename_i id s n u hd
    split
    · rename_i e u' xs hid
      split
      · rename_i hb hz
        have hu := nn hz
        have hb := Nat.eq_of_beq_eq_true hb
        obtain ⟨a, cap, rfl, hcap, hpart⟩ := own_part (σ := σ) (β := β) (show ARep σ β (.own id s n) x from ha) (sz := T.sizeOf u) (fun p hp' => by
          have := (hm.ob _ _ hid).2
          simp only [hp'] at this
          rw [this.1, hb])
        split
        · refine Snd.need fun ⟨h0, h1⟩ => ⟨_, sliceAt_run hT hd hu (hlo.some' h0 _) (hhi.none' _) (by omega) hcap, hpart _ _ (by omega) (by omega)⟩
        · rename_i k j
          refine Snd.need fun ⟨h0, h1⟩ => ⟨_, sliceAt_run hT hd hu (L := 0) (hlo.none' _) (hhi.some' h0 _) (by omega) (by omega), ?_⟩
          exact hpart 0 j.toNat (Nat.zero_le _) (by omega)
        · refine Snd.need fun ⟨h0, h1, h2⟩ => ⟨_, sliceAt_run hT hd hu (hlo.some' h0 _) (hhi.some' (by omega) _) (by omega) (by omega), hpart _ _ (by omega) (by omega)⟩
        · exact Snd.none
      · exact Snd.none
    · exact Snd.none
  · exact Snd.none

theorem max_run {k : IntKind} {a b : Int} {ts : Array TypeId} {ty : TypeId} : (Builtin.max_ ts ty #[.int k a, .int k b]).run P w = .ok (.int k (max a b)) w := by
  have : (if b > a then b else a) = max a b := by
    rw [Int.max_def]; split <;> split <;> omega
  simp [Builtin.max_, Builtin.max2, this]
theorem min_run {k : IntKind} {a b : Int} {ts : Array TypeId} {ty : TypeId} : (Builtin.min_ ts ty #[.int k a, .int k b]).run P w = .ok (.int k (min a b)) w := by
  have : (if b < a then b else a) = min a b := by
    rw [Int.min_def]; split <;> split <;> omega
  simp [Builtin.min_, Builtin.min2, this]

theorem max_in {k : IntKind} {a b : Int} (ha : InK k a) (hb : InK k b) : InK k (max a b) := by
  rw [Int.max_def]; split <;> assumption
theorem min_in {k : IntKind} {a b : Int} (ha : InK k a) (hb : InK k b) : InK k (min a b) := by
  rw [Int.min_def]; split <;> assumption

/-- What stands in the frame. -/
def EvRep (σ : Sig) (β : Places) (ev : Operand → AV) (ρ : Operand → Value) (op : Op) : Prop := ∀ x ∈ op.operands, VRep σ β (ev x) (ρ x)

/-- The calm operations that call no function and ask no map. -/
def Op.simple : Op → Bool
  | .lookup _ _ _ _ => false
  | .buildSlice _ _ _ => false
  | .call c => match c.callee with
    | .builtin _ => true
    | _ => false
  | _ => true

theorem acalm_sound (hT : TabOk P T) (hO : TabOne T) (hm : Mem σ β hp w) {o : Oper} {ev : Operand → AV} {ρ : Operand → Value} (he : EvRep σ β ev ρ o.op) (hs : Op.simple o.op = true)
    {p q : Option Prop} {v : AV} (h : acalm T o.op ev hp = some (p, q, v)) : Opt p ∧ (Opt q → ∃ val, (execOp ρ o).run P w = .ok (.value val) w ∧ VRep σ β v val) := by
  obtain ⟨dst, op, type, pos, after, guard⟩ := o
  have lift : ∀ {s : Sem Value} {r : Option Res}, Snd P σ β w r s → r = some (p, q, v) → (∀ val, s.run P w = .ok val w → (execOp ρ ⟨dst, op, type, pos, after, guard⟩).run P w = .ok (.value val) w) →
      Opt p ∧ (Opt q → ∃ val, (execOp ρ ⟨dst, op, type, pos, after, guard⟩).run P w = .ok (.value val) w ∧ VRep σ β v val) := by
    intro s r hs e hr
    obtain ⟨h1, h2⟩ := hs p q v e
    exact ⟨h1, fun hq => let ⟨val, e1, e2⟩ := h2 hq; ⟨val, hr val e1, e2⟩⟩
  cases op <;> simp only [acalm] at h <;> simp only [EvRep, Op.operands] at he
  case move x => exact lift (s := pure (ρ x)) (Snd.pure ⟨ρ x, rfl, he x (by simp)⟩) h (fun val e => by cases e; rfl)
  case assign x => exact lift (s := pure (ρ x)) (Snd.pure ⟨ρ x, rfl, he x (by simp)⟩) h (fun val e => by cases e; rfl)
  case pick c a b =>
    refine lift (cPick_sound (he c (by simp)) (he a (by simp)) (he b (by simp))) h (fun val e => ?_)
    simp only [execOp, Sem.run_bind, bind_pure_comp, Sem.run_map] at e ⊢
    cases h1 : (asBool (ρ c)).run P w with
    | ok r w' => simp only [h1, Result.andThen_ok] at e ⊢; cases e; rfl
    | halt x w' => simp [h1] at e
  case build t ps =>
    refine lift (cBuild_sound (vs := ps.map fun (i, x) => (i, ρ x)) hT ?_) h (fun val e => by simp [execOp, e])
    rw [Array.toList_map]
    have : ∀ l : List (Nat × Operand), (∀ x ∈ l, VRep σ β (ev x.2) (ρ x.2)) → All2 (fun (p : Nat × AV) (q : Nat × Value) => p.1 = q.1 ∧ VRep σ β p.2 q.2) (l.map fun p => (p.1, ev p.2)) (l.map fun (i, x) => (i, ρ x)) := by
      intro l
      induction l with
      | nil => intro _; trivial
      | cons a l ih => intro hl; exact ⟨⟨rfl, hl a (by simp)⟩, ih fun x hx => hl x (by simp [hx])⟩
    exact this _ fun x hx => he x.2 (by simp; exact ⟨x.1, by simpa using hx⟩)
  case load t x => exact lift (cLoad_sound hT hO hm (he x (by simp))) h (fun val e => by simp [execOp, e])
  case nilCheck x =>
    obtain ⟨h1, h2⟩ := cNil_spec (he x (by simp)) h
    refine ⟨h1, fun hq => ?_⟩
    obtain ⟨⟨ad, e1⟩, h3⟩ := h2 hq
    exact ⟨ρ x, by simp [execOp, e1], h3⟩
  case binOp op t x y u => exact lift (bin_sound (ox := x) (oy := y) hT (he x (by simp)) (he y (by simp))) h (fun val e => by simp only [execOp]; rw [Sem.run_bind, e]; rfl)
  case unOp op t x => exact lift (cUn_sound (he x (by simp))) h (fun val e => by simp [execOp, e])
  case convert s d x =>
    split at h
    · rename_i k hd
      exact lift (cConv_sound hT hd (by simp) (he x (by simp))) h (fun val e => by simp [execOp, e])
    · cases h
  case slice t x lo hi mx =>
    cases mx with
    | some _ => cases h
    | none =>
      refine lift (cSlice_sound (vlo := lo.map ρ) (vhi := hi.map ρ) hT hm (he x (by simp)) ?_ ?_) h (fun val e => by simp [execOp, e])
      · cases lo with
        | none => trivial
        | some y => exact he y (by simp)
      · cases hi with
        | none => trivial
        | some y => exact he y (by simp)
  case fieldAddr t x f => exact lift (cFieldAddr_sound hT (he x (by simp))) h (fun val e => by simp [execOp, e])
  case field t x f => exact lift (cField_sound hT hO (he x (by simp))) h (fun val e => by simp [execOp, e])
  case indexAddr t x i => exact lift (cIndexAddr_sound hT hm (he x (by simp)) (he i (by simp))) h (fun val e => by simp [execOp, e])
  case index t x i => exact lift (cIndex_sound hT hO (he x (by simp)) (he i (by simp))) h (fun val e => by simp [execOp, e])
  case lookup => cases hs
  case buildSlice => cases hs
  case extract x i => exact lift (cExt_sound (he x (by simp))) h (fun val e => by simp [execOp, e])
  case call c =>
    obtain ⟨callee, args, ts⟩ := c
    cases callee with
    | value f => cases hs
    | invoke r m => cases hs
    | builtin b =>
      have hexec : ∀ (val : Value) (s : Sem Value), (∀ cs, builtin b ts type cs (args.map ρ) = (do pure (.value (← s)))) → s.run P w = .ok val w →
          (execOp ρ ⟨dst, .call ⟨.builtin b, args, ts⟩, type, pos, after, guard⟩).run P w = .ok (.value val) w := by
        intro val s hs e
        simp only [execOp, resolve, Sem.run_bind, Sem.run_pure, Result.andThen_ok, invoke]
        rw [hs, Sem.run_bind, e]; rfl
      have two : ∀ {A B : AV}, args.toList.map ev = [A, B] → ∃ a b, args = #[a, b] ∧ A = ev a ∧ B = ev b ∧ VRep σ β (ev a) (ρ a) ∧ VRep σ β (ev b) (ρ b) := by
        intro A B hx
        match hargs : args.toList, hx with
        | [a, b], hx =>
          simp only [List.map_cons, List.map_nil, List.cons.injEq, and_true] at hx
          obtain ⟨rfl, rfl⟩ := hx
          have hA : args = #[a, b] := by rw [← Array.toArray_toList (xs := args), hargs]
          subst hA
          exact ⟨a, b, rfl, rfl, rfl, he a (by simp [Call.operands]), he b (by simp [Call.operands])⟩
        | [], hx => simp at hx
        | [_], hx => simp at hx
        | _ :: _ :: _ :: _, hx => simp at hx
      unfold cCall at h
      simp only at h
      split at h
      · rename_i x hb hx
        cases hb
        split at h
        · rename_i t r hts
          match hargs : args.toList, hx with
          | [a], hx =>
            simp only [List.map_cons, List.map_nil, List.cons.injEq, and_true] at hx
            subst hx
            have hA : args = #[a] := by rw [← Array.toArray_toList (xs := args), hargs]
            subst hA
            have ht : ts[0]? = some t := by
              rw [← Array.getElem?_toList, hts]; rfl
            exact lift (lenOf_sound (ty := type) hT hm ht (he a (by simp [Call.operands]))) h (fun val e => hexec val _ (fun _ => rfl) (by simpa using e))
          | [], hx => simp at hx
          | _ :: _ :: _, hx => simp at hx
        · cases h
      · rename_i k a k' b' hb hx
        cases hb
        obtain ⟨oa, ob, rfl, e1, e2, h1, h2⟩ := two hx
        rw [← e1] at h1; rw [← e2] at h2
        obtain ⟨h1, h1'⟩ := h1
        obtain ⟨h2, h2'⟩ := h2
        split at h
        · rename_i hk _
          subst hk
          refine lift (s := Builtin.max_ ts type #[ρ oa, ρ ob]) (Snd.ok (a := .int _ (max _ _)) ⟨_, by rw [h1, h2]; exact max_run, rfl, max_in h1' h2'⟩) h (fun val e => hexec val _ (fun _ => rfl) (by simpa using e))
        · cases h
      · rename_i k a k' b' hb hx
        cases hb
        obtain ⟨oa, ob, rfl, e1, e2, h1, h2⟩ := two hx
        rw [← e1] at h1; rw [← e2] at h2
        obtain ⟨h1, h1'⟩ := h1
        obtain ⟨h2, h2'⟩ := h2
        split at h
        · rename_i hk _
          subst hk
          refine lift (s := Builtin.min_ ts type #[ρ oa, ρ ob]) (Snd.ok (a := .int _ (min _ _)) ⟨_, by rw [h1, h2]; exact min_run, rfl, min_in h1' h2'⟩) h (fun val e => hexec val _ (fun _ => rfl) (by simpa using e))
        · cases h
      all_goals first | contradiction | cases h
  all_goals (cases h)
end
end Go.Vm
