/- Calm operations in a heap that has more in it; places that are kept free for what comes. -/
import Derived.Test.YtkkhoppffmnkiaaVmReg
set_option linter.unusedSimpArgs false
set_option linter.unusedVariables false
namespace Go.Vm
open Go.RowKit

def AV.low (n : Nat) : AV → Prop
  | .s a => a.idsBelow n = true
  | .agg l => l.all (AS.idsBelow n) = true
  | .tup _ => True

section
variable {P : Program} {T : Tab} {B : Base} {w : World} {σ : Sig} {β : Places} {st : St} {tmps : Array Value} {hp hp' : Heap} {nx : Nat}

theorem blt_lt {i m : Nat} (h : Nat.blt i m = true) : i < m := Nat.le_of_ble_eq_true h
theorem lt_blt {i m : Nat} (h : i < m) : Nat.blt i m = true := Nat.ble_eq_true_of_le h

theorem ARep.low {a : AS} {v : Value} (h : ARep σ β a v) : a.idsBelow β.length = true := by
  have key : ∀ {id : Nat} {q : Option Bk}, β[id]? = some q → Nat.blt id β.length = true := fun {id q} e => lt_blt (List.getElem?_eq_some_iff.1 e).1
  cases a with
  | own id s n =>
    simp only [ARep] at h
    cases e : β[id]? with
    | none => simp [e] at h
    | some q => exact key e
  | ptr => obtain ⟨q, e, _⟩ := h; exact key e
  | pti => obtain ⟨q, e, _⟩ := h; exact key e
  | omp => obtain ⟨q, e, _⟩ := h; exact key e
  | _ => rfl

theorem all2_low : ∀ {l : List AS} {ds : List Value}, All2 (ARep σ β) l ds → l.all (AS.idsBelow β.length) = true
  | [], [], _ => rfl
  | _ :: _, _ :: _, h => by simp only [List.all_cons, Bool.and_eq_true]; exact ⟨h.1.low, all2_low h.2⟩
  | [], _ :: _, h => h.elim
  | _ :: _, [], h => h.elim

theorem VRep.low {a : AV} {v : Value} (h : VRep σ β a v) : a.low β.length := by
  cases a with
  | s a => exact ARep.low h
  | agg l => obtain ⟨ds, _, r⟩ := h; exact all2_low r
  | tup l => trivial

def AS.okP (Pr : Nat → Bool) : AS → Bool
  | .own i _ _ => Pr i
  | .ptr i _ _ => Pr i
  | .pti i _ _ => Pr i
  | .omp i => Pr i
  | _ => true
def AV.okP (Pr : Nat → Bool) : AV → Prop
  | .s a => a.okP Pr = true
  | .agg l => l.all (AS.okP Pr) = true
  | .tup _ => True
def HSame (Pr : Nat → Bool) (hp hp' : Heap) : Prop := ∀ id, Pr id = true → hget hp' id = hget hp id
section
variable {Pr : Nat → Bool}
theorem cLoad_heapP {t : TypeId} {x : AV} (hx : x.okP Pr) (h : HSame Pr hp hp') : cLoad T t hp' x = cLoad T t hp x := by
  cases x with
  | s a => cases a <;> simp only [cLoad] <;> cases T.info t <;> first | rfl | (have e := h _ (hx); simp only [e]) | (rename_i o _; cases o <;> rfl)
  | _ => rfl

theorem cIndexAddr_heapP {t : TypeId} {x i : AV} {lit : Bool} (hx : x.okP Pr) (h : HSame Pr hp hp') : cIndexAddr T t hp' x i lit = cIndexAddr T t hp x i lit := by
  cases x with
  | s a =>
    cases i with
    | s i =>
      cases i with
      | int k i =>
        simp only [cIndexAddr]
        cases T.desc t with
        | array n u =>
          simp only
          cases lit with
          | true => rfl
          | false =>
            simp only
            generalize T.sizeOf u = m
            match m with
            | 0 => rfl
            | m + 2 => rfl
            | 1 =>
              cases a with
              | ip e x k => cases k <;> rfl
              | ptr id j k =>
                cases k with
                | zero => have e := h _ (hx); simp only [e]
                | succ k => rfl
              | _ => rfl
        | slice u =>
          simp only
          cases a with
          | own id s n => have e := h _ (hx); simp only [e]
          | _ => rfl
        | _ => rfl
      | _ => rfl
    | _ => rfl
  | _ => rfl

theorem cSlice_heapP {t : TypeId} {x : AV} {lo hi : Option AV} (hx : x.okP Pr) (h : HSame Pr hp hp') : cSlice T t hp' x lo hi = cSlice T t hp x lo hi := by
  cases x with
  | s a => cases a <;> simp only [cSlice] <;> cases T.desc t <;> first | rfl | (have e := h _ (hx); simp only [e])
  | _ => rfl

theorem asMap_heapP {a : AS} (hx : a.okP Pr = true) (h : HSame Pr hp hp') : asMap hp' a = asMap hp a := by
  cases a <;> simp only [asMap] <;> (have e := h _ (hx); simp only [e])

theorem cLookup_heapP {t : TypeId} {x key : AV} {c : Bool} (hx : x.okP Pr) (h : HSame Pr hp hp') : cLookup T t hp' x key c = cLookup T t hp x key c := by
  cases x with
  | s a => simp only [cLookup]; cases key.flat <;> cases T.desc t <;> simp only [asMap_heapP hx h]
  | _ => rfl

theorem view_heapP {a : AS} (hx : a.okP Pr = true) (h : HSame Pr hp hp') : view hp' a = view hp a := by
  cases a with
  | ptr id i k => cases k with
    | zero => simp only [view]; rw [h _ (hx)]
    | succ k => rfl
  | own => simp only [view]; rw [h _ (hx)]
  | omp => simp only [view]; rw [h _ (hx)]
  | _ => rfl

theorem avview_heapP {a : AV} (hx : a.okP Pr) (h : HSame Pr hp hp') : a.view hp' = a.view hp := by
  cases a with
  | s a => simp only [AV.view]; rw [view_heapP hx h]
  | agg l =>
    simp only [AV.view, AV.agg.injEq]
    exact List.map_congr_left fun a ha => view_heapP (List.all_eq_true.1 hx a ha) h
  | tup l => rfl

theorem lenOf_heapP {d : TypeDesc} {a : AV} (hx : a.okP Pr) (h : HSame Pr hp hp') : lenOf hp' d a = lenOf hp d a := by
  unfold lenOf
  split <;> first | rfl | (have e := h _ (hx); simp only [e])

theorem cCall_heapP {c : Callee} {ts : List TypeId} {vs : List AV} (hx : ∀ v ∈ vs, v.okP Pr) (h : HSame Pr hp hp') : cCall T hp' c ts vs = cCall T hp c ts vs := by
  have hv : vs.map (AV.view hp') = vs.map (AV.view hp) := List.map_congr_left fun a ha => avview_heapP (hx a ha) h
  unfold cCall
  split
  · split
    · rw [lenOf_heapP (hx _ (by simp)) h]
    · rfl
  · rfl
  · rfl
  · simp only [hv]
  · rfl

theorem acalm_heapP {op : Op} {ev : Operand → AV} (hx : ∀ x ∈ op.operands, (ev x).okP Pr) (h : HSame Pr hp hp') : acalm T op ev hp' = acalm T op ev hp := by
  cases op <;> simp only [acalm] <;> simp only [Op.operands] at hx
  case load t x => exact cLoad_heapP (hx x (by simp)) h
  case slice t x lo hi mx =>
    cases mx with
    | some _ => rfl
    | none => exact cSlice_heapP (hx x (by simp)) h
  case indexAddr t x i => exact cIndexAddr_heapP (hx x (by simp)) h
  case lookup t x i c => exact cLookup_heapP (hx x (by simp)) h
  case call c =>
    refine cCall_heapP (fun v hv => ?_) h
    obtain ⟨x, hx', rfl⟩ := List.mem_map.1 hv
    exact hx x (by simp [Call.operands]; right; simpa using hx')

end
theorem AS.okP_low {a : AS} (h : a.idsBelow nx = true) : a.okP (fun i => Nat.blt i nx) = true := by cases a <;> exact h
theorem AV.okP_low {a : AV} (h : a.low nx) : a.okP (fun i => Nat.blt i nx) := by
  cases a with
  | s a => exact AS.okP_low h
  | agg l => exact List.all_eq_true.2 fun a ha => AS.okP_low (List.all_eq_true.1 h a ha)
  | tup l => trivial
theorem acalm_heap {op : Op} {ev : Operand → AV} (hx : ∀ x ∈ op.operands, (ev x).low nx) (h : HExt nx hp hp') : acalm T op ev hp' = acalm T op ev hp :=
  acalm_heapP (Pr := fun i => Nat.blt i nx) (fun x hx' => AV.okP_low (hx x hx')) fun id hid => h id (blt_lt hid)

/-! ### Free places -/
def dead : Option Bk := some ⟨0, 1, 0, 0, 0⟩

theorem ARep.revive {id : Nat} (hd : β[id]? = some dead) (q : Option Bk) {a : AS} {v : Value} (h : ARep σ β a v) : ARep σ (β.set id q) a v := by
  have key : ∀ {i : Nat}, i ≠ id → (β.set id q)[i]? = β[i]? := fun hi => List.getElem?_set_ne (Ne.symm hi)
  cases a with
  | own i s n =>
    simp only [ARep] at h ⊢
    by_cases e : i = id
    · subst e
      rw [hd] at h
      simp only [dead] at h
      obtain ⟨a, cap, _, _, _, h1, _⟩ := h
      omega
    · rw [key e]; exact h
  | ptr i j k =>
    obtain ⟨p, e, r, hl⟩ := h
    by_cases e' : i = id
    · subst e'; rw [hd] at e; cases e; exact absurd hl (by simp)
    · exact ⟨p, by rw [key e']; exact e, r, hl⟩
  | pti i j k =>
    obtain ⟨p, e, r, hl, hs⟩ := h
    by_cases e' : i = id
    · subst e'; rw [hd] at e; cases e; exact absurd hl (by simp)
    · exact ⟨p, by rw [key e']; exact e, r, hl, hs⟩
  | omp i =>
    obtain ⟨p, e, r, hl⟩ := h
    by_cases e' : i = id
    · subst e'; rw [hd] at e; cases e; exact absurd hl (by simp)
    · exact ⟨p, by rw [key e']; exact e, r, hl⟩
  | _ => exact h

theorem ObAt.revive {w' : World} {id id' : Nat} {ob : Ob} (hd : β[id]? = some dead) (hne : id' ≠ id) (q : Option Bk) (h : ObAt σ β w id' ob) (hk : ∀ p, β[id']? = some (some p) → w'.heap[p.b]? = w.heap[p.b]?) : ObAt σ (β.set id q) w' id' ob := by
  have key : (β.set id q)[id']? = β[id']? := List.getElem?_set_ne (Ne.symm hne)
  cases ob with
  | row e T xs =>
    obtain ⟨h0, h⟩ := h
    refine ⟨h0, ?_⟩
    rw [key]
    cases hβ : β[id']? with
    | none => simp [hβ] at h
    | some x =>
      cases x with
      | none => simpa [hβ] using h
      | some p =>
        simp only [hβ] at h ⊢
        obtain ⟨h1, h2, h3, c, h4, h5⟩ := h
        exact ⟨h1, h2, h3, c, by rw [hk p hβ]; exact h4, h5⟩
  | flat T cs =>
    obtain ⟨p, h1, h2, h3, h4, h5, c, h6, h7⟩ := h
    exact ⟨p, by rw [key]; exact h1, h2, h3, h4, h5, c, by rw [hk p h1]; exact h6, h7.mono fun _ _ => ARep.revive hd q⟩
  | map k v m =>
    obtain ⟨h0, p, es, clock, h1, h2, h3⟩ := h
    exact ⟨h0, p, es, clock, by rw [key]; exact h1, by rw [hk p h1]; exact h2, h3⟩

/-- A free place at the end. -/
theorem GG.free (h : GG B σ β st tmps w) : GG B σ (β ++ [dead]) { st with next := st.next + 1 } tmps w := by
  have hold : ∀ {id : Nat}, id < st.next → (β ++ [dead])[id]? = β[id]? := fun hi => by rw [List.getElem?_append_left]; rw [h.len]; exact hi
  refine ⟨⟨h.mem.ag, fun id ob hi => (h.mem.ob _ _ hi).keep dead fun _ _ => rfl⟩, fun t => (h.env t).more dead, by simp [h.len], fun id ob p hi hp => ?_, h.bel, h.grew⟩
  rw [hold (h.id_lt hi)] at hp
  obtain ⟨s1, s2, s3⟩ := h.sep _ _ _ hi hp
  refine ⟨s1, s2, fun id' ob' p' hne hi' hp' => ?_⟩
  rw [hold (h.id_lt hi')] at hp'
  exact s3 _ _ _ hne hi' hp'

theorem GG.frees (h : GG B σ β st tmps w) : ∀ m : Nat, ∃ β', GG B σ β' { st with next := st.next + m } tmps w ∧ ∀ j, j < m → β'[st.next + j]? = some dead
  | 0 => ⟨β, h, fun j hj => by omega⟩
  | m + 1 => by
    obtain ⟨β', h1, h2⟩ := GG.frees h m
    refine ⟨_, h1.free, fun j hj => ?_⟩
    have hl : β'.length = st.next + m := h1.len
    by_cases e : j = m
    · subst e; rw [← hl]; simp
    · rw [List.getElem?_append_left (by omega)]; exact h2 j (by omega)

/-- A free place is taken. -/
theorem GG.revive (h : GG B σ β st tmps w) {id : Nat} (hdd : β[id]? = some dead) {d : Option Tmp} (hd : dstOk d tmps) {t : TypeId} {cs : List AS} {c : Array Value} (hc : All2 (ARep σ β) cs c.toList) :
    GG B σ (β.set id (some ⟨w.heap.size, 0, cs.length, cs.length, 1⟩)) (({ st with hp := (id, .flat t cs) :: st.hp } : St).put d (.s (.ptr id 0 0))) (putT tmps d (.pointer (some ⟨w.heap.size, 0, none⟩))) (w.alloc (.cells c t)) := by
  have hid : id < β.length := (List.getElem?_eq_some_iff.1 hdd).1
  have hlast : (β.set id (some ⟨w.heap.size, 0, cs.length, cs.length, 1⟩))[id]? = some (some (⟨w.heap.size, 0, cs.length, cs.length, 1⟩ : Bk)) := by simp [hid]
  have hold : ∀ {i : Nat}, i ≠ id → (β.set id (some ⟨w.heap.size, 0, cs.length, cs.length, 1⟩))[i]? = β[i]? := fun hi => List.getElem?_set_ne (Ne.symm hi)
  have hsig : ∀ b o, σ b = some o → b < w.heap.size := fun b o e => (Array.getElem?_eq_some_iff.1 (h.mem.ag _ _ e)).1
  have hw : ∀ k, k < w.heap.size → (w.alloc (.cells c t)).heap[k]? = w.heap[k]? := fun k hk => Go.heap_alloc_old w _ hk
  refine GG.put (st := { st with hp := (id, .flat t cs) :: st.hp }) ⟨⟨fun b o e => ?_, fun id' ob' hi => ?_⟩, fun t => (h.env t).map fun _ _ => ARep.revive hdd _, by simp [h.len], fun id' ob' p hi hp => ?_, h.bel.trans ((Below.refl _ w).alloc h.bel.size _), h.grew⟩ hd ⟨_, hlast, by simp, by simp⟩
  · rw [hw b (hsig b o e)]; exact h.mem.ag _ _ e
  · simp only [hget_cons] at hi
    split at hi
    · rename_i e; subst e; cases hi
      exact ⟨_, hlast, rfl, rfl, rfl, rfl, c, Go.heap_alloc_new w _, hc.mono fun _ _ => ARep.revive hdd _⟩
    · rename_i hne
      exact (h.mem.ob _ _ hi).revive hdd (Ne.symm hne) _ fun p hp => hw _ ((h.mem.ob _ _ hi).lt hp)
  · simp only [hget_cons] at hi
    split at hi
    · rename_i e; subst e
      rw [hlast] at hp; cases hp
      refine ⟨?_, h.bel.size, fun id2 ob2 p2 hne hi2 hp2 => ?_⟩
      · cases e : σ w.heap.size with
        | none => rfl
        | some o => have := hsig _ _ e; omega
      · simp only [hget_cons] at hi2
        rw [if_neg (Ne.symm hne)] at hi2
        rw [hold hne] at hp2
        have := (h.mem.ob _ _ hi2).lt hp2
        simp only; omega
    · rename_i hne
      rw [hold (Ne.symm hne)] at hp
      obtain ⟨s1, s2, s3⟩ := h.sep _ _ _ hi hp
      refine ⟨s1, s2, fun id2 ob2 p2 hne2 hi2 hp2 => ?_⟩
      simp only [hget_cons] at hi2
      split at hi2
      · rename_i e; subst e
        rw [hlast] at hp2; cases hp2
        have := (h.mem.ob _ _ hi).lt hp
        simp only; omega
      · rename_i hne'
        rw [hold (Ne.symm hne')] at hp2
        exact s3 _ _ _ hne2 hi2 hp2

/-- Only what the heap and the frame give counts. -/
theorem GG.congr {env env' : Env} (h : GG B σ β ⟨env, hp, nx⟩ tmps w) (he : eget env = eget env') (hh : ∀ id, hget hp id = hget hp' id) : GG B σ β ⟨env', hp', nx⟩ tmps w := by
  refine ⟨⟨h.mem.ag, fun id ob hi => h.mem.ob id ob (by rw [hh]; exact hi)⟩, fun t => ?_, h.len, fun id ob p hi hp => ?_, h.bel, h.grew⟩
  · show VRep σ β (eget env' t) _
    rw [← he]; exact h.env t
  · obtain ⟨s1, s2, s3⟩ := h.sep id ob p (by rw [hh]; exact hi) hp
    exact ⟨s1, s2, fun id' ob' p' hne hi' hp' => s3 id' ob' p' hne (by rw [hh]; exact hi') hp'⟩
end
end Go.Vm
