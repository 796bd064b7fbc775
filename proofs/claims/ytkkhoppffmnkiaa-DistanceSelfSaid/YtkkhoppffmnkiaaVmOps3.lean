/- The calm operations, more: building, loads, addresses, slices. -/
import Derived.Test.YtkkhoppffmnkiaaVmOps2
set_option linter.unusedSimpArgs false
set_option linter.unusedVariables false
namespace Go.Vm
open Go.RowKit
section
variable {P : Program} {σ : Sig} {β : Places} {w : World} {T : Tab} {hp : Heap}

theorem exists_get {α : Type} {l : List α} {i : Nat} (h : i < l.length) : ∃ x, l[i]? = some x := ⟨_, List.getElem?_eq_getElem h⟩

theorem All2.getD {α β' : Type} {R : α → β' → Prop} {l : List α} {m : List β'} (h : All2 R l m) : l.length = m.length := h.length

/-- Laying values over cells one by one is laying them over at once. -/
theorem foldl_set (off : Nat) : ∀ (m : List Value) (k : Nat) (cs : List Value), off + k + m.length ≤ cs.length →
    ((m.zipIdx k).foldl (fun (cs : Array Value) (p : Value × Nat) => cs.setIfInBounds (off + p.2) p.1) cs.toArray).toList = cs.take (off + k) ++ m ++ cs.drop (off + k + m.length)
  | [], k, cs, _ => by simp
  | x :: m, k, cs, h => by
    simp only [List.zipIdx_cons, List.foldl_cons]
    rw [show (cs.toArray.setIfInBounds (off + k) x) = (cs.set (off + k) x).toArray by simp]
    rw [foldl_set off m (k + 1) (cs.set (off + k) x) (by simp at h ⊢; omega)]
    apply List.ext_getElem?
    intro i
    simp only [List.length_cons] at h
    simp only [List.getElem?_append, List.getElem?_take, List.getElem?_drop, List.getElem?_set, List.length_take, List.length_append, List.length_set, List.length_cons, List.getElem?_cons]
    repeat' split
    all_goals first | rfl | omega | (simp_all; omega) | skip
    all_goals (first | (congr 1; omega) | simp_all)

theorem lay_spec {place : Nat → Option (Nat × Nat)} : ∀ {l l' : List AS} {ps : List (Nat × AV)} {vs : List (Nat × Value)} {ds : List Value}, lay place l ps = some l' → All2 (ARep σ β) l ds →
    All2 (fun (p : Nat × AV) (q : Nat × Value) => p.1 = q.1 ∧ VRep σ β p.2 q.2) ps vs → ∃ ds', Instr.fill place ds.toArray vs = some ds'.toArray ∧ All2 (ARep σ β) l' ds'
  | l, l', [], [], ds, h, hr, _ => by cases h; exact ⟨ds, rfl, hr⟩
  | l, l', (i, v) :: ps, (j, u) :: vs, ds, h, hr, hv => by
    obtain ⟨⟨rfl, hu⟩, hv⟩ := hv
    simp only [lay] at h
    split at h
    · rename_i m off size hm hp
      split at h
      · rename_i hs hle
        have hs := Nat.eq_of_beq_eq_true hs
        have hle := Nat.le_of_ble_eq_true hle
        have hf := flat_rep hu hm
        have hlen : u.cells.toList.length = m.length := hf.length.symm
        have hsz : u.cells.size = m.length := by simpa using hlen
        have hov : All2 (ARep σ β) (overlay l off m) (ds.take off ++ u.cells.toList ++ ds.drop (off + u.cells.toList.length)) := by
          unfold overlay
          rw [hlen]
          exact ((hr.take _).append hf).append (hr.drop _)
        obtain ⟨ds', h1, h2⟩ := lay_spec h hov hv
        refine ⟨ds', ?_, h2⟩
        simp only [Instr.fill, hp]
        have hdl : ds.length = l.length := hr.length.symm
        rw [if_neg (by simp [hsz, hs, hdl]; omega)]
        have := foldl_set off u.cells.toList 0 ds (by rw [hlen, hdl]; omega)
        rw [← h1]
        congr 1
        apply Array.ext'
        rw [show (u.cells.zipIdx.foldl (fun cs x => cs.setIfInBounds (off + x.2) x.1) ds.toArray) = ((u.cells.toList.zipIdx 0).foldl (fun (cs : Array Value) (p : Value × Nat) => cs.setIfInBounds (off + p.2) p.1) ds.toArray) by
          rw [← Array.foldl_toList]; simp]
        rw [this]; simp
      · contradiction
    · contradiction
  | _, _, [], _ :: _, _, _, _, h => h.elim
  | _, _, _ :: _, [], _, _, _, h => h.elim

theorem Tab.has_of {t : TypeId} (h : T.has t = true) : ∃ ti, lget T.ty t = some ti := by
  unfold Tab.has at h
  split at h
  · rename_i ti e; exact ⟨ti, e⟩
  · cases h

theorem places_of (hT : TabOk P T) : ∀ {fs : List Field}, fs.all (fun f => T.has f.type) = true →
    fs.mapM (fun f => (P.info? f.type).map fun i => (f.offset, i.size)) = some (fs.map fun f => (f.offset, T.sizeOf f.type))
  | [], _ => rfl
  | f :: fs, h => by
    simp only [List.all_cons, Bool.and_eq_true] at h
    obtain ⟨ti, e⟩ := Tab.has_of h.1
    obtain ⟨i, _, hi, hs, _⟩ := (hT _ _ e).get
    rw [List.mapM_cons, places_of hT h.2]
    simp [hi, Tab.sizeOf, e, hs]

theorem cBuild_sound (hT : TabOk P T) {t : TypeId} {ps : List (Nat × AV)} {vs : Array (Nat × Value)} (hv : All2 (fun (p : Nat × AV) (q : Nat × Value) => p.1 = q.1 ∧ VRep σ β p.2 q.2) ps vs.toList) :
    Snd P σ β w (cBuild T t ps) (Instr.build t vs) := by
  unfold cBuild
  split
  · rename_i ti hti
    have ht := hT _ _ hti
    obtain ⟨i, z, hi, hs, hb, hz, hzl⟩ := ht.get
    have hz0 : All2 (ARep σ β) ti.zero z.cells.toList := by rw [hzl]; exact zero_rep ht.zok
    split
    · rename_i fs hd
      split
      · rename_i l hl hall
        obtain ⟨ds', h1, h2⟩ := lay_spec hl hz0 hv
        refine Snd.pure ⟨_, run_build w t vs ds'.toArray ?_, ds', rfl, h2⟩
        unfold Program.built
        rw [hi, ht.und, hd]
        simp only [hz, places_of hT hall]
        rw [← h1]
        congr 1
        funext i
        simp only [List.getElem?_toArray, List.getElem?_map]
        cases fs.toList[i]? <;> rfl
      · exact Snd.none
    · rename_i n u hd
      split
      · rename_i l hl hu
        obtain ⟨ui, e⟩ := Tab.has_of hu
        obtain ⟨iu, _, hiu, hsu, _⟩ := (hT _ _ e).get
        obtain ⟨ds', h1, h2⟩ := lay_spec hl hz0 hv
        refine Snd.pure ⟨_, run_build w t vs ds'.toArray ?_, ds', rfl, h2⟩
        unfold Program.built
        rw [hi, ht.und, hd]
        simp only [hz, hiu]
        rw [← h1]
        simp [Tab.sizeOf, e, hsu]
      · exact Snd.none
    · exact Snd.none
  · exact Snd.none

theorem cells_at (hm : Mem σ β hp w) {b o : Nat} {ds : List Value} (h : CellsAt σ b o ds) (j : Nat) (d : Value) (hj : ds[j]? = some d) : w.cell? ⟨b, o + j, none⟩ = some d := by
  obtain ⟨c, u, fz, e, r⟩ := h
  rw [cell_of_cells (hm.ag _ _ e)]
  exact r j d hj

theorem loadAt_run {t : TypeId} {b o : Nat} : (Instr.loadAt t (.pointer (some ⟨b, o, none⟩))).run P w = (loadVar t ⟨b, o, none⟩).run P w := by
  simp [Instr.loadAt, Instr.sureAddr]

/-- A load of cells that stand for a list of abstract cells. -/
theorem load_part {t : TypeId} {ti : TI} (ht : TyOk P t ti) (h1 : isAggD ti.desc = false → ti.size = 1) {l : List AS} {ds : List Value} (hr : All2 (ARep σ β) l ds) {b o k : Nat} (hk : k + ti.size ≤ l.length)
    (hc : ∀ (j : Nat) (d : Value), ds[j]? = some d → w.cell? ⟨b, o + j, none⟩ = some d) :
    ∃ val, (Instr.loadAt t (.pointer (some ⟨b, o + k, none⟩))).run P w = .ok val w ∧ VRep σ β (part (isAggD ti.desc) l k ti.size) val := by
  have hlen := hr.length
  obtain ⟨val, e1, e2, e3⟩ := run_loadVar_cells (w := w) ht (b := b) (o := o + k) (ds := (ds.drop k).take ti.size) (by simp; omega) (fun j d hj => by
    rw [List.getElem?_take] at hj
    split at hj
    · rw [List.getElem?_drop] at hj; rw [Nat.add_assoc]; exact hc _ _ hj
    · cases hj) h1
  exact ⟨val, by rw [loadAt_run]; exact e1, part_rep hr hk h1 e2 e3⟩

theorem allK_spec {k : IntKind} : ∀ {l : List AS} {ns : List Int} {ds : List Value}, allK k l = some ns → All2 (ARep σ β) l ds → ns.length = l.length ∧ ds.length = l.length ∧
    ∀ i, i < l.length → ds[i]? = some (.int k (ns.getD i 0)) ∧ InK k (ns.getD i 0)
  | [], ns, ds, h, hr => by cases h; obtain rfl := hr.len_nil; simp
  | .int k' n :: r, ns, d :: ds, h, hr => by
    simp only [allK] at h
    split at h
    · rename_i l' hk' hl'
      cases h
      have hk' := of_decide_eq_true hk'
      subst hk'
      obtain ⟨h1, h2, h3⟩ := allK_spec hl' hr.2
      refine ⟨by simp [h1], by simp [h2], fun i hi => ?_⟩
      cases i with
      | zero => obtain ⟨rfl, hk⟩ := hr.1; simp [hk]
      | succ i => simpa using h3 i (by simpa using hi)
    · contradiction
  | .int _ _ :: _, _, [], _, hr => hr.elim
theorem loadInts_spec {d : TypeDesc} {l : List AS} {k : IntKind} {ns : List Int} (h : loadInts d l = some (k, ns)) : isAggD d = false ∧ allK k l = some ns := by
  unfold loadInts at h
  split at h
  · split at h
    · rename_i e; cases h; exact ⟨rfl, e⟩
    · cases h
  · cases h
/-- A load of one number among numbers. -/
theorem load_int (hO : TabOne T) (hT : TabOk P T) {t : TypeId} {ti : TI} (hti : T.info t = some ti) {l : List AS} {k : IntKind} {ns : List Int} (hli : loadInts ti.desc l = some (k, ns)) {ds : List Value} (hr : All2 (ARep σ β) l ds) {b o j : Nat} (hj : j < l.length)
    (hc : ∀ (j : Nat) (d : Value), ds[j]? = some d → w.cell? ⟨b, o + j, none⟩ = some d) :
    ∃ val, (Instr.loadAt t (.pointer (some ⟨b, o + j, none⟩))).run P w = .ok val w ∧ ARep σ β (.int k (ns.getD j 0)) val := by
  obtain ⟨hag, hns⟩ := loadInts_spec hli
  obtain ⟨h1, h2, h3⟩ := allK_spec hns hr
  obtain ⟨e1, e2⟩ := h3 j hj
  have hs := hO _ _ hti hag
  obtain ⟨val, f1, f2, f3⟩ := run_loadVar_cells (w := w) (hT _ _ hti) (b := b) (o := o + j) (ds := [.int k (ns.getD j 0)]) (by rw [hs]; rfl) (fun i d hi => by
    cases i with
    | zero => simp at hi; subst hi; exact hc _ _ e1
    | succ i => simp at hi) (fun _ => hs)
  have := f3 hag
  obtain rfl := (List.cons.inj this).1
  exact ⟨_, by rw [loadAt_run]; exact f1, rfl, e2⟩

theorem ERep.cells_length {e : ETy} {x : e.T} : (e.cells x).length = e.size := by
  induction e with
  | pair a b iha ihb => simp [ETy.cells, ETy.size, iha, ihb]
  | _ => rfl

theorem cLoad_sound (hT : TabOk P T) (hO : TabOne T) (hm : Mem σ β hp w) {t : TypeId} {a : AV} {x : Value} (ha : VRep σ β a x) : Snd P σ β w (cLoad T t hp a) (Instr.loadAt t x) := by
  unfold cLoad
  split
  · rename_i s ti hti
    have ht := hT _ _ hti
    have h1 := hO _ _ hti
    have hx : ARep σ β s x := ha
    split
    · obtain ⟨b, o, d, rfl, he, hc⟩ := hx
      exact Snd.fitting fun hle => load_part ht h1 (he.cells (β := β)) (by rw [ERep.cells_length]; exact hle) (cells_at hm hc)
    · obtain ⟨b, o, d, e1, he, hc⟩ := hx
      obtain rfl := (List.cons.inj e1).1
      exact Snd.fitting fun hle => load_part (k := 0) ht h1 (he.cells (β := β)) (by rw [ERep.cells_length]; omega) (cells_at hm hc)
    · split
      · rename_i k ns hns
        obtain ⟨b, o, d, rfl, he, hc, hj⟩ := hx
        exact Snd.ok (load_int hO hT hti hns (he.cells (β := β)) (by rw [ERep.cells_length]; exact hj) (cells_at hm hc))
      · exact Snd.none
    · split
      · rename_i e u xs hid
        obtain ⟨p, hp', rfl, hi⟩ := hx
        have := hm.ob _ _ hid
        obtain ⟨_, this⟩ := this
        simp only [hp'] at this
        obtain ⟨q1, q2, q3, c, q4, q5, q6⟩ := this
        obtain ⟨y, hy⟩ := exists_get (l := xs) (q2 ▸ hi)
        obtain ⟨d, he, hc⟩ := q6 _ _ hy
        rw [getD_of hy]
        exact Snd.fitting fun hle => load_part ht h1 (he.cells (β := β)) (by rw [ERep.cells_length]; exact hle) (fun j d hj => by rw [cell_of_cells q4]; exact hc j d hj)
      · rename_i u cs hid
        split
        · obtain ⟨p, hp', rfl, hi⟩ := hx
          obtain ⟨p2, q0, q1, q2, q3, q4, c, q5, q6⟩ := hm.ob _ _ hid
          rw [hp'] at q0; cases q0
          refine Snd.fitting fun hle => ?_
          have := load_part (w := w) (b := p.b) (o := 0) ht h1 q6 hle (fun j d hj => by rw [cell_of_cells q5]; simpa using hj)
          simpa [q1] using this
        · exact Snd.none
      · exact Snd.none
    · split
      · rename_i e u xs hid
        split
        · rename_i k ns hns
          obtain ⟨p, hp', rfl, hi, hj⟩ := hx
          have := hm.ob _ _ hid
          obtain ⟨_, this⟩ := this
          simp only [hp'] at this
          obtain ⟨q1, q2, q3, c, q4, q5, q6⟩ := this
          obtain ⟨y, hy⟩ := exists_get (l := xs) (q2 ▸ hi)
          obtain ⟨d, he, hc⟩ := q6 _ _ hy
          rw [getD_of hy] at hns
          exact Snd.ok (load_int hO hT hti hns (he.cells (β := β)) (by rw [ERep.cells_length]; omega) (fun j d hj => by rw [cell_of_cells q4]; exact hc j d hj))
        · exact Snd.none
      · rename_i u cs hid
        split
        · rename_i k ns hns
          obtain ⟨p, hp', rfl, hi, hj⟩ := hx
          obtain ⟨p2, q0, q1, q2, q3, q4, c, q5, q6⟩ := hm.ob _ _ hid
          rw [hp'] at q0; cases q0
          have := load_int (w := w) (b := p.b) (o := 0) hO hT hti hns q6 (j := _) (by rw [← q2]; exact hj) (fun j d hj => by rw [cell_of_cells q5]; simpa using hj)
          exact Snd.ok (by simpa [q1] using this)
        · exact Snd.none
      · exact Snd.none
    · exact Snd.none
  · exact Snd.none
end
end Go.Vm
