/- Appending to what the function owns. -/
import Derived.Test.YtkkhoppffmnkiaaVmEff
set_option linter.unusedSimpArgs false
set_option linter.unusedVariables false
namespace Go.Vm
open Go.RowKit

section
variable {P : Program} {B : Base} {w : World} {σ : Sig} {β : Places} {st : St} {tmps : Array Value} {T : Tab} {o : Oper} {ρ : Operand → Value}

theorem ARep.kill {id : Nat} {q : Option Bk} {a : AS} {v : Value} (h : ARep σ β a v) : ARep σ (β.set id q) (Vm.kill id a) v := by
  have key : ∀ {i : Nat}, Nat.beq i id = false → (β.set id q)[i]? = β[i]? := fun {i} hi => by
    rw [List.getElem?_set_ne]; rintro rfl; simp [Nat.beq_refl] at hi
  cases a with
  | own i s n =>
    simp only [Vm.kill]
    split
    · trivial
    · rename_i hi; simp only [ARep, key hi]; exact h
  | ptr i j k =>
    simp only [Vm.kill]
    split
    · trivial
    · rename_i hi; obtain ⟨p, h1, h2⟩ := h; exact ⟨p, by rw [key hi]; exact h1, h2⟩
  | pti i j k =>
    simp only [Vm.kill]
    split
    · trivial
    · rename_i hi; obtain ⟨p, h1, h2⟩ := h; exact ⟨p, by rw [key hi]; exact h1, h2⟩
  | omp i =>
    simp only [Vm.kill]
    split
    · trivial
    · rename_i hi; obtain ⟨p, h1, h2⟩ := h; exact ⟨p, by rw [key hi]; exact h1, h2⟩
  | _ => exact h

theorem VRep.map1 {τ : Sig} {γ : Places} {f : AS → AS} (hf : ∀ a v, ARep σ β a v → ARep τ γ (f a) v) {a : AV} {v : Value} (h : VRep σ β a v) : VRep τ γ (a.map1 f) v := by
  cases a with
  | s a => exact hf _ _ h
  | agg l => obtain ⟨ds, e, r⟩ := h; exact ⟨ds, e, r.map f hf⟩
  | tup l => trivial

theorem VReps.map1 {τ : Sig} {γ : Places} {f : AS → AS} (hf : ∀ a v, ARep σ β a v → ARep τ γ (f a) v) : ∀ {l : List AV} {m : List Value}, VReps σ β l m → VReps τ γ (l.map (AV.map1 f)) m
  | [], [], _ => trivial
  | _ :: _, _ :: _, h => ⟨VRep.map1 hf h.1, VReps.map1 hf h.2⟩
  | [], _ :: _, h => h.elim
  | _ :: _, [], h => h.elim

theorem VRep.mapAS {τ : Sig} {γ : Places} {f : AS → AS} (hf : ∀ a v, ARep σ β a v → ARep τ γ (f a) v) {a : AV} {v : Value} (h : VRep σ β a v) : VRep τ γ (a.mapAS f) v := by
  cases a with
  | s a => exact hf _ _ h
  | agg l => obtain ⟨ds, e, r⟩ := h; exact ⟨ds, e, r.map f hf⟩
  | tup l => obtain ⟨vs, e, r⟩ := h; exact ⟨vs, e, r.map1 hf⟩

theorem eget_mapAS (f : AS → AS) (hj : f .junk = .junk) : ∀ (env : Env) (t : Nat), eget (env.mapAS f) t = (eget env t).mapAS f
  | [], t => by simp [Env.mapAS, eget, AV.mapAS, hj]
  | (k, v) :: r, t => by
    simp only [Env.mapAS, eget_cons]
    split
    · rfl
    · exact eget_mapAS f hj r t

theorem hget_mapAS (f : AS → AS) : ∀ (hp : Heap) (i : Nat), hget (hp.mapAS f) i = (hget hp i).map (Ob.mapAS f)
  | [], i => rfl
  | (k, v) :: r, i => by
    simp only [Heap.mapAS, hget_cons]
    split
    · rfl
    · exact hget_mapAS f r i

theorem hget_hset {l : Heap} {id i : Nat} {ob' : Ob} (hx : ∃ o, hget l id = some o) : hget (hset l id ob') i = if i = id then some ob' else hget l i := by
  induction l with
  | nil => obtain ⟨o, e⟩ := hx; cases e
  | cons x r ih =>
    obtain ⟨k, v⟩ := x
    obtain ⟨o, e⟩ := hx
    simp only [hset]
    cases hk : Nat.beq k id with
    | true =>
      have := Nat.eq_of_beq_eq_true hk
      subst this
      simp only [hget_cons]
      by_cases e : i = k
      · subst e; simp
      · rw [if_neg (Ne.symm e), if_neg (Ne.symm e), if_neg e]
    | false =>
      have hne : k ≠ id := by intro e; subst e; simp [Nat.beq_refl] at hk
      simp only [hget_cons] at e ⊢
      rw [if_neg hne] at e
      rw [ih ⟨o, e⟩]
      by_cases e1 : k = i
      · subst e1; simp [hne]
      · simp [e1]

theorem ObAt.killed {w' : World} {id i : Nat} {q : Option Bk} {ob : Ob} (hne : i ≠ id) (h : ObAt σ β w i ob) (hk : ∀ p, β[i]? = some (some p) → w'.heap[p.b]? = w.heap[p.b]?) : ObAt σ (β.set id q) w' i (ob.mapAS (Vm.kill id)) := by
  have key : (β.set id q)[i]? = β[i]? := by rw [List.getElem?_set_ne (Ne.symm hne)]
  cases ob with
  | row e T xs =>
    obtain ⟨h0, h⟩ := h
    refine ⟨h0, ?_⟩
    rw [key]
    cases hβ : β[i]? with
    | none => simp [hβ] at h
    | some x =>
      cases x with
      | none => simpa [hβ] using h
      | some p =>
        simp only [hβ] at h ⊢
        obtain ⟨h1, h2, h3, c, h4, h5⟩ := h
        exact ⟨h1, h2, h3, c, by rw [hk p hβ]; exact h4, h5⟩
  | flat T cs =>
    obtain ⟨p, h1, h2, h3, h4, h5, c, h6, h7⟩ := h
    exact ⟨p, by rw [key]; exact h1, h2, by simpa using h3, h4, by simpa using h5, c, by rw [hk p h1]; exact h6, h7.map (Vm.kill id) fun _ _ h => h.kill⟩
  | map k v m =>
    obtain ⟨h0, p, es, clock, h1, h2, h3⟩ := h
    exact ⟨h0, p, es, clock, by rw [key]; exact h1, by rw [hk p h1]; exact h2, h3⟩

/-- An owned thing takes another place, or grows where it is. -/
theorem GG.replace (h : GG B σ β st tmps w) {id : Nat} {ob ob' : Ob} (hi : hget st.hp id = some ob) {q : Option Bk} {w' : World}
    (hw : ∀ k, k < w.heap.size → (∀ p, β[id]? = some (some p) → k ≠ p.b) → w'.heap[k]? = w.heap[k]?) (hb : Below B.w.heap.size w w')
    (ho : ObAt σ (β.set id q) w' id ob') (hq : ∀ p', q = some p' → p'.b = w.heap.size ∨ ∃ p, β[id]? = some (some p) ∧ p'.b = p.b) :
    GG B σ (β.set id q) { env := st.env.mapAS (kill id), hp := hset (st.hp.mapAS (kill id)) id ob', next := st.next } tmps w' := by
  have hlt := h.id_lt hi
  have hex : ∃ o, hget (st.hp.mapAS (kill id)) id = some o := by rw [hget_mapAS, hi]; exact ⟨_, rfl⟩
  have hat : (β.set id q)[id]? = some q := by rw [List.getElem?_set_self]; rw [h.len]; exact hlt
  have hof : ∀ {i : Nat}, i ≠ id → (β.set id q)[i]? = β[i]? := fun hne => by rw [List.getElem?_set_ne (Ne.symm hne)]
  have hsig : ∀ b o, σ b = some o → b < w.heap.size := fun b o e => (Array.getElem?_eq_some_iff.1 (h.mem.ag _ _ e)).1
  have old : ∀ {i : Nat} {ob2 : Ob}, i ≠ id → (hget st.hp i).map (Ob.mapAS (kill id)) = some ob2 → ∃ ob1, hget st.hp i = some ob1 ∧ ob2 = ob1.mapAS (kill id) := by
    intro i ob2 _ e
    cases e1 : hget st.hp i with
    | none => rw [e1] at e; cases e
    | some ob1 => rw [e1] at e; cases e; exact ⟨ob1, rfl, rfl⟩
  refine ⟨⟨fun b o e => ?_, fun i ob2 hi2 => ?_⟩, fun t => ?_, by simpa using h.len, fun i ob2 p hi2 hp2 => ?_, h.bel.trans hb, h.grew⟩
  · rw [hw b (hsig b o e) (fun p hp => by
      have := (h.sep _ _ _ hi hp).1
      rintro rfl; rw [this] at e; cases e)]
    exact h.mem.ag _ _ e
  · simp only [hget_hset hex] at hi2
    split at hi2
    · rename_i e; subst e; cases hi2; exact ho
    · rename_i hne
      rw [hget_mapAS] at hi2
      obtain ⟨ob1, e1, rfl⟩ := old hne hi2
      have hob := h.mem.ob _ _ e1
      exact hob.killed hne fun p hp => hw _ (hob.lt hp) fun p' hp' => (h.sep _ _ _ hi hp').2.2 _ _ _ hne e1 hp
  · rw [eget_mapAS _ rfl]
    exact (h.env t).mapAS fun _ _ => ARep.kill
  · simp only [hget_hset hex] at hi2
    split at hi2
    · rename_i e; subst e
      rw [hat] at hp2; cases hp2
      have other : ∀ (id' : Nat) (ob'' : Ob) (p' : Bk), id' ≠ i → hget (hset (st.hp.mapAS (kill i)) i ob') id' = some ob'' → (β.set i (some p))[id']? = some (some p') → p'.b ≠ p.b := by
        intro id' ob'' p' hne hi' hp'
        simp only [hget_hset hex, if_neg hne, hget_mapAS] at hi'
        obtain ⟨ob1, e1, rfl⟩ := old hne hi'
        rw [hof hne] at hp'
        have hob := h.mem.ob _ _ e1
        rcases hq p rfl with hq | ⟨p0, hp0, hq⟩
        · have := hob.lt hp'; omega
        · rw [hq]; exact (h.sep _ _ _ hi hp0).2.2 _ _ _ hne e1 hp'
      rcases hq p rfl with hq | ⟨p0, hp0, hq⟩
      · refine ⟨?_, by rw [hq]; exact h.bel.size, other⟩
        cases e : σ p.b with
        | none => rfl
        | some o => have := hsig _ _ e; omega
      · obtain ⟨s1, s2, s3⟩ := h.sep _ _ _ hi hp0
        exact ⟨by rw [hq]; exact s1, by rw [hq]; exact s2, other⟩
    · rename_i hne
      rw [hget_mapAS] at hi2
      obtain ⟨ob1, e1, rfl⟩ := old hne hi2
      rw [hof hne] at hp2
      obtain ⟨t1, t2, t3⟩ := h.sep _ _ _ e1 hp2
      refine ⟨t1, t2, fun id' ob'' p' hne2 hi' hp' => ?_⟩
      simp only [hget_hset hex] at hi'
      split at hi'
      · rename_i e; subst e
        rw [hat] at hp'; cases hp'
        have hob := h.mem.ob _ _ e1
        rcases hq p' rfl with hq | ⟨p0, hp0, hq⟩
        · have := hob.lt hp2; omega
        · rw [hq]; exact t3 _ _ _ hne2 hi hp0
      · rename_i hne3
        rw [hget_mapAS] at hi'
        obtain ⟨ob3, e3, rfl⟩ := old hne3 hi'
        rw [hof hne3] at hp'
        exact t3 _ _ _ hne2 e3 hp'

theorem run_append_room_off {t ty u : TypeId} {i : TypeInfo} (ht : P.underlying t = some (.slice u)) (hi : P.info? u = some i)
    {g off sLen sCap : Nat} {cur : Array Value} {e : TypeId} (hg : w.heap[g]? = some (.cells cur e (0, 0)))
    {a : Addr} {m c : Nat} {news : List Value} (hl : news.length = m * i.size) (hnews : ∀ j u, news[j]? = some u → w.cell? (a.add j) = some u) (h1 : ∀ u ∈ news, u.oneCell' = true)
    (hroom : sLen + m ≤ sCap) (hfit : off + sLen * i.size + news.length ≤ cur.size) :
    (Builtin.append_ #[t, t] ty #[.slice (some ⟨g, off, none⟩) sLen sCap, .slice (some a) m c]).run P w =
      .ok (.slice (some ⟨g, off, none⟩) (sLen + m) sCap) (w.setRow g (cur.toList.take (off + sLen * i.size) ++ news ++ cur.toList.drop (off + sLen * i.size + news.length)).toArray) := by
  have hf := run_firstCells_some (P := P) w i.size m a m c news hl hnews
  have hst := run_storeCells_at P g (off + sLen * i.size) e news 0 cur w hg (by simpa using hfit) h1
  simp only [Nat.add_zero] at hst
  simp [Builtin.append_, run_underlying ht, sizeOf, typeInfo, hi, Builtin.lenOf, hroom, hf, Addr.add_none, hst]

theorem run_append_none {t ty u : TypeId} {i : TypeInfo} (ht : P.underlying t = some (.slice u)) (hi : P.info? u = some i) {b ao : Option Addr} {n cap c : Nat} (hc : n ≤ cap) :
    (Builtin.append_ #[t, t] ty #[.slice b n cap, .slice ao 0 c]).run P w = .ok (.slice b n cap) w := by
  have hf : (Builtin.firstCells i.size 0 (.slice ao 0 c)).run P w = .ok #[] w := by
    cases ao <;> simp [Builtin.firstCells, loadCells, loadCellsFrom]
  cases b with
  | none => simp [Builtin.append_, run_underlying ht, sizeOf, typeInfo, hi, Builtin.lenOf, hc, hf]
  | some b => simp [Builtin.append_, run_underlying ht, sizeOf, typeInfo, hi, Builtin.lenOf, hc, hf, storeCells]

/-- What is appended, as cells. -/
theorem src_cells (h : Mem σ β st.hp w) {a : AV} {x : Value} (ha : VRep σ β a x) {e : ETy} {ys : List e.T} (hv : a.view st.hp = .s (.sl e ys)) :
    ∃ ao c, x = .slice ao ys.length c ∧ ys.length ≤ 140737488355328 ∧ (ys ≠ [] → ∃ ad, ao = some ad ∧ ∃ dss, All2 (ERep σ e) ys dss ∧ ∀ (j : Nat) (u : Value), dss.flatten[j]? = some u → w.cell? (ad.add j) = some u) := by
  cases a with
  | tup l => simp [AV.view] at hv
  | agg l => simp [AV.view] at hv
  | s a =>
    simp only [AV.view, AV.s.injEq] at hv
    have stable : ∀ {x : Value}, ARep σ β (.sl e ys) x → ∃ ao c, x = .slice ao ys.length c ∧ ys.length ≤ 140737488355328 ∧ (ys ≠ [] → ∃ ad, ao = some ad ∧ ∃ dss, All2 (ERep σ e) ys dss ∧ ∀ (j : Nat) (u : Value), dss.flatten[j]? = some u → w.cell? (ad.add j) = some u) := by
      intro x hx
      obtain ⟨ao, c, e1, h1, h2, h3⟩ := hx
      refine ⟨ao, c, (List.cons.inj e1).1, h1, fun hne => ?_⟩
      obtain ⟨b, o, rfl, h4⟩ := h3 hne
      obtain ⟨dss, h5, h6⟩ := rows_flat (σ := σ) (look := fun k => w.cell? ⟨b, k, none⟩) (k := o) (fun i y hy => by
        obtain ⟨d, h7, h8⟩ := h4 i y hy
        exact ⟨d, h7, fun j u hu => cells_at h h8 j u hu⟩)
      exact ⟨_, rfl, dss, h5, fun j u hu => by rw [Addr.add_none]; exact h6 j u hu⟩
    cases a with
    | sl e' xs => simp only [view] at hv; cases hv; exact stable ha
    | own id s n =>
      simp only [view] at hv
      split at hv
      · rename_i e' u xs hid
        cases hv
        have hob := h.ob _ _ hid
        obtain ⟨hl, hob⟩ := hob
        have hx : ARep σ β (.own id s n) x := ha
        simp only [ARep] at hx
        cases hβ : β[id]? with
        | none => simp [hβ] at hx
        | some q =>
          cases q with
          | none =>
            simp only [hβ] at hx hob
            obtain ⟨rfl, rfl, rfl⟩ := hx
            subst hob
            exact ⟨none, 0, rfl, by simp, fun h => (h rfl).elim⟩
          | some p =>
            simp only [hβ] at hx hob
            obtain ⟨ad, cap, rfl, h1, h2, h3, h4⟩ := hx
            obtain ⟨q1, q2, q3, c, q4, q5, q6⟩ := hob
            have hlen : ((xs.drop s).take n).length = n := by simp; omega
            refine ⟨some ad, cap, by rw [hlen], by omega, fun hne => ?_⟩
            have hn : n ≠ 0 := by
              rintro rfl; simp at hne
            obtain rfl : ad = _ := h2.resolve_left (by omega)
            obtain ⟨dss, h5, h6⟩ := rows_flat (σ := σ) (e := e) (xs := (xs.drop s).take n) (look := fun k => w.cell? ⟨p.b, k, none⟩) (k := p.o + s * p.sz) (fun i y hy => by
              have hy' : xs[s + i]? = some y := by
                rw [List.getElem?_take] at hy
                split at hy
                · rw [List.getElem?_drop] at hy; exact hy
                · cases hy
              obtain ⟨d, h7, h8⟩ := q6 _ _ hy'
              refine ⟨d, h7, fun j u hu => ?_⟩
              rw [cell_of_cells q4, ← q1, Nat.add_assoc p.o, ← Nat.add_mul]
              exact h8 j u hu)
            exact ⟨_, rfl, dss, h5, fun j u hu => by rw [Addr.add_none]; exact h6 j u hu⟩
      · cases hv
    | ptr i j k =>
      cases k with
      | zero => simp only [view] at hv; split at hv <;> cases hv
      | succ k => simp [view] at hv
    | pti i j k => simp [view] at hv
    | omp id => simp only [view] at hv; split at hv <;> cases hv
    | _ => simp [view] at hv

theorem flat_one {e : ETy} : ∀ {xs : List e.T} {dss : List (List Value)}, All2 (ERep σ e) xs dss → ∀ u ∈ dss.flatten, u.oneCell' = true
  | [], [], _ => by simp
  | _ :: _, _ :: _, h => by
    intro u hu
    simp only [List.flatten_cons, List.mem_append] at hu
    rcases hu with hu | hu
    · exact h.1.one u hu
    · exact flat_one h.2 u hu
  | [], _ :: _, h => h.elim
  | _ :: _, [], h => h.elim

theorem eAppend_sound (hT : TabOk P T) (h : GG B σ β st tmps w) (hd : dstOk o.dst tmps) {x y : Operand} {ts : Array TypeId} (ho : o.op = .call { callee := .builtin .append, args := #[x, y], argTypes := ts })
    {a b : AV} (ha : VRep σ β a (ρ x)) (hb : VRep σ β b (ρ y)) {p q : Option Prop} {st' : St} (he : eAppend T ts.toList a b st o.dst = some (p, q, st')) : Opt p ∧ (Opt q → Done P B o ρ st' tmps w) := by
  unfold eAppend at he
  split at he
  case h_2 => cases he
  rename_i t t' id s n e' ys hts hbv
  split at he
  case h_2 => cases he
  rename_i u' e u xs htt hdc hid
  split at he
  case h_2 => cases he
  rename_i hee ui hdec huu hui
  subst hee
  split at he
  case h_2 => cases he
  rename_i hbz hsz hsz0
  cases he
  refine ⟨trivial, fun hreq => ?_⟩
  have hreq : ((n : Int) + ys.length) * ui.bytes ≤ 140737488355328 := hreq
  obtain rfl := Nat.eq_of_beq_eq_true htt
  obtain rfl := Nat.eq_of_beq_eq_true huu
  have hsz := Nat.eq_of_beq_eq_true hsz
  have hsz0 : ui.size ≠ 0 := by intro e; rw [e] at hsz0; cases hsz0
  have hbz : ui.bytes ≠ 0 := by intro e; rw [e] at hbz; cases hbz
  have htt : ts = #[t, t] := by rw [← Array.toArray_toList (xs := ts), hts]
  subst htt
  obtain ⟨i, z, hi, hsi, hbi, hzz, hzl⟩ := (hT _ _ hui).get
  have hzs : z.cells.size = i.size := by rw [hsi, ← (hT _ _ hui).zlen, ← hzl]; simp
  have hund := hT.und hdc (by simp)
  obtain ⟨ao, c, hy, hyl, hyc⟩ := src_cells h.mem hb hbv
  have hob := h.mem.ob _ _ hid
  obtain ⟨hxl, hob⟩ := hob
  have hx : ARep σ β (.own id s n) (ρ x) := ha
  have hreqN : (n + ys.length) * ui.bytes ≤ 140737488355328 := by
    have : (((n + ys.length) * ui.bytes : Nat) : Int) ≤ 140737488355328 := by push_cast; exact hreq
    omega
  have hlen63 : n + ys.length ≤ 140737488355328 := Nat.le_trans (Nat.le_mul_of_pos_right _ (by omega)) hreqN
  have hlt : id < β.length := by rw [h.len]; exact h.id_lt hid
  have exec : ∀ {v' : Value} {w' : World}, (Builtin.append_ #[t, t] o.type #[ρ x, ρ y]).run P w = .ok v' w' → (execOp ρ o).run P w = .ok (.value v') w' := by
    intro v' w' hr
    simp [execOp, ho, resolve, invoke, builtin, hr]
  -- the new thing, once its place and cells are known
  have fin : ∀ {q : Option Bk} {v' : Value} {w' : World}, (execOp ρ o).run P w = .ok (.value v') w' →
      (∀ k, k < w.heap.size → (∀ p, β[id]? = some (some p) → k ≠ p.b) → w'.heap[k]? = w.heap[k]?) → Below B.w.heap.size w w' →
      (∀ p', q = some p' → p'.b = w.heap.size ∨ ∃ p, β[id]? = some (some p) ∧ p'.b = p.b) →
      ObAt σ (β.set id q) w' id (.row e' u ((xs.drop s).take n ++ ys)) → ARep σ (β.set id q) (.own id 0 (n + ys.length)) v' →
      Done P B o ρ (({ env := st.env.mapAS (kill id), hp := hset (st.hp.mapAS (kill id)) id (.row e' u ((xs.drop s).take n ++ ys)), next := st.next } : St).put o.dst (.s (.own id 0 (n + ys.length)))) tmps w := by
    intro q v' w' hr hw hbw hq hob' hv'
    exact ⟨v', w', σ, _, .inl hr, (h.replace hid hw hbw hob' hq).put hd hv'⟩
  have hzl' : ((xs.drop s).take n ++ ys).length ≤ 140737488355328 := by
    have : ((xs.drop s).take n).length ≤ n := List.length_take_le _ _
    simp only [List.length_append]; omega
  simp only [ARep] at hx
  cases hβ : β[id]? with
  | none => simp [hβ] at hx
  | some q0 =>
    cases q0 with
    | none =>
      simp only [hβ] at hx hob
      obtain ⟨hx, rfl, rfl⟩ := hx
      subst hob
      by_cases hye : ys = []
      · subst hye
        refine fin (q := none) (exec (by rw [hx, hy]; exact run_append_none hund hi (Nat.le_refl 0))) (fun _ _ _ => rfl) (Below.refl _ _) (by rintro p' ⟨⟩) ?_ ?_
        · refine ⟨by simp, ?_⟩
          rw [List.getElem?_set_self hlt]
          simp
        · simp only [ARep]
          rw [List.getElem?_set_self hlt]
          simp
      · obtain ⟨ad, rfl, dss, hd1, hd2⟩ := hyc hye
        have hfl := flat_length hd1
        have hpos : 0 < ys.length := List.length_pos_iff.2 hye
        have hr := run_append_nil (P := P) w t o.type u i z hund hi hzz ad ys.length c dss.flatten (by rw [hfl, hsi, hsz]) hd2 hpos (by omega) (by rw [hbi]; simp only [Nat.zero_add] at hreqN; omega)
        have hge := grownCap_ge w ys.length 0 u
        refine fin (q := some ⟨w.heap.size, 0, e'.size, grownCap w ys.length 0 u * e'.size, ys.length⟩) (exec (by rw [hx, hy]; exact hr)) (fun k hk _ => Go.heap_alloc_old w.drew _ (by simpa using hk)) ?_ (by rintro p' ⟨⟩; exact .inl rfl) ?_ ?_
        · exact ((Below.refl _ w).drew).alloc (by simpa using h.bel.size) _
        · refine ⟨hzl', ?_⟩
          rw [List.getElem?_set_self hlt]
          have hsize : (dss.flatten.toArray ++ Builtin.zeroCells z.cells (grownCap w ys.length 0 u - ys.length)).size = grownCap w ys.length 0 u * e'.size := by
            simp only [Array.size_append, List.size_toArray, size_zeroCells, hzs, hfl, hsi, hsz, ← Nat.add_mul]
            congr 1; omega
          refine ⟨rfl, by simp, by simp only [Nat.zero_add]; exact Nat.mul_le_mul_right _ hge, _, heap_alloc_new w.drew _, hsize, ?_⟩
          simp only [Nat.zero_add, List.drop_nil, List.take_nil, List.nil_append]
          have := flat_rows (σ := σ) (look := fun k => (dss.flatten.toArray ++ Builtin.zeroCells z.cells (grownCap w ys.length 0 u - ys.length))[k]?) (k := 0) hd1 (fun j v hj => by
            rw [Nat.zero_add, Array.getElem?_append_left (by simpa using (List.getElem?_eq_some_iff.1 hj).1)]; simpa using hj)
          simpa using this
        · simp only [ARep]
          rw [List.getElem?_set_self hlt]
          exact ⟨_, _, by rw [Nat.zero_add], by simpa using hge, .inr (by simp), by simp, by simp⟩
    | some p =>
      simp only [hβ] at hx hob
      obtain ⟨ad0, cap, hx, h1, h2, h3, h4⟩ := hx
      obtain ⟨q1, q2, q3, cur, q4, q5, q6⟩ := hob
      have hsep := h.sep _ _ _ hid hβ
      have htl : ((xs.drop s).take n).length = n := by simp; omega
      -- the elements that are there already
      have olds : RowsIn σ e' ((xs.drop s).take n) cur.toList (p.o + s * p.sz) := by
        intro i' y hy'
        have hyy : xs[s + i']? = some y := by
          rw [List.getElem?_take] at hy'
          split at hy'
          · rw [List.getElem?_drop] at hy'; exact hy'
          · cases hy'
        obtain ⟨d, h7, h8⟩ := q6 _ _ hyy
        refine ⟨d, h7, fun j v hj => ?_⟩
        rw [Array.getElem?_toList, ← q1, Nat.add_assoc p.o, ← Nat.add_mul]
        exact h8 j v hj
      by_cases hye : ys = []
      · subst hye
        refine fin (q := some { p with o := p.o + s * p.sz, L := n }) (exec (by rw [hx, hy]; exact run_append_none hund hi h1)) (fun _ _ _ => rfl) (Below.refl _ _) (by rintro p' ⟨⟩; exact .inr ⟨p, hβ, rfl⟩) ?_ ?_
        · refine ⟨hzl', ?_⟩
          rw [List.getElem?_set_self hlt]
          refine ⟨q1, by simp [htl], ?_, cur, q4, q5, ?_⟩
          · show p.o + s * p.sz + n * p.sz ≤ p.N
            have := Nat.mul_le_mul_right p.sz (show s + n ≤ s + cap by omega)
            rw [Nat.add_mul] at this; omega
          · intro i' y hy'
            obtain ⟨d, g1, g2⟩ := olds i' y (by simpa using hy')
            exact ⟨d, g1, fun j v hj => by have := g2 j v hj; rw [Array.getElem?_toList, ← q1] at this; exact this⟩
        · simp only [ARep]
          rw [List.getElem?_set_self hlt]
          refine ⟨ad0, cap, rfl, by simpa using h1, h2.imp_right fun e => by rw [e]; simp, ?_, by simp⟩
          show p.o + s * p.sz + (0 + cap) * p.sz ≤ p.N
          rw [Nat.zero_add]; rw [Nat.add_mul] at h3; omega
      · obtain ⟨ad, rfl, dss, hd1, hd2⟩ := hyc hye
        have hfl := flat_length hd1
        have hpos : 0 < ys.length := List.length_pos_iff.2 hye
        by_cases hroom : n + ys.length ≤ cap
        · obtain rfl : ad0 = _ := h2.resolve_left (by omega)
          have hfit : p.o + s * p.sz + n * i.size + dss.flatten.length ≤ cur.size := by
            rw [hfl, hsi, hsz, ← q1, q5]
            have := Nat.mul_le_mul_right p.sz (show s + (n + ys.length) ≤ s + cap by omega)
            rw [Nat.add_mul, Nat.add_mul] at this; omega
          have hr := run_append_room_off (P := P) (w := w) (ty := o.type) hund hi q4 (by rw [hfl, hsi, hsz]) hd2 (flat_one hd1) hroom hfit (c := c)
          refine fin (q := some { p with o := p.o + s * p.sz, L := n + ys.length }) (exec (by rw [hx, hy]; exact hr)) (fun k _ hk => setRow_other w p.b k _ (hk p hβ)) (Below.setRow w _ _ hsep.2.1) (by rintro p' ⟨⟩; exact .inr ⟨p, hβ, rfl⟩) ?_ ?_
          · refine ⟨hzl', ?_⟩
            rw [List.getElem?_set_self hlt]
            have hcl : p.o + s * p.sz + n * i.size + dss.flatten.length ≤ cur.toList.length := by simpa using hfit
            refine ⟨q1, by simp [htl], ?_, _, setRow_heap' _ q4, ?_, ?_⟩
            · show p.o + s * p.sz + (n + ys.length) * p.sz ≤ p.N
              rw [hfl, hsi, hsz, ← q1, q5] at hfit
              rw [Nat.add_mul]; omega
            · have hcc : cur.toList.length = cur.size := by simp
              simp only [List.size_toArray, List.length_append, List.length_take, List.length_drop, Nat.min_eq_left (show p.o + s * p.sz + n * i.size ≤ cur.toList.length by omega)]
              omega
            · intro i' yv hy'
              simp only [List.getElem?_toArray, splice_get hcl]
              rw [List.getElem?_append] at hy'
              split at hy'
              · rename_i hlt'
                obtain ⟨d, g1, g2⟩ := olds i' yv hy'
                have hdl := g1.length
                refine ⟨d, g1, fun j v hj => ?_⟩
                have hj' := (List.getElem?_eq_some_iff.1 hj).1
                have := Nat.mul_le_mul_right e'.size (show i' + 1 ≤ n by omega)
                rw [Nat.succ_mul] at this
                rw [if_pos (by rw [hsi, hsz, q1]; omega)]
                have := g2 j v hj
                rw [q1]; rw [q1] at this; exact this
              · rename_i hge
                have := flat_rows (σ := σ) (look := fun k => dss.flatten[k]?) (k := 0) hd1 (fun j v hj => by simpa using hj) (i' - ((xs.drop s).take n).length) yv hy'
                obtain ⟨d, g1, g2⟩ := this
                have hdl := g1.length
                refine ⟨d, g1, fun j v hj => ?_⟩
                have hj' := (List.getElem?_eq_some_iff.1 hj).1
                have hg := g2 j v hj
                have hg' := (List.getElem?_eq_some_iff.1 hg).1
                rw [htl] at hg hg' hge
                have e1 : i' * e'.size = n * e'.size + (i' - n) * e'.size := by rw [← Nat.add_mul]; congr 1; omega
                rw [hsi, hsz, q1]
                rw [if_neg (by omega), if_pos (by omega)]
                rw [← hg]; congr 1; omega
          · simp only [ARep]
            rw [List.getElem?_set_self hlt]
            refine ⟨_, cap, rfl, by simpa using hroom, .inr (by simp), ?_, by simp⟩
            show p.o + s * p.sz + (0 + cap) * p.sz ≤ p.N
            rw [Nat.zero_add]; rw [Nat.add_mul] at h3; omega
        · -- a new array
          obtain ⟨ods, hod1, hod2⟩ := rows_flat (σ := σ) (look := fun k => cur.toList[k]?) (k := p.o + s * p.sz) olds
          have hofl := flat_length hod1
          rw [htl] at hofl
          have hold : ∀ (j : Nat) (v : Value), ods.flatten[j]? = some v → w.cell? (ad0.add j) = some v := by
            intro j v hj
            have hj' := (List.getElem?_eq_some_iff.1 hj).1
            have hn : n ≠ 0 := by rintro rfl; rw [Nat.zero_mul] at hofl; omega
            obtain rfl : ad0 = _ := h2.resolve_left (by omega)
            rw [Addr.add_none, cell_of_cells q4, ← Array.getElem?_toList]
            exact hod2 j v hj
          have hr := run_append_grow (P := P) w t o.type u i z hund hi hzz ad0 n cap ods.flatten (by rw [hofl, hsi, hsz]) hold ad ys.length c dss.flatten (by rw [hfl, hsi, hsz]) hd2 (by omega) (by omega) (growslice_fits (by omega) (by rw [hbi]; exact hreqN))
          have hge := grownCap_ge w (n + ys.length) cap u
          refine fin (q := some ⟨w.heap.size, 0, e'.size, grownCap w (n + ys.length) cap u * e'.size, n + ys.length⟩) (exec (by rw [hx, hy]; exact hr)) (fun k hk _ => Go.heap_alloc_old w.drew _ (by simpa using hk)) ?_ (by rintro p' ⟨⟩; exact .inl rfl) ?_ ?_
          · exact ((Below.refl _ w).drew).alloc (by simpa using h.bel.size) _
          · refine ⟨hzl', ?_⟩
            rw [List.getElem?_set_self hlt]
            have hsize : (ods.flatten.toArray ++ dss.flatten.toArray ++ Builtin.zeroCells z.cells (grownCap w (n + ys.length) cap u - (n + ys.length))).size = grownCap w (n + ys.length) cap u * e'.size := by
              simp only [Array.size_append, List.size_toArray, size_zeroCells, hzs, hfl, hofl, hsi, hsz, ← Nat.add_mul]
              congr 1; omega
            refine ⟨rfl, by simp [htl], by simp only [Nat.zero_add]; exact Nat.mul_le_mul_right _ hge, _, heap_alloc_new w.drew _, hsize, ?_⟩
            have hall : All2 (ERep σ e') ((xs.drop s).take n ++ ys) (ods ++ dss) := hod1.append hd1
            have := flat_rows (σ := σ) (look := fun k => (ods.flatten.toArray ++ dss.flatten.toArray ++ Builtin.zeroCells z.cells (grownCap w (n + ys.length) cap u - (n + ys.length)))[k]?) (k := 0) hall (fun j v hj => by
              rw [List.flatten_append] at hj
              rw [Nat.zero_add, Array.getElem?_append_left (by simpa using (List.getElem?_eq_some_iff.1 hj).1)]; simpa using hj)
            simpa using this
          · simp only [ARep]
            rw [List.getElem?_set_self hlt]
            exact ⟨_, _, rfl, by simpa using hge, .inr (by simp), by simp, by simp⟩
end
end Go.Vm
