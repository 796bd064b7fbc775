/- Maps: looking up, setting, making. -/
import Derived.Test.YtkkhoppffmnkiaaVmCall
import Derived.DeepKeys3
import Derived.MapKept
set_option linter.unusedSimpArgs false
set_option linter.unusedVariables false
namespace Go.Vm
open Go.RowKit

/-- What is asked of a type of keys. -/
structure KFact (P : Program) (kt : TypeId) (k : ETy) : Prop where
  check : ∀ (w : World) (em : Bool) {σ : Sig} {x : k.T} {ds : List Value}, ERep σ k x ds → (Instr.checkKey em 10000 kt (keyVal k ds)).run P w = .ok () w
  find : ∀ (w : World) {σ : Sig} {x : k.T} {ds : List Value}, ERep σ k x ds → ∀ es : List MapEntry, (∀ e ∈ es, ∃ (σ : Sig) (y : k.T) (dk : List Value), ERep σ k y dk ∧ e.key = keyVal k dk) →
    ((Instr.findKey kt (keyVal k ds) es).run P w = .ok none w ∧ ∀ e ∈ es, e.key ≠ keyVal k ds) ∨ ∃ j e, (Instr.findKey kt (keyVal k ds) es).run P w = .ok (some (j, e.val)) w ∧ es[j]? = some e ∧ e.key = keyVal k ds
  stays : ∀ (w : World) {σ : Sig} {x : k.T} {ds : List Value}, ERep σ k x ds → (Instr.keyThatStays (keyVal k ds) (keyVal k ds)).run P w = .ok (keyVal k ds) w
  inj : ∀ {σ τ : Sig} {x y : k.T} {ds dk : List Value}, ERep σ k x ds → ERep τ k y dk → (keyVal k ds = keyVal k dk ↔ x = y)

structure MapOk (P : Program) (kt u : TypeId) (k e : ETy) : Prop where
  key : KFact P kt k
  zero : ∀ i, P.info? u = some i → i.zero = some (keyVal e e.zeroVals)

def TabMap (P : Program) (T : Tab) : Prop := ∀ t kt u, T.desc t = .map kt u → ∀ ki ui k e, T.info kt = some ki → T.info u = some ui → ki.ety = some k → ui.ety = some e → MapOk P kt u k e

section key
variable {P : Program} {kt : TypeId}

theorem KFact.wide {k : ETy} (hl : WideMaps.KeyLaw P kt) (hkey : ∀ {σ : Sig} {x : k.T} {ds : List Value}, ERep σ k x ds → ∃ l, keyOf P kt (keyVal k ds) = some l)
    (hinj : ∀ {σ τ : Sig} {x y : k.T} {ds dk : List Value}, ERep σ k x ds → ERep τ k y dk → (keyVal k ds = keyVal k dk ↔ x = y)) : KFact P kt k where
  check := fun w em _ _ _ h => let ⟨_, e⟩ := hkey h; hl.check w em e
  find := fun w _ _ _ h es hes => by
    obtain ⟨lx, hx⟩ := hkey h
    exact hl.find w hx es fun e he => by
      obtain ⟨σ, y, dk, h1, h2⟩ := hes e he
      rw [h2]; exact hkey h1
  stays := fun w _ _ _ h => let ⟨_, e⟩ := hkey h; hl.stays w e
  inj := hinj

theorem wf_of_inK {n : Int} (h : InK .i64 n) : (Lit.int .i64 n).wf = true := by
  obtain ⟨h1, h2⟩ := InK.i64.1 h
  simp only [Lit.wf, Bool.and_eq_true, decide_eq_true_eq]
  exact ⟨h1, h2⟩

theorem keyOf_arr {m : Nat} {u : TypeId} (hu : P.underlying kt = some (.array m u)) (he : P.underlying u = some (.int .i64)) (hc : P.cellsOf kt = m) (hce : P.cellsOf u = 1) (hk : P.keyType kt = true) (hsz : 0 < P.types.size)
    {ns : List Int} (hm : ns.length = m) (hn : ∀ n ∈ ns, InK .i64 n) : ∃ l, keyOf P kt (.agg (ns.map fun n => Value.int .i64 n).toArray) = some l := by
  obtain ⟨d, hd⟩ : ∃ d, P.types.size = d + 1 := ⟨P.types.size - 1, by omega⟩
  unfold keyOf
  rw [hu]
  simp only [hk, Value.formed, hu, Bool.true_and, hc]
  rw [if_pos (by simp [hm])]
  have hcells : (Value.agg (ns.map fun n => Value.int .i64 n).toArray).cells.toList = ns.map fun n => Value.int .i64 n := by simp [Value.cells]
  rw [hcells, hd]
  have hone : ∀ i ∈ List.range m, P.keyLits (d + 1) u (((ns.map fun n => Value.int .i64 n).drop (i * P.cellsOf u)).take (P.cellsOf u)) = some [.int .i64 (ns.getD i 0)] := by
    intro i hi
    have hi := List.mem_range.1 hi
    have hlt : i < ns.length := by omega
    rw [hce, Nat.mul_one]
    have e1 : ((ns.map fun n => Value.int .i64 n).drop i).take 1 = [.int .i64 (ns[i])] := by
      rw [List.drop_eq_getElem_cons (by simpa using hlt)]
      simp
    have e2 : ns.getD i 0 = ns[i] := by simp [List.getD_eq_getElem?_getD, hlt]
    rw [e1, e2]
    simp only [Program.keyLits, he]
    simp [wf_of_inK (hn _ (List.getElem_mem hlt))]
  have hmap : (List.range m).mapM (fun i => P.keyLits (d + 1) u (((ns.map fun n => Value.int .i64 n).drop (i * P.cellsOf u)).take (P.cellsOf u))) = some ((List.range m).map fun i => [Lit.int .i64 (ns.getD i 0)]) := by
    generalize List.range m = l at hone
    induction l with
    | nil => rfl
    | cons x l ih =>
      rw [List.mapM_cons, hone x (by simp)]
      simp only [Option.bind_eq_bind, Option.bind_some]
      rw [ih fun i hi => hone i (by simp [hi])]
      rfl
  have htop : P.keyLits (d + 1 + 1) kt (ns.map fun n => Value.int .i64 n) = some ((List.range m).map fun i => [Lit.int .i64 (ns.getD i 0)]).flatten := by
    unfold Program.keyLits
    simp only [hu]
    rw [if_pos (by simp [hc, hm]), hmap]
    rfl
  rw [htop]
  exact ⟨_, rfl⟩

theorem KFact.arr2 (hl : WideMaps.KeyLaw P kt) {u : TypeId} (hu : P.underlying kt = some (.array 2 u)) (he : P.underlying u = some (.int .i64)) (hc : P.cellsOf kt = 2) (hce : P.cellsOf u = 1) (hk : P.keyType kt = true) (hsz : 0 < P.types.size) : KFact P kt .arr2 := by
  refine KFact.wide hl (fun {σ x ds} h => ?_) (fun {σ τ x y ds dk} h h' => ?_)
  · obtain ⟨rfl, h1, h2⟩ := h
    exact keyOf_arr hu he hc hce hk hsz (ns := [x.1, x.2]) rfl (by simp [h1, h2])
  · obtain ⟨rfl, _⟩ := h
    obtain ⟨rfl, _⟩ := h'
    obtain ⟨a, b⟩ := x
    obtain ⟨c, d⟩ := y
    simp [keyVal]

theorem KFact.arr3 (hl : WideMaps.KeyLaw P kt) {u : TypeId} (hu : P.underlying kt = some (.array 3 u)) (he : P.underlying u = some (.int .i64)) (hc : P.cellsOf kt = 3) (hce : P.cellsOf u = 1) (hk : P.keyType kt = true) (hsz : 0 < P.types.size) : KFact P kt .arr3 := by
  refine KFact.wide hl (fun {σ x ds} h => ?_) (fun {σ τ x y ds dk} h h' => ?_)
  · obtain ⟨rfl, h1, h2, h3⟩ := h
    exact keyOf_arr hu he hc hce hk hsz (ns := [x.1, x.2.1, x.2.2]) rfl (by simp [h1, h2, h3])
  · obtain ⟨rfl, _⟩ := h
    obtain ⟨rfl, _⟩ := h'
    obtain ⟨a, b, e⟩ := x
    obtain ⟨c, d, f⟩ := y
    simp [keyVal]

theorem KFact.int {q : IntKind} (hu : P.underlying kt = some (.int q)) : KFact P kt (.int q) where
  check := fun w em _ x _ h => by
    obtain ⟨rfl, _⟩ := h
    exact MapKept.run_checkKey hu (show MapKept.IsKey _ _ by simp [MapKept.IsKey, keyVal]) em 9999
  find := fun w σ x ds h es hes => by
    obtain ⟨rfl, _⟩ := h
    have hk : MapKept.IsKey (.int q) (keyVal (.int q) [.int q x]) := by simp [MapKept.IsKey, keyVal]
    rcases MapKept.findNow_spec hk es 0 (fun e he => by
      obtain ⟨_, y, dk, ⟨rfl, _⟩, h2⟩ := hes e he
      rw [h2]; simp [MapKept.IsKey, keyVal]) with ⟨h1, h2⟩ | ⟨j, e, h1, h2, h3⟩
    · exact .inl ⟨MapKept.run_findKey hu h1, h2⟩
    · exact .inr ⟨j, e, by simpa using MapKept.run_findKey (w := w) hu h1, h2, h3⟩
  stays := fun w σ x ds h => by
    obtain ⟨rfl, _⟩ := h
    simp [Instr.keyThatStays, keyVal, Instr.sameBits]
  inj := fun {σ τ x y ds dk} h h' => by
    obtain ⟨rfl, _⟩ := h
    obtain ⟨rfl, _⟩ := h'
    simp [keyVal]
end key

section
variable {P : Program} {B : Base} {w : World} {σ : Sig} {β : Places} {st : St} {tmps : Array Value} {T : Tab} {hp : Heap}

/-- What a map's entries hold. -/
def MapAt (σ : Sig) (k v : ETy) (m : List (k.T × v.T)) (es : Array MapEntry) : Prop :=
  es.size = m.length ∧ ∀ (i : Nat) (x : k.T × v.T), m[i]? = some x → ∃ (en : MapEntry) (dk dv : List Value), es[i]? = some en ∧ ERep σ k x.1 dk ∧ en.key = keyVal k dk ∧ ERep σ v x.2 dv ∧ en.val = keyVal v dv

theorem asMap_rep (h : Mem σ β hp w) {a : AS} {vx : Value} {mv : MapV} (ha : ARep σ β a vx) (e : asMap hp a = some mv) :
    ∃ r, vx = .map r ∧ (mv.m.map (·.1)).Nodup ∧ (r = none → mv.m = []) ∧ ∀ b, r = some b → ∃ es clock, w.heap[b]? = some (.map es clock) ∧ MapAt σ mv.k mv.v mv.m es := by
  unfold asMap at e
  split at e
  · cases e
    obtain ⟨r, e1, h1, h2, h3⟩ := ha
    obtain rfl := (List.cons.inj e1).1
    exact ⟨r, rfl, h1, h2, fun b hb => let ⟨es, clock, q1, q2, q3⟩ := h3 b hb; ⟨es, clock, h.ag _ _ q1, q2, q3⟩⟩
  · split at e
    · rename_i hid
      cases e
      obtain ⟨h0, p, es, clock, q1, q2, q3, q4⟩ := h.ob _ _ hid
      obtain ⟨p', hp', rfl, _⟩ := ha
      rw [q1] at hp'; cases hp'
      exact ⟨_, rfl, h0, (fun e => by cases e), fun b hb => by cases hb; exact ⟨es, clock, q2, q3, q4⟩⟩
    · cases e
  · cases e

section assoc
variable {k : ETy} {V : Type}
theorem mget_none {q : k.T} : ∀ {m : List (k.T × V)}, (∀ p ∈ m, p.1 ≠ q) → mget k m q = none ∧ ∀ v, mset k m q v = m ++ [(q, v)]
  | [], _ => ⟨rfl, fun _ => rfl⟩
  | (x, y) :: r, h => by
    obtain ⟨h1, h2⟩ := mget_none (m := r) fun p hp => h p (List.mem_cons_of_mem _ hp)
    have hne : x ≠ q := h (x, y) (by simp)
    constructor
    · simp only [mget]
      split
      · rename_i e _; exact (hne e).elim
      · exact h1
    · intro v
      simp only [mset]
      split
      · rename_i e _; exact (hne e).elim
      · rw [h2]; rfl

theorem mget_at {q : k.T} {y : V} : ∀ {m : List (k.T × V)} {j : Nat}, (m.map (·.1)).Nodup → m[j]? = some (q, y) → mget k m q = some y ∧ ∀ v, mset k m q v = m.set j (q, v)
  | [], j, _, h => by simp at h
  | (x, z) :: r, 0, hn, h => by
    simp only [List.getElem?_cons_zero, Option.some.injEq, Prod.mk.injEq] at h
    obtain ⟨rfl, rfl⟩ := h
    constructor
    · simp only [mget]
      split
      · rfl
      · rename_i e _; exact (e rfl).elim
    · intro v
      simp only [mset]
      split
      · rfl
      · rename_i e _; exact (e rfl).elim
  | (x, z) :: r, j + 1, hn, h => by
    simp only [List.getElem?_cons_succ] at h
    simp only [List.map_cons, List.nodup_cons] at hn
    have hne : x ≠ q := by
      rintro rfl
      exact hn.1 (List.mem_map.2 ⟨(x, y), List.mem_of_getElem? h, rfl⟩)
    obtain ⟨h1, h2⟩ := mget_at hn.2 h
    constructor
    · simp only [mget]
      split
      · rename_i e _; exact (hne e).elim
      · exact h1
    · intro v
      simp only [mset]
      split
      · rename_i e _; exact (hne e).elim
      · rw [h2]; rfl
end assoc

theorem find_spec {kt : TypeId} {k v : ETy} (hk : KFact P kt k) {m : List (k.T × v.T)} {es : Array MapEntry} (hm : MapAt σ k v m es) {q : k.T} {ds : List Value} (hq : ERep σ k q ds) :
    ((Instr.findKey kt (keyVal k ds) es.toList).run P w = .ok none w ∧ ∀ p ∈ m, p.1 ≠ q) ∨
    ∃ j en y dv, (Instr.findKey kt (keyVal k ds) es.toList).run P w = .ok (some (j, en.val)) w ∧ es[j]? = some en ∧ en.key = keyVal k ds ∧ m[j]? = some (q, y) ∧ ERep σ v y dv ∧ en.val = keyVal v dv := by
  obtain ⟨hs, hm⟩ := hm
  have back : ∀ (i : Nat) (en : MapEntry), es[i]? = some en → ∃ (x : k.T × v.T) (dk dv : List Value), m[i]? = some x ∧ ERep σ k x.1 dk ∧ en.key = keyVal k dk ∧ ERep σ v x.2 dv ∧ en.val = keyVal v dv := by
    intro i en hi
    have hlt : i < m.length := by rw [← hs]; exact (Array.getElem?_eq_some_iff.1 hi).1
    obtain ⟨en', dk, dv, e1, e2, e3, e4, e5⟩ := hm i m[i] (List.getElem?_eq_getElem hlt)
    rw [hi] at e1; cases e1
    exact ⟨_, dk, dv, List.getElem?_eq_getElem hlt, e2, e3, e4, e5⟩
  rcases hk.find w hq es.toList (fun e he => by
      obtain ⟨i, hi, rfl⟩ := List.mem_iff_getElem.1 he
      obtain ⟨x, dk, dv, _, e2, e3, _⟩ := back i _ (by rw [← Array.getElem?_toList]; exact List.getElem?_eq_getElem hi)
      exact ⟨σ, x.1, dk, e2, e3⟩) with ⟨h1, h2⟩ | ⟨j, en, h1, h2, h3⟩
  · refine .inl ⟨h1, fun p hp e => ?_⟩
    obtain ⟨i, hi, rfl⟩ := List.mem_iff_getElem.1 hp
    obtain ⟨en, dk, dv, e1, e2, e3, _⟩ := hm i _ (List.getElem?_eq_getElem hi)
    refine h2 en (List.mem_of_getElem? (by rw [Array.getElem?_toList]; exact e1)) ?_
    rw [e3]; exact (hk.inj e2 hq).2 e
  · rw [Array.getElem?_toList] at h2
    obtain ⟨x, dk, dv, e1, e2, e3, e4, e5⟩ := back j en h2
    rw [h3] at e3
    have := (hk.inj hq e2).1 e3
    obtain ⟨x1, x2⟩ := x
    simp only at this
    subst this
    exact .inr ⟨j, en, x2, dv, h1, h2, h3, e1, e4, e5⟩

theorem keyVal_agg {v : ETy} {dv : List Value} (hl : dv.length = v.size) (e : v.isAgg = true) : keyVal v dv = .agg dv.toArray := by
  cases v <;> first | rfl | (simp [ETy.isAgg] at e; done) | skip
  obtain rfl : dv = [] := List.eq_nil_of_length_eq_zero hl
  rfl

theorem keyVal_one {v : ETy} {d : Value} (e : v.isAgg = false) : keyVal v [d] = d := by
  cases v <;> first | rfl | (simp [ETy.isAgg] at e; done)

theorem keyVal_of {k : ETy} {a : AV} {v : Value} {m : List AS} (ha : VRep σ β a v) (hf : a.flat = some m) (hs : a.isAgg = k.isAgg) (hl : v.cells.toList.length = k.size) : v = keyVal k v.cells.toList := by
  cases a with
  | tup l => cases hf
  | agg l =>
    obtain ⟨ds, rfl, _⟩ := ha
    have : k.isAgg = true := hs.symm
    show Value.agg ds.toArray = keyVal k ds.toArray.toList
    rw [List.toList_toArray]
    replace hl : ds.length = k.size := by simpa [Value.cells] using hl
    exact (keyVal_agg hl this).symm
  | s a =>
    have hk : k.isAgg = false := hs.symm
    have hc : v.cells = #[v] := by
      have := flat_rep ha hf
      have hm : m = [a] := by
        unfold AV.flat at hf
        split at hf <;> first | contradiction | (cases hf; rename_i h; cases h; rfl) | (rename_i h; cases h)
      subst hm
      have hx : ARep σ β a v := ha
      cases a with
      | int => obtain ⟨rfl, _⟩ := hx; rfl
      | bool => obtain rfl := hx; rfl
      | val u => obtain ⟨rfl, hu⟩ := hx; cases v <;> first | rfl | exact (hu _ rfl).elim
      | sl => obtain ⟨a, cap, e, _⟩ := hx; obtain rfl := (List.cons.inj e).1; rfl
      | mp => obtain ⟨a, e, _⟩ := hx; obtain rfl := (List.cons.inj e).1; rfl
      | pt e o =>
        cases o with
        | none => have hx : [v] = [.pointer none] := hx; obtain rfl := (List.cons.inj hx).1; rfl
        | some x => obtain ⟨b, off, d, e, _⟩ := hx; obtain rfl := (List.cons.inj e).1; rfl
      | ip => obtain ⟨b, o, d, rfl, _⟩ := hx; rfl
      | ipi => obtain ⟨b, o, d, rfl, _⟩ := hx; rfl
      | own id s n =>
        simp only [ARep] at hx
        cases hβ : β[id]? with
        | none => simp [hβ] at hx
        | some q =>
          cases q with
          | none => simp only [hβ] at hx; obtain ⟨rfl, _⟩ := hx; rfl
          | some p => simp only [hβ] at hx; obtain ⟨_, _, rfl, _⟩ := hx; rfl
      | ptr => obtain ⟨p, _, rfl, _⟩ := hx; rfl
      | pti => obtain ⟨p, _, rfl, _⟩ := hx; rfl
      | omp => obtain ⟨p, _, rfl, _⟩ := hx; rfl
      | junk => simp [AV.flat] at hf
    rw [hc]
    cases k <;> first | rfl | (simp [ETy.isAgg] at hk)

theorem etyIs_spec {o : Option ETy} {e : ETy} (h : etyIs o e = true) : o = some e := by
  unfold etyIs at h
  split at h
  · rw [of_decide_eq_true h]
  · cases h

theorem look_sound (hT : TabOk P T) (hO : TabOne T) (hE : TabEty T) (hM : TabMap P T) (h : Mem σ β hp w) {t : TypeId} {x key : AV} {vx vk : Value} {commaOk : Bool} (hx : VRep σ β x vx) (hk : VRep σ β key vk) :
    Snd P σ β w (cLookup T t hp x key commaOk) (Instr.lookup t vx vk commaOk) := by
  unfold cLookup
  split
  · rename_i a kc kt u hkc hd
    split
    · rename_i ki ui mv hki hui hmv
      split
      · rename_i q hchk hdec
        simp only [Bool.and_eq_true, beq_iff_eq] at hchk
        obtain ⟨⟨⟨c1, c2⟩, c3⟩, c4⟩ := hchk
        have c1 := etyIs_spec c1
        have c2 := etyIs_spec c2
        have hMO := hM _ _ _ hd _ _ _ _ hki hui c1 c2
        obtain ⟨r, rfl, hn, hnil, hat⟩ := asMap_rep h hx hmv
        have hkey := ETy.dec_sound hdec (flat_rep hk hkc)
        have hkv := keyVal_of hk hkc c3 hkey.length
        have hdesc := hT.desc (w := w) hd (by simp)
        obtain ⟨i, z, hi, _, _, hz, _⟩ := (hT _ _ hui).get
        have hz' := hMO.zero i hi
        rw [hz] at hz'
        have hzv : (zeroValue u).run P w = .ok z w := by simp [zeroValue, typeInfo, hi, hz]
        -- the value that is found
        have fin : ∀ {y : mv.v.T} {dv : List Value} {ok : Bool}, ERep σ mv.v y dv → (mget mv.k mv.m q).getD mv.v.dflt = y → (mget mv.k mv.m q).isSome = ok →
            (Instr.lookup t (.map r) vk commaOk).run P w = .ok (if commaOk then .tuple #[keyVal mv.v dv, .bool ok] else keyVal mv.v dv) w →
            Snd P σ β w (match commaOk with
              | true => some (none, none, .tup [part (isAggD ui.desc) (mv.v.cells ((mget mv.k mv.m q).getD mv.v.dflt)) 0 ui.size, .s (.bool (mget mv.k mv.m q).isSome)])
              | false => some (none, none, part (isAggD ui.desc) (mv.v.cells ((mget mv.k mv.m q).getD mv.v.dflt)) 0 ui.size)) (Instr.lookup t (.map r) vk commaOk) := by
          intro y dv ok hy hg ho hrun
          rw [hg, ho]
          have hl := hy.length
          have hsz := (hE _ _ hui _ c2).2
          have hpart : VRep σ β (part (isAggD ui.desc) (mv.v.cells y) 0 ui.size) (keyVal mv.v dv) := by
            have hce := hy.cells (β := β)
            refine part_rep hce (by have := hce.length; omega) (hO _ _ hui) (fun e => ?_) (fun e => ?_)
            · rw [c4] at e
              rw [List.drop_zero, List.take_of_length_le (by omega)]
              exact keyVal_agg hl e
            · have h1 := hO _ _ hui e
              rw [c4] at e
              rw [List.drop_zero, List.take_of_length_le (by omega)]
              rw [h1] at hsz
              match dv, hl with
              | [d], _ => rw [keyVal_one e]
              | [], hl => simp at hl; omega
              | _ :: _ :: _, hl => simp at hl; omega
          cases commaOk with
          | true => exact Snd.mk trivial fun _ => ⟨_, hrun, _, rfl, hpart, rfl, trivial⟩
          | false => exact Snd.mk trivial fun _ => ⟨_, hrun, hpart⟩
        cases r with
        | none =>
          have hnil := hnil rfl
          refine fin (y := mv.v.dflt) (dv := mv.v.zeroVals) (ok := false) (zeroVals_rep _) (by rw [hnil]; rfl) (by rw [hnil]; rfl) ?_
          have hfind := hMO.key.find w hkey [] (by simp)
          rw [← hkv] at hfind
          have hfind : (Instr.findKey kt vk []).run P w = .ok none w := by
            rcases hfind with ⟨h1, _⟩ | ⟨j, e, _, h2, _⟩
            · exact h1
            · simp at h2
          have hchk := hMO.key.check w true hkey
          rw [← hkv] at hchk
          simp only [Instr.lookup, Sem.run_bind, hdesc, Result.andThen_ok, Sem.run_pure]
          simp [hchk, hfind, hzv, Option.some.inj hz']
        | some b =>
          obtain ⟨es, clock, hb, hmat⟩ := hat b rfl
          have hget := MapKept.run_getObj_map (P := P) hb
          have hchk := hMO.key.check w es.isEmpty hkey
          have hf := find_spec (w := w) hMO.key hmat hkey
          rw [← hkv] at hchk hf
          rcases hf with ⟨h1, h2⟩ | ⟨j, en, y, dv, h1, h2, h3, h4, h5, h6⟩
          · obtain ⟨g1, _⟩ := mget_none h2
            refine fin (y := mv.v.dflt) (dv := mv.v.zeroVals) (ok := false) (zeroVals_rep _) (by rw [g1]; rfl) (by rw [g1]; rfl) ?_
            simp only [Instr.lookup, Sem.run_bind, hdesc, Result.andThen_ok, Sem.run_pure, hget]
            simp [hchk, h1, hzv, Option.some.inj hz']
          · obtain ⟨g1, _⟩ := mget_at hn h4
            refine fin (y := y) (dv := dv) (ok := true) h5 (by rw [g1]; rfl) (by rw [g1]; rfl) ?_
            simp only [Instr.lookup, Sem.run_bind, hdesc, Result.andThen_ok, Sem.run_pure, hget]
            simp [hchk, h1, h6]
      · exact Snd.none
    · exact Snd.none
  · exact Snd.none

theorem make_sound (h : GG B σ β st tmps w) {st' : St} {o : Oper} {ρ : Operand → Value} (hd : dstOk o.dst tmps) {t : TypeId} (ho : o.op = .makeMap t none) {p q : Option Prop} (he : eMakeMap T t st o.dst = some (p, q, st')) :
    Opt p ∧ (Opt q → Done P B o ρ st' tmps w) := by
  unfold eMakeMap at he
  split at he
  · split at he
    · split at he
      · rename_i ek ev _ _
        cases he
        refine ⟨trivial, fun _ => ⟨.map (some w.heap.size), w.alloc (.map #[] 0), σ, β ++ [some ⟨w.heap.size, 0, 0, 0, 0⟩], .inl ?_, ?_⟩⟩
        · simp [execOp, ho, Instr.makeMap]
        · have hlast : (β ++ [some ⟨w.heap.size, 0, 0, 0, 0⟩])[st.next]? = some (some (⟨w.heap.size, 0, 0, 0, 0⟩ : Bk)) := by rw [← h.len]; simp
          refine h.fresh hd (fun k hk => alloc_old w _ k hk) (Below.alloc' w _ h.bel.size) (fun p hp => by cases hp; rfl) ⟨by simp, _, #[], 0, hlast, (MapKept.heap_alloc w _).1, rfl, fun i x hx => by simp at hx⟩ ⟨_, hlast, rfl, rfl⟩
      · cases he
    · cases he
  · cases he

theorem mset_nodup {k : ETy} {V : Type} {m : List (k.T × V)} {q : k.T} (v : V) (hn : (m.map (·.1)).Nodup) : ((mset k m q v).map (·.1)).Nodup := by
  by_cases h : ∃ y, (q, y) ∈ m
  · obtain ⟨y, hy⟩ := h
    obtain ⟨j, hj, e⟩ := List.mem_iff_getElem.1 hy
    rw [(mget_at hn (by rw [List.getElem?_eq_getElem hj, e])).2 v, List.map_set]
    have : (m.map (·.1)).set j q = m.map (·.1) := by
      apply List.ext_getElem (by simp)
      intro i h1 h2
      rw [List.getElem_set]
      split
      · rename_i e'; subst e'; simp [e]
      · rfl
    rw [this]; exact hn
  · have hne : ∀ p ∈ m, p.1 ≠ q := fun p hp e => h ⟨p.2, by rw [← e]; exact hp⟩
    rw [(mget_none hne).2 v, List.map_append]
    simp only [List.map_cons, List.map_nil]
    rw [List.nodup_append]
    refine ⟨hn, by simp, fun a ha b hb e => ?_⟩
    obtain ⟨p, hp, rfl⟩ := List.mem_map.1 ha
    simp only [List.mem_singleton] at hb
    exact hne p hp (e.trans hb)

theorem upd_sound (hT : TabOk P T) (hM : TabMap P T) (h : GG B σ β st tmps w) {st' : St} {o : Oper} {ρ : Operand → Value} (hd : dstOk o.dst tmps) {t : TypeId} {x y z : Operand} (ho : o.op = .mapUpdate t x y z) {a b c : AV} {p q : Option Prop}
    (ha : VRep σ β a (ρ x)) (hb : VRep σ β b (ρ y)) (hc : VRep σ β c (ρ z)) (he : eMapUpdate T t a b c st o.dst = some (p, q, st')) : Opt p ∧ (Opt q → Done P B o ρ st' tmps w) := by
  unfold eMapUpdate at he
  split at he
  · rename_i id kc vc kt u hkc hvc hdc
    split at he
    · rename_i ki ui k e m hki hui hid
      split at he
      · rename_i kk vv hchk hdk hdv
        cases he
        refine ⟨trivial, fun _ => ?_⟩
        simp only [Bool.and_eq_true, beq_iff_eq] at hchk
        obtain ⟨⟨⟨c1, c2⟩, c3⟩, c4⟩ := hchk
        have c1 := etyIs_spec c1
        have c2 := etyIs_spec c2
        have hMO := hM _ _ _ hdc _ _ _ _ hki hui c1 c2
        have hkey := ETy.dec_sound hdk (flat_rep hb hkc)
        have hval := ETy.dec_sound hdv (flat_rep hc hvc)
        have hkv := keyVal_of hb hkc c3 hkey.length
        have hvv := keyVal_of hc hvc c4 hval.length
        obtain ⟨hn, pl, es, clock, q1, q2, q3⟩ := h.mem.ob _ _ hid
        obtain ⟨pl', q1', hx⟩ := ha
        rw [q1] at q1'; cases q1'
        have hmat : MapAt σ k e m es := q3
        have hdesc := hT.desc (w := w) hdc (by simp)
        have runGet := MapKept.run_getObj_map (P := P) q2
        have hck := hMO.key.check w false hkey
        have hf := find_spec (w := w) hMO.key hmat hkey
        have hstay := hMO.key.stays w hkey
        have runSet : ∀ o', (setObj pl.b o').run P w = .ok () { w with heap := w.heap.setIfInBounds pl.b o' } := fun o' => MapKept.run_setObj_map o' q2
        rw [← hkv] at hck hf hstay
        have hsep := h.sep _ _ _ hid q1
        have fin : ∀ {es' : Array MapEntry} {clock' : Nat}, (Instr.mapUpdate t (ρ x) (ρ y) (ρ z)).run P w = .ok () { w with heap := w.heap.setIfInBounds pl.b (.map es' clock') } → MapAt σ k e (mset k m kk vv) es' →
            Done P B o ρ (({ st with hp := hset st.hp id (.map k e (mset k m kk vv)) } : St).put o.dst .undef) tmps w := by
          intro es' clock' hrun hm'
          obtain ⟨g1, g2⟩ := MapKept.heap_set (o' := .map es' clock') q2
          have hob : ObAt σ β { w with heap := w.heap.setIfInBounds pl.b (.map es' clock') } id (.map k e (mset k m kk vv)) := ⟨mset_nodup vv hn, pl, es', clock', q1, g1, hm'⟩
          have hbl : Below B.w.heap.size w { w with heap := w.heap.setIfInBounds pl.b (.map es' clock') } := ⟨rfl, rfl, rfl, by simp, fun k hk => g2 k (by have := hsep.2.1; omega)⟩
          exact ⟨undef, _, σ, β, .inr ⟨by simp [execOp, ho, hrun], rfl⟩, (h.turn hid q1 (fun k hk => g2 k hk) hbl hob).put hd VRep.undef⟩
        obtain ⟨hs, hmat'⟩ := hmat
        rcases hf with ⟨h1, h2⟩ | ⟨j, en, y', dv, h1, h2, h3, h4, h5, h6⟩
        · refine fin (es' := es.push { key := ρ y, val := ρ z, born := clock }) (clock' := clock + 1) ?_ ?_
          · simp only [hx, Instr.mapUpdate, Sem.run_bind, hdesc, Result.andThen_ok, runGet, hck, h1]
            exact runSet _
          · rw [(mget_none h2).2 vv]
            refine ⟨by simp [hs], fun i x hi => ?_⟩
            rcases Nat.lt_or_ge i m.length with hlt | hge
            · rw [List.getElem?_append_left hlt] at hi
              obtain ⟨en, dk, dv, e1, r⟩ := hmat' i x hi
              exact ⟨en, dk, dv, by rw [Array.getElem?_push, if_neg (by omega)]; exact e1, r⟩
            · rw [List.getElem?_append_right hge] at hi
              have : i = m.length := by
                have := (List.getElem?_eq_some_iff.1 hi).1
                simp at this; omega
              subst this
              simp only [Nat.sub_self, List.getElem?_cons_zero, Option.some.injEq] at hi
              subst hi
              exact ⟨_, _, _, by rw [Array.getElem?_push, if_pos hs.symm], hkey, hkv, hval, hvv⟩
        · have hkeep : ((es[j]?).map (·.key)).getD (ρ y) = ρ y := by rw [h2]; exact h3
          refine fin (es' := es.modify j fun e => { e with key := ρ y, val := ρ z }) (clock' := clock) ?_ ?_
          · simp only [hx, Instr.mapUpdate, Sem.run_bind, hdesc, Result.andThen_ok, runGet, hck, h1, hkeep, hstay]
            exact runSet _
          · rw [(mget_at hn h4).2 vv]
            refine ⟨by simp [hs], fun i x hi => ?_⟩
            rw [Array.getElem?_modify]
            rw [List.getElem?_set] at hi
            split
            · rename_i e'
              subst e'
              simp only [if_true] at hi
              split at hi
              · cases hi
                exact ⟨_, _, _, by rw [h2]; rfl, hkey, hkv, hval, hvv⟩
              · cases hi
            · rename_i e'
              rw [if_neg e'] at hi
              exact hmat' i x hi
      · cases he
    · cases he
  · cases he
end
end Go.Vm
