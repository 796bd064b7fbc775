/- The calm operations, more: parts, loads, addresses, slices. -/
import Derived.Test.YtkkhoppffmnkiaaVmOps
set_option linter.unusedSimpArgs false
set_option linter.unusedVariables false
namespace Go.Vm
open Go.RowKit

/-- How an owned thing lies in memory. -/
def ObAt (σ : Sig) (β : Places) (w : World) (id : Nat) : Ob → Prop
  | .row e T xs => xs.length ≤ 140737488355328 ∧ match β[id]? with
    | none => False
    | some none => xs = []
    | some (some p) => p.sz = e.size ∧ p.L = xs.length ∧ p.o + p.L * p.sz ≤ p.N ∧ ∃ c, w.heap[p.b]? = some (.cells c T (0, 0)) ∧ c.size = p.N ∧
      ∀ (i : Nat) (x : e.T), xs[i]? = some x → ∃ d, ERep σ e x d ∧ ∀ (j : Nat) (u : Value), d[j]? = some u → c[p.o + i * p.sz + j]? = some u
  | .flat T cs => ∃ p, β[id]? = some (some p) ∧ p.o = 0 ∧ p.sz = cs.length ∧ p.L = 1 ∧ p.N = cs.length ∧
      ∃ c, w.heap[p.b]? = some (.cells c T (0, 0)) ∧ All2 (ARep σ β) cs c.toList
  | .map k v m => (m.map (·.1)).Nodup ∧ ∃ p es clock, β[id]? = some (some p) ∧ w.heap[p.b]? = some (.map es clock) ∧ es.size = m.length ∧
      ∀ (i : Nat) (x : k.T × v.T), m[i]? = some x → ∃ (en : MapEntry) (dk dv : List Value), es[i]? = some en ∧ ERep σ k x.1 dk ∧ en.key = keyVal k dk ∧ ERep σ v x.2 dv ∧ en.val = keyVal v dv

structure Mem (σ : Sig) (β : Places) (hp : Heap) (w : World) : Prop where
  ag : ∀ b o, σ b = some o → w.heap[b]? = some o
  ob : ∀ id ob, hget hp id = some ob → ObAt σ β w id ob

section
variable {P : Program} {σ : Sig} {β : Places} {w : World} {T : Tab} {hp : Heap}

theorem Addr.add_none (b o n : Nat) : (⟨b, o, none⟩ : Addr).add n = ⟨b, o + n, none⟩ := by
  unfold Addr.add; split
  · rename_i h; subst h; rfl
  · rfl

theorem cell_of_cells {b : Nat} {c : Array Value} {u : TypeId} {fz : Nat × Nat} (h : w.heap[b]? = some (.cells c u fz)) (o : Nat) : w.cell? ⟨b, o, none⟩ = c[o]? := by
  simp [World.cell?, h]

/-- Reading a variable whose cells are known. -/
theorem run_loadVar_cells {t : TypeId} {ti : TI} (ht : TyOk P t ti) {b o : Nat} {ds : List Value} (hl : ds.length = ti.size) (hc : ∀ (j : Nat) (d : Value), ds[j]? = some d → w.cell? ⟨b, o + j, none⟩ = some d)
    (h1 : isAggD ti.desc = false → ti.size = 1) :
    ∃ val, (loadVar t ⟨b, o, none⟩).run P w = .ok val w ∧ (isAggD ti.desc = true → val = .agg ds.toArray) ∧ (isAggD ti.desc = false → ds = [val]) := by
  unfold loadVar
  rw [Sem.run_bind, ht.run_isAgg, Result.andThen_ok]
  cases hag : isAggD ti.desc with
  | true =>
    refine ⟨_, ?_, fun _ => rfl, fun h => by cases h⟩
    have := run_loadCells_list (P := P) (w := w) ⟨b, o, none⟩ ds (fun j v hj => by rw [Addr.add_none]; exact hc j v hj)
    simp only [if_true, Sem.run_bind, ht.run_sizeOf, Result.andThen_ok]
    rw [← hl, this]
    rfl
  | false =>
    have h1 := h1 hag
    match ds, hl, hc with
    | [d], _, hc =>
      refine ⟨d, ?_, fun h => (by cases h), fun _ => rfl⟩
      have := hc 0 d rfl
      simp only [Bool.false_eq_true, if_false]
      rw [run_load]
      rw [show o + 0 = o from rfl] at this
      simp [this]
    | [], hl, _ => simp at hl; omega
    | _ :: _ :: _, hl, _ => simp at hl; omega

theorem getD_of {α : Type} {l : List α} {i : Nat} {x d : α} (h : l[i]? = some x) : l.getD i d = x := by simp [List.getD, h]

/-- A part of known cells, as a value. -/
theorem part_rep {agg : Bool} {l : List AS} {ds : List Value} (h : All2 (ARep σ β) l ds) {k m : Nat} (hk : k + m ≤ l.length) (h1 : agg = false → m = 1) {val : Value}
    (hv1 : agg = true → val = .agg ((ds.drop k).take m).toArray) (hv2 : agg = false → (ds.drop k).take m = [val]) : VRep σ β (part agg l k m) val := by
  cases agg with
  | true => exact ⟨_, hv1 rfl, (h.drop k).take m⟩
  | false =>
    have hm := h1 rfl
    subst hm
    have hv := hv2 rfl
    obtain ⟨a, ha⟩ : ∃ a, l[k]? = some a := ⟨_, List.getElem?_eq_getElem (by omega)⟩
    obtain ⟨d, hd, hr⟩ := h.get ha
    have : (ds.drop k).take 1 = [d] := by
      have h2 : (ds.drop k)[0]? = some d := by simpa using hd
      cases e : ds.drop k with
      | nil => simp [e] at h2
      | cons x r => simp [e] at h2; simp [h2]
    rw [this] at hv
    obtain rfl := (List.cons.inj hv).1
    show ARep σ β (l.getD k .junk) d
    rw [getD_of ha]; exact hr

theorem cPick_sound {c a b : AV} {x y z : Value} (hc : VRep σ β c x) (ha : VRep σ β a y) (hb : VRep σ β b z) :
    Snd P σ β w (cPick c a b) (do pure (if ← asBool x then y else z)) := by
  unfold cPick
  split
  · obtain rfl := hc; exact Snd.pure ⟨y, by simp [asBool], ha⟩
  · obtain rfl := hc; exact Snd.pure ⟨z, by simp [asBool], hb⟩
  · exact Snd.none

theorem cUn_sound {op : UnOp} {a : AV} {x : Value} (ha : VRep σ β a x) : Snd P σ β w (cUn op a) (Op.unary op x) := by
  unfold cUn
  split
  · obtain rfl := ha; exact Snd.ok ⟨_, by simp [Op.unary], rfl⟩
  · obtain ⟨rfl, _⟩ := ha; exact arith_sound (by simp [Op.unary, Op.intArith])
  · exact Snd.none

theorem wrap_in {k : IntKind} {n : Int} (h : InK k n) : k.wrap n = n := h

theorem cConv_sound (hT : TabOk P T) {src dst : TypeId} {a : AV} {x : Value} {d0 : TypeDesc} (hs : T.desc src = d0) (hd0 : d0 ≠ .invalid) (ha : VRep σ β a x) : Snd P σ β w (cConv (T.desc dst) a) (convert src dst x) := by
  have run : ∀ {k k0 : IntKind} {n : Int}, T.desc dst = .int k → (convert src dst (.int k0 n)).run P w = .ok (.int k (k.wrap n)) w := by
    intro k k0 n hd
    unfold convert
    rw [Sem.run_bind, hT.desc hs hd0, Result.andThen_ok, Sem.run_bind, hT.desc hd (by simp), Result.andThen_ok]
    simp [Conv.intToInt]
  unfold cConv
  split
  · rename_i k k0 n hd
    obtain ⟨rfl, hn⟩ := ha
    split
    · exact Snd.ok ⟨_, by rw [run hd, wrap_in hn], rfl, hn⟩
    · exact Snd.mk hn.u64 fun _ => ⟨_, run hd, rfl, InK.wrap _ _⟩
    · have := hn.u8
      exact Snd.mk this fun _ => ⟨_, by rw [run hd, IntWalk.i64_in _ (by omega)], rfl, InK.i64.2 (by unfold i64ok; omega)⟩
    · exact Snd.mk (InK.i64.1 hn) fun _ => ⟨_, run hd, rfl, InK.wrap _ _⟩
    · exact Snd.ok ⟨_, run hd, rfl, InK.wrap _ _⟩
  · exact Snd.none

theorem VReps.get : ∀ {l : List AV} {m : List Value}, VReps σ β l m → ∀ {i : Nat} {a : AV}, l[i]? = some a → ∃ b, m[i]? = some b ∧ VRep σ β a b :=
  fun h _ _ e => All2.get (vreps_all2.1 h) e

theorem cExt_sound {a : AV} {x : Value} {i : Nat} (ha : VRep σ β a x) : Snd P σ β w (cExt a i) (Instr.extract x i) := by
  unfold cExt
  split
  · split
    · rename_i l v hv
      obtain ⟨vs, rfl, hvs⟩ := ha
      obtain ⟨b, hb, hr⟩ := hvs.get hv
      exact Snd.pure ⟨b, by simp [Instr.extract, hb], hr⟩
    · exact Snd.none
  · exact Snd.none

theorem fieldOf_spec {d : TypeDesc} {f off : Nat} {u : TypeId} (h : fieldOf d f = some (off, u)) : ∃ fs fld, d = .struct fs ∧ fs[f]? = some fld ∧ fld.offset = off ∧ fld.type = u := by
  unfold fieldOf at h
  split at h
  · rename_i fs
    split at h
    · rename_i fld hf; cases h; exact ⟨fs, fld, rfl, by simpa using hf, rfl, rfl⟩
    · contradiction
  · contradiction

/-- A scalar type has one cell. -/
def TabOne (T : Tab) : Prop := ∀ t ti, lget T.ty t = some ti → isAggD ti.desc = false → ti.size = 1

theorem run_part {t : TypeId} {ti : TI} (ht : TyOk P t ti) {ds : List Value} {off : Nat} (hl : off + ti.size ≤ ds.length) (h1 : isAggD ti.desc = false → ti.size = 1) :
    ∃ val, (Go.part t ds.toArray off).run P w = .ok val w ∧ (isAggD ti.desc = true → val = .agg ((ds.drop off).take ti.size).toArray) ∧ (isAggD ti.desc = false → (ds.drop off).take ti.size = [val]) := by
  unfold Go.part
  rw [Sem.run_bind, ht.run_isAgg, Result.andThen_ok]
  cases hag : isAggD ti.desc with
  | true =>
    refine ⟨_, by simp only [if_true, Sem.run_bind, ht.run_sizeOf, Result.andThen_ok]; rfl, fun _ => ?_, fun h => by cases h⟩
    congr 1
    apply Array.ext'
    simp [List.extract]
  | false =>
    have h1 := h1 hag
    obtain ⟨d, hd⟩ : ∃ d, ds[off]? = some d := ⟨_, List.getElem?_eq_getElem (by omega)⟩
    refine ⟨d, by simp [hd], fun h => (by cases h), fun _ => ?_⟩
    have h2 : (ds.drop off)[0]? = some d := by simpa using hd
    rw [h1]
    cases e : ds.drop off with
    | nil => simp [e] at h2
    | cons x r => simp [e] at h2; simp [h2]

theorem cField_sound (hT : TabOk P T) (hO : TabOne T) {t : TypeId} {f : Nat} {a : AV} {x : Value} (ha : VRep σ β a x) : Snd P σ β w (cField T t a f) (Instr.field t x f) := by
  unfold cField
  split
  · rename_i l off u hf
    split
    · rename_i ti hi
      refine Snd.fitting fun hle => ?_
      obtain ⟨ds, rfl, hds⟩ := ha
      obtain ⟨fs, fld, hd, hfl, rfl, rfl⟩ := fieldOf_spec hf
      obtain ⟨val, hrun, hv1, hv2⟩ := run_part (w := w) (hT _ _ hi) (ds := ds) (off := fld.offset) (by rw [← hds.length]; exact hle) (hO _ _ hi)
      refine ⟨val, ?_, part_rep hds hle (hO _ _ hi) hv1 hv2⟩
      unfold Instr.field
      rw [Sem.run_bind, hT.desc hd (by simp), Result.andThen_ok]
      simp [hfl, asAgg, hrun]
    · exact Snd.none
  · exact Snd.none

theorem allInts_spec : ∀ {l : List AS} {ns : List Int} {ds : List Value}, allInts l = some ns → All2 (ARep σ β) l ds → ns.length = l.length ∧ ds.length = l.length ∧
    ∀ i, i < l.length → ds[i]? = some (.int .i64 (ns.getD i 0)) ∧ InK .i64 (ns.getD i 0)
  | [], ns, ds, h, hr => by cases h; obtain rfl := hr.len_nil; simp
  | .int .i64 n :: r, ns, d :: ds, h, hr => by
    simp only [allInts] at h
    split at h
    · rename_i l' hl'
      cases h
      obtain ⟨h1, h2, h3⟩ := allInts_spec hl' hr.2
      refine ⟨by simp [h1], by simp [h2], fun i hi => ?_⟩
      cases i with
      | zero => obtain ⟨rfl, hk⟩ := hr.1; simp [hk]
      | succ i => simpa using h3 i (by simpa using hi)
    · contradiction
  | .int .i64 _ :: _, _, [], _, hr => hr.elim

theorem blt'_false {i : Int} (h : Int.blt' i = false) : 0 ≤ i := by
  cases i <;> simp [Int.blt'] at h ⊢

theorem cIndex_sound (hT : TabOk P T) (hO : TabOne T) {t : TypeId} {a i : AV} {lit : Bool} {x y : Value} (ha : VRep σ β a x) (hi : VRep σ β i y) :
    Snd P σ β w (cIndex T t a i lit) (Instr.index t x y) := by
  have run : ∀ {ds : List Value} {k : IntKind} {n : Int} {u m : Nat} {ti : TI} {d : Value}, T.desc t = .array m u → T.info u = some ti → ti.size = 1 → isAggD ti.desc = false → 0 ≤ n → n < m → ds.length = m → ds[n.toNat]? = some d →
      (Instr.index t (.agg ds.toArray) (.int k n)).run P w = .ok d w := by
    intro ds k n u m ti d hd hu hs hag h0 hn hl hdn
    unfold Instr.index
    simp only [asIntOf, Sem.run_bind, Sem.run_pure, Result.andThen_ok, hT.desc (w := w) hd (by simp)]
    rw [if_pos ⟨h0, hn⟩, Sem.run_bind, (hT _ _ hu).run_sizeOf, Result.andThen_ok, hs, Nat.mul_one]
    obtain ⟨val, h1, _, h3⟩ := run_part (w := w) (hT _ _ hu) (ds := ds) (off := n.toNat) (by rw [hs]; omega) (fun _ => hs)
    rw [h1]
    have h3 := h3 hag
    rw [hs] at h3
    have h2 : (ds.drop n.toNat)[0]? = some d := by simpa using hdn
    cases e : ds.drop n.toNat with
    | nil => simp [e] at h2
    | cons q r => simp [e] at h2 h3; rw [← h3, h2]
  unfold cIndex
  split
  · rename_i l k n m u hd
    split
    · rename_i ti hu
      split
      · rename_i hs hag hlen
        have hlen := Nat.eq_of_beq_eq_true hlen
        obtain ⟨ds, rfl, hds⟩ := ha
        obtain ⟨rfl, hk⟩ := hi
        split
        · split
          · rename_i hb hz
            have h0 := blt'_false hz
            have hlt : n.toNat + 1 ≤ m := by simpa [Nat.blt] using hb
            obtain ⟨a, ha⟩ : ∃ a, l[n.toNat]? = some a := ⟨_, List.getElem?_eq_getElem (by omega)⟩
            obtain ⟨d, hd', hr⟩ := hds.get ha
            exact Snd.ok ⟨d, run hd hu hs hag h0 (by omega) (by rw [← hds.length]; exact hlen) hd', by rw [getD_of ha]; exact hr⟩
          · exact Snd.none
        · split
          · rename_i ns hns
            obtain ⟨h1, h2, h3⟩ := allInts_spec hns hds
            refine Snd.need fun ⟨h0, hlt⟩ => ?_
            obtain ⟨e1, e2⟩ := h3 n.toNat (by omega)
            exact ⟨_, run hd hu hs hag h0 (by omega) (by rw [← hds.length]; exact hlen) e1, rfl, e2⟩
          · exact Snd.none
      · exact Snd.none
    · exact Snd.none
  · exact Snd.none

/-- A value laid flat. -/
theorem flat_rep {a : AV} {x : Value} {m : List AS} (h : VRep σ β a x) (e : a.flat = some m) : All2 (ARep σ β) m x.cells.toList := by
  unfold AV.flat at e
  split at e
  · contradiction
  · rename_i s hs
    cases e
    have : x.cells = #[x] := by
      have hx : ARep σ β s x := h
      cases s with
      | int => obtain ⟨rfl, _⟩ := hx; rfl
      | bool => obtain rfl := hx; rfl
      | val u => obtain ⟨rfl, hu⟩ := hx; cases x <;> first | rfl | exact (hu _ rfl).elim
      | sl => obtain ⟨a, cap, e, _⟩ := hx; obtain rfl := (List.cons.inj e).1; rfl
      | mp => obtain ⟨r, e, _⟩ := hx; obtain rfl := (List.cons.inj e).1; rfl
      | pt _ o => cases o with
        | none => obtain rfl := (List.cons.inj (show _ = _ from hx)).1; rfl
        | some z => obtain ⟨_, _, _, e, _⟩ := hx; obtain rfl := (List.cons.inj e).1; rfl
      | ip => obtain ⟨_, _, _, rfl, _⟩ := hx; rfl
      | ipi => obtain ⟨_, _, _, rfl, _⟩ := hx; rfl
      | own id s n =>
        simp only [ARep] at hx
        split at hx
        · exact hx.elim
        · obtain ⟨rfl, _⟩ := hx; rfl
        · obtain ⟨_, _, rfl, _⟩ := hx; rfl
      | ptr => obtain ⟨_, _, rfl, _⟩ := hx; rfl
      | pti => obtain ⟨_, _, rfl, _⟩ := hx; rfl
      | omp => obtain ⟨_, _, rfl, _⟩ := hx; rfl
      | junk => exact (hs rfl).elim
    rw [this]; exact ⟨h, trivial⟩
  · rename_i l; cases e; obtain ⟨ds, rfl, hds⟩ := h; exact hds
  · contradiction
end
end Go.Vm
