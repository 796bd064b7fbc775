/- What the abstract values stand for, and the first lemmas on it. -/
import Derived.Test.YtkkhoppffmnkiaaVmDefs
import Derived.WalkKit
import Derived.Below
set_option linter.unusedSimpArgs false
set_option linter.unusedVariables false
namespace Go.Vm
open Go.RowKit

def All2 {α β : Type} (R : α → β → Prop) : List α → List β → Prop
  | [], [] => True
  | a :: l, b :: m => R a b ∧ All2 R l m
  | _, _ => False

section all2
variable {α β : Type} {R S : α → β → Prop}
theorem All2.length : ∀ {l : List α} {m : List β}, All2 R l m → l.length = m.length
  | [], [], _ => rfl
  | _ :: _, _ :: _, h => by simp [All2.length h.2]
  | [], _ :: _, h => h.elim
  | _ :: _, [], h => h.elim
theorem All2.mono (f : ∀ a b, R a b → S a b) : ∀ {l : List α} {m : List β}, All2 R l m → All2 S l m
  | [], [], _ => trivial
  | _ :: _, _ :: _, h => ⟨f _ _ h.1, All2.mono f h.2⟩
  | [], _ :: _, h => h.elim
  | _ :: _, [], h => h.elim
theorem All2.append : ∀ {l : List α} {m : List β} {l' m'}, All2 R l m → All2 R l' m' → All2 R (l ++ l') (m ++ m')
  | [], [], _, _, _, h => h
  | _ :: _, _ :: _, _, _, h, h' => ⟨h.1, All2.append h.2 h'⟩
  | [], _ :: _, _, _, h, _ => h.elim
  | _ :: _, [], _, _, h, _ => h.elim
theorem All2.get : ∀ {l : List α} {m : List β}, All2 R l m → ∀ {i : Nat} {a : α}, l[i]? = some a → ∃ b, m[i]? = some b ∧ R a b
  | [], [], _, _, _, h => by simp at h
  | _ :: _, b :: _, h, 0, a, e => by simp at e; subst e; exact ⟨b, rfl, h.1⟩
  | _ :: _, _ :: _, h, i + 1, a, e => by simpa using All2.get h.2 (by simpa using e)
  | [], _ :: _, h, _, _, _ => h.elim
  | _ :: _, [], h, _, _, _ => h.elim
theorem All2.take : ∀ {l : List α} {m : List β} (k : Nat), All2 R l m → All2 R (l.take k) (m.take k)
  | [], [], _, h => by simpa using h
  | _ :: _, _ :: _, 0, _ => trivial
  | _ :: _, _ :: _, k + 1, h => ⟨h.1, All2.take k h.2⟩
  | [], _ :: _, _, h => h.elim
  | _ :: _, [], _, h => h.elim
theorem All2.drop : ∀ {l : List α} {m : List β} (k : Nat), All2 R l m → All2 R (l.drop k) (m.drop k)
  | [], [], _, h => by simpa using h
  | _ :: _, _ :: _, 0, h => h
  | _ :: _, _ :: _, k + 1, h => All2.drop k h.2
  | [], _ :: _, _, h => h.elim
  | _ :: _, [], _, h => h.elim
theorem All2.map {γ : Type} {T : γ → β → Prop} (f : α → γ) (hf : ∀ a b, R a b → T (f a) b) : ∀ {l : List α} {m : List β}, All2 R l m → All2 T (l.map f) m
  | [], [], _ => trivial
  | _ :: _, _ :: _, h => ⟨hf _ _ h.1, All2.map f hf h.2⟩
  | [], _ :: _, h => h.elim
  | _ :: _, [], h => h.elim
theorem All2.split : ∀ {l l' : List α} {m : List β}, All2 R (l ++ l') m → ∃ m1 m2, m = m1 ++ m2 ∧ All2 R l m1 ∧ All2 R l' m2
  | [], _, m, h => ⟨[], m, rfl, trivial, h⟩
  | a :: l, l', b :: m, h => by
    obtain ⟨m1, m2, e, h1, h2⟩ := All2.split (l := l) (l' := l') h.2
    exact ⟨b :: m1, m2, by simp [e], ⟨h.1, h1⟩, h2⟩
  | _ :: _, _, [], h => h.elim
end all2

abbrev Sig := Nat → Option Obj

def CellsAt (σ : Sig) (b o : Nat) (ds : List Value) : Prop :=
  ∃ c T fz, σ b = some (.cells c T fz) ∧ ∀ j d, ds[j]? = some d → c[o + j]? = some d

def Sig.le (σ τ : Sig) : Prop := ∀ b o, σ b = some o → τ b = some o
theorem Sig.le.refl (σ : Sig) : σ.le σ := fun _ _ h => h
theorem Sig.le.trans {σ τ υ : Sig} (h : σ.le τ) (k : τ.le υ) : σ.le υ := fun b o e => k b o (h b o e)

theorem CellsAt.mono {σ τ : Sig} (h : σ.le τ) {b o : Nat} {ds : List Value} : CellsAt σ b o ds → CellsAt τ b o ds :=
  fun ⟨c, T, fz, e, r⟩ => ⟨c, T, fz, h _ _ e, r⟩

/-- A number of its kind. -/
def InK (k : IntKind) (n : Int) : Prop := k.wrap n = n

def keyVal (e : ETy) (d : List Value) : Value :=
  match e, d with
  | .arr2, d => .agg d.toArray
  | .arr3, d => .agg d.toArray
  | .pair _ _, d => .agg d.toArray
  | _, [v] => v
  | _, d => .agg d.toArray

def ERep (σ : Sig) : (e : ETy) → e.T → List Value → Prop
  | .int k, n, ds => ds = [.int k n] ∧ InK k n
  | .bool, b, ds => ds = [.bool b]
  | .arr2, x, ds => ds = [.int .i64 x.1, .int .i64 x.2] ∧ InK .i64 x.1 ∧ InK .i64 x.2
  | .arr3, x, ds => ds = [.int .i64 x.1, .int .i64 x.2.1, .int .i64 x.2.2] ∧ InK .i64 x.1 ∧ InK .i64 x.2.1 ∧ InK .i64 x.2.2
  | .pair a b, x, ds => ∃ d1 d2, ds = d1 ++ d2 ∧ ERep σ a x.1 d1 ∧ ERep σ b x.2 d2
  | .sl e, xs, ds => ∃ a cap, ds = [.slice a xs.length cap] ∧ xs.length ≤ 140737488355328 ∧ xs.length ≤ cap ∧
      (xs ≠ [] → ∃ b o, a = some ⟨b, o, none⟩ ∧ ∀ i x, xs[i]? = some x → ∃ d, ERep σ e x d ∧ CellsAt σ b (o + i * e.size) d)
  | .mp k v, m, ds => ∃ r, ds = [.map r] ∧ (m.map (·.1)).Nodup ∧ (r = none → m = []) ∧ ∀ b, r = some b → ∃ es clock, σ b = some (.map es clock) ∧ es.size = m.length ∧
      ∀ (i : Nat) (x : k.T × v.T), m[i]? = some x → ∃ (en : MapEntry) (dk dv : List Value), es[i]? = some en ∧ ERep σ k x.1 dk ∧ en.key = keyVal k dk ∧ ERep σ v x.2 dv ∧ en.val = keyVal v dv
  | .pt e, o, ds => match o with
    | none => ds = [.pointer none]
    | some x => ∃ b off d, ds = [.pointer (some ⟨b, off, none⟩)] ∧ ERep σ e x d ∧ CellsAt σ b off d
  | .unit, _, ds => ds = []

theorem ERep.length {σ : Sig} : ∀ {e : ETy} {x : e.T} {ds : List Value}, ERep σ e x ds → ds.length = e.size
  | .int _, _, _, h => by rw [h.1]; rfl
  | .bool, _, _, h => by rw [show _ = _ from h]; rfl
  | .arr2, _, _, h => by rw [h.1]; rfl
  | .arr3, _, _, h => by rw [h.1]; rfl
  | .pair _ _, _, _, h => by obtain ⟨d1, d2, rfl, h1, h2⟩ := h; simp [ETy.size, h1.length, h2.length]
  | .sl _, _, _, h => by obtain ⟨a, cap, rfl, _⟩ := h; rfl
  | .mp _ _, _, _, h => by obtain ⟨r, rfl, _⟩ := h; rfl
  | .pt _, none, _, h => by rw [show _ = _ from h]; rfl
  | .pt _, some _, _, h => by obtain ⟨b, off, d, rfl, _⟩ := h; rfl
  | .unit, _, _, h => by rw [show _ = _ from h]; rfl

theorem ERep.mono {σ τ : Sig} (hs : σ.le τ) : ∀ {e : ETy} {x : e.T} {ds : List Value}, ERep σ e x ds → ERep τ e x ds
  | .int _, _, _, h => h
  | .bool, _, _, h => h
  | .arr2, _, _, h => h
  | .arr3, _, _, h => h
  | .pair _ _, _, _, h => by obtain ⟨d1, d2, rfl, h1, h2⟩ := h; exact ⟨d1, d2, rfl, h1.mono hs, h2.mono hs⟩
  | .sl _, _, _, h => by
    obtain ⟨a, cap, rfl, hl, hc, h⟩ := h
    refine ⟨a, cap, rfl, hl, hc, fun hne => ?_⟩
    obtain ⟨b, o, ha, hr⟩ := h hne
    exact ⟨b, o, ha, fun i x hx => let ⟨d, h1, h2⟩ := hr i x hx; ⟨d, h1.mono hs, h2.mono hs⟩⟩
  | .mp _ _, _, _, h => by
    obtain ⟨r, rfl, hl, hn, h⟩ := h
    refine ⟨r, rfl, hl, hn, fun b hb => ?_⟩
    obtain ⟨es, clock, h1, h2, h3⟩ := h b hb
    exact ⟨es, clock, hs _ _ h1, h2, fun i x hx => let ⟨en, dk, dv, e1, e2, e3, e4, e5⟩ := h3 i x hx; ⟨en, dk, dv, e1, e2.mono hs, e3, e4.mono hs, e5⟩⟩
  | .pt _, none, _, h => h
  | .pt _, some _, _, h => by obtain ⟨b, off, d, rfl, h1, h2⟩ := h; exact ⟨b, off, d, rfl, h1.mono hs, h2.mono hs⟩
  | .unit, _, _, h => h

/-- Where an owned thing lies: its block, the first cell's place, the cells of an element, the block's cells, how many elements. -/
structure Bk where
  b : Nat
  o : Nat
  sz : Nat
  N : Nat
  L : Nat

abbrev Places := List (Option Bk)

def Scal (v : Value) : Prop := ∀ cs, v ≠ .agg cs

def ARep (σ : Sig) (β : Places) : AS → Value → Prop
  | .int k n, v => v = .int k n ∧ InK k n
  | .bool b, v => v = .bool b
  | .val u, v => v = u ∧ Scal u
  | .sl e xs, v => ERep σ (.sl e) xs [v]
  | .mp k u m, v => ERep σ (.mp k u) m [v]
  | .pt e o, v => ERep σ (.pt e) o [v]
  | .ip e x k, v => ∃ b o d, v = .pointer (some ⟨b, o + k, none⟩) ∧ ERep σ e x d ∧ CellsAt σ b o d
  | .ipi e x j, v => ∃ b o d, v = .pointer (some ⟨b, o + j, none⟩) ∧ ERep σ e x d ∧ CellsAt σ b o d ∧ j < e.size
  | .own id s n, v => match β[id]? with
    | none => False
    | some none => v = .slice none 0 0 ∧ s = 0 ∧ n = 0
    | some (some p) => ∃ a cap, v = .slice (some a) n cap ∧ n ≤ cap ∧ (cap = 0 ∨ a = ⟨p.b, p.o + s * p.sz, none⟩) ∧ p.o + (s + cap) * p.sz ≤ p.N ∧ s + n ≤ p.L
  | .ptr id i k, v => ∃ p, β[id]? = some (some p) ∧ v = .pointer (some ⟨p.b, p.o + i * p.sz + k, none⟩) ∧ i < p.L
  | .pti id i j, v => ∃ p, β[id]? = some (some p) ∧ v = .pointer (some ⟨p.b, p.o + i * p.sz + j, none⟩) ∧ i < p.L ∧ j < p.sz
  | .omp id, v => ∃ p, β[id]? = some (some p) ∧ v = .map (some p.b) ∧ p.o = 0
  | .junk, _ => True

theorem ARep.mono {σ τ : Sig} (hs : σ.le τ) {β : Places} {a : AS} {v : Value} (h : ARep σ β a v) : ARep τ β a v := by
  cases a with
  | int => exact h
  | bool => exact h
  | val => exact h
  | sl => exact ERep.mono hs h
  | mp => exact ERep.mono hs h
  | pt => exact ERep.mono hs h
  | ip => obtain ⟨b, o, d, e, h1, h2⟩ := h; exact ⟨b, o, d, e, h1.mono hs, h2.mono hs⟩
  | ipi => obtain ⟨b, o, d, e, h1, h2, h3⟩ := h; exact ⟨b, o, d, e, h1.mono hs, h2.mono hs, h3⟩
  | own => exact h
  | ptr => exact h
  | pti => exact h
  | omp => exact h
  | junk => exact h

theorem ARep.more {σ : Sig} {β : Places} {a : AS} {v : Value} (p : Option Bk) (h : ARep σ β a v) : ARep σ (β ++ [p]) a v := by
  have key : ∀ {id : Nat} {q : Option Bk}, β[id]? = some q → (β ++ [p])[id]? = some q := fun {id q} e => by
    rw [List.getElem?_append_left]; exact e
    exact (List.getElem?_eq_some_iff.1 e).1
  cases a with
  | own id s n =>
    simp only [ARep] at h ⊢
    cases e : β[id]? with
    | none => simp [e] at h
    | some q => rw [key e]; rw [e] at h; exact h
  | ptr => obtain ⟨q, e, r⟩ := h; exact ⟨q, key e, r⟩
  | pti => obtain ⟨q, e, r⟩ := h; exact ⟨q, key e, r⟩
  | omp => obtain ⟨q, e, r⟩ := h; exact ⟨q, key e, r⟩
  | _ => exact h

mutual
def VRep (σ : Sig) (β : Places) : AV → Value → Prop
  | .s a, v => ARep σ β a v
  | .agg l, v => ∃ ds : List Value, v = .agg ds.toArray ∧ All2 (ARep σ β) l ds
  | .tup l, v => ∃ vs : List Value, v = .tuple vs.toArray ∧ VReps σ β l vs
def VReps (σ : Sig) (β : Places) : List AV → List Value → Prop
  | [], [] => True
  | a :: l, v :: m => VRep σ β a v ∧ VReps σ β l m
  | _, _ => False
end

theorem vreps_all2 {σ : Sig} {β : Places} : ∀ {l : List AV} {m : List Value}, VReps σ β l m ↔ All2 (VRep σ β) l m
  | [], [] => Iff.rfl
  | _ :: _, _ :: _ => by simp only [VReps, All2, vreps_all2]
  | [], _ :: _ => Iff.rfl
  | _ :: _, [] => Iff.rfl

mutual
theorem VRep.map {σ τ : Sig} {β γ : Places} (f : ∀ a v, ARep σ β a v → ARep τ γ a v) : ∀ {a : AV} {v : Value}, VRep σ β a v → VRep τ γ a v
  | .s _, _, h => f _ _ h
  | .agg _, _, h => let ⟨ds, e, r⟩ := h; ⟨ds, e, r.mono f⟩
  | .tup _, _, h => let ⟨vs, e, r⟩ := h; ⟨vs, e, VReps.map f r⟩
theorem VReps.map {σ τ : Sig} {β γ : Places} (f : ∀ a v, ARep σ β a v → ARep τ γ a v) : ∀ {l : List AV} {m : List Value}, VReps σ β l m → VReps τ γ l m
  | [], [], _ => trivial
  | _ :: _, _ :: _, h => ⟨VRep.map f h.1, VReps.map f h.2⟩
  | [], _ :: _, h => h.elim
  | _ :: _, [], h => h.elim
end

theorem VRep.mono {σ τ : Sig} (hs : σ.le τ) {β : Places} {a : AV} {v : Value} (h : VRep σ β a v) : VRep τ β a v := h.map fun _ _ => ARep.mono hs
theorem VRep.more {σ : Sig} {β : Places} (p : Option Bk) {a : AV} {v : Value} (h : VRep σ β a v) : VRep σ (β ++ [p]) a v := h.map fun _ _ => ARep.more p

/-- The cells of a datum stand for what stands for it. -/
theorem ERep.cells {σ : Sig} {β : Places} : ∀ {e : ETy} {x : e.T} {ds : List Value}, ERep σ e x ds → All2 (ARep σ β) (e.cells x) ds
  | .int _, _, _, h => by obtain ⟨rfl, h⟩ := h; exact ⟨⟨rfl, h⟩, trivial⟩
  | .bool, _, _, h => by rw [show _ = _ from h]; exact ⟨rfl, trivial⟩
  | .arr2, _, _, h => by obtain ⟨rfl, h1, h2⟩ := h; exact ⟨⟨rfl, h1⟩, ⟨rfl, h2⟩, trivial⟩
  | .arr3, _, _, h => by obtain ⟨rfl, h1, h2, h3⟩ := h; exact ⟨⟨rfl, h1⟩, ⟨rfl, h2⟩, ⟨rfl, h3⟩, trivial⟩
  | .pair _ _, _, _, h => by obtain ⟨d1, d2, rfl, h1, h2⟩ := h; exact h1.cells.append h2.cells
  | .sl _, _, _, h => by obtain ⟨a, cap, rfl, hh⟩ := h; exact ⟨⟨a, cap, rfl, hh⟩, trivial⟩
  | .mp _ _, _, _, h => by obtain ⟨r, rfl, hh⟩ := h; exact ⟨⟨r, rfl, hh⟩, trivial⟩
  | .pt _, none, _, h => by rw [show _ = _ from h]; exact ⟨rfl, trivial⟩
  | .pt _, some _, _, h => by obtain ⟨b, off, d, rfl, hh⟩ := h; exact ⟨⟨b, off, d, rfl, hh⟩, trivial⟩
  | .unit, _, _, h => by rw [show _ = _ from h]; exact trivial

theorem All2.len_one {α β : Type} {R : α → β → Prop} {a : α} {m : List β} (h : All2 R [a] m) : ∃ b, m = [b] ∧ R a b := by
  match m, h with
  | [b], h => exact ⟨b, rfl, h.1⟩

theorem All2.len_nil {α β : Type} {R : α → β → Prop} {m : List β} (h : All2 R [] m) : m = [] := by
  match m, h with
  | [], _ => rfl

section
variable {σ : Sig} {β : Places} {ds : List Value}
theorem decInt_sound {k : IntKind} {l : List AS} {x : Int} (h : decInt k l = some x) (hr : All2 (ARep σ β) l ds) : ERep σ (.int k) x ds := by
  unfold decInt at h
  split at h
  · split at h
    · rename_i hk; subst hk; cases h; obtain ⟨b, rfl, hb⟩ := hr.len_one; exact ⟨by rw [hb.1], hb.2⟩
    · contradiction
  · contradiction
theorem decBool_sound {l : List AS} {x : Bool} (h : decBool l = some x) (hr : All2 (ARep σ β) l ds) : ERep σ .bool x ds := by
  unfold decBool at h
  split at h
  · cases h; obtain ⟨b, rfl, hb⟩ := hr.len_one; show _ = _; rw [show _ = _ from hb]
  · contradiction
theorem dec2_sound {l : List AS} {x : Int × Int} (h : dec2 l = some x) (hr : All2 (ARep σ β) l ds) : ERep σ .arr2 x ds := by
  unfold dec2 at h
  split at h
  · cases h
    match ds, hr with
    | [a, b], ⟨h1, h2, _⟩ => exact ⟨by rw [h1.1, h2.1], h1.2, h2.2⟩
  · contradiction
theorem dec3_sound {l : List AS} {x : Int × Int × Int} (h : dec3 l = some x) (hr : All2 (ARep σ β) l ds) : ERep σ .arr3 x ds := by
  unfold dec3 at h
  split at h
  · cases h
    match ds, hr with
    | [a, b, c], ⟨h1, h2, h3, _⟩ => exact ⟨by rw [h1.1, h2.1, h3.1], h1.2, h2.2, h3.2⟩
  · contradiction
theorem decSl_sound {e : ETy} {l : List AS} {x : List e.T} (h : decSl e l = some x) (hr : All2 (ARep σ β) l ds) : ERep σ (.sl e) x ds := by
  unfold decSl at h
  split at h
  · split at h
    · rename_i hk; subst hk; cases h; obtain ⟨b, rfl, hb⟩ := hr.len_one; exact hb
    · contradiction
  · cases h; obtain ⟨b, rfl, hb⟩ := hr.len_one; obtain ⟨rfl, _⟩ := hb; exact ⟨none, 0, rfl, by simp, by simp, fun h => (h rfl).elim⟩
  · contradiction
theorem decMp_sound {k v : ETy} {l : List AS} {x : List (k.T × v.T)} (h : decMp k v l = some x) (hr : All2 (ARep σ β) l ds) : ERep σ (.mp k v) x ds := by
  unfold decMp at h
  split at h
  · split at h
    · split at h
      · rename_i hk hk'; subst hk; subst hk'; cases h; obtain ⟨b, rfl, hb⟩ := hr.len_one; exact hb
      · contradiction
    · contradiction
  · contradiction
theorem decPt_sound {e : ETy} {l : List AS} {x : Option e.T} (h : decPt e l = some x) (hr : All2 (ARep σ β) l ds) : ERep σ (.pt e) x ds := by
  unfold decPt at h
  split at h
  · split at h
    · rename_i hk; subst hk; cases h; obtain ⟨b, rfl, hb⟩ := hr.len_one; exact hb
    · contradiction
  · cases h; obtain ⟨b, rfl, hb⟩ := hr.len_one; obtain ⟨rfl, _⟩ := hb; rfl
  · contradiction
theorem decUnit_sound {l : List AS} {x : Unit} (h : decUnit l = some x) (hr : All2 (ARep σ β) l ds) : ERep σ .unit x ds := by
  unfold decUnit at h
  split at h
  · exact hr.len_nil
  · contradiction
end

/-- What is read back out of cells. -/
theorem ETy.dec_sound {σ : Sig} {β : Places} : ∀ {e : ETy} {l : List AS} {x : e.T} {ds : List Value}, e.dec l = some x → All2 (ARep σ β) l ds → ERep σ e x ds
  | .int _, _, _, _, h, hr => decInt_sound h hr
  | .bool, _, _, _, h, hr => decBool_sound h hr
  | .arr2, _, _, _, h, hr => dec2_sound h hr
  | .arr3, _, _, _, h, hr => dec3_sound h hr
  | .pair a b, l, x, ds, h, hr => by
    unfold ETy.dec at h
    split at h
    · rename_i x1 x2 h1 h2
      cases h
      exact ⟨ds.take a.size, ds.drop a.size, by simp, ETy.dec_sound h1 (hr.take _), ETy.dec_sound h2 (hr.drop _)⟩
    · contradiction
  | .sl _, _, _, _, h, hr => decSl_sound h hr
  | .mp _ _, _, _, _, h, hr => decMp_sound h hr
  | .pt _, _, _, _, h, hr => decPt_sound h hr
  | .unit, _, _, _, h, hr => decUnit_sound h hr

theorem ofVal_rep {σ : Sig} {β : Places} {v : Value} (h : Scal v) (hk : ∀ k n, v = .int k n → InK k n) : ARep σ β (AS.ofVal v) v := by
  cases v <;> simp only [AS.ofVal] <;> first | exact ⟨rfl, hk _ _ rfl⟩ | exact rfl | exact ⟨rfl, h⟩

end Go.Vm
