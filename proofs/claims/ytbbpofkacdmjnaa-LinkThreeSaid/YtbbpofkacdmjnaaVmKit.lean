/- Contracts by data, and the checks of a table. -/
import Derived.Test.YtbbpofkacdmjnaaVmCode2toVmFun
import Derived.KernelRfl
set_option linter.unusedSimpArgs false
set_option linter.unusedVariables false
set_option maxHeartbeats 2000000
namespace Go.Vm

/-- What is left for later. -/
def Hold (p : Prop) : Prop := p
theorem Hold.out {p : Prop} (h : Hold p) : p := h
theorem Hold.intro {p : Prop} (h : p) : Hold p := h
def HoldEq (a b : AV) : Prop := a = b
theorem HoldEq.out {a b : AV} (h : HoldEq a b) : a = b := h
theorem HoldEq.intro {a b : AV} (h : a = b) : HoldEq a b := h
def HoldOr (a b : Prop) : Prop := a ∨ b
theorem HoldOr.out {a b : Prop} (h : HoldOr a b) : a ∨ b := h
theorem HoldOr.intro {a b : Prop} (h : a ∨ b) : HoldOr a b := h
def HoldOb (a b : Ob) : Prop := a = b
theorem HoldOb.out {a b : Ob} (h : HoldOb a b) : some a = some b := congrArg some h
theorem HoldOb.intro {a b : Ob} (h : a = b) : HoldOb a b := h
def HoldObs (a b : List Ob) : Prop := a = b
theorem HoldObs.out {a b : List Ob} (h : HoldObs a b) : a = b := h
theorem HoldObs.intro {a b : List Ob} (h : a = b) : HoldObs a b := h
attribute [irreducible] Hold HoldEq HoldOr HoldOb HoldObs
theorem HoldObs.row {e : ETy} {u : TypeId} {m n : List e.T} (h : m = n) : HoldObs [.row e u m] [.row e u n] := HoldObs.intro (by rw [h])
theorem HoldOb.row {e : ETy} {u : TypeId} {m n : List e.T} (h : m = n) : HoldOb (.row e u m) (.row e u n) := HoldOb.intro (by rw [h])
theorem HoldOb.map {k v : ETy} {m n : List (k.T × v.T)} (h : m = n) : HoldOb (.map k v m) (.map k v n) := HoldOb.intro (by rw [h])
theorem HoldOb.gmap {k e : ETy} {m n : List (k.T × List e.T)} (h : m = n) : HoldOb (.gmap k e m) (.gmap k e n) := HoldOb.intro (by rw [h])
theorem HoldOb.grow {e : ETy} {u : TypeId} {m n : List (List e.T)} (h : m = n) : HoldOb (.grow e u m) (.grow e u n) := HoldOb.intro (by rw [h])
theorem HoldEq.int {k : IntKind} {m n : Int} (h : m = n) : HoldEq (.s (.int k m)) (.s (.int k n)) := HoldEq.intro (by rw [h])
theorem HoldEq.bool {m n : Bool} (h : m = n) : HoldEq (.s (.bool m)) (.s (.bool n)) := HoldEq.intro (by rw [h])
theorem HoldEq.sl {e : ETy} {m n : List e.T} (h : m = n) : HoldEq (.s (.sl e m)) (.s (.sl e n)) := HoldEq.intro (by rw [h])
theorem pair_eta {α β : Type _} (p : α × β) : (p.1, p.2) = p := rfl
theorem rec_self {α : Sort _} {a : α} {motive : (b : α) → a = b → Sort _} (x : motive a rfl) (h : a = a) : @Eq.rec α a motive x a h = x := rfl

/-- A datum as a value. -/
def ETy.av (e : ETy) (x : e.T) : AV :=
  match e.isAgg with
  | true => .agg (e.cells x)
  | false => match e.cells x with
    | [a] => .s a
    | _ => .junk

def ETy.of (e : ETy) (v : AV) : Option e.T :=
  match v.isAgg == e.isAgg, v.flat with
  | true, some l => e.dec l
  | _, _ => none

section
variable {P : Program} {T : Tab} {σ : Sig} {β : Places}

theorem ETy.cells_one : ∀ {e : ETy} {x : e.T}, e.isAgg = false → ∃ a, e.cells x = [a]
  | .int _, _, _ => ⟨_, rfl⟩
  | .bool, _, _ => ⟨_, rfl⟩
  | .sl _, _, _ => ⟨_, rfl⟩
  | .mp _ _, _, _ => ⟨_, rfl⟩
  | .pt _, _, _ => ⟨_, rfl⟩
  | .fnc, _, _ => ⟨_, rfl⟩

theorem ETy.av_rep {e : ETy} {x : e.T} {ds : List Value} (h : ERep σ e x ds) : VRep σ β (e.av x) (keyVal e ds) := by
  unfold ETy.av
  cases hg : e.isAgg with
  | true => exact ⟨ds, keyVal_agg h.length hg, h.cells⟩
  | false =>
    obtain ⟨a, ha⟩ := ETy.cells_one (x := x) hg
    have hc := h.cells (β := β)
    rw [ha] at hc ⊢
    obtain ⟨d, rfl, hd⟩ := hc.len_one
    rw [keyVal_one hg]
    exact hd

theorem ETy.of_rep {e : ETy} {v : AV} {x : e.T} {val : Value} (h : e.of v = some x) (hv : VRep σ β v val) : ERep σ e x val.cells.toList ∧ VRep σ β (e.av x) val := by
  unfold ETy.of at h
  split at h
  · rename_i hb hl
    have h1 := ETy.dec_sound h (flat_rep hv hl)
    refine ⟨h1, ?_⟩
    have h2 := keyVal_of hv hl (by simpa using hb) h1.length
    have h3 := ETy.av_rep (β := β) h1
    rw [← h2] at h3
    exact h3
  · cases h

theorem FnOk.imp {f : FuncId} {args args' : List AV} {r : Res} (h : FnOk P f args' r) (hi : ∀ σ vals, VReps σ [] args vals → VReps σ [] args' vals) : FnOk P f args r :=
  fun σ vals w h1 h2 => h σ vals w h1 (hi σ vals h2)

def con1 {ρ : Type} (a : ETy) (f : a.T → Option ρ) : List AV → Option ρ
  | [u] => match a.of u with
    | some x => f x
    | _ => none
  | _ => none
def con2 {ρ : Type} (a b : ETy) (f : a.T → b.T → Option ρ) : List AV → Option ρ
  | [u, v] => match a.of u, b.of v with
    | some x, some y => f x y
    | _, _ => none
  | _ => none
def con3 {ρ : Type} (a b c : ETy) (f : a.T → b.T → c.T → Option ρ) : List AV → Option ρ
  | [u, v, w] => match a.of u, b.of v, c.of w with
    | some x, some y, some z => f x y z
    | _, _, _ => none
  | _ => none
def con4 {ρ : Type} (a b c d : ETy) (f : a.T → b.T → c.T → d.T → Option ρ) : List AV → Option ρ
  | [u, v, w, s] => match a.of u, b.of v, c.of w, d.of s with
    | some x, some y, some z, some q => f x y z q
    | _, _, _, _ => none
  | _ => none

def con5 {ρ : Type} (a b c d e : ETy) (f : a.T → b.T → c.T → d.T → e.T → Option ρ) : List AV → Option ρ
  | [u, v, w, s, t] => match a.of u, b.of v, c.of w, d.of s, e.of t with
    | some x, some y, some z, some q, some k => f x y z q k
    | _, _, _, _, _ => none
  | _ => none
def con6 {ρ : Type} (a b c d e g : ETy) (f : a.T → b.T → c.T → d.T → e.T → g.T → Option ρ) : List AV → Option ρ
  | [u, v, w, s, t, i] => match a.of u, b.of v, c.of w, d.of s, e.of t, g.of i with
    | some x, some y, some z, some q, some k, some m => f x y z q k m
    | _, _, _, _, _, _ => none
  | _ => none

theorem con1_ok {a : ETy} {f : a.T → Option Res} {n : FuncId} (h : ∀ x r, f x = some r → FnOk P n [a.av x] r) : ∀ args r, con1 a f args = some r → FnOk P n args r := by
  intro args r e
  unfold con1 at e
  split at e
  · split at e
    · rename_i x hx
      refine (h _ _ e).imp fun σ vals hv => ?_
      match vals, hv with
      | [v], hv => exact ⟨(ETy.of_rep hx hv.1).2, trivial⟩
    · cases e
  · cases e

theorem con2_ok {a b : ETy} {f : a.T → b.T → Option Res} {n : FuncId} (h : ∀ x y r, f x y = some r → FnOk P n [a.av x, b.av y] r) : ∀ args r, con2 a b f args = some r → FnOk P n args r := by
  intro args r e
  unfold con2 at e
  split at e
  · split at e
    · rename_i x y hx hy
      refine (h _ _ _ e).imp fun σ vals hv => ?_
      match vals, hv with
      | [v, w], hv => exact ⟨(ETy.of_rep hx hv.1).2, (ETy.of_rep hy hv.2.1).2, trivial⟩
    · cases e
  · cases e

theorem con3_ok {a b c : ETy} {f : a.T → b.T → c.T → Option Res} {n : FuncId} (h : ∀ x y z r, f x y z = some r → FnOk P n [a.av x, b.av y, c.av z] r) : ∀ args r, con3 a b c f args = some r → FnOk P n args r := by
  intro args r e
  unfold con3 at e
  split at e
  · split at e
    · rename_i x y z hx hy hz
      refine (h _ _ _ _ e).imp fun σ vals hv => ?_
      match vals, hv with
      | [v, w, u], hv => exact ⟨(ETy.of_rep hx hv.1).2, (ETy.of_rep hy hv.2.1).2, (ETy.of_rep hz hv.2.2.1).2, trivial⟩
    · cases e
  · cases e

theorem con4_ok {a b c d : ETy} {f : a.T → b.T → c.T → d.T → Option Res} {n : FuncId} (h : ∀ x y z s r, f x y z s = some r → FnOk P n [a.av x, b.av y, c.av z, d.av s] r) : ∀ args r, con4 a b c d f args = some r → FnOk P n args r := by
  intro args r e
  unfold con4 at e
  split at e
  · split at e
    · rename_i x y z s hx hy hz hs
      refine (h _ _ _ _ _ e).imp fun σ vals hv => ?_
      match vals, hv with
      | [v, w, u, t], hv => exact ⟨(ETy.of_rep hx hv.1).2, (ETy.of_rep hy hv.2.1).2, (ETy.of_rep hz hv.2.2.1).2, (ETy.of_rep hs hv.2.2.2.1).2, trivial⟩
    · cases e
  · cases e

theorem con5_ok {a b c d e' : ETy} {f : a.T → b.T → c.T → d.T → e'.T → Option Res} {n : FuncId} (h : ∀ x y z s t r, f x y z s t = some r → FnOk P n [a.av x, b.av y, c.av z, d.av s, e'.av t] r) : ∀ args r, con5 a b c d e' f args = some r → FnOk P n args r := by
  intro args r e
  unfold con5 at e
  split at e
  · split at e
    · rename_i x y z s t hx hy hz hs ht
      refine (h _ _ _ _ _ _ e).imp fun σ vals hv => ?_
      match vals, hv with
      | [v, w, u, t, i], hv => exact ⟨(ETy.of_rep hx hv.1).2, (ETy.of_rep hy hv.2.1).2, (ETy.of_rep hz hv.2.2.1).2, (ETy.of_rep hs hv.2.2.2.1).2, (ETy.of_rep ht hv.2.2.2.2.1).2, trivial⟩
    · cases e
  · cases e
theorem con6_ok {a b c d e' g : ETy} {f : a.T → b.T → c.T → d.T → e'.T → g.T → Option Res} {n : FuncId} (h : ∀ x y z s t u r, f x y z s t u = some r → FnOk P n [a.av x, b.av y, c.av z, d.av s, e'.av t, g.av u] r) : ∀ args r, con6 a b c d e' g f args = some r → FnOk P n args r := by
  intro args r e
  unfold con6 at e
  split at e
  · split at e
    · rename_i x y z s t u hx hy hz hs ht hu
      refine (h _ _ _ _ _ _ _ e).imp fun σ vals hv => ?_
      match vals, hv with
      | [v, w, u, t, i, j], hv => exact ⟨(ETy.of_rep hx hv.1).2, (ETy.of_rep hy hv.2.1).2, (ETy.of_rep hz hv.2.2.1).2, (ETy.of_rep hs hv.2.2.2.1).2, (ETy.of_rep ht hv.2.2.2.2.1).2, (ETy.of_rep hu hv.2.2.2.2.2.1).2, trivial⟩
    · cases e
  · cases e

theorem FnOkF.imp {f : FuncId} {args args' : List AV} {r : ResF} (h : FnOkF P f args' r) (hi : ∀ σ vals, VReps σ [] args vals → VReps σ [] args' vals) : FnOkF P f args r :=
  fun σ vals w h1 h2 => h σ vals w h1 (hi σ vals h2)
theorem con1_okG {ρ : Type} {Ok : List AV → ρ → Prop} (hi : ∀ args args' r, Ok args' r → (∀ σ vals, VReps σ [] args vals → VReps σ [] args' vals) → Ok args r) {a : ETy} {f : a.T → Option ρ} (h : ∀ x r, f x = some r → Ok [a.av x] r) : ∀ args r, con1 a f args = some r → Ok args r := by
  intro args r e
  unfold con1 at e
  split at e
  · split at e
    · rename_i x hx
      refine hi _ _ _ (h _ _ e) fun σ vals hv => ?_
      match vals, hv with
      | [v], hv => exact ⟨(ETy.of_rep hx hv.1).2, trivial⟩
    · cases e
  · cases e
theorem con1_okF {a : ETy} {f : a.T → Option ResF} {n : FuncId} (h : ∀ x r, f x = some r → FnOkF P n [a.av x] r) : ∀ args r, con1 a f args = some r → FnOkF P n args r :=
  con1_okG (Ok := FnOkF P n) (fun _ _ _ h hi => FnOkF.imp h hi) h
theorem con2_okG {ρ : Type} {Ok : List AV → ρ → Prop} (hi : ∀ args args' r, Ok args' r → (∀ σ vals, VReps σ [] args vals → VReps σ [] args' vals) → Ok args r) {a b : ETy} {f : a.T → b.T → Option ρ} (h : ∀ x y r, f x y = some r → Ok [a.av x, b.av y] r) : ∀ args r, con2 a b f args = some r → Ok args r := by
  intro args r e
  unfold con2 at e
  split at e
  · split at e
    · rename_i x y hx hy
      refine hi _ _ _ (h _ _ _ e) fun σ vals hv => ?_
      match vals, hv with
      | [v, w], hv => exact ⟨(ETy.of_rep hx hv.1).2, (ETy.of_rep hy hv.2.1).2, trivial⟩
    · cases e
  · cases e
theorem con2_okF {a b : ETy} {f : a.T → b.T → Option ResF} {n : FuncId} (h : ∀ x y r, f x y = some r → FnOkF P n [a.av x, b.av y] r) : ∀ args r, con2 a b f args = some r → FnOkF P n args r :=
  con2_okG (Ok := FnOkF P n) (fun _ _ _ h hi => FnOkF.imp h hi) h
theorem con3_okG {ρ : Type} {Ok : List AV → ρ → Prop} (hi : ∀ args args' r, Ok args' r → (∀ σ vals, VReps σ [] args vals → VReps σ [] args' vals) → Ok args r) {a b c : ETy} {f : a.T → b.T → c.T → Option ρ} (h : ∀ x y z r, f x y z = some r → Ok [a.av x, b.av y, c.av z] r) : ∀ args r, con3 a b c f args = some r → Ok args r := by
  intro args r e
  unfold con3 at e
  split at e
  · split at e
    · rename_i x y z hx hy hz
      refine hi _ _ _ (h _ _ _ _ e) fun σ vals hv => ?_
      match vals, hv with
      | [v, w, u], hv => exact ⟨(ETy.of_rep hx hv.1).2, (ETy.of_rep hy hv.2.1).2, (ETy.of_rep hz hv.2.2.1).2, trivial⟩
    · cases e
  · cases e
theorem con3_okF {a b c : ETy} {f : a.T → b.T → c.T → Option ResF} {n : FuncId} (h : ∀ x y z r, f x y z = some r → FnOkF P n [a.av x, b.av y, c.av z] r) : ∀ args r, con3 a b c f args = some r → FnOkF P n args r :=
  con3_okG (Ok := FnOkF P n) (fun _ _ _ h hi => FnOkF.imp h hi) h
theorem con4_okG {ρ : Type} {Ok : List AV → ρ → Prop} (hi : ∀ args args' r, Ok args' r → (∀ σ vals, VReps σ [] args vals → VReps σ [] args' vals) → Ok args r) {a b c d : ETy} {f : a.T → b.T → c.T → d.T → Option ρ} (h : ∀ x y z s r, f x y z s = some r → Ok [a.av x, b.av y, c.av z, d.av s] r) : ∀ args r, con4 a b c d f args = some r → Ok args r := by
  intro args r e
  unfold con4 at e
  split at e
  · split at e
    · rename_i x y z s hx hy hz hs
      refine hi _ _ _ (h _ _ _ _ _ e) fun σ vals hv => ?_
      match vals, hv with
      | [v, w, u, i], hv => exact ⟨(ETy.of_rep hx hv.1).2, (ETy.of_rep hy hv.2.1).2, (ETy.of_rep hz hv.2.2.1).2, (ETy.of_rep hs hv.2.2.2.1).2, trivial⟩
    · cases e
  · cases e
theorem con4_okF {a b c d : ETy} {f : a.T → b.T → c.T → d.T → Option ResF} {n : FuncId} (h : ∀ x y z s r, f x y z s = some r → FnOkF P n [a.av x, b.av y, c.av z, d.av s] r) : ∀ args r, con4 a b c d f args = some r → FnOkF P n args r :=
  con4_okG (Ok := FnOkF P n) (fun _ _ _ h hi => FnOkF.imp h hi) h
theorem con5_okG {ρ : Type} {Ok : List AV → ρ → Prop} (hi : ∀ args args' r, Ok args' r → (∀ σ vals, VReps σ [] args vals → VReps σ [] args' vals) → Ok args r) {a b c d e' : ETy} {f : a.T → b.T → c.T → d.T → e'.T → Option ρ} (h : ∀ x y z s t r, f x y z s t = some r → Ok [a.av x, b.av y, c.av z, d.av s, e'.av t] r) : ∀ args r, con5 a b c d e' f args = some r → Ok args r := by
  intro args r e
  unfold con5 at e
  split at e
  · split at e
    · rename_i x y z s t hx hy hz hs ht
      refine hi _ _ _ (h _ _ _ _ _ _ e) fun σ vals hv => ?_
      match vals, hv with
      | [v, w, u, i, j], hv => exact ⟨(ETy.of_rep hx hv.1).2, (ETy.of_rep hy hv.2.1).2, (ETy.of_rep hz hv.2.2.1).2, (ETy.of_rep hs hv.2.2.2.1).2, (ETy.of_rep ht hv.2.2.2.2.1).2, trivial⟩
    · cases e
  · cases e
theorem con5_okF {a b c d e' : ETy} {f : a.T → b.T → c.T → d.T → e'.T → Option ResF} {n : FuncId} (h : ∀ x y z s t r, f x y z s t = some r → FnOkF P n [a.av x, b.av y, c.av z, d.av s, e'.av t] r) : ∀ args r, con5 a b c d e' f args = some r → FnOkF P n args r :=
  con5_okG (Ok := FnOkF P n) (fun _ _ _ h hi => FnOkF.imp h hi) h
theorem con6_okG {ρ : Type} {Ok : List AV → ρ → Prop} (hi : ∀ args args' r, Ok args' r → (∀ σ vals, VReps σ [] args vals → VReps σ [] args' vals) → Ok args r) {a b c d e' g : ETy} {f : a.T → b.T → c.T → d.T → e'.T → g.T → Option ρ} (h : ∀ x y z s t u r, f x y z s t u = some r → Ok [a.av x, b.av y, c.av z, d.av s, e'.av t, g.av u] r) : ∀ args r, con6 a b c d e' g f args = some r → Ok args r := by
  intro args r e
  unfold con6 at e
  split at e
  · split at e
    · rename_i x y z s t u hx hy hz hs ht hu
      refine hi _ _ _ (h _ _ _ _ _ _ _ e) fun σ vals hv => ?_
      match vals, hv with
      | [v, w, u, i, j, k], hv => exact ⟨(ETy.of_rep hx hv.1).2, (ETy.of_rep hy hv.2.1).2, (ETy.of_rep hz hv.2.2.1).2, (ETy.of_rep hs hv.2.2.2.1).2, (ETy.of_rep ht hv.2.2.2.2.1).2, (ETy.of_rep hu hv.2.2.2.2.2.1).2, trivial⟩
    · cases e
  · cases e
theorem con6_okF {a b c d e' g : ETy} {f : a.T → b.T → c.T → d.T → e'.T → g.T → Option ResF} {n : FuncId} (h : ∀ x y z s t u r, f x y z s t u = some r → FnOkF P n [a.av x, b.av y, c.av z, d.av s, e'.av t, g.av u] r) : ∀ args r, con6 a b c d e' g f args = some r → FnOkF P n args r :=
  con6_okG (Ok := FnOkF P n) (fun _ _ _ h hi => FnOkF.imp h hi) h
/-! ### The table -/
theorem lget_mem {α : Type} : ∀ {l : List (Nat × α)} {t : Nat} {x : α}, lget l t = some x → (t, x) ∈ l
  | [], _, _, h => by cases h
  | (k, v) :: r, t, x, h => by
    simp only [lget] at h
    split at h
    · rename_i e
      cases h
      rw [Nat.eq_of_beq_eq_true e]; simp
    · exact List.mem_cons_of_mem _ (lget_mem h)

def stoodB (P : Program) (t : TypeId) (d : TypeDesc) : Bool := match d with
  | .struct fs => !P.stoodInHeld t && fs.toList.all fun f => f.name != "_"
  | _ => true
theorem stoodB_spec {t : TypeId} {d : TypeDesc} (h : stoodB P t d = true) : ∀ fs, d = .struct fs → P.stoodInHeld t = false ∧ ∀ f ∈ fs.toList, f.name ≠ "_" := by
  rintro fs rfl
  simp only [stoodB, Bool.and_eq_true, Bool.not_eq_true', List.all_eq_true, bne_iff_ne, ne_eq] at h
  exact h
def AllTy (P : Program) : List (Nat × TI) → Prop
  | [] => True
  | x :: r => TyOk P x.1 x.2 ∧ AllTy P r

theorem AllTy.cons {t : Nat} {ti : TI} {r : List (Nat × TI)} (h1 : P.underlying t = some ti.desc) (h2 : (P.info? t).map (fun i => (i.size, i.bytes, i.zero.map fun z => z.cells.toList)) = some (ti.size, ti.bytes, some ti.zl))
    (h3 : ti.zl.all cellOk = true) (h4 : ti.zl.length = ti.size) (h5 : stoodB P t ti.desc = true) (h : AllTy P r) : AllTy P ((t, ti) :: r) := ⟨⟨h1, h2, h3, h4, stoodB_spec h5⟩, h⟩
theorem AllTy.mem : ∀ {l : List (Nat × TI)}, AllTy P l → ∀ x ∈ l, TyOk P x.1 x.2
  | _ :: _, h, x, hx => by
    cases List.mem_cons.1 hx with
    | inl e => subst e; exact h.1
    | inr e => exact AllTy.mem h.2 x e

theorem tabOk_of (h : AllTy P T.ty) : TabOk P T := fun _ _ e => h.mem _ (lget_mem e)

theorem tabOne_of (h : (T.ty.all fun x => isAggD x.2.desc || x.2.size == 1) = true) : TabOne T := fun t ti e hn => by
  have := List.all_eq_true.1 h _ (lget_mem e)
  simpa [hn] using this

def AllEty : List (Nat × TI) → Prop
  | [] => True
  | x :: r => (∀ e, x.2.ety = some e → x.2.zl = e.zeroVals ∧ x.2.size = e.size) ∧ AllEty r
theorem AllEty.mem : ∀ {l : List (Nat × TI)}, AllEty l → ∀ x ∈ l, ∀ e, x.2.ety = some e → x.2.zl = e.zeroVals ∧ x.2.size = e.size
  | _ :: _, h, x, hx => by
    cases List.mem_cons.1 hx with
    | inl e => subst e; exact h.1
    | inr e => exact AllEty.mem h.2 x e
theorem tabEty_of (h : AllEty T.ty) : TabEty T := fun _ _ e => h.mem _ (lget_mem e)
theorem ety_some {ti : TI} {e' : ETy} (h : ti.ety = some e') (hz : ti.zl = e'.zeroVals) (hs : ti.size = e'.size) : ∀ e, ti.ety = some e → ti.zl = e.zeroVals ∧ ti.size = e.size := fun e he => by
  rw [h] at he; cases he; exact ⟨hz, hs⟩
theorem ety_none {ti : TI} (h : ti.ety = none) : ∀ e, ti.ety = some e → ti.zl = e.zeroVals ∧ ti.size = e.size := fun e he => by rw [h] at he; cases he

/-- Of each map in the table: its keys and its values. -/
def AllMap (P : Program) (T : Tab) : List (Nat × TI) → Prop
  | [] => True
  | x :: r => (∀ kt u, x.2.desc = .map kt u → ∀ ki ui k e, T.info kt = some ki → T.info u = some ui → ki.ety = some k → ui.ety = some e → MapOk P kt u k e) ∧ AllMap P T r
theorem AllMap.mem : ∀ {l : List (Nat × TI)}, AllMap P T l → ∀ x ∈ l, ∀ kt u, x.2.desc = .map kt u → ∀ ki ui k e, T.info kt = some ki → T.info u = some ui → ki.ety = some k → ui.ety = some e → MapOk P kt u k e
  | _ :: _, h, x, hx => by
    cases List.mem_cons.1 hx with
    | inl e => subst e; exact h.1
    | inr e => exact AllMap.mem h.2 x e
theorem tabMap_of (h : AllMap P T T.ty) : TabMap P T := fun t kt u hd => by
  unfold Tab.desc at hd
  cases e : lget T.ty t with
  | none => simp [e] at hd
  | some ti => simp only [e] at hd; exact h.mem _ (lget_mem e) kt u hd
def isMapD : TypeDesc → Bool
  | .map _ _ => true
  | _ => false
theorem map_not {d : TypeDesc} (h : isMapD d = false) {Q : Nat → Nat → Prop} : ∀ kt u, d = .map kt u → Q kt u := fun kt u e => by subst e; cases h
theorem map_is {kt u : TypeId} {ki ui : TI} {k e : ETy} (h1 : T.info kt = some ki) (h2 : T.info u = some ui) (h3 : ki.ety = some k) (h4 : ui.ety = some e) (hm : MapOk P kt u k e) {d : TypeDesc} (hd : d = .map kt u) :
    ∀ kt u, d = .map kt u → ∀ ki ui k e, T.info kt = some ki → T.info u = some ui → ki.ety = some k → ui.ety = some e → MapOk P kt u k e := by
  intro kt' u' hd' ki' ui' k' e' g1 g2 g3 g4
  rw [hd] at hd'; cases hd'
  rw [h1] at g1; cases g1
  rw [h2] at g2; cases g2
  rw [h3] at g3; cases g3
  rw [h4] at g4; cases g4
  exact hm

/-- What is proved of functions. -/
def AllFn (P : Program) : List (Nat × (List AV → Option Res)) → Prop
  | [] => True
  | x :: r => ((∀ args r, x.2 args = some r → FnOk P x.1 args r) ∧ ∃ fn, P.funcs[x.1]? = some fn ∧ (fn.name == "runtime.NumGoroutine") = false ∧ fn.body.isNone = false) ∧ AllFn P r
theorem AllFn.mem : ∀ {l : List (Nat × (List AV → Option Res))}, AllFn P l → ∀ x ∈ l, (∀ args r, x.2 args = some r → FnOk P x.1 args r) ∧ ∃ fn, P.funcs[x.1]? = some fn ∧ (fn.name == "runtime.NumGoroutine") = false ∧ fn.body.isNone = false
  | _ :: _, h, x, hx => by
    cases List.mem_cons.1 hx with
    | inl e => subst e; exact h.1
    | inr e => exact AllFn.mem h.2 x e
theorem tabFn_of (h : AllFn P T.fn) : TabFn P T := ⟨fun _ _ e => (h.mem _ (lget_mem e)).1, fun _ _ e => (h.mem _ (lget_mem e)).2⟩

def FrOk (P : Program) (f : FuncId) : FrE → Prop
  | .res c => ∀ args r, c args = some r → FnOkF P f args r
  | .run h => RunOk P f h
def AllFr (P : Program) : List (Nat × FrE) → Prop
  | [] => True
  | x :: r => (FrOk P x.1 x.2 ∧ ∃ fn, P.funcs[x.1]? = some fn ∧ (fn.name == "runtime.NumGoroutine") = false ∧ fn.body.isNone = false) ∧ AllFr P r
theorem AllFr.mem : ∀ {l : List (Nat × FrE)}, AllFr P l → ∀ x ∈ l, FrOk P x.1 x.2 ∧ ∃ fn, P.funcs[x.1]? = some fn ∧ (fn.name == "runtime.NumGoroutine") = false ∧ fn.body.isNone = false
  | _ :: _, h, x, hx => by
    cases List.mem_cons.1 hx with
    | inl e => subst e; exact h.1
    | inr e => exact AllFr.mem h.2 x e
theorem tabFr_of (h : AllFr P T.fr) : TabFr P T := ⟨fun _ _ e => (h.mem _ (lget_mem e)).1, fun _ _ e => (h.mem _ (lget_mem e)).1, fun _ _ e => (h.mem _ (lget_mem e)).2⟩

/-- The rules of a table of types, whatever is proved of functions. -/
theorem rules_of {ty : List (Nat × TI)} (h1 : AllTy P ty) (h2 : (ty.all fun x => isAggD x.2.desc || x.2.size == 1) = true) (h3 : AllEty ty) (h4 : ∀ fn fr, AllMap P ⟨ty, fn, fr⟩ ty) (h5 : P.follows .mixedOrders = true)
    {fn : List (Nat × (List AV → Option Res))} {fr : List (Nat × FrE)} (hf : AllFn P fn) (hr : AllFr P fr) : Rules P ⟨ty, fn, fr⟩ :=
  ⟨tabOk_of h1, tabOne_of h2, tabEty_of h3, tabFn_of hf, tabFr_of hr, h5, tabMap_of (h4 fn fr)⟩
/-! ### A function, by one check -/
def fnCheck (fn : Func) (m : Nat) : Bool :=
  match fn.body with
  | some c => codeOk fn.ntmps c && Nat.ble m fn.ntmps
  | _ => false

theorem fn_by (R : Rules P T) {f : FuncId} {fn : Func} (hf : P.funcs[f]? = some fn) {args : List AV} (hchk : fnCheck fn args.length = true) {q : Option Prop} {u : AV} (h : goodArgs args → Opt q → afun T fn args (fun v => v = u)) : FnOk P f args (none, q, u) := by
  unfold fnCheck at hchk
  split at hchk
  · rename_i c hc
    simp only [Bool.and_eq_true] at hchk
    exact fn_ok R hf hc hchk.1 (Nat.le_of_ble_eq_true hchk.2) h
  · cases hchk
theorem fn_byF (R : Rules P T) {f : FuncId} {fn : Func} (hf : P.funcs[f]? = some fn) {args : List AV} (hchk : fnCheck fn args.length = true) {q : Option Prop} {u : AV} {us : List Ob} (h : goodArgs args → Opt q → afunF T fn args (fun v obs => v = u ∧ obs = us)) : FnOkF P f args (none, q, u, us) := by
  unfold fnCheck at hchk
  split at hchk
  · rename_i c hc
    simp only [Bool.and_eq_true] at hchk
    exact fn_okF R hf hc hchk.1 (Nat.le_of_ble_eq_true hchk.2) h
  · cases hchk
theorem fn_byFN (R : Rules P T) {f : FuncId} {fn : Func} (hf : P.funcs[f]? = some fn) {args : List AV} (hchk : fnCheck fn args.length = true) {q : Option Prop} {e : ETy} {t : TypeId} {xs : List e.T} (h : goodArgs args → Opt q → afunF T fn args (fun v obs => (v = .s (.own 0 0 xs.length) ∧ obs = [.row e t xs]) ∨ (v = .s (.val (.slice none 0 0)) ∧ obs = [] ∧ xs = []))) :
    FnOkF P f args (none, q, .s (.own 0 0 xs.length), [.row e t xs]) := by
  unfold fnCheck at hchk
  split at hchk
  · rename_i c hc
    simp only [Bool.and_eq_true] at hchk
    exact fn_okFN R hf hc hchk.1 (Nat.le_of_ble_eq_true hchk.2) h
  · cases hchk
def FnRowF (P : Program) (f : Nat) (c : List AV → Option ResF) : Prop := (∀ args r, c args = some r → FnOkF P f args r) ∧ ∃ fn, P.funcs[f]? = some fn ∧ (fn.name == "runtime.NumGoroutine") = false ∧ fn.body.isNone = false
theorem take_one {α : Type _} (d w : α) : List.take 1 (List.drop 0 ((List.replicate 1 d).set 0 w)) = [w] := rfl
theorem take_one' {α : Type _} (w : α) : List.take 1 (List.drop 0 [w]) = [w] := rfl
theorem set_one {α : Type _} (d w : α) : (List.replicate 1 d).set 0 w = [w] := rfl
theorem take_all {α : Type _} (l : List α) : List.take l.length (List.drop 0 l) = l := by rw [List.drop_zero, List.take_length]
theorem HoldEq.own {i s m n : Nat} (h : m = n) : HoldEq (.s (.own i s m)) (.s (.own i s n)) := HoldEq.intro (by rw [h])
theorem HoldEq.ownS {i s s' m n : Nat} (hs : s = s') (h : m = n) : HoldEq (.s (.own i s m)) (.s (.own i s' n)) := HoldEq.intro (by rw [hs, h])
end
end Go.Vm
