/- The calm operations, more: addresses, slices, lengths. -/
import Derived.Test.YtkkhoppffmnkiaaVmOps3
set_option linter.unusedSimpArgs false
set_option linter.unusedVariables false
namespace Go.Vm
open Go.RowKit
section
variable {P : Program} {σ : Sig} {β : Places} {w : World} {T : Tab} {hp : Heap}

theorem cFieldAddr_sound (hT : TabOk P T) {t : TypeId} {f : Nat} {a : AV} {x : Value} (ha : VRep σ β a x) : Snd P σ β w (cFieldAddr T t a f) (Instr.fieldAt t x f) := by
  have run : ∀ {off : Nat} {u : TypeId} {b o : Nat}, fieldOf (T.desc t) f = some (off, u) → Nat.beq (T.sizeOf u) 0 = false → (Instr.fieldAt t (.pointer (some ⟨b, o, none⟩)) f).run P w = .ok (.pointer (some ⟨b, o + off, none⟩)) w := by
    intro off u b o hf hz
    obtain ⟨fs, fld, hd, hfl, rfl, rfl⟩ := fieldOf_spec hf
    unfold Instr.fieldAt
    rw [Sem.run_bind, hT.desc hd (by simp), Result.andThen_ok]
    have hs : (sizeOf fld.type).run P w = .ok (T.sizeOf fld.type) w := by
      unfold Tab.sizeOf at hz ⊢
      cases e : lget T.ty fld.type with
      | none => simp [e] at hz
      | some ti => exact (hT _ _ e).run_sizeOf
    have hne : T.sizeOf fld.type ≠ 0 := by intro e; rw [e] at hz; cases hz
    simp [hfl, Instr.sureAddr, fieldPlace, hs, hne, Addr.add_none]
  unfold cFieldAddr
  split
  · rename_i s off u hf
    have hx : ARep σ β s x := ha
    split
    · rename_i hz; obtain ⟨b, o, d, rfl, he, hc⟩ := hx
      exact Snd.ok ⟨_, run hf hz, b, o, d, by rw [Nat.add_assoc], he, hc⟩
    · rename_i hz; obtain ⟨b, o, d, e1, he, hc⟩ := hx
      obtain rfl := (List.cons.inj e1).1
      exact Snd.ok ⟨_, run hf hz, b, o, d, rfl, he, hc⟩
    · rename_i hz; obtain ⟨p, hp', rfl, hi⟩ := hx
      exact Snd.ok ⟨_, run hf hz, p, hp', by rw [Nat.add_assoc], hi⟩
    · exact Snd.none
  · exact Snd.none

theorem cNil_spec {a v : AV} {p q : Option Prop} {x : Value} (ha : VRep σ β a x) (h : cNil a = some (p, q, v)) : Opt p ∧ (Opt q → (∃ ad, x = .pointer (some ad)) ∧ VRep σ β v x) := by
  unfold cNil at h
  split at h
  · cases h; obtain ⟨b, o, d, rfl, he, hc⟩ := ha; exact ⟨trivial, fun _ => ⟨⟨_, rfl⟩, b, o, d, rfl, he, hc⟩⟩
  · rename_i e o
    cases h
    refine ⟨trivial, fun hq => ?_⟩
    cases o with
    | none => cases hq
    | some z =>
      refine ⟨?_, ha⟩
      obtain ⟨b, o, d, e1, _⟩ := ha
      exact ⟨_, (List.cons.inj e1).1⟩
  · cases h; obtain ⟨p, hp', rfl, hi⟩ := ha; exact ⟨trivial, fun _ => ⟨⟨_, rfl⟩, p, hp', rfl, hi⟩⟩
  · cases h

theorem sizeOf_run (hT : TabOk P T) {u : TypeId} (h : T.sizeOf u ≠ 0) : (sizeOf u).run P w = .ok (T.sizeOf u) w := by
  unfold Tab.sizeOf at h ⊢
  cases e : lget T.ty u with
  | none => simp [e] at h
  | some ti => exact (hT _ _ e).run_sizeOf

theorem indexAt_array (hT : TabOk P T) {t u : TypeId} {n b o : Nat} {k : IntKind} {i : Int} (hd : T.desc t = .array n u) (hu : T.sizeOf u ≠ 0) (h0 : 0 ≤ i) (hn : i < n) :
    (Instr.indexAt t (.pointer (some ⟨b, o, none⟩)) (.int k i)).run P w = .ok (.pointer (some ⟨b, o + i.toNat * T.sizeOf u, none⟩)) w := by
  unfold Instr.indexAt
  simp only [asIntOf, Sem.run_bind, Sem.run_pure, Result.andThen_ok, hT.desc (w := w) hd (by simp), Instr.sureAddr]
  rw [if_pos ⟨h0, hn⟩]
  simp [sizeOf_run (w := w) hT hu, Addr.add_none]

theorem indexAt_slice (hT : TabOk P T) {t u : TypeId} {n cap b o : Nat} {k : IntKind} {i : Int} (hd : T.desc t = .slice u) (hu : T.sizeOf u ≠ 0) (h0 : 0 ≤ i) (hn : i < n) :
    (Instr.indexAt t (.slice (some ⟨b, o, none⟩) n cap) (.int k i)).run P w = .ok (.pointer (some ⟨b, o + i.toNat * T.sizeOf u, none⟩)) w := by
  unfold Instr.indexAt
  simp only [asIntOf, Sem.run_bind, Sem.run_pure, Result.andThen_ok, hT.desc (w := w) hd (by simp)]
  rw [if_pos ⟨h0, hn⟩]
  simp [sizeOf_run (w := w) hT hu, Addr.add_none]

theorem cIndexAddr_sound (hT : TabOk P T) (hm : Mem σ β hp w) {t : TypeId} {a i : AV} {lit : Bool} {x y : Value} (ha : VRep σ β a x) (hi : VRep σ β i y) :
    Snd P σ β w (cIndexAddr T t hp a i lit) (Instr.indexAt t x y) := by
  unfold cIndexAddr
  split
  · rename_i s k i n u hd
    obtain ⟨rfl, hk⟩ := hi
    have hx : ARep σ β s x := ha
    split
    · split
      · rename_i hb hz hs
        have h0 := blt'_false hz
        have hlt : i.toNat + 1 ≤ n := by simpa [Nat.blt] using hb
        obtain ⟨b, o, d, rfl, he, hc⟩ := hx
        have hs' : T.sizeOf u ≠ 0 := by intro e; rw [e] at hs; cases hs
        exact Snd.ok ⟨_, indexAt_array hT hd hs' h0 (by omega), b, o, d, by rw [Nat.add_assoc], he, hc⟩
      · rename_i hb hz hs
        have h0 := blt'_false hz
        have hlt : i.toNat + 1 ≤ n := by simpa [Nat.blt] using hb
        obtain ⟨p, hp', rfl, hi⟩ := hx
        have hs' : T.sizeOf u ≠ 0 := by intro e; rw [e] at hs; cases hs
        exact Snd.ok ⟨_, indexAt_array hT hd hs' h0 (by omega), p, hp', by rw [Nat.add_assoc], hi⟩
      · exact Snd.none
    · split
      · rename_i hs
        split
        · rename_i hb
          obtain ⟨b, o, d, rfl, he, hc⟩ := hx
          have hb := Nat.eq_of_beq_eq_true hb
          refine Snd.need fun ⟨h0, hlt⟩ => ⟨_, indexAt_array hT hd (by omega) h0 hlt, b, o, d, by rw [hs]; simp, he, hc, by omega⟩
        · exact Snd.none
      · rename_i hs
        split
        · rename_i e u' xs hid
          split
          · rename_i hb
            have hb := Nat.eq_of_beq_eq_true hb
            obtain ⟨p, hp', rfl, hi⟩ := hx
            have := (hm.ob _ _ hid).2
            simp only [hp'] at this
            have hsz := this.1
            refine Snd.need fun ⟨h0, hlt⟩ => ⟨_, indexAt_array hT hd (by omega) h0 hlt, p, hp', by rw [hs]; simp, hi, by omega⟩
          · exact Snd.none
        · rename_i u' cs hid
          split
          · rename_i hb
            have hb := Nat.eq_of_beq_eq_true hb
            obtain ⟨p, hp', rfl, hi⟩ := hx
            obtain ⟨p2, q0, q1, q2, q3, q4, c, q5, q6⟩ := hm.ob _ _ hid
            rw [hp'] at q0; cases q0
            refine Snd.need fun ⟨h0, hlt⟩ => ⟨_, indexAt_array hT hd (by omega) h0 hlt, p, hp', by rw [hs]; simp, hi, by omega⟩
          · exact Snd.none
        · exact Snd.none
      · exact Snd.none
  · rename_i s k i u hd
    obtain ⟨rfl, hk⟩ := hi
    have hx : ARep σ β s x := ha
    split
    · rename_i e xs
      split
      · rename_i hb hz'
        have hz : T.sizeOf u ≠ 0 := by intro e; rw [e] at hz'; cases hz'
        have hb := Nat.eq_of_beq_eq_true hb
        refine Snd.need fun ⟨h0, hlt⟩ => ?_
        obtain ⟨a, cap, e1, hle, hcap, hr⟩ := hx
        obtain rfl := (List.cons.inj e1).1
        obtain ⟨y, hy⟩ := exists_get (l := xs) (i := i.toNat) (by omega)
        obtain ⟨b, o, rfl, hr'⟩ := hr (by rintro rfl; simp at hy)
        obtain ⟨d, he, hc⟩ := hr' _ _ hy
        refine ⟨_, indexAt_slice hT hd hz h0 hlt, b, o + i.toNat * e.size, d, by rw [hb]; rfl, by rw [getD_of hy]; exact he, hc⟩
      · exact Snd.none
    · rename_i id s n
      split
      · rename_i e u' xs hid
        split
        · rename_i hb hz'
          have hz : T.sizeOf u ≠ 0 := by intro e; rw [e] at hz'; cases hz'
          have hb := Nat.eq_of_beq_eq_true hb
          refine Snd.need fun ⟨h0, hlt⟩ => ?_
          have := (hm.ob _ _ hid).2
          simp only [ARep] at hx
          cases hβ : β[id]? with
          | none => simp [hβ] at hx
          | some q =>
            cases q with
            | none => simp only [hβ] at hx; omega
            | some p =>
              simp only [hβ] at hx this
              obtain ⟨a, cap, rfl, h1, h2, h3, h4⟩ := hx
              obtain rfl : a = _ := h2.resolve_left (by omega)
              refine ⟨_, indexAt_slice hT hd hz h0 (by omega), p, hβ, ?_, by omega⟩
              rw [hb, ← this.1, Nat.add_mul]
              simp [Nat.add_assoc]
        · exact Snd.none
      · exact Snd.none
    · exact Snd.none
  · exact Snd.none

theorem i64_len {n : Nat} (h : n ≤ 140737488355328) : InK .i64 (n : Int) := InK.i64.2 (by unfold i64ok; omega)

def lenBody (d : TypeDesc) (x : Value) : Sem Value :=
  match d, x with
      | .string, .string s => pure (goInt s.size)
      | .array n _, _ => pure (goInt n)
      | .pointer arr, _ => do
        let .array n _ ← underlying arr | stuck "len: pointer to array expected"
        pure (goInt n)
      | .slice _, .slice _ n _ => pure (goInt n)
      | .map _ _, .map none | .chan _ _, .chan none => pure (goInt 0)
      | .map _ _, .map (some r) => do
        let .map entries _ ← getObj r | stuck "len: map expected"
        pure (goInt entries.size)
      | .chan _ _, .chan (some r) => do
        let .chan _ buf _ _ _ timer ← getObj r | stuck "len: channel expected"
        pure (goInt (if timer then 0 else buf.size))
      | _, _ => stuck "len: string, array, pointer to array, slice, map or channel expected"

theorem len_run (hT : TabOk P T) {ts : Array TypeId} {t : TypeId} (ht : ts[0]? = some t) {d : TypeDesc} (hd : T.desc t = d) (hne : d ≠ .invalid) (ty : TypeId) (x : Value) :
    (Builtin.len_ ts ty #[x]).run P w = (lenBody d x).run P w := by
  unfold Builtin.len_ lenBody
  simp only [ht]
  rw [show (#[x] : Array Value)[0]? = some x from rfl]
  simp only [Sem.run_bind, hT.desc (w := w) hd hne, Result.andThen_ok]
  rfl

theorem lenOf_sound (hT : TabOk P T) (hm : Mem σ β hp w) {ts : Array TypeId} {ty t : TypeId} {a : AV} {x : Value} (ht : ts[0]? = some t) (ha : VRep σ β a x) : Snd P σ β w (lenOf hp (T.desc t) a) (Builtin.len_ ts ty #[x]) := by
  have run : ∀ {d : TypeDesc}, T.desc t = d → d ≠ .invalid → _ := fun {d} hd hne => len_run (w := w) hT ht hd hne ty x
  unfold lenOf
  split
  · rename_i n u l hd
    split
    · rename_i hle
      exact Snd.ok ⟨_, by rw [run hd (by simp)]; rfl, rfl, i64_len (Nat.le_of_ble_eq_true hle)⟩
    · exact Snd.none
  · rename_i hd
    obtain ⟨b, cap, e1, hle, _⟩ := ha
    obtain rfl := (List.cons.inj e1).1
    exact Snd.mk hle fun _ => ⟨_, by rw [run hd (by simp)]; rfl, rfl, i64_len hle⟩
  · rename_i id s n hd
    split
    · rename_i e u xs hid
      have := hm.ob _ _ hid
      obtain ⟨hl, this⟩ := this
      have hx : ARep σ β (.own id s n) x := ha
      simp only [ARep] at hx
      cases hβ : β[id]? with
      | none => simp [hβ] at hx
      | some q =>
        cases q with
        | none =>
          simp only [hβ] at hx
          obtain ⟨rfl, rfl, rfl⟩ := hx
          exact Snd.mk (by simp [Opt]) fun _ => ⟨_, by rw [run hd (by simp)]; rfl, rfl, i64_len (by omega)⟩
        | some p =>
          simp only [hβ] at hx this
          obtain ⟨a, cap, rfl, h1, h2, h3, h4⟩ := hx
          have hn : n ≤ 140737488355328 := by omega
          exact Snd.mk hn fun _ => ⟨_, by rw [run hd (by simp)]; rfl, rfl, i64_len hn⟩
    · exact Snd.none
  · rename_i hd
    obtain ⟨rfl, _⟩ := ha
    exact Snd.ok ⟨_, by rw [run hd (by simp)]; rfl, rfl, rfl⟩
  · rename_i hd
    obtain ⟨rfl, _⟩ := ha
    exact Snd.ok ⟨_, by rw [run hd (by simp)]; rfl, rfl, rfl⟩
  · rename_i k v m hd
    obtain ⟨r, e1, hle, hn, hh⟩ := ha
    obtain rfl := (List.cons.inj e1).1
    cases r with
    | none =>
      obtain rfl := hn rfl
      exact Snd.mk trivial fun hle => ⟨_, by rw [run hd (by simp)]; rfl, rfl, i64_len hle⟩
    | some b =>
      obtain ⟨es, clock, h1, h2, h3⟩ := hh b rfl
      have h4 := hm.ag _ _ h1
      refine Snd.mk trivial fun hle => ⟨_, by rw [run hd (by simp)]; simp [lenBody, getObj, Sem.run, h4, goInt]; rfl, ?_, i64_len hle⟩
      rw [h2]
  · rename_i id hd
    split
    · rename_i k v m hid
      obtain ⟨hl, p, es, clock, h1, h2, h3, h4⟩ := hm.ob _ _ hid
      obtain ⟨p', h1', rfl, _⟩ := ha
      rw [h1] at h1'; cases h1'
      refine Snd.mk trivial fun hl => ⟨_, by rw [run hd (by simp)]; simp [lenBody, getObj, Sem.run, h2, goInt]; rfl, ?_, i64_len hl⟩
      rw [h3]
    · exact Snd.none
  · exact Snd.none
end
end Go.Vm
