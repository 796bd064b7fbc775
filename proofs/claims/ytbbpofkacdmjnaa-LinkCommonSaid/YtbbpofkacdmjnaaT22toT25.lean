/- A part of the proofs of the laws of this seat: contracts of functions, each for every input that its text names. -/
import Derived.Test.YtbbpofkacdmjnaaVmLocktoVmSeq
import Derived.Test.YtbbpofkacdmjnaaT0toVmInl
set_option linter.unusedSimpArgs false
set_option linter.unusedVariables false
set_option maxHeartbeats 2000000
open Go Go.Vm Go.Proofs
namespace S1
set_option maxRecDepth 100000

/-! What ring.Around's closure yields -/
theorem take_drop {L r : List Int} {c : Int} {k : Nat} (h : L.drop k = c :: r) : L.take (k + 1) = L.take k ++ [c] ∧ L.drop (k + 1) = r := by
  have hk : k < L.length := by
    rcases Nat.lt_or_ge k L.length with h' | h'
    · exact h'
    · rw [List.drop_eq_nil_of_le h'] at h; cases h
  rw [List.drop_eq_getElem_cons hk] at h
  injection h with h1 h2
  exact ⟨by rw [List.take_succ_eq_append_getElem hk, h1], h2⟩
theorem take_end {L : List Int} {c : Int} {k : Nat} (h : L.drop k = [c]) : L.take k ++ [c] = L := by
  have := take_drop h
  rw [← this.1]
  have h2 := List.take_append_drop (k + 1) L
  rw [this.2, List.append_nil] at h2
  exact h2
theorem take_pre {L r : List Int} {c : Int} {k : Nat} (h : L.drop k = c :: r) : (L.take k ++ [c]) <+: L := by
  rw [← (take_drop h).1]; exact List.take_prefix _ _
theorem firstF_ge {x : tabE.T} {c0 : Int} (h0 : 0 ≤ c0) : ∀ n c, 0 ≤ c → 0 ≤ (firstF x c0 n c).1
  | 0, c, _ => by show (0 : Int) ≤ 0; decide
  | n + 1, c, hc => by
    unfold firstF
    split
    · exact hc
    · split
      · exact h0
      · exact firstF_ge h0 n _ (by omega)
theorem aroundF_ge {x : tabE.T} {b : Int} : ∀ n c, 0 ≤ c → ∀ a ∈ aroundF x b n c, 0 ≤ a
  | 0, c, _, a, h => by cases h
  | n + 1, c, hc, a, h => by
    unfold aroundF at h
    split at h
    · rw [List.mem_singleton] at h; omega
    · split at h
      · rw [List.mem_singleton] at h; omega
      · rcases List.mem_cons.1 h with e | h
        · omega
        · exact aroundF_ge n _ (by omega) a h
theorem aroundL_ok {x : tabE.T} (g : Good x) (v : Int) : ∀ a ∈ aroundL (some x) v, InK .i64 a := fun a h => by
  have h1 := (aroundL_le g v).2 a h
  have h2 : 0 ≤ a := by
    have h : a ∈ (if tThere x v then _ else _ : List Int) := h
    split at h
    · rename_i ht
      have hc : 0 ≤ tCorner x v := by
        simp only [tThere, Bool.and_eq_true, decide_eq_true_eq] at ht; exact ht.2.2
      exact aroundF_ge _ _ (firstF_ge hc _ _ hc) a h
    · cases h
  exact InK.i64.2 (by unfold i64ok; omega)
theorem aroundF_step {x : tabE.T} {b c : Int} {k : Nat} (h : k ≤ 24576) : aroundF x b (30000 - k) c = c :: (if tAfter x c < 0 then [] else if tAfter x c = b then [] else aroundF x b (30000 - (k + 1)) (tAfter x c)) := by
  rw [show 30000 - k = (30000 - (k + 1)) + 1 by omega]; rfl
theorem aroundL_eq {x : tabE.T} {v : Int} (h1 : 0 ≤ v) (h2 : v < x.1.1) (h3 : 0 ≤ tCorner x v) : aroundL (some x) v = aroundF x (firstR x v).1 30000 (firstR x v).1 := by
  show (if tThere x v then _ else _ : List Int) = _
  rw [if_pos (by unfold tThere; rw [decide_eq_true h1, decide_eq_true h2, decide_eq_true h3]; rfl)]
theorem aroundL_no {x : tabE.T} {v : Int} (h : ¬ (0 ≤ v ∧ v < x.1.1 ∧ 0 ≤ tCorner x v)) : aroundL (some x) v = [] := by
  show (if tThere x v then _ else _ : List Int) = _
  rw [if_neg (fun e => h (by simpa [tThere] using e))]
def loopY (x : tabE.T) (b : Int) : Spec Nat where
  inv k := FInv (tAfter x) b k ∧ (aroundF x b 30000 b).drop k = aroundF x b (30000 - k) (iter (tAfter x) b k)
  live k := [(6, .s (.int .i64 (iter (tAfter x) b k)))]
  keep := [0, 1, 2, 4]
  heap _ := []
  keepH := []
  mu k := 30000 - k
theorem aroundY_vc (x : tabE.T) (v : Int) (g : Good x) : afunY ⟨tyL, [(62, thereC), (63, firstC), (65, afterC)], []⟩ Try.f91 [⟨.pt tabE, some x⟩, ⟨i64E, v⟩] (aroundL (some x) v) := by
  repeat' (conv => whnf
           first
            | done
            | refine Need.intro (by first | rfl | omega | (simp only [i64ok] at *; omega)) ?_
            | refine Need.intro (Hold.out ?_) ?_
            | refine Give.intro fun _ => ?_
            | refine Both.intro ?_ ?_
            | refine BIf.and ?_
            | refine BIf.or ?_
            | refine BIf.eqi (fun _ => ?_) (fun _ => ?_)
            | refine BIf.nei (fun _ => ?_) (fun _ => ?_)
            | refine BIf.dec (fun _ => ?_) (fun _ => ?_)
            | refine BIf.nt ?_
            | refine BIf.intro (fun _ => ?_) (fun _ => ?_)
            | refine (fun (l : Nat) => ?_)
            | refine Exists.intro Nat (Exists.intro (loopY x (firstR x v).1) (Exists.intro (fun k => (aroundF x (firstR x v).1 30000 (firstR x v).1).take k) (And.intro (Exists.intro 0 (And.intro (Hold.out ?_) (And.intro (HoldX.out ?_) (And.intro ?_ (And.intro ?_ rfl))))) (fun k hk => ?_))))
            | ((with_reducible show (∃ y, And (Spec.inv (loopY _ _) y) _)); refine Exists.intro (k + 1) (And.intro (Hold.out ?_) (And.intro (HoldX.out ?_) (And.intro (And.intro ?_ (And.intro ?_ rfl)) (Hold.out ?_)))))
            | refine And.intro (Hold.out (p := (_ ++ [_]) <+: _) ?_) ?_
            | refine HoldX.out ?_
            | refine And.intro rfl ?_
            | refine And.intro (HoldEq.out ?_) ?_
            | refine And.intro (HoldOb.out ?_) ?_
            | exact True.intro
            | refine HoldEq.out ?_
            | refine HoldObs.out ?_
            | refine HoldOr.out ?_)
  all_goals try first | refine HoldEq.int ?_ | refine HoldEq.bool ?_ | refine HoldEq.sl ?_ | refine HoldEq.own ?_ | refine HoldEq.ownS ?_ ?_ | refine HoldOb.row ?_ | refine HoldOb.map ?_ | refine HoldOb.gmap ?_ | refine HoldOb.grow ?_ | refine HoldObs.row ?_
  all_goals try simp only [take_one, take_one', set_one, take_all, List.length_singleton, rec_self, Int.toNat_natCast, pair_eta, ETy.dflt, List.getD_cons_zero, List.getD_cons_succ, Int.reduceToNat, Int.reduceAdd, Int.reduceSub, Int.reduceNeg, Nat.reduceAdd, Nat.zero_add, loopY] at *
  · exact Hold.intro ⟨fun j a b => by omega, rfl⟩
  · exact HoldX.intro rfl
  · rename_i h1 h2 h3
    rw [aroundL_eq (v := v) h1 h2 h3]
    have h24 := fin_after g hk.1
    have := hk.2; rw [aroundF_step h24] at this
    exact Hold.intro (take_pre this)
  · rename_i h1 h2 h3
    exact Hold.intro ⟨g, iterA_le g (firstF_le g (corner_le g v) _ _ (corner_le g v)) k⟩
  · rename_i h1 h2 h3 h4
    rw [aroundL_eq (v := v) h1 h2 h3]
    have h24 := fin_after g hk.1
    have := hk.2; rw [aroundF_step h24, if_pos h4] at this
    exact HoldX.intro (take_end this)
  · rename_i h1 h2 h3 h4 h5
    replace h5 : tAfter x (iter (tAfter x) (firstR x v).1 k) = (firstR x v).1 := h5
    rw [aroundL_eq (v := v) h1 h2 h3]
    have h24 := fin_after g hk.1
    have := hk.2; rw [aroundF_step h24, if_neg h4, if_pos h5] at this
    exact HoldX.intro (take_end this)
  · rename_i h1 h2 h3 h4 h5
    replace h5 : ¬ tAfter x (iter (tAfter x) (firstR x v).1 k) = (firstR x v).1 := h5
    have h24 := fin_after g hk.1
    have := hk.2; rw [aroundF_step h24, if_neg h4, if_neg h5] at this
    exact Hold.intro ⟨hk.1.succ h4 h5, (take_drop this).2⟩
  · rename_i h1 h2 h3 h4 h5
    have h24 := fin_after g hk.1
    have := hk.2; rw [aroundF_step h24] at this
    exact HoldX.intro (take_drop this).1
  · rename_i h1 h2 h3 h4 h5
    have h24 := fin_after g hk.1
    refine Hold.intro ?_; omega
  · rename_i h1 h2 h3
    exact HoldX.intro (aroundL_no (fun h => h3 h.2.2)).symm
  · rename_i h1 h2
    exact HoldX.intro (aroundL_no (fun h => h2 h.2.1)).symm
  · rename_i h1
    exact HoldX.intro (aroundL_no (fun h => h1 h.1)).symm
theorem aroundY0_vc (v : Int) : afunY ⟨tyL, [(62, thereC), (63, firstC), (65, afterC)], []⟩ Try.f91 [⟨.pt tabE, none⟩, ⟨i64E, v⟩] (aroundL none v) := by
  repeat' (conv => whnf
           first
            | done
            | refine Need.intro (by first | rfl | omega | (simp only [i64ok] at *; omega)) ?_
            | refine Need.intro (Hold.out ?_) ?_
            | refine Give.intro fun _ => ?_
            | refine Both.intro ?_ ?_
            | refine BIf.and ?_
            | refine BIf.or ?_
            | refine BIf.eqi (fun _ => ?_) (fun _ => ?_)
            | refine BIf.nei (fun _ => ?_) (fun _ => ?_)
            | refine BIf.dec (fun _ => ?_) (fun _ => ?_)
            | refine BIf.nt ?_
            | refine BIf.intro (fun _ => ?_) (fun _ => ?_)
            | refine (fun (l : Nat) => ?_)
            | refine HoldX.out ?_
            | refine And.intro rfl ?_
            | refine And.intro (HoldEq.out ?_) ?_
            | refine And.intro (HoldOb.out ?_) ?_
            | exact True.intro
            | refine HoldEq.out ?_
            | refine HoldObs.out ?_
            | refine HoldOr.out ?_)
  all_goals try first | refine HoldEq.int ?_ | refine HoldEq.bool ?_ | refine HoldEq.sl ?_ | refine HoldEq.own ?_ | refine HoldEq.ownS ?_ ?_ | refine HoldOb.row ?_ | refine HoldOb.map ?_ | refine HoldOb.gmap ?_ | refine HoldOb.grow ?_ | refine HoldObs.row ?_
  all_goals try simp only [take_one, take_one', set_one, take_all, List.length_singleton, rec_self, Int.toNat_natCast, pair_eta, ETy.dflt, List.getD_cons_zero, List.getD_cons_succ, Int.reduceToNat, Int.reduceAdd, Int.reduceSub, Int.reduceNeg, Nat.reduceAdd, Nat.zero_add] at *
  exact HoldX.intro rfl
/-- LINK's sequence: what link.Link leans on. -/
theorem seqS : SeqTabOk Try.prog seqT := fun f ps L h => by
  obtain ⟨rfl, o, v, rfl, hg, rfl⟩ := h
  cases o with
  | none => exact seq_ok (rulesF (fn := [(62, thereC), (63, firstC), (65, afterC)]) (fr := []) ⟨thereRow, firstRow, afterRow, trivial⟩ trivial) Try.func91 rfl (by kernel_rfl) rfl (by kernel_rfl) (Nat.le_of_ble_eq_true rfl) (fun a h => by cases h) fun _ => aroundY0_vc v
  | some x => exact seq_ok (rulesF (fn := [(62, thereC), (63, firstC), (65, afterC)]) (fr := []) ⟨thereRow, firstRow, afterRow, trivial⟩ trivial) Try.func91 rfl (by kernel_rfl) rfl (by kernel_rfl) (Nat.le_of_ble_eq_true rfl) (aroundL_ok (hg x rfl) v) fun _ => aroundY_vc x v (hg x rfl)
theorem linkRow : FnRow Try.prog 27 linkC := link_row seqS
end S1

open Go Go.Vm Go.Proofs
namespace S1
set_option maxRecDepth 100000

/-! what certify.together says -/
theorem sub_all : ∀ (ks l : List Int), ks.Nodup → (∀ x ∈ ks, x ∈ l) → l.length ≤ ks.length → ∀ x ∈ l, x ∈ ks
  | [], l, _, _, hl, x, hx => by
    have : l = [] := List.length_eq_zero_iff.1 (Nat.le_zero.1 hl)
    subst this; cases hx
  | a :: r, l, hd, hs, hl, x, hx => by
    have hd := List.nodup_cons.1 hd
    have ha := hs a (List.mem_cons_self ..)
    have hle : (l.erase a).length = l.length - 1 := List.length_erase_of_mem ha
    have ih := sub_all r (l.erase a) hd.2 (fun y hy => (List.mem_erase_of_ne (fun e => hd.1 (by rw [← e]; exact hy))).2 (hs y (List.mem_cons_of_mem _ hy))) (by rw [hle]; simp only [List.length_cons] at hl; omega)
    by_cases e : x = a
    · rw [e]; exact List.mem_cons_self ..
    · exact List.mem_cons_of_mem _ (ih x ((List.mem_erase_of_ne e).2 hx))
theorem trl_mem (t : P3) {k : Nat} (h : k < 3) : (trl t).getD k 0 ∈ trl t := getD_mem (by simpa [trl] using h)
/-- What stands in the map of ends. -/
def EnIn (l : List P3) (v : Int) (tris : List Int) (m : EndM) : Prop := ∀ w, ∀ x ∈ endAt m w, x ∈ tris ∧ w ∈ trl (tri l x) ∧ w ≠ v
theorem enW_in {l : List P3} {v i : Int} {tris : List Int} {m : EndM} {k : Nat} (hi : i ∈ tris) (hk : k < 3) (h : EnIn l v tris m) : EnIn l v tris (enW v i (tri l i) m k) := by
  intro w x hx
  unfold enW at hx
  split at hx
  · exact h w x hx
  · rename_i hn
    rw [endAt_set] at hx
    split at hx
    · rename_i e
      subst e
      rw [List.mem_append, List.mem_singleton] at hx
      rcases hx with hx | hx
      · exact h _ x hx
      · rw [hx]; exact ⟨hi, trl_mem _ hk, hn⟩
    · exact h w x hx
theorem enA_in (l : List P3) (v : Int) (tris : List Int) : EnIn l v tris (enA l v tris tris.length) :=
  irec_inv (n := tris.length) (fun _ (m : EndM) => EnIn l v tris m) (fun w x hx => by simp [endAt, mget] at hx) (fun j m hj h =>
    irec_inv (n := 3) (fun _ (m : EndM) => EnIn l v tris m) h (fun k m hk h => enW_in (getD_mem hj) hk h) 3 (Nat.le_refl _)) _ (Nat.le_refl _)
def keysR (m : ReM) : List Int := m.map Prod.fst
theorem keysR_set (k : Int) : ∀ m : ReM, (∀ x, x ∈ keysR (mset (.int .i64) m k true) → x = k ∨ x ∈ keysR m) ∧ ((keysR m).Nodup → (keysR (mset (.int .i64) m k true)).Nodup)
  | [] => ⟨fun x h => by simpa [keysR, mset] using h, fun _ => by simp [keysR, mset]⟩
  | (a, b) :: r => by
    obtain ⟨h1, h2⟩ := keysR_set k r
    simp only [mset]
    split
    · rename_i e
      refine ⟨fun x h => ?_, fun h => ?_⟩
      · exact .inr h
      · exact h
    · rename_i e _
      refine ⟨fun x h => ?_, fun h => ?_⟩
      · rcases List.mem_cons.1 h with h | h
        · exact .inr (by rw [h]; exact List.mem_cons_self ..)
        · rcases h1 x h with h | h
          · exact .inl h
          · exact .inr (List.mem_cons_of_mem _ h)
      · have h := List.nodup_cons.1 h
        refine List.nodup_cons.2 ⟨fun hm => ?_, h2 h.2⟩
        rcases h1 a hm with hm | hm
        · exact e hm
        · exact h.1 hm
structure TgIn (tris : List Int) (Q : Int → Prop) (S : TgS) : Prop where
  q : ∀ x ∈ S.2.1, x ∈ tris ∧ Q x
  k : ∀ x ∈ keysR S.2.2, x ∈ tris ∧ Q x
  nd : (keysR S.2.2).Nodup
theorem vis_in {tris av : List Int} {Q : Int → Prop} {S : TgS} {j : Nat} (h : TgIn tris Q S) (ha : av.getD j 0 ∈ tris ∧ Q (av.getD j 0)) : TgIn tris Q (vis av S j) := by
  unfold vis
  split
  · exact h
  · refine ⟨fun x hx => ?_, fun x hx => ?_, (keysR_set _ _).2 h.nd⟩
    · rcases List.mem_append.1 hx with hx | hx
      · exact h.q x (List.mem_of_mem_drop hx)
      · rw [List.mem_singleton.1 hx]; exact ha
    · rcases (keysR_set _ _).1 x hx with hx | hx
      · rw [hx]; exact ha
      · exact h.k x hx
theorem tgW_in {l : List P3} {v i : Int} {tris : List Int} {Q : Int → Prop} {E : EndM} (hE : EnIn l v tris E) (hc : ∀ i ∈ tris, ∀ j ∈ tris, (∃ w, w ≠ v ∧ w ∈ trl (tri l i) ∧ w ∈ trl (tri l j)) → Q i → Q j)
    (hi : i ∈ tris ∧ Q i) {S : TgS} (h : TgIn tris Q S) : TgIn tris Q (irec (tgW E v (tri l i)) S 3) :=
  irec_inv (n := 3) (fun _ (S : TgS) => TgIn tris Q S) h (fun k S hk h => by
    unfold tgW
    split
    · exact h
    · rename_i hn
      exact irec_inv (n := (endAt E ((trl (tri l i)).getD k 0)).length) (fun _ (S : TgS) => TgIn tris Q S) h (fun j S hj h => by
        have := hE _ _ (getD_mem hj)
        exact vis_in h ⟨this.1, hc i hi.1 _ this.1 ⟨_, this.2.2, trl_mem _ hk, this.2.1⟩ hi.2⟩) _ (Nat.le_refl _)) 3 (Nat.le_refl _)
theorem tgS_in {l : List P3} {v x0 : Int} {tris : List Int} {Q : Int → Prop} {E : EndM} (hE : EnIn l v tris E) (hc : ∀ i ∈ tris, ∀ j ∈ tris, (∃ w, w ≠ v ∧ w ∈ trl (tri l i) ∧ w ∈ trl (tri l j)) → Q i → Q j)
    (h0 : x0 ∈ tris ∧ Q x0) (r : Nat) : TgIn tris Q (tgS E l v x0 r) :=
  irec_inv (n := r) (fun _ (S : TgS) => TgIn tris Q S) ⟨fun x hx => by rw [List.mem_singleton.1 hx]; exact h0, fun x hx => by rw [List.mem_singleton.1 hx]; exact h0, (by show [x0].Nodup; exact List.nodup_cons.2 ⟨by simp, List.nodup_nil⟩)⟩ (fun j S _ h => by
    unfold tgR
    split
    · rename_i hs
      exact tgW_in hE hc (h.q _ (getD_mem hs)) (S := (S.1 + 1, S.2.1, S.2.2)) ⟨h.q, h.k, h.nd⟩
    · exact h) r (Nat.le_refl _)
/-- What has one triangle of those at a vertex, and with each its neighbours there, has all. -/
theorem tog_all {l : List P3} {v : Int} {tris : List Int} (ht : tris ≠ []) (h : togR l v tris = true) (Q : Int → Prop) (h0 : Q (tris.getD 0 0))
    (hc : ∀ i ∈ tris, ∀ j ∈ tris, (∃ w, w ≠ v ∧ w ∈ trl (tri l i) ∧ w ∈ trl (tri l j)) → Q i → Q j) : ∀ i ∈ tris, Q i := by
  have hm : tris.getD 0 0 ∈ tris := getD_mem (List.length_pos_iff.2 ht)
  have k := tgS_in (x0 := tris.getD 0 0) (enA_in l v tris) hc ⟨hm, h0⟩ (2 * tris.length + 2)
  unfold togR at h
  have h := eq_of_beq h
  intro i hi
  refine (k.k i (sub_all _ tris k.nd (fun x hx => (k.k x hx).1) ?_ i hi)).2
  unfold keysR
  rw [List.length_map]
  omega
end S1

open Go Go.Vm Go.Proofs
namespace S1
set_option maxRecDepth 100000

theorem atP_mem {s : List (List Int)} {w : Int} {j v : Nat} {x : Int} (hw : 0 ≤ w) (hv : v < s.length) : x ∈ (atP s w j).getD v [] ↔ x ∈ s.getD v [] ∨ (x = j ∧ w = v) := by
  rw [atP_get]
  split
  · rename_i h
    rw [List.mem_append, List.mem_singleton]
    have : w = v := by omega
    simp [this]
  · rename_i h
    have : ¬ w = v := fun e => h ⟨by omega, hv⟩
    simp [this]
/-- Which triangles certify.pinch has noted at a vertex. -/
theorem atF_mem {n : Nat} {l : List P3} (hl : ∀ j, j < l.length → 0 ≤ (l.getD j (0, 0, 0)).1 ∧ 0 ≤ (l.getD j (0, 0, 0)).2.1 ∧ 0 ≤ (l.getD j (0, 0, 0)).2.2) {v : Nat} (hv : v < n) :
    ∀ i, i ≤ l.length → ∀ x : Int, x ∈ (atF n l i).getD v [] ↔ ∃ j : Nat, j < i ∧ x = j ∧ hasV (l.getD j (0, 0, 0)) v
  | 0, _, x => by
    have e : (atF n l 0).getD v [] = [] := by
      show (List.replicate n ([] : List Int)).getD v [] = []
      rw [List.getD_eq_getElem?_getD, List.getElem?_replicate]; split <;> rfl
    rw [e]
    exact ⟨fun h => (by cases h), fun ⟨j, h, _⟩ => (by omega)⟩
  | i + 1, hi, x => by
    have ih := atF_mem hl hv i (by omega) x
    have hlen : (atF n l i).length = n := (atF_ok n l i).1
    obtain ⟨h1, h2, h3⟩ := hl i (by omega)
    show x ∈ (at3 (atF n l i) (l.getD i (0, 0, 0)) i).getD v [] ↔ _
    unfold at3
    rw [atP_mem h3 (by rw [atP_len, atP_len, hlen]; exact hv), atP_mem h2 (by rw [atP_len, hlen]; exact hv), atP_mem h1 (by rw [hlen]; exact hv), ih]
    constructor
    · rintro (((⟨j, a, b, c⟩ | ⟨b, c⟩) | ⟨b, c⟩) | ⟨b, c⟩)
      · exact ⟨j, by omega, b, c⟩
      · exact ⟨i, by omega, b, .inl c⟩
      · exact ⟨i, by omega, b, .inr (.inl c)⟩
      · exact ⟨i, by omega, b, .inr (.inr c)⟩
    · rintro ⟨j, a, b, c⟩
      by_cases e : j = i
      · subst e
        rcases c with c | c | c
        · exact .inl (.inl (.inr ⟨b, c⟩))
        · exact .inl (.inr ⟨b, c⟩)
        · exact .inr ⟨b, c⟩
      · exact .inl (.inl (.inl ⟨j, by omega, b, c⟩))
theorem trl_iff {t : P3} {v : Int} : v ∈ trl t ↔ hasV t v := by
  simp only [trl, hasV, List.mem_cons, List.not_mem_nil, or_false]
  constructor
  · rintro (h | h | h)
    · exact .inl h.symm
    · exact .inr (.inl h.symm)
    · exact .inr (.inr h.symm)
  · rintro (h | h | h)
    · exact .inl h.symm
    · exact .inr (.inl h.symm)
    · exact .inr (.inr h.symm)
/-- No vertex is pinched: what has one triangle at it, and with each its neighbours at it, has all. -/
theorem pin_all {n : Int} {l : List P3} (hp : pinR (n, l) = []) (hl : ∀ j, j < l.length → 0 ≤ (l.getD j (0, 0, 0)).1 ∧ 0 ≤ (l.getD j (0, 0, 0)).2.1 ∧ 0 ≤ (l.getD j (0, 0, 0)).2.2) {v : Nat} (hv : (v : Int) < n) (Q : Nat → Prop)
    (hc : ∀ i j : Nat, i < l.length → j < l.length → hasV (l.getD i (0, 0, 0)) v → hasV (l.getD j (0, 0, 0)) v → (∃ w : Int, w ≠ v ∧ hasV (l.getD i (0, 0, 0)) w ∧ hasV (l.getD j (0, 0, 0)) w) → Q i → Q j)
    {a : Nat} (ha : a < l.length) (hva : hasV (l.getD a (0, 0, 0)) v) (hQ : Q a) : ∀ i, i < l.length → hasV (l.getD i (0, 0, 0)) v → Q i := by
  have hvn : v < n.toNat := by omega
  have hm := atF_mem (n := n.toNat) hl hvn l.length (Nat.le_refl _)
  have htog : togR l v ((atF n.toNat l l.length).getD v []) = true := by
    have := List.filterMap_eq_nil_iff.1 hp v (List.mem_range.2 hvn)
    unfold piG at this
    split at this
    · assumption
    · cases this
  have hne : (atF n.toNat l l.length).getD v [] ≠ [] := atF_ne n.toNat l hvn l.length ⟨a, ha, hva⟩
  have tri_nat : ∀ j : Nat, tri l (j : Int) = l.getD j (0, 0, 0) := fun j => rfl
  have key : ∀ R : Nat → Prop, (∀ i j : Nat, i < l.length → j < l.length → hasV (l.getD i (0, 0, 0)) v → hasV (l.getD j (0, 0, 0)) v → (∃ w : Int, w ≠ v ∧ hasV (l.getD i (0, 0, 0)) w ∧ hasV (l.getD j (0, 0, 0)) w) → R i → R j) →
      (∀ x, ((atF n.toNat l l.length).getD v []).getD 0 0 = ((x : Nat) : Int) → R x) → ∀ i, i < l.length → hasV (l.getD i (0, 0, 0)) v → R i := fun R hR h0 i hi hvi => by
    have := tog_all hne htog (fun y => ∀ j : Nat, y = j → R j) h0 (fun y hy z hz ⟨w, h1, h2, h3⟩ hQy j e => by
      obtain ⟨a, ha1, ha2, ha3⟩ := (hm y).1 hy
      obtain ⟨b, hb1, hb2, hb3⟩ := (hm z).1 hz
      have : b = j := by omega
      subst this
      subst ha2; subst hb2
      rw [tri_nat, trl_iff] at h2 h3
      exact hR a b ha1 hb1 ha3 hb3 ⟨w, h1, h2, h3⟩ (hQy a rfl)) i ((hm i).2 ⟨i, hi, rfl, hvi⟩)
    exact this i rfl
  have hz := (hm _).1 (getD_mem (j := 0) (List.length_pos_iff.2 hne))
  obtain ⟨z, hz1, hz2, hz3⟩ := hz
  by_cases hQz : Q z
  · exact key Q hc fun x e => by
      have : x = z := by omega
      rw [this]; exact hQz
  · have := key (fun i => ¬ Q i) (fun i j hi hj h1 h2 ⟨w, h3, h4, h5⟩ hn hq => hn (hc j i hj hi h2 h1 ⟨w, h3, h5, h4⟩ hq)) (fun x e => by
      have : x = z := by omega
      rw [this]; exact hQz) a ha hva
    exact absurd hQ this
end S1

open Go Go.Vm Go.Proofs
namespace S1
set_option maxRecDepth 100000

/-! what a certified soup's table says beyond Good -/
theorem newS_tot (x : Int × List P3) : ∀ i, i ≤ 3 * x.2.length → ∀ c : Int, 3 * (x.2.length : Int) - i ≤ c → c < 3 * (x.2.length : Int) → ∃ d, mget .arr2 (newS x i).1 (tEdge (x, [], []) c) = some d
  | 0, _, c, h1, h2 => by omega
  | i + 1, hi, c, h1, h2 => by
    show ∃ d, mget .arr2 (mset .arr2 (newS x i).1 (tEdge (x, [], []) (3 * x.2.length - 1 - i)) (3 * x.2.length - 1 - i)) _ = some d
    by_cases e : tEdge (x, [], []) (3 * x.2.length - 1 - i) = tEdge (x, [], []) c
    · rw [e, mget_same]; exact ⟨_, rfl⟩
    · rw [mget_other _ e]
      refine newS_tot x i (by omega) c ?_ h2
      have : c ≠ 3 * (x.2.length : Int) - 1 - i := fun k => e (by rw [k])
      omega
theorem newS_at (x : Int × List P3) (hx : ∀ c, 0 ≤ tVert (x, [], []) c ∨ ¬ (0 ≤ c ∧ c < 3 * (x.2.length : Int))) {v : Nat} (hv : v < x.1.toNat) : ∀ i, i ≤ 3 * x.2.length → (∃ c : Int, 3 * (x.2.length : Int) - i ≤ c ∧ c < 3 * (x.2.length : Int) ∧ tVert (x, [], []) c = v) →
    0 ≤ (newS x i).2.getD v 0 ∧ (newS x i).2.getD v 0 < 3 * (x.2.length : Int) ∧ tVert (x, [], []) ((newS x i).2.getD v 0) = v
  | 0, _, ⟨c, h1, h2, _⟩ => by omega
  | i + 1, hi, ⟨c, h1, h2, h3⟩ => by
    show 0 ≤ ((newS x i).2.set (tVert (x, [], []) (3 * x.2.length - 1 - i)).toNat (3 * x.2.length - 1 - i)).getD v 0 ∧ ((newS x i).2.set (tVert (x, [], []) (3 * x.2.length - 1 - i)).toNat (3 * x.2.length - 1 - i)).getD v 0 < _ ∧ tVert (x, [], []) (((newS x i).2.set (tVert (x, [], []) (3 * x.2.length - 1 - i)).toNat (3 * x.2.length - 1 - i)).getD v 0) = v
    rw [List.getD_eq_getElem?_getD, List.getElem?_set]
    by_cases e : (tVert (x, [], []) (3 * x.2.length - 1 - i)).toNat = v
    · rw [if_pos e, if_pos (by rw [newS_len]; omega)]
      have := hx (3 * x.2.length - 1 - i)
      refine ⟨?_, ?_, ?_⟩
      · show 0 ≤ 3 * (x.2.length : Int) - 1 - i; omega
      · show 3 * (x.2.length : Int) - 1 - i < _; omega
      · show tVert (x, [], []) (3 * x.2.length - 1 - i) = v
        rcases this with h | h <;> omega
    · rw [if_neg e, ← List.getD_eq_getElem?_getD]
      refine newS_at x hx hv i (by omega) ⟨c, ?_, h2, h3⟩
      have : c ≠ 3 * (x.2.length : Int) - 1 - i := fun k => e (by rw [← k, h3]; rfl)
      omega
theorem mark3_get {s : List Bool} {t : P3} {v : Nat} (h : (mark3 s t).getD v false = true) : s.getD v false = true ∨ t.1.toNat = v ∨ t.2.1.toNat = v ∨ t.2.2.toNat = v := by
  unfold mark3 at h
  by_cases h1 : t.1.toNat = v
  · exact .inr (.inl h1)
  by_cases h2 : t.2.1.toNat = v
  · exact .inr (.inr (.inl h2))
  by_cases h3 : t.2.2.toNat = v
  · exact .inr (.inr (.inr h3))
  simp only [List.getD_eq_getElem?_getD, List.getElem?_set, h1, h2, h3, if_false] at h
  rw [List.getD_eq_getElem?_getD]; exact .inl h
theorem there_ex {n : Nat} {l : List P3} {v : Nat} : ∀ i, (thereF n l i).getD v false = true → ∃ j, j < i ∧ ((l.getD j (0, 0, 0)).1.toNat = v ∨ (l.getD j (0, 0, 0)).2.1.toNat = v ∨ (l.getD j (0, 0, 0)).2.2.toNat = v)
  | 0, h => by
    have h : (List.replicate n false).getD v false = true := h
    rw [List.getD_eq_getElem?_getD, List.getElem?_replicate] at h
    split at h <;> cases h
  | i + 1, h => by
    rcases mark3_get (s := thereF n l i) h with h | h
    · obtain ⟨j, a, b⟩ := there_ex i h
      exact ⟨j, by omega, b⟩
    · exact ⟨i, by omega, h⟩
theorem fit_nn {s : Int × List P3} (h : fitS s) : ∀ j, j < s.2.length → 0 ≤ (s.2.getD j (0, 0, 0)).1 ∧ 0 ≤ (s.2.getD j (0, 0, 0)).2.1 ∧ 0 ≤ (s.2.getD j (0, 0, 0)).2.2 := fun j hj => by
  have := triIn_spec (h.2.2.2 j hj); omega
/-- A good table that knows all edges, all vertices, and has no vertex pinched. -/
structure Full (x : tabE.T) : Prop extends Good x where
  tot : ∀ c, tHas x c = true → mget .arr2 x.2.1 (tEdge x c) = some c
  vtx : ∀ v : Int, 0 ≤ v → v < x.1.1 → tHas x (tCorner x v) = true ∧ tVert x (tCorner x v) = v
  pin : ∀ v : Nat, (v : Int) < x.1.1 → ∀ Q : Nat → Prop,
    (∀ i j : Nat, i < x.1.2.length → j < x.1.2.length → hasV (x.1.2.getD i (0, 0, 0)) v → hasV (x.1.2.getD j (0, 0, 0)) v → (∃ w : Int, w ≠ v ∧ hasV (x.1.2.getD i (0, 0, 0)) w ∧ hasV (x.1.2.getD j (0, 0, 0)) w) → Q i → Q j) →
    ∀ a, a < x.1.2.length → hasV (x.1.2.getD a (0, 0, 0)) v → Q a → ∀ i, i < x.1.2.length → hasV (x.1.2.getD i (0, 0, 0)) v → Q i
theorem tri_cor {x : tabE.T} {j : Nat} {v : Int} (hj : j < x.1.2.length) (h : hasV (x.1.2.getD j (0, 0, 0)) v) : ∃ c, tHas x c = true ∧ (c / 3).toNat = j ∧ tVert x c = v := by
  have key : ∀ k : Int, 0 ≤ k → k < 3 → p3 (x.1.2.getD j (0, 0, 0)) k = v → ∃ c, tHas x c = true ∧ (c / 3).toNat = j ∧ tVert x c = v := fun k h1 h2 e => by
    have hc : 0 ≤ 3 * (j : Int) + k ∧ 3 * (j : Int) + k < 3 * (x.1.2.length : Int) := by omega
    refine ⟨3 * j + k, tHas_iff.2 hc, by omega, ?_⟩
    rw [tVert_t hc.1 hc.2, show ((3 * (j : Int) + k) / 3).toNat = j by omega, show (3 * (j : Int) + k) % 3 = k by omega]
    exact e
  rcases h with h | h | h
  · exact key 0 (by omega) (by omega) h
  · exact key 1 (by omega) (by omega) h
  · exact key 2 (by omega) (by omega) h
theorem cor_tri {x : tabE.T} {c : Int} (h : tHas x c = true) : (c / 3).toNat < x.1.2.length ∧ hasV (x.1.2.getD (c / 3).toNat (0, 0, 0)) (tVert x c) := by
  have hc := tHas_iff.1 h
  refine ⟨by omega, ?_⟩
  rw [tVert_t hc.1 hc.2]
  have : c % 3 = 0 ∨ c % 3 = 1 ∨ c % 3 = 2 := by omega
  rcases this with e | e | e <;> rw [e]
  · exact .inl rfl
  · exact .inr (.inl rfl)
  · exact .inr (.inr rfl)
theorem full_new {s : Int × List P3} (h : (chkR s).1 = 0) : Full (newT s) := by
  have hc := cert_of h
  have g := good_new hc
  have hw := firstW_nil (chk_all h)
  refine { g with tot := fun c hc => ?_, vtx := fun v h1 h2 => ?_, pin := fun v hv Q hQ a ha1 ha2 ha3 => ?_ }
  · have i0 := tHas_iff.1 hc
    have i0 : 0 ≤ c ∧ c < 3 * (s.2.length : Int) := i0
    obtain ⟨d, hd⟩ := newS_tot s _ (Nat.le_refl _) c (by omega) i0.2
    have hd : mget .arr2 (newT s).2.1 (tEdge (newT s) c) = some d := hd
    obtain ⟨k1, k2⟩ := g.map _ _ hd
    rw [hd, g.uniq _ _ k1 hc k2]
  · have hl : loneR s = [] := hw _ (by simp)
    have h2 : v < s.1 := h2
    have hv : v.toNat < s.1.toNat := by omega
    have := List.filterMap_eq_nil_iff.1 hl v.toNat (List.mem_range.2 hv)
    unfold loG at this
    split at this
    case isFalse => cases this
    rename_i ht
    obtain ⟨j, hj, e⟩ := there_ex _ ht
    have nn := fit_nn hc.fit j hj
    obtain ⟨c, c1, c2, c3⟩ := tri_cor (x := newT s) (v := v) hj (by
      show (s.2.getD j (0, 0, 0)).1 = v ∨ (s.2.getD j (0, 0, 0)).2.1 = v ∨ (s.2.getD j (0, 0, 0)).2.2 = v
      omega)
    have c1 := tHas_iff.1 c1
    have c1 : 0 ≤ c ∧ c < 3 * (s.2.length : Int) := c1
    have hat := newS_at s (fun c => by
      by_cases h : 0 ≤ c ∧ c < 3 * (s.2.length : Int)
      · exact .inl (tVert_in (x := (s, [], [])) hc.fit (tHas_iff.2 h)).1
      · exact .inr h) hv _ (Nat.le_refl _) ⟨c, by omega, c1.2, by have : tVert (s, [], []) c = v := c3; omega⟩
    have e : tCorner (newT s) v = (newS s (3 * s.2.length)).2.getD v.toNat 0 := by
      unfold tCorner
      rw [if_pos (by show 0 ≤ v ∧ v < ((newS s _).2.length : Int); rw [newS_len]; omega)]; rfl
    rw [e]
    refine ⟨tHas_iff.2 ⟨hat.1, hat.2.1⟩, ?_⟩
    have := hat.2.2
    show tVert (s, [], []) _ = v
    omega
  · exact pin_all (n := s.1) (l := s.2) (hw (pinR s) (by simp)) (fit_nn hc.fit) hv Q hQ ha1 ha2 ha3

/-! corners of a triangle -/
section
variable {x : tabE.T} {c d : Int}
theorem np (h : tHas x c = true) : tNext x (tPrev x c) = c ∧ tPrev x (tNext x c) = c ∧ tNext x (tNext x c) = tPrev x c ∧ tPrev x (tPrev x c) = tNext x c := by
  have h1 := hasNP h
  rw [tNext_t h1.1, tNext_t h1.2, tPrev_t h1.1, tPrev_t h1.2, tNext_t h, tPrev_t h]
  unfold trn; omega
theorem edgeN (h : tHas x c = true) : tEdge x (tNext x c) = (tVert x (tPrev x c), tVert x c) := by
  unfold tEdge; rw [(np h).2.2.1, (np h).2.1]
theorem edgeP (h : tHas x c = true) : tEdge x (tPrev x c) = (tVert x c, tVert x (tNext x c)) := by
  unfold tEdge; rw [(np h).1, (np h).2.2.2]
theorem Good.ne (g : Good x) (h : tHas x c = true) : tVert x c ≠ tVert x (tNext x c) ∧ tVert x c ≠ tVert x (tPrev x c) ∧ tVert x (tNext x c) ≠ tVert x (tPrev x c) := by
  have h1 := g.ends _ (hasNP h).1
  have h2 := g.ends _ (hasNP h).2
  have h3 := g.ends _ h
  rw [edgeN h] at h1
  rw [edgeP h] at h2
  exact ⟨h2, fun e => h1 e.symm, h3⟩
theorem Good.same (g : Good x) (hc : tHas x c = true) (hd : tHas x d = true) (h1 : tVert x c = tVert x d) (h2 : tVert x (tNext x c) = tVert x (tNext x d)) : c = d := by
  have := g.uniq _ _ (hasNP hc).2 (hasNP hd).2 (by rw [edgeP hc, edgeP hd, h1, h2])
  rw [← (np hc).1, ← (np hd).1, this]
theorem Good.sameP (g : Good x) (hc : tHas x c = true) (hd : tHas x d = true) (h1 : tVert x c = tVert x d) (h2 : tVert x (tPrev x c) = tVert x (tPrev x d)) : c = d := by
  have := g.uniq _ _ (hasNP hc).1 (hasNP hd).1 (by rw [edgeN hc, edgeN hd, h1, h2])
  rw [← (np hc).2.1, ← (np hd).2.1, this]
theorem Good.after_v (g : Good x) (h : 0 ≤ tAfter x c) : tVert x (tAfter x c) = tVert x c ∧ tVert x (tNext x (tAfter x c)) = tVert x (tPrev x c) := by
  obtain ⟨h1, h2, h3⟩ := g.after_has h
  obtain ⟨k1, k2, k3⟩ := g.opp h3
  rw [edgeN h1] at k3
  have e : tAfter x c = tNext x (tOpp x (tNext x c)) := by unfold tAfter; rw [if_neg (by omega)]
  rw [e, (np k2).2.2.1]
  exact ⟨congrArg Prod.fst k3, congrArg Prod.snd k3⟩
theorem Good.before_v (g : Good x) (h : 0 ≤ tBefore x c) : tVert x (tBefore x c) = tVert x c ∧ tVert x (tPrev x (tBefore x c)) = tVert x (tNext x c) := by
  obtain ⟨h1, h2, h3⟩ := g.before_has h
  obtain ⟨k1, k2, k3⟩ := g.opp h3
  rw [edgeP h1] at k3
  have e : tBefore x c = tPrev x (tOpp x (tPrev x c)) := by unfold tBefore; rw [if_neg (by omega)]
  rw [e, (np k2).2.2.2]
  exact ⟨congrArg Prod.snd k3, congrArg Prod.fst k3⟩
theorem Full.facing (g : Full x) (h : tHas x d = true) : tFacing x (tEdge x d) = d := by
  unfold tFacing; rw [g.tot d h]; rfl
theorem Full.opp_is (g : Full x) (hd : tHas x d = true) (h : tEdge x d = ((tEdge x c).2, (tEdge x c).1)) : tOpp x c = d := by
  unfold tOpp; rw [← h]; exact g.facing hd
theorem Full.after_is (g : Full x) (hc : tHas x c = true) (hd : tHas x d = true) (h1 : tVert x d = tVert x c) (h2 : tVert x (tNext x d) = tVert x (tPrev x c)) : tAfter x c = d := by
  have e : tOpp x (tNext x c) = tPrev x d := g.opp_is (hasNP hd).2 (by rw [edgeP hd, edgeN hc, h1, h2])
  have := tHas_iff.1 (hasNP hd).2
  unfold tAfter; rw [if_neg (by rw [e]; omega), e, (np hd).1]
theorem Full.before_is (g : Full x) (hc : tHas x c = true) (hd : tHas x d = true) (h1 : tVert x d = tVert x c) (h2 : tVert x (tPrev x d) = tVert x (tNext x c)) : tBefore x c = d := by
  have e : tOpp x (tPrev x c) = tNext x d := g.opp_is (hasNP hd).1 (by rw [edgeN hd, edgeP hc, h1, h2])
  have := tHas_iff.1 (hasNP hd).1
  unfold tBefore; rw [if_neg (by rw [e]; omega), e, (np hd).2.1]
theorem Full.before_after (g : Full x) (h : 0 ≤ tAfter x c) : tBefore x (tAfter x c) = c := by
  obtain ⟨h1, h2, _⟩ := g.after_has h
  have := g.after_v h
  exact g.before_is h2 h1 this.1.symm this.2.symm
theorem Full.after_before (g : Full x) (h : 0 ≤ tBefore x c) : tAfter x (tBefore x c) = c := by
  obtain ⟨h1, h2, _⟩ := g.before_has h
  have := g.before_v h
  exact g.after_is h2 h1 this.1.symm this.2.symm
end

/-! round a vertex -/
theorem aroundF_clo {x : tabE.T} (g : Good x) {b : Int} : ∀ n k, k + n = 30000 → FInv (tAfter x) b k → ∀ y ∈ aroundF x b n (iter (tAfter x) b k), tAfter x y < 0 ∨ tAfter x y = b ∨ tAfter x y ∈ aroundF x b n (iter (tAfter x) b k)
  | 0, k, e, h, y, hy => by have := fin_after g h; omega
  | n + 1, k, e, h, y, hy => by
    unfold aroundF at hy ⊢
    by_cases h1 : tAfter x (iter (tAfter x) b k) < 0
    · rw [if_pos h1] at hy
      rw [List.mem_singleton.1 hy]; exact .inl h1
    · rw [if_neg h1] at hy ⊢
      by_cases h2 : tAfter x (iter (tAfter x) b k) = b
      · rw [if_pos h2] at hy
        rw [List.mem_singleton.1 hy]; exact .inr (.inl h2)
      · rw [if_neg h2] at hy ⊢
        have hn : iter (tAfter x) b (k + 1) ∈ aroundF x b n (iter (tAfter x) b (k + 1)) := by
          obtain ⟨m, rfl⟩ : ∃ m, n = m + 1 := ⟨n - 1, by have := fin_after g (h.succ h1 h2); omega⟩
          unfold aroundF; exact List.mem_cons_self ..
        rcases List.mem_cons.1 hy with hy | hy
        · rw [hy]; exact .inr (.inr (List.mem_cons_of_mem _ hn))
        · rcases aroundF_clo g n (k + 1) (by omega) (h.succ h1 h2) y hy with h | h | h
          · exact .inl h
          · exact .inr (.inl h)
          · exact .inr (.inr (List.mem_cons_of_mem _ h))
/-- Whatever holds of the first corner, and of each one behind one of which it holds. -/
theorem aroundF_all {x : tabE.T} {b : Int} (P : Int → Prop) (hs : ∀ c, P c → 0 ≤ tAfter x c → P (tAfter x c)) : ∀ n c, P c → ∀ y ∈ aroundF x b n c, P y
  | 0, c, _, y, hy => by cases hy
  | n + 1, c, h, y, hy => by
    unfold aroundF at hy
    split at hy
    · rw [List.mem_singleton.1 hy]; exact h
    · split at hy
      · rw [List.mem_singleton.1 hy]; exact h
      · rcases List.mem_cons.1 hy with hy | hy
        · rw [hy]; exact h
        · exact aroundF_all P hs n _ (hs c h (by omega)) y hy
/-- Where the walk back ends. -/
theorem firstF_ends {x : tabE.T} (g : Good x) {c0 : Int} : ∀ n k, k + n = 30000 → FInv (tBefore x) c0 k → ∃ m, FInv (tBefore x) c0 m ∧
    ((firstF x c0 n (iter (tBefore x) c0 k) = (iter (tBefore x) c0 m, true) ∧ tBefore x (iter (tBefore x) c0 m) < 0) ∨ (firstF x c0 n (iter (tBefore x) c0 k) = (c0, false) ∧ tBefore x (iter (tBefore x) c0 m) = c0))
  | 0, k, e, h => by have := fin_before g h; omega
  | n + 1, k, e, h => by
    unfold firstF
    by_cases h1 : tBefore x (iter (tBefore x) c0 k) < 0
    · rw [if_pos h1]; exact ⟨k, h, .inl ⟨rfl, h1⟩⟩
    · rw [if_neg h1]
      by_cases h2 : tBefore x (iter (tBefore x) c0 k) = c0
      · rw [if_pos h2]; exact ⟨k, h, .inr ⟨rfl, h2⟩⟩
      · rw [if_neg h2]
        exact firstF_ends g n (k + 1) (by omega) (h.succ h1 h2)
theorem there_iff {x : tabE.T} {v : Int} : tThere x v = true ↔ 0 ≤ v ∧ v < x.1.1 ∧ 0 ≤ tCorner x v := by
  simp only [tThere, Bool.and_eq_true, decide_eq_true_eq]
theorem Full.there {x : tabE.T} (g : Full x) {v : Int} (h0 : 0 ≤ v) (h1 : v < x.1.1) : tThere x v = true :=
  there_iff.2 ⟨h0, h1, (tHas_iff.1 (g.vtx v h0 h1).1).1⟩
/-- What is yielded round a vertex: corners there, closed under what is behind, and what is ahead. -/
theorem Full.around {x : tabE.T} (g : Full x) {v : Int} (h0 : 0 ≤ v) (h1 : v < x.1.1) :
    ∃ b, (firstR x v).1 = b ∧ aroundL (some x) v = aroundF x b 30000 b ∧ tHas x b = true ∧ tVert x b = v ∧ b ∈ aroundL (some x) v ∧ (∀ y ∈ aroundL (some x) v, tHas x y = true ∧ tVert x y = v) ∧
    (∀ y ∈ aroundL (some x) v, 0 ≤ tAfter x y → tAfter x y ∈ aroundL (some x) v) ∧ (∀ y ∈ aroundL (some x) v, 0 ≤ tBefore x y → tBefore x y ∈ aroundL (some x) v) ∧
    (((firstR x v).2 = true ∧ tBefore x b < 0) ∨ ((firstR x v).2 = false ∧ ∀ y ∈ aroundL (some x) v, 0 ≤ tAfter x y)) := by
  obtain ⟨k1, k2⟩ := g.vtx v h0 h1
  have e := aroundL_eq (x := x) h0 h1 (tHas_iff.1 k1).1
  obtain ⟨m, hm, hend⟩ := firstF_ends g.toGood (c0 := tCorner x v) 30000 0 (by omega) (fun j a b => by omega)
  have hend : (firstR x v = (iter (tBefore x) (tCorner x v) m, true) ∧ tBefore x (iter (tBefore x) (tCorner x v) m) < 0) ∨ (firstR x v = (tCorner x v, false) ∧ tBefore x (iter (tBefore x) (tCorner x v) m) = tCorner x v) := hend
  have itok : ∀ j, j ≤ m → tHas x (iter (tBefore x) (tCorner x v) j) = true ∧ tVert x (iter (tBefore x) (tCorner x v) j) = v := fun j => by
    induction j with
    | zero => exact fun _ => ⟨k1, k2⟩
    | succ j ih =>
      intro hj
      have hp : 0 ≤ tBefore x (iter (tBefore x) (tCorner x v) j) := (hm (j + 1) (by omega) hj).1
      exact ⟨(g.before_has hp).2.1, (g.before_v hp).1.trans (ih (by omega)).2⟩
  have hb : tHas x (firstR x v).1 = true ∧ tVert x (firstR x v).1 = v := by
    rcases hend with ⟨h, _⟩ | ⟨h, _⟩
    · rw [h]; exact itok m (Nat.le_refl _)
    · rw [h]; exact ⟨k1, k2⟩
  have hin : (firstR x v).1 ∈ aroundL (some x) v := by rw [e]; unfold aroundF; exact List.mem_cons_self ..
  have hall : ∀ y ∈ aroundL (some x) v, tHas x y = true ∧ tVert x y = v := by
    rw [e]
    exact aroundF_all _ (fun c hc ha => ⟨(g.after_has ha).2.1, (g.after_v ha).1.trans hc.2⟩) _ _ hb
  have haft : ∀ y ∈ aroundL (some x) v, 0 ≤ tAfter x y → tAfter x y ∈ aroundL (some x) v := fun y hy ha => by
    rw [e] at hy
    rcases aroundF_clo g.toGood 30000 0 rfl (fun j a b => by omega) y hy with h | h | h
    · omega
    · rw [h]; exact hin
    · rw [e]; exact h
  have hcyc : (firstR x v).2 = false → ∀ y ∈ aroundL (some x) v, 0 ≤ tAfter x y ∧ ∃ j, j ≤ m ∧ y = iter (tBefore x) (tCorner x v) j := fun hf => by
    rcases hend with ⟨h, _⟩ | ⟨h, hr⟩
    · rw [h] at hf; cases hf
    · have key : ∀ j, j ≤ m → 0 ≤ tAfter x (iter (tBefore x) (tCorner x v) j) ∧ ∃ i, i ≤ m ∧ tAfter x (iter (tBefore x) (tCorner x v) j) = iter (tBefore x) (tCorner x v) i := fun j hj => by
        cases j with
        | zero =>
          have h0 : 0 ≤ tCorner x v := (tHas_iff.1 k1).1
          have := g.after_before (c := iter (tBefore x) (tCorner x v) m) (by rw [hr]; exact h0)
          rw [hr] at this
          show 0 ≤ tAfter x (tCorner x v) ∧ ∃ i, i ≤ m ∧ tAfter x (tCorner x v) = _
          rw [this]
          exact ⟨(tHas_iff.1 (itok m (Nat.le_refl _)).1).1, m, Nat.le_refl _, rfl⟩
        | succ j =>
          have hp : 0 ≤ tBefore x (iter (tBefore x) (tCorner x v) j) := (hm (j + 1) (by omega) hj).1
          have : tAfter x (iter (tBefore x) (tCorner x v) (j + 1)) = iter (tBefore x) (tCorner x v) j := g.after_before hp
          rw [this]
          exact ⟨(tHas_iff.1 (itok j (by omega)).1).1, j, by omega, rfl⟩
      have : ∀ y ∈ aroundL (some x) v, ∃ j, j ≤ m ∧ y = iter (tBefore x) (tCorner x v) j := by
        rw [e]
        refine aroundF_all _ (fun c ⟨j, hj, hc⟩ _ => ?_) _ _ ⟨0, by omega, by rw [h]; rfl⟩
        obtain ⟨_, i, hi, e⟩ := key j hj
        exact ⟨i, hi, by rw [hc]; exact e⟩
      intro y hy
      obtain ⟨j, hj, ej⟩ := this y hy
      exact ⟨by rw [ej]; exact (key j hj).1, j, hj, ej⟩
  have hbef : ∀ y ∈ aroundL (some x) v, 0 ≤ tBefore x y → tBefore x y ∈ aroundL (some x) v := by
    have hP : ∀ y ∈ aroundL (some x) v, (0 ≤ tBefore x y → tBefore x y ∈ aroundL (some x) v) := by
      intro y hy
      have : y ∈ aroundL (some x) v ∧ (0 ≤ tBefore x y → tBefore x y ∈ aroundL (some x) v) := by
        have hy2 := hy
        rw [e] at hy2
        refine aroundF_all (fun y => y ∈ aroundL (some x) v ∧ (0 ≤ tBefore x y → tBefore x y ∈ aroundL (some x) v)) (fun c ⟨hc, _⟩ ha => ⟨haft c hc ha, fun _ => by rw [g.before_after ha]; exact hc⟩) _ _ ⟨hin, fun hp => ?_⟩ y hy2
        rcases hend with ⟨h, hn⟩ | ⟨h, hr⟩
        · rw [h] at hp; exact absurd hp (by show ¬ 0 ≤ tBefore x (iter (tBefore x) (tCorner x v) m); omega)
        · -- the walk forward: some round its end is the first again
          have hc := hcyc (by rw [h])
          have hz : tBefore x (tCorner x v) ∈ aroundL (some x) v := by
            -- each iterate is in it
            have back : ∀ i j, j + i = m → iter (tBefore x) (tCorner x v) j ∈ aroundL (some x) v := fun i => by
              induction i with
              | zero =>
                intro j hj
                have hj : j = m := by omega
                subst hj
                have h0 : 0 ≤ tCorner x v := (tHas_iff.1 k1).1
                have e1 := g.after_before (c := iter (tBefore x) (tCorner x v) j) (by rw [hr]; exact h0)
                rw [hr] at e1
                have := haft (tCorner x v) (by rw [h] at hin; exact hin) (by rw [e1]; exact (tHas_iff.1 (itok j (Nat.le_refl _)).1).1)
                rw [e1] at this; exact this
              | succ i ih =>
                intro j hj
                have h2 := ih (j + 1) (by omega)
                have hp : 0 ≤ tBefore x (iter (tBefore x) (tCorner x v) j) := (hm (j + 1) (by omega) (by omega)).1
                have e1 : tAfter x (iter (tBefore x) (tCorner x v) (j + 1)) = iter (tBefore x) (tCorner x v) j := g.after_before hp
                have := haft _ h2 (by rw [e1]; exact (tHas_iff.1 (itok j (by omega)).1).1)
                rw [e1] at this; exact this
            by_cases hm0 : m = 0
            · subst hm0
              have hr : tBefore x (tCorner x v) = tCorner x v := hr
              rw [hr]; rw [h] at hin; exact hin
            · exact back (m - 1) 1 (by omega)
          rw [h]; exact hz
      exact this.2
    exact hP
  refine ⟨_, rfl, e, hb.1, hb.2, hin, hall, haft, hbef, ?_⟩
  rcases hend with ⟨h, hn⟩ | ⟨h, hr⟩
  · exact .inl ⟨by rw [h], by rw [h]; exact hn⟩
  · exact .inr ⟨by rw [h], fun y hy => (hcyc (by rw [h]) y hy).1⟩
/-- ALL corners at a vertex are yielded. -/
theorem Full.around_all {x : tabE.T} (g : Full x) {c : Int} (hc : tHas x c = true) : c ∈ aroundL (some x) (tVert x c) := by
  have hv := tVert_in g.fit hc
  obtain ⟨b, _, _, hb1, hb2, hb3, hall, haft, hbef, _⟩ := g.around hv.1 hv.2
  obtain ⟨v, hv2⟩ : ∃ v : Nat, tVert x c = v := ⟨(tVert x c).toNat, by omega⟩
  rw [hv2] at hall haft hbef hb2 hb3 ⊢
  have hn : (v : Int) < x.1.1 := by omega
  have tb := cor_tri hb1
  have tc := cor_tri hc
  rw [hb2] at tb
  rw [hv2] at tc
  have hQ := g.pin v hn (fun i => ∃ y ∈ aroundL (some x) v, (y / 3).toNat = i) (fun i j hi hj hvi hvj ⟨w, hw, hwi, hwj⟩ ⟨y, hy, ey⟩ => by
    obtain ⟨hy1, hy2⟩ := hall y hy
    obtain ⟨d, d1, d2, d3⟩ := tri_cor hj hvj
    -- the other vertex, in both
    have two : ∀ {y : Int}, tHas x y = true → tVert x y = v → hasV (x.1.2.getD (y / 3).toNat (0, 0, 0)) w → w = tVert x (tNext x y) ∨ w = tVert x (tPrev x y) := fun {y} h1 h2 h3 => by
      obtain ⟨a, a1, a2, a3⟩ := tri_cor (cor_tri h1).1 h3
      have i1 := tHas_iff.1 h1
      have i2 := tHas_iff.1 a1
      have : a = y ∨ a = tNext x y ∨ a = tPrev x y := by
        rw [tNext_t h1, tPrev_t h1]; unfold trn; omega
      rcases this with e | e | e
      · subst e; exact absurd (a3.symm.trans h2) hw
      · subst e; exact .inl a3.symm
      · subst e; exact .inr a3.symm
    have wy := two hy1 hy2 (by rw [ey]; exact hwi)
    have wd := two d1 d3 (by rw [d2]; exact hwj)
    refine ⟨d, ?_, d2⟩
    have evd : tVert x y = tVert x d := hy2.trans d3.symm
    have nn := (tHas_iff.1 d1).1
    rcases wy with wy | wy <;> rcases wd with wd | wd
    · rw [← g.same hy1 d1 evd (wy.symm.trans wd)]; exact hy
    · have := g.before_is hy1 d1 evd.symm (wd.symm.trans wy)
      have h2 := hbef y hy (by rw [this]; exact nn)
      rw [this] at h2; exact h2
    · have := g.after_is hy1 d1 evd.symm (wd.symm.trans wy)
      have h2 := haft y hy (by rw [this]; exact nn)
      rw [this] at h2; exact h2
    · rw [← g.sameP hy1 d1 evd (wy.symm.trans wd)]; exact hy) _ tb.1 tb.2 ⟨b, hb3, rfl⟩ _ tc.1 tc.2
  obtain ⟨y, hy, ey⟩ := hQ
  obtain ⟨hy1, hy2⟩ := hall y hy
  have i1 := tHas_iff.1 hc
  have i2 := tHas_iff.1 hy1
  have : y = c ∨ y = tNext x c ∨ y = tPrev x c := by
    rw [tNext_t hc, tPrev_t hc]; unfold trn; omega
  have hne := g.ne hc
  rcases this with e | e | e
  · rw [← e]; exact hy
  · rw [e] at hy2; exact absurd (hv2.trans hy2.symm) hne.1
  · rw [e] at hy2; exact absurd (hv2.trans hy2.symm) hne.2.1
end S1

/- Functions with ranges over functions at their top that hand rows over. -/
namespace Go.Vm
open Go.RowKit

def afunRF (T : Tab) (SQ : SeqTab) (fn : Func) (args : List AV) (R : AV → List Ob → Prop) : Prop :=
  match fn.body with
  | some c => (St.init args).forceAll fun s => acodeR T SQ c s (postF T fn R)
  | none => False

section
variable {P : Program} {T : Tab} {SQ : SeqTab} {B B0 : Base} {w w' : World} {σ τ : Sig} {β : Places} {st : St} {tmps : Array Value} {N : Nat} {a : Act}

/-- The marks of ranges that are over, one by one. -/
theorem marks_leave {fn : Func} {st' : St} {R : Ending → World → Prop}
    (hend : ∀ (B1 : Base) (σ1 : Sig) (β1 : Places) (w' : World), B1.w = w → Grew ⟨w, σ, []⟩ B1.sg → GG B1 σ1 β1 st' tmps w' → ∃ v, (results fn tmps).run P w' = .ok v w' ∧ R (.returned v) w') (hag : Ag σ w) :
    ∀ (Ds : List Nat) (B1 : Base) (σ1 : Sig) (β1 : Places) (w' : World), Ds.Nodup → (∀ D ∈ Ds, B1.sg D = some (.deferred (some [])) ∧ w.heap.size ≤ D) → B1.w = w → Grew ⟨w, σ, []⟩ B1.sg → GG B1 σ1 β1 st' tmps w' →
      LeavesInM (FR none) 0 P fn tmps R (Ds.map mark) .returning w' := by
  intro Ds
  induction Ds with
  | cons D r ih =>
    intro B1 σ1 β1 w' hn hD hw hgr hg
    obtain ⟨hn1, hn2⟩ := List.nodup_cons.1 hn
    obtain ⟨d1, d2⟩ := hD D (List.mem_cons_self ..)
    rw [Base.relock B1 d1] at hg
    obtain ⟨_, hl2, _⟩ := hg.locked rfl
    have hdel : ∀ b, b ≠ D → (B1.sg.del D) b = B1.sg b := fun b hb => by unfold Sig.del; rw [if_neg hb]
    obtain ⟨hg2, _⟩ := hg.unlock rfl (by show B1.w.heap.size ≤ D; rw [hw]; exact d2) (by show (B1.sg.del D) D = none; unfold Sig.del; rw [if_pos rfl]) (.deferred none)
    refine ⟨by simp, .inl ⟨D, _, rfl, run_takeDeferred hl2, ih { B1 with sg := B1.sg.del D } _ _ _ hn2 (fun D' hD' => ?_) hw ⟨fun b o e => ?_, fun b hb => ?_⟩ hg2⟩⟩
    · obtain ⟨k1, k2⟩ := hD D' (List.mem_cons_of_mem _ hD')
      exact ⟨by show (B1.sg.del D) D' = _; rw [hdel _ (fun e => hn1 (e ▸ hD'))]; exact k1, k2⟩
    · have hb : b ≠ D := fun hb => by subst hb; have := hag.lt e; omega
      show ∃ o', (B1.sg.del D) b = some o' ∧ _
      rw [hdel b hb]; exact hgr.1 b o e
    · have hb : b < w.heap.size := hb
      show (B1.sg.del D) b = _
      rw [hdel b (by omega)]; exact hgr.2 b hb
  | nil =>
    intro B1 σ1 β1 w' _ _ hw hgr hg
    exact hend B1 σ1 β1 w' hw hgr hg

theorem fn_okRF (R : Rules P T) (hSQ : SeqTabOk P SQ) {f : FuncId} {fn : Func} {c : Code} (hf : P.funcs[f]? = some fn) (hb : fn.body = some c) (hok : codeOkR fn.ntmps c = true)
    {args : List AV} (hl : args.length ≤ fn.ntmps) {q : Option Prop} {u : AV} {us : List Ob} (h : goodArgs args → Opt q → afunRF T SQ fn args (fun v obs => v = u ∧ obs = us)) : FnOkF P f args (none, q, u, us) := by
  intro σ vals w hag hv
  refine ⟨trivial, fun hq => ?_⟩
  have hga := ga_init (N := fn.ntmps) hag hv hl
  have hk := h (vreps_good hv) hq
  simp only [afunRF, hb, St.forceAll_eq] at hk
  refine (callsIn_of_wp_marks (F := Fence.wide) (n := 0) hf hb trivial ?_).calls (fun _ _ hd => by cases hd)
  rw [← FR.none]
  refine acodeR_wp (B0 := ⟨w, σ, []⟩) R hSQ c hok ⟨rfl, ⟨Sig.le.refl _, fun _ _ => rfl⟩, [], rfl, List.nodup_nil, fun D hD => by cases hD⟩ hga hk fun e B1 st' a' w' hm hp h' => ?_
  have fin : (match fn.results.toList.all (resOk T st') && (nodupB (rowIds (rawAll T fn st').parts) && rowsB st'.hp (rowIds (rawAll T fn st').parts)) with
      | true => (rawAll T fn st').mapAS (renAS (rowIds (rawAll T fn st').parts)) = u ∧ obsOf st'.hp (rowIds (rawAll T fn st').parts) = us
      | false => False) → LeavesInM (FR none) 0 P fn a'.tmps (fun e w' => ∃ v σ' β', e = .returned v ∧ σ.le σ' ∧ Ag σ' w' ∧
      (∀ b, b < w.heap.size → σ' b = σ b) ∧ VRep σ' β' u v ∧ FreshL σ' w.heap.size w' us β' ∧ Below w.heap.size w w') a'.defers .returning w' := by
    intro hu
    split at hu
    case h_2 => exact hu.elim
    rename_i hallok
    rw [Bool.and_eq_true, Bool.and_eq_true] at hallok
    obtain ⟨hallok, hnd, hrows⟩ := hallok
    obtain ⟨σ1, β1, hg⟩ := h'.gg
    obtain ⟨Ds, e1, e2, e3⟩ := hm.ds
    rw [h'.defers, e1]
    refine marks_leave (w := w) (σ := σ) (st' := st') (fun B1 σ1 β1 w' hw hgr hg => ?_) hag Ds B1 σ1 β1 w' e2 e3 hm.w hm.grew hg
    have hsl : σ.le σ1 := Sig.le.trans hgr.1 hg.grew.1
    have hsb : ∀ b, b < w.heap.size → σ1 b = σ b := fun b hb => (hg.grew.2 b (by rw [hw]; exact hb)).trans (hgr.2 b hb)
    have hbel : Below w.heap.size w w' := by have := hg.bel; rw [hw] at this; exact this
    obtain ⟨vs, hrun, hall⟩ := results_run (P := P) (w := w') (fn := fn) (tmps := a'.tmps) (Q := fun r v => VRep σ1 β1 (rawOne T st' r) v) (fun r hr => by
      have hro := List.all_eq_true.1 hallok r hr
      cases r with
      | tmp t => exact ⟨_, rfl, hg.env t⟩
      | cell a t =>
        simp only [resOk] at hro
        simp only [rawOne]
        have hx := hg.env a
        split at hro
        · rename_i id i k hea
          rw [hea] at hx
          split at hro
          · rename_i v hv
            obtain ⟨p, _, hptr, _⟩ := hx
            obtain ⟨_, hrun⟩ := cLoad_sound (w := w') R.ty R.one hg.mem (t := t) (hg.env a) (p := none) (q := none) (v := v) (by rw [hea]; exact hv)
            obtain ⟨val, h1, h2⟩ := hrun trivial
            refine ⟨val, ?_, h2⟩
            rw [hptr] at h1 ⊢
            rw [loadAt_run] at h1
            simp only [asAddr, Sem.run_bind, Sem.run_pure, Result.andThen_ok]
            exact h1
          · cases hro
        · cases hro)
    refine ⟨_, hrun, _, σ1, (rowIds (rawAll T fn st').parts).map fun i => (β1[i]?).getD none, rfl, hsl, hg.mem.ag, hsb, ?_, ?_, hbel⟩
    · exact ((rawAll_rep hall).mapAS fun a v ha => ARep.ren (ids := rowIds (rawAll T fn st').parts) ha) |> fun h => by rw [hu.1] at h; exact h
    · have := nodup_fresh (w := w') hg.mem.ob (fun id ob p hi hp => by have := hg.sep id ob p hi hp; rw [hw] at this; exact this) _ hnd hrows
      rw [hu.2] at this; exact this
  cases e with
  | normal => simp only [postF, AV.force_eq] at hp; exact fin hp
  | ret => simp only [postF, AV.force_eq] at hp; exact fin hp
  | _ => exact hp.elim
end
end Go.Vm

open Go Go.Vm Go.Proofs
namespace S1
set_option maxRecDepth 100000

/-! ring.Link again: it hands its row over -/
set_option maxHeartbeats 400000 in
theorem linkF_vc (x : tabE.T) (v : Int) (g : Good x) : afunRF ⟨tyL, [(64, aroundC), (58, nextC), (59, prevC), (65, afterC), (24, vertexC)], []⟩ seqT Try.f27 [(ETy.pt tabE).av (some x), i64E.av v] (fun r obs => r = .s (.own 0 0 (linkR x v).length) ∧ obs = [.row i64E 3 (linkR x v)]) := by
  obtain ⟨hl, ha⟩ := aroundL_le g v
  have hd := getD_le ha
  have hL := lkLast_le ha (aroundL (some x) v).length
  have ho := lkO_len x (aroundL (some x) v)
  have ho2 := ho _ (Nat.le_refl _)
  repeat' (conv => whnf
           first
            | done
            | refine Need.intro (by first | rfl | omega | (simp only [i64ok] at *; omega)) ?_
            | refine Need.intro (Hold.out ?_) ?_
            | refine Give.intro fun _ => ?_
            | refine Both.intro ?_ ?_
            | refine BIf.and ?_
            | refine BIf.or ?_
            | refine BIf.eqi (fun _ => ?_) (fun _ => ?_)
            | refine BIf.nei (fun _ => ?_) (fun _ => ?_)
            | refine BIf.dec (fun _ => ?_) (fun _ => ?_)
            | refine BIf.nt ?_
            | refine BIf.intro (fun _ => ?_) (fun _ => ?_)
            | refine Exists.intro (aroundL (some x) v) (And.intro (Hold.out ?_) (Exists.intro (loopK x (aroundL (some x) v)) ?_))
            | (refine And.intro (fun X => ?_) (fun X => ?_))
            | (refine And.intro (And.intro ?_ (And.intro ?_ rfl)) (fun k hk => ?_))
            | (refine And.intro ?_ (And.intro ?_ rfl))
            | refine And.intro rfl ?_
            | refine And.intro (HoldEq.out ?_) ?_
            | refine And.intro (HoldOb.out ?_) ?_
            | exact True.intro
            | refine HoldEq.out ?_
            | refine HoldObs.out ?_
            | refine HoldOr.out ?_)
  all_goals try first | refine HoldEq.int ?_ | refine HoldEq.bool ?_ | refine HoldEq.sl ?_ | refine HoldEq.own ?_ | refine HoldEq.ownS ?_ ?_ | refine HoldOb.row ?_ | refine HoldOb.map ?_ | refine HoldOb.gmap ?_ | refine HoldOb.grow ?_ | refine HoldObs.row ?_
  all_goals try simp only [take_one, take_one', set_one, take_all, List.length_singleton, rec_self, Int.toNat_natCast, pair_eta, ETy.dflt, List.getD_cons_zero, List.getD_cons_succ, Int.reduceToNat, Int.reduceAdd, Int.reduceSub, Int.reduceNeg, Nat.reduceAdd, Nat.zero_add] at *
  · exact Hold.intro ⟨rfl, some x, v, rfl, fun y e => by cases e; exact g, rfl⟩
  · exact Hold.intro (Int.le_trans (hd k) (by decide))
  · exact Hold.intro (Int.le_trans (next_le g _) (by decide))
  · have := ho k (Nat.le_of_lt hk)
    refine Hold.intro ?_; omega
  · rw [lkO_succ _ _ _ hk, List.length_append]; exact HoldOb.intro rfl
  · exact lkO_succ _ _ _ hk
  · exact Hold.intro ⟨g, hL⟩
  · exact Hold.intro (Int.le_trans hL (by decide))
  · exact Hold.intro (Int.le_trans (prev_le g _) (by decide))
  · refine Hold.intro ?_; omega
  · rename_i h1 h2
    unfold linkR
    rw [if_pos ⟨h1, h2⟩, List.length_append]; rfl
  · rename_i h1 h2
    unfold linkR
    rw [if_pos ⟨h1, h2⟩]
  · rename_i h1 h2
    unfold linkR
    rw [if_neg (fun e => h2 e.2), List.append_nil]
  · rename_i h1 h2
    unfold linkR
    rw [if_neg (fun e => h2 e.2), List.append_nil]
  · rename_i h1
    unfold linkR
    rw [if_neg (fun e => h1 e.1), List.append_nil]
  · rename_i h1
    unfold linkR
    rw [if_neg (fun e => h1 e.1), List.append_nil]
set_option maxHeartbeats 4000000 in
theorem linkF0_vc (v : Int) : afunRF ⟨tyL, [(64, aroundC), (58, nextC), (59, prevC), (65, afterC), (24, vertexC)], []⟩ seqT Try.f27 [(ETy.pt tabE).av none, i64E.av v] (fun r obs => r = .s (.own 0 0 0) ∧ obs = [.row i64E 3 []]) := by
  repeat' (conv => whnf
           first
            | done
            | refine Need.intro (by first | rfl | omega | (simp only [i64ok] at *; omega)) ?_
            | refine Need.intro (Hold.out ?_) ?_
            | refine Give.intro fun _ => ?_
            | refine Both.intro ?_ ?_
            | refine BIf.and ?_
            | refine BIf.or ?_
            | refine BIf.eqi (fun _ => ?_) (fun _ => ?_)
            | refine BIf.nei (fun _ => ?_) (fun _ => ?_)
            | refine BIf.dec (fun _ => ?_) (fun _ => ?_)
            | refine BIf.nt ?_
            | refine BIf.intro (fun _ => ?_) (fun _ => ?_)
            | refine Exists.intro [] (And.intro (Hold.out ?_) (Exists.intro loopK0 ?_))
            | (refine And.intro (fun X => ?_) (fun X => ?_))
            | (refine And.intro (And.intro ?_ (And.intro ?_ rfl)) (fun k hk => absurd hk (Nat.not_lt_zero _)))
            | refine And.intro rfl ?_
            | refine And.intro (HoldEq.out ?_) ?_
            | refine And.intro (HoldOb.out ?_) ?_
            | exact True.intro
            | refine HoldEq.out ?_
            | refine HoldObs.out ?_
            | refine HoldOr.out ?_)
  all_goals try first | refine HoldEq.int ?_ | refine HoldEq.bool ?_ | refine HoldEq.sl ?_ | refine HoldEq.own ?_ | refine HoldEq.ownS ?_ ?_ | refine HoldOb.row ?_ | refine HoldOb.map ?_ | refine HoldOb.gmap ?_ | refine HoldOb.grow ?_ | refine HoldObs.row ?_
  all_goals try simp only [take_one, take_one', set_one, take_all, List.length_singleton, rec_self, Int.toNat_natCast, pair_eta, ETy.dflt, List.getD_cons_zero, List.getD_cons_succ, Int.reduceToNat, Int.reduceAdd, Int.reduceSub, Int.reduceNeg, Nat.reduceAdd, Nat.zero_add] at *
  exact Hold.intro ⟨rfl, none, v, rfl, fun y e => (by cases e), rfl⟩
def linkFC : List AV → Option ResF := con2 (.pt tabE) i64E (fun o v => some (none, some (∀ x, o = some x → Good x), .s (.own 0 0 (linkO o v).length), [.row i64E 3 (linkO o v)]))
theorem linkFRow : FnRowF Try.prog 27 linkFC := ⟨con2_okF fun o v r h => by
  cases h
  cases o with
  | none => exact fn_okRF (rulesF (fn := [(64, aroundC), (58, nextC), (59, prevC), (65, afterC), (24, vertexC)]) (fr := []) ⟨aroundRow, nextRow, prevRow, afterRow, vertexRow, trivial⟩ trivial) seqS Try.func27 rfl (by kernel_rfl) (Nat.le_of_ble_eq_true rfl) fun _ _ => linkF0_vc v
  | some x => exact fn_okRF (rulesF (fn := [(64, aroundC), (58, nextC), (59, prevC), (65, afterC), (24, vertexC)]) (fr := []) ⟨aroundRow, nextRow, prevRow, afterRow, vertexRow, trivial⟩ trivial) seqS Try.func27 rfl (by kernel_rfl) (Nat.le_of_ble_eq_true rfl) fun _ h => linkF_vc x v (h x rfl), _, Try.func27, by kernel_rfl, by kernel_rfl⟩
end S1

open Go Go.Vm Go.Proofs
namespace S1
set_option maxRecDepth 100000

/-! link.Common -/
theorem notin_vc (v : Int) (l : List Int) : afun ⟨tyL, [(47, containsC)], []⟩ Try.f46 [i64E.av v, (ETy.pt (.sl i64E)).av (some l)] (fun r => r = .s (.bool (!hasI v l))) := by
  repeat' (conv => whnf
           first
            | done
            | refine Need.intro (by first | rfl | omega | (simp only [i64ok] at *; omega)) ?_
            | refine Need.intro (Hold.out ?_) ?_
            | refine Give.intro fun _ => ?_
            | refine Both.intro ?_ ?_
            | refine BIf.and ?_
            | refine BIf.or ?_
            | refine BIf.eqi (fun _ => ?_) (fun _ => ?_)
            | refine BIf.nei (fun _ => ?_) (fun _ => ?_)
            | refine BIf.dec (fun _ => ?_) (fun _ => ?_)
            | refine BIf.nt ?_
            | refine BIf.intro (fun _ => ?_) (fun _ => ?_)
            | refine And.intro rfl ?_
            | refine And.intro (HoldEq.out ?_) ?_
            | refine And.intro (HoldOb.out ?_) ?_
            | exact True.intro
            | refine HoldEq.out ?_
            | refine HoldObs.out ?_
            | refine HoldOr.out ?_)
  all_goals try first | refine HoldEq.int ?_ | refine HoldEq.bool ?_ | refine HoldEq.sl ?_ | refine HoldEq.own ?_ | refine HoldEq.ownS ?_ ?_ | refine HoldOb.row ?_ | refine HoldOb.map ?_ | refine HoldOb.gmap ?_ | refine HoldOb.grow ?_ | refine HoldObs.row ?_
  all_goals try simp only [take_one, take_one', set_one, take_all, List.length_singleton, rec_self, Int.toNat_natCast, pair_eta, ETy.dflt, List.getD_cons_zero, List.getD_cons_succ, Int.reduceToNat, Int.reduceAdd, Int.reduceSub, Int.reduceNeg, Nat.reduceAdd, Nat.zero_add, Option.getD_some] at *
def notinC : List AV → Option Res := con2 i64E (.pt (.sl i64E)) (fun v o => match o with | some l => some (none, none, .s (.bool (!hasI v l))) | none => none)
theorem notinRow : FnRow Try.prog 46 notinC := ⟨con2_ok fun v o r h => by
  cases o with
  | none => cases h
  | some l => cases h; exact fn_by (rulesF (fn := [(47, containsC)]) (fr := []) ⟨containsRow, trivial⟩ trivial) Try.func46 (by kernel_rfl) fun _ _ => notin_vc v l, _, Try.func46, by kernel_rfl, by kernel_rfl⟩
attribute [local irreducible] hasI
/-- The first one that is to go. -/
def idxF (p : Int → Bool) : List Int → Nat → Int
  | [], _ => -1
  | a :: r, i => if p a = true then (i : Int) else idxF p r (i + 1)
def loopIF (p : Int → Bool) (l : List Int) : Spec Nat where
  inv x := x ≤ l.length ∧ idxF p l 0 = idxF p (l.drop x) x
  live x := [(8, .s (.int .i64 x))]
  keep := [0, 1, 7]
  heap _ := []
  keepH := []
  mu x := l.length - x
theorem idxF_vc (l m : List Int) : afun ⟨tyL, [(46, notinC)], []⟩ Try.f82 [(ETy.sl i64E).av l, .s (.clo 46 [⟨.sl i64E, m⟩])] (fun r => r = .s (.int .i64 (idxF (fun v => !hasI v m) l 0))) := by
  repeat' (conv => whnf
           first
            | done
            | refine Need.intro (by first | rfl | omega | (simp only [i64ok] at *; omega)) ?_
            | refine Need.intro (Hold.out ?_) ?_
            | refine Give.intro fun _ => ?_
            | refine Both.intro ?_ ?_
            | refine BIf.and ?_
            | refine BIf.or ?_
            | refine BIf.eqi (fun _ => ?_) (fun _ => ?_)
            | refine BIf.nei (fun _ => ?_) (fun _ => ?_)
            | refine BIf.dec (fun _ => ?_) (fun _ => ?_)
            | refine BIf.nt ?_
            | refine BIf.intro (fun _ => ?_) (fun _ => ?_)
            | ((first | (with_reducible show Or (∃ n, rounds (acode _ (Code.seq (Code.region 2 _ _) _)) _ n _) _) | (with_reducible show Or (∃ n, rounds (acode _ (Code.seq (Code.seq (Code.region 2 _ _) _) _)) _ n _) _) | (with_reducible show Or (∃ n, rounds (acode _ (Code.seq (Code.seq (Code.seq (Code.region 2 _ _) _) _) _)) _ n _) _) | (with_reducible show Or (∃ n, rounds (acode _ (Code.seq (Code.seq (Code.seq (Code.seq (Code.region 2 _ _) _) _) _) _)) _ n _) _) | (with_reducible show Or (∃ n, rounds (acode _ (Code.block _ (Code.seq (Code.region 2 _ _) _))) _ n _) _) | (with_reducible show Or (∃ n, rounds (acode _ (Code.block _ (Code.seq (Code.seq (Code.region 2 _ _) _) _))) _ n _) _) | (with_reducible show Or (∃ n, rounds (acode _ (Code.block _ (Code.seq (Code.seq (Code.seq (Code.region 2 _ _) _) _) _))) _ n _) _) | (with_reducible show Or (∃ n, rounds (acode _ (Code.block _ (Code.seq (Code.seq (Code.seq (Code.seq (Code.region 2 _ _) _) _) _) _))) _ n _) _)); refine Or.inr (Exists.intro (Nat) (Exists.intro (loopIF (fun v => !hasI v m) l) (And.intro (Exists.intro (0) (And.intro (Hold.out ?_) (And.intro ?_ (And.intro ?_ rfl)))) (fun x hx => ?_)))))
            | ((with_reducible show (∃ y, And (Spec.inv (loopIF _ _) y) _)); refine Exists.intro (x + 1) (And.intro (Hold.out ?_) (And.intro (And.intro ?_ (And.intro ?_ rfl)) (Hold.out ?_))))
            | refine And.intro rfl ?_
            | refine And.intro (HoldEq.out ?_) ?_
            | refine And.intro (HoldOb.out ?_) ?_
            | exact True.intro
            | refine HoldEq.out ?_
            | refine HoldObs.out ?_
            | refine HoldOr.out ?_)
  all_goals try first | refine HoldEq.int ?_ | refine HoldEq.bool ?_ | refine HoldEq.sl ?_ | refine HoldEq.own ?_ | refine HoldEq.ownS ?_ ?_ | refine HoldOb.row ?_ | refine HoldOb.map ?_ | refine HoldOb.gmap ?_ | refine HoldOb.grow ?_ | refine HoldObs.row ?_
  all_goals try simp only [take_one, take_one', set_one, take_all, List.length_singleton, rec_self, Int.toNat_natCast, pair_eta, ETy.dflt, List.getD_cons_zero, List.getD_cons_succ, Int.reduceToNat, Int.reduceAdd, Int.reduceSub, Int.reduceNeg, Nat.reduceAdd, Nat.zero_add, loopIF] at *
  all_goals try (refine Hold.intro ?_; omega)
  · exact Hold.intro ⟨Nat.zero_le _, rfl⟩
  · rename_i h1 h2
    exact Hold.intro ⟨by omega, by rw [hx.2, drop_now 0 h1, idxF, if_neg (by rw [h2]; simp)]⟩
  · rename_i h1 h2
    rw [hx.2, drop_now 0 h1, idxF, if_pos (by rw [h2]; rfl)]
  · rw [hx.2, drop_all (by assumption)]; rfl
def idxFC : List AV → Option Res
  | [.s (.sl (.int .i64) l), .s (.clo f [⟨.sl (.int .i64), m⟩])] => match Nat.beq f 46 with
    | true => some (none, none, .s (.int .i64 (idxF (fun v => !hasI v m) l 0)))
    | false => none
  | _ => none
theorem idxFRow : FnRow Try.prog 82 idxFC := ⟨fun args r h => by
  unfold idxFC at h
  split at h
  case h_2 => cases h
  split at h
  case h_2 => cases h
  rename_i he
  cases h
  rw [Nat.eq_of_beq_eq_true he]
  exact fn_by (rulesF (fn := [(46, notinC)]) (fr := []) ⟨notinRow, trivial⟩ trivial) Try.func82 (by kernel_rfl) fun _ _ => idxF_vc _ _, _, Try.func82, by kernel_rfl, by kernel_rfl⟩
/-- slices.DeleteFunc: its body, run in its caller's memory. -/
def delH : List AV → St → (AV → St → Prop) → Prop := inlRun ⟨tyL, [(46, notinC), (82, idxFC)], []⟩ Try.f45
theorem delRow : RunOk Try.prog 45 delH ∧ ∃ fn, Try.prog.funcs[45]? = some fn ∧ (fn.name == "runtime.NumGoroutine") = false ∧ fn.body.isNone = false :=
  ⟨inline_ok (rulesF (fn := [(46, notinC), (82, idxFC)]) (fr := []) ⟨notinRow, idxFRow, trivial⟩ trivial) Try.func45 rfl (by kernel_rfl), _, Try.func45, by kernel_rfl, by kernel_rfl⟩
/-- The walk of DeleteFunc: where it is, how many it has kept, and the row as it stands. -/
def loopDF (p : Int → Bool) (xs : List Int) : Spec (Nat × Nat × List Int) where
  inv x := x.2.1 < x.1 ∧ x.1 ≤ xs.length ∧ x.2.2.length = xs.length ∧ x.2.2.take x.2.1 = (xs.take x.1).filter (fun v => !p v) ∧ x.2.2.drop x.1 = xs.drop x.1
  live x := [(5, .s (.int .i64 x.2.1)), (6, .s (.int .i64 x.1))]
  keep := [0, 1]
  heap x := [(3, .row i64E 3 x.2.2)]
  keepH := [0, 4, 5]
  mu x := xs.length - x.1
theorem linkO_len (o : Option tabE.T) (a : Int) (hg : ∀ x, o = some x → Good x) : (linkO o a).length ≤ 40000 := by
  cases o with
  | none => exact Nat.zero_le _
  | some x =>
    have := (aroundL_le (hg x rfl) a).1
    show (linkR x a).length ≤ 40000
    unfold linkR
    rw [List.length_append, lkO_len _ _ _ (Nat.le_refl _)]
    split
    · simp only [List.length_singleton]; omega
    · simp only [List.length_nil]; omega
theorem idxF_lt (p : Int → Bool) : ∀ (l : List Int) (i : Nat), (idxF p l i = -1 ∧ l.filter (fun v => !p v) = l) ∨ (∃ k : Nat, idxF p l i = ((i + k : Nat) : Int) ∧ k < l.length ∧ (l.take k).filter (fun v => !p v) = l.take k ∧ p (l.getD k 0) = true)
  | [], i => .inl ⟨rfl, rfl⟩
  | a :: r, i => by
    unfold idxF
    cases h : p a with
    | true => exact .inr ⟨0, by simp, by simp, rfl, by simpa using h⟩
    | false =>
      rw [if_neg (by simp)]
      rcases idxF_lt p r (i + 1) with ⟨h1, h2⟩ | ⟨k, h1, h2, h3, h4⟩
      · exact .inl ⟨h1, by rw [List.filter_cons_of_pos (by simp [h]), h2]⟩
      · exact .inr ⟨k + 1, by rw [h1]; congr 1; omega, by simp; omega, by rw [List.take_succ_cons, List.filter_cons_of_pos (by simp [h]), h3], by simpa using h4⟩
theorem com_eq {o : Option tabE.T} {a b : Int} (h : a ≠ b) : comO o a b = sortI ((linkO o a).filter fun v => hasI v (linkO o b)) := by
  cases o with
  | none => show [] = sortI []; exact (List.length_eq_zero_iff.1 (sortI_len [])).symm
  | some x => show comR x a b = _; unfold comR; rw [if_neg h]; rfl
theorem del_keep {p : Int → Bool} {xs : List Int} {x : Nat × Nat × List Int} (h : (loopDF p xs).inv x) (hlt : x.1 < xs.length) (hp : p (x.2.2.getD x.1 0) = false) : (loopDF p xs).inv (x.1 + 1, x.2.1 + 1, x.2.2.set x.2.1 (x.2.2.getD x.1 0)) := by
  obtain ⟨h1, h2, h3, h4, h5⟩ := h
  have e : x.2.2.getD x.1 0 = xs.getD x.1 0 := by
    have := congrArg (fun l => l.getD 0 0) h5
    simpa [List.getD_eq_getElem?_getD] using this
  refine ⟨by show x.2.1 + 1 < x.1 + 1; omega, by show x.1 + 1 ≤ _; omega, by show (x.2.2.set _ _).length = _; rw [List.length_set]; exact h3, ?_, ?_⟩
  · show (x.2.2.set x.2.1 (x.2.2.getD x.1 0)).take (x.2.1 + 1) = (xs.take (x.1 + 1)).filter _
    rw [List.take_succ_eq_append_getElem (by rw [List.length_set]; omega), List.take_set_of_le (Nat.le_refl _), h4, List.getElem_set_self, List.take_succ_eq_append_getElem hlt, List.filter_append]
    rw [e] at hp ⊢
    rw [List.getD_eq_getElem?_getD, List.getElem?_eq_getElem hlt] at hp ⊢
    have hp : p xs[x.1] = false := hp
    rw [List.filter_cons_of_pos (by rw [hp]; rfl)]; rfl
  · show (x.2.2.set x.2.1 _).drop (x.1 + 1) = xs.drop (x.1 + 1)
    rw [List.drop_set_of_lt (by omega), ← List.drop_drop, h5, List.drop_drop]
theorem del_skip {p : Int → Bool} {xs : List Int} {x : Nat × Nat × List Int} (h : (loopDF p xs).inv x) (hlt : x.1 < xs.length) (hp : p (x.2.2.getD x.1 0) = true) : (loopDF p xs).inv (x.1 + 1, x.2.1, x.2.2) := by
  obtain ⟨h1, h2, h3, h4, h5⟩ := h
  have e : x.2.2.getD x.1 0 = xs.getD x.1 0 := by
    have := congrArg (fun l => l.getD 0 0) h5
    simpa [List.getD_eq_getElem?_getD] using this
  refine ⟨by show x.2.1 < x.1 + 1; omega, by show x.1 + 1 ≤ _; omega, h3, ?_, ?_⟩
  · show x.2.2.take x.2.1 = (xs.take (x.1 + 1)).filter _
    rw [h4, List.take_succ_eq_append_getElem hlt, List.filter_append]
    rw [e, List.getD_eq_getElem?_getD, List.getElem?_eq_getElem hlt] at hp
    have hp : p xs[x.1] = true := hp
    rw [List.filter_cons_of_neg (by rw [hp]; simp)]; simp
  · show x.2.2.drop (x.1 + 1) = xs.drop (x.1 + 1)
    rw [← List.drop_drop, h5, List.drop_drop]
theorem keep_eq (xs m : List Int) : xs.filter (fun v => !!hasI v m) = xs.filter fun v => hasI v m := by simp
theorem com_vc (o : Option tabE.T) (a b : Int) (hg : ∀ x, o = some x → Good x) : afun ⟨tyL, [], [(27, .res linkFC), (45, .run delH), (48, .run sortNH)]⟩ Try.f16 [(ETy.pt tabE).av o, i64E.av a, i64E.av b] (fun r => r = .s (.sl i64E (comO o a b))) := by
  have hlt := idxF_lt (fun v => !hasI v (linkO o b)) (linkO o a) 0
  have hlen := linkO_len o a hg
  repeat' (conv => whnf
           first
            | done
            | refine Need.intro (by first | rfl | omega | (simp only [i64ok] at *; omega)) ?_
            | refine Need.intro (Hold.out ?_) ?_
            | refine Give.intro fun _ => ?_
            | refine Both.intro ?_ ?_
            | refine BIf.and ?_
            | refine BIf.or ?_
            | refine BIf.eqi (fun _ => ?_) (fun _ => ?_)
            | refine BIf.nei (fun _ => ?_) (fun _ => ?_)
            | refine BIf.dec (fun _ => ?_) (fun _ => ?_)
            | refine BIf.nt ?_
            | refine BIf.intro (fun _ => ?_) (fun _ => ?_)
            | (refine (fun (X : Array Value) => ?_))
            | ((first | (with_reducible show Or (∃ n, rounds (acode _ (Code.seq (Code.region 5 _ _) _)) _ n _) _) | (with_reducible show Or (∃ n, rounds (acode _ (Code.seq (Code.seq (Code.region 5 _ _) _) _)) _ n _) _) | (with_reducible show Or (∃ n, rounds (acode _ (Code.seq (Code.seq (Code.seq (Code.region 5 _ _) _) _) _)) _ n _) _) | (with_reducible show Or (∃ n, rounds (acode _ (Code.seq (Code.seq (Code.seq (Code.seq (Code.region 5 _ _) _) _) _) _)) _ n _) _) | (with_reducible show Or (∃ n, rounds (acode _ (Code.block _ (Code.seq (Code.region 5 _ _) _))) _ n _) _) | (with_reducible show Or (∃ n, rounds (acode _ (Code.block _ (Code.seq (Code.seq (Code.region 5 _ _) _) _))) _ n _) _) | (with_reducible show Or (∃ n, rounds (acode _ (Code.block _ (Code.seq (Code.seq (Code.seq (Code.region 5 _ _) _) _) _))) _ n _) _) | (with_reducible show Or (∃ n, rounds (acode _ (Code.block _ (Code.seq (Code.seq (Code.seq (Code.seq (Code.region 5 _ _) _) _) _) _))) _ n _) _)); refine Or.inr (Exists.intro (Nat × Nat × List Int) (Exists.intro (loopDF (fun v => !hasI v (linkO o b)) (linkO o a)) (And.intro (Exists.intro (((idxF (fun v => !hasI v (linkO o b)) (linkO o a) 0).toNat + 1, (idxF (fun v => !hasI v (linkO o b)) (linkO o a) 0).toNat, linkO o a)) (And.intro (Hold.out ?_) (And.intro ?_ (And.intro ?_ rfl)))) (fun x hx => ?_)))))
            | ((with_reducible show (∃ y, And (Spec.inv (loopDF _ _) y) _)); refine Exists.intro ((x.1 + 1, if hasI (x.2.2.getD x.1 0) (linkO o b) = true then x.2.1 + 1 else x.2.1, if hasI (x.2.2.getD x.1 0) (linkO o b) = true then x.2.2.set x.2.1 (x.2.2.getD x.1 0) else x.2.2)) (And.intro (Hold.out ?_) (And.intro (And.intro ?_ (And.intro ?_ rfl)) (Hold.out ?_))))
            | refine And.intro rfl ?_
            | refine And.intro (HoldEq.out ?_) ?_
            | refine And.intro (HoldOb.out ?_) ?_
            | exact True.intro
            | refine HoldEq.out ?_
            | refine HoldObs.out ?_
            | refine HoldOr.out ?_)
  all_goals try first | refine HoldEq.int ?_ | refine HoldEq.bool ?_ | refine HoldEq.sl ?_ | refine HoldEq.own ?_ | refine HoldEq.ownS ?_ ?_ | refine HoldOb.row ?_ | refine HoldOb.map ?_ | refine HoldOb.gmap ?_ | refine HoldOb.grow ?_ | refine HoldObs.row ?_
  all_goals try simp only [take_one, take_one', set_one, take_all, List.length_singleton, rec_self, Int.toNat_natCast, pair_eta, ETy.dflt, List.getD_cons_zero, List.getD_cons_succ, Int.reduceToNat, Int.reduceAdd, Int.reduceSub, Int.reduceNeg, Nat.reduceAdd, Nat.zero_add, loopDF] at *
  · rename_i h
    cases o with
    | none => rfl
    | some x => show [] = comR x a b; unfold comR; rw [if_pos h]
  · have hne : a ≠ b := by assumption
    have hi : idxF (fun v => !hasI v (linkO o b)) (linkO o a) 0 = -1 := by assumption
    rcases hlt with ⟨_, hf⟩ | ⟨k, hk, _⟩
    · rw [com_eq hne, ← keep_eq (linkO o a) (linkO o b), hf]
      simp only [List.take_zero, List.nil_append, List.drop_zero, List.drop_length, List.append_nil]
      exact List.take_of_length_le (Nat.le_of_eq (sortI_len _))
    · rw [hk] at hi; omega
  all_goals
    have hne : a ≠ b := by assumption
    have hi : ¬ idxF (fun v => !hasI v (linkO o b)) (linkO o a) 0 = -1 := by assumption
    obtain ⟨k, hk, hk2, hk3, hk4⟩ := hlt.resolve_left (fun e => hi e.1)
  · rw [hk]; refine Hold.intro ?_; unfold i64ok; omega
  · rw [hk]
    refine Hold.intro ⟨by show ((k : Nat) : Int).toNat < ((k : Nat) : Int).toNat + 1; omega, by show ((k : Nat) : Int).toNat + 1 ≤ _; omega, True.intro, ?_, True.intro⟩
    rw [Int.toNat_natCast, List.take_succ_eq_append_getElem hk2, List.filter_append, hk3]
    rw [List.getD_eq_getElem?_getD, List.getElem?_eq_getElem hk2] at hk4
    have hk4 : (!hasI (linkO o a)[k] (linkO o b)) = true := hk4
    rw [List.filter_cons_of_neg (by rw [hk4]; simp)]; simp
  · rw [hk]; rfl
  · rw [hk]; rfl
  · refine Hold.intro ?_; omega
  · refine Hold.intro ?_; unfold i64ok; omega
  · rename_i hq
    rw [if_pos hq, if_pos hq]
    exact Hold.intro (del_keep hx (by omega) (by rw [hq]; rfl))
  · rename_i hq
    rw [if_pos hq]; rfl
  · rename_i hq
    rw [if_pos hq]
  · refine Hold.intro ?_; omega
  · rename_i hq
    rw [if_neg (by rw [hq]; simp), if_neg (by rw [hq]; simp)]
    exact Hold.intro (del_skip hx (by omega) (by rw [hq]; rfl))
  · rename_i hq
    rw [if_neg (by rw [hq]; simp)]
  · rename_i hq
    rw [if_neg (by rw [hq]; simp)]
  · refine Hold.intro ?_; omega
  · refine Hold.intro ?_; omega
  · refine Hold.intro ?_; omega
  · obtain ⟨h1, h2, h3, h4, h5⟩ := hx
    have he : x.1 = (linkO o a).length := by omega
    rw [he, List.take_length] at h4
    rw [com_eq hne, ← keep_eq (linkO o a) (linkO o b), ← h4]
    have hl : (x.2.2.take x.2.1).length = x.2.1 := by rw [List.length_take]; omega
    simp only [List.drop_zero, List.take_zero, List.nil_append]
    have e2 : ∀ z : List Int, List.take x.2.1 (x.2.2.take x.2.1 ++ z) = x.2.2.take x.2.1 := fun z => by rw [List.take_append_of_le_length (Nat.le_of_eq hl.symm), List.take_of_length_le (Nat.le_of_eq hl)]
    rw [e2, List.take_append_of_le_length (by rw [sortI_len]; omega), List.take_of_length_le (by rw [sortI_len]; omega)]
theorem comRow : FnRow Try.prog 16 comC := ⟨con3_ok fun o a b r h => by
  cases h
  exact fn_by (rulesF (fn := []) (fr := [(27, .res linkFC), (45, .run delH), (48, .run sortNH)]) trivial ⟨linkFRow, delRow, sortNRow, trivial⟩) Try.func16 (by kernel_rfl) fun _ h => com_vc o a b h, _, Try.func16, by kernel_rfl, by kernel_rfl⟩
end S1

open Go Go.Vm Go.Proofs
namespace S1
set_option maxRecDepth 100000

/-! sorted lists -/
theorem sortI_ok {l : List Int} (h : l.Pairwise (· ≤ ·)) : sortI l = l := by
  unfold sortI
  exact List.mergeSort_of_pairwise (h.imp fun h => by simpa using h)
theorem sortI_perm (l : List Int) : (sortI l).Perm l := by unfold sortI; exact List.mergeSort_perm _ _
theorem sortI_sorted (l : List Int) : (sortI l).Pairwise (· ≤ ·) := by
  have := List.pairwise_mergeSort (le := fun x y : Int => decide (x ≤ y)) (fun a b c h1 h2 => by simp at *; omega) (fun a b => by simp; omega) l
  unfold sortI
  exact this.imp fun h => by simpa using h
theorem sorted_eq {l m : List Int} (hp : l.Perm m) (h1 : l.Pairwise (· ≤ ·)) (h2 : m.Pairwise (· ≤ ·)) : l = m :=
  hp.eq_of_pairwise (fun a b _ _ h1 h2 => by omega) h1 h2
def srt3 (a b c : Int) : List Int := if a ≤ b then (if b ≤ c then [a, b, c] else if a ≤ c then [a, c, b] else [c, a, b]) else (if a ≤ c then [b, a, c] else if b ≤ c then [b, c, a] else [c, b, a])
theorem sortI_3 (a b c : Int) : sortI [a, b, c] = srt3 a b c := by
  refine sorted_eq ((sortI_perm _).trans ?_) (sortI_sorted _) ?_
  · unfold srt3
    repeat' split
    · exact .refl _
    · exact .cons _ (.swap ..)
    · exact (List.Perm.cons _ (.swap ..)).trans (.swap ..)
    · exact .swap ..
    · exact (List.Perm.swap ..).trans (.cons _ (.swap ..))
    · exact ((List.Perm.swap ..).trans (.cons _ (.swap ..))).trans (.swap ..)
  · unfold srt3
    repeat' split
    all_goals simp; omega
/-- certify.mirrored's key, told without the sort. -/
def kMir' (t : P3) : List P3 := [((srt3 t.1 t.2.1 t.2.2).getD 0 0, (srt3 t.1 t.2.1 t.2.2).getD 1 0, (srt3 t.1 t.2.1 t.2.2).getD 2 0)]
theorem kMir_eq : kMir = kMir' := by
  funext t
  unfold kMir kMir' s3
  rw [sortI_3]
def allR' (s : Int × List P3) : List Wit := firstW [indexR s, dgL s.2 s.2.length, (prS kTwice 3 s.2 s.2.length).2.2, (prS kMir' 4 s.2 s.2.length).2.2, loneR s, pinR s]
theorem allR_eq (s : Int × List P3) : allR s = allR' s := by unfold allR allR'; rw [kMir_eq]
def chkR' (s : Int × List P3) : Wit := (allR' s).headD (0, 0, 0)
theorem chkR_eq (s : Int × List P3) : chkR s = chkR' s := by unfold chkR chkR'; rw [allR_eq]
theorem newO_ok {s : Int × List P3} (h : (chkR' s).1 = 0) : newO s = some (newT s) := by unfold newO; rw [if_pos (by rw [chkR_eq]; exact h)]
theorem newO_good {s : Int × List P3} : ∀ x, newO s = some x → Good x := fun x h => by
  unfold newO at h
  split at h
  · rename_i hc; cases h; exact good_new (cert_of hc)
  · cases h
theorem laidO_good {s : Int × List P3} : ∀ x, laidO s = some x → Good x := fun x h => (laid_good h).1
/-! link.Why, May -/
theorem why0_vc (a b : Int) : afun ⟨tyL, [(23, nearC), (50, facing2C), (25, innerC), (16, comC), (47, containsC), (51, smallC)], []⟩ Try.f18 [(ETy.pt tabE).av none, i64E.av a, i64E.av b] (fun r => r = .s (.int .i64 1)) := by
  repeat' (conv => whnf
           first
            | done
            | refine Need.intro (by first | rfl | omega | (simp only [i64ok] at *; omega)) ?_
            | refine Need.intro (Hold.out ?_) ?_
            | refine Give.intro fun _ => ?_
            | refine Both.intro ?_ ?_
            | refine BIf.and ?_
            | refine BIf.or ?_
            | refine BIf.eqi (fun _ => ?_) (fun _ => ?_)
            | refine BIf.nei (fun _ => ?_) (fun _ => ?_)
            | refine BIf.dec (fun _ => ?_) (fun _ => ?_)
            | refine BIf.nt ?_
            | refine BIf.intro (fun _ => ?_) (fun _ => ?_)
            | refine And.intro rfl ?_
            | refine And.intro (HoldEq.out ?_) ?_
            | refine And.intro (HoldOb.out ?_) ?_
            | exact True.intro
            | refine HoldEq.out ?_
            | refine HoldObs.out ?_
            | refine HoldOr.out ?_)
  all_goals try first | refine HoldEq.int ?_ | refine HoldEq.bool ?_ | refine HoldEq.sl ?_ | refine HoldEq.own ?_ | refine HoldEq.ownS ?_ ?_ | refine HoldOb.row ?_ | refine HoldOb.map ?_ | refine HoldOb.gmap ?_ | refine HoldOb.grow ?_ | refine HoldObs.row ?_
  all_goals try simp only [take_one, take_one', set_one, take_all, List.length_singleton, rec_self, Int.toNat_natCast, pair_eta, ETy.dflt, List.getD_cons_zero, List.getD_cons_succ, Int.reduceToNat, Int.reduceAdd, Int.reduceSub, Int.reduceNeg, Nat.reduceAdd, Nat.zero_add] at *
def whyO (o : Option tabE.T) (a b : Int) : Int := onO o 1 fun x => whyR x a b
def whyC : List AV → Option Res := con3 (.pt tabE) i64E i64E (fun o a b => some (none, some (∀ x, o = some x → Good x), .s (.int .i64 (whyO o a b))))
theorem whyRow : FnRow Try.prog 18 whyC := ⟨con3_ok fun o a b r h => by
  cases h
  cases o with
  | none => exact fn_by (rulesF (fn := [(23, nearC), (50, facing2C), (25, innerC), (16, comC), (47, containsC), (51, smallC)]) (fr := []) ⟨nearRow, facing2Row, innerRow, comRow, containsRow, smallRow, trivial⟩ trivial) Try.func18 (by kernel_rfl) fun _ _ => why0_vc a b
  | some x => exact fn_by (rulesF (fn := [(23, nearC), (50, facing2C), (25, innerC), (16, comC), (47, containsC), (51, smallC)]) (fr := []) ⟨nearRow, facing2Row, innerRow, comRow, containsRow, smallRow, trivial⟩ trivial) Try.func18 (by kernel_rfl) fun _ h => why_vc x a b (h x rfl), _, Try.func18, by kernel_rfl, by kernel_rfl⟩
theorem may_vc (o : Option tabE.T) (a b : Int) (hg : ∀ x, o = some x → Good x) : afun ⟨tyL, [(18, whyC)], []⟩ Try.f20 [(ETy.pt tabE).av o, i64E.av a, i64E.av b] (fun r => r = .s (.bool (whyO o a b == 0))) := by
  repeat' (conv => whnf
           first
            | done
            | refine Need.intro (by first | rfl | omega | (simp only [i64ok] at *; omega)) ?_
            | refine Need.intro (Hold.out ?_) ?_
            | refine Give.intro fun _ => ?_
            | refine Both.intro ?_ ?_
            | refine BIf.and ?_
            | refine BIf.or ?_
            | refine BIf.eqi (fun _ => ?_) (fun _ => ?_)
            | refine BIf.nei (fun _ => ?_) (fun _ => ?_)
            | refine BIf.dec (fun _ => ?_) (fun _ => ?_)
            | refine BIf.nt ?_
            | refine BIf.intro (fun _ => ?_) (fun _ => ?_)
            | refine And.intro rfl ?_
            | refine And.intro (HoldEq.out ?_) ?_
            | refine And.intro (HoldOb.out ?_) ?_
            | exact True.intro
            | refine HoldEq.out ?_
            | refine HoldObs.out ?_
            | refine HoldOr.out ?_)
  all_goals try first | refine HoldEq.int ?_ | refine HoldEq.bool ?_ | refine HoldEq.sl ?_ | refine HoldEq.own ?_ | refine HoldEq.ownS ?_ ?_ | refine HoldOb.row ?_ | refine HoldOb.map ?_ | refine HoldOb.gmap ?_ | refine HoldOb.grow ?_ | refine HoldObs.row ?_
  all_goals try simp only [take_one, take_one', set_one, take_all, List.length_singleton, rec_self, Int.toNat_natCast, pair_eta, ETy.dflt, List.getD_cons_zero, List.getD_cons_succ, Int.reduceToNat, Int.reduceAdd, Int.reduceSub, Int.reduceNeg, Nat.reduceAdd, Nat.zero_add] at *
  all_goals first | exact Hold.intro hg | skip
def mayC : List AV → Option Res := con3 (.pt tabE) i64E i64E (fun o a b => some (none, some (∀ x, o = some x → Good x), .s (.bool (whyO o a b == 0))))
theorem mayRow : FnRow Try.prog 20 mayC := ⟨con3_ok fun o a b r h => by cases h; exact fn_by (rulesF (fn := [(18, whyC)]) (fr := []) ⟨whyRow, trivial⟩ trivial) Try.func20 (by kernel_rfl) fun _ h => may_vc o a b h, _, Try.func20, by kernel_rfl, by kernel_rfl⟩
/-! the sample -/
def aw1 : Int × List P3 := (4, [(0, 1, 2), (0, 2, 3), (0, 3, 1), (1, 3, 2)])
def aw2 : Int × List P3 := (4, [(0, 1, 2), (2, 1, 3)])
def whyW (x : tabE.T) (a b : Int) (l : List Int) : Int :=
  if !nearR x a b then 1 else if (facR x a b).length = 2 ∧ innerR x a = false ∧ innerR x b = false then 2
  else if whyL (facR x a b) l = false then 3 else if smallR x a then 4 else 0
theorem whyW_is (x : tabE.T) (a b : Int) : whyR x a b = whyW x a b (comR x a b) := rfl
theorem com_is {x : tabE.T} {a b : Int} {l0 l : List Int} (hne : a ≠ b) (hl : ((linkR x a).filter fun v => hasI v (linkR x b)) = l0) (hp : l0.Perm l) (hs : l.Pairwise (· ≤ ·)) : comR x a b = l := by
  unfold comR
  rw [if_neg hne, hl]
  exact sorted_eq ((sortI_perm _).trans hp) (sortI_sorted _) hs
theorem aw1_ok : (chkR' aw1).1 = 0 := by decide +kernel
theorem aw2_ok : (chkR' aw2).1 = 0 := by decide +kernel
theorem aw1_01 : whyO (newO aw1) 0 1 = 4 := by
  rw [newO_ok aw1_ok]
  show whyR (newT aw1) 0 1 = 4
  rw [whyW_is, com_is (l0 := [2, 3]) (l := [2, 3]) (by decide) (by decide +kernel) (.refl _) (by decide)]
  decide +kernel
theorem aw2_12 : whyO (newO aw2) 1 2 = 2 := by
  rw [newO_ok aw2_ok]
  show whyR (newT aw2) 1 2 = 2
  rw [whyW_is, com_is (l0 := [3, 0]) (l := [0, 3]) (by decide) (by decide +kernel) (.swap ..) (by decide)]
  decide +kernel
theorem aw2_01 : whyO (newO aw2) 0 1 = 0 := by
  rw [newO_ok aw2_ok]
  show whyR (newT aw2) 0 1 = 0
  rw [whyW_is, com_is (l0 := [2]) (l := [2]) (by decide) (by decide +kernel) (.refl _) (by decide)]
  decide +kernel
theorem aw2_c : comO (newO aw2) 0 3 = [1, 2] := by
  rw [newO_ok aw2_ok]
  show comR (newT aw2) 0 3 = [1, 2]
  rw [com_is (l0 := [1, 2]) (l := [1, 2]) (by decide) (by decide +kernel) (.refl _) (by decide)]
theorem aw2_03 : whyO (newO aw2) 0 3 = 1 := by
  rw [newO_ok aw2_ok]
  show whyR (newT aw2) 0 3 = 1
  have : comR (newT aw2) 0 3 = [1, 2] := by
    rw [com_is (l0 := [1, 2]) (l := [1, 2]) (by decide) (by decide +kernel) (.refl _) (by decide)]
  rw [whyW_is, this]
  decide +kernel
attribute [local irreducible] newO whyO comO
set_option maxHeartbeats 1000000 in
theorem awake_vc : afun ⟨tyL, [(28, newC), (18, whyC), (20, mayC), (16, comC)], []⟩ Try.f14 [] (fun r => r = .s (.bool true)) := by
  have a1 := aw1_01
  have a2 := aw2_12
  have a3 := aw2_01
  have a4 := aw2_c
  have a5 := aw2_03
  repeat' (conv => whnf
           first
            | done
            | refine Need.intro (by first | rfl | omega | (simp only [i64ok] at *; omega)) ?_
            | refine Need.intro (Hold.out ?_) ?_
            | refine Give.intro fun _ => ?_
            | refine Both.intro ?_ ?_
            | refine BIf.and ?_
            | refine BIf.or ?_
            | refine BIf.eqi (fun _ => ?_) (fun _ => ?_)
            | refine BIf.nei (fun _ => ?_) (fun _ => ?_)
            | refine BIf.dec (fun _ => ?_) (fun _ => ?_)
            | refine BIf.nt ?_
            | refine BIf.intro (fun _ => ?_) (fun _ => ?_)
            | refine And.intro rfl ?_
            | refine And.intro (HoldEq.out ?_) ?_
            | refine And.intro (HoldOb.out ?_) ?_
            | exact True.intro
            | refine HoldEq.out ?_
            | refine HoldObs.out ?_
            | refine HoldOr.out ?_)
  all_goals try first | refine HoldEq.int ?_ | refine HoldEq.bool ?_ | refine HoldEq.sl ?_ | refine HoldEq.own ?_ | refine HoldEq.ownS ?_ ?_ | refine HoldOb.row ?_ | refine HoldOb.map ?_ | refine HoldOb.gmap ?_ | refine HoldOb.grow ?_ | refine HoldObs.row ?_
  all_goals try simp only [take_one, take_one', set_one, take_all, List.length_singleton, rec_self, Int.toNat_natCast, pair_eta, ETy.dflt, List.getD_cons_zero, List.getD_cons_succ, Int.reduceToNat, Int.reduceAdd, Int.reduceSub, Int.reduceNeg, Nat.reduceAdd, Nat.zero_add] at *
  all_goals try have a1' : ¬ whyO (newO aw1) 0 1 = 0 := by rw [a1]; decide
  all_goals try have a4' : ((comO (newO aw2) 0 3).length : Int) = 2 := by rw [a4]; rfl
  all_goals try have a6 : (comO (newO aw2) 0 3).getD 0 0 = 1 := by rw [a4]; rfl
  all_goals try have a7 : (comO (newO aw2) 0 3).getD 1 0 = 2 := by rw [a4]; rfl
  all_goals first
    | exact Hold.intro newO_good
    | exact absurd a1 (by assumption)
    | exact absurd a2 (by assumption)
    | exact absurd a3 (by assumption)
    | exact absurd a4' (by assumption)
    | exact absurd a5 (by assumption)
    | exact absurd a6 (by assumption)
    | exact absurd a7 (by assumption)
    | exact absurd (by assumption) a1'
    | skip
  · show (decide ((comO (newO aw2) 0 3).getD 1 0 = 2)) = true
    exact decide_eq_true a7
end S1
