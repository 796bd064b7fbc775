/- A part of the proofs of the laws. -/
import Derived.Test.YtahbknnehddjgaaT19toTS
import Derived.Test.YtahbknnehddjgaaT12toT18
set_option linter.unusedSimpArgs false
set_option linter.unusedVariables false
set_option maxHeartbeats 8000000
set_option maxRecDepth 100000
open Go Go.Vm Go.Proofs
namespace S1
abbrev tg (l:List P3) (i:Nat):P3:=l.getD i (0,0,0)
def dE (t:P3) (a b:Int):Prop:=(t.1=a∧t.2.1=b)∨(t.2.1=a∧t.2.2=b)∨(t.2.2=a∧t.1=b)
def dgn (t:P3):Prop:=t.1=t.2.1∨t.2.1=t.2.2∨t.2.2=t.1
def PinP (l:List P3) (v:Int):Prop:= ∀ Q:Nat→Prop,
    (∀ i j:Nat,i<l.length→j<l.length→hasV (tg l i) v→hasV (tg l j) v→(∃ w:Int,w≠v∧hasV (tg l i) w∧hasV (tg l j) w)→Q i→Q j)→
    ∀ a,a<l.length→hasV (tg l a) v→Q a→∀ i,i<l.length→hasV (tg l i) v→Q i
structure Surf (s:Int×List P3):Prop where
  fit:fitS s
  deg: ∀ i,i<s.2.length→¬ dgn (tg s.2 i)
  dif: ∀ i j,i<j→j<s.2.length→∀ a b,dE (tg s.2 i) a b→¬ dE (tg s.2 j) a b
  mir: ∀ i j,i<j→j<s.2.length→¬ (hasV (tg s.2 j) (tg s.2 i).1∧hasV (tg s.2 j) (tg s.2 i).2.1∧hasV (tg s.2 j) (tg s.2 i).2.2)
  use: ∀ v:Nat,(v:Int)<s.1→∃ j,j<s.2.length∧hasV (tg s.2 j) v
  pin: ∀ v:Nat,(v:Int)<s.1→PinP s.2 v
def keys (kp:P3→List P3) (l:List P3) (i:Nat):List P3:=(l.take i).flatMap kp
theorem keys_succ (kp:P3→List P3) {l:List P3} {i:Nat} (h:i<l.length):keys kp l (i+1)=keys kp l i++kp (tg l i):=by
  unfold keys tg
  rw [List.take_succ_eq_append_getElem h,List.flatMap_append,gdE,gE h];simp
structure KFw (pre:List P3) (s:HadM×PS):Prop where
  seen:s.2.1=[]
  nd:pre.Nodup
  had: ∀ k∈pre,hadAt s.1 k≠[]
theorem kfw_step {kind:Int} {i m:Nat} {ks pre:List P3} {s:HadM×PS} (h:s.2.2=[]→KFw pre s) (h2:(prK kind i ks s m).2.2=[]):s.2.2=[]∧KFw (pre++[ks.getD m (0,0,0)]) (prK kind i ks s m):=by
  have h3:=prAs_same h2
  have h0:s.2.2=[]:=by rw [← h3.1];exact h2
  have u:=h h0
  have he:hadAt s.1 (ks.getD m (0,0,0))=[]:=by
    cases e:hadAt s.1 (ks.getD m (0,0,0)) with
    | nil=>rfl
    | cons a r =>
      have:=h3.2 0 (by rw [e];simp)
      rw [u.seen] at this
      cases this
  refine ⟨h0,(congrArg Prod.fst h3.1).trans u.seen,?_,fun k hk=> ?_⟩
  · rw [List.nodup_append]
    refine ⟨u.nd,List.nodup_cons.2 ⟨by simp,List.nodup_nil⟩,fun a ha b hb e=> ?_⟩
    rw [List.mem_singleton] at hb
    subst hb;subst e
    exact u.had _ ha he
  · show hadAt (mset .arr3 s.1 (ks.getD m (0,0,0)) (hadAt s.1 (ks.getD m (0,0,0))++[(i:Int)])) k≠[]
    rw [hadAt_set]
    split
    · simp
    · rename_i hne
      rcases List.mem_append.1 hk with hk | hk
      · exact u.had k hk
      · rw [List.mem_singleton] at hk;exact absurd hk.symm hne
theorem kfw_steps {kind:Int} {i:Nat} {ks pre:List P3} {s:HadM×PS} (h:s.2.2=[]→KFw pre s): ∀ m,m≤ks.length→(irec (prK kind i ks) s m).2.2=[]→KFw (pre++ks.take m) (irec (prK kind i ks) s m)
  | 0,_,h2=>by rw [List.take_zero,List.append_nil];exact h h2
  | m+1,hm,h2=>by
    have:=(kfw_step (kind:=kind) (i:=i) (m:=m) (ks:=ks) (fun h'=>kfw_steps h m (by omega) h') h2).2
    rw [List.append_assoc] at this
    rw [List.take_succ_eq_append_getElem (by omega)]
    rw [gdE,gE (by omega)] at this
    exact this
theorem kfw_all (kp:P3→List P3) (kind:Int) (l:List P3): ∀ i,i≤l.length→(prS kp kind l i).2.2=[]→KFw (keys kp l i) (prS kp kind l i)
  | 0,_,_=>⟨rfl,List.nodup_nil,fun k h=>(by cases h)⟩
  | i+1,hi,h=>by
    have h:(irec (prK kind i (kp (tg l i))) (prS kp kind l i) (kp (tg l i)).length).2.2=[]:=h
    have:=kfw_steps (kind:=kind) (i:=i) (ks:=kp (tg l i)) (fun h'=>kfw_all kp kind l i (by omega) h') _ (Nat.le_refl _) h
    rw [List.take_length] at this
    rw [keys_succ kp (by omega)]
    exact this
structure KBw (pre:List P3) (s:HadM×PS):Prop where
  z:s.2=([],[])
  had: ∀ k,hadAt s.1 k≠[]→k∈pre
theorem kbw_steps {kind:Int} {i:Nat} {ks pre:List P3} {s:HadM×PS} (h:KBw pre s) (hn:(pre++ks).Nodup): ∀ m,m≤ks.length→KBw (pre++ks.take m) (irec (prK kind i ks) s m)
  | 0,_=>by rw [List.take_zero,List.append_nil];exact h
  | m + 1,hm=>by
    have ih:=kbw_steps (kind:=kind) (i:=i) h hn m (by omega)
    have e1:ks.take (m+1)=ks.take m++[ks.getD m (0,0,0)]:=by
      rw [List.take_succ_eq_append_getElem (by omega),gdE,gE (by omega)];rfl
    have hnew:ks.getD m (0,0,0)∉pre++ks.take m:=by
      have h2:(pre++ks.take (m+1)).Nodup:=by
        have:(pre++ks.take (m+1)).Sublist (pre++ks):=List.Sublist.append (List.Sublist.refl _) (List.take_sublist _ _)
        exact this.nodup hn
      rw [e1,← List.append_assoc,List.nodup_append] at h2
      exact fun hm=>h2.2.2 _ hm _ (List.mem_singleton.2 rfl) rfl
    have he:hadAt (irec (prK kind i ks) s m).1 (ks.getD m (0,0,0))=[]:=by
      by_cases e:hadAt (irec (prK kind i ks) s m).1 (ks.getD m (0,0,0))=[]
      · exact e
      · exact absurd (ih.had _ e) hnew
    refine ⟨?_,fun k hk=> ?_⟩
    · show irec (prA kind i (hadAt (irec (prK kind i ks) s m).1 (ks.getD m (0,0,0)))) (irec (prK kind i ks) s m).2 (hadAt (irec (prK kind i ks) s m).1 (ks.getD m (0,0,0))).length=_
      rw [he];exact ih.z
    · have hk:hadAt (mset .arr3 (irec (prK kind i ks) s m).1 (ks.getD m (0,0,0)) (hadAt (irec (prK kind i ks) s m).1 (ks.getD m (0,0,0))++[(i:Int)])) k≠[]:=hk
      rw [hadAt_set] at hk
      rw [e1,← List.append_assoc]
      split at hk
      · rename_i e;subst e;exact List.mem_append_right _ (List.mem_singleton.2 rfl)
      · exact List.mem_append_left _ (ih.had k hk)
theorem kbw_all (kp:P3→List P3) (kind:Int) (l:List P3) (hn:(keys kp l l.length).Nodup): ∀ i,i≤l.length→KBw (keys kp l i) (prS kp kind l i)
  | 0,_=>⟨rfl,fun k h=>absurd rfl h⟩
  | i + 1,hi=>by
    have ih:=kbw_all kp kind l hn i (by omega)
    have hn2:(keys kp l (i+1)).Nodup:=by
      have:(keys kp l (i+1)).Sublist (keys kp l l.length):=by
        unfold keys
        have e:l.flatMap kp=(l.take (i+1)).flatMap kp++(l.drop (i+1)).flatMap kp:=by rw [← List.flatMap_append,List.take_append_drop]
        rw [List.take_length,e]
        exact List.sublist_append_left _ _
      exact this.nodup hn
    rw [keys_succ kp (by omega)] at hn2 ⊢
    have:=kbw_steps (kind:=kind) (i:=i) (ks:=kp (tg l i)) ih hn2 _ (Nat.le_refl _)
    rw [List.take_length] at this
    exact this
theorem prS_iff (kp:P3→List P3) (kind:Int) (l:List P3):(prS kp kind l l.length).2.2=[]↔(l.flatMap kp).Nodup:=by
  have e:keys kp l l.length=l.flatMap kp:=by unfold keys;rw [List.take_length]
  constructor
  · intro h;have:=(kfw_all kp kind l _ (Nat.le_refl _) h).nd;rw [e] at this;exact this
  · intro h;rw [← e] at h;rw [(kbw_all kp kind l h _ (Nat.le_refl _)).z]
theorem keys_nodup (kp:P3→List P3) (l:List P3):(l.flatMap kp).Nodup↔(∀ i,i<l.length→(kp (tg l i)).Nodup)∧∀ i j,i<j→j<l.length→∀ a∈kp (tg l i),a∉kp (tg l j):=by
  unfold List.Nodup
  rw [List.pairwise_flatMap,List.pairwise_iff_getElem]
  have g: ∀ i (h:i<l.length),tg l i=l[i]:=fun i h=>by unfold tg;rw [gdE,gE h];rfl
  constructor
  · rintro ⟨h1,h2⟩
    refine ⟨fun i hi=>by rw [g i hi];exact h1 _ (List.getElem_mem hi),fun i j hij hj a ha hb=> ?_⟩
    rw [g i (by omega)] at ha;rw [g j hj] at hb
    exact h2 i j (by omega) hj hij a ha a hb rfl
  · rintro ⟨h1,h2⟩
    refine ⟨fun t ht=> ?_,fun i j hi hj hij a ha b hb e=> ?_⟩
    · obtain ⟨i,hi,e⟩:=List.mem_iff_getElem.1 ht
      have:=h1 i hi
      rw [g i hi,e] at this;exact this
    · subst e
      have:=h2 i j hij hj a
      rw [g i hi,g j hj] at this
      exact this ha hb
theorem kTwice_mem (t:P3) (k:P3):k∈kTwice t↔k.2.2=0∧dE t k.1 k.2.1:=by
  obtain ⟨a,b,c⟩:=k
  simp only [kTwice,dE,List.mem_cons,List.not_mem_nil,or_false,Prod.mk.injEq]
  constructor
  · rintro (⟨h1,h2,h3⟩ | ⟨h1,h2,h3⟩ | ⟨h1,h2,h3⟩)
    · exact ⟨h3,.inl ⟨h1.symm,h2.symm⟩⟩
    · exact ⟨h3,.inr (.inl ⟨h1.symm,h2.symm⟩)⟩
    · exact ⟨h3,.inr (.inr ⟨h1.symm,h2.symm⟩)⟩
  · rintro ⟨h3,(⟨h1,h2⟩ | ⟨h1,h2⟩ | ⟨h1,h2⟩)⟩
    · exact .inl ⟨h1.symm,h2.symm,h3⟩
    · exact .inr (.inl ⟨h1.symm,h2.symm,h3⟩)
    · exact .inr (.inr ⟨h1.symm,h2.symm,h3⟩)
theorem twice_iff {l:List P3} (hd: ∀ i,i<l.length→¬ dgn (tg l i)):(prS kTwice 3 l l.length).2.2=[]↔∀ i j,i<j→j<l.length→∀ a b,dE (tg l i) a b→¬ dE (tg l j) a b:=by
  rw [prS_iff,keys_nodup]
  constructor
  · rintro ⟨_,h⟩ i j hij hj a b h1 h2
    exact h i j hij hj (a,b,0) ((kTwice_mem _ _).2 ⟨rfl,h1⟩) ((kTwice_mem _ _).2 ⟨rfl,h2⟩)
  · intro h
    refine ⟨fun i hi=> ?_,fun i j hij hj k h1 h2=>h i j hij hj _ _ ((kTwice_mem _ _).1 h1).2 ((kTwice_mem _ _).1 h2).2⟩
    have:=hd i hi
    unfold dgn at this
    simp only [kTwice,List.nodup_cons,List.mem_cons,List.not_mem_nil,or_false,Prod.mk.injEq,not_false_eq_true,List.nodup_nil,and_true,true_and]
    refine ⟨?_,?_⟩<;>omega
theorem srt3_iff {a b c d e f:Int} (h: ¬ (a=b∨b=c∨c=a)) (h': ¬ (d=e∨e=f∨f=d)):srt3 a b c=srt3 d e f↔((d=a∨e=a∨f=a)∧(d=b∨e=b∨f=b)∧(d=c∨e=c∨f=c)):=by
  unfold srt3
  constructor
  · intro h
    repeat' split at h
    all_goals (simp only [List.cons.injEq,and_true] at h;omega)
  · intro h
    repeat' split
    all_goals (simp only [List.cons.injEq,and_true];omega)
theorem srt3_get (a b c:Int):[(srt3 a b c).getD 0 0,(srt3 a b c).getD 1 0,(srt3 a b c).getD 2 0]=srt3 a b c:=by
  unfold srt3
  repeat' split
  all_goals rfl
theorem kMir_same {t u:P3} (ht: ¬ dgn t) (hu: ¬ dgn u) {k:P3} (h:k∈kMir' t):k∈kMir' u↔(hasV u t.1∧hasV u t.2.1∧hasV u t.2.2):=by
  unfold kMir' at *
  rw [List.mem_singleton] at h ⊢
  unfold hasV
  rw [← srt3_iff ht hu,h]
  constructor
  · intro e
    rw [← srt3_get t.1,← srt3_get u.1]
    simp only [Prod.mk.injEq] at e
    rw [e.1,e.2.1,e.2.2]
  · intro e;rw [e]
theorem mir_iff {l:List P3} (hd: ∀ i,i<l.length→¬ dgn (tg l i)):(prS kMir 4 l l.length).2.2=[]↔∀ i j,i<j→j<l.length→¬ (hasV (tg l j) (tg l i).1∧hasV (tg l j) (tg l i).2.1∧hasV (tg l j) (tg l i).2.2):=by
  rw [kMir_eq,prS_iff,keys_nodup]
  constructor
  · rintro ⟨_,h⟩ i j hij hj e
    have hm:_∈kMir' (tg l i):=List.mem_singleton.2 rfl
    exact h i j hij hj _ hm ((kMir_same (hd i (by omega)) (hd j hj) hm).2 e)
  · intro h
    refine ⟨fun i hi=>List.nodup_cons.2 ⟨by simp,List.nodup_nil⟩,fun i j hij hj k h1 h2=>h i j hij hj ((kMir_same (hd i (by omega)) (hd j hj) h1).1 h2)⟩
theorem mark3_set {s:List Bool} {t:P3} {v:Nat} (h:s.getD v false=true∨(v<s.length∧(t.1.toNat=v∨t.2.1.toNat=v∨t.2.2.toNat=v))):(mark3 s t).getD v false=true:=by
  unfold mark3
  simp only [gdE,List.getElem?_set,List.length_set]
  rcases h with h | ⟨hl,h⟩
  · rw [gdE] at h
    have hl:v<s.length:=by
      rcases Nat.lt_or_ge v s.length with h' | h'
      · exact h'
      · rw [List.getElem?_eq_none h'] at h;cases h
    rw [gE hl] at h
    repeat' split
    all_goals first | rfl | omega | (rw [gE hl];exact h)
  · repeat' split
    all_goals first | rfl | omega
theorem there_in {n:Nat} {l:List P3} {v:Nat} (hv:v<n): ∀ i,(∃ j,j<i∧((tg l j).1.toNat=v∨(tg l j).2.1.toNat=v∨(tg l j).2.2.toNat=v))→(thereF n l i).getD v false=true
  | 0,⟨j,hj,_⟩=>by omega
  | i+1,⟨j,hj,h⟩=>by
    show (mark3 (thereF n l i) (tg l i)).getD v false=true
    by_cases e:j=i
    · subst e;exact mark3_set (.inr ⟨by rw [thereF_len];exact hv,h⟩)
    · exact mark3_set (.inl (there_in hv i ⟨j,by omega,h⟩))
theorem lone_iff {s:Int×List P3} (hf:fitS s):loneR s=[]↔∀ v:Nat,(v:Int)<s.1→∃ j,j<s.2.length∧hasV (tg s.2 j) v:=by
  have nn:=fit_nn hf
  unfold loneR loL
  rw [List.filterMap_eq_nil_iff]
  constructor
  · intro h v hv
    have:=h v (List.mem_range.2 (by omega))
    unfold loG at this
    split at this
    case isFalse=>cases this
    rename_i ht
    obtain ⟨j,hj,e⟩:=there_ex _ ht
    have:=nn j hj
    exact ⟨j,hj,by show (s.2.getD j (0,0,0)).1=v∨(s.2.getD j (0,0,0)).2.1=v∨(s.2.getD j (0,0,0)).2.2=v;omega⟩
  · intro h v hv
    have hv:=List.mem_range.1 hv
    obtain ⟨j,hj,e⟩:=h v (by omega)
    have e:(s.2.getD j (0,0,0)).1=v∨(s.2.getD j (0,0,0)).2.1=v∨(s.2.getD j (0,0,0)).2.2=v:=e
    unfold loG
    rw [if_pos (there_in hv _ ⟨j,hj,by
      show (s.2.getD j (0,0,0)).1.toNat=v∨(s.2.getD j (0,0,0)).2.1.toNat=v∨(s.2.getD j (0,0,0)).2.2.toNat=v
      omega⟩)]
theorem enW_keep {v i:Int} {t:P3} {m:EndM} {k:Nat} {w y:Int} (h:y∈endAt m w):y∈endAt (enW v i t m k) w:=by
  unfold enW
  split
  · exact h
  · rw [endAt_set]
    split
    · rename_i e;subst e;exact List.mem_append_left _ h
    · exact h
theorem enW_put {v i:Int} {t:P3} {m:EndM} {k:Nat} (h:(trl t).getD k 0≠v):i∈endAt (enW v i t m k) ((trl t).getD k 0):=by
  unfold enW
  rw [if_neg h,endAt_set,if_pos rfl]
  exact List.mem_append_right _ (List.mem_singleton.2 rfl)
theorem enT_keep {l:List P3} {v:Int} {tris:List Int} {m:EndM} {j:Nat} {w y:Int} (h:y∈endAt m w):y∈endAt (enT l v tris m j) w :=
  irec_inv (n:=3) (fun _ (m:EndM)=>y∈endAt m w) h (fun _ _ _ h=>enW_keep h) 3 (Nat.le_refl _)
theorem irec_put {S:Type} {f:S→Nat→S} {s:S} {P:S→Prop} {k:Nat} (hk: ∀ s,P (f s k)) (hs: ∀ s j,P s→P (f s j)): ∀ n,k<n→P (irec f s n)
  | n+1,h=>by
    by_cases e:k=n
    · subst e;exact hk _
    · exact hs _ _ (irec_put hk hs n (by omega))
theorem trl_ex {t:P3} {w:Int} (h:w∈trl t): ∃ k,k<3∧(trl t).getD k 0=w:=by
  simp only [trl,List.mem_cons,List.not_mem_nil,or_false] at h
  rcases h with h | h | h
  · exact ⟨0,by omega,h.symm⟩
  · exact ⟨1,by omega,h.symm⟩
  · exact ⟨2,by omega,h.symm⟩
theorem enA_all {l:List P3} {v:Int} {tris:List Int} {y w:Int} (hy:y∈tris) (hw:w∈trl (tri l y)) (hn:w≠v):y∈endAt (enA l v tris tris.length) w:=by
  obtain ⟨j,hj,e⟩:=List.mem_iff_getElem.1 hy
  have e2:tris.getD j 0=y:=by rw [gdE,gE hj];exact e
  unfold enA
  refine irec_put (P:=fun m=>y∈endAt m w) (k:=j) (fun m=> ?_) (fun m i h=>enT_keep h) _ hj
  obtain ⟨k,hk,ek⟩:=trl_ex hw
  unfold enT
  rw [e2]
  refine irec_put (P:=fun m=>y∈endAt m w) (k:=k) (fun m=> ?_) (fun m i h=>enW_keep h) 3 hk
  have:=enW_put (v:=v) (i:=y) (t:=tri l y) (m:=m) (k:=k) (by rw [ek];exact hn)
  rw [ek] at this
  exact this
def Reach (E:EndM) (l:List P3) (v:Int) (S:TgS) (x:Int):Prop:=x∈S.2.1.drop S.1∨∀ w∈trl (tri l x),w≠v→∀ y∈endAt E w,had S.2.2 y=true
theorem vis_had {av:List Int} {S:TgS} {j:Nat} {y:Int} (h:had S.2.2 y=true):had (vis av S j).2.2 y=true:=by
  unfold vis
  split
  · exact h
  · show had (mset (.int .i64) S.2.2 (av.getD j 0) true) y=true
    rw [had_set];split
    · rfl
    · exact h
theorem vis_put {av:List Int} {S:TgS} {j:Nat} :had (vis av S j).2.2 (av.getD j 0)=true:=by
  unfold vis
  split
  · assumption
  · show had (mset (.int .i64) S.2.2 (av.getD j 0) true) _=true
    rw [had_set,if_pos rfl]
theorem vis_wait {av:List Int} {S:TgS} {j:Nat} {y:Int} (h:y∈S.2.1.drop S.1):y∈(vis av S j).2.1.drop (vis av S j).1:=by
  unfold vis
  split
  · exact h
  · show y∈(S.2.1.drop S.1++[av.getD j 0]).drop 0
    rw [List.drop_zero];exact List.mem_append_left _ h
theorem vis_new2 {av:List Int} {S:TgS} {j:Nat} {y:Int} (h:had (vis av S j).2.2 y=true):had S.2.2 y=true∨y∈(vis av S j).2.1.drop (vis av S j).1:=by
  unfold vis at *
  split at h
  · exact .inl h
  · rename_i hn
    have h:had (mset (.int .i64) S.2.2 (av.getD j 0) true) y=true:=h
    rw [had_set] at h
    rw [if_neg hn]
    split at h
    · rename_i e;subst e
      refine .inr ?_
      show _∈(S.2.1.drop S.1++[av.getD j 0]).drop 0
      rw [List.drop_zero];exact List.mem_append_right _ (List.mem_singleton.2 rfl)
    · exact .inl h
structure Grow2 (S T:TgS):Prop where
  had: ∀ y,had S.2.2 y=true→had T.2.2 y=true
  wait: ∀ y,y∈S.2.1.drop S.1→y∈T.2.1.drop T.1
  new: ∀ y,S1.had T.2.2 y=true→S1.had S.2.2 y=true∨y∈T.2.1.drop T.1
theorem Grow2.refl (S:TgS):Grow2 S S:=⟨fun _ h=>h,fun _ h=>h,fun _ h=> .inl h⟩
theorem Grow2.trans {S T U:TgS} (h:Grow2 S T) (k:Grow2 T U):Grow2 S U :=
  ⟨fun y e=>k.had y (h.had y e),fun y e=>k.wait y (h.wait y e),fun y e=>by
    rcases k.new y e with e | e
    · rcases h.new y e with e | e
      · exact .inl e
      · exact .inr (k.wait y e)
    · exact .inr e⟩
theorem vis_grow {av:List Int} {S:TgS} {j:Nat} :Grow2 S (vis av S j):=⟨fun _ h=>vis_had h,fun _ h=>vis_wait h,fun _ h=>vis_new2 h⟩
theorem viss_grow {av:List Int} {S:TgS} (n:Nat):Grow2 S (irec (vis av) S n) :=
  irec_inv (n:=n) (fun _ (T:TgS)=>Grow2 S T) (.refl S) (fun _ _ _ h=>h.trans vis_grow) n (Nat.le_refl _)
theorem tgW_grow {E:EndM} {v:Int} {t:P3} {S:TgS} {k:Nat} :Grow2 S (tgW E v t S k):=by
  unfold tgW;split
  · exact .refl S
  · exact viss_grow _
theorem tgWs_grow {E:EndM} {v:Int} {t:P3} {S:TgS} (n:Nat):Grow2 S (irec (tgW E v t) S n) :=
  irec_inv (n:=n) (fun _ (T:TgS)=>Grow2 S T) (.refl S) (fun _ _ _ h=>h.trans tgW_grow) n (Nat.le_refl _)
theorem tgW_put {E:EndM} {v:Int} {t:P3} {S:TgS} {k:Nat} (h:(trl t).getD k 0≠v) {y:Int} (hy:y∈endAt E ((trl t).getD k 0)):had (tgW E v t S k).2.2 y=true:=by
  unfold tgW
  rw [if_neg h]
  obtain ⟨j,hj,e⟩:=List.mem_iff_getElem.1 hy
  have e2:(endAt E ((trl t).getD k 0)).getD j 0=y:=by rw [gdE,gE hj];exact e
  refine irec_put (P:=fun S:TgS=>had S.2.2 y=true) (k:=j) (fun S=> ?_) (fun _ _ h=>vis_had h) _ hj
  have:=vis_put (av:=endAt E ((trl t).getD k 0)) (S:=S) (j:=j)
  rw [e2] at this;exact this
def RInv (E:EndM) (l:List P3) (v:Int) (S:TgS):Prop:= ∀ x,had S.2.2 x=true→Reach E l v S x
theorem tgR_inv {E:EndM} {l:List P3} {v:Int} {S:TgS} {r:Nat} (h:RInv E l v S):RInv E l v (tgR E l v S r):=by
  unfold tgR
  split
  case isFalse=>exact h
  rename_i hs
  have g:=tgWs_grow (E:=E) (v:=v) (t:=tri l (S.2.1.getD S.1 0)) (S:=(S.1+1,S.2.1,S.2.2)) 3
  intro x hx
  by_cases e:x=S.2.1.getD S.1 0
  · subst e
    refine .inr fun w hw hn y hy=> ?_
    obtain ⟨k,hk,ek⟩:=trl_ex hw
    refine irec_put (P:=fun S:TgS=>had S.2.2 y=true) (k:=k) (fun S=> ?_) (fun S j h=>tgW_grow.had y h) 3 hk
    exact tgW_put (by rw [ek];exact hn) (by rw [ek];exact hy)
  · rcases g.new x hx with hx | hx
    · rcases h x hx with hw | hw
      · left
        refine g.wait x ?_
        show x∈S.2.1.drop (S.1+1)
        rw [List.drop_eq_getElem_cons hs] at hw
        rcases List.mem_cons.1 hw with hw | hw
        · exact absurd (by rw [hw,gdE,gE hs];rfl) e
        · exact hw
      · exact .inr fun w hw' hn y hy=>g.had y (hw w hw' hn y hy)
    · exact .inl hx
theorem tgS_inv (E:EndM) (l:List P3) (v x0:Int): ∀ r,RInv E l v (tgS E l v x0 r)
  | 0=>fun x hx=>by
    have hx:had [(x0,true)] x=true:=hx
    left
    show x∈[x0].drop 0
    rw [List.drop_zero,List.mem_singleton]
    have:had (mset (.int .i64) ([]:ReM) x0 true) x=true:=hx
    rw [had_set] at this
    split at this
    · rename_i e;exact e.symm
    · cases this
  | r+1=>tgR_inv (r:=r) (tgS_inv E l v x0 r)
theorem tgS_done {E:EndM} {l:List P3} {v x0:Int} {tris:List Int} {c:Nat} (hE:EnOk tris c E) (hx:x0∈tris): ∀ r,(tgS E l v x0 r).1<(tgS E l v x0 r).2.1.length→meas tris (tgS E l v x0 r)+r≤tris.length+1
  | 0,_=>meas_init
  | r +1,h=>by
    have hok:=(tgS_ok hE (l:=l) (v:=v) hx r).1
    by_cases hs:(tgS E l v x0 r).1<(tgS E l v x0 r).2.1.length
    · have ih:=tgS_done (l:=l) (v:=v) hE hx r hs
      have:=(tgR_ok (l:=l) (v:=v) (r:=r) hE hok).2.2 hs
      have e:tgS E l v x0 (r+1)=tgR E l v (tgS E l v x0 r) r:=rfl
      rw [e];omega
    · rw [tgS_stop hs 1] at h;exact absurd h hs
theorem had_key: ∀ {m:ReM} {x:Int},had m x=true→x∈keysR m
  | [],x,h=>by cases h
  | (a,b)::r,x,h=>by
    unfold had at h
    simp only [mget] at h
    unfold keysR
    split at h
    · rename_i e _;exact List.mem_cons.2 (.inl e.symm)
    · exact List.mem_cons_of_mem _ (had_key h)
theorem len_sub: ∀ (ks l:List Int),ks.Nodup→(∀ x∈ks,x∈l)→ks.length≤l.length
  | [],l,_,_=>Nat.zero_le _
  | a::r,l,hd,hs=>by
    have hd:=List.nodup_cons.1 hd
    have ha:=hs a (List.mem_cons_self ..)
    have ih:=len_sub r (l.erase a) hd.2 (fun y hy=>(List.mem_erase_of_ne (fun e=>hd.1 (by rw [← e];exact hy))).2 (hs y (List.mem_cons_of_mem _ hy)))
    have hle:(l.erase a).length=l.length - 1:=List.length_erase_of_mem ha
    have:=List.length_pos_of_mem ha
    simp only [List.length_cons];omega
theorem tog_of {l:List P3} {v:Int} {tris:List Int} (ht:tris≠[]) (hn:tris.Nodup)
    (hc: ∀ Q:Int→Prop,(∀ i∈tris,∀ j∈tris,(∃ w,w≠v∧w∈trl (tri l i)∧w∈trl (tri l j))→Q i→Q j)→Q (tris.getD 0 0)→∀ i∈tris,Q i):togR l v tris=true:=by
  have hm:tris.getD 0 0∈tris:=getD_mem (List.length_pos_iff.2 ht)
  have hE:=enA_ok l v tris tris.length (Nat.le_refl _)
  have hin:=tgS_in (l:=l) (v:=v) (x0:=tris.getD 0 0) (enA_in l v tris) (Q:=fun _=>True) (fun _ _ _ _ _ _=>trivial) ⟨hm,trivial⟩ (2*tris.length+2)
  have hR:=tgS_inv (enA l v tris tris.length) l v (tris.getD 0 0) (2*tris.length+2)
  have hstop: ¬ (tgS (enA l v tris tris.length) l v (tris.getD 0 0) (2*tris.length+2)).1<(tgS (enA l v tris tris.length) l v (tris.getD 0 0) (2*tris.length+2)).2.1.length:=fun h=>by
    have:=tgS_done (l:=l) (v:=v) hE hm _ h
    omega
  have h0:had (tgS (enA l v tris tris.length) l v (tris.getD 0 0) (2*tris.length+2)).2.2 (tris.getD 0 0)=true :=
    irec_inv (n:=2*tris.length+2) (fun _ (S:TgS)=>had S.2.2 (tris.getD 0 0)=true) (by
      show had (mset (.int .i64) ([]:ReM) (tris.getD 0 0) true) _=true
      rw [had_set,if_pos rfl]) (fun j S _ h=>by
      unfold tgR
      split
      · exact (tgWs_grow 3).had _ h
      · exact h) _ (Nat.le_refl _)
  unfold togR
  generalize tgS (enA l v tris tris.length) l v (tris.getD 0 0) (2*tris.length+2)=S at *
  have all:=hc (fun i=>had S.2.2 i=true) (fun i hi j hj ⟨w,h1,h2,h3⟩ hq=>by
    rcases hR i hq with h | h
    · rw [List.drop_eq_nil_of_le (by omega)] at h;cases h
    · exact h w h2 h1 j (enA_all hj h3 h1)) h0
  have hk: ∀ x∈keysR S.2.2,x∈tris:=fun x hx=>(hin.k x hx).1
  have l1:=len_sub _ _ hin.nd hk
  have l2:=len_sub tris (keysR S.2.2) hn fun x hx=>had_key (all x hx)
  have e:(keysR S.2.2).length=S.2.2.length:=by unfold keysR;rw [List.length_map]
  rw [e] at l1 l2
  have:S.2.2.length=tris.length:=by omega
  rw [this];exact beq_self_eq_true _
theorem atP_nodup {s:List (List Int)} {w:Int} {j v:Nat} (h:(s.getD v []).Nodup∧∀ x∈s.getD v [],x<(j:Int)) (h2:w.toNat=v→∀ x∈s.getD v [],x≠(j:Int)):((atP s w j).getD v []).Nodup:=by
  rw [atP_get]
  split
  · rename_i e
    rw [List.nodup_append]
    refine ⟨h.1,List.nodup_cons.2 ⟨by simp,List.nodup_nil⟩,fun a ha b hb=> ?_⟩
    rw [List.mem_singleton] at hb
    rw [hb];exact h2 e.1 a ha
  · exact h.1
theorem atF_nodup {n:Nat} {l:List P3} (hl: ∀ j,j<l.length→0≤(tg l j).1∧0≤(tg l j).2.1∧0≤(tg l j).2.2) (hd: ∀ i,i<l.length→¬ dgn (tg l i)) {v:Nat} (hv:v<n): ∀ i,i≤l.length→((atF n l i).getD v []).Nodup
  | 0,_=>by
    have e:(atF n l 0).getD v []=[]:=by
      show (List.replicate n ([]:List Int)).getD v []=[]
      rw [gdE,List.getElem?_replicate];split<;>rfl
    rw [e];exact List.nodup_nil
  | i + 1,hi=>by
    have ih:=atF_nodup hl hd hv i (by omega)
    have hm:=atF_mem hl hv i (by omega)
    have hlt: ∀ x∈(atF n l i).getD v [],x<(i:Int):=fun x hx=>by
      obtain ⟨j,hj,e,_⟩:=(hm x).1 hx;omega
    obtain ⟨h1,h2,h3⟩:=hl i (by omega)
    have hdg:=hd i (by omega)
    unfold dgn at hdg
    show ((at3 (atF n l i) (tg l i) i).getD v []).Nodup
    unfold at3
    -- at most one of the three is v
    by_cases e1:(tg l i).1.toNat=v
    · have k2: ¬ (tg l i).2.1.toNat=v:=by omega
      have k3: ¬ (tg l i).2.2.toNat=v:=by omega
      rw [atP_get,if_neg (fun h=>k3 h.1),atP_get,if_neg (fun h=>k2 h.1)]
      exact atP_nodup ⟨ih,hlt⟩ fun _ x hx=>by have:=hlt x hx;omega
    · by_cases e2:(tg l i).2.1.toNat=v
      · have k3: ¬ (tg l i).2.2.toNat=v:=by omega
        rw [atP_get,if_neg (fun h=>k3 h.1)]
        have e:(atP (atF n l i) (tg l i).1 i).getD v []=(atF n l i).getD v []:=by rw [atP_get,if_neg (fun h=>e1 h.1)]
        exact atP_nodup ⟨by rw [e];exact ih,by rw [e];exact hlt⟩ fun _ x hx=>by rw [e] at hx;have:=hlt x hx;omega
      · have e:(atP (atP (atF n l i) (tg l i).1 i) (tg l i).2.1 i).getD v []=(atF n l i).getD v []:=by rw [atP_get,if_neg (fun h=>e2 h.1),atP_get,if_neg (fun h=>e1 h.1)]
        exact atP_nodup ⟨by rw [e];exact ih,by rw [e];exact hlt⟩ fun _ x hx=>by rw [e] at hx;have:=hlt x hx;omega
theorem pin_iff {s:Int×List P3} (hf:fitS s) (hd: ∀ i,i<s.2.length→¬ dgn (tg s.2 i)) (hu: ∀ v:Nat,(v:Int)<s.1→∃ j,j<s.2.length∧hasV (tg s.2 j) v):pinR s=[]↔∀ v:Nat,(v:Int)<s.1→PinP s.2 v:=by
  constructor
  · exact fun h v hv Q hQ a h1 h2 h3=>pin_all (n:=s.1) (l:=s.2) h (fit_nn hf) hv Q hQ h1 h2 h3
  · intro h
    refine List.filterMap_eq_nil_iff.2 fun v hv=> ?_
    have hv:=List.mem_range.1 hv
    unfold piG
    rw [if_pos ?_]
    have hm:=atF_mem (n:=s.1.toNat) (l:=s.2) (fit_nn hf) hv _ (Nat.le_refl _)
    refine tog_of (atF_ne s.1.toNat s.2 hv _ (hu v (by omega))) (atF_nodup (fit_nn hf) hd hv _ (Nat.le_refl _)) fun Q hQ h0 i hi=> ?_
    obtain ⟨j,hj,rfl,hjv⟩:=(hm i).1 hi
    have hz:=(hm _).1 (getD_mem (j:=0) (List.length_pos_iff.2 (atF_ne s.1.toNat s.2 hv _ (hu v (by omega)))))
    obtain ⟨z,hz1,hz2,hz3⟩:=hz
    rw [hz2] at h0
    refine h v (by omega) (fun k=>Q (k:Int)) (fun a b ha hb hav hbv ⟨w,hw,hwa,hwb⟩ hq=> ?_) z hz1 hz3 h0 j hj hjv
    exact hQ a ((hm a).2 ⟨a,ha,rfl,hav⟩) b ((hm b).2 ⟨b,hb,rfl,hbv⟩) ⟨w,hw,trl_iff.2 hwa,trl_iff.2 hwb⟩ hq
theorem deg_iff {l:List P3} :dgL l l.length=[]↔∀ i,i<l.length→¬ dgn (tg l i):=by
  constructor
  · exact fun h i hi=>deg_no h hi
  · intro h
    refine List.filterMap_eq_nil_iff.2 fun i hi=> ?_
    have:=h i (List.mem_range.1 hi)
    unfold dgn at this
    unfold dgG
    rw [if_neg ?_]
    intro e
    unfold degR at e
    simp only [Bool.or_eq_true,beq_iff_eq] at e
    exact this e
theorem idx_iff {s:Int×List P3} :indexR s=[]↔fitS s:=by
  obtain ⟨n,l⟩:=s
  constructor
  · intro h;exact idx_fit (by rw [h];simp)
  · intro h
    have hb:bigR (n,l)=false:=by
      have h1:0≤n:=h.1
      have h2:n≤4096:=h.2.1
      have h3:l.length≤8192:=h.2.2.1
      unfold bigR
      simp only [Bool.or_eq_false_iff,decide_eq_false_iff_not]
      omega
    unfold indexR
    rw [hb]
    refine List.filterMap_eq_nil_iff.2 fun i hi=> ?_
    unfold idxG
    rw [if_pos (h.2.2.2 i (List.mem_range.1 hi))]
theorem all_iff (s:Int×List P3):allR s=[]↔(indexR s=[]∧dgL s.2 s.2.length=[]∧(prS kTwice 3 s.2 s.2.length).2.2=[]∧(prS kMir 4 s.2 s.2.length).2.2=[]∧loneR s=[]∧pinR s=[]):=by
  constructor
  · intro h
    have h:=firstW_nil h
    exact ⟨h _ (by simp),h _ (by simp),h _ (by simp),h _ (by simp),h _ (by simp),h _ (by simp)⟩
  · rintro ⟨h1,h2,h3,h4,h5,h6⟩
    unfold allR
    simp [firstW,h1,h2,h3,h4,h5,h6]
theorem surf_iff (s:Int×List P3):(chkR s).1=0↔Surf s:=by
  constructor
  · intro h
    obtain ⟨h1,h2,h3,h4,h5,h6⟩:=(all_iff s).1 (chk_all h)
    have hf:=idx_iff.1 h1
    have hd:=deg_iff.1 h2
    have hu:=(lone_iff hf).1 h5
    exact ⟨hf,hd,(twice_iff hd).1 h3,(mir_iff hd).1 h4,hu,(pin_iff hf hd hu).1 h6⟩
  · intro h
    have:allR s=[]:=(all_iff s).2 ⟨idx_iff.2 h.fit,deg_iff.2 h.deg,(twice_iff h.deg).2 h.dif,(mir_iff h.deg).2 h.mir,(lone_iff h.fit).2 h.use,(pin_iff h.fit h.deg h.use).2 h.pin⟩
    unfold chkR;rw [this];rfl
end S1
open Go Go.Vm Go.Proofs
namespace S1
theorem near_in {x:tabE.T} (g:Good x) {a b:Int} (h:nearR x a b=true):(0≤a∧a<x.1.1)∧(0≤b∧b<x.1.1):=by
  have key: ∀ {a b:Int},0≤tFacing x (a,b)→(0≤a∧a<x.1.1)∧(0≤b∧b<x.1.1):=fun {a b} h=>by
    unfold tFacing at h
    cases e:mget .arr2 x.2.1 (a,b) with
    | none=>rw [e] at h;exact absurd h (by decide)
    | some c =>
      obtain ⟨h1,h2⟩:=g.map _ _ e
      have e1:tVert x (tNext x c)=a:=congrArg Prod.fst h2
      have e2:tVert x (tPrev x c)=b:=congrArg Prod.snd h2
      have k1:=tVert_in g.fit (hasNP h1).1
      have k2:=tVert_in g.fit (hasNP h1).2
      rw [e1] at k1;rw [e2] at k2
      exact ⟨k1,k2⟩
  unfold nearR at h
  rw [Bool.or_eq_true,decide_eq_true_eq,decide_eq_true_eq] at h
  rcases h with h | h
  · exact key h
  · exact (key h).symm
theorem link_far {x:tabE.T} {v:Int} (h: ¬ (0≤v∧v<x.1.1)):linkR x v=[]:=by
  have e:aroundL (some x) v=[]:=aroundL_no fun k=>h ⟨k.1,k.2.1⟩
  unfold linkR
  rw [e]
  simp [lkO,lkLast]
theorem new_full {s:Int×List P3} {x:tabE.T} (h:newO s=some x):x=newT s∧Full x∧Surf s:=by
  unfold newO at h
  split at h
  · rename_i hc
    cases h
    exact ⟨rfl,full_new hc,(surf_iff s).1 hc⟩
  · cases h
theorem new_of {s:Int×List P3} (h:Surf s):newO s=some (newT s)∧Full (newT s)∧(newT s).1=s:=by
  have hc:=(surf_iff s).2 h
  refine ⟨?_,full_new hc,rfl⟩
  unfold newO;rw [if_pos hc]
theorem aroundF_last {x:tabE.T} {b:Int} : ∀ n c,∀ y∈aroundF x b n c,tAfter x y<0→(aroundF x b n c).getD ((aroundF x b n c).length - 1) 0=y
  | 0,c,y,h,_=>by cases h
  | n + 1,c,y,h,ha=>by
    unfold aroundF at h ⊢
    by_cases h1:tAfter x c<0
    · rw [if_pos h1] at h ⊢
      rw [List.mem_singleton.1 h];rfl
    · rw [if_neg h1] at h ⊢
      by_cases h2:tAfter x c=b
      · rw [if_pos h2] at h ⊢
        rw [List.mem_singleton.1 h];rfl
      · rw [if_neg h2] at h ⊢
        rcases List.mem_cons.1 h with h | h
        · subst h;exact absurd ha h1
        · have ih:=aroundF_last n _ y h ha
          have hl:(aroundF x b n (tAfter x c)).length≥1:=List.length_pos_of_mem h
          generalize aroundF x b n (tAfter x c)=L at *
          rw [List.length_cons,show L.length+1 - 1=(L.length - 1)+1 by omega,List.getD_cons_succ]
          exact ih
theorem Full.link_mem {x:tabE.T} (g:Full x) {a v:Int} (h0:0≤a) (h1:a<x.1.1):v∈linkR x a↔(∃ c∈aroundL (some x) a,tVert x (tNext x c)=v)∨(∃ c∈aroundL (some x) a,tAfter x c<0∧tVert x (tPrev x c)=v):=by
  obtain ⟨b,_,eL,hb1,hb2,hb3,hall,_⟩:=g.around h0 h1
  have hpos:(aroundL (some x) a).length≥1:=List.length_pos_of_mem hb3
  have hlast:lkLast (aroundL (some x) a) (aroundL (some x) a).length=(aroundL (some x) a).getD ((aroundL (some x) a).length - 1) 0:=by
    unfold lkLast;rw [if_neg (by omega)]
  have hin:(aroundL (some x) a).getD ((aroundL (some x) a).length - 1) 0∈aroundL (some x) a:=getD_mem (by omega)
  unfold linkR
  rw [List.mem_append]
  have e1:v∈lkO x (aroundL (some x) a) (aroundL (some x) a).length↔∃ c∈aroundL (some x) a,tVert x (tNext x c)=v:=by
    unfold lkO;rw [List.take_length,List.mem_map]
  rw [e1,hlast]
  refine or_congr_right ⟨fun h=> ?_,fun ⟨c,hc,ha,hv⟩=> ?_⟩
  · split at h
    · rename_i hc
      exact ⟨_,hin,hc.2,(List.mem_singleton.1 h).symm⟩
    · cases h
  · have hc2:=hc
    rw [eL] at hc2
    have hl:=aroundF_last _ _ c hc2 ha
    rw [← eL] at hl
    rw [hl,if_pos ⟨(tHas_iff.1 (hall c hc).1).1,ha⟩,hv]
    exact List.mem_singleton.2 rfl
theorem near_iff {x:tabE.T} (g:Full x) {a v:Int} :nearR x a v=true↔∃ d,tHas x d=true∧(tEdge x d=(a,v)∨tEdge x d=(v,a)):=by
  have key: ∀ {a v:Int},0≤tFacing x (a,v)↔∃ d,tHas x d=true∧tEdge x d=(a,v):=fun {a v} =>by
    constructor
    · intro h
      unfold tFacing at h
      cases e:mget .arr2 x.2.1 (a,v) with
      | none=>rw [e] at h;exact absurd h (by decide)
      | some c=>exact ⟨c,g.map _ _ e⟩
    · rintro ⟨d,h1,h2⟩
      rw [← h2,g.facing h1];exact (tHas_iff.1 h1).1
  unfold nearR
  rw [Bool.or_eq_true,decide_eq_true_eq,decide_eq_true_eq,key,key]
  constructor
  · rintro (⟨d,h1,h2⟩ | ⟨d,h1,h2⟩)
    · exact ⟨d,h1,.inl h2⟩
    · exact ⟨d,h1,.inr h2⟩
  · rintro ⟨d,h1,(h2 | h2)⟩
    · exact .inl ⟨d,h1,h2⟩
    · exact .inr ⟨d,h1,h2⟩
theorem Full.link_iff {x:tabE.T} (g:Full x) {a v:Int} :v∈linkR x a↔nearR x a v=true:=by
  by_cases ha:0≤a∧a<x.1.1
  case neg =>
    rw [link_far ha]
    refine ⟨fun h=>(by cases h),fun h=>absurd (near_in g.toGood h).1 ha⟩
  obtain ⟨b,_,eL,hb1,hb2,hb3,hall,haft,hbef,_⟩:=g.around ha.1 ha.2
  rw [g.link_mem ha.1 ha.2,near_iff g]
  constructor
  · rintro (⟨c,hc,hv⟩ | ⟨c,hc,_,hv⟩)
    · obtain ⟨k1,k2⟩:=hall c hc
      exact ⟨_,(hasNP k1).2,.inl (by rw [edgeP k1,k2,hv])⟩
    · obtain ⟨k1,k2⟩:=hall c hc
      exact ⟨_,(hasNP k1).1,.inr (by rw [edgeN k1,k2,hv])⟩
  · rintro ⟨d,h1,(h2 | h2)⟩
    · have e1:tVert x (tNext x d)=a:=congrArg Prod.fst h2
      have e2:tVert x (tPrev x d)=v:=congrArg Prod.snd h2
      have hc:=g.around_all (hasNP h1).1
      rw [e1] at hc
      exact .inl ⟨_,hc,by rw [(np h1).2.2.1];exact e2⟩
    · have e1:tVert x (tNext x d)=v:=congrArg Prod.fst h2
      have e2:tVert x (tPrev x d)=a:=congrArg Prod.snd h2
      have hc:=g.around_all (hasNP h1).2
      rw [e2] at hc
      have hv:tVert x (tPrev x (tPrev x d))=v:=by rw [(np h1).2.2.2];exact e1
      by_cases hs:tAfter x (tPrev x d)<0
      · exact .inr ⟨_,hc,hs,hv⟩
      · have hs:0≤tAfter x (tPrev x d):=by omega
        exact .inl ⟨_,haft _ hc hs,by rw [(g.after_v hs).2];exact hv⟩
theorem Full.opp_v {x:tabE.T} (g:Full x) {c:Int} (h:0≤tOpp x c):tHas x c=true∧tHas x (tOpp x c)=true∧tVert x (tNext x (tOpp x c))=tVert x (tPrev x c)∧tVert x (tPrev x (tOpp x c))=tVert x (tNext x c):=by
  obtain ⟨h1,h2,h3⟩:=g.opp h
  exact ⟨h1,h2,congrArg Prod.fst h3,congrArg Prod.snd h3⟩
theorem tri_vs {x:tabE.T} {c v:Int} (h1:tHas x c=true) (h:hasV (x.1.2.getD (c / 3).toNat (0,0,0)) v):v=tVert x c∨v=tVert x (tNext x c)∨v=tVert x (tPrev x c):=by
  obtain ⟨a,a1,a2,a3⟩:=tri_cor (cor_tri h1).1 h
  have i1:=tHas_iff.1 h1
  have i2:=tHas_iff.1 a1
  have:a=c∨a=tNext x c∨a=tPrev x c:=by
    rw [tNext_t h1,tPrev_t h1];unfold trn;omega
  rcases this with e | e | e
  · subst e;exact .inl a3.symm
  · subst e;exact .inr (.inl a3.symm)
  · subst e;exact .inr (.inr a3.symm)
end S1
/- Functions with ranges over functions at their top that hand rows over. -/
namespace Go.Vm
open Go.RowKit
def afunRF (T:Tab) (SQ:SeqTab) (fn:Func) (args:List AV) (R:AV→List Ob→Prop):Prop :=
  match fn.body with
  | some c=>(St.init args).forceAll fun s=>acodeR T SQ c s (postF T fn R)
  | none=>False
section
variable {P:Program} {T:Tab} {SQ:SeqTab} {B B0:Base} {w w':World} {σ τ:Sig} {β:Places} {st:St} {tmps:Array Value} {N:Nat} {a:Act}
theorem marks_leave {fn:Func} {st':St} {R:Ending→World→Prop}
    (hend: ∀ (B1:Base) (σ1:Sig) (β1:Places) (w':World),B1.w=w→Grew ⟨w,σ,[]⟩ B1.sg→GG B1 σ1 β1 st' tmps w'→∃ v,(results fn tmps).run P w'= .ok v w'∧R (.returned v) w') (hag:Ag σ w) :
    ∀ (Ds:List Nat) (B1:Base) (σ1:Sig) (β1:Places) (w':World),Ds.Nodup→(∀ D∈Ds,B1.sg D=some (.deferred (some []))∧w.heap.size≤D)→B1.w=w→Grew ⟨w,σ,[]⟩ B1.sg→GG B1 σ1 β1 st' tmps w'→
      LeavesInM (FR none) 0 P fn tmps R (Ds.map mark) .returning w':=by
  intro Ds
  induction Ds with
  | cons D r ih =>
    intro B1 σ1 β1 w' hn hD hw hgr hg
    obtain ⟨hn1,hn2⟩:=List.nodup_cons.1 hn
    obtain ⟨d1,d2⟩:=hD D (List.mem_cons_self ..)
    rw [Base.relock B1 d1] at hg
    obtain ⟨_,hl2,_⟩:=hg.locked rfl
    have hdel: ∀ b,b≠D→(B1.sg.del D) b=B1.sg b:=fun b hb=>by unfold Sig.del;rw [if_neg hb]
    obtain ⟨hg2,_⟩:=hg.unlock rfl (by show B1.w.heap.size≤D;rw [hw];exact d2) (by show (B1.sg.del D) D=none;unfold Sig.del;rw [if_pos rfl]) (.deferred none)
    refine ⟨by simp,.inl ⟨D,_,rfl,run_takeDeferred hl2,ih {B1 with sg:=B1.sg.del D} _ _ _ hn2 (fun D' hD'=> ?_) hw ⟨fun b o e=> ?_,fun b hb=> ?_⟩ hg2⟩⟩
    · obtain ⟨k1,k2⟩:=hD D' (List.mem_cons_of_mem _ hD')
      exact ⟨by show (B1.sg.del D) D'=_;rw [hdel _ (fun e=>hn1 (e▸hD'))];exact k1,k2⟩
    · have hb:b≠D:=fun hb=>by subst hb;have:=hag.lt e;omega
      show ∃ o',(B1.sg.del D) b=some o'∧_
      rw [hdel b hb];exact hgr.1 b o e
    · have hb:b<w.heap.size:=hb
      show (B1.sg.del D) b=_
      rw [hdel b (by omega)];exact hgr.2 b hb
  | nil =>
    intro B1 σ1 β1 w' _ _ hw hgr hg
    exact hend B1 σ1 β1 w' hw hgr hg
theorem fn_okRF (R:Rules P T) (hSQ:SeqTabOk P SQ) {f:FuncId} {fn:Func} {c:Code} (hf:P.funcs[f]? =some fn) (hb:fn.body=some c) (hok:codeOkR fn.ntmps c=true)
    {args:List AV} (hl:args.length≤fn.ntmps) {q:Option Prop} {u:AV} {us:List Ob} (h:goodArgs args→Opt q→afunRF T SQ fn args (fun v obs=>v=u∧obs=us)):FnOkF P f args (none,q,u,us):=by
  intro σ vals w hag hv
  refine ⟨trivial,fun hq=> ?_⟩
  have hga:=ga_init (N:=fn.ntmps) hag hv hl
  have hk:=h (vreps_good hv) hq
  simp only [afunRF,hb,St.forceAll_eq] at hk
  refine (callsIn_of_wp_marks (F:=Fence.wide) (n:=0) hf hb trivial ?_).calls (fun _ _ hd=>by cases hd)
  rw [← FR.none]
  refine acodeR_wp (B0:=⟨w,σ,[]⟩) R hSQ c hok ⟨rfl,⟨Sig.le.refl _,fun _ _=>rfl⟩,[],rfl,List.nodup_nil,fun D hD=>by cases hD⟩ hga hk fun e B1 st' a' w' hm hp h'=> ?_
  have fin:(match fn.results.toList.all (resOk T st')&&(nodupB (rowIds (rawAll T fn st').parts)&&rowsB st'.hp (rowIds (rawAll T fn st').parts)) with
      | true=>(rawAll T fn st').mapAS (renAS (rowIds (rawAll T fn st').parts))=u∧obsOf st'.hp (rowIds (rawAll T fn st').parts)=us
      | false=>False)→LeavesInM (FR none) 0 P fn a'.tmps (fun e w'=> ∃ v σ' β',e= .returned v∧σ.le σ'∧Ag σ' w'∧
      (∀ b,b<w.heap.size→σ' b=σ b)∧VRep σ' β' u v∧FreshL σ' w.heap.size w' us β'∧Below w.heap.size w w') a'.defers .returning w':=by
    intro hu
    split at hu
    case h_2=>exact hu.elim
    rename_i hallok
    rw [Bool.and_eq_true,Bool.and_eq_true] at hallok
    obtain ⟨hallok,hnd,hrows⟩:=hallok
    obtain ⟨σ1,β1,hg⟩:=h'.gg
    obtain ⟨Ds,e1,e2,e3⟩:=hm.ds
    rw [h'.defers,e1]
    refine marks_leave (w:=w) (σ:=σ) (st':=st') (fun B1 σ1 β1 w' hw hgr hg=> ?_) hag Ds B1 σ1 β1 w' e2 e3 hm.w hm.grew hg
    have hsl:σ.le σ1:=Sig.le.trans hgr.1 hg.grew.1
    have hsb: ∀ b,b<w.heap.size→σ1 b=σ b:=fun b hb=>(hg.grew.2 b (by rw [hw];exact hb)).trans (hgr.2 b hb)
    have hbel:Below w.heap.size w w':=by have:=hg.bel;rw [hw] at this;exact this
    obtain ⟨vs,hrun,hall⟩:=results_run (P:=P) (w:=w') (fn:=fn) (tmps:=a'.tmps) (Q:=fun r v=>VRep σ1 β1 (rawOne T st' r) v) (fun r hr=>by
      have hro:=List.all_eq_true.1 hallok r hr
      cases r with
      | tmp t=>exact ⟨_,rfl,hg.env t⟩
      | cell a t =>
        simp only [resOk] at hro
        simp only [rawOne]
        have hx:=hg.env a
        split at hro
        · rename_i id i k hea
          rw [hea] at hx
          split at hro
          · rename_i v hv
            obtain ⟨p,_,hptr,_⟩:=hx
            obtain ⟨_,hrun⟩:=cLoad_sound (w:=w') R.ty R.one hg.mem (t:=t) (hg.env a) (p:=none) (q:=none) (v:=v) (by rw [hea];exact hv)
            obtain ⟨val,h1,h2⟩:=hrun trivial
            refine ⟨val,?_,h2⟩
            rw [hptr] at h1 ⊢
            rw [loadAt_run] at h1
            simp only [asAddr,Sem.run_bind,Sem.run_pure,Result.andThen_ok]
            exact h1
          · cases hro
        · cases hro)
    refine ⟨_,hrun,_,σ1,(rowIds (rawAll T fn st').parts).map fun i=>(β1[i]?).getD none,rfl,hsl,hg.mem.ag,hsb,?_,?_,hbel⟩
    · exact ((rawAll_rep hall).mapAS fun a v ha=>ARep.ren (ids:=rowIds (rawAll T fn st').parts) ha) |> fun h=>by rw [hu.1] at h;exact h
    · have:=nodup_fresh (w:=w') hg.mem.ob (fun id ob p hi hp=>by have:=hg.sep id ob p hi hp;rw [hw] at this;exact this) _ hnd hrows
      rw [hu.2] at this;exact this
  cases e with
  | normal=>simp only [postF,AV.force_eq] at hp;exact fin hp
  | ret=>simp only [postF,AV.force_eq] at hp;exact fin hp
  | _=>exact hp.elim
end
end Go.Vm
open Go Go.Vm Go.Proofs
namespace S1
theorem linkF_vc (x:tabE.T) (v:Int) (g:Good x):afunRF ⟨tyL,[(43,aroundC),(52,nextC),(53,prevC),(67,afterC),(36,vertexC)],[]⟩ seqT Try.f45 [(ETy.pt tabE).av (some x),i64E.av v] (fun r obs=>r= .s (.own 0 0 (linkR x v).length)∧obs=[.row i64E 3 (linkR x v)]):=by
  obtain ⟨hl,ha⟩:=aroundL_le g v
  have hd:=getD_le ha
  have hL:=lkLast_le ha (aroundL (some x) v).length
  have ho:=lkO_len x (aroundL (some x) v)
  have ho2:=ho _ (Nat.le_refl _)
  repeat' (conv=>whnf
           first | done | refine qN (by first | rfl | omega | (simp only [i64ok] at *;omega)) ?_ | apply qH | refine qG fun _=> ?_ | apply qB | apply qa | apply qo | refine qe (fun _=> ?_) (fun _=> ?_) | refine qn (fun _=> ?_) (fun _=> ?_) | refine qd (fun _=> ?_) (fun _=> ?_) | apply qt | refine qi (fun _=> ?_) (fun _=> ?_) | refine Exists.intro (aroundL (some x) v) (And.intro (Hold.out ?_) (Exists.intro (loopK x (aroundL (some x) v)) ?_)) | (refine And.intro (fun X=> ?_) (fun X=> ?_)) | (refine And.intro (And.intro ?_ (And.intro ?_ rfl)) (fun k hk=> ?_)) | (refine And.intro ?_ (And.intro ?_ rfl)) | refine And.intro rfl ?_ | apply qE | apply qO | exact True.intro | apply qq | apply qs | refine qK (by kernel_rfl) ?_ | apply qr)
  all_goals try first | apply qz1 | apply qz2 | apply qz3 | apply qz4 | apply qz5 | apply qz6 | apply qz7 | apply qz8 | apply qz9 | apply qz0
  all_goals try simp only [take_one,take_one',set_one,take_all,qn1,rec_self,qn2,pair_eta,ETy.dflt,qn3,qn4,Int.reduceToNat,Int.reduceAdd,Int.reduceSub,Int.reduceNeg,Nat.reduceAdd,Nat.zero_add] at *
  · exact qh ⟨rfl,some x,v,rfl,fun y e=>by cases e;exact g,rfl⟩
  · exact qh (Int.le_trans (hd k) (by decide))
  · exact qh (Int.le_trans (next_le g _) (by decide))
  · have:=ho k (Nat.le_of_lt hk)
    refine qh ?_;omega
  · rw [lkO_succ _ _ _ hk,List.length_append];exact HoldOb.intro rfl
  · exact lkO_succ _ _ _ hk
  · exact qh ⟨g,hL⟩
  · exact qh (Int.le_trans hL (by decide))
  · exact qh (Int.le_trans (prev_le g _) (by decide))
  · refine qh ?_;omega
  · rename_i h1 h2
    unfold linkR
    rw [if_pos ⟨h1,h2⟩,List.length_append];rfl
  · rename_i h1 h2
    unfold linkR
    rw [if_pos ⟨h1,h2⟩]
  · rename_i h1 h2
    unfold linkR
    rw [if_neg (fun e=>h2 e.2),List.append_nil]
  · rename_i h1 h2
    unfold linkR
    rw [if_neg (fun e=>h2 e.2),List.append_nil]
  · rename_i h1
    unfold linkR
    rw [if_neg (fun e=>h1 e.1),List.append_nil]
  · rename_i h1
    unfold linkR
    rw [if_neg (fun e=>h1 e.1),List.append_nil]
theorem linkF0_vc (v:Int):afunRF ⟨tyL,[(43,aroundC),(52,nextC),(53,prevC),(67,afterC),(36,vertexC)],[]⟩ seqT Try.f45 [(ETy.pt tabE).av none,i64E.av v] (fun r obs=>r= .s (.own 0 0 0)∧obs=[.row i64E 3 []]):=by
  repeat' (conv=>whnf
           first | done | refine qN (by first | rfl | omega | (simp only [i64ok] at *;omega)) ?_ | apply qH | refine qG fun _=> ?_ | apply qB | apply qa | apply qo | refine qe (fun _=> ?_) (fun _=> ?_) | refine qn (fun _=> ?_) (fun _=> ?_) | refine qd (fun _=> ?_) (fun _=> ?_) | apply qt | refine qi (fun _=> ?_) (fun _=> ?_) | refine Exists.intro [] (And.intro (Hold.out ?_) (Exists.intro loopK0 ?_)) | (refine And.intro (fun X=> ?_) (fun X=> ?_)) | (refine And.intro (And.intro ?_ (And.intro ?_ rfl)) (fun k hk=>absurd hk (Nat.not_lt_zero _))) | refine And.intro rfl ?_ | apply qE | apply qO | exact True.intro | apply qq | apply qs | refine qK (by kernel_rfl) ?_ | apply qr)
  all_goals try first | apply qz1 | apply qz2 | apply qz3 | apply qz4 | apply qz5 | apply qz6 | apply qz7 | apply qz8 | apply qz9 | apply qz0
  all_goals try simp only [take_one,take_one',set_one,take_all,qn1,rec_self,qn2,pair_eta,ETy.dflt,qn3,qn4,Int.reduceToNat,Int.reduceAdd,Int.reduceSub,Int.reduceNeg,Nat.reduceAdd,Nat.zero_add] at *
  exact qh ⟨rfl,none,v,rfl,fun y e=>(by cases e),rfl⟩
def linkFC:List AV→Option ResF:=con2 (.pt tabE) i64E (fun o v=>some (none,some (∀ x,o=some x→Good x),.s (.own 0 0 (linkO o v).length),[.row i64E 3 (linkO o v)]))
theorem linkFRow:FnRowF Try.prog 45 linkFC:=⟨con2_okF fun o v r h=>by
  cases h
  cases o with
  | none=>exact fn_okRF (rulesF (fn:=[(43,aroundC),(52,nextC),(53,prevC),(67,afterC),(36,vertexC)]) (fr:=[]) ⟨aroundRow,nextRow,prevRow,afterRow,vertexRow,trivial⟩ trivial) seqS Try.func45 rfl (by kernel_rfl) (Nat.le_of_ble_eq_true rfl) fun _ _=>linkF0_vc v
  | some x=>exact fn_okRF (rulesF (fn:=[(43,aroundC),(52,nextC),(53,prevC),(67,afterC),(36,vertexC)]) (fr:=[]) ⟨aroundRow,nextRow,prevRow,afterRow,vertexRow,trivial⟩ trivial) seqS Try.func45 rfl (by kernel_rfl) (Nat.le_of_ble_eq_true rfl) fun _ h=>linkF_vc x v (h x rfl),_,Try.func45,by kernel_rfl,by kernel_rfl⟩
end S1
open Go Go.Vm Go.Proofs
namespace S1
def con3P {ρ:Type} (e b c:ETy) (f:e.T→b.T→c.T→Option ρ):List AV→Option ρ :=
  con3 (.pt e) b c (fun o y z=>match o with | some x=>f x y z | none=>none)
theorem con3P_ok {P:Program} {e b c:ETy} {f:e.T→b.T→c.T→Option Res} {n:FuncId} (h: ∀ x y z r,f x y z=some r→FnOk P n [(ETy.pt e).av (some x),b.av y,c.av z] r): ∀ args r,con3P e b c f args=some r→FnOk P n args r :=
  con3_ok fun o y z r hr=>by cases o with | none=>cases hr | some x=>exact h x y z r hr
def fstI (v:Int):List Int→Nat→Int
  | [],_=> -1
  | a::r,i=>if v=a then (i:Int) else fstI v r (i+1)
def loopX (v:Int) (l:List Int):Spec Nat where
  inv x:=x≤l.length∧fstI v l 0=fstI v (l.drop x) x
  live x:=[(8,.s (.int .i64 x))]
  keep:=[0,1,7]
  heap _:=[]
  keepH:=[]
  mu x:=l.length - x
theorem indexI_vc {fn} (l:List Int) (v:Int):afun ⟨tyL,fn,[]⟩ Try.f32 [(ETy.sl i64E).av l,i64E.av v] (fun r=>r= .s (.int .i64 (fstI v l 0))):=by
  repeat' (conv=>whnf
           first | done | refine qN (by first | rfl | omega | (simp only [i64ok] at *;omega)) ?_ | apply qH | refine qG fun _=> ?_ | apply qB | apply qa | apply qo | refine qe (fun _=> ?_) (fun _=> ?_) | refine qn (fun _=> ?_) (fun _=> ?_) | refine qd (fun _=> ?_) (fun _=> ?_) | apply qt | refine qi (fun _=> ?_) (fun _=> ?_) | (refine atReg 2 rfl ?_;refine Or.inr (Exists.intro (Nat) (Exists.intro (loopX v l) (And.intro (Exists.intro (0) (And.intro (Hold.out ?_) (And.intro ?_ (And.intro ?_ rfl)))) (fun x hx=> ?_))))) | ((with_reducible show (∃ y,And (Spec.inv (loopX _ _) y) _));refine Exists.intro (x+1) (And.intro (Hold.out ?_) (And.intro (And.intro ?_ (And.intro ?_ rfl)) (Hold.out ?_)))) | refine And.intro rfl ?_ | apply qE | apply qO | exact True.intro | apply qq | apply qs | refine qK (by kernel_rfl) ?_ | apply qr)
  all_goals try first | apply qz1 | apply qz2 | apply qz3 | apply qz4 | apply qz5 | apply qz6 | apply qz7 | apply qz8 | apply qz9 | apply qz0
  all_goals try simp only [take_one,take_one',set_one,take_all,qn1,rec_self,qn2,pair_eta,ETy.dflt,qn3,qn4,Int.reduceToNat,Int.reduceAdd,Int.reduceSub,Int.reduceNeg,Nat.reduceAdd,Nat.zero_add,loopX] at *
  · exact qh ⟨Nat.zero_le _,rfl⟩
  · rename_i h1 h2
    rw [hx.2,drop_now 0 h1,fstI,if_pos h2]
  · rename_i h1 h2
    exact qh ⟨by omega,by rw [hx.2,drop_now 0 h1,fstI,if_neg h2]⟩
  · exact qh (by omega)
  · rw [hx.2,drop_all (by assumption)];rfl
def indexIC:List AV→Option Res:=con2 (.sl i64E) i64E (fun l v=>some (none,none,.s (.int .i64 (fstI v l 0))))
theorem indexIRow:FnRow Try.prog 32 indexIC:=⟨con2_ok fun l v r h=>by cases h;exact fn_by (rulesF (fn:=[]) (fr:=[]) trivial trivial) Try.func32 (by kernel_rfl) fun _ _=>indexI_vc l v,_,Try.func32,by kernel_rfl,by kernel_rfl⟩
def hasI (v:Int) (l:List Int):Bool:=decide (fstI v l 0≥0)
theorem contains_vc (l:List Int) (v:Int):afun ⟨tyL,[(32,indexIC)],[]⟩ Try.f33 [(ETy.sl i64E).av l,i64E.av v] (fun r=>r= .s (.bool (hasI v l))):=by
  repeat' (conv=>whnf
           first | done | refine qN (by first | rfl | omega | (simp only [i64ok] at *;omega)) ?_ | apply qH | refine qG fun _=> ?_ | apply qB | apply qa | apply qo | refine qe (fun _=> ?_) (fun _=> ?_) | refine qn (fun _=> ?_) (fun _=> ?_) | refine qd (fun _=> ?_) (fun _=> ?_) | apply qt | refine qi (fun _=> ?_) (fun _=> ?_) | refine And.intro rfl ?_ | apply qE | apply qO | exact True.intro | apply qq | apply qs | refine qK (by kernel_rfl) ?_ | apply qr)
  all_goals try first | apply qz1 | apply qz2 | apply qz3 | apply qz4 | apply qz5 | apply qz6 | apply qz7 | apply qz8 | apply qz9 | apply qz0
  all_goals try simp only [take_one,take_one',set_one,take_all,qn1,rec_self,qn2,pair_eta,ETy.dflt,qn3,qn4,Int.reduceToNat,Int.reduceAdd,Int.reduceSub,Int.reduceNeg,Nat.reduceAdd,Nat.zero_add,hasI] at *
def containsC:List AV→Option Res:=con2 (.sl i64E) i64E (fun l v=>some (none,none,.s (.bool (hasI v l))))
theorem containsRow:FnRow Try.prog 33 containsC:=⟨con2_ok fun l v r h=>by cases h;exact fn_by (rulesF (fn:=[(32,indexIC)]) (fr:=[]) ⟨indexIRow,trivial⟩ trivial) Try.func33 (by kernel_rfl) fun _ _=>contains_vc l v,_,Try.func33,by kernel_rfl,by kernel_rfl⟩
def facR (x:tabE.T) (a b:Int):List Int:=(if tFacing x (a,b)≥0 then [tVert x (tFacing x (a,b))] else [])++(if tFacing x (b,a)≥0 then [tVert x (tFacing x (b,a))] else [])
theorem facing_le {x:tabE.T} (g:Good x) (e:Int×Int):tFacing x e≤1000000000:=by
  unfold tFacing
  cases h:mget .arr2 x.2.1 e with
  | none=>decide
  | some c =>
    have:=tHas_iff.1 (g.map _ _ h).1
    have:=g.fit.2.2.1
    exact (show @LE.le Int _ c (1000000000:Int) by omega)
theorem facing2_vc (x:tabE.T) (a b:Int) (g:Good x):afun ⟨tyL,[(19,facingC),(36,vertexC)],[]⟩ Try.f40 [(ETy.pt tabE).av (some x),i64E.av a,i64E.av b] (fun v=>v= .s (.sl i64E (facR x a b))):=by
  have e0:(((List.replicate 2 ((0:Int),(0:Int))).set 0 (a,b)).set 1 (b,a)).getD 0 (0,0)=(a,b):=rfl
  have e1:(((List.replicate 2 ((0:Int),(0:Int))).set 0 (a,b)).set 1 (b,a)).getD 1 (0,0)=(b,a):=rfl
  repeat' (conv=>whnf
           first | done | refine qN (by first | rfl | omega | (simp only [i64ok] at *;omega)) ?_ | apply qH | refine qG fun _=> ?_ | apply qB | apply qa | apply qo | refine qe (fun _=> ?_) (fun _=> ?_) | refine qn (fun _=> ?_) (fun _=> ?_) | refine qd (fun _=> ?_) (fun _=> ?_) | apply qt | refine qi (fun _=> ?_) (fun _=> ?_) | (refine atReg 3 rfl ?_;refine Or.inl (Exists.intro (3) ?_)) | refine And.intro rfl ?_ | apply qE | apply qO | exact True.intro | apply qq | apply qs | refine qK (by kernel_rfl) ?_ | apply qr)
  all_goals try first | apply qz1 | apply qz2 | apply qz3 | apply qz4 | apply qz5 | apply qz6 | apply qz7 | apply qz8 | apply qz9 | apply qz0
  all_goals try simp only [take_one,take_one',set_one,take_all,qn1,rec_self,qn2,pair_eta,ETy.dflt,qn3,qn4,Int.reduceToNat,Int.reduceAdd,Int.reduceSub,Int.reduceNeg,Nat.reduceAdd,Nat.zero_add,e0,e1,facR] at *
  all_goals first
    | exact qh (facing_le g _)
    | exact qh (by decide)
    | (simp only [if_pos,if_neg, *,not_false_eq_true];rfl)
def facing2C:List AV→Option Res:=con3P tabE i64E i64E (fun x a b=>some (none,some (Good x),.s (.sl i64E (facR x a b))))
theorem facing2Row:FnRow Try.prog 40 facing2C:=⟨con3P_ok fun x a b r h=>by cases h;exact fn_by (rulesF (fn:=[(19,facingC),(36,vertexC)]) (fr:=[]) ⟨facingRow,vertexRow,trivial⟩ trivial) Try.func40 (by kernel_rfl) fun _ h=>facing2_vc x a b h,_,Try.func40,by kernel_rfl,by kernel_rfl⟩
end S1
open Go Go.Vm Go.Proofs
namespace S1
abbrev OS:=List Int×List Int
def ofC (x:tabE.T) (k:Int) (j:Nat) (s:OS) (c:Nat):OS :=
  if 0≤tOpp x (3*s.2.getD j 0+c)∧s.1.getD (tOpp x (3*s.2.getD j 0+c) / 3).toNat 0<0 then
    (s.1.set (tOpp x (3*s.2.getD j 0+c) / 3).toNat k,s.2++[tOpp x (3*s.2.getD j 0+c) / 3]) else s
def ofJ (x:tabE.T) (k:Int) (s:OS) (j:Nat):OS:=irec (ofC x k j) s 3
def bfs (x:tabE.T) (k:Int):Nat→Nat→OS→OS
  | 0,_,s=>s
  | f+1,j,s=>if j<s.2.length then bfs x k f (j+1) (ofJ x k s j) else s
def ofI (x:tabE.T) (s:List Int×Int) (i:Nat):List Int×Int :=
  if s.1.getD i 0≥0 then s else ((bfs x s.2 10000 0 (s.1.set i s.2,[(i:Int)])).1,s.2+1)
def ofL (x:tabE.T) (i:Nat):List Int×Int:=irec (ofI x) (List.replicate x.1.2.length (-1),0) i
def ofR (x:tabE.T):List Int:=(ofL x x.1.2.length).1
def unm:List Int→Nat
  | []=>0
  | a::r=>(if a<0 then 1 else 0)+unm r
theorem unm_le: ∀ l:List Int,unm l≤l.length
  | []=>Nat.le_refl _
  | a::r=>by have:=unm_le r;simp only [unm,List.length_cons];split<;>omega
theorem unm_set {k:Int} (hk:0≤k): ∀ (l:List Int) (i:Nat),i<l.length→l.getD i 0<0→unm (l.set i k)+1=unm l
  | a::r,0,_,h=>by
    have h:a<0:=h
    simp only [List.set_cons_zero,unm];rw [if_pos h,if_neg (by omega)];omega
  | a::r,i+1,hi,h=>by
    have:=unm_set hk r i (by simpa using hi) (by simpa using h)
    simp only [List.set_cons_succ,unm];omega
structure OOk (n:Nat) (s:OS):Prop where
  len:s.1.length=n
  td: ∀ j,j<s.2.length→0≤s.2.getD j 0∧s.2.getD j 0<n
  cnt:s.2.length+unm s.1≤n
theorem opp_in {x:tabE.T} (g:Good x) {d:Int} (h:0≤tOpp x d):tOpp x d<3*(x.1.2.length:Int):=(tHas_iff.1 (g.opp h).2.1).2
theorem ofC_ok {x:tabE.T} (g:Good x) {k:Int} (hk:0≤k) {j:Nat} {s:OS} (h:OOk x.1.2.length s) (c:Nat):OOk x.1.2.length (ofC x k j s c):=by
  unfold ofC
  split
  · rename_i hc
    have hi:=opp_in g hc.1
    refine ⟨by rw [List.length_set];exact h.len,fun j' hj=> ?_,?_⟩
    · by_cases e:j'<s.2.length
      · have:=h.td j' e
        have e2:(s.2++[tOpp x (3*s.2.getD j 0+c) / 3]).getD j' 0=s.2.getD j' 0:=by
          rw [gdE,List.getElem?_append_left e,← gdE]
        show 0≤(s.2++_).getD j' 0∧_
        rw [e2];exact this
      · have hj:j'<(s.2++[tOpp x (3*s.2.getD j 0+c) / 3]).length:=hj
        rw [List.length_append,List.length_singleton] at hj
        have e3:j'=s.2.length:=by omega
        subst e3
        have e2:(s.2++[tOpp x (3*s.2.getD j 0+c) / 3]).getD s.2.length 0=tOpp x (3*s.2.getD j 0+c) / 3:=by
          rw [gdE,List.getElem?_append_right (Nat.le_refl _)];simp
        show 0≤(s.2++_).getD s.2.length 0∧_
        rw [e2];omega
    · have:=unm_set hk s.1 _ (by rw [h.len];omega) hc.2
      have h3:=h.cnt
      show (s.2++[_]).length+unm (s.1.set (tOpp x (3*s.2.getD j 0+c) / 3).toNat k)≤x.1.2.length
      rw [List.length_append,List.length_singleton];omega
  · exact h
theorem ofCs_ok {x:tabE.T} (g:Good x) {k:Int} (hk:0≤k) {j:Nat} {s:OS} (h:OOk x.1.2.length s): ∀ c,OOk x.1.2.length (irec (ofC x k j) s c)
  | 0=>h
  | c+1=>ofC_ok g hk (ofCs_ok g hk h c) c
theorem ofJ_ok {x:tabE.T} (g:Good x) {k:Int} (hk:0≤k) {j:Nat} {s:OS} (h:OOk x.1.2.length s):OOk x.1.2.length (ofJ x k s j):=by
  unfold ofJ;exact ofCs_ok g hk h 3
theorem ofJs_ok {x:tabE.T} (g:Good x) {k:Int} (hk:0≤k) {s:OS} (h:OOk x.1.2.length s): ∀ j,OOk x.1.2.length (irec (ofJ x k) s j)
  | 0=>h
  | j+1=>ofJ_ok g hk (ofJs_ok g hk h j)
theorem bfs_ok {x:tabE.T} (g:Good x) {k:Int} (hk:0≤k): ∀ (f j:Nat) {s:OS},OOk x.1.2.length s→OOk x.1.2.length (bfs x k f j s)
  | 0,_,_,h=>h
  | f+1,j,s,h=>by
    unfold bfs;split
    · exact bfs_ok g hk f (j+1) (ofJ_ok g hk h)
    · exact h
theorem start_ok {n i:Nat} {l:List Int} {k:Int} (hk:0≤k) (hl:l.length=n) (hi:i<n) (h: ¬ l.getD i 0≥0):OOk n (l.set i k,[(i:Int)]):=by
  refine ⟨by rw [List.length_set];exact hl,fun j hj=> ?_,?_⟩
  · have hj:j<1:=hj
    have:j=0:=by omega
    subst this
    show (0:Int)≤i∧(i:Int)<n
    omega
  · have:=unm_set hk l i (by omega) (by omega)
    have h2:=unm_le l
    show 1+unm (l.set i k)≤n
    omega
theorem ofL_ok {x:tabE.T} (g:Good x): ∀ i,i≤x.1.2.length→(ofL x i).1.length=x.1.2.length∧0≤(ofL x i).2∧(ofL x i).2≤i
  | 0,_=>⟨List.length_replicate,Int.le_refl 0,Int.le_refl 0⟩
  | i +1,hi=>by
    obtain ⟨h1,h2,h3⟩:=ofL_ok g i (by omega)
    show (ofI x (ofL x i) i).1.length=_∧0≤(ofI x (ofL x i) i).2∧(ofI x (ofL x i) i).2≤_
    unfold ofI
    split
    · exact ⟨h1,h2,by omega⟩
    · rename_i hn
      exact ⟨(bfs_ok g h2 10000 0 (start_ok h2 h1 (by omega) hn)).len,by show 0≤(ofL x i).2+1;omega,by show (ofL x i).2+1≤_;omega⟩
theorem ofC_t {x:tabE.T} {k:Int} {j c:Nat} {s:OS} (h1:tOpp x (3*s.2.getD j 0+c)≥0) (h2:s.1.getD ((tOpp x (3*s.2.getD j 0+c)).tdiv 3).toNat 0<0) :
    ofC x k j s c=(s.1.set ((tOpp x (3*s.2.getD j 0+c)).tdiv 3).toNat k,s.2++[(tOpp x (3*s.2.getD j 0+c)).tdiv 3]):=by
  rw [td3 h1] at *;unfold ofC;rw [if_pos ⟨h1,h2⟩]
theorem ofC_f1 {x:tabE.T} {k:Int} {j c:Nat} {s:OS} (h1:tOpp x (3*s.2.getD j 0+c)≥0) (h2: ¬ s.1.getD ((tOpp x (3*s.2.getD j 0+c)).tdiv 3).toNat 0<0):ofC x k j s c=s:=by
  rw [td3 h1] at *;unfold ofC;rw [if_neg (fun e=>h2 e.2)]
theorem ofC_f2 {x:tabE.T} {k:Int} {j c:Nat} {s:OS} (h1: ¬ tOpp x (3*s.2.getD j 0+c)≥0):ofC x k j s c=s:=by
  unfold ofC;rw [if_neg (fun e=>h1 e.1)]
theorem ofC_len {x:tabE.T} {k:Int} {j c:Nat} {s:OS} :s.2.length≤(ofC x k j s c).2.length:=by
  unfold ofC;split
  · show _≤(s.2++[_]).length
    rw [List.length_append];omega
  · exact Nat.le_refl _
theorem ofCs_len {x:tabE.T} {k:Int} {j:Nat} {s:OS} : ∀ c,s.2.length≤(irec (ofC x k j) s c).2.length
  | 0=>Nat.le_refl _
  | c+1=>Nat.le_trans (ofCs_len c) ofC_len
theorem ofC_s (x:tabE.T) (k:Int) (j:Nat) (s:OS) (c:Nat):irec (ofC x k j) s (c+1)=ofC x k j (irec (ofC x k j) s c) c:=rfl
theorem ofJ_s (x:tabE.T) (k:Int) (s:OS) (j:Nat):irec (ofJ x k) s (j+1)=irec (ofC x k j) (irec (ofJ x k) s j) 3:=by
  rw [irec,ofJ]
theorem bfs_go {x:tabE.T} {k:Int} {j:Nat} {s s0:OS} (hj:j<10000) (h:(j:Int)<s.2.length) (e:bfs x k 10000 0 s0=bfs x k (10000 - j) j s):bfs x k 10000 0 s0=bfs x k (10000 - (j+1)) (j+1) (ofJ x k s j):=by
  rw [e,show 10000 - j=(10000 - (j+1))+1 by omega,bfs,if_pos (by omega)]
theorem bfs_end {x:tabE.T} {k:Int} {j:Nat} {s:OS} (h: ¬ (j:Int)<s.2.length): ∀ f,bfs x k f j s=s
  | 0=>rfl
  | f+1=>by rw [bfs,if_neg (by omega)]
theorem ofI_skip {x:tabE.T} {i:Nat} (h:(ofL x i).1.getD i 0≥0):ofL x (i+1)=ofL x i:=by
  show ofI x (ofL x i) i=_
  unfold ofI;rw [if_pos h]
theorem ofI_go {x:tabE.T} {i:Nat} (h: ¬ (ofL x i).1.getD i 0≥0):ofL x (i+1)=((bfs x (ofL x i).2 10000 0 ((ofL x i).1.set i (ofL x i).2,[(i:Int)])).1,(ofL x i).2+1):=by
  show ofI x (ofL x i) i=_
  unfold ofI;rw [if_neg h]
theorem rep_step {α:Type} {a b:α} : ∀ (i n:Nat),i<n→List.replicate (i+1) a++List.replicate (n - (i+1)) b=(List.replicate i a++List.replicate (n - i) b).set i a
  | 0,n+1,_=>by simp [List.replicate_succ]
  | i+1,n+1,h=>by
    have:=rep_step (a:=a) (b:=b) i n (by omega)
    show a::(List.replicate (i+1) a++List.replicate (n+1 - (i+1+1)) b)=(a::(List.replicate i a++List.replicate (n+1 - (i+1)) b)).set (i+1) a
    rw [List.set_cons_succ,show n+1 - (i+1+1)=n - (i+1) by omega,show n+1 - (i+1)=n - i by omega,this]
attribute [irreducible] ofC ofJ bfs ofI
def loopO1 (n:Nat):Spec Nat where
  inv i:=i≤n
  live i:=[(16,.s (.int .i64 i))]
  keep:=[0,3,14,15]
  heap i:=[(1,.row i64E 3 (List.replicate i (-1)++List.replicate (n - i) 0))]
  keepH:=[0]
  mu i:=n - i
def loopO2 (x:tabE.T):Spec Nat where
  inv i:=i≤x.1.2.length
  live i:=[(25,.s (.int .i64 i)),(5,.s (.int .i64 (ofL x i).2))]
  keep:=[0,3,23,24]
  heap i:=[(1,.row i64E 3 (ofL x i).1)]
  keepH:=[0]
  mu i:=x.1.2.length - i
def loopO3 (x:tabE.T) (k:Int) (s:OS):Spec Nat where
  inv j:=j≤(irec (ofJ x k) s j).2.length∧bfs x k 10000 0 s=bfs x k (10000 - j) j (irec (ofJ x k) s j)
  live j:=[(8,.s (.int .i64 j)),(7,.s (.own 2 0 (irec (ofJ x k) s j).2.length))]
  keep:=[0,3,5,6,23,24,25]
  heap j:=[(1,.row i64E 3 (irec (ofJ x k) s j).1),(2,.row i64E 3 (irec (ofJ x k) s j).2)]
  keepH:=[0]
  mu j:=10000 - j
def loopO4 (x:tabE.T) (k:Int) (j:Nat) (s:OS):Spec Nat where
  inv c:=c≤3
  live c:=[(45,.s (.int .i64 c)),(7,.s (.own 2 0 (irec (ofC x k j) s c).2.length))]
  keep:=[0,3,5,6,8,23,24,25]
  heap c:=[(1,.row i64E 3 (irec (ofC x k j) s c).1),(2,.row i64E 3 (irec (ofC x k j) s c).2)]
  keepH:=[0]
  mu c:=3 - c
theorem shOf_vc (x:tabE.T) (g:Good x):afun ⟨tyL,[(89,trianglesC),(20,oppC)],[]⟩ Try.f64 [(ETy.pt tabE).av (some x)] (fun v=>v= .s (.sl i64E (ofR x))):=by
  have hn:x.1.2.length≤8192:=g.fit.2.2.1
  repeat' (conv=>whnf
           first | done | refine qN (by first | rfl | omega | (simp only [i64ok] at *;omega)) ?_ | apply qH | refine qG fun _=> ?_ | apply qB | apply qa | apply qo | refine qe (fun _=> ?_) (fun _=> ?_) | refine qn (fun _=> ?_) (fun _=> ?_) | refine qd (fun _=> ?_) (fun _=> ?_) | apply qt | refine qi (fun _=> ?_) (fun _=> ?_) | (refine atReg 3 rfl ?_;refine Or.inr (Exists.intro (Nat) (Exists.intro (loopO1 x.1.2.length) (And.intro (Exists.intro (0) (And.intro (Hold.out ?_) (And.intro ?_ (And.intro ?_ rfl)))) (fun i hi=> ?_))))) | ((with_reducible show (∃ y,And (Spec.inv (loopO1 _) y) _));refine Exists.intro (i+1) (And.intro (Hold.out ?_) (And.intro (And.intro ?_ (And.intro ?_ rfl)) (Hold.out ?_)))) | (refine atReg 9 rfl ?_;refine Or.inr (Exists.intro (Nat) (Exists.intro (loopO2 x) (And.intro (Exists.intro (0) (And.intro (Hold.out ?_) (And.intro ?_ (And.intro ?_ rfl)))) (fun i hi=> ?_))))) | ((with_reducible show (∃ y,And (Spec.inv (loopO2 _) y) _));refine Exists.intro (i+1) (And.intro (Hold.out ?_) (And.intro (And.intro ?_ (And.intro ?_ rfl)) (Hold.out ?_)))) | (refine atReg 15 rfl ?_;refine Or.inr (Exists.intro (Nat) (Exists.intro (loopO3 x (ofL x i).2 ((ofL x i).1.set i (ofL x i).2,[(i:Int)])) (And.intro (Exists.intro (0) (And.intro (Hold.out ?_) (And.intro ?_ (And.intro ?_ rfl)))) (fun j hj=> ?_))))) | ((with_reducible show (∃ y,And (Spec.inv (loopO3 _ _ _) y) _));refine Exists.intro (j+1) (And.intro (Hold.out ?_) (And.intro (And.intro ?_ (And.intro ?_ rfl)) (Hold.out ?_)))) | (refine atReg 18 rfl ?_;refine Or.inr (Exists.intro (Nat) (Exists.intro (loopO4 x (ofL x i).2 j (irec (ofJ x (ofL x i).2) ((ofL x i).1.set i (ofL x i).2,[(i:Int)]) j)) (And.intro (Exists.intro (0) (And.intro (Hold.out ?_) (And.intro ?_ (And.intro ?_ rfl)))) (fun c hc=> ?_))))) | ((with_reducible show (∃ y,And (Spec.inv (loopO4 _ _ _ _) y) _));refine Exists.intro (c+1) (And.intro (Hold.out ?_) (And.intro (And.intro ?_ (And.intro ?_ rfl)) (Hold.out ?_)))) | refine And.intro rfl ?_ | apply qE | apply qO | exact True.intro | apply qq | apply qs | refine qK (by kernel_rfl) ?_ | apply qr)
  all_goals try first | apply qz1 | apply qz2 | apply qz3 | apply qz4 | apply qz5 | apply qz6 | apply qz7 | apply qz8 | apply qz9 | apply qz0
  all_goals try simp only [take_one,take_one',set_one,take_all,qn1,rec_self,qn2,pair_eta,ETy.dflt,qn3,qn4,Int.reduceToNat,Int.reduceAdd,Int.reduceSub,Int.reduceNeg,Nat.reduceAdd,Nat.zero_add,loopO1,loopO2,loopO3,loopO4] at *
  all_goals try (refine qh ?_;omega)
  · exact rep_step _ _ (by omega)
  · have e:i=x.1.2.length:=by omega
    subst e
    rw [Nat.sub_self];simp only [List.replicate_zero,List.append_nil];rfl
  · rw [ofI_skip (by assumption)]
  · rw [ofI_skip (by assumption)]
  all_goals try
    have hL:=ofL_ok g i (by omega)
    have h0:=start_ok (n:=x.1.2.length) (i:=i) hL.2.1 hL.1 (by omega) (by assumption)
  · exact qh ⟨Nat.zero_le _,rfl⟩
  · rfl
  all_goals try have hJ:=ofJs_ok g hL.2.1 h0 j
  all_goals try
    have hC:=ofCs_ok g hL.2.1 (j:=j) hJ c
    have hlen:=ofCs_len (x:=x) (k:=(ofL x i).2) (j:=j) (s:=irec (ofJ x (ofL x i).2) ((ofL x i).1.set i (ofL x i).2,[(i:Int)]) j) c
    have hd:=hC.td j (by omega)
  all_goals try have hjc:=hJ.cnt
  all_goals try have hcc:=hC.cnt
  all_goals try (refine qh ?_;(try unfold i64ok);omega)
  all_goals try (exact qh (show @LE.le Int _ (3*(irec (ofC x (ofL x i).2 j) (irec (ofJ x (ofL x i).2) ((ofL x i).1.set i (ofL x i).2,[(i:Int)]) j) c).2.getD j 0+c) (1000000:Int) by omega))
  all_goals try (rw [ofC_s,ofC_t (by assumption) (by assumption)];first | done | exact List.length_append)
  all_goals try (rw [ofC_s,ofC_f1 (by assumption) (by assumption)];done)
  all_goals try (rw [ofC_s,ofC_f2 (by assumption)];done)
  all_goals try (
    have:=opp_in g ‹_›
    first
      | (refine Hold.intro ⟨by decide,?_⟩;rw [td3 (by assumption)];unfold i64ok;omega)
      | (refine qh ?_;rw [td3 (by assumption)];omega))
  all_goals try (
    have e:c=3:=by omega
    subst e
    first
      | (rw [ofJ_s];done)
      | exact qh ⟨by rw [ofJ_s];omega,bfs_go (by omega) (by assumption) hj.2⟩)
  · rw [ofI_go (by assumption)]
  · rw [ofI_go (by assumption),hj.2,bfs_end (by assumption)]
  · have e:i=x.1.2.length:=by omega
    rw [e];unfold ofR
    rw [List.drop_zero,List.take_of_length_le (by rw [(ofL_ok g _ (Nat.le_refl _)).1];exact Nat.le_refl _)]
def shOfC:List AV→Option Res:=con1P tabE (fun x=>some (none,some (Good x),.s (.sl i64E (ofR x))))
theorem shOfRow:FnRow Try.prog 64 shOfC:=⟨con1P_ok fun x r h=>by cases h;exact fn_by (rulesF (fn:=[(89,trianglesC),(20,oppC)]) (fr:=[]) ⟨trianglesRow,oppRow,trivial⟩ trivial) Try.func64 (by kernel_rfl) fun _ h=>shOf_vc x h,_,Try.func64,by kernel_rfl,by kernel_rfl⟩
end S1
