/- A part of the proofs of the laws. -/
import Derived.Test.YtahbknnehddjgaaT5toT11
import Derived.Test.YtahbknnehddjgaaT0toVmInl
import Derived.RangeFuncFrom
import Derived.RangeFuncLeaves
import Derived.Test.YtahbknnehddjgaaVmFuntoVmKit
set_option linter.unusedSimpArgs false
set_option linter.unusedVariables false
set_option maxHeartbeats 8000000
set_option maxRecDepth 100000
open Go Go.Vm Go.Proofs
namespace S1
theorem php: ∀ (L n:Nat) (g:Nat→Nat),(∀ i,i<n→g i<L)→(∀ i j,i<j→j<n→g i≠g j)→n≤L
  | 0,n,g,h,_=>by
    rcases Nat.eq_zero_or_pos n with e | e
    · omega
    · have:=h 0 e;omega
  | L + 1,n,g,h,hd=>by
    by_cases hx: ∃ i,i<n∧g i=L
    · obtain ⟨i,hi,e⟩:=hx
      have:=php L (n - 1) (fun j=>if j<i then g j else g (j+1)) (fun j hj=>by
        split
        · rename_i hji
          have h1:=h j (by omega);have:=hd j i hji hi;omega
        · rename_i hji
          have h1:=h (j+1) (by omega);have:=hd i (j+1) (by omega) (by omega);omega) (fun a b hab hb=>by
        split<;>split
        · exact hd _ _ hab (by omega)
        · exact hd _ _ (by omega) (by omega)
        · omega
        · exact hd _ _ (by omega) (by omega))
      omega
    · have:=php L n g (fun i hi=>by
        have h1:=h i hi
        have:g i≠L:=fun e=>hx ⟨i,hi,e⟩
        omega) hd
      omega
def iter (f:Int→Int) (c:Int):Nat→Int
  | 0=>c
  | k+1=>f (iter f c k)
theorem iter_back {f:Int→Int} (inj: ∀ a b,0≤f a→f a=f b→a=b) {c:Int} : ∀ {i j:Nat},(∀ m,1≤m→m≤i→0≤iter f c m)→iter f c i=iter f c (i+j)→iter f c j=c
  | 0,j,_,h=>by rw [Nat.zero_add] at h;exact h.symm
  | i +1,j,hp,h=>by
    have h:f (iter f c i)=f (iter f c (i+j)):=by
      rw [show i+1+j=(i+j)+1 by omega] at h;exact h
    exact iter_back inj (fun m h1 h2=>hp m h1 (by omega)) (inj _ _ (hp (i+1) (by omega) (Nat.le_refl _)) h)
theorem pig {f:Int→Int} {L:Nat} (hr: ∀ c,0≤f c→f c<L) (inj: ∀ a b,0≤f a→f a=f b→a=b) {c:Int} {k:Nat} (h: ∀ j,1≤j→j≤k→0≤iter f c j∧iter f c j≠c):k≤L:=by
  refine php L k (fun i=>(iter f c (i+1)).toNat) (fun i hi=> ?_) (fun i j hij hj e=> ?_)
  · have h1:=(h (i+1) (by omega) (by omega)).1
    have:=hr (iter f c i) h1
    show (iter f c (i+1)).toNat<L
    have:iter f c (i+1)<L:=this
    omega
  · have h1:=(h (i+1) (by omega) (by omega)).1
    have h2:=(h (j+1) (by omega) (by omega)).1
    have e:iter f c (i+1)=iter f c (i+1+(j - i)):=by rw [show i+1+(j - i)=j+1 by omega];omega
    exact (h (j - i) (by omega) (by omega)).2 (iter_back inj (fun m a b=>(h m a (by omega)).1) e)
theorem trn_in {c b:Int} {L:Nat} (h:0≤c∧c<3*(L:Int)):0≤trn c b∧trn c b<3*(L:Int):=by unfold trn;omega
theorem trn1_inj {a b:Int} (h:trn a 1=trn b 1):a=b:=by unfold trn at h;omega
theorem trn2_inj {a b:Int} (h:trn a 2=trn b 2):a=b:=by unfold trn at h;omega
structure Good (x:tabE.T):Prop where
  fit:fitS x.1
  map: ∀ e c,mget .arr2 x.2.1 e=some c→tHas x c=true∧tEdge x c=e
  uniq: ∀ p q,tHas x p=true→tHas x q=true→tEdge x p=tEdge x q→p=q
  ends: ∀ c,tHas x c=true→(tEdge x c).1≠(tEdge x c).2
  first: ∀ v:Nat,x.2.2.getD v 0≤30000
  cor: ∀ c,tHas x c=true→tHas x (tCorner x (tVert x c))=true
theorem hasNP {x:tabE.T} {c:Int} (h:tHas x c=true):tHas x (tNext x c)=true∧tHas x (tPrev x c)=true:=by
  unfold tNext tPrev;rw [if_pos h,if_pos h]
  rw [tHas_iff] at h
  exact ⟨(tHas_iff.2 (trn_in h)),(tHas_iff.2 (trn_in h))⟩
theorem has_neg {x:tabE.T} :tHas x (-1)=false:=has_no (by omega)
theorem tEdge_no {x:tabE.T} {c:Int} (h:tHas x c=false):tEdge x c=(-1,-1):=by
  unfold tEdge tNext tPrev
  rw [if_neg (by rw [h];simp),if_neg (by rw [h];simp)]
  unfold tVert;rw [if_neg (by rw [has_neg];simp)]
theorem Good.opp {x:tabE.T} (g:Good x) {d:Int} (h:0≤tOpp x d):tHas x d=true∧tHas x (tOpp x d)=true∧tEdge x (tOpp x d)=((tEdge x d).2,(tEdge x d).1):=by
  unfold tOpp tFacing at *
  cases e:mget .arr2 x.2.1 ((tEdge x d).2,(tEdge x d).1) with
  | none=>rw [e] at h;cases h
  | some o =>
    obtain ⟨h1,h2⟩:=g.map _ _ e
    refine ⟨?_,h1,h2⟩
    cases hd:tHas x d with
    | true=>rfl
    | false =>
      rw [tEdge_no hd] at h2
      have:=(tVert_in g.fit (hasNP h1).1).1
      have h3:tVert x (tNext x o)= -1:=congrArg Prod.fst h2
      omega
def tBefore (x:tabE.T) (c:Int):Int:=if tOpp x (tPrev x c)<0 then -1 else tPrev x (tOpp x (tPrev x c))
def tAfter (x:tabE.T) (c:Int):Int:=if tOpp x (tNext x c)<0 then -1 else tNext x (tOpp x (tNext x c))
theorem tPrev_t {x:tabE.T} {c:Int} (h:tHas x c=true):tPrev x c=trn c 2:=by unfold tPrev;rw [if_pos h]
theorem tNext_t {x:tabE.T} {c:Int} (h:tHas x c=true):tNext x c=trn c 1:=by unfold tNext;rw [if_pos h]
theorem has_of_prev {x:tabE.T} {c:Int} (h:tHas x (tPrev x c)=true):tHas x c=true:=by
  cases e:tHas x c with
  | true=>rfl
  | false=>unfold tPrev at h;rw [if_neg (by rw [e];simp),has_neg] at h;cases h
theorem has_of_next {x:tabE.T} {c:Int} (h:tHas x (tNext x c)=true):tHas x c=true:=by
  cases e:tHas x c with
  | true=>rfl
  | false=>unfold tNext at h;rw [if_neg (by rw [e];simp),has_neg] at h;cases h
theorem Good.opp_inj {x:tabE.T} (g:Good x) {a b:Int} (h:0≤tOpp x a) (e:tOpp x a=tOpp x b):a=b:=by
  obtain ⟨h1,h2,h3⟩:=g.opp h
  obtain ⟨k1,k2,k3⟩:=g.opp (d:=b) (by omega)
  rw [e,k3] at h3
  refine g.uniq _ _ h1 k1 (Prod.ext ?_ ?_)
  · exact (congrArg Prod.snd h3).symm
  · exact (congrArg Prod.fst h3).symm
theorem Good.before_has {x:tabE.T} (g:Good x) {c:Int} (h:0≤tBefore x c):tHas x c=true∧tHas x (tBefore x c)=true∧0≤tOpp x (tPrev x c):=by
  unfold tBefore at *
  split at h
  · omega
  · rename_i ho
    obtain ⟨h1,h2,h3⟩:=g.opp (d:=tPrev x c) (by omega)
    rw [if_neg ho]
    exact ⟨has_of_prev h1,(hasNP h2).2,by omega⟩
theorem Good.after_has {x:tabE.T} (g:Good x) {c:Int} (h:0≤tAfter x c):tHas x c=true∧tHas x (tAfter x c)=true∧0≤tOpp x (tNext x c):=by
  unfold tAfter at *
  split at h
  · omega
  · rename_i ho
    obtain ⟨h1,h2,h3⟩:=g.opp (d:=tNext x c) (by omega)
    rw [if_neg ho]
    exact ⟨has_of_next h1,(hasNP h2).1,by omega⟩
theorem Good.before_inj {x:tabE.T} (g:Good x) (a b:Int) (h:0≤tBefore x a) (e:tBefore x a=tBefore x b):a=b:=by
  obtain ⟨h1,h2,h3⟩:=g.before_has h
  obtain ⟨k1,k2,k3⟩:=g.before_has (c:=b) (by omega)
  obtain ⟨_,o1,_⟩:=g.opp h3
  obtain ⟨_,o2,_⟩:=g.opp k3
  unfold tBefore at e
  rw [if_neg (by omega),if_neg (by omega),tPrev_t o1,tPrev_t o2] at e
  have:=g.opp_inj h3 (trn2_inj e)
  rw [tPrev_t h1,tPrev_t k1] at this
  exact trn2_inj this
theorem Good.after_inj {x:tabE.T} (g:Good x) (a b:Int) (h:0≤tAfter x a) (e:tAfter x a=tAfter x b):a=b:=by
  obtain ⟨h1,h2,h3⟩:=g.after_has h
  obtain ⟨k1,k2,k3⟩:=g.after_has (c:=b) (by omega)
  obtain ⟨_,o1,_⟩:=g.opp h3
  obtain ⟨_,o2,_⟩:=g.opp k3
  unfold tAfter at e
  rw [if_neg (by omega),if_neg (by omega),tNext_t o1,tNext_t o2] at e
  have:=g.opp_inj h3 (trn1_inj e)
  rw [tNext_t h1,tNext_t k1] at this
  exact trn1_inj this
end S1
open Go Go.Vm Go.Proofs
namespace S1
def eKey (l:List P3) (q:Nat):P3:=(kTwice (l.getD (q / 3) (0,0,0))).getD (q % 3) (0,0,0)
theorem prA_same2 {kind:Int} {i:Nat} {av:List Int} {s:PS} {j:Nat} (h:(prA kind i av s j).2=[]):prA kind i av s j=s∧(mget .arr2 s.1 (av.getD j 0,(i:Int))).getD false=true:=by
  unfold prA at *
  cases e:(mget .arr2 s.1 (av.getD j 0,(i:Int))).getD false with
  | true=>exact ⟨rfl,rfl⟩
  | false =>
    rw [e] at h
    exact absurd h (by simp)
theorem prAs_same {kind:Int} {i:Nat} {av:List Int} {s:PS} : ∀ {n:Nat},(irec (prA kind i av) s n).2=[]→irec (prA kind i av) s n=s∧∀ j,j<n→(mget .arr2 s.1 (av.getD j 0,(i:Int))).getD false=true
  | 0,_=>⟨rfl,fun j h=>by omega⟩
  | n+1,h=>by
    obtain ⟨h1,h2⟩:=prA_same2 (s:=irec (prA kind i av) s n) h
    have h:(prA kind i av (irec (prA kind i av) s n) n).2=[]:=h
    rw [h1] at h
    obtain ⟨h3,h4⟩:=prAs_same h
    refine ⟨h1.trans h3,fun j hj=> ?_⟩
    by_cases e:j=n
    · subst e;rw [h3] at h2;exact h2
    · exact h4 j (by omega)
structure Uq (l:List P3) (n:Nat) (s:HadM×PS):Prop where
  seen:s.2.1=[]
  dif: ∀ p q,p<q→q<n→eKey l p≠eKey l q
  had: ∀ p,p<n→hadAt s.1 (eKey l p)≠[]
theorem prK_uq {l:List P3} {i m:Nat} (hm:m<3) {s:HadM×PS} (h:s.2.2=[]→Uq l (3*i+m) s)
    (h2:(prK 3 i (kTwice (l.getD i (0,0,0))) s m).2.2=[]):s.2.2=[]∧Uq l (3*i+m+1) (prK 3 i (kTwice (l.getD i (0,0,0))) s m):=by
  have hk:eKey l (3*i+m)=(kTwice (l.getD i (0,0,0))).getD m (0,0,0):=by
    unfold eKey;rw [show (3*i+m) / 3=i by omega,show (3*i+m) % 3=m by omega]
  have h3:=prAs_same h2
  have h0:s.2.2=[]:=by rw [← h3.1];exact h2
  have u:=h h0
  have he:hadAt s.1 (eKey l (3*i+m))=[]:=by
    rw [hk]
    cases e:hadAt s.1 ((kTwice (l.getD i (0,0,0))).getD m (0,0,0)) with
    | nil=>rfl
    | cons a r =>
      have:=h3.2 0 (by rw [e];simp)
      rw [u.seen] at this
      cases this
  refine ⟨h0,?_,fun p q hpq hq e=> ?_,fun p hp=> ?_⟩
  · exact (congrArg Prod.fst h3.1).trans u.seen
  · by_cases hn:q=3*i+m
    · subst hn
      exact u.had p hpq (by rw [e];exact he)
    · exact u.dif p q hpq (by omega) e
  · show hadAt (mset .arr3 s.1 ((kTwice (l.getD i (0,0,0))).getD m (0,0,0)) (hadAt s.1 ((kTwice (l.getD i (0,0,0))).getD m (0,0,0))++[(i:Int)])) (eKey l p)≠[]
    rw [hadAt_set]
    split
    · simp
    · rename_i hne
      by_cases hn:p=3*i+m
      · subst hn;exact absurd hk.symm hne
      · exact u.had p (by omega)
theorem prS_uq (l:List P3): ∀ i,(prS kTwice 3 l i).2.2=[]→Uq l (3*i) (prS kTwice 3 l i)
  | 0,_=>⟨rfl,fun p q _ h=>by omega,fun p h=>by omega⟩
  | i+1,h=>by
    have h:(irec (prK 3 i (kTwice (l.getD i (0,0,0)))) (prS kTwice 3 l i) 3).2.2=[]:=h
    have h0:=prS_uq l i
    have s1:=fun h=>(prK_uq (m:=0) (by omega) (s:=prS kTwice 3 l i) h0 h).2
    have s2:=fun h=>(prK_uq (m:=1) (by omega) (s:=irec (prK 3 i (kTwice (l.getD i (0,0,0)))) (prS kTwice 3 l i) 1) s1 h).2
    exact (prK_uq (m:=2) (by omega) (s:=irec (prK 3 i (kTwice (l.getD i (0,0,0)))) (prS kTwice 3 l i) 2) s2 h).2
theorem kTwice_get (t:P3) {k:Nat} (h:k<3):(kTwice t).getD k (0,0,0)=(p3 t k,p3 t ((k+1) % 3:Nat),0):=by
  have:k=0∨k=1∨k=2:=by omega
  rcases this with e | e | e<;>subst e<;>rfl
theorem tEdge_key {x:tabE.T} {c:Int} (h:tHas x c=true):eKey x.1.2 (trn c 1).toNat=((tEdge x c).1,(tEdge x c).2,0):=by
  have hc:=tHas_iff.1 h
  have h1:=tHas_iff.1 (hasNP h).1
  have h2:=tHas_iff.1 (hasNP h).2
  unfold eKey
  rw [kTwice_get _ (by omega)]
  unfold tEdge
  rw [tVert_t h1.1 h1.2,tVert_t h2.1 h2.2]
  rw [tNext_t h,tPrev_t h]
  have e0:0≤trn c 1:=by unfold trn;omega
  have e1:(trn c 1).toNat / 3=(c / 3).toNat:=by unfold trn;omega
  have e2:(trn c 1 / 3).toNat=(c / 3).toNat:=by unfold trn;omega
  have e3:(trn c 2 / 3).toNat=(c / 3).toNat:=by unfold trn;omega
  have e4:(((trn c 1).toNat % 3:Nat):Int)=trn c 1 % 3:=by omega
  have e5:((((trn c 1).toNat % 3+1) % 3:Nat):Int)=trn c 2 % 3:=by unfold trn;omega
  rw [e1,e2,e3,e4,e5]
theorem deg_no {l:List P3} (h:dgL l l.length=[]) {i:Nat} (hi:i<l.length): ¬ ((l.getD i (0,0,0)).1=(l.getD i (0,0,0)).2.1∨(l.getD i (0,0,0)).2.1=(l.getD i (0,0,0)).2.2∨(l.getD i (0,0,0)).2.2=(l.getD i (0,0,0)).1):=by
  have:=List.filterMap_eq_nil_iff.1 h i (List.mem_range.2 hi)
  unfold dgG at this
  split at this
  · cases this
  · rename_i hd
    exact fun e=>hd (deg_t e)
theorem p3_ne {t:P3} (h: ¬ (t.1=t.2.1∨t.2.1=t.2.2∨t.2.2=t.1)) {k:Nat} (hk:k<3):p3 t k≠p3 t ((k+1) % 3:Nat):=by
  have:k=0∨k=1∨k=2:=by omega
  rcases this with e | e | e<;>subst e<;>intro e<;>apply h
  · exact .inl e
  · exact .inr (.inl e)
  · exact .inr (.inr e)
theorem newS_map (x:Int×List P3): ∀ i,i≤3*x.2.length→∀ e c,mget .arr2 (newS x i).1 e=some c→0≤c∧c<3*(x.2.length:Int)∧tEdge (x,[],[]) c=e
  | 0,_,e,c,h=>by cases h
  | i +1,hi,e,c,h=>by
    have h:mget .arr2 (mset .arr2 (newS x i).1 (tEdge (x,[],[]) (3*x.2.length - 1 - i)) (3*x.2.length - 1 - i)) e=some c:=h
    by_cases he:tEdge (x,[],[]) (3*x.2.length - 1 - i)=e
    · rw [he,mget_same] at h
      cases h
      exact ⟨by omega,by omega,he⟩
    · rw [mget_other _ he] at h
      exact newS_map x i (by omega) e c h
theorem newS_first (x:Int×List P3) (hl:x.2.length≤8192): ∀ i,i≤3*x.2.length→∀ v,(newS x i).2.getD v 0≤30000
  | 0,_,v=>by
    show (List.replicate _ _).getD v 0≤_
    rw [gdE,List.getElem?_replicate];split<;>decide
  | i +1,hi,v=>by
    show ((newS x i).2.set _ _).getD v 0≤_
    rw [gdE,List.getElem?_set]
    split
    · split
      · show (3*(x.2.length:Int) - 1 - i)≤30000;omega
      · decide
    · rw [← gdE];exact newS_first x hl i (by omega) v
theorem newS_in (x:Int×List P3) (hl:0<x.2.length): ∀ i,i≤3*x.2.length→∀ v,0≤(newS x i).2.getD v 0∧(newS x i).2.getD v 0<3*(x.2.length:Int)
  | 0,_,v=>by
    show 0≤(List.replicate _ _).getD v 0∧(List.replicate _ _).getD v 0<_
    have: ∀ n,(List.replicate n (0:Int)).getD v 0=0:=fun n=>by
      rw [gdE,List.getElem?_replicate];split<;>rfl
    rw [this];omega
  | i +1,hi,v=>by
    show 0≤((newS x i).2.set _ _).getD v 0∧((newS x i).2.set _ _).getD v 0<_
    rw [gdE,List.getElem?_set]
    split
    · split
      · show 0≤(3*(x.2.length:Int) - 1 - i)∧(3*(x.2.length:Int) - 1 - i)<3*(x.2.length:Int);omega
      · show (0:Int)≤0∧(0:Int)<3*(x.2.length:Int);omega
    · rw [← gdE];exact newS_in x hl i (by omega) v
theorem good_new {s:Int×List P3} (h:Cert s):Good (newT s) where
  fit:=h.fit
  map e c he:=by
    obtain ⟨h1,h2,h3⟩:=newS_map s _ (Nat.le_refl _) e c he
    exact ⟨tHas_iff.2 ⟨h1,h2⟩,h3⟩
  uniq p q hp hq e:=by
    have hu:=(prS_uq s.2 _ h.twi).dif
    have kp:=tEdge_key hp
    have kq:=tEdge_key hq
    rw [e,← kq] at kp
    have ip:=tHas_iff.1 (hasNP hp).1
    have iq:=tHas_iff.1 (hasNP hq).1
    rw [tNext_t hp] at ip
    rw [tNext_t hq] at iq
    have ip:0≤trn p 1∧trn p 1<3*(s.2.length:Int):=ip
    have iq:0≤trn q 1∧trn q 1<3*(s.2.length:Int):=iq
    have kp:eKey s.2 (trn p 1).toNat=eKey s.2 (trn q 1).toNat:=kp
    refine trn1_inj ?_
    rcases Nat.lt_trichotomy (trn p 1).toNat (trn q 1).toNat with hlt | heq | hgt
    · exact absurd kp (hu _ _ hlt (by omega))
    · omega
    · exact absurd kp.symm (hu _ _ hgt (by omega))
  ends c hc e:=by
    have k:=tEdge_key hc
    have i0:=tHas_iff.1 hc
    have i1:=tHas_iff.1 (hasNP hc).1
    rw [tNext_t hc] at i1
    have i1:0≤trn c 1∧trn c 1<3*(s.2.length:Int):=i1
    unfold eKey at k
    rw [kTwice_get _ (by omega)] at k
    refine p3_ne (deg_no h.deg (i:=(trn c 1).toNat / 3) (by omega)) (k:=(trn c 1).toNat % 3) (by omega) ?_
    exact (congrArg Prod.fst k).trans (e.trans (congrArg (fun t:P3=>t.2.1) k).symm)
  cor c hc:=by
    have i0:=tHas_iff.1 hc
    have i0:0≤c∧c<3*(s.2.length:Int):=i0
    have hv:=tVert_in (x:=newT s) h.fit hc
    have hlen:(newT s).2.2.length=s.1.toNat:=newS_len s _
    have hv2:0≤tVert (newT s) c∧tVert (newT s) c<s.1:=hv
    unfold tCorner
    rw [if_pos (by rw [hlen];omega)]
    exact tHas_iff.2 (newS_in s (by omega) _ (Nat.le_refl _) _)
  first v:=newS_first s h.fit.2.2.1 _ (Nat.le_refl _) v
end S1
open Go Go.Vm Go.Proofs
namespace S1
theorem opp_le {x:tabE.T} (g:Good x) (c:Int):tOpp x c≤30000:=by
  by_cases h:0≤tOpp x c
  · have:=tHas_iff.1 (g.opp h).2.1
    have:=g.fit.2.2.1
    omega
  · omega
theorem prev_le {x:tabE.T} (g:Good x) (c:Int):tPrev x c≤30000:=by
  cases h:tHas x c with
  | false=>unfold tPrev;rw [if_neg (by rw [h];simp)];decide
  | true =>
    have:=tHas_iff.1 (hasNP h).2
    have:=g.fit.2.2.1
    omega
theorem next_le {x:tabE.T} (g:Good x) (c:Int):tNext x c≤30000:=by
  cases h:tHas x c with
  | false=>unfold tNext;rw [if_neg (by rw [h];simp)];decide
  | true =>
    have:=tHas_iff.1 (hasNP h).1
    have:=g.fit.2.2.1
    omega
theorem before_vc (x:tabE.T) (c:Int) (h:Good x∧c≤30000):afun ⟨tyL,[(53,prevC),(20,oppC)],[]⟩ Try.f88 [(ETy.pt tabE).av (some x),i64E.av c] (fun v=>v= .s (.int .i64 (tBefore x c))):=by
  repeat' (conv=>whnf
           first | done | refine qN (by first | rfl | omega | (simp only [i64ok] at *;omega)) ?_ | apply qH | refine qG fun _=> ?_ | apply qB | apply qa | apply qo | refine qe (fun _=> ?_) (fun _=> ?_) | refine qn (fun _=> ?_) (fun _=> ?_) | refine qd (fun _=> ?_) (fun _=> ?_) | apply qt | refine qi (fun _=> ?_) (fun _=> ?_) | refine And.intro rfl ?_ | apply qE | apply qO | exact True.intro | apply qq | apply qs | refine qK (by kernel_rfl) ?_ | apply qr)
  all_goals try first | apply qz1 | apply qz2 | apply qz3 | apply qz4 | apply qz5 | apply qz6 | apply qz7 | apply qz8 | apply qz9 | apply qz0
  all_goals try simp only [take_one,take_one',set_one,take_all,qn1,rec_self,qn2,pair_eta,ETy.dflt,qn3,qn4,Int.reduceToNat,Int.reduceAdd,Int.reduceSub,Int.reduceNeg,Nat.reduceAdd,Nat.zero_add,tBefore] at *
  · exact qh (Int.le_trans h.2 (by decide))
  · exact qh (Int.le_trans (prev_le h.1 _) (by decide))
  · rw [if_pos (by assumption)]
  · exact qh (Int.le_trans (opp_le h.1 _) (by decide))
  · rw [if_neg (by assumption)]
def beforeC:List AV→Option Res:=con2P tabE i64E (fun x c=>some (none,some (Good x∧c≤30000),.s (.int .i64 (tBefore x c))))
theorem beforeRow:FnRow Try.prog 88 beforeC:=⟨con2P_ok fun x c r h=>by cases h;exact fn_by (rulesF (fn:=[(53,prevC),(20,oppC)]) (fr:=[]) ⟨prevRow,oppRow,trivial⟩ trivial) Try.func88 (by kernel_rfl) fun _ h=>before_vc x c h,_,Try.func88,by kernel_rfl,by kernel_rfl⟩
theorem after_vc (x:tabE.T) (c:Int) (h:Good x∧c≤30000):afun ⟨tyL,[(52,nextC),(20,oppC)],[]⟩ Try.f67 [(ETy.pt tabE).av (some x),i64E.av c] (fun v=>v= .s (.int .i64 (tAfter x c))):=by
  repeat' (conv=>whnf
           first | done | refine qN (by first | rfl | omega | (simp only [i64ok] at *;omega)) ?_ | apply qH | refine qG fun _=> ?_ | apply qB | apply qa | apply qo | refine qe (fun _=> ?_) (fun _=> ?_) | refine qn (fun _=> ?_) (fun _=> ?_) | refine qd (fun _=> ?_) (fun _=> ?_) | apply qt | refine qi (fun _=> ?_) (fun _=> ?_) | refine And.intro rfl ?_ | apply qE | apply qO | exact True.intro | apply qq | apply qs | refine qK (by kernel_rfl) ?_ | apply qr)
  all_goals try first | apply qz1 | apply qz2 | apply qz3 | apply qz4 | apply qz5 | apply qz6 | apply qz7 | apply qz8 | apply qz9 | apply qz0
  all_goals try simp only [take_one,take_one',set_one,take_all,qn1,rec_self,qn2,pair_eta,ETy.dflt,qn3,qn4,Int.reduceToNat,Int.reduceAdd,Int.reduceSub,Int.reduceNeg,Nat.reduceAdd,Nat.zero_add,tAfter] at *
  · exact qh (Int.le_trans h.2 (by decide))
  · exact qh (Int.le_trans (next_le h.1 _) (by decide))
  · rw [if_pos (by assumption)]
  · exact qh (Int.le_trans (opp_le h.1 _) (by decide))
  · rw [if_neg (by assumption)]
def afterC:List AV→Option Res:=con2P tabE i64E (fun x c=>some (none,some (Good x∧c≤30000),.s (.int .i64 (tAfter x c))))
theorem afterRow:FnRow Try.prog 67 afterC:=⟨con2P_ok fun x c r h=>by cases h;exact fn_by (rulesF (fn:=[(52,nextC),(20,oppC)]) (fr:=[]) ⟨nextRow,oppRow,trivial⟩ trivial) Try.func67 (by kernel_rfl) fun _ h=>after_vc x c h,_,Try.func67,by kernel_rfl,by kernel_rfl⟩
def tThere (x:tabE.T) (v:Int):Bool:=decide (0≤v)&&(decide (v<x.1.1)&&decide (0≤tCorner x v))
theorem there_vc (x:tabE.T) (v:Int):afun ⟨tyL,[(74,verticesC),(65,cornerC)],[]⟩ Try.f62 [(ETy.pt tabE).av (some x),i64E.av v] (fun r=>r= .s (.bool (tThere x v))):=by
  repeat' (conv=>whnf
           first | done | refine qN (by first | rfl | omega | (simp only [i64ok] at *;omega)) ?_ | apply qH | refine qG fun _=> ?_ | apply qB | apply qa | apply qo | refine qe (fun _=> ?_) (fun _=> ?_) | refine qn (fun _=> ?_) (fun _=> ?_) | refine qd (fun _=> ?_) (fun _=> ?_) | apply qt | refine qi (fun _=> ?_) (fun _=> ?_) | refine And.intro rfl ?_ | apply qE | apply qO | exact True.intro | apply qq | apply qs | refine qK (by kernel_rfl) ?_ | apply qr)
  all_goals try first | apply qz1 | apply qz2 | apply qz3 | apply qz4 | apply qz5 | apply qz6 | apply qz7 | apply qz8 | apply qz9 | apply qz0
  all_goals try simp only [take_one,take_one',set_one,take_all,qn1,rec_self,qn2,pair_eta,ETy.dflt,qn3,qn4,Int.reduceToNat,Int.reduceAdd,Int.reduceSub,Int.reduceNeg,Nat.reduceAdd,Nat.zero_add,tThere] at *
  · rename_i h1 h2
    rw [decide_eq_true h1,decide_eq_true h2];rfl
  · rename_i h1 h2
    rw [decide_eq_false h2];simp
  · rename_i h1
    rw [decide_eq_false h1];rfl
theorem there0_vc {fn} (v:Int):afun ⟨tyL,fn,[]⟩ Try.f62 [(ETy.pt tabE).av none,i64E.av v] (fun r=>r= .s (.bool false)):=by
  repeat' (conv=>whnf
           first | done | refine qN (by first | rfl | omega | (simp only [i64ok] at *;omega)) ?_ | apply qH | refine qG fun _=> ?_ | apply qB | apply qa | apply qo | refine qe (fun _=> ?_) (fun _=> ?_) | refine qn (fun _=> ?_) (fun _=> ?_) | refine qd (fun _=> ?_) (fun _=> ?_) | apply qt | refine qi (fun _=> ?_) (fun _=> ?_) | refine And.intro rfl ?_ | apply qE | apply qO | exact True.intro | apply qq | apply qs | refine qK (by kernel_rfl) ?_ | apply qr)
  all_goals try first | apply qz1 | apply qz2 | apply qz3 | apply qz4 | apply qz5 | apply qz6 | apply qz7 | apply qz8 | apply qz9 | apply qz0
  all_goals try simp only [take_one,take_one',set_one,take_all,qn1,rec_self,qn2,pair_eta,ETy.dflt,qn3,qn4,Int.reduceToNat,Int.reduceAdd,Int.reduceSub,Int.reduceNeg,Nat.reduceAdd,Nat.zero_add] at *
def onO {α:Type} (o:Option tabE.T) (d:α) (f:tabE.T→α):α:=match o with | some x=>f x | none=>d
def thereC:List AV→Option Res:=con2 (.pt tabE) i64E (fun o v=>some (none,none,.s (.bool (onO o false fun x=>tThere x v))))
theorem thereRow:FnRow Try.prog 62 thereC:=⟨con2_ok fun o v r h=>by
  cases h
  cases o with
  | none=>exact fn_by (rulesF (fn:=[(74,verticesC),(65,cornerC)]) (fr:=[]) ⟨verticesRow,cornerRow,trivial⟩ trivial) Try.func62 (by kernel_rfl) fun _ _=>there0_vc v
  | some x=>exact fn_by (rulesF (fn:=[(74,verticesC),(65,cornerC)]) (fr:=[]) ⟨verticesRow,cornerRow,trivial⟩ trivial) Try.func62 (by kernel_rfl) fun _ _=>there_vc x v,_,Try.func62,by kernel_rfl,by kernel_rfl⟩
def firstF (x:tabE.T) (c0:Int):Nat→Int→Int×Bool
  | 0,_=>(0,false)
  | n+1,c=>if tBefore x c<0 then (c,true) else if tBefore x c=c0 then (c0,false) else firstF x c0 n (tBefore x c)
def firstR (x:tabE.T) (v:Int):Int×Bool:=firstF x (tCorner x v) 30000 (tCorner x v)
def FInv (f:Int→Int) (c0:Int) (k:Nat):Prop:= ∀ j,1≤j→j≤k→0≤iter f c0 j∧iter f c0 j≠c0
theorem FInv.succ {f:Int→Int} {c0:Int} {k:Nat} (h:FInv f c0 k) (h1: ¬ f (iter f c0 k)<0) (h2: ¬ f (iter f c0 k)=c0):FInv f c0 (k+1):=fun j a b=>by
  by_cases e:j=k+1
  · subst e;exact ⟨by show 0≤f (iter f c0 k);omega,h2⟩
  · exact h j a (by omega)
theorem fin_before {x:tabE.T} (g:Good x) {c0:Int} {k:Nat} (h:FInv (tBefore x) c0 k):k≤24576:=by
  have:=pig (L:=3*x.1.2.length) (fun c hc=>by have:=tHas_iff.1 (g.before_has hc).2.1;omega) g.before_inj h
  have:=g.fit.2.2.1
  omega
theorem fin_after {x:tabE.T} (g:Good x) {c0:Int} {k:Nat} (h:FInv (tAfter x) c0 k):k≤24576:=by
  have:=pig (L:=3*x.1.2.length) (fun c hc=>by have:=tHas_iff.1 (g.after_has hc).2.1;omega) g.after_inj h
  have:=g.fit.2.2.1
  omega
theorem corner_le {x:tabE.T} (g:Good x) (v:Int):tCorner x v≤30000:=by
  unfold tCorner;split
  · exact g.first _
  · decide
theorem iterB_le {x:tabE.T} (g:Good x) {c0:Int} (h0:c0≤30000): ∀ k,iter (tBefore x) c0 k≤30000
  | 0=>h0
  | k+1=>by
    show tBefore x (iter (tBefore x) c0 k)≤30000
    unfold tBefore;split
    · decide
    · exact prev_le g _
theorem iterA_le {x:tabE.T} (g:Good x) {c0:Int} (h0:c0≤30000): ∀ k,iter (tAfter x) c0 k≤30000
  | 0=>h0
  | k+1=>by
    show tAfter x (iter (tAfter x) c0 k)≤30000
    unfold tAfter;split
    · decide
    · exact next_le g _
def loopF (x:tabE.T) (c0:Int):Spec Nat where
  inv k:=FInv (tBefore x) c0 k∧firstF x c0 30000 c0=firstF x c0 (30000 - k) (iter (tBefore x) c0 k)
  live k:=[(7,.s (.int .i64 (iter (tBefore x) c0 k)))]
  keep:=[0,6]
  heap _:=[]
  keepH:=[]
  mu k:=30000 - k
theorem firstF_step {x:tabE.T} {c0 c:Int} {k:Nat} (h:k≤24576):firstF x c0 (30000 - k) c=if tBefore x c<0 then (c,true) else if tBefore x c=c0 then (c0,false) else firstF x c0 (30000 - (k+1)) (tBefore x c):=by
  rw [show 30000 - k=(30000 - (k+1))+1 by omega];rfl
theorem first_vc (x:tabE.T) (v:Int) (g:Good x):afun ⟨tyL,[(65,cornerC),(88,beforeC)],[]⟩ Try.f63 [(ETy.pt tabE).av (some x),i64E.av v] (fun r=>r= .tup [.s (.int .i64 (firstR x v).1),.s (.bool (firstR x v).2)]):=by
  repeat' (conv=>whnf
           first | done | refine qN (by first | rfl | omega | (simp only [i64ok] at *;omega)) ?_ | apply qH | refine qG fun _=> ?_ | apply qB | apply qa | apply qo | refine qe (fun _=> ?_) (fun _=> ?_) | refine qn (fun _=> ?_) (fun _=> ?_) | refine qd (fun _=> ?_) (fun _=> ?_) | apply qt | refine qi (fun _=> ?_) (fun _=> ?_) | (refine atReg 3 rfl ?_;refine Or.inr (Exists.intro (Nat) (Exists.intro (loopF x (tCorner x v)) (And.intro (Exists.intro (0) (And.intro (Hold.out ?_) (And.intro ?_ (And.intro ?_ rfl)))) (fun k hk=> ?_))))) | ((with_reducible show (∃ y,And (Spec.inv (loopF _ _) y) _));refine Exists.intro (k+1) (And.intro (Hold.out ?_) (And.intro (And.intro ?_ (And.intro ?_ rfl)) (Hold.out ?_)))) | refine And.intro rfl ?_ | apply qE | apply qO | exact True.intro | apply qq | apply qs | refine qK (by kernel_rfl) ?_ | apply qr)
  all_goals try first | apply qz1 | apply qz2 | apply qz3 | apply qz4 | apply qz5 | apply qz6 | apply qz7 | apply qz8 | apply qz9 | apply qz0
  all_goals try simp only [take_one,take_one',set_one,take_all,qn1,rec_self,qn2,pair_eta,ETy.dflt,qn3,qn4,Int.reduceToNat,Int.reduceAdd,Int.reduceSub,Int.reduceNeg,Nat.reduceAdd,Nat.zero_add,loopF] at *
  · exact qh ⟨fun j a b=>by omega,rfl⟩
  all_goals have hk24:=fin_before g hk.1
  · exact qh ⟨g,iterB_le g (corner_le g v) k⟩
  · unfold firstR;rw [hk.2,firstF_step hk24,if_pos (by assumption)];exact HoldEq.intro rfl
  · unfold firstR;rw [hk.2,firstF_step hk24,if_neg (by assumption),if_pos (by assumption)];exact HoldEq.intro rfl
  · refine Hold.intro ⟨hk.1.succ (by assumption) (by assumption),?_⟩
    rw [hk.2,firstF_step hk24,if_neg (by assumption),if_neg (by assumption)];rfl
  · exact qh (by omega)
def firstC:List AV→Option Res:=con2P tabE i64E (fun x v=>some (none,some (Good x),.tup [.s (.int .i64 (firstR x v).1),.s (.bool (firstR x v).2)]))
theorem firstRow:FnRow Try.prog 63 firstC:=⟨con2P_ok fun x v r h=>by cases h;exact fn_by (rulesF (fn:=[(65,cornerC),(88,beforeC)]) (fr:=[]) ⟨cornerRow,beforeRow,trivial⟩ trivial) Try.func63 (by kernel_rfl) fun _ h=>first_vc x v h,_,Try.func63,by kernel_rfl,by kernel_rfl⟩
def innerR (x:tabE.T) (v:Int):Bool:=tThere x v&& !(firstR x v).2
theorem inner_vc (x:tabE.T) (v:Int) (g:Good x):afun ⟨tyL,[(62,thereC),(63,firstC)],[]⟩ Try.f41 [(ETy.pt tabE).av (some x),i64E.av v] (fun r=>r= .s (.bool (innerR x v))):=by
  repeat' (conv=>whnf
           first | done | refine qN (by first | rfl | omega | (simp only [i64ok] at *;omega)) ?_ | apply qH | refine qG fun _=> ?_ | apply qB | apply qa | apply qo | refine qe (fun _=> ?_) (fun _=> ?_) | refine qn (fun _=> ?_) (fun _=> ?_) | refine qd (fun _=> ?_) (fun _=> ?_) | apply qt | refine qi (fun _=> ?_) (fun _=> ?_) | refine And.intro rfl ?_ | apply qE | apply qO | exact True.intro | apply qq | apply qs | refine qK (by kernel_rfl) ?_ | apply qr)
  all_goals try first | apply qz1 | apply qz2 | apply qz3 | apply qz4 | apply qz5 | apply qz6 | apply qz7 | apply qz8 | apply qz9 | apply qz0
  all_goals try simp only [take_one,take_one',set_one,take_all,qn1,rec_self,qn2,pair_eta,ETy.dflt,qn3,qn4,Int.reduceToNat,Int.reduceAdd,Int.reduceSub,Int.reduceNeg,Nat.reduceAdd,Nat.zero_add,innerR,tThere] at *
  all_goals (simp only [*,decide_true,decide_false,Bool.true_and,Bool.false_and,Bool.and_false])
def innerC:List AV→Option Res:=con2P tabE i64E (fun x v=>some (none,some (Good x),.s (.bool (innerR x v))))
theorem innerRow:FnRow Try.prog 41 innerC:=⟨con2P_ok fun x v r h=>by cases h;exact fn_by (rulesF (fn:=[(62,thereC),(63,firstC)]) (fr:=[]) ⟨thereRow,firstRow,trivial⟩ trivial) Try.func41 (by kernel_rfl) fun _ h=>inner_vc x v h,_,Try.func41,by kernel_rfl,by kernel_rfl⟩
def nearR (x:tabE.T) (a b:Int):Bool:=decide (0≤tFacing x (a,b))|| decide (0≤tFacing x (b,a))
theorem near_vc (x:tabE.T) (a b:Int):afun ⟨tyL,[(19,facingC)],[]⟩ Try.f14 [(ETy.pt tabE).av (some x),i64E.av a,i64E.av b] (fun r=>r= .s (.bool (nearR x a b))):=by
  repeat' (conv=>whnf
           first | done | refine qN (by first | rfl | omega | (simp only [i64ok] at *;omega)) ?_ | apply qH | refine qG fun _=> ?_ | apply qB | apply qa | apply qo | refine qe (fun _=> ?_) (fun _=> ?_) | refine qn (fun _=> ?_) (fun _=> ?_) | refine qd (fun _=> ?_) (fun _=> ?_) | apply qt | refine qi (fun _=> ?_) (fun _=> ?_) | refine And.intro rfl ?_ | apply qE | apply qO | exact True.intro | apply qq | apply qs | refine qK (by kernel_rfl) ?_ | apply qr)
  all_goals try first | apply qz1 | apply qz2 | apply qz3 | apply qz4 | apply qz5 | apply qz6 | apply qz7 | apply qz8 | apply qz9 | apply qz0
  all_goals try simp only [take_one,take_one',set_one,take_all,qn1,rec_self,qn2,pair_eta,ETy.dflt,qn3,qn4,Int.reduceToNat,Int.reduceAdd,Int.reduceSub,Int.reduceNeg,Nat.reduceAdd,Nat.zero_add,nearR] at *
  · rename_i h;rw [decide_eq_true h];rfl
  · rename_i h;rw [decide_eq_false h];rfl
theorem near0_vc {fn} (a b:Int):afun ⟨tyL,fn,[]⟩ Try.f14 [(ETy.pt tabE).av none,i64E.av a,i64E.av b] (fun r=>r= .s (.bool false)):=by
  repeat' (conv=>whnf
           first | done | refine qN (by first | rfl | omega | (simp only [i64ok] at *;omega)) ?_ | apply qH | refine qG fun _=> ?_ | apply qB | apply qa | apply qo | refine qe (fun _=> ?_) (fun _=> ?_) | refine qn (fun _=> ?_) (fun _=> ?_) | refine qd (fun _=> ?_) (fun _=> ?_) | apply qt | refine qi (fun _=> ?_) (fun _=> ?_) | refine And.intro rfl ?_ | apply qE | apply qO | exact True.intro | apply qq | apply qs | refine qK (by kernel_rfl) ?_ | apply qr)
  all_goals try first | apply qz1 | apply qz2 | apply qz3 | apply qz4 | apply qz5 | apply qz6 | apply qz7 | apply qz8 | apply qz9 | apply qz0
  all_goals try simp only [take_one,take_one',set_one,take_all,qn1,rec_self,qn2,pair_eta,ETy.dflt,qn3,qn4,Int.reduceToNat,Int.reduceAdd,Int.reduceSub,Int.reduceNeg,Nat.reduceAdd,Nat.zero_add] at *
def nearC:List AV→Option Res:=con3 (.pt tabE) i64E i64E (fun o a b=>some (none,none,.s (.bool (onO o false fun x=>nearR x a b))))
theorem nearRow:FnRow Try.prog 14 nearC:=⟨con3_ok fun o a b r h=>by
  cases h
  cases o with
  | none=>exact fn_by (rulesF (fn:=[(19,facingC)]) (fr:=[]) ⟨facingRow,trivial⟩ trivial) Try.func14 (by kernel_rfl) fun _ _=>near0_vc a b
  | some x=>exact fn_by (rulesF (fn:=[(19,facingC)]) (fr:=[]) ⟨facingRow,trivial⟩ trivial) Try.func14 (by kernel_rfl) fun _ _=>near_vc x a b,_,Try.func14,by kernel_rfl,by kernel_rfl⟩
end S1
/- A block that is no data, known for a while: nothing that is done changes it. -/
namespace Go.Vm
open Go.RowKit
def dataO:Obj→Bool
  | .cells _ _ _=>true
  | .map _ _=>true
  | _=>false
def Sig.add (σ:Sig) (l:Nat) (o:Obj):Sig:=fun b=>if b=l then some o else σ b
def Sig.del (σ:Sig) (l:Nat):Sig:=fun b=>if b=l then none else σ b
def Sig.leD (σ τ:Sig):Prop:= ∀ b o,σ b=some o→dataO o=true→τ b=some o
theorem Ole.nodata {o o':Obj} (h:Ole o o') (hd:dataO o=false):o'=o:=by
  rcases h with h | ⟨c,c',T,fz,e,_⟩
  · exact h.symm
  · subst e;cases hd
section
variable {P:Program} {T:Tab} {B:Base} {w:World} {σ τ:Sig} {β:Places} {st:St} {tmps:Array Value}
theorem Sig.del_leD {l:Nat} (h: ∀ o,σ l=some o→dataO o=false):σ.leD (σ.del l):=fun b o e hd=>by
  unfold Sig.del
  split
  · rename_i hb;subst hb;rw [h o e] at hd;cases hd
  · exact e
theorem CellsAt.leD (h:σ.leD τ) {b o:Nat} {ds:List Value} :CellsAt σ b o ds→CellsAt τ b o ds :=
  fun ⟨c,T,fz,e,r⟩=>⟨c,T,fz,h _ _ e rfl,r⟩
theorem ERep.leD (hs:σ.leD τ): ∀ {e:ETy} {x:e.T} {ds:List Value},ERep σ e x ds→ERep τ e x ds
  | .int _,_,_,h=>h
  | .bool,_,_,h=>h
  | .arr2,_,_,h=>h
  | .arr3,_,_,h=>h
  | .pair _ _,_,_,h=>by obtain ⟨d1,d2,rfl,h1,h2⟩:=h;exact ⟨d1,d2,rfl,h1.leD hs,h2.leD hs⟩
  | .sl _,_,_,h=>by
    obtain ⟨a,cap,rfl,hl,hc,h⟩:=h
    refine ⟨a,cap,rfl,hl,hc,fun hne=> ?_⟩
    obtain ⟨b,o,ha,hr⟩:=h hne
    exact ⟨b,o,ha,fun i x hx=>let ⟨d,h1,h2⟩:=hr i x hx;⟨d,h1.leD hs,h2.leD hs⟩⟩
  | .mp _ _,_,_,h=>by
    obtain ⟨r,rfl,hl,hn,h⟩:=h
    refine ⟨r,rfl,hl,hn,fun b hb=> ?_⟩
    obtain ⟨es,clock,h1,h2,h3⟩:=h b hb
    exact ⟨es,clock,hs _ _ h1 rfl,h2,fun i x hx=>let ⟨en,dk,dv,e1,e2,e3,e4,e5⟩:=h3 i x hx;⟨en,dk,dv,e1,e2.leD hs,e3,e4.leD hs,e5⟩⟩
  | .pt _,none,_,h=>h
  | .pt _,some _,_,h=>by obtain ⟨b,off,d,rfl,h1,h2⟩:=h;exact ⟨b,off,d,rfl,h1.leD hs,h2.leD hs⟩
  | .unit,_,_,h=>h
  | .fnc,_,_,h=>h
theorem ARep.leD (hs:σ.leD τ) {a:AS} {v:Value} (h:ARep σ β a v):ARep τ β a v:=by
  cases a with
  | int=>exact h
  | bool=>exact h
  | val=>exact h
  | sl=>exact ERep.leD hs h
  | mp=>exact ERep.leD hs h
  | pt=>exact ERep.leD hs h
  | ip=>obtain ⟨b,o,d,e,h1,h2⟩:=h;exact ⟨b,o,d,e,h1.leD hs,h2.leD hs⟩
  | ipi=>obtain ⟨b,o,d,e,h1,h2,h3⟩:=h;exact ⟨b,o,d,e,h1.leD hs,h2.leD hs,h3⟩
  | own=>exact h
  | ptr=>exact h
  | pti=>exact h
  | omp=>exact h
  | arr=>exact h
  | clo f ps=>obtain ⟨vs,e,r⟩:=h;exact ⟨vs,e,r.mono fun _ _=>ERep.leD hs⟩
  | nq=>exact h
  | junk=>exact h
theorem VRep.leD (hs:σ.leD τ) {a:AV} {v:Value} (h:VRep σ β a v):VRep τ β a v:=h.map fun _ _=>ARep.leD hs
theorem FrontsV.leD {w':World} {base sz:Nat} {vs:List Value} (hx:σ.leD τ) (hw: ∀ b o,σ b=some o→dataO o=true→w'.heap[b]? =w.heap[b]?) (h:FrontsV σ w base sz vs):FrontsV τ w' base sz vs :=
  ⟨fun v hv=>by
    rcases h.1 v hv with e | ⟨b,o,n,cap,c,c',T,h1,h2,h3,h4⟩
    · exact .inl e
    · exact .inr ⟨b,o,n,cap,c,c',T,h1,hx _ _ h2 rfl,by rw [hw _ _ h2 rfl];exact h3,h4⟩,h.2⟩
theorem ObAt.leD {w':World} {id:Nat} {ob:Ob} (hs:σ.leD τ) (hk: ∀ p,β[id]? =some (some p)→w'.heap[p.b]? =w.heap[p.b]?) (hkn: ∀ b o,σ b=some o→dataO o=true→w'.heap[b]? =w.heap[b]?)
    (h:ObAt σ β w id ob):ObAt τ β w' id ob:=by
  cases ob with
  | row e T xs =>
    obtain ⟨h0,h⟩:=h
    refine ⟨h0,?_⟩
    cases hβ:β[id]? with
    | none=>simp [hβ] at h
    | some x =>
      cases x with
      | none=>simpa [hβ] using h
      | some p =>
        simp only [hβ] at h ⊢
        obtain ⟨h1,h2,h3,c,h4,h5,h6⟩:=h
        exact ⟨h1,h2,h3,c,by rw [hk p hβ];exact h4,h5,fun i x hx=>let ⟨d,e1,e2⟩:=h6 i x hx;⟨d,e1.leD hs,e2⟩⟩
  | flat T cs =>
    obtain ⟨p,h1,h2,h3,h4,h5,c,h6,h7⟩:=h
    exact ⟨p,h1,h2,h3,h4,h5,c,by rw [hk p h1];exact h6,h7.mono fun _ _=>ARep.leD hs⟩
  | map k v m =>
    obtain ⟨h0,p,es,clock,h1,h2,h3,h4⟩:=h
    exact ⟨h0,p,es,clock,h1,by rw [hk p h1];exact h2,h3,fun i x hx=>let ⟨en,dk,dv,e1,e2,e3,e4,e5⟩:=h4 i x hx;⟨en,dk,dv,e1,e2.leD hs,e3,e4.leD hs,e5⟩⟩
  | gmap k e m =>
    obtain ⟨h0,p,es,clock,h1,h2,h3,h4,h5,h6⟩:=h
    exact ⟨h0,p,es,clock,h1,by rw [hk p h1];exact h2,h3,fun i x hx=>let ⟨en,dk,dv,e1,e2,e3,e4,e5⟩:=h4 i x hx;⟨en,dk,dv,e1,e2.leD hs,e3,e4.leD hs,e5⟩,h5.leD hs hkn,h6⟩
  | grow e T xss =>
    obtain ⟨h0,p,h1,h2,h3,h4,c,h5,h6,h7,h8⟩:=h
    exact ⟨h0,p,h1,h2,h3,h4,c,by rw [hk p h1];exact h5,h6,fun i x hx=>let ⟨v,e1,e2⟩:=h7 i x hx;⟨v,e1.leD hs,e2⟩,h8.leD hs hkn⟩
  | fr X l=>exact ⟨h.1,fun t=>(h.2 t).leD hs⟩
def Base.lock (B:Base) (l:Nat) (o:Obj):Base:= {B with sg:=B.sg.add l o}
theorem GG.lock (h:GG B σ β st tmps w) {l:Nat} {o:Obj} (hB:B.w.heap.size≤l) (hl:w.heap[l]? =some o) (hn:σ l=none)
    (hp: ∀ id ob p,hget st.hp id=some ob→β[id]? =some (some p)→p.b≠l):GG (B.lock l o) (σ.add l o) β st tmps w:=by
  have hx: ∀ b u,σ b=some u→(σ.add l o) b=some u:=fun b u e=>by
    unfold Sig.add
    split
    · rename_i hb;subst hb;rw [hn] at e;cases e
    · exact e
  have hle:σ.le (σ.add l o):=fun b u e=>⟨u,hx b u e,.refl⟩
  refine ⟨⟨fun b u e=> ?_,fun id ob hi=>(h.mem.ob _ _ hi).sig hle hx⟩,fun t=>(h.env t).mono hle,h.len,fun id ob p hi hp'=> ?_,h.bel,⟨fun b u e=> ?_,fun b hb=> ?_⟩⟩
  · unfold Sig.add at e
    split at e
    · rename_i hb;subst hb;cases e;exact ⟨_,hl,.refl⟩
    · exact h.mem.ag _ _ e
  · obtain ⟨s1,s2,s3⟩:=h.sep _ _ _ hi hp'
    refine ⟨?_,s2,s3⟩
    unfold Sig.add
    rw [if_neg (hp _ _ _ hi hp')];exact s1
  · have e:(B.sg.add l o) b=some u:=e
    unfold Sig.add at e ⊢
    split at e
    · rename_i hb;rw [if_pos hb];exact ⟨u,e,.refl⟩
    · rename_i hb;rw [if_neg hb];exact h.grew.1 _ _ e
  · have hb:b<B.w.heap.size:=hb
    show (σ.add l o) b=(B.sg.add l o) b
    unfold Sig.add
    rw [if_neg (by omega),if_neg (by omega)];exact h.grew.2 b hb
theorem GG.locked {l:Nat} {o:Obj} (h:GG (B.lock l o) σ β st tmps w) (hd:dataO o=false):σ l=some o∧w.heap[l]? =some o∧∀ id ob p,hget st.hp id=some ob→β[id]? =some (some p)→p.b≠l:=by
  obtain ⟨o',e1,e2⟩:=h.grew.1 l o (by show (B.sg.add l o) l=_;unfold Sig.add;rw [if_pos rfl])
  have:=e2.nodata hd;subst this
  obtain ⟨o2,e3,e4⟩:=h.mem.ag _ _ e1
  have:=e4.nodata hd;subst this
  refine ⟨e1,e3,fun id ob p hi hp e=> ?_⟩
  have:=(h.sep _ _ _ hi hp).1
  rw [e,e1] at this;cases this
theorem GG.unlock {l:Nat} {o:Obj} (h:GG (B.lock l o) σ β st tmps w) (hd:dataO o=false) (hB:B.w.heap.size≤l) (hn:B.sg l=none) (o':Obj) :
    GG B (σ.del l) β st tmps (w.putObj l o')∧(σ.del l) l=none∧(w.putObj l o').heap[l]? =some o'∧∀ id ob p,hget st.hp id=some ob→β[id]? =some (some p)→p.b≠l:=by
  obtain ⟨h1,h2,h3⟩:=h.locked hd
  have hs:σ.leD (σ.del l):=Sig.del_leD fun o2 e=>by rw [h1] at e;cases e;exact hd
  have hlt:=(Array.getElem?_eq_some_iff.1 h2).1
  have hoth: ∀ b,b≠l→(w.putObj l o').heap[b]? =w.heap[b]? :=fun b hb=>World.putObj_heap_other (fun e=>hb e)
  have hdl:(σ.del l) l=none:=by unfold Sig.del;rw [if_pos rfl]
  refine ⟨⟨⟨fun b u e=> ?_,fun id ob hi=>(h.mem.ob _ _ hi).leD hs (fun p hp=>hoth _ (h3 _ _ _ hi hp)) fun b u e hdu=>hoth _ fun hb=> ?_⟩,fun t=>(h.env t).leD hs,h.len,fun id ob p hi hp'=> ?_,?_,⟨fun b u e=> ?_,fun b hb=> ?_⟩⟩,hdl,World.putObj_heap_same hlt,h3⟩
  · unfold Sig.del at e
    split at e
    · cases e
    · rename_i hb;rw [hoth b hb];exact h.mem.ag _ _ e
  · subst hb;rw [h1] at e;cases e;rw [hd] at hdu;cases hdu
  · obtain ⟨s1,s2,s3⟩:=h.sep _ _ _ hi hp'
    refine ⟨?_,s2,s3⟩
    unfold Sig.del
    rw [if_neg (h3 _ _ _ hi hp')];exact s1
  · exact ⟨h.bel.toBelow.grown (grownBy_putObj' w l o') (Nat.le_of_lt (Nat.lt_of_le_of_lt hB hlt)) (fun k e=>by cases e;exact hB),h.bel.drawn⟩
  · have hb:b≠l:=fun hb=>by subst hb;rw [hn] at e;cases e
    unfold Sig.del
    rw [if_neg hb]
    refine h.grew.1 b u ?_
    show (B.sg.add l o) b=_
    unfold Sig.add
    rw [if_neg hb];exact e
  · have hne:b≠l:=by omega
    unfold Sig.del
    rw [if_neg hne]
    have:=h.grew.2 b hb
    rw [this]
    show (B.sg.add l o) b=_
    unfold Sig.add
    rw [if_neg hne]
end
end Go.Vm
/- A range over a function: the sequence is a closure that is known to yield a list. -/
namespace Go.Vm
open Go.RowKit
def SeqVm (P:Program) (g:FuncId) (lb:Array Value) (L:List Int) (σ:Sig):Prop :=
  ∀ (l:Nat) (J:List Int→Sig→World→Prop) (W:World),Ag σ W→(∀ pre σp A A',J pre σp A→Below A.heap.size A A'→J pre σp A')→
    (∀ pre x σp σ1 Ws W1,J pre σp Ws→Below Ws.heap.size Ws W1→(∀ b,b<Ws.heap.size→σ1 b=σp b)→Ag σ1 W1→(pre++[x]) <+: L→
      YieldAt Fence.wide 0 P l #[.int .i64 x] W1 fun e W'=>e= .returned (.bool true)∧J (pre++[x]) σ1 W'∧Ag σ1 W')→
    J [] σ W→CallsIn Fence.wide 0 P g (#[.func (.yield l) #[] #[]]++lb) W fun e W'=>(∃ v,e= .returned v)∧∃ σ',J L σ' W'
structure SeqOk (P:Program) (g:FuncId) (ps:List PtV) (L:List Int):Prop where
  enter: ∀ args w,(callFunc g args).run P w= .ok (.enter g args) w
  ok: ∀ x∈L,InK .i64 x
  seq: ∀ (σ:Sig) (vs:List Value),All2 (fun (q:PtV) u=>ERep σ (.pt q.e) (some q.x) [u]) ps vs→SeqVm P g vs.toArray L σ
def backTo (id:Nat) (X:Array Value) (s:St) (K:St→Prop):Prop :=
  match hget s.hp id with
  | some (.fr X' l)=>X'=X∧(⟨l,s.hp,s.next⟩:St).forceAll K
  | _=>False
def rngSt (st:St) (X:Array Value):St:=⟨packE [] st.env,(st.next,.fr X (packE [] st.env))::st.hp,st.next+1⟩
def arange (T:Tab) (p:Tmp) (assign body:Code) (st:St) (L:List Int) (S:Array Value→Nat→St):Prop :=
  ∀ X :Array Value,leSt (rngSt st X) (S X 0)∧∀ k,k<L.length→((S X k).put (some p) (.s (.int .i64 (L.getD k 0)))).forceAll fun h=>acode T assign h fun e s=>match e with
    | .normal=>acode T body s fun e s=>match e with
      | .normal=>backTo st.next X s fun s=>leSt s (S X (k+1))
      | _=>False
    | _=>False
section
variable {P:Program} {T:Tab} {B:Base} {w w':World} {σ τ:Sig} {β:Places} {st:St} {tmps:Array Value} {N:Nat} {a:Act}
theorem GG.rebase (h:GG B σ β st tmps w) {B':Base} (hw:B'.w=B.w) (hg:B'.sg=B.sg):GG B' σ β st tmps w:=by
  obtain ⟨bw,bs,bd⟩:=B
  obtain ⟨bw',bs',bd'⟩:=B'
  cases hw;cases hg
  exact ⟨h.mem,h.env,h.len,h.sep,h.bel,h.grew⟩
theorem GG.base (h:GG B σ β st tmps w) (ds:List Deferred):GG {w:=B.w,sg:=σ,dfs:=ds} σ β st tmps w :=
  ⟨h.mem,h.env,h.len,h.sep,h.bel,⟨Sig.le.refl _,fun _ _=>rfl⟩⟩
theorem GG.grown (h:GG B σ β st tmps w) (hb:Below w.heap.size w w'):GG B σ β st tmps w':=by
  have hs:B.w.heap.size≤w.heap.size:=h.bel.size
  refine ⟨⟨fun b o e=> ?_,fun id ob hi=>(h.mem.ob _ _ hi).same (fun p hp=>hb.block _ ((h.mem.ob _ _ hi).lt hp)) fun b o e=>hb.block _ (h.mem.ag.lt e)⟩,h.env,h.len,h.sep,h.bel.trans (hb.mono hs),h.grew⟩
  rw [hb.block _ (h.mem.ag.lt e)]
  exact h.mem.ag _ _ e
theorem GG.framed (h:GG B σ β st tmps w):GG B σ (β++[none]) (rngSt st tmps) tmps w:=by
  have hlast:(β++[none])[st.next]? =some none:=by rw [← h.len];simp
  have hold: ∀ {id:Nat},id<st.next→(β++[none])[id]? =β[id]? :=fun hi=>by rw [List.getElem?_append_left];rw [h.len];exact hi
  refine ⟨⟨h.mem.ag,fun id ob hi=> ?_⟩,fun t=>(pack_rep h.env t).more none,by simp [h.len,rngSt],fun id ob p hi hp=> ?_,h.bel,h.grew⟩
  · simp only [rngSt,hget_cons] at hi
    split at hi
    · rename_i e;subst e;cases hi
      exact ⟨hlast,fun t=>(pack_rep h.env t).more none⟩
    · exact (h.mem.ob _ _ hi).keep none (fun _ _=>rfl) fun _ _ _=>rfl
  · simp only [rngSt,hget_cons] at hi
    split at hi
    · rename_i e;subst e;rw [hlast] at hp;cases hp
    · have hlt:=h.id_lt hi
      rw [hold hlt] at hp
      obtain ⟨s1,s2,s3⟩:=h.sep _ _ _ hi hp
      refine ⟨s1,s2,fun id2 ob2 p2 hne2 hi2 hp2=> ?_⟩
      simp only [rngSt,hget_cons] at hi2
      split at hi2
      · rename_i e;subst e;rw [hlast] at hp2;cases hp2
      · rw [hold (h.id_lt hi2)] at hp2
        exact s3 _ _ _ hne2 hi2 hp2
theorem GG.turnLock {l:Nat} {o:Obj} (h:GG (B.lock l o) σ β st tmps w) (hd:dataO o=false) (hB:B.w.heap.size≤l) (hn:B.sg l=none) (o':Obj) :
    GG (B.lock l o') ((σ.del l).add l o') β st tmps (w.putObj l o'):=by
  obtain ⟨h1,h2,h3,h4⟩:=h.unlock hd hB hn o'
  exact h1.lock hB h3 h2 h4
theorem GG.back {id:Nat} {X:Array Value} {l:Env} (h:GG B σ β st tmps w) (hi:hget st.hp id=some (.fr X l)):GG B σ β ⟨l,st.hp,st.next⟩ X w :=
  ⟨h.mem,(h.mem.ob _ _ hi).2,h.len,h.sep,h.bel,h.grew⟩
theorem backTo_out {id:Nat} {X:Array Value} {s:St} {K:St→Prop} (h:backTo id X s K): ∃ l,hget s.hp id=some (.fr X l)∧K ⟨l,s.hp,s.next⟩:=by
  unfold backTo at h
  split at h
  · rename_i X' l e
    obtain ⟨rfl,h⟩:=h
    rw [St.forceAll_eq] at h
    exact ⟨l,e,h⟩
  · exact h.elim
theorem GG.knowMore (h:GG B σ β st tmps w) (hx: ∀ b o,σ b=some o→τ b=some o) (hag:Ag τ w) (hp: ∀ id ob p,hget st.hp id=some ob→β[id]? =some (some p)→τ p.b=none) (ds:List Deferred) :
    GG {w:=B.w,sg:=τ,dfs:=ds} τ β st tmps w:=by
  have hle:σ.le τ:=fun b o e=>⟨o,hx b o e,.refl⟩
  exact ⟨⟨hag,fun id ob hi=>(h.mem.ob _ _ hi).sig hle hx⟩,fun t=>(h.env t).mono hle,h.len,fun id ob p hi hq=>⟨hp _ _ _ hi hq,(h.sep _ _ _ hi hq).2⟩,h.bel,⟨Sig.le.refl _,fun _ _=>rfl⟩⟩
theorem Base.relock (B:Base) {D:Nat} {o:Obj} (h:B.sg D=some o):B=({B with sg:=B.sg.del D} :Base).lock D o:=by
  obtain ⟨bw,bs,bd⟩:=B
  show (⟨bw,bs,bd⟩:Base)=⟨bw,(bs.del D).add D o,bd⟩
  congr 1
  funext b
  unfold Sig.add Sig.del
  split
  · rename_i e;subst e;exact h
  · rfl
structure Rnd (B:Base) (D l:Nat) (rdy:Obj) (N:Nat) (st:St) (tmps:Array Value) (σp:Sig) (w:World) (B1:Base):Prop where
  ww:B1.w=B.w
  dfs:B1.dfs=[]
  grew:Grew B B1.sg
  le:σp.le B1.sg
  mark:B1.sg D=some (.deferred (some []))
  free:B1.sg l=none
  ga:GA (B1.lock l rdy) N st {tmps:=tmps,defers:=[]} w
theorem Rnd.grown {B1:Base} {D l:Nat} {rdy:Obj} {σp:Sig} (h:Rnd B D l rdy N st tmps σp w B1) (hb:Below w.heap.size w w'):Rnd B D l rdy N st tmps σp w' B1 :=
  ⟨h.ww,h.dfs,h.grew,h.le,h.mark,h.free,let ⟨σ',β',hg'⟩:=h.ga.gg;⟨h.ga.defers,h.ga.size,σ',β',hg'.grown hb⟩⟩
theorem Rnd.ag {B1:Base} {D l:Nat} {rdy:Obj} {σp:Sig} (h:Rnd B D l rdy N st tmps σp w B1):Ag σp w:=fun b u e=>by
  obtain ⟨σ',β',hg'⟩:=h.ga.gg
  obtain ⟨u1,e1,k1⟩:=h.le b u e
  have hne:b≠l:=fun e'=>by rw [e',h.free] at e1;cases e1
  obtain ⟨u2,e2,k2⟩:=hg'.grew.1 b u1 (by show (B1.sg.add _ _) b=_;unfold Sig.add;rw [if_neg hne];exact e1)
  obtain ⟨u3,e3,k3⟩:=hg'.mem.ag _ _ e2
  exact ⟨u3,e3,(k1.trans k2).trans k3⟩
theorem Rnd.learn {B1:Base} {D l:Nat} {rdy:Obj} {σp σ1:Sig} (h:Rnd B D l rdy N st tmps σp w B1) (hd:dataO rdy=false) (hBl:B.w.heap.size≤l) (hDl:D≠l) (hb:Below w.heap.size w w') (he: ∀ b,b<w.heap.size→σ1 b=σp b) (hag:Ag σ1 w') :
    ∃ B2,Rnd B D l rdy N st tmps σ1 w' B2:=by
  obtain ⟨σr,βr,hgr⟩:=h.ga.gg
  obtain ⟨hl1,hl2,_⟩:=hgr.locked hd
  have hll:l<w.heap.size:=(Array.getElem?_eq_some_iff.1 hl2).1
  have hBw:B.w.heap.size≤w.heap.size:=by have:=hgr.bel.size;rw [show (B1.lock l rdy).w=B.w from h.ww] at this;exact this
  obtain ⟨τ,hτ⟩: ∃ τ:Sig,τ=fun b=>if b<w.heap.size then σr b else σ1 b:=⟨_,rfl⟩
  have ho: ∀ b,b<w.heap.size→τ b=σr b:=fun b hb=>by rw [hτ];show (if _ then _ else _)=_;rw [if_pos hb]
  have hn: ∀ b,¬ b<w.heap.size→τ b=σ1 b:=fun b hb=>by rw [hτ];show (if _ then _ else _)=_;rw [if_neg hb]
  have hx: ∀ b o,σr b=some o→τ b=some o:=fun b o e=>by rw [ho b (hgr.mem.ag.lt e)];exact e
  have hg2:=(hgr.grown hb).knowMore (τ:=τ) hx (fun b o e=>by
    by_cases hlt:b<w.heap.size
    · rw [ho b hlt] at e;exact (hgr.grown hb).mem.ag _ _ e
    · rw [hn b hlt] at e;exact hag _ _ e) (fun id ob p hi hp=>by rw [ho _ ((hgr.mem.ob _ _ hi).lt hp)];exact (hgr.sep _ _ _ hi hp).1) []
  have hτl:τ l=some rdy:=hx _ _ hl1
  rw [Base.relock {w:=(B1.lock l rdy).w,sg:=τ,dfs:=[]} hτl] at hg2
  have hdel: ∀ b,b≠l→(τ.del l) b=τ b:=fun b hb=>by unfold Sig.del;rw [if_neg hb]
  have hB1: ∀ b o,B1.sg b=some o→∃ o',τ b=some o'∧Ole o o':=fun b o e=>by
    have hne:b≠l:=fun e'=>by rw [e',h.free] at e;cases e
    obtain ⟨u2,e2,k2⟩:=hgr.grew.1 b o (by show (B1.sg.add _ _) b=_;unfold Sig.add;rw [if_neg hne];exact e)
    exact ⟨u2,hx _ _ e2,k2⟩
  have hne1: ∀ b o,B1.sg b=some o→b≠l:=fun b o e e'=>by rw [e',h.free] at e;cases e
  refine ⟨{w:=(B1.lock l rdy).w,sg:=τ.del l,dfs:=[]},h.ww,rfl,⟨fun b o e=> ?_,fun b hb'=> ?_⟩,fun b o e=> ?_,?_,by show (τ.del l) l=none;unfold Sig.del;rw [if_pos rfl],⟨rfl,h.ga.size,τ,βr,hg2⟩⟩
  · obtain ⟨o1,e1,k1⟩:=h.grew.1 b o e
    obtain ⟨o2,e2,k2⟩:=hB1 b o1 e1
    exact ⟨o2,by show (τ.del l) b=_;rw [hdel b (hne1 b o1 e1)];exact e2,k1.trans k2⟩
  · show (τ.del l) b=_
    have hlt:b<l:=by omega
    rw [hdel b (by omega),ho b (by omega)]
    refine ((hgr.grew.2 b (by rw [show (B1.lock l rdy).w=B.w from h.ww];exact hb')).trans ?_).trans (h.grew.2 b hb')
    show (B1.sg.add _ _) b=_
    unfold Sig.add;rw [if_neg (by omega)]
  · by_cases hlt:b<w.heap.size
    · rw [he b hlt] at e
      obtain ⟨o1,e1,k1⟩:=h.le b o e
      obtain ⟨o2,e2,k2⟩:=hB1 b o1 e1
      exact ⟨o2,by show (τ.del l) b=_;rw [hdel b (hne1 b o1 e1)];exact e2,k1.trans k2⟩
    · exact ⟨o,by show (τ.del l) b=_;rw [hdel b (by omega),hn b hlt];exact e,.refl⟩
  · obtain ⟨o2,e2,k2⟩:=hB1 _ _ h.mark
    have:=k2.nodata rfl;subst this
    show (τ.del l) D=_
    rw [hdel D hDl];exact e2
theorem range_wp (R:Rules P T) {g:Operand} {p:Tmp} {assign body:Code} {Q:Exit→Act→World→Prop} (ha:codeOk N assign=true) (hb:codeOk N body=true) (hp:p<N) (hgo:opndOk g=true)
    (h:GA B N st a w) {f:FuncId} {ps:List PtV} {L:List Int} (hg:opnd st.env g= .s (.clo f ps)) (hs:SeqOk P f ps L) {S:Array Value→Nat→St} (hr:arange T p assign body st L S)
    (hQ: ∀ (B1:Base) (D:Nat) (a':Act) (w':World),B1.w=B.w→Grew B B1.sg→B1.dfs= {target:= .collected D,args:= #[]} ::B.dfs→B1.sg D=some (.deferred (some []))→B.w.heap.size≤D→B.sg D=none→
      GA B1 N (S a.tmps L.length) a' w'→Q .normal a' w') :
    (Code.rangeFunc g #[p] assign body).wpIn (FR none) 0 P Q a w:=by
  obtain ⟨hle0,hround⟩:=hr a.tmps
  obtain ⟨σs,βs,hgg⟩:=h.gg
  have hval:=opnd_rep hgg hgo
  rw [hg] at hval
  obtain ⟨vs,hev,hcap⟩:=hval
  have hseq:=hs.seq σs vs hcap
  refine wpIn_rangeFunc ?_
  intro fn hfn
  obtain ⟨rec,hrec⟩: ∃ rec:LoopState→Option Code→Loop,rec=fun st pe=> {state:=st,pending:=pe,fn,tmps:=a.tmps,params:= #[p],assign,body,defers:=w.heap.size} :=⟨_,rfl⟩
  obtain ⟨W1,hW1⟩: ∃ W1,(w.alloc (.deferred (some []))).alloc (.loop (rec .ready none))=W1:=⟨_,rfl⟩
  have hL1:W1.heap[w.heap.size+1]? =some (.loop (rec .ready none)):=by
    rw [← hW1];have:=World.alloc_heap_new (w.alloc (.deferred (some []))) (.loop (rec .ready none));rwa [World.size_alloc] at this
  have hK1:W1.heap[w.heap.size]? =some (.deferred (some [])):=by
    rw [← hW1];exact (Go.RowKit.Below.heap_alloc _ _ _ (by simp)).trans (World.alloc_heap_new w _)
  have hbw:Below w.heap.size w W1:=by
    rw [← hW1]
    exact ((Below.refl _ w).alloc (Nat.le_refl _) _).alloc (by simp) _
  have hBw:B.w.heap.size≤w.heap.size:=hgg.bel.size
  -- the rounds' base: what is known at the start, and the block for the deferred calls
  have hσD:σs w.heap.size=none:=by
    cases e:σs w.heap.size with
    | none=>rfl
    | some o=>exact absurd (hgg.mem.ag.lt e) (Nat.lt_irrefl _)
  have hσl:σs (w.heap.size+1)=none:=by
    cases e:σs (w.heap.size+1) with
    | none=>rfl
    | some o=>exact absurd (hgg.mem.ag.lt e) (by omega)
  obtain ⟨B1,hB1⟩: ∃ B1:Base,B1=({w:=B.w,sg:=σs,dfs:=[]} :Base).lock w.heap.size (.deferred (some [])):=⟨_,rfl⟩
  have hB1w:B1.w=B.w:=by rw [hB1];rfl
  have hB1l:B1.sg (w.heap.size+1)=none:=by
    rw [hB1];show (Sig.add σs _ _) _=_
    unfold Sig.add;rw [if_neg (by omega)];exact hσl
  have hB1D:B1.sg w.heap.size=some (.deferred (some [])):=by
    rw [hB1];show (Sig.add σs _ _) _=_
    unfold Sig.add;rw [if_pos rfl]
  have hB1le:σs.le B1.sg:=fun b o e=>⟨o,by
    rw [hB1];show (Sig.add σs _ _) _=_
    unfold Sig.add;rw [if_neg (fun e'=>by rw [e',hσD] at e;cases e)];exact e,.refl⟩
  have hBl:B1.w.heap.size≤w.heap.size+1:=by rw [hB1w];omega
  have hB1g:Grew B B1.sg:=⟨hgg.grew.1.trans hB1le,fun b hb'=>by
    rw [hB1]
    show (Sig.add σs _ _) b=_
    unfold Sig.add
    rw [if_neg (by omega)];exact hgg.grew.2 b hb'⟩
  have hstart:GA (B1.lock (w.heap.size+1) (.loop (rec .ready none))) N (S a.tmps 0) {tmps:=a.tmps,defers:=[]} W1:=by
    have g1:=((hgg.framed).base []).grown hbw
    have hpl: ∀ id ob q,hget (rngSt st a.tmps).hp id=some ob→(βs++[none])[id]? =some (some q)→q.b<w.heap.size:=fun id ob q hi hq=>(hgg.framed.mem.ob _ _ hi).lt hq
    have g2:=g1.lock (l:=w.heap.size) (o:= .deferred (some [])) hBw hK1 hσD (fun id ob q hi hq e=>by have:=hpl _ _ _ hi hq;omega)
    have g3:=g2.lock (l:=w.heap.size+1) (o:= .loop (rec .ready none)) (Nat.le_succ_of_le hBw) hL1 (by unfold Sig.add;rw [if_neg (by omega)];exact hσl) (fun id ob q hi hq e=>by have:=hpl _ _ _ hi hq;omega)
    rw [← hB1] at g3
    have:GA (B1.lock (w.heap.size+1) (.loop (rec .ready none))) N (rngSt st a.tmps) {tmps:=a.tmps,defers:=[]} W1:=⟨by rw [hB1];rfl,h.size,_,_,g3⟩
    exact this.weaken hle0
  refine ⟨w.heap.size+1,[{target:= .collected w.heap.size,args:= #[]}],W1,{target:= .fn (.func f) vs.toArray,args:= #[.func (.yield (w.heap.size+1)) #[] #[]]},W1,f,
    #[.func (.yield (w.heap.size+1)) #[] #[]]++vs.toArray,W1,?_,?_,?_,?_,fun hh=>(by cases hh),?_⟩
  · rw [← hW1,hrec];exact run_enterLoop_outer _ _ _ _ _
  · simp only [resolve,hev]
    simp [go_sem]
  · intro f' hf';trivial
  · simp [invoke,go_sem,hs.enter]
  · have hrnd:Rnd B w.heap.size (w.heap.size+1) (.loop (rec .ready none)) N (S a.tmps 0) a.tmps σs W1 B1:=⟨hB1w,by rw [hB1];rfl,hB1g,hB1le,hB1D,hB1l,hstart⟩
    refine (hseq (w.heap.size+1) (fun pre σp W=> ∃ B1,Rnd B w.heap.size (w.heap.size+1) (.loop (rec .ready none)) N (S a.tmps pre.length) a.tmps σp W B1) W1 hrnd.ag
      (fun pre σp A A' ⟨B2,hj⟩ hb'=>⟨B2,hj.grown hb'⟩) ?_ ⟨B1,hrnd⟩).mono ?_
    · -- one round
      rintro pre x σp σ1 Ws W ⟨B0,hj0⟩ hbW heq hag1 hpre
      obtain ⟨B2,hr2⟩:=hj0.learn rfl (Nat.le_succ_of_le hBw) (by omega) hbW heq hag1
      have hj:=hr2.ga
      have hBl:B2.w.heap.size≤w.heap.size+1:=by rw [hr2.ww];omega
      have hB1l:=hr2.free
      obtain ⟨σ1',β1,hg1⟩:=hj.gg
      obtain ⟨hl1,hl2,hl3⟩:=hg1.locked rfl
      have hlen:pre.length<L.length:=by
        have:=hpre.length_le;simp at this;omega
      have hxk:L.getD pre.length 0=x:=by
        obtain ⟨t,rfl⟩:=hpre
        simp [gdE]
      have hxL:x∈L:=hpre.subset (by simp)
      have hy:=run_yield (P:=P) (args:= #[.int .i64 x]) hl2 (by rw [hrec];rfl)
      rw [hrec] at hy
      refine ⟨fn,_,assign,body,hy,roundIn_of_wpIn hfn ?_⟩
      have hrd:=hround _ hlen
      rw [St.forceAll_eq,hxk] at hrd
      have hga1:GA (B2.lock (w.heap.size+1) (.loop (rec .ready none))) N ((S a.tmps pre.length).put (some p) (.s (.int .i64 x))) {tmps:=a.tmps.setIfInBounds p (.int .i64 x),defers:=[]} W :=
        ⟨hj.defers,by simpa using h.size,σ1',β1,hg1.put (d:=some p) (v:= .int .i64 x) (fun t e=>by cases e;rw [h.size];exact hp) ⟨rfl,hs.ok x hxL⟩⟩
      have hfold:Array.foldl (fun (tmps:Array Value) (x:Tmp×Value)=>match x with | (t,a)=>tmps.setIfInBounds t a) a.tmps ((#[p]:Array Tmp).zip #[Value.int .i64 x])=a.tmps.setIfInBounds p (.int .i64 x):=by
        simp [Array.zip,Array.zipWith,Array.zipWithMAux]
      refine acode_wp (B:=B2.lock (w.heap.size+1) (.loop (rec .ready none))) (r:=some (w.heap.size+1)) R assign ha (by dsimp only;rw [hfold];exact hga1) hrd fun e s1 a1 W2 hk2 hga2=> ?_
      cases e with
      | normal =>
        obtain ⟨σ2,β2,hg2⟩:=hga2.gg
        obtain ⟨_,hl2',_⟩:=hg2.locked rfl
        have hbr:=run_beginRound (P:=P) hl2' (by rw [hrec])
        refine ⟨_,hbr,?_⟩
        have hg3:=hg2.turnLock rfl hBl hB1l (.loop {rec .ready none with state:= .busy})
        have hga3:GA (B2.lock (w.heap.size+1) (.loop {rec .ready none with state:= .busy})) N s1 a1 (W2.putObj (w.heap.size+1) (.loop {rec .ready none with state:= .busy})):=⟨hga2.defers,hga2.size,_,_,hg3⟩
        refine acode_wp (r:=some (w.heap.size+1)) R body hb hga3 hk2 fun e s4 a4 W4 hk4 hga4=> ?_
        cases e with
        | normal =>
          obtain ⟨l',hfr,hle⟩:=backTo_out hk4
          obtain ⟨σ4,β4,hg4⟩:=hga4.gg
          obtain ⟨_,hl4,_⟩:=hg4.locked rfl
          have hg5:=(hg4.back hfr).turnLock rfl hBl hB1l (.loop (rec .ready none))
          have hga5:GA (B2.lock (w.heap.size+1) (.loop (rec .ready none))) N ⟨l',s4.hp,s4.next⟩ {tmps:=a.tmps,defers:=[]} (W4.putObj (w.heap.size+1) (.loop (rec .ready none))):=⟨hj.defers,h.size,_,_,hg5⟩
          have her:=run_endRound (P:=P) none hl4
          have hga6:=hga5.weaken hle
          have hr6:Rnd B w.heap.size (w.heap.size+1) (.loop (rec .ready none)) N (S a.tmps (pre.length+1)) a.tmps σ1 (W4.putObj (w.heap.size+1) (.loop (rec .ready none))) B2:=⟨hr2.ww,hr2.dfs,hr2.grew,hr2.le,hr2.mark,hr2.free,hga6⟩
          refine ⟨_,_,by rw [hrec] at her ⊢;exact her,rfl,?_,hr6.ag⟩
          rw [List.length_append]
          exact ⟨B2,hr6⟩
        | _=>exact hk4.elim
      | _=>exact hk2.elim
    · -- behind the sequence
      rintro e W2 ⟨⟨v,rfl⟩,σ',B2,hj⟩
      obtain ⟨σ2,β2,hg2⟩:=hj.ga.gg
      obtain ⟨_,hl2,_⟩:=hg2.locked rfl
      refine ⟨none,_,by have:=run_endLoop (P:=P) hl2 (by rw [hrec];simp);rw [hrec] at this;exact this,?_⟩
      obtain ⟨hg3,_,_,_⟩:=hg2.unlock rfl (by rw [hj.ww];omega) hj.free (.loop {rec .ready none with state:= .exhausted})
      refine hQ {B2 with dfs:= {target:= .collected w.heap.size,args:= #[]} ::B.dfs} w.heap.size _ _ hj.ww hj.grew rfl hj.mark hBw ?_ ?_
      · cases e:B.sg w.heap.size with
        | none=>rfl
        | some o=>obtain ⟨o1,e1,_⟩:=hgg.grew.1 _ _ e;rw [hσD] at e1;cases e1
      · have hfin:=hg3.rebase (B':= {B2 with dfs:= {target:= .collected w.heap.size,args:= #[]} ::B.dfs}) rfl rfl
        rw [hrec] at hfin
        exact ⟨by show _::a.defers=_;rw [h.defers],h.size,_,_,hfin⟩
end
end Go.Vm
/- Code with ranges over functions at its top; what a caller may lean on. -/
namespace Go.Vm
open Go.RowKit
abbrev SeqTab:=FuncId→List PtV→List Int→Prop
def SeqTabOk (P:Program) (SQ:SeqTab):Prop:= ∀ f ps L,SQ f ps L→SeqOk P f ps L
def St.rowNils (T:Tab) (st:St):List Nat→St
  | []=>st
  | i::r=>(st.rowNil T i).rowNils T r
def withNils (T:Tab) (K:St→Prop):List Nat→St→Prop
  | [],st=>st.forceAll K
  | i::r,st=>(st.rowNil T i).forceAll fun st=>withNils T K r st
theorem withNils_eq {T:Tab} {K:St→Prop} : ∀ (ids:List Nat) (st:St),withNils T K ids st=K (st.rowNils T ids)
  | [],st=>by rw [withNils,St.forceAll_eq];rfl
  | i::r,st=>by rw [withNils,St.forceAll_eq,withNils_eq r];rfl
def heapIds:Heap→List Nat
  | []=>[]
  | (i,_)::r=>i::heapIds r
def hasRng:Code→Bool
  | .seq a b=>hasRng a|| hasRng b
  | .block _ c=>hasRng c
  | .cond _ a b=>hasRng a|| hasRng b
  | .loop c=>hasRng c
  | .rangeFunc _ _ _ _=>true
  | _=>false
def acodeR (T:Tab) (SQ:SeqTab):Code→St→(Exit→St→Prop)→Prop
  | .seq a b,st,K=>acodeR T SQ a st (fun e s=>match e with
    | .normal=>acodeR T SQ b s K
    | e=>K e s)
  | .block id c,st,K=>acodeR T SQ c st (fun e s=>match e with
    | .exit i=>match Nat.beq i id with | true=>K .normal s | false=>K (.exit i) s
    | e=>K e s)
  | .rangeFunc g ps assign body,st,K=>match opnd st.env g,ps.toList with
    | .s (.clo f qs),[p]=> ∃ L,SQ f qs L∧∃ SP:Spec Nat,withNils T (fun st=>arange T p assign body st L (fun X k=>SP.head (rngSt st X) k)∧∀ X,(SP.head (rngSt st X) L.length).forceAll (K .normal)) (heapIds st.hp) st
    | _,_=>False
  | .skip,st,K=>acode T .skip st K
  | .label l,st,K=>acode T (.label l) st K
  | .region i o d,st,K=>acode T (.region i o d) st K
  | .cond c a b,st,K=>match hasRng a|| hasRng b with
    | false=>acode T (.cond c a b) st K
    | true=>match opnd st.env c with
      | .s (.bool t)=>BIf t (acodeR T SQ a st K) (acodeR T SQ b st K)
      | _=>False
  | .loop c,st,K=>match hasRng c with
    | false=>withNils T (fun st=>acode T (.loop c) st K) (heapIds st.hp) st
    | true=> ∃ (X:Type) (S:Spec X),(∃ x,S.inv x∧leSt st (S.head st x))∧
      ∀ x,S.inv x→(S.head st x).forceAll fun h=>acodeR T SQ c h (fun e s=>match e with
        | .normal=> ∃ y,S.inv y∧leSt s (S.head st y)∧S.mu y<S.mu x
        | e=>K e s)
  | .exit i,st,K=>acode T (.exit i) st K
  | .goto l,st,K=>acode T (.goto l) st K
  | .ret,st,K=>acode T .ret st K
  | .scope c,st,K=>acode T (.scope c) st K
  | _,_,_=>False
def codeOkR (N:Nat):Code→Bool
  | .seq a b=>codeOkR N a&&codeOkR N b
  | .block _ c=>codeOkR N c
  | .rangeFunc g ps assign body=>opndOk g&&(ps.toList.all (fun p=>Nat.blt p N)&&(codeOk N assign&&codeOk N body))
  | .cond c a b=>match hasRng a|| hasRng b with
    | false=>codeOk N (.cond c a b)
    | true=>opndOk c&&codeOkR N a&&codeOkR N b
  | .loop c=>match hasRng c with
    | false=>codeOk N (.loop c)
    | true=>codeOkR N c
  | c=>codeOk N c
def mark (D:Nat):Deferred:= {target:= .collected D,args:= #[]}
structure Marks (B0 B:Base):Prop where
  w:B.w=B0.w
  grew:Grew B0 B.sg
  ds: ∃ Ds:List Nat,B.dfs=Ds.map mark∧Ds.Nodup∧∀ D∈Ds,B.sg D=some (.deferred (some []))∧B0.w.heap.size≤D
section
variable {P:Program} {T:Tab} {SQ:SeqTab} {B B0:Base} {w w':World} {σ τ:Sig} {β:Places} {st:St} {tmps:Array Value} {N:Nat} {a:Act}
theorem Marks.more {B1:Base} (h:Marks B0 B) {D:Nat} (h1:B1.w=B.w) (h2:Grew B B1.sg) (h3:B1.dfs=mark D::B.dfs) (h4:B1.sg D=some (.deferred (some []))) (h5:B.w.heap.size≤D) (h6:B.sg D=none):Marks B0 B1:=by
  obtain ⟨Ds,e1,e2,e3⟩:=h.ds
  refine ⟨h1.trans h.w,⟨h.grew.1.trans h2.1,fun b hb=>(h2.2 b (by rw [h.w];exact hb)).trans (h.grew.2 b hb)⟩,D::Ds,by rw [h3,e1];rfl,List.nodup_cons.2 ⟨fun hm=> ?_,e2⟩,fun D' hD=> ?_⟩
  · rw [(e3 D hm).1] at h6;cases h6
  · rcases List.mem_cons.1 hD with e | hD
    · subst e;exact ⟨h4,by rw [← h.w];exact h5⟩
    · obtain ⟨k1,k2⟩:=e3 D' hD
      obtain ⟨o',e4,e5⟩:=h2.1 _ _ k1
      have:=e5.nodata rfl;subst this
      exact ⟨e4,k2⟩
theorem rowNils_env: ∀ (ids:List Nat) {st:St},(st.rowNils T ids).env=st.env
  | [],_=>rfl
  | i::r,st=>(rowNils_env r (st:=st.rowNil T i)).trans (rowNil_env i)
theorem GG.rowNils: ∀ (ids:List Nat) {β:Places} {st:St},GG B σ β st tmps w→∃ β',GG B σ β' (st.rowNils T ids) tmps w
  | [],β,_,h=>⟨β,h⟩
  | i::r,_,_,h=>by
    obtain ⟨β',h'⟩:=h.rowNil (T:=T) i
    exact GG.rowNils r h'
theorem acodeR_wp (R:Rules P T) (hSQ:SeqTabOk P SQ): ∀ (c:Code) {B:Base} {st:St} {a:Act} {w:World} {K:Exit→St→Prop} {Q:Exit→Act→World→Prop},codeOkR N c=true→Marks B0 B→GA B N st a w→acodeR T SQ c st K→
    (∀ e B1 st' a' w',Marks B0 B1→K e st'→GA B1 N st' a' w'→Q e a' w')→c.wpIn (FR none) 0 P Q a w:=by
  intro c
  induction c with
  | seq x y ihx ihy =>
    intro B st a w K Q hok hm h hk hQ
    simp only [codeOkR,Bool.and_eq_true] at hok
    refine wpIn_seq (ihx hok.1 hm h hk fun e B1 st' a' w' hm' hk' h'=> ?_)
    cases e with
    | normal=>exact ihy hok.2 hm' h' hk' hQ
    | _=>exact hQ _ _ _ _ _ hm' hk' h'
  | block id c ih =>
    intro B st a w K Q hok hm h hk hQ
    simp only [codeOkR] at hok
    refine wpIn_block (ih hok hm h hk fun e B1 st' a' w' hm' hk' h'=> ?_)
    cases e with
    | exit i =>
      simp only [Exit.inBlock]
      dsimp only at hk'
      split at hk'
      · rename_i e;rw [if_pos (Nat.eq_of_beq_eq_true e)];exact hQ _ _ _ _ _ hm' hk' h'
      · rename_i e
        rw [if_neg (fun e'=>by subst e';rw [Nat.beq_refl] at e;cases e)];exact hQ _ _ _ _ _ hm' hk' h'
    | _=>exact hQ _ _ _ _ _ hm' hk' h'
  | rangeFunc g ps assign body =>
    intro B st a w K Q hok hm h hk hQ
    simp only [codeOkR,Bool.and_eq_true] at hok
    obtain ⟨ho1,ho2,ho3,ho4⟩:=hok
    simp only [acodeR] at hk
    split at hk
    case h_2=>exact hk.elim
    rename_i f qs p hg hps
    obtain ⟨L,hL,SP,hk⟩:=hk
    rw [withNils_eq] at hk
    obtain ⟨hr,hK⟩:=hk
    obtain ⟨σr,βr,hgr⟩:=h.gg
    obtain ⟨βn,hgn⟩:=hgr.rowNils (T:=T) (heapIds st.hp)
    replace h:GA B N (st.rowNils T (heapIds st.hp)) a w:=⟨h.defers,h.size,σr,βn,hgn⟩
    rw [← rowNils_env (T:=T) (st:=st) (heapIds st.hp)] at hg
    have hpe:ps= #[p]:=by rw [← Array.toArray_toList (xs:=ps),hps]
    subst hpe
    have hp:p<N:=by
      have:=List.all_eq_true.1 ho2 p (by simp)
      exact Nat.lt_of_succ_le (by simpa [Nat.blt] using this)
    refine range_wp R ho3 ho4 hp ho1 h hg (hSQ f qs L hL) (S:=fun X k=>SP.head (rngSt (st.rowNils T (heapIds st.hp)) X) k) hr fun B1 D a' w' h1 h2 h3 h4 h5 h6 h7=> ?_
    have:=hK a.tmps
    rw [St.forceAll_eq] at this
    exact hQ _ _ _ _ _ (hm.more h1 h2 h3 h4 h5 h6) this h7
  | skip=>intro B st a w K Q hok hm h hk hQ;exact acode_wp R _ hok h hk fun e st' a' w' hk' h'=>hQ _ _ _ _ _ hm hk' h'
  | label l=>intro B st a w K Q hok hm h hk hQ;exact acode_wp R _ hok h hk fun e st' a' w' hk' h'=>hQ _ _ _ _ _ hm hk' h'
  | region i o d=>intro B st a w K Q hok hm h hk hQ;exact acode_wp R _ hok h hk fun e st' a' w' hk' h'=>hQ _ _ _ _ _ hm hk' h'
  | cond c x y ihx ihy =>
    intro B st a w K Q hok hm h hk hQ
    simp only [codeOkR] at hok
    simp only [acodeR] at hk
    split at hk
    · rename_i e
      rw [e] at hok
      exact acode_wp R _ hok h hk fun e st' a' w' hk' h'=>hQ _ _ _ _ _ hm hk' h'
    · rename_i e
      rw [e] at hok
      simp only [Bool.and_eq_true] at hok
      split at hk
      case h_2=>exact hk.elim
      rename_i t ht
      have hev:=cond_bool h hok.1.1 ht
      cases t with
      | true=>exact wpIn_cond_true hev (ihx hok.1.2 hm h hk hQ)
      | false=>exact wpIn_cond_false hev (ihy hok.2 hm h hk hQ)
  | loop c ih =>
    intro B st a w K Q hok hm h hk hQ
    simp only [codeOkR] at hok
    simp only [acodeR] at hk
    split at hk
    · rename_i e
      rw [e] at hok
      rw [withNils_eq] at hk
      obtain ⟨σr,βr,hgr⟩:=h.gg
      obtain ⟨βn,hgn⟩:=hgr.rowNils (T:=T) (heapIds st.hp)
      replace h:GA B N (st.rowNils T (heapIds st.hp)) a w:=⟨h.defers,h.size,σr,βn,hgn⟩
      exact acode_wp R _ hok h hk fun e st' a' w' hk' h'=>hQ _ _ _ _ _ hm hk' h'
    · rename_i e
      rw [e] at hok
      have hok:codeOkR N c=true:=hok
      simp only [St.forceAll_eq] at hk
      obtain ⟨X,S,⟨x0,hi0,hle0⟩,hround⟩:=hk
      refine wpIn_loop_ghost (fun m a w=> ∃ x B,S.inv x∧S.mu x=m∧Marks B0 B∧GA B N (S.head st x) a w) (S.mu x0) ⟨x0,B,hi0,rfl,hm,h.weaken hle0⟩ ?_
      rintro m a w ⟨x,B,hi,rfl,hm,hx⟩
      refine ih hok hm hx (hround x hi) fun e B1 st' a' w' hm' hk' h'=> ?_
      cases e with
      | normal =>
        obtain ⟨y,hy,hle,hlt⟩:=hk'
        exact ⟨_,hlt,y,B1,hy,rfl,hm',h'.weaken hle⟩
      | _=>exact hQ _ _ _ _ _ hm' hk' h'
  | exit i=>intro B st a w K Q hok hm h hk hQ;exact acode_wp R _ hok h hk fun e st' a' w' hk' h'=>hQ _ _ _ _ _ hm hk' h'
  | goto l=>intro B st a w K Q hok hm h hk hQ;exact acode_wp R _ hok h hk fun e st' a' w' hk' h'=>hQ _ _ _ _ _ hm hk' h'
  | ret=>intro B st a w K Q hok hm h hk hQ;exact acode_wp R _ hok h hk fun e st' a' w' hk' h'=>hQ _ _ _ _ _ hm hk' h'
  | _=>intro B st a w K Q hok;cases hok
end
end Go.Vm
open Go Go.Vm Go.Proofs
namespace S1
theorem around_vc {fn} (o:Option tabE.T) (v:Int):afun ⟨tyL,fn,[]⟩ Try.f43 [(ETy.pt tabE).av o,i64E.av v] (fun r=>r= .s (.clo 66 [⟨.pt tabE,o⟩,⟨i64E,v⟩])):=by
  repeat' (conv=>whnf
           first | done | refine qN (by first | rfl | omega | (simp only [i64ok] at *;omega)) ?_ | apply qH | refine qG fun _=> ?_ | apply qB | apply qa | apply qo | refine qe (fun _=> ?_) (fun _=> ?_) | refine qn (fun _=> ?_) (fun _=> ?_) | refine qd (fun _=> ?_) (fun _=> ?_) | apply qt | refine qi (fun _=> ?_) (fun _=> ?_) | refine And.intro rfl ?_ | apply qE | apply qO | exact True.intro | apply qq | apply qs | refine qK (by kernel_rfl) ?_ | apply qr)
  all_goals try first | apply qz1 | apply qz2 | apply qz3 | apply qz4 | apply qz5 | apply qz6 | apply qz7 | apply qz8 | apply qz9 | apply qz0
  all_goals try simp only [take_one,take_one',set_one,take_all,qn1,rec_self,qn2,pair_eta,ETy.dflt,qn3,qn4,Int.reduceToNat,Int.reduceAdd,Int.reduceSub,Int.reduceNeg,Nat.reduceAdd,Nat.zero_add] at *
def aroundC:List AV→Option Res:=con2 (.pt tabE) i64E (fun o v=>some (none,none,.s (.clo 66 [⟨.pt tabE,o⟩,⟨i64E,v⟩])))
theorem aroundRow:FnRow Try.prog 43 aroundC:=⟨con2_ok fun o v r h=>by cases h;exact fn_by (rulesF (fn:=[]) (fr:=[]) trivial trivial) Try.func43 (by kernel_rfl) fun _ _=>around_vc o v,_,Try.func43,by kernel_rfl,by kernel_rfl⟩
def aroundF (x:tabE.T) (b:Int):Nat→Int→List Int
  | 0,_=>[]
  | n+1,c=>c::(if tAfter x c<0 then [] else if tAfter x c=b then [] else aroundF x b n (tAfter x c))
def aroundL (o:Option tabE.T) (v:Int):List Int:=onO o [] fun x=>if tThere x v then aroundF x (firstR x v).1 30000 (firstR x v).1 else []
end S1
