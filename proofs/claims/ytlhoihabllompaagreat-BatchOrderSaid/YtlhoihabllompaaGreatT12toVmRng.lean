/- A part of the proofs of the laws. -/
import Derived.Test.YtlhoihabllompaaGreatT5toT11
import Derived.Test.YtlhoihabllompaaGreatT0toVmInl
import Derived.RangeFuncFrom
import Derived.RangeFuncLeaves
import Derived.Test.YtlhoihabllompaaGreatVmFuntoVmKit
set_option linter.unusedSimpArgs false
set_option linter.unusedVariables false
set_option maxHeartbeats 8000000
set_option maxRecDepth 100000
open Go Go.Vm Go.Proofs
namespace S1
theorem php: ∀ (L n:Nat) (g:Nat->Nat),(∀ i,i<n->g i<L)->(∀ i j,i<j->j<n->g i≠g j)->n<=L
 | 0,n,g,h,_=>by
   rcases Nat.eq_zero_or_pos n with e|e
   ·omega
   ·have:=h 0 e;omega
 | L + 1,n,g,h,hd=>by
   by_cases hx: ∃ i,i<n/\g i=L
   ·obtain ⟨i,hi,e⟩:=hx
    have:=php L (n - 1) (fun j=>if j<i then g j else g (j+1)) (fun j hj=>by
     split
     ·rename_i hji;have h1:=h j (by omega);have:=hd j i hji hi;omega
     ·rename_i hji
      have h1:=h (j+1) (by omega);have:=hd i (j+1) (by omega) (by omega);omega) (fun a b hab hb=>by
     split<;>split
     ·exact hd _ _ hab (by omega)
     ·exact hd _ _ (by omega) (by omega)
     ·omega
     ·exact hd _ _ (by omega) (by omega))
    omega
   ·have:=php L n g (fun i hi=>by
     have h1:=h i hi;have:g i≠L:=fun e=>hx ⟨i,hi,e⟩
     omega) hd
    omega
def iter (f:Int->Int) (c:Int):Nat->Int
 | 0=>c
 | k+1=>f (iter f c k)
theorem zOi {f:Int->Int} (inj: ∀ a b,0<=f a->f a=f b->a=b) {c:Int} : ∀ {i j:Nat},(∀ m,1<=m->m<=i->0<=iter f c m)->iter f c i=iter f c (i+j)->iter f c j=c
 | 0,j,_,h=>by rw [zD] at h;exact h.symm
 | i +1,j,hp,h=>by
   have h:f (iter f c i)=f (iter f c (i+j)):=by
    rw [show i+1+j=(i+j)+1 by omega] at h;exact h
   exact zOi inj (fun m h1 h2=>hp m h1 (by omega)) (inj _ _ (hp (i+1) (by omega) (zI _)) h)
theorem pig {f:Int->Int} {L:Nat} (hr: ∀ c,0<=f c->f c<L) (inj: ∀ a b,0<=f a->f a=f b->a=b) {c:Int} {k:Nat} (h: ∀ j,1<=j->j<=k->0<=iter f c j/\iter f c j≠c):k<=L:=by
 refine php L k (fun i=>(iter f c (i+1)).toNat) (fun i hi=> ?_) (fun i j hij hj e=> ?_)
 ·have h1:=(h (i+1) (by omega) (by omega)).1;have:=hr (iter f c i) h1;show (iter f c (i+1)).toNat<L;have:iter f c (i+1)<L:=this;omega
 ·have h1:=(h (i+1) (by omega) (by omega)).1;have h2:=(h (j+1) (by omega) (by omega)).1;have e:iter f c (i+1)=iter f c (i+1+(j - i)):=by rw [show i+1+(j - i)=j+1 by omega];omega
  exact (h (j - i) (by omega) (by omega)).2 (zOi inj (fun m a b=>(h m a (by omega)).1) e)
theorem z2s {c b:Int} {L:Nat} (h:0<=c/\c<3*(L:Int)):0<=trn c b/\trn c b<3*(L:Int):=by unfold trn;omega
theorem zMa {a b:Int} (h:trn a 1=trn b 1):a=b:=by unfold trn at h;omega
theorem zRC {a b:Int} (h:trn a 2=trn b 2):a=b:=by unfold trn at h;omega
structure Good (x:yI.T):Prop where
 fit:zMc x.1
 map: ∀ e c,jS .arr2 x.2.1 e=some c->j6 x c=true/\jR x c=e
 uniq: ∀ p q,j6 x p=true->j6 x q=true->jR x p=jR x q->p=q
 ends: ∀ c,j6 x c=true->(jR x c).1≠(jR x c).2
 first: ∀ v:Nat,x.2.2.getD v 0<=30000
 cor: ∀ c,j6 x c=true->j6 x (yY x (yS x c))=true
theorem zAF {x:yI.T} {c:Int} (h:j6 x c=true):j6 x (qY x c)=true/\j6 x (qV x c)=true:=by
 unfold qY qV;rw [if_pos h,if_pos h];rw [yH] at h;exact ⟨(yH.2 (z2s h)),(yH.2 (z2s h))⟩
theorem zPM {x:yI.T} :j6 x (-1)=false:=zRW (by omega)
theorem zZe {x:yI.T} {c:Int} (h:j6 x c=false):jR x c=(-1,-1):=by
 unfold jR qY qV;rw [if_neg (by rw [h];simp),if_neg (by rw [h];simp)];unfold yS;rw [if_neg (by rw [zPM];simp)]
theorem Good.opp {x:yI.T} (g:Good x) {d:Int} (h:0<=zAI x d):j6 x d=true/\j6 x (zAI x d)=true/\jR x (zAI x d)=((jR x d).2,(jR x d).1):=by
 unfold zAI qJ at *;cases e:jS .arr2 x.2.1 ((jR x d).2,(jR x d).1) with
 | none=>rw [e] at h;cases h
 | some o =>
   obtain ⟨h1,h2⟩:=g.map _ _ e;refine ⟨?_,h1,h2⟩;cases hd:j6 x d with
   | true=>rfl
   | false =>
     rw [zZe hd] at h2;have:=(zBA g.fit (zAF h1).1).1;have h3:yS x (qY x o)= -1:=congrArg Prod.fst h2;omega
def yK (x:yI.T) (c:Int):Int:=if zAI x (qV x c)<0 then -1 else qV x (zAI x (qV x c))
def yO (x:yI.T) (c:Int):Int:=if zAI x (qY x c)<0 then -1 else qY x (zAI x (qY x c))
theorem zBP {x:yI.T} {c:Int} (h:j6 x c=true):qV x c=trn c 2:=by unfold qV;rw [if_pos h]
theorem zAg {x:yI.T} {c:Int} (h:j6 x c=true):qY x c=trn c 1:=by unfold qY;rw [if_pos h]
theorem zPS {x:yI.T} {c:Int} (h:j6 x (qV x c)=true):j6 x c=true:=by
 cases e:j6 x c with
 | true=>rfl
 | false=>unfold qV at h;rw [if_neg (by rw [e];simp),zPM] at h;cases h
theorem zQT {x:yI.T} {c:Int} (h:j6 x (qY x c)=true):j6 x c=true:=by
 cases e:j6 x c with
 | true=>rfl
 | false=>unfold qY at h;rw [if_neg (by rw [e];simp),zPM] at h;cases h
theorem Good.opp_inj {x:yI.T} (g:Good x) {a b:Int} (h:0<=zAI x a) (e:zAI x a=zAI x b):a=b:=by
 obtain ⟨h1,h2,h3⟩:=g.opp h;obtain ⟨k1,k2,k3⟩:=g.opp (d:=b) (by omega);rw [e,k3] at h3;refine g.uniq _ _ h1 k1 (Prod.ext ?_ ?_)
 ·exact (congrArg Prod.snd h3).symm
 ·exact (congrArg Prod.fst h3).symm
theorem Good.before_has {x:yI.T} (g:Good x) {c:Int} (h:0<=yK x c):j6 x c=true/\j6 x (yK x c)=true/\0<=zAI x (qV x c):=by
 unfold yK at *;split at h
 ·omega
 ·rename_i ho;obtain ⟨h1,h2,h3⟩:=g.opp (d:=qV x c) (by omega);rw [if_neg ho];exact ⟨zPS h1,(zAF h2).2,by omega⟩
theorem Good.after_has {x:yI.T} (g:Good x) {c:Int} (h:0<=yO x c):j6 x c=true/\j6 x (yO x c)=true/\0<=zAI x (qY x c):=by
 unfold yO at *;split at h
 ·omega
 ·rename_i ho;obtain ⟨h1,h2,h3⟩:=g.opp (d:=qY x c) (by omega);rw [if_neg ho];exact ⟨zQT h1,(zAF h2).1,by omega⟩
theorem Good.before_inj {x:yI.T} (g:Good x) (a b:Int) (h:0<=yK x a) (e:yK x a=yK x b):a=b:=by
 obtain ⟨h1,h2,h3⟩:=g.before_has h;obtain ⟨k1,k2,k3⟩:=g.before_has (c:=b) (by omega);obtain ⟨_,o1,_⟩:=g.opp h3;obtain ⟨_,o2,_⟩:=g.opp k3;unfold yK at e;rw [if_neg (by omega),if_neg (by omega),zBP o1,zBP o2] at e;have:=g.opp_inj h3 (zRC e);rw [zBP h1,zBP k1] at this;exact zRC this
theorem Good.after_inj {x:yI.T} (g:Good x) (a b:Int) (h:0<=yO x a) (e:yO x a=yO x b):a=b:=by
 obtain ⟨h1,h2,h3⟩:=g.after_has h;obtain ⟨k1,k2,k3⟩:=g.after_has (c:=b) (by omega);obtain ⟨_,o1,_⟩:=g.opp h3;obtain ⟨_,o2,_⟩:=g.opp k3;unfold yO at e;rw [if_neg (by omega),if_neg (by omega),zAg o1,zAg o2] at e;have:=g.opp_inj h3 (zMa e);rw [zAg h1,zAg k1] at this;exact zMa this
end S1
open Go Go.Vm Go.Proofs
namespace S1
def zTZ (l:List P3) (q:Nat):P3:=(qQ (l.getD (q / 3) (0,0,0))).getD (q % 3) (0,0,0)
theorem zV2 {kind:Int} {i:Nat} {av:List Int} {s:PS} {j:Nat} (h:(prA kind i av s j).2=[]):prA kind i av s j=s/\(jS .arr2 s.1 (av.getD j 0,(i:Int))).getD false=true:=by
 unfold prA at *;cases e:(jS .arr2 s.1 (av.getD j 0,(i:Int))).getD false with
 | true=>exact ⟨rfl,rfl⟩
 | false =>
   rw [e] at h;exact absurd h (by simp)
theorem zIH {kind:Int} {i:Nat} {av:List Int} {s:PS} : ∀ {n:Nat},(qA (prA kind i av) s n).2=[]->qA (prA kind i av) s n=s/\∀ j,j<n->(jS .arr2 s.1 (av.getD j 0,(i:Int))).getD false=true
 | 0,_=>⟨rfl,fun j h=>by omega⟩
 | n+1,h=>by
   obtain ⟨h1,h2⟩:=zV2 (s:=qA (prA kind i av) s n) h;have h:(prA kind i av (qA (prA kind i av) s n) n).2=[]:=h;rw [h1] at h;obtain ⟨h3,h4⟩:=zIH h;refine ⟨h1.trans h3,fun j hj=> ?_⟩
   by_cases e:j=n
   ·subst e;rw [h3] at h2;exact h2
   ·exact h4 j (by omega)
structure Uq (l:List P3) (n:Nat) (s:zJQ×PS):Prop where
 seen:s.2.1=[]
 dif: ∀ p q,p<q->q<n->zTZ l p≠zTZ l q
 had: ∀ p,p<n->zAL s.1 (zTZ l p)≠[]
theorem zXh {l:List P3} {i m:Nat} (hm:m<3) {s:zJQ×PS} (h:s.2.2=[]->Uq l (3*i+m) s)
 (h2:(prK 3 i (qQ (l.getD i (0,0,0))) s m).2.2=[]):s.2.2=[]/\Uq l (3*i+m+1) (prK 3 i (qQ (l.getD i (0,0,0))) s m):=by
 have hk:zTZ l (3*i+m)=(qQ (l.getD i (0,0,0))).getD m (0,0,0):=by
  unfold zTZ;rw [show (3*i+m) / 3=i by omega,show (3*i+m) % 3=m by omega]
 have h3:=zIH h2;have h0:s.2.2=[]:=by rw [<- h3.1];exact h2
 have u:=h h0
 have he:zAL s.1 (zTZ l (3*i+m))=[]:=by
  rw [hk];cases e:zAL s.1 ((qQ (l.getD i (0,0,0))).getD m (0,0,0)) with
  | nil=>rfl
  | cons a r =>
    have:=h3.2 0 (by rw [e];simp);rw [u.seen] at this;cases this
 refine ⟨h0,?_,fun p q hpq hq e=> ?_,fun p hp=> ?_⟩
 ·exact (congrArg Prod.fst h3.1).trans u.seen
 ·by_cases hn:q=3*i+m
  ·subst hn;exact u.had p hpq (by rw [e];exact he)
  ·exact u.dif p q hpq (by omega) e
 ·show zAL (zAB .arr3 s.1 ((qQ (l.getD i (0,0,0))).getD m (0,0,0)) (zAL s.1 ((qQ (l.getD i (0,0,0))).getD m (0,0,0))++[(i:Int)])) (zTZ l p)≠[];rw [zDq];split
  ·simp
  ·rename_i hne
   by_cases hn:p=3*i+m
   ·subst hn;exact absurd hk.symm hne
   ·exact u.had p (by omega)
theorem z2L (l:List P3): ∀ i,(prS qQ 3 l i).2.2=[]->Uq l (3*i) (prS qQ 3 l i)
 | 0,_=>⟨rfl,fun p q _ h=>by omega,fun p h=>by omega⟩
 | i+1,h=>by
   have h:(qA (prK 3 i (qQ (l.getD i (0,0,0)))) (prS qQ 3 l i) 3).2.2=[]:=h;have h0:=z2L l i;have s1:=fun h=>(zXh (m:=0) (by omega) (s:=prS qQ 3 l i) h0 h).2;have s2:=fun h=>(zXh (m:=1) (by omega) (s:=qA (prK 3 i (qQ (l.getD i (0,0,0)))) (prS qQ 3 l i) 1) s1 h).2;exact (zXh (m:=2) (by omega) (s:=qA (prK 3 i (qQ (l.getD i (0,0,0)))) (prS qQ 3 l i) 2) s2 h).2
theorem zKW (t:P3) {k:Nat} (h:k<3):(qQ t).getD k (0,0,0)=(p3 t k,p3 t ((k+1) % 3:Nat),0):=by
 have:k=0\/k=1\/k=2:=by omega
 rcases this with e|e|e<;>subst e<;>rfl
theorem zJP {x:yI.T} {c:Int} (h:j6 x c=true):zTZ x.1.2 (trn c 1).toNat=((jR x c).1,(jR x c).2,0):=by
 have hc:=yH.1 h;have h1:=yH.1 (zAF h).1;have h2:=yH.1 (zAF h).2;unfold zTZ;rw [zKW _ (by omega)];unfold jR;rw [zDY h1.1 h1.2,zDY h2.1 h2.2];rw [zAg h,zBP h];have e0:0<=trn c 1:=by unfold trn;omega
 have e1:(trn c 1).toNat / 3=(c / 3).toNat:=by unfold trn;omega
 have e2:(trn c 1 / 3).toNat=(c / 3).toNat:=by unfold trn;omega
 have e3:(trn c 2 / 3).toNat=(c / 3).toNat:=by unfold trn;omega
 have e4:(((trn c 1).toNat % 3:Nat):Int)=trn c 1 % 3:=by omega
 have e5:((((trn c 1).toNat % 3+1) % 3:Nat):Int)=trn c 2 % 3:=by unfold trn;omega
 rw [e1,e2,e3,e4,e5]
theorem z2v {l:List P3} (h:dgL l l.length=[]) {i:Nat} (hi:i<l.length): ¬ ((l.getD i (0,0,0)).1=(l.getD i (0,0,0)).2.1\/(l.getD i (0,0,0)).2.1=(l.getD i (0,0,0)).2.2\/(l.getD i (0,0,0)).2.2=(l.getD i (0,0,0)).1):=by
 have:=List.filterMap_eq_nil_iff.1 h i (zV.2 hi);unfold dgG at this;split at this
 ·cases this
 ·rename_i hd;exact fun e=>hd (zWp e)
theorem z9b {t:P3} (h: ¬ (t.1=t.2.1\/t.2.1=t.2.2\/t.2.2=t.1)) {k:Nat} (hk:k<3):p3 t k≠p3 t ((k+1) % 3:Nat):=by
 have:k=0\/k=1\/k=2:=by omega
 rcases this with e|e|e<;>subst e<;>intro e<;>apply h
 ·exact .inl e
 ·exact .inr (.inl e)
 ·exact .inr (.inr e)
theorem zRH (x:Int×List P3): ∀ i,i<=3*x.2.length->∀ e c,jS .arr2 (zHA x i).1 e=some c->0<=c/\c<3*(x.2.length:Int)/\jR (x,[],[]) c=e
 | 0,_,e,c,h=>by cases h
 | i +1,hi,e,c,h=>by
   have h:jS .arr2 (zAB .arr2 (zHA x i).1 (jR (x,[],[]) (3*x.2.length - 1 - i)) (3*x.2.length - 1 - i)) e=some c:=h
   by_cases he:jR (x,[],[]) (3*x.2.length - 1 - i)=e
   ·rw [he,zAT] at h;cases h;exact ⟨by omega,by omega,he⟩
   ·rw [zA4 _ he] at h;exact zRH x i (by omega) e c h
theorem zKE (x:Int×List P3) (hl:x.2.length<=8192): ∀ i,i<=3*x.2.length->∀ v,(zHA x i).2.getD v 0<=30000
 | 0,_,v=>by
   show (List.replicate _ _).getD v 0<=_;rw [gdE,List.getElem?_replicate];split<;>decide
 | i +1,hi,v=>by
   show ((zHA x i).2.set _ _).getD v 0<=_;rw [gdE,List.getElem?_set];split
   ·split
    ·show (3*(x.2.length:Int) - 1 - i)<=30000;omega
    ·decide
   ·rw [<- gdE];exact zKE x hl i (by omega) v
theorem zW0 (x:Int×List P3) (hl:0<x.2.length): ∀ i,i<=3*x.2.length->∀ v,0<=(zHA x i).2.getD v 0/\(zHA x i).2.getD v 0<3*(x.2.length:Int)
 | 0,_,v=>by
   show 0<=(List.replicate _ _).getD v 0/\(List.replicate _ _).getD v 0<_
   have: ∀ n,(List.replicate n (0:Int)).getD v 0=0:=fun n=>by
    rw [gdE,List.getElem?_replicate];split<;>rfl
   rw [this];omega
 | i +1,hi,v=>by
   show 0<=((zHA x i).2.set _ _).getD v 0/\((zHA x i).2.set _ _).getD v 0<_;rw [gdE,List.getElem?_set];split
   ·split
    ·show 0<=(3*(x.2.length:Int) - 1 - i)/\(3*(x.2.length:Int) - 1 - i)<3*(x.2.length:Int);omega
    ·show (0:Int)<=0/\(0:Int)<3*(x.2.length:Int);omega
   ·rw [<- gdE];exact zW0 x hl i (by omega) v
theorem zZN {s:Int×List P3} (h:z9i s):Good (zAa s) where
 fit:=h.fit
 map e c he:=by
  obtain ⟨h1,h2,h3⟩:=zRH s _ (zI _) e c he;exact ⟨yH.2 ⟨h1,h2⟩,h3⟩
 uniq p q hp hq e:=by
  have hu:=(z2L s.2 _ h.twi).dif;have kp:=zJP hp;have kq:=zJP hq;rw [e,<- kq] at kp;have ip:=yH.1 (zAF hp).1;have iq:=yH.1 (zAF hq).1;rw [zAg hp] at ip;rw [zAg hq] at iq;have ip:0<=trn p 1/\trn p 1<3*(s.2.length:Int):=ip;have iq:0<=trn q 1/\trn q 1<3*(s.2.length:Int):=iq;have kp:zTZ s.2 (trn p 1).toNat=zTZ s.2 (trn q 1).toNat:=kp;refine zMa ?_;rcases Nat.lt_trichotomy (trn p 1).toNat (trn q 1).toNat with hlt|heq|hgt
  ·exact absurd kp (hu _ _ hlt (by omega))
  ·omega
  ·exact absurd kp.symm (hu _ _ hgt (by omega))
 ends c hc e:=by
  have k:=zJP hc;have i0:=yH.1 hc;have i1:=yH.1 (zAF hc).1;rw [zAg hc] at i1;have i1:0<=trn c 1/\trn c 1<3*(s.2.length:Int):=i1;unfold zTZ at k;rw [zKW _ (by omega)] at k;refine z9b (z2v h.deg (i:=(trn c 1).toNat / 3) (by omega)) (k:=(trn c 1).toNat % 3) (by omega) ?_;exact (congrArg Prod.fst k).trans (e.trans (congrArg (fun t:P3=>t.2.1) k).symm)
 cor c hc:=by
  have i0:=yH.1 hc;have i0:0<=c/\c<3*(s.2.length:Int):=i0;have hv:=zBA (x:=zAa s) h.fit hc;have hlen:(zAa s).2.2.length=s.1.toNat:=zGZ s _;have hv2:0<=yS (zAa s) c/\yS (zAa s) c<s.1:=hv;unfold yY;rw [if_pos (by rw [hlen];omega)];exact yH.2 (zW0 s (by omega) _ (zI _) _)
 first v:=zKE s h.fit.2.2.1 _ (zI _) v
end S1
open Go Go.Vm Go.Proofs
namespace S1
theorem z2V {x:yI.T} (g:Good x) (c:Int):zAI x c<=30000:=by
 by_cases h:0<=zAI x c
 ·have:=yH.1 (g.opp h).2.1;have:=g.fit.2.2.1;omega
 ·omega
theorem zLz {x:yI.T} (g:Good x) (c:Int):qV x c<=30000:=by
 cases h:j6 x c with
 | false=>unfold qV;rw [if_neg (by rw [h];simp)];decide
 | true =>
   have:=yH.1 (zAF h).2;have:=g.fit.2.2.1;omega
theorem zMI {x:yI.T} (g:Good x) (c:Int):qY x c<=30000:=by
 cases h:j6 x c with
 | false=>unfold qY;rw [if_neg (by rw [h];simp)];decide
 | true =>
   have:=yH.1 (zAF h).1;have:=g.fit.2.2.1;omega
theorem zYp (x:yI.T) (c:Int) (h:Good x/\c<=30000):zAG ⟨tyL,[(122,zLy),(37,zSa)],[]⟩ Tryz.f128 [(ETy.pt yI).av (some x),y8.av c] (fun v=>v= .s (.int .i64 (yK x c))):=by
 repeat' (conv=>whnf
          first|done|refine qN ?_|apply qH|refine qG fun _=> ?_|apply qB|apply qa|apply qo|refine qe (fun _=> ?_) (fun _=> ?_)|refine qn (fun _=> ?_) (fun _=> ?_)|refine qd (fun _=> ?_) (fun _=> ?_)|apply qt|refine qi (fun _=> ?_) (fun _=> ?_)|refine zA rfl ?_|apply qE|apply qO|exact zO|apply qq|apply qs|refine qK (by kernel_rfl) ?_|apply qr)
 all_goals try first|refine qz ?_|apply qz5
 all_goals try simp only [z6,zS,yE,zZ,qn1,z7,qn2,zX,ETy.dflt,qn3,qn4,Int.reduceToNat,Int.reduceAdd,Int.reduceSub,Int.reduceNeg,Nat.reduceAdd,zD,yK] at *
 ·exact qh (Int.le_trans h.2 (by decide))
 ·exact qh (Int.le_trans (zLz h.1 _) (by decide))
 ·rw [if_pos (by assumption)]
 ·exact qh (Int.le_trans (z2V h.1 _) (by decide))
 ·rw [if_neg (by assumption)]
def zOx:List AV->Option Res:=zGX yI y8 (fun x c=>some (none,some (Good x/\c<=30000),.s (.int .i64 (yK x c))))
theorem zUw:qM Tryz.prog 128 zOx:=⟨zAs fun x c r h=>by cases h;exact qL (yN (fn:=[(122,zLy),(37,zSa)]) (fr:=[]) ⟨zLU,zKP,trivial⟩ trivial) Tryz.func128 (by kernel_rfl) fun _ h=>zYp x c h,_,Tryz.func128,by kernel_rfl,by kernel_rfl⟩
theorem z03 (x:yI.T) (c:Int) (h:Good x/\c<=30000):zAG ⟨tyL,[(121,zKt),(37,zSa)],[]⟩ Tryz.f130 [(ETy.pt yI).av (some x),y8.av c] (fun v=>v= .s (.int .i64 (yO x c))):=by
 repeat' (conv=>whnf
          first|done|refine qN ?_|apply qH|refine qG fun _=> ?_|apply qB|apply qa|apply qo|refine qe (fun _=> ?_) (fun _=> ?_)|refine qn (fun _=> ?_) (fun _=> ?_)|refine qd (fun _=> ?_) (fun _=> ?_)|apply qt|refine qi (fun _=> ?_) (fun _=> ?_)|refine zA rfl ?_|apply qE|apply qO|exact zO|apply qq|apply qs|refine qK (by kernel_rfl) ?_|apply qr)
 all_goals try first|refine qz ?_|apply qz5
 all_goals try simp only [z6,zS,yE,zZ,qn1,z7,qn2,zX,ETy.dflt,qn3,qn4,Int.reduceToNat,Int.reduceAdd,Int.reduceSub,Int.reduceNeg,Nat.reduceAdd,zD,yO] at *
 ·exact qh (Int.le_trans h.2 (by decide))
 ·exact qh (Int.le_trans (zMI h.1 _) (by decide))
 ·rw [if_pos (by assumption)]
 ·exact qh (Int.le_trans (z2V h.1 _) (by decide))
 ·rw [if_neg (by assumption)]
def zGS:List AV->Option Res:=zGX yI y8 (fun x c=>some (none,some (Good x/\c<=30000),.s (.int .i64 (yO x c))))
theorem zHw:qM Tryz.prog 130 zGS:=⟨zAs fun x c r h=>by cases h;exact qL (yN (fn:=[(121,zKt),(37,zSa)]) (fr:=[]) ⟨zLj,zKP,trivial⟩ trivial) Tryz.func130 (by kernel_rfl) fun _ h=>z03 x c h,_,Tryz.func130,by kernel_rfl,by kernel_rfl⟩
def zBR (x:yI.T) (v:Int):Bool:=decide (0<=v)&&(decide (v<x.1.1)&&decide (0<=yY x v))
theorem z0z (x:yI.T) (v:Int):zAG ⟨tyL,[(85,zBn),(124,zDw)],[]⟩ Tryz.f88 [(ETy.pt yI).av (some x),y8.av v] (fun r=>r= .s (.bool (zBR x v))):=by
 repeat' (conv=>whnf
          first|done|refine qN ?_|apply qH|refine qG fun _=> ?_|apply qB|apply qa|apply qo|refine qe (fun _=> ?_) (fun _=> ?_)|refine qn (fun _=> ?_) (fun _=> ?_)|refine qd (fun _=> ?_) (fun _=> ?_)|apply qt|refine qi (fun _=> ?_) (fun _=> ?_)|refine zA rfl ?_|apply qE|apply qO|exact zO|apply qq|apply qs|refine qK (by kernel_rfl) ?_|apply qr)
 all_goals try first|refine qz ?_|apply qz5
 all_goals try simp only [z6,zS,yE,zZ,qn1,z7,qn2,zX,ETy.dflt,qn3,qn4,Int.reduceToNat,Int.reduceAdd,Int.reduceSub,Int.reduceNeg,Nat.reduceAdd,zD,zBR] at *
 ·rename_i h1 h2;rw [decide_eq_true h1,decide_eq_true h2];rfl
 ·rename_i h1 h2;rw [decide_eq_false h2];simp
 ·rename_i h1;rw [decide_eq_false h1];rfl
theorem zUG {fn} (v:Int):zAG ⟨tyL,fn,[]⟩ Tryz.f88 [(ETy.pt yI).av none,y8.av v] (fun r=>r= .s (.bool false)):=by
 repeat' (conv=>whnf
          first|done|refine qN ?_|apply qH|refine qG fun _=> ?_|apply qB|apply qa|apply qo|refine qe (fun _=> ?_) (fun _=> ?_)|refine qn (fun _=> ?_) (fun _=> ?_)|refine qd (fun _=> ?_) (fun _=> ?_)|apply qt|refine qi (fun _=> ?_) (fun _=> ?_)|refine zA rfl ?_|apply qE|apply qO|exact zO|apply qq|apply qs|refine qK (by kernel_rfl) ?_|apply qr)
 all_goals try first|refine qz ?_|apply qz5
 all_goals try simp only [z6,zS,yE,zZ,qn1,z7,qn2,zX,ETy.dflt,qn3,qn4,Int.reduceToNat,Int.reduceAdd,Int.reduceSub,Int.reduceNeg,Nat.reduceAdd,zD] at *
def onO {α:Type} (o:Option yI.T) (d:α) (f:yI.T->α):α:=match o with|some x=>f x|none=>d
def zIS:List AV->Option Res:=zCr (.pt yI) y8 (fun o v=>some (none,none,.s (.bool (onO o false fun x=>zBR x v))))
theorem zMG:qM Tryz.prog 88 zIS:=⟨jD fun o v r h=>by
 cases h;cases o with
 | none=>exact qL (yN (fn:=[(85,zBn),(124,zDw)]) (fr:=[]) ⟨zD0,zGT,trivial⟩ trivial) Tryz.func88 (by kernel_rfl) fun _ _=>zUG v
 | some x=>exact qL (yN (fn:=[(85,zBn),(124,zDw)]) (fr:=[]) ⟨zD0,zGT,trivial⟩ trivial) Tryz.func88 (by kernel_rfl) fun _ _=>z0z x v,_,Tryz.func88,by kernel_rfl,by kernel_rfl⟩
def zDL (x:yI.T) (c0:Int):Nat->Int->Int×Bool
 | 0,_=>(0,false)
 | n+1,c=>if yK x c<0 then (c,true) else if yK x c=c0 then (c0,false) else zDL x c0 n (yK x c)
def zAP (x:yI.T) (v:Int):Int×Bool:=zDL x (yY x v) 30000 (yY x v)
def zT3 (f:Int->Int) (c0:Int) (k:Nat):Prop:= ∀ j,1<=j->j<=k->0<=iter f c0 j/\iter f c0 j≠c0
theorem zT3.succ {f:Int->Int} {c0:Int} {k:Nat} (h:zT3 f c0 k) (h1: ¬ f (iter f c0 k)<0) (h2: ¬ f (iter f c0 k)=c0):zT3 f c0 (k+1):=fun j a b=>by
 by_cases e:j=k+1
 ·subst e;exact ⟨by show 0<=f (iter f c0 k);omega,h2⟩
 ·exact h j a (by omega)
theorem zKS {x:yI.T} (g:Good x) {c0:Int} {k:Nat} (h:zT3 (yK x) c0 k):k<=24576:=by
 have:=pig (L:=3*x.1.2.length) (fun c hc=>by have:=yH.1 (g.before_has hc).2.1;omega) g.before_inj h;have:=g.fit.2.2.1;omega
theorem zAz {x:yI.T} (g:Good x) {c0:Int} {k:Nat} (h:zT3 (yO x) c0 k):k<=24576:=by
 have:=pig (L:=3*x.1.2.length) (fun c hc=>by have:=yH.1 (g.after_has hc).2.1;omega) g.after_inj h;have:=g.fit.2.2.1;omega
theorem zEX {x:yI.T} (g:Good x) (v:Int):yY x v<=30000:=by
 unfold yY;split
 ·exact g.first _
 ·decide
theorem z1M {x:yI.T} (g:Good x) {c0:Int} (h0:c0<=30000): ∀ k,iter (yK x) c0 k<=30000
 | 0=>h0
 | k+1=>by
   show yK x (iter (yK x) c0 k)<=30000;unfold yK;split
   ·decide
   ·exact zLz g _
theorem zZP {x:yI.T} (g:Good x) {c0:Int} (h0:c0<=30000): ∀ k,iter (yO x) c0 k<=30000
 | 0=>h0
 | k+1=>by
   show yO x (iter (yO x) c0 k)<=30000;unfold yO;split
   ·decide
   ·exact zMI g _
def z49 (x:yI.T) (c0:Int):Spec Nat where
 inv k:=zT3 (yK x) c0 k/\zDL x c0 30000 c0=zDL x c0 (30000 - k) (iter (yK x) c0 k)
 live k:=[(7,.s (.int .i64 (iter (yK x) c0 k)))]
 keep:=[0,6]
 heap _:=[]
 keepH:=[]
 mu k:=30000 - k
theorem zF4 {x:yI.T} {c0 c:Int} {k:Nat} (h:k<=24576):zDL x c0 (30000 - k) c=if yK x c<0 then (c,true) else if yK x c=c0 then (c0,false) else zDL x c0 (30000 - (k+1)) (yK x c):=by
 rw [show 30000 - k=(30000 - (k+1))+1 by omega];rfl
theorem zZs (x:yI.T) (v:Int) (g:Good x):zAG ⟨tyL,[(124,zDw),(128,zOx)],[]⟩ Tryz.f89 [(ETy.pt yI).av (some x),y8.av v] (fun r=>r= .tup [.s (.int .i64 (zAP x v).1),.s (.bool (zAP x v).2)]):=by
 repeat' (conv=>whnf
          first|done|refine qN ?_|apply qH|refine qG fun _=> ?_|apply qB|apply qa|apply qo|refine qe (fun _=> ?_) (fun _=> ?_)|refine qn (fun _=> ?_) (fun _=> ?_)|refine qd (fun _=> ?_) (fun _=> ?_)|apply qt|refine qi (fun _=> ?_) (fun _=> ?_)|(refine zaB 3 rfl (z49 x (yY x v)) (0) ?_ ?_ ?_ fun k hk=> ?_)|with_reducible refine zaA (z49 _ _) (k+1) ?_ ?_ ?_ ?_|refine zA rfl ?_|apply qE|apply qO|exact zO|apply qq|apply qs|refine qK (by kernel_rfl) ?_|apply qr)
 all_goals try first|refine qz ?_|apply qz5
 all_goals try simp only [z6,zS,yE,zZ,qn1,z7,qn2,zX,ETy.dflt,qn3,qn4,Int.reduceToNat,Int.reduceAdd,Int.reduceSub,Int.reduceNeg,Nat.reduceAdd,zD,z49] at *
 ·exact qh ⟨fun j a b=>by omega,rfl⟩
 all_goals have hk24:=zKS g hk.1
 ·exact qh ⟨g,z1M g (zEX g v) k⟩
 ·unfold zAP;rw [hk.2,zF4 hk24,if_pos (by assumption)];exact y9.intro rfl
 ·unfold zAP;rw [hk.2,zF4 hk24,if_neg (by assumption),if_pos (by assumption)];exact y9.intro rfl
 ·refine yJ.intro ⟨hk.1.succ (by assumption) (by assumption),?_⟩;rw [hk.2,zF4 hk24,if_neg (by assumption),if_neg (by assumption)];rfl
 ·exact qh (by omega)
def zIb:List AV->Option Res:=zGX yI y8 (fun x v=>some (none,some (Good x),.tup [.s (.int .i64 (zAP x v).1),.s (.bool (zAP x v).2)]))
theorem zLh:qM Tryz.prog 89 zIb:=⟨zAs fun x v r h=>by cases h;exact qL (yN (fn:=[(124,zDw),(128,zOx)]) (fr:=[]) ⟨zGT,zUw,trivial⟩ trivial) Tryz.func89 (by kernel_rfl) fun _ h=>zZs x v h,_,Tryz.func89,by kernel_rfl,by kernel_rfl⟩
def zAY (x:yI.T) (v:Int):Bool:=zBR x v&& !(zAP x v).2
theorem z0P (x:yI.T) (v:Int) (g:Good x):zAG ⟨tyL,[(88,zIS),(89,zIb)],[]⟩ Tryz.f46 [(ETy.pt yI).av (some x),y8.av v] (fun r=>r= .s (.bool (zAY x v))):=by
 repeat' (conv=>whnf
          first|done|refine qN ?_|apply qH|refine qG fun _=> ?_|apply qB|apply qa|apply qo|refine qe (fun _=> ?_) (fun _=> ?_)|refine qn (fun _=> ?_) (fun _=> ?_)|refine qd (fun _=> ?_) (fun _=> ?_)|apply qt|refine qi (fun _=> ?_) (fun _=> ?_)|refine zA rfl ?_|apply qE|apply qO|exact zO|apply qq|apply qs|refine qK (by kernel_rfl) ?_|apply qr)
 all_goals try first|refine qz ?_|apply qz5
 all_goals try simp only [z6,zS,yE,zZ,qn1,z7,qn2,zX,ETy.dflt,qn3,qn4,Int.reduceToNat,Int.reduceAdd,Int.reduceSub,Int.reduceNeg,Nat.reduceAdd,zD,zAY,zBR] at *
 all_goals (simp only [*,decide_true,decide_false,Bool.true_and,Bool.false_and,Bool.and_false])
def zNZ:List AV->Option Res:=zGX yI y8 (fun x v=>some (none,some (Good x),.s (.bool (zAY x v))))
theorem zQw:qM Tryz.prog 46 zNZ:=⟨zAs fun x v r h=>by cases h;exact qL (yN (fn:=[(88,zIS),(89,zIb)]) (fr:=[]) ⟨zMG,zLh,trivial⟩ trivial) Tryz.func46 (by kernel_rfl) fun _ h=>z0P x v h,_,Tryz.func46,by kernel_rfl,by kernel_rfl⟩
def zAQ (x:yI.T) (a b:Int):Bool:=decide (0<=qJ x (a,b))|| decide (0<=qJ x (b,a))
theorem z3i (x:yI.T) (a b:Int):zAG ⟨tyL,[(78,zEC)],[]⟩ Tryz.f55 [(ETy.pt yI).av (some x),y8.av a,y8.av b] (fun r=>r= .s (.bool (zAQ x a b))):=by
 repeat' (conv=>whnf
          first|done|refine qN ?_|apply qH|refine qG fun _=> ?_|apply qB|apply qa|apply qo|refine qe (fun _=> ?_) (fun _=> ?_)|refine qn (fun _=> ?_) (fun _=> ?_)|refine qd (fun _=> ?_) (fun _=> ?_)|apply qt|refine qi (fun _=> ?_) (fun _=> ?_)|refine zA rfl ?_|apply qE|apply qO|exact zO|apply qq|apply qs|refine qK (by kernel_rfl) ?_|apply qr)
 all_goals try first|refine qz ?_|apply qz5
 all_goals try simp only [z6,zS,yE,zZ,qn1,z7,qn2,zX,ETy.dflt,qn3,qn4,Int.reduceToNat,Int.reduceAdd,Int.reduceSub,Int.reduceNeg,Nat.reduceAdd,zD,zAQ] at *
 ·rename_i h;rw [decide_eq_true h];rfl
 ·rename_i h;rw [decide_eq_false h];rfl
theorem zZp {fn} (a b:Int):zAG ⟨tyL,fn,[]⟩ Tryz.f55 [(ETy.pt yI).av none,y8.av a,y8.av b] (fun r=>r= .s (.bool false)):=by
 repeat' (conv=>whnf
          first|done|refine qN ?_|apply qH|refine qG fun _=> ?_|apply qB|apply qa|apply qo|refine qe (fun _=> ?_) (fun _=> ?_)|refine qn (fun _=> ?_) (fun _=> ?_)|refine qd (fun _=> ?_) (fun _=> ?_)|apply qt|refine qi (fun _=> ?_) (fun _=> ?_)|refine zA rfl ?_|apply qE|apply qO|exact zO|apply qq|apply qs|refine qK (by kernel_rfl) ?_|apply qr)
 all_goals try first|refine qz ?_|apply qz5
 all_goals try simp only [z6,zS,yE,zZ,qn1,z7,qn2,zX,ETy.dflt,qn3,qn4,Int.reduceToNat,Int.reduceAdd,Int.reduceSub,Int.reduceNeg,Nat.reduceAdd,zD] at *
def zLo:List AV->Option Res:=zOw (.pt yI) y8 y8 (fun o a b=>some (none,none,.s (.bool (onO o false fun x=>zAQ x a b))))
theorem zLw:qM Tryz.prog 55 zLo:=⟨zDZ fun o a b r h=>by
 cases h;cases o with
 | none=>exact qL (yN (fn:=[(78,zEC)]) (fr:=[]) ⟨zFi,trivial⟩ trivial) Tryz.func55 (by kernel_rfl) fun _ _=>zZp a b
 | some x=>exact qL (yN (fn:=[(78,zEC)]) (fr:=[]) ⟨zFi,trivial⟩ trivial) Tryz.func55 (by kernel_rfl) fun _ _=>z3i x a b,_,Tryz.func55,by kernel_rfl,by kernel_rfl⟩
end S1
/- A block that is no data, known for a while: nothing that is done changes it. -/
namespace Go.Vm
open Go.RowKit
def zHY:Obj->Bool
 | .cells _ _ _=>true
 | .map _ _=>true
 | _=>false
def Sig.add (σ:Sig) (l:Nat) (o:Obj):Sig:=fun b=>if b=l then some o else σ b
def Sig.del (σ:Sig) (l:Nat):Sig:=fun b=>if b=l then none else σ b
def Sig.leD (σ τ:Sig):Prop:= ∀ b o,σ b=some o->zHY o=true->τ b=some o
theorem Ole.nodata {o o':Obj} (h:Ole o o') (hd:zHY o=false):o'=o:=by
 rcases h with h|⟨c,c',T,fz,e,_⟩
 ·exact h.symm
 ·subst e;cases hd
section
variable {P:Program} {T:Tab} {B:Base} {w:World} {σ τ:Sig} {β:yR} {st:St} {tmps:Array Value}
theorem Sig.del_leD {l:Nat} (h: ∀ o,σ l=some o->zHY o=false):σ.leD (σ.del l):=fun b o e hd=>by
 unfold Sig.del;split
 ·rename_i hb;subst hb;rw [h o e] at hd;cases hd
 ·exact e
theorem zBu.leD (h:σ.leD τ) {b o:Nat} {ds:List Value} :zBu σ b o ds->zBu τ b o ds :=
 fun ⟨c,T,fz,e,r⟩=>⟨c,T,fz,h _ _ e rfl,r⟩
theorem jG.leD (hs:σ.leD τ): ∀ {e:ETy} {x:e.T} {ds:List Value},jG σ e x ds->jG τ e x ds
 | .int _,_,_,h=>h
 | .bool,_,_,h=>h
 | .arr2,_,_,h=>h
 | .arr3,_,_,h=>h
 | .pair _ _,_,_,h=>by obtain ⟨d1,d2,rfl,h1,h2⟩:=h;exact ⟨d1,d2,rfl,h1.leD hs,h2.leD hs⟩
 | .sl _,_,_,h=>by
   obtain ⟨a,cap,rfl,hl,hc,h⟩:=h;refine ⟨a,cap,rfl,hl,hc,fun hne=> ?_⟩;obtain ⟨b,o,ha,hr⟩:=h hne;exact ⟨b,o,ha,fun i x hx=>let ⟨d,h1,h2⟩:=hr i x hx;⟨d,h1.leD hs,h2.leD hs⟩⟩
 | .mp _ _,_,_,h=>by
   obtain ⟨r,rfl,hl,hn,h⟩:=h;refine ⟨r,rfl,hl,hn,fun b hb=> ?_⟩;obtain ⟨es,clock,h1,h2,h3⟩:=h b hb;exact ⟨es,clock,hs _ _ h1 rfl,h2,fun i x hx=>let ⟨en,dk,dv,e1,e2,e3,e4,e5⟩:=h3 i x hx;⟨en,dk,dv,e1,e2.leD hs,e3,e4.leD hs,e5⟩⟩
 | .pt _,none,_,h=>h
 | .pt _,some _,_,h=>by obtain ⟨b,off,d,rfl,h1,h2⟩:=h;exact ⟨b,off,d,rfl,h1.leD hs,h2.leD hs⟩
 | .unit,_,_,h=>h
 | .fnc,_,_,h=>h
theorem y5.leD (hs:σ.leD τ) {a:AS} {v:Value} (h:y5 σ β a v):y5 τ β a v:=by
 cases a with
 | int=>exact h
 | bool=>exact h
 | val=>exact h
 | sl=>exact jG.leD hs h
 | mp=>exact jG.leD hs h
 | pt=>exact jG.leD hs h
 | ip=>obtain ⟨b,o,d,e,h1,h2⟩:=h;exact ⟨b,o,d,e,h1.leD hs,h2.leD hs⟩
 | ipi=>obtain ⟨b,o,d,e,h1,h2,h3⟩:=h;exact ⟨b,o,d,e,h1.leD hs,h2.leD hs,h3⟩
 | own=>exact h
 | ptr=>exact h
 | pti=>exact h
 | omp=>exact h
 | arr=>exact h
 | clo f ps=>obtain ⟨vs,e,r⟩:=h;exact ⟨vs,e,r.mono fun _ _=>jG.leD hs⟩
 | nq=>exact h
 | junk=>exact h
theorem y6.leD (hs:σ.leD τ) {a:AV} {v:Value} (h:y6 σ β a v):y6 τ β a v:=h.map fun _ _=>y5.leD hs
theorem zA0.leD {w':World} {base sz:Nat} {vs:List Value} (hx:σ.leD τ) (hw: ∀ b o,σ b=some o->zHY o=true->w'.heap[b]? =w.heap[b]?) (h:zA0 σ w base sz vs):zA0 τ w' base sz vs :=
 ⟨fun v hv=>by
   rcases h.1 v hv with e|⟨b,o,n,cap,c,c',T,h1,h2,h3,h4⟩
   ·exact .inl e
   ·exact .inr ⟨b,o,n,cap,c,c',T,h1,hx _ _ h2 rfl,by rw [hw _ _ h2 rfl];exact h3,h4⟩,h.2⟩
theorem zAf.leD {w':World} {id:Nat} {ob:Ob} (hs:σ.leD τ) (hk: ∀ p,β[id]? =some (some p)->w'.heap[p.b]? =w.heap[p.b]?) (hkn: ∀ b o,σ b=some o->zHY o=true->w'.heap[b]? =w.heap[b]?)
 (h:zAf σ β w id ob):zAf τ β w' id ob:=by
 cases ob with
 | row e T xs =>
   obtain ⟨h0,h⟩:=h;refine ⟨h0,?_⟩;cases hβ:β[id]? with
   | none=>simp [hβ] at h
   | some x =>
     cases x with
     | none=>simpa [hβ] using h
     | some p =>
       simp only [hβ] at h ⊢;obtain ⟨h1,h2,h3,c,h4,h5,h6⟩:=h;exact ⟨h1,h2,h3,c,by rw [hk p hβ];exact h4,h5,fun i x hx=>let ⟨d,e1,e2⟩:=h6 i x hx;⟨d,e1.leD hs,e2⟩⟩
 | flat T cs =>
   obtain ⟨p,h1,h2,h3,h4,h5,c,h6,h7⟩:=h;exact ⟨p,h1,h2,h3,h4,h5,c,by rw [hk p h1];exact h6,h7.mono fun _ _=>y5.leD hs⟩
 | map k v m =>
   obtain ⟨h0,p,es,clock,h1,h2,h3,h4⟩:=h;exact ⟨h0,p,es,clock,h1,by rw [hk p h1];exact h2,h3,fun i x hx=>let ⟨en,dk,dv,e1,e2,e3,e4,e5⟩:=h4 i x hx;⟨en,dk,dv,e1,e2.leD hs,e3,e4.leD hs,e5⟩⟩
 | gmap k e m =>
   obtain ⟨h0,p,es,clock,h1,h2,h3,h4,h5,h6⟩:=h;exact ⟨h0,p,es,clock,h1,by rw [hk p h1];exact h2,h3,fun i x hx=>let ⟨en,dk,dv,e1,e2,e3,e4,e5⟩:=h4 i x hx;⟨en,dk,dv,e1,e2.leD hs,e3,e4.leD hs,e5⟩,h5.leD hs hkn,h6⟩
 | grow e T xss =>
   obtain ⟨h0,p,h1,h2,h3,h4,c,h5,h6,h7,h8⟩:=h;exact ⟨h0,p,h1,h2,h3,h4,c,by rw [hk p h1];exact h5,h6,fun i x hx=>let ⟨v,e1,e2⟩:=h7 i x hx;⟨v,e1.leD hs,e2⟩,h8.leD hs hkn⟩
 | fr X l=>exact ⟨h.1,fun t=>(h.2 t).leD hs⟩
def Base.lock (B:Base) (l:Nat) (o:Obj):Base:= {B with sg:=B.sg.add l o}
theorem GG.lock (h:GG B σ β st tmps w) {l:Nat} {o:Obj} (hB:B.w.heap.size<=l) (hl:w.heap[l]? =some o) (hn:σ l=none)
 (hp: ∀ id ob p,hget st.hp id=some ob->β[id]? =some (some p)->p.b≠l):GG (B.lock l o) (σ.add l o) β st tmps w:=by
 have hx: ∀ b u,σ b=some u->(σ.add l o) b=some u:=fun b u e=>by
  unfold Sig.add;split
  ·rename_i hb;subst hb;rw [hn] at e;cases e
  ·exact e
 have hle:σ.le (σ.add l o):=fun b u e=>⟨u,hx b u e,.refl⟩;refine ⟨⟨fun b u e=> ?_,fun id ob hi=>(h.mem.ob _ _ hi).sig hle hx⟩,fun t=>(h.env t).mono hle,h.len,fun id ob p hi hp'=> ?_,h.bel,⟨fun b u e=> ?_,fun b hb=> ?_⟩⟩
 ·unfold Sig.add at e;split at e
  ·rename_i hb;subst hb;cases e;exact ⟨_,hl,.refl⟩
  ·exact h.mem.ag _ _ e
 ·obtain ⟨s1,s2,s3⟩:=h.sep _ _ _ hi hp';refine ⟨?_,s2,s3⟩;unfold Sig.add;rw [if_neg (hp _ _ _ hi hp')];exact s1
 ·have e:(B.sg.add l o) b=some u:=e;unfold Sig.add at e ⊢;split at e
  ·rename_i hb;rw [if_pos hb];exact ⟨u,e,.refl⟩
  ·rename_i hb;rw [if_neg hb];exact h.grew.1 _ _ e
 ·have hb:b<B.w.heap.size:=hb;show (σ.add l o) b=(B.sg.add l o) b;unfold Sig.add;rw [if_neg (by omega),if_neg (by omega)];exact h.grew.2 b hb
theorem GG.locked {l:Nat} {o:Obj} (h:GG (B.lock l o) σ β st tmps w) (hd:zHY o=false):σ l=some o/\w.heap[l]? =some o/\∀ id ob p,hget st.hp id=some ob->β[id]? =some (some p)->p.b≠l:=by
 obtain ⟨o',e1,e2⟩:=h.grew.1 l o (by show (B.sg.add l o) l=_;unfold Sig.add;rw [if_pos rfl]);have:=e2.nodata hd;subst this;obtain ⟨o2,e3,e4⟩:=h.mem.ag _ _ e1;have:=e4.nodata hd;subst this;refine ⟨e1,e3,fun id ob p hi hp e=> ?_⟩;have:=(h.sep _ _ _ hi hp).1;rw [e,e1] at this;cases this
theorem GG.unlock {l:Nat} {o:Obj} (h:GG (B.lock l o) σ β st tmps w) (hd:zHY o=false) (hB:B.w.heap.size<=l) (hn:B.sg l=none) (o':Obj) :
 GG B (σ.del l) β st tmps (w.putObj l o')/\(σ.del l) l=none/\(w.putObj l o').heap[l]? =some o'/\∀ id ob p,hget st.hp id=some ob->β[id]? =some (some p)->p.b≠l:=by
 obtain ⟨h1,h2,h3⟩:=h.locked hd;have hs:σ.leD (σ.del l):=Sig.del_leD fun o2 e=>by rw [h1] at e;cases e;exact hd
 have hlt:=(zW.1 h2).1;have hoth: ∀ b,b≠l->(w.putObj l o').heap[b]? =w.heap[b]? :=fun b hb=>World.putObj_heap_other (fun e=>hb e);have hdl:(σ.del l) l=none:=by unfold Sig.del;rw [if_pos rfl]
 refine ⟨⟨⟨fun b u e=> ?_,fun id ob hi=>(h.mem.ob _ _ hi).leD hs (fun p hp=>hoth _ (h3 _ _ _ hi hp)) fun b u e hdu=>hoth _ fun hb=> ?_⟩,fun t=>(h.env t).leD hs,h.len,fun id ob p hi hp'=> ?_,?_,⟨fun b u e=> ?_,fun b hb=> ?_⟩⟩,hdl,World.putObj_heap_same hlt,h3⟩
 ·unfold Sig.del at e;split at e
  ·cases e
  ·rename_i hb;rw [hoth b hb];exact h.mem.ag _ _ e
 ·subst hb;rw [h1] at e;cases e;rw [hd] at hdu;cases hdu
 ·obtain ⟨s1,s2,s3⟩:=h.sep _ _ _ hi hp';refine ⟨?_,s2,s3⟩;unfold Sig.del;rw [if_neg (h3 _ _ _ hi hp')];exact s1
 ·exact ⟨h.bel.toBelow.grown (grownBy_putObj' w l o') (Nat.le_of_lt (Nat.lt_of_le_of_lt hB hlt)) (fun k e=>by cases e;exact hB),h.bel.drawn⟩
 ·have hb:b≠l:=fun hb=>by subst hb;rw [hn] at e;cases e
  unfold Sig.del;rw [if_neg hb];refine h.grew.1 b u ?_;show (B.sg.add l o) b=_;unfold Sig.add;rw [if_neg hb];exact e
 ·have hne:b≠l:=by omega
  unfold Sig.del;rw [if_neg hne];have:=h.grew.2 b hb;rw [this];show (B.sg.add l o) b=_;unfold Sig.add;rw [if_neg hne]
end
end Go.Vm
/- A range over a function: the sequence is a closure that is known to yield a list. -/
namespace Go.Vm
open Go.RowKit
abbrev zMm:=Option ((e:ETy)×(Int->e.T))
def zPl:List PtV->zMm
 | [⟨.sl e,xs⟩]=>some ⟨e,fun i=>List.getD xs i.toNat e.dflt⟩
 | _=>none
def zFL (σ:Sig):zMm->Int->List Value->Prop
 | none,_,vs=>vs=[]
 | some s,x,vs=> ∃ ds:List Value,vs=[.agg ds.toArray]/\jG σ s.1 (s.2 x) ds
def z4A:zMm->Int->List AV
 | none,_=>[]
 | some s,x=>[.agg (s.1.cells (s.2 x))]
def z9P:zMm->Nat
 | none=>0
 | some _=>1
theorem zFL.len {σ:Sig} {sec:zMm} {x:Int} {vs:List Value} (h:zFL σ sec x vs):vs.length=z9P sec:=by
 cases sec with
 | none=>rw [show vs=[] from h];rfl
 | some s=>obtain ⟨ds,e,_⟩:=h;rw [e];rfl
theorem zFL.mono {σ τ:Sig} {sec:zMm} {x:Int} {vs:List Value} (hs:σ.le τ) (h:zFL σ sec x vs):zFL τ sec x vs:=by
 cases sec with
 | none=>exact h
 | some s=>obtain ⟨ds,e,k⟩:=h;exact ⟨ds,e,k.mono hs⟩
theorem zFL.av {σ:Sig} {β:yR} {sec:zMm} {x:Int} {vs:List Value} (h:zFL σ sec x vs):jH σ β (z4A sec x) vs:=by
 cases sec with
 | none=>rw [show vs=[] from h];trivial
 | some s=>obtain ⟨ds,e,k⟩:=h;subst e;exact ⟨⟨ds,rfl,k.cells⟩,trivial⟩
def putZ (st:St):List Tmp->List AV->St
 | p::ps,v::vs=>putZ (st.put (some p) v) ps vs
 | _,_=>st
def z5v (tmps:Array Value) (l:List (Tmp×Value)):Array Value:=l.foldl (fun tmps x=>match x with|(t,a)=>tmps.setIfInBounds t a) tmps
def z8z (P:Program) (g:FuncId) (lb:Array Value) (sec:zMm) (L:List Int) (σ:Sig):Prop :=
 ∀ (l:Nat) (J:List Int->Sig->World->Prop) (W:World),Ag σ W->(∀ pre σp A A',J pre σp A->Below A.heap.size A A'->J pre σp A')->
   (∀ pre x vs σp σ1 Ws W1,J pre σp Ws->Below Ws.heap.size Ws W1->(∀ b,b<Ws.heap.size->σ1 b=σp b)->Ag σ1 W1->(pre++[x]) <+: L->zFL σ1 sec x vs->
     YieldAt Fence.wide 0 P l (Value.int .i64 x::vs).toArray W1 fun e W'=>e= .returned (.bool true)/\J (pre++[x]) σ1 W'/\Ag σ1 W')->
   J [] σ W->CallsIn Fence.wide 0 P g (#[.func (.yield l) #[] #[]]++lb) W fun e W'=>(∃ v,e= .returned v)/\∃ σ',J L σ' W'
structure z4B (P:Program) (g:FuncId) (ps:List PtV) (L:List Int):Prop where
 enter: ∀ args w,(callFunc g args).run P w= .ok (.enter g args) w
 ok: ∀ x∈L,InK .i64 x
 seq: ∀ (σ:Sig) (vs:List Value),jQ (fun (q:PtV) u=>jG σ (.pt q.e) (some q.x) [u]) ps vs->z8z P g vs.toArray (zPl ps) L σ
def backTo (id:Nat) (X:Array Value) (s:St) (K:St->Prop):Prop :=
 match hget s.hp id with
 | some (.fr X' l)=>X'=X/\(⟨l,s.hp,s.next⟩:St).forceAll K
 | _=>False
def zIv (st:St) (X:Array Value):St:=⟨zJq [] st.env,(st.next,.fr X (zJq [] st.env))::st.hp,st.next+1⟩
def zUQ (T:Tab) (ps:List Tmp) (sec:zMm) (assign body:Code) (st:St) (L:List Int) (S:Array Value->Nat->St):Prop :=
 ∀ X :Array Value,zOs (zIv st X) (S X 0)/\∀ k,k<L.length->(putZ (S X k) ps (.s (.int .i64 (L.getD k 0))::z4A sec (L.getD k 0))).forceAll fun h=>zA8 T assign h fun e s=>match e with
   | .normal=>zA8 T body s fun e s=>match e with
     | .normal=>backTo st.next X s fun s=>zOs s (S X (k+1))
     | _=>False
   | _=>False
section
variable {P:Program} {T:Tab} {B:Base} {w w':World} {σ τ:Sig} {β:yR} {st:St} {tmps:Array Value} {N:Nat} {a:Act}
theorem GG.rebase (h:GG B σ β st tmps w) {B':Base} (hw:B'.w=B.w) (hg:B'.sg=B.sg):GG B' σ β st tmps w:=by
 obtain ⟨bw,bs,bd⟩:=B;obtain ⟨bw',bs',bd'⟩:=B';cases hw;cases hg;exact ⟨h.mem,h.env,h.len,h.sep,h.bel,h.grew⟩
theorem GG.base (h:GG B σ β st tmps w) (ds:List Deferred):GG {w:=B.w,sg:=σ,dfs:=ds} σ β st tmps w :=
 ⟨h.mem,h.env,h.len,h.sep,h.bel,⟨Sig.le.refl _,fun _ _=>rfl⟩⟩
theorem GG.grown (h:GG B σ β st tmps w) (hb:Below w.heap.size w w'):GG B σ β st tmps w':=by
 have hs:B.w.heap.size<=w.heap.size:=h.bel.size;refine ⟨⟨fun b o e=> ?_,fun id ob hi=>(h.mem.ob _ _ hi).same (fun p hp=>hb.block _ ((h.mem.ob _ _ hi).lt hp)) fun b o e=>hb.block _ (h.mem.ag.lt e)⟩,h.env,h.len,h.sep,h.bel.trans (hb.mono hs),h.grew⟩;rw [hb.block _ (h.mem.ag.lt e)];exact h.mem.ag _ _ e
theorem GG.framed (h:GG B σ β st tmps w):GG B σ (β++[none]) (zIv st tmps) tmps w:=by
 have hlast:(β++[none])[st.next]? =some none:=by rw [<- h.len];simp
 have hold: ∀ {id:Nat},id<st.next->(β++[none])[id]? =β[id]? :=fun hi=>by rw [List.getElem?_append_left];rw [h.len];exact hi
 refine ⟨⟨h.mem.ag,fun id ob hi=> ?_⟩,fun t=>(zKq h.env t).more none,by simp [h.len,zIv],fun id ob p hi hp=> ?_,h.bel,h.grew⟩
 ·simp only [zIv,yL] at hi;split at hi
  ·rename_i e;subst e;cases hi;exact ⟨hlast,fun t=>(zKq h.env t).more none⟩
  ·exact (h.mem.ob _ _ hi).keep none (fun _ _=>rfl) fun _ _ _=>rfl
 ·simp only [zIv,yL] at hi;split at hi
  ·rename_i e;subst e;rw [hlast] at hp;cases hp
  ·have hlt:=h.id_lt hi;rw [hold hlt] at hp;obtain ⟨s1,s2,s3⟩:=h.sep _ _ _ hi hp;refine ⟨s1,s2,fun id2 ob2 p2 hne2 hi2 hp2=> ?_⟩;simp only [zIv,yL] at hi2;split at hi2
   ·rename_i e;subst e;rw [hlast] at hp2;cases hp2
   ·rw [hold (h.id_lt hi2)] at hp2;exact s3 _ _ _ hne2 hi2 hp2
theorem GG.turnLock {l:Nat} {o:Obj} (h:GG (B.lock l o) σ β st tmps w) (hd:zHY o=false) (hB:B.w.heap.size<=l) (hn:B.sg l=none) (o':Obj) :
 GG (B.lock l o') ((σ.del l).add l o') β st tmps (w.putObj l o'):=by
 obtain ⟨h1,h2,h3,h4⟩:=h.unlock hd hB hn o';exact h1.lock hB h3 h2 h4
theorem GG.back {id:Nat} {X:Array Value} {l:Env} (h:GG B σ β st tmps w) (hi:hget st.hp id=some (.fr X l)):GG B σ β ⟨l,st.hp,st.next⟩ X w :=
 ⟨h.mem,(h.mem.ob _ _ hi).2,h.len,h.sep,h.bel,h.grew⟩
theorem zSd {id:Nat} {X:Array Value} {s:St} {K:St->Prop} (h:backTo id X s K): ∃ l,hget s.hp id=some (.fr X l)/\K ⟨l,s.hp,s.next⟩:=by
 unfold backTo at h;split at h
 ·rename_i X' l e;obtain ⟨rfl,h⟩:=h;rw [St.forceAll_eq] at h;exact ⟨l,e,h⟩
 ·exact h.elim
theorem GG.knowMore (h:GG B σ β st tmps w) (hx: ∀ b o,σ b=some o->τ b=some o) (hag:Ag τ w) (hp: ∀ id ob p,hget st.hp id=some ob->β[id]? =some (some p)->τ p.b=none) (ds:List Deferred) :
 GG {w:=B.w,sg:=τ,dfs:=ds} τ β st tmps w:=by
 have hle:σ.le τ:=fun b o e=>⟨o,hx b o e,.refl⟩;exact ⟨⟨hag,fun id ob hi=>(h.mem.ob _ _ hi).sig hle hx⟩,fun t=>(h.env t).mono hle,h.len,fun id ob p hi hq=>⟨hp _ _ _ hi hq,(h.sep _ _ _ hi hq).2⟩,h.bel,⟨Sig.le.refl _,fun _ _=>rfl⟩⟩
theorem Base.relock (B:Base) {D:Nat} {o:Obj} (h:B.sg D=some o):B=({B with sg:=B.sg.del D} :Base).lock D o:=by
 obtain ⟨bw,bs,bd⟩:=B;show (⟨bw,bs,bd⟩:Base)=⟨bw,(bs.del D).add D o,bd⟩
 congr 1
 funext b
 unfold Sig.add Sig.del;split
 ·rename_i e;subst e;exact h
 ·rfl
structure Rnd (B:Base) (D l:Nat) (rdy:Obj) (N:Nat) (st:St) (tmps:Array Value) (σp:Sig) (w:World) (B1:Base):Prop where
 ww:B1.w=B.w
 dfs:B1.dfs=[]
 grew:zTG B B1.sg
 le:σp.le B1.sg
 mark:B1.sg D=some (.deferred (some []))
 free:B1.sg l=none
 ga:GA (B1.lock l rdy) N st {tmps:=tmps,defers:=[]} w
theorem Rnd.grown {B1:Base} {D l:Nat} {rdy:Obj} {σp:Sig} (h:Rnd B D l rdy N st tmps σp w B1) (hb:Below w.heap.size w w'):Rnd B D l rdy N st tmps σp w' B1 :=
 ⟨h.ww,h.dfs,h.grew,h.le,h.mark,h.free,let ⟨σ',β',hg'⟩:=h.ga.gg;⟨h.ga.defers,h.ga.size,σ',β',hg'.grown hb⟩⟩
theorem Rnd.ag {B1:Base} {D l:Nat} {rdy:Obj} {σp:Sig} (h:Rnd B D l rdy N st tmps σp w B1):Ag σp w:=fun b u e=>by
 obtain ⟨σ',β',hg'⟩:=h.ga.gg;obtain ⟨u1,e1,k1⟩:=h.le b u e;have hne:b≠l:=fun e'=>by rw [e',h.free] at e1;cases e1
 obtain ⟨u2,e2,k2⟩:=hg'.grew.1 b u1 (by show (B1.sg.add _ _) b=_;unfold Sig.add;rw [if_neg hne];exact e1);obtain ⟨u3,e3,k3⟩:=hg'.mem.ag _ _ e2;exact ⟨u3,e3,(k1.trans k2).trans k3⟩
theorem Rnd.learn {B1:Base} {D l:Nat} {rdy:Obj} {σp σ1:Sig} (h:Rnd B D l rdy N st tmps σp w B1) (hd:zHY rdy=false) (hBl:B.w.heap.size<=l) (hDl:D≠l) (hb:Below w.heap.size w w') (he: ∀ b,b<w.heap.size->σ1 b=σp b) (hag:Ag σ1 w') :
 ∃ B2,Rnd B D l rdy N st tmps σ1 w' B2:=by
 obtain ⟨σr,βr,hgr⟩:=h.ga.gg;obtain ⟨hl1,hl2,_⟩:=hgr.locked hd;have hll:l<w.heap.size:=(zW.1 hl2).1;have hBw:B.w.heap.size<=w.heap.size:=by have:=hgr.bel.size;rw [show (B1.lock l rdy).w=B.w from h.ww] at this;exact this
 obtain ⟨τ,hτ⟩: ∃ τ:Sig,τ=fun b=>if b<w.heap.size then σr b else σ1 b:=⟨_,rfl⟩;have ho: ∀ b,b<w.heap.size->τ b=σr b:=fun b hb=>by rw [hτ];show (if _ then _ else _)=_;rw [if_pos hb]
 have hn: ∀ b,¬ b<w.heap.size->τ b=σ1 b:=fun b hb=>by rw [hτ];show (if _ then _ else _)=_;rw [if_neg hb]
 have hx: ∀ b o,σr b=some o->τ b=some o:=fun b o e=>by rw [ho b (hgr.mem.ag.lt e)];exact e
 have hg2:=(hgr.grown hb).knowMore (τ:=τ) hx (fun b o e=>by
  by_cases hlt:b<w.heap.size
  ·rw [ho b hlt] at e;exact (hgr.grown hb).mem.ag _ _ e
  ·rw [hn b hlt] at e;exact hag _ _ e) (fun id ob p hi hp=>by rw [ho _ ((hgr.mem.ob _ _ hi).lt hp)];exact (hgr.sep _ _ _ hi hp).1) []
 have hτl:τ l=some rdy:=hx _ _ hl1;rw [Base.relock {w:=(B1.lock l rdy).w,sg:=τ,dfs:=[]} hτl] at hg2;have zDU: ∀ b,b≠l->(τ.del l) b=τ b:=fun b hb=>by unfold Sig.del;rw [if_neg hb]
 have hB1: ∀ b o,B1.sg b=some o->∃ o',τ b=some o'/\Ole o o':=fun b o e=>by
  have hne:b≠l:=fun e'=>by rw [e',h.free] at e;cases e
  obtain ⟨u2,e2,k2⟩:=hgr.grew.1 b o (by show (B1.sg.add _ _) b=_;unfold Sig.add;rw [if_neg hne];exact e);exact ⟨u2,hx _ _ e2,k2⟩
 have hne1: ∀ b o,B1.sg b=some o->b≠l:=fun b o e e'=>by rw [e',h.free] at e;cases e
 refine ⟨{w:=(B1.lock l rdy).w,sg:=τ.del l,dfs:=[]},h.ww,rfl,⟨fun b o e=> ?_,fun b hb'=> ?_⟩,fun b o e=> ?_,?_,by show (τ.del l) l=none;unfold Sig.del;rw [if_pos rfl],⟨rfl,h.ga.size,τ,βr,hg2⟩⟩
 ·obtain ⟨o1,e1,k1⟩:=h.grew.1 b o e;obtain ⟨o2,e2,k2⟩:=hB1 b o1 e1;exact ⟨o2,by show (τ.del l) b=_;rw [zDU b (hne1 b o1 e1)];exact e2,k1.trans k2⟩
 ·show (τ.del l) b=_;have hlt:b<l:=by omega
  rw [zDU b (by omega),ho b (by omega)];refine ((hgr.grew.2 b (by rw [show (B1.lock l rdy).w=B.w from h.ww];exact hb')).trans ?_).trans (h.grew.2 b hb');show (B1.sg.add _ _) b=_;unfold Sig.add;rw [if_neg (by omega)]
 ·by_cases hlt:b<w.heap.size
  ·rw [he b hlt] at e;obtain ⟨o1,e1,k1⟩:=h.le b o e;obtain ⟨o2,e2,k2⟩:=hB1 b o1 e1;exact ⟨o2,by show (τ.del l) b=_;rw [zDU b (hne1 b o1 e1)];exact e2,k1.trans k2⟩
  ·exact ⟨o,by show (τ.del l) b=_;rw [zDU b (by omega),hn b hlt];exact e,.refl⟩
 ·obtain ⟨o2,e2,k2⟩:=hB1 _ _ h.mark;have:=k2.nodata rfl;subst this;show (τ.del l) D=_;rw [zDU D hDl];exact e2
theorem zO2: ∀ (l:List (Tmp×Value)) (tmps:Array Value),(z5v tmps l).size=tmps.size
 | [],_=>rfl
 | (t,a)::r,tmps=>(zO2 r _).trans (by simp)
theorem GG.putZ: ∀ {ps:List Tmp} {avs:List AV} {vs:List Value} {st:St} {tmps:Array Value},(∀ p∈ps,p<tmps.size)->jH σ β avs vs->GG B σ β st tmps w->GG B σ β (putZ st ps avs) (z5v tmps (ps.zip vs)) w
 | [],_,_,_,_,_,_,h=>by simpa [Vm.putZ,z5v] using h
 | p::ps,[],[],_,_,_,_,h=>by simpa [Vm.putZ,z5v] using h
 | p::ps,av::avs,v::vs,st,tmps,hp,hv,h=>by
   have h1:=h.put (d:=some p) (a:=av) (v:=v) (fun t e=>by cases e;exact hp p (zY ..)) hv.1;exact GG.putZ (ps:=ps) (avs:=avs) (vs:=vs) (fun q hq=>by simpa [zHa] using hp q (zQ _ hq)) hv.2 h1
 | p::ps,[],_::_,_,_,_,h,_=>h.elim
 | p::ps,_::_,[],_,_,_,h,_=>h.elim
theorem z0o (R:jM P T) {g:Operand} {ps:Array Tmp} {assign body:Code} {Q:Exit->Act->World->Prop} (ha:codeOk N assign=true) (hb:codeOk N body=true) (hp: ∀ p∈ps.toList,p<N) (hgo:zDy g=true)
 (h:GA B N st a w) {f:FuncId} {qs:List PtV} {L:List Int} (hg:y7 st.env g= .s (.clo f qs)) (hs:z4B P f qs L) (hnp:ps.size=z9P (zPl qs)+1) {S:Array Value->Nat->St} (hr:zUQ T ps.toList (zPl qs) assign body st L S)
 (hQ: ∀ (B1:Base) (D:Nat) (a':Act) (w':World),B1.w=B.w->zTG B B1.sg->B1.dfs= {target:= .collected D,args:= #[]} ::B.dfs->B1.sg D=some (.deferred (some []))->B.w.heap.size<=D->B.sg D=none->
   GA B1 N (S a.tmps L.length) a' w'->Q .normal a' w') :
 (Code.rangeFunc g ps assign body).wpIn (FR none) 0 P Q a w:=by
 obtain ⟨hle0,hround⟩:=hr a.tmps;obtain ⟨σs,βs,hgg⟩:=h.gg;have hval:=jP hgg hgo;rw [hg] at hval;obtain ⟨vs,hev,hcap⟩:=hval;have hseq:=hs.seq σs vs hcap;refine wpIn_rangeFunc ?_;intro fn hfn;obtain ⟨rec,hrec⟩: ∃ rec:LoopState->Option Code->Loop,rec=fun st pe=> {state:=st,pending:=pe,fn,tmps:=a.tmps,params:=ps,assign,body,defers:=w.heap.size} :=⟨_,rfl⟩;obtain ⟨W1,hW1⟩: ∃ W1,(w.alloc (.deferred (some []))).alloc (.loop (rec .ready none))=W1:=⟨_,rfl⟩
 have hL1:W1.heap[w.heap.size+1]? =some (.loop (rec .ready none)):=by
  rw [<- hW1];have:=World.alloc_heap_new (w.alloc (.deferred (some []))) (.loop (rec .ready none));rwa [World.size_alloc] at this
 have hK1:W1.heap[w.heap.size]? =some (.deferred (some [])):=by
  rw [<- hW1];exact (Go.RowKit.Below.heap_alloc _ _ _ (by simp)).trans (World.alloc_heap_new w _)
 have hbw:Below w.heap.size w W1:=by
  rw [<- hW1];exact ((Below.refl _ w).alloc (zI _) _).alloc (by simp) _
 have hBw:B.w.heap.size<=w.heap.size:=hgg.bel.size
 -- the rounds' base: what is known at the start, and the block for the deferred calls
 have hσD:σs w.heap.size=none:=by
  cases e:σs w.heap.size with
  | none=>rfl
  | some o=>exact absurd (hgg.mem.ag.lt e) (Nat.lt_irrefl _)
 have hσl:σs (w.heap.size+1)=none:=by
  cases e:σs (w.heap.size+1) with
  | none=>rfl
  | some o=>exact absurd (hgg.mem.ag.lt e) (by omega)
 obtain ⟨B1,hB1⟩: ∃ B1:Base,B1=({w:=B.w,sg:=σs,dfs:=[]} :Base).lock w.heap.size (.deferred (some [])):=⟨_,rfl⟩;have hB1w:B1.w=B.w:=by rw [hB1];rfl
 have hB1l:B1.sg (w.heap.size+1)=none:=by
  rw [hB1];show (Sig.add σs _ _) _=_;unfold Sig.add;rw [if_neg (by omega)];exact hσl
 have hB1D:B1.sg w.heap.size=some (.deferred (some [])):=by
  rw [hB1];show (Sig.add σs _ _) _=_;unfold Sig.add;rw [if_pos rfl]
 have hB1le:σs.le B1.sg:=fun b o e=>⟨o,by
  rw [hB1];show (Sig.add σs _ _) _=_
  unfold Sig.add;rw [if_neg (fun e'=>by rw [e',hσD] at e;cases e)];exact e,.refl⟩
 have hBl:B1.w.heap.size<=w.heap.size+1:=by rw [hB1w];omega
 have hB1g:zTG B B1.sg:=⟨hgg.grew.1.trans hB1le,fun b hb'=>by
  rw [hB1];show (Sig.add σs _ _) b=_;unfold Sig.add
  rw [if_neg (by omega)];exact hgg.grew.2 b hb'⟩
 have hstart:GA (B1.lock (w.heap.size+1) (.loop (rec .ready none))) N (S a.tmps 0) {tmps:=a.tmps,defers:=[]} W1:=by
  have g1:=((hgg.framed).base []).grown hbw;have hpl: ∀ id ob q,hget (zIv st a.tmps).hp id=some ob->(βs++[none])[id]? =some (some q)->q.b<w.heap.size:=fun id ob q hi hq=>(hgg.framed.mem.ob _ _ hi).lt hq;have g2:=g1.lock (l:=w.heap.size) (o:= .deferred (some [])) hBw hK1 hσD (fun id ob q hi hq e=>by have:=hpl _ _ _ hi hq;omega);have g3:=g2.lock (l:=w.heap.size+1) (o:= .loop (rec .ready none)) (Nat.le_succ_of_le hBw) hL1 (by unfold Sig.add;rw [if_neg (by omega)];exact hσl) (fun id ob q hi hq e=>by have:=hpl _ _ _ hi hq;omega)
  rw [<- hB1] at g3;have:GA (B1.lock (w.heap.size+1) (.loop (rec .ready none))) N (zIv st a.tmps) {tmps:=a.tmps,defers:=[]} W1:=⟨by rw [hB1];rfl,h.size,_,_,g3⟩;exact this.weaken hle0
 refine ⟨w.heap.size+1,[{target:= .collected w.heap.size,args:= #[]}],W1,{target:= .fn (.func f) vs.toArray,args:= #[.func (.yield (w.heap.size+1)) #[] #[]]},W1,f,
  #[.func (.yield (w.heap.size+1)) #[] #[]]++vs.toArray,W1,?_,?_,?_,?_,fun hh=>(by cases hh),?_⟩
 ·rw [<- hW1,hrec];exact run_enterLoop_outer _ _ _ _ _
 ·simp only [resolve,hev];simp [go_sem]
 ·intro f' hf';trivial
 ·simp [invoke,go_sem,hs.enter]
 ·have hrnd:Rnd B w.heap.size (w.heap.size+1) (.loop (rec .ready none)) N (S a.tmps 0) a.tmps σs W1 B1:=⟨hB1w,by rw [hB1];rfl,hB1g,hB1le,hB1D,hB1l,hstart⟩
  refine (hseq (w.heap.size+1) (fun pre σp W=> ∃ B1,Rnd B w.heap.size (w.heap.size+1) (.loop (rec .ready none)) N (S a.tmps pre.length) a.tmps σp W B1) W1 hrnd.ag
   (fun pre σp A A' ⟨B2,hj⟩ hb'=>⟨B2,hj.grown hb'⟩) ?_ ⟨B1,hrnd⟩).mono ?_
  ·-- one round
   rintro pre x vs' σp σ1 Ws W ⟨B0,hj0⟩ hbW heq hag1 hpre hsec;obtain ⟨B2,hr2⟩:=hj0.learn rfl (Nat.le_succ_of_le hBw) (by omega) hbW heq hag1;have hj:=hr2.ga;have hBl:B2.w.heap.size<=w.heap.size+1:=by rw [hr2.ww];omega
   have hB1l:=hr2.free;obtain ⟨σ1',β1,hg1⟩:=hj.gg;obtain ⟨hl1,hl2,hl3⟩:=hg1.locked rfl
   have hlen:pre.length<L.length:=by
    have:=hpre.length_le;simp at this;omega
   have hxk:L.getD pre.length 0=x:=by
    obtain ⟨t,rfl⟩:=hpre;simp [gdE]
   have hxL:x∈L:=hpre.subset (by simp);have hy:=run_yield (P:=P) (args:=(Value.int .i64 x::vs').toArray) hl2 (by rw [hrec];simp [hsec.len,hnp]);rw [hrec] at hy;refine ⟨fn,_,assign,body,hy,roundIn_of_wpIn hfn ?_⟩;have hrd:=hround _ hlen;rw [St.forceAll_eq,hxk] at hrd
   have hsl:σ1.le σ1':=fun b u e=>by
    obtain ⟨u1,e1,k1⟩:=hr2.le b u e;have hne:b≠w.heap.size+1:=fun e'=>by rw [e',hB1l] at e1;cases e1
    obtain ⟨u2,e2,k2⟩:=hg1.grew.1 b u1 (by show (B2.sg.add _ _) b=_;unfold Sig.add;rw [if_neg hne];exact e1);exact ⟨u2,e2,k1.trans k2⟩
   have hga1:GA (B2.lock (w.heap.size+1) (.loop (rec .ready none))) N (putZ (S a.tmps pre.length) ps.toList (.s (.int .i64 x)::z4A (zPl qs) x)) {tmps:=z5v a.tmps (ps.toList.zip (Value.int .i64 x::vs')),defers:=[]} W :=
    ⟨hj.defers,(zO2 _ _).trans h.size,σ1',β1,hg1.putZ (fun p hq=>by show p<a.tmps.size;rw [h.size];exact hp p hq) ⟨⟨rfl,hs.ok x hxL⟩,(hsec.mono hsl).av⟩⟩
   have hfold:Array.foldl (fun (tmps:Array Value) (x:Tmp×Value)=>match x with|(t,a)=>tmps.setIfInBounds t a) a.tmps (ps.zip (Value.int .i64 x::vs').toArray)=z5v a.tmps (ps.toList.zip (Value.int .i64 x::vs')):=by
    rw [<- Array.foldl_toList,Array.toList_zip];rfl
   refine zA2 (B:=B2.lock (w.heap.size+1) (.loop (rec .ready none))) (r:=some (w.heap.size+1)) R assign ha (by dsimp only;rw [hfold];exact hga1) hrd fun e s1 a1 W2 hk2 hga2=> ?_;cases e with
   | normal =>
     obtain ⟨σ2,β2,hg2⟩:=hga2.gg;obtain ⟨_,hl2',_⟩:=hg2.locked rfl;have hbr:=run_beginRound (P:=P) hl2' (by rw [hrec]);refine ⟨_,hbr,?_⟩;have hg3:=hg2.turnLock rfl hBl hB1l (.loop {rec .ready none with state:= .busy});have hga3:GA (B2.lock (w.heap.size+1) (.loop {rec .ready none with state:= .busy})) N s1 a1 (W2.putObj (w.heap.size+1) (.loop {rec .ready none with state:= .busy})):=⟨hga2.defers,hga2.size,_,_,hg3⟩
     refine zA2 (r:=some (w.heap.size+1)) R body hb hga3 hk2 fun e s4 a4 W4 hk4 hga4=> ?_;cases e with
     | normal =>
       obtain ⟨l',hfr,hle⟩:=zSd hk4;obtain ⟨σ4,β4,hg4⟩:=hga4.gg;obtain ⟨_,hl4,_⟩:=hg4.locked rfl;have hg5:=(hg4.back hfr).turnLock rfl hBl hB1l (.loop (rec .ready none));have hga5:GA (B2.lock (w.heap.size+1) (.loop (rec .ready none))) N ⟨l',s4.hp,s4.next⟩ {tmps:=a.tmps,defers:=[]} (W4.putObj (w.heap.size+1) (.loop (rec .ready none))):=⟨hj.defers,h.size,_,_,hg5⟩;have her:=run_endRound (P:=P) none hl4;have hga6:=hga5.weaken hle
       have hr6:Rnd B w.heap.size (w.heap.size+1) (.loop (rec .ready none)) N (S a.tmps (pre.length+1)) a.tmps σ1 (W4.putObj (w.heap.size+1) (.loop (rec .ready none))) B2:=⟨hr2.ww,hr2.dfs,hr2.grew,hr2.le,hr2.mark,hr2.free,hga6⟩;refine ⟨_,_,by rw [hrec] at her ⊢;exact her,rfl,?_,hr6.ag⟩;rw [zN];exact ⟨B2,hr6⟩
     | _=>exact hk4.elim
   | _=>exact hk2.elim
  ·-- behind the sequence
   rintro e W2 ⟨⟨v,rfl⟩,σ',B2,hj⟩;obtain ⟨σ2,β2,hg2⟩:=hj.ga.gg;obtain ⟨_,hl2,_⟩:=hg2.locked rfl;refine ⟨none,_,by have:=run_endLoop (P:=P) hl2 (by rw [hrec];simp);rw [hrec] at this;exact this,?_⟩;obtain ⟨hg3,_,_,_⟩:=hg2.unlock rfl (by rw [hj.ww];omega) hj.free (.loop {rec .ready none with state:= .exhausted});refine hQ {B2 with dfs:= {target:= .collected w.heap.size,args:= #[]} ::B.dfs} w.heap.size _ _ hj.ww hj.grew rfl hj.mark hBw ?_ ?_
   ·cases e:B.sg w.heap.size with
    | none=>rfl
    | some o=>obtain ⟨o1,e1,_⟩:=hgg.grew.1 _ _ e;rw [hσD] at e1;cases e1
   ·have hfin:=hg3.rebase (B':= {B2 with dfs:= {target:= .collected w.heap.size,args:= #[]} ::B.dfs}) rfl rfl;rw [hrec] at hfin;exact ⟨by show _::a.defers=_;rw [h.defers],h.size,_,_,hfin⟩
end
end Go.Vm
