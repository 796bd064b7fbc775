/- A part of the proofs of the laws. -/
import Derived.Test.YtlhoihabllompaaGreatW1toZ1p
import Derived.Test.YtlhoihabllompaaGreatFan1toI2
import Derived.Test.YtlhoihabllompaaGreatT5toT22
set_option linter.unusedSimpArgs false
set_option linter.unusedVariables false
set_option maxHeartbeats 8000000
set_option maxRecDepth 100000
open Go.Proofs.Tryz
open Go Go.Vm Go.Proofs
namespace S1
def zS3 (l:List P3) (p q r:Int):Prop:= ∃ t∈l,z8 t p/\z8 t q/\z8 t r
def z20 (l:List P3) (v:Int):Prop:= ∀ w,w≠v->(∃ t∈l,z8 t v/\z8 t w)->(l.filter (both v w)).length=2
def z8x (l:List P3) (a:Int):Prop:= ∃ t∈l,z8 t a/\∀ u∈l,u≠t->∀ p q,p≠q->z8 t p->z8 t q->z8 u p->z8 u q->False
def z9V (l:List P3) (a:Int):Prop:= ∃ p q r,a≠p/\a≠q/\a≠r/\p≠q/\p≠r/\q≠r/\zS3 l a p q/\zS3 l a p r/\zS3 l a q r/\zS3 l p q r
structure zBN (l:List P3) (a b:Int):Prop where
 ne:a≠b
 near: ∃ t∈l,z8 t a/\z8 t b
 brd:(l.filter (both a b)).length=2->z20 l a\/z20 l b
 com: ∀ v,v≠a->v≠b->(∃ t∈l,z8 t a/\z8 t v)->(∃ u∈l,z8 u b/\z8 u v)->zS3 l a b v
 one: ¬ z8x l a
 tet: ¬ z9V l a
section
variable {x:yI.T}
theorem zKz (g:Full x) (hs:jV (InN x.1.1) x.1.2) {v:Int} (hv:InN x.1.1 v):zAY x v=true↔z20 x.1.2 v:=by
 rw [zGi g hv];unfold z20;constructor
 ·intro h w hw hn;have k:=(zBj g (a:=v) (v:=w) (Ne.symm hw)).2 hn;rw [<- zGa g hs k];exact h w k
 ·intro h w hw;have ne:v≠w:=fun e=>by subst e;rw [zCN g.toGood] at hw;cases hw
  rw [zGa g hs hw];exact h w ne.symm ((zBj g ne).1 hw)
theorem zTy (g:Full x) (hs:jV (InN x.1.1) x.1.2) {a:Int} (h:z8x x.1.2 a):zB2 x a=true:=by
 obtain ⟨t,ht,ta,hno⟩:=h;obtain ⟨i0,h0,rfl⟩:=zAO ht
 have cnt:=zJG g hs (a:=a) (hs.ent _ ht a ta) (S:=[i0]) (zbG.2 ⟨by simp,zbS⟩) (by simp) ta (fun i hi=>by rw [zF] at hi;subst hi;exact h0)
  (fun i hi j ha=>by
    rw [zF] at hi;subst hi;exfalso;obtain ⟨_,hj,hij,p,q,hpq,⟨a1,a2⟩,b1,b2⟩:=(zWh g hs).1 ha
    exact hno _ (qI hj) (fun e=>hij (zDg hs.nd h0 hj e.symm)) p q hpq a1 a2 b1 b2)
  (fun i hi=>by rw [zF] at hi;subst hi;exact .refl _)
 unfold zB2;rw [cnt.1];rfl
theorem zXI (g:Full x) (hs:jV (InN x.1.1) x.1.2) {a:Int} (h:z9V x.1.2 a):zB2 x a=true:=by
 obtain ⟨p,q,r,ap,aq,ar,pq,pr,qr,h1,h2,h3,h4⟩:=h;rw [<- Bool.not_eq_false];intro w3;exact zJS g hs w3 ap q r qr aq.symm pq.symm ar.symm pr.symm h3 h4 h1 h2
theorem z5E (g:Full x) (hs:jV (InN x.1.1) x.1.2) {a:Int} (ha:InN x.1.1 a) {t0:P3} (h0:t0∈x.1.2) (hv:z8 t0 a) (h:zB2 x a=true):z8x x.1.2 a\/z9V x.1.2 a:=by
 obtain ⟨i0,hi0,rfl⟩:=zAO h0;have lab:=zX6 g hs ha hi0 hv;have hl:=zMO g.toGood;obtain ⟨C,eC⟩: ∃ C,C=(List.range x.1.2.length).filter fun i=>decide ((ofR x).getD i 0=smM x a):=⟨_,rfl⟩
 have hC: ∀ i,i∈C↔i<x.1.2.length/\zJ5 (Adj x) i0 i:=fun i=>by
  rw [eC,zb5,zV,zP];exact and_congr_right fun k=>lab i k
 have cnt:(smS x (smM x a) (ofR x).length).1=(C.length:Int):=by rw [zMK,hl,eC]
 have step: ∀ {i j:Nat},i∈C->j<x.1.2.length->i≠j->∀ p q,p≠q->z8 (tg x.1.2 i) p->z8 (tg x.1.2 i) q->z8 (tg x.1.2 j) p->z8 (tg x.1.2 j) q->j∈C:=fun hi hj hij p q hpq a1 a2 b1 b2 =>
  (hC _).2 ⟨hj,.step ((hC _).1 hi).2 ((zWh g hs).2 ⟨((hC _).1 hi).1,hj,hij,p,q,hpq,⟨a1,a2⟩,b1,b2⟩)⟩
 have in0:i0∈C:=(hC i0).2 ⟨hi0,.refl _⟩;have bnd: ∀ S:List Nat,S.Nodup->(∀ i∈S,i∈C)->S.length<=C.length:=fun S hn hS=>zLY S C hn hS;unfold zB2 at h;rw [cnt,zbA,zC,zP,zP] at h;rcases h with h1|⟨h4,hf⟩
 ·left;refine ⟨_,qI hi0,hv,fun u hu hne p q hpq a1 a2 b1 b2=> ?_⟩;obtain ⟨j,hj,rfl⟩:=zAO hu;have hij:i0≠j:=fun e=>hne (by rw [e])
  have:=bnd [i0,j] (by simp [hij]) (fun i hi=>by
   simp only [zT,zbe,or_false] at hi;rcases hi with e|e<;>subst e
   ·exact in0
   ·exact step in0 hj hij p q hpq a1 a2 b1 b2)
  simp only [yA,List.length_nil] at this;omega
 ·right;have lt: ∀ {i},i∈C->i<x.1.2.length:=fun {i} hi=>((hC i).1 hi).1
  have shut: ∀ i,i∈C->∀ p q,p≠q->z8 (tg x.1.2 i) p->z8 (tg x.1.2 i) q->∃ j,j∈C/\j≠i/\z8 (tg x.1.2 j) p/\z8 (tg x.1.2 j) q:=fun i hi p q hpq a1 a2=>by
   obtain ⟨k1,k2⟩:=(hC i).1 hi
   have hs2:z0B x.1.2 i:=yF fun hn=>by
    obtain ⟨d,hd,ho⟩:=(zZm g hs k1).2 hn;have:(smS x (smM x a) (ofR x).length).2=true:=(zHt x _ _).2 ⟨i,by rw [hl];exact k1,(lab i k1).2 k2,d,hd,ho⟩;rw [this] at hf;cases hf
   obtain ⟨j,hj,hji,b1,b2⟩:=hs2 p q hpq a1 a2;exact ⟨j,step hi hj (Ne.symm hji) p q hpq a1 a2 b1 b2,hji,b1,b2⟩
  have one3: ∀ {i j:Nat},i∈C->j∈C->∀ {u v w:Int},u≠v->u≠w->v≠w->z8 (tg x.1.2 i) u->z8 (tg x.1.2 i) v->z8 (tg x.1.2 i) w->z8 (tg x.1.2 j) u->z8 (tg x.1.2 j) v->z8 (tg x.1.2 j) w->i=j:=fun {i j} hi hj {u v w} uv uw vw a1 a2 a3 b1 b2 b3 =>
   zDg hs.nd (lt hi) (lt hj) (hs.same (qI (lt hi)) (qI (lt hj)) uv uw vw a1 a2 a3 b1 b2 b3)
  obtain ⟨p,hpa⟩:=zRY hv;have ap:=zNw (hs.deg _ (qI hi0)) hpa;have tp:=(jN hpa).2;obtain ⟨q,qa,qp,tq,tall⟩:=zH6 (hs.deg _ (qI hi0)) ap hv tp;obtain ⟨j1,c1,n1,j1a,j1p⟩:=shut i0 in0 a p ap hv tp;obtain ⟨j2,c2,n2,j2a,j2q⟩:=shut i0 in0 a q qa.symm hv tq;obtain ⟨j3,c3,n3,j3p,j3q⟩:=shut i0 in0 p q qp.symm tp tq;have no1: ¬ z8 (tg x.1.2 j1) q:=fun k=>n1 (one3 c1 in0 ap qa.symm qp.symm j1a j1p k hv tp tq);have no2: ¬ z8 (tg x.1.2 j2) p:=fun k=>n2 (one3 c2 in0 ap qa.symm qp.symm j2a k j2q hv tp tq)
  have no3: ¬ z8 (tg x.1.2 j3) a:=fun k=>n3 (one3 c3 in0 ap qa.symm qp.symm k j3p j3q hv tp tq);have d12:j1≠j2:=fun e=>no1 (by rw [e];exact j2q);have d13:j1≠j3:=fun e=>no1 (by rw [e];exact j3q);have d23:j2≠j3:=fun e=>no2 (by rw [e];exact j3p)
  have all: ∀ k,k∈C->k=i0\/k=j1\/k=j2\/k=j3:=fun k hk=>yF fun hn=>by
   rw [not_or,not_or,not_or] at hn;obtain ⟨m0,m1,m2,m3⟩:=hn
   have:=bnd [k,i0,j1,j2,j3] (by simp [m0,m1,m2,m3,n1.symm,n2.symm,n3.symm,d12,d13,d23]) (fun i hi=>by
    simp only [zT,zbe,or_false] at hi
    rcases hi with e|e|e|e|e<;>(subst e;assumption))
   simp only [yA,List.length_nil] at this;omega
  obtain ⟨r,ra,rp,j1r,_⟩:=zH6 (hs.deg _ (qI (lt c1))) ap j1a j1p;have rq:r≠q:=fun e=>no1 (by rw [<- e];exact j1r)
  have not0: ¬ z8 (tg x.1.2 i0) r:=fun k=>by
   rcases tall r k with e|e|e
   ·exact ra e
   ·exact rp e
   ·exact rq e
  obtain ⟨k1,ck1,nk1,k1a,k1r⟩:=shut j1 c1 a r ra.symm j1a j1r
  have e2:k1=j2:=by
   rcases all k1 ck1 with e|e|e|e
   ·exact absurd (by rw [<- e];exact k1r) not0
   ·exact absurd e nk1
   ·exact e
   ·exact absurd (by rw [<- e];exact k1a) no3
  obtain ⟨k2,ck2,nk2,k2p,k2r⟩:=shut j1 c1 p r rp.symm j1p j1r
  have e3:k2=j3:=by
   rcases all k2 ck2 with e|e|e|e
   ·exact absurd (by rw [<- e];exact k2r) not0
   ·exact absurd e nk2
   ·exact absurd (by rw [<- e];exact k2p) no2
   ·exact e
  rw [e2] at k1r;rw [e3] at k2r;exact ⟨p,q,r,ap,qa.symm,ra.symm,qp.symm,rp.symm,rq.symm,⟨_,qI hi0,hv,tp,tq⟩,⟨_,qI (lt c1),j1a,j1p,j1r⟩,⟨_,qI (lt c2),j2a,j2q,k1r⟩,⟨_,qI (lt c3),j3p,j3q,k2r⟩⟩
theorem zKH (g:Full x) (hs:jV (InN x.1.1) x.1.2) {a b:Int} :zDV x a b=0↔zBN x.1.2 a b:=by
 constructor
 ·intro hw;obtain ⟨w1,w2,w3⟩:=zQW hw;have f:=zPy g hs hw;obtain ⟨t,ht,ta,tb⟩:=f.near;have ia:=hs.ent t ht a ta;have ib:=hs.ent t ht b tb;refine ⟨f.ne,f.near,fun h2=> ?_,f.com,fun k=> ?_,fun k=> ?_⟩
  ·rw [<- zKz g hs ia,<- zKz g hs ib];rw [<- zGa g hs w1] at h2;cases e1:zAY x a with
   | true=>exact .inl rfl
   | false =>
     cases e2:zAY x b with
     | true=>exact .inr rfl
     | false=>exact absurd ⟨h2,e1,e2⟩ w2
  ·rw [zTy g hs k] at w3;cases w3
  ·rw [zXI g hs k] at w3;cases w3
 ·intro f;obtain ⟨t,ht,ta,tb⟩:=f.near;have ia:=hs.ent t ht a ta;have ib:=hs.ent t ht b tb;have w1:=(zBj g f.ne).2 f.near
  have c2: ¬ ((zDf x a b).length=2/\zAY x a=false/\zAY x b=false):=fun ⟨k1,k2,k3⟩=>by
   rw [zGa g hs w1] at k1;rcases f.brd k1 with k|k
   ·rw [(zKz g hs ia).2 k] at k2;cases k2
   ·rw [(zKz g hs ib).2 k] at k3;cases k3
  have c3:zTH (zDf x a b) (zGc x a b)=true:=zRa.2 fun v hv=>by
   obtain ⟨_,k1,k2⟩:=(zMf g).1 hv;have va:v≠a:=fun e=>by subst e;rw [zCN g.toGood] at k1;cases k1
   have vb:v≠b:=fun e=>by subst e;rw [zCN g.toGood] at k2;cases k2
   exact (z54 g f.ne).2 ⟨va,vb,f.com v va vb ((zBj g va.symm).1 k1) ((zBj g vb.symm).1 k2)⟩
  have c4:zB2 x a=false:=by
   rw [<- zbV];intro k;rcases z5E g hs ia ht ta k with k|k
   ·exact f.one k
   ·exact f.tet k
  unfold zDV;rw [w1,if_neg (by simp),if_neg c2,if_neg (by rw [c3];simp),c4];rfl
end
end S1
namespace S1
def zAS (l:List P3) (a b c d:Int):Prop:= ∀ t∈l,(z8 t a\/z8 t b)->(z8 t c\/z8 t d)->False
section
variable {V:Int->Prop} {l:List P3} {a b c d:Int}
theorem zRz {t:P3} (h: ¬ z8 t a):phT a b t=t:=by
 unfold z8 at h;rw [not_or,not_or] at h;unfold phT;rw [zLT h.1,zLT h.2.1,zLT h.2.2]
theorem zGN {v:Int} (va:v≠a) (vb:v≠b) (hv: ∀ t∈l,z8 t v->¬ z8 t a/\¬ z8 t b) {t:P3} (tv:z8 t v):t∈zIZ a b l↔t∈l:=by
 rw [zA9];constructor
 ·rintro ⟨u,hu,_,rfl⟩;have uv:=(zCp va vb).1 tv;rw [zRz (hv u hu uv).1];exact hu
 ·intro ht;exact ⟨t,ht,fun k=>(hv t ht tv).1 k.1,zRz (hv t ht tv).1⟩
theorem zIf {l l':List P3} (h:l.Nodup) (h':l'.Nodup) {p:P3->Bool} (k: ∀ t,p t=true->(t∈l'↔t∈l)):(l'.filter p).length=(l.filter p).length :=
 ((List.perm_ext_iff_of_nodup (h'.sublist List.filter_sublist) (h.sublist List.filter_sublist)).2 fun t=>by
   rw [zb5,zb5]
   exact ⟨fun ⟨k1,k2⟩=>⟨(k t k2).1 k1,k2⟩,fun ⟨k1,k2⟩=>⟨(k t k2).2 k1,k2⟩⟩).length_eq
theorem zEf {a b:Int} {t:P3} :both a b t=true↔z8 t a/\z8 t b:=by unfold both;rw [zP]
theorem z0a (h:jV V l) (hVa:V a) (hVb:V b) (f:zT1 l a b) (k:zBN l c d) (ap:zAS l a b c d):zBN (zIZ a b l) c d:=by
 have h':=zHx h f hVa hVb;have hc: ∀ t∈l,z8 t c->¬ z8 t a/\¬ z8 t b:=fun t ht k=>⟨fun e=>ap t ht (.inl e) (.inl k),fun e=>ap t ht (.inr e) (.inl k)⟩;have hd: ∀ t∈l,z8 t d->¬ z8 t a/\¬ z8 t b:=fun t ht k=>⟨fun e=>ap t ht (.inl e) (.inr k),fun e=>ap t ht (.inr e) (.inr k)⟩;obtain ⟨t0,h0,t0c,t0d⟩:=k.near;have ca:c≠a:=fun e=>(hc t0 h0 t0c).1 (by rw [<- e];exact t0c);have cb:c≠b:=fun e=>(hc t0 h0 t0c).2 (by rw [<- e];exact t0c)
 have da:d≠a:=fun e=>(hd t0 h0 t0d).1 (by rw [<- e];exact t0d);have db:d≠b:=fun e=>(hd t0 h0 t0d).2 (by rw [<- e];exact t0d);have sc: ∀ {t:P3},z8 t c->(t∈zIZ a b l↔t∈l):=fun {t} tv=>zGN ca cb hc tv;have sd: ∀ {t:P3},z8 t d->(t∈zIZ a b l↔t∈l):=fun {t} tv=>zGN da db hd tv
 have inn: ∀ {v:Int},(∀ {t:P3},z8 t v->(t∈zIZ a b l↔t∈l))->z20 l v->z20 (zIZ a b l) v:=fun {v} sv hi w hw ⟨t,ht,t1,t2⟩=>by
  rw [zIf h.nd h'.nd fun t k=>sv (zEf.1 k).1];exact hi w hw ⟨t,(sv t1).1 ht,t1,t2⟩
 -- what is beside c is no a, no b
 have far: ∀ {t:P3} {v:Int},t∈l->z8 t c->z8 t v->v≠a/\v≠b:=fun {t v} ht tc tv=>⟨fun e=>(hc t ht tc).1 (by rw [<- e];exact tv),fun e=>(hc t ht tc).2 (by rw [<- e];exact tv)⟩;refine ⟨k.ne,⟨t0,(sc t0c).2 h0,t0c,t0d⟩,fun h2=> ?_,fun v vc vd ⟨t,ht,t1,t2⟩ ⟨u,hu,u1,u2⟩=> ?_,?_,?_⟩
 ·rw [zIf h.nd h'.nd fun t k=>sc (zEf.1 k).1] at h2;rcases k.brd h2 with e|e
  ·exact .inl (inn sc e)
  ·exact .inr (inn sd e)
 ·obtain ⟨s,hs,s1,s2,s3⟩:=k.com v vc vd ⟨t,(sc t1).1 ht,t1,t2⟩ ⟨u,(sd u1).1 hu,u1,u2⟩;exact ⟨s,(sc s1).2 hs,s1,s2,s3⟩
 ·rintro ⟨t,ht,tc,hno⟩;have ht':=(sc tc).1 ht;refine k.one ⟨t,ht',tc,fun u hu hne p q hpq tp tq up uq=> ?_⟩
  by_cases uc:z8 u c
  ·exact hno u ((sc uc).2 hu) hne p q hpq tp tq up uq
  ·obtain ⟨pa,pb⟩:=far ht' tc tp;obtain ⟨qa,qb⟩:=far ht' tc tq
   by_cases ub:z8 u a/\z8 u b
   ·exact four (h.deg u hu) f.ne pa.symm qa.symm pb.symm qb.symm hpq ub.1 ub.2 up uq
   ·refine hno (phT a b u) (zA9.2 ⟨u,hu,ub,rfl⟩) (fun e=>uc ?_) p q hpq tp tq ((zCp pa pb).2 up) ((zCp qa qb).2 uq);rw [<- e] at tc;exact (zCp ca cb).1 tc
 ·rintro ⟨p,q,r,cp,cq,cr,pq,pr,qr,⟨t1,h1,a1,a2,a3⟩,⟨t2,h2,b1,b2,b3⟩,⟨t3,h3,c1,c2,c3⟩,⟨t4,h4,d1,d2,d3⟩⟩;have g1:=(sc a1).1 h1;have g2:=(sc b1).1 h2;have g3:=(sc c1).1 h3;obtain ⟨pa,pb⟩:=far g1 a1 a2;obtain ⟨qa,qb⟩:=far g1 a1 a3;obtain ⟨ra,rb⟩:=far g2 b1 b3;obtain ⟨u,hu,_,rfl⟩:=zA9.1 h4;exact k.tet ⟨p,q,r,cp,cq,cr,pq,pr,qr,⟨t1,g1,a1,a2,a3⟩,⟨t2,g2,b1,b2,b3⟩,⟨t3,g3,c1,c2,c3⟩,⟨u,hu,(zCp pa pb).1 d1,(zCp qa qb).1 d2,(zCp ra rb).1 d3⟩⟩
theorem zXo {p q:Int} (f:zT1 l a b) (h1:zAS l a b c d) (h3:zAS l c d p q) (near: ∃ t∈l,z8 t c/\z8 t d):zAS (zIZ a b l) c d p q:=by
 have hc: ∀ t∈l,z8 t c->¬ z8 t a/\¬ z8 t b:=fun t ht k=>⟨fun e=>h1 t ht (.inl e) (.inl k),fun e=>h1 t ht (.inr e) (.inl k)⟩;have hd: ∀ t∈l,z8 t d->¬ z8 t a/\¬ z8 t b:=fun t ht k=>⟨fun e=>h1 t ht (.inl e) (.inr k),fun e=>h1 t ht (.inr e) (.inr k)⟩;obtain ⟨t0,h0,t0c,t0d⟩:=near;have ca:c≠a:=fun e=>(hc t0 h0 t0c).1 (by rw [<- e];exact t0c);have cb:c≠b:=fun e=>(hc t0 h0 t0c).2 (by rw [<- e];exact t0c);have da:d≠a:=fun e=>(hd t0 h0 t0d).1 (by rw [<- e];exact t0d)
 have db:d≠b:=fun e=>(hd t0 h0 t0d).2 (by rw [<- e];exact t0d);intro t ht hcd hpq;rcases hcd with e|e
 ·exact h3 t ((zGN ca cb hc e).1 ht) (.inl e) hpq
 ·exact h3 t ((zGN da db hd e).1 ht) (.inr e) hpq
end
end S1
namespace S1
section
variable {V:Int->Prop} {l:List P3} {a b c d:Int} {r:Int->Int}
theorem zEG (h:jV V l) (hi: ∀ v w,V v->V w->r v=r w->v=w) {t:P3} {v:Int} (ht:t∈l) (hv:V v):z8 (zDo r t) (r v)↔z8 t v :=
 ⟨fun k=>by obtain ⟨w,hw,e⟩:=zAm.1 k;rw [<- hi w v (h.ent t ht w hw) hv e];exact hw,fun k=>zAm.2 ⟨v,k,rfl⟩⟩
theorem zWH (h:jV V l) (hi: ∀ v w,V v->V w->r v=r w->v=w) {v w:Int} (hv:V v) (hw:V w):((l.map (zDo r)).filter (both (r v) (r w))).length=(l.filter (both v w)).length:=by
 rw [List.filter_map,yV,List.filter_congr fun t ht=> ?_];rw [Bool.eq_iff_iff];show both (r v) (r w) (zDo r t)=true↔_;rw [zEf,zEf,zEG h hi ht hv,zEG h hi ht hw]
theorem zWW (h:jV V l) (hi: ∀ v w,V v->V w->r v=r w->v=w) {t u:P3} (ht:t∈l) (hu:u∈l) (e:zDo r t=zDo r u):t=u:=by
 have vt: ∀ {t:P3},t∈l->V t.1/\V t.2.1/\V t.2.2:=fun {t} ht=>⟨h.ent t ht _ (.inl rfl),h.ent t ht _ (.inr (.inl rfl)),h.ent t ht _ (.inr (.inr rfl))⟩;have e1:=congrArg Prod.fst e;have e2:=congrArg (fun p=>p.2.1) e;have e3:=congrArg (fun p=>p.2.2) e;exact Prod.ext (hi _ _ (vt ht).1 (vt hu).1 e1) (Prod.ext (hi _ _ (vt ht).2.1 (vt hu).2.1 e2) (hi _ _ (vt ht).2.2 (vt hu).2.2 e3))
theorem zYO (h:jV V l) (hi: ∀ v w,V v->V w->r v=r w->v=w) {v:Int} (hv:V v) (k:z20 l v):z20 (l.map (zDo r)) (r v):=fun w' hw' ⟨t',ht',t1,t2⟩=>by
 obtain ⟨t,ht,rfl⟩:=yC.1 ht';obtain ⟨w,hw,rfl⟩:=zAm.1 t2;rw [zWH h hi hv (h.ent t ht w hw)];exact k w (fun e=>hw' (by rw [e])) ⟨t,ht,(zEG h hi ht hv).1 t1,hw⟩
theorem z0J (h:jV V l) (hi: ∀ v w,V v->V w->r v=r w->v=w) (k:zBN l c d):zBN (l.map (zDo r)) (r c) (r d):=by
 obtain ⟨t0,h0,t0c,t0d⟩:=k.near;have hc:=h.ent t0 h0 c t0c;have hd:=h.ent t0 h0 d t0d;have H: ∀ {t:P3} {v:Int},t∈l->V v->(z8 (zDo r t) (r v)↔z8 t v):=fun ht hv=>zEG h hi ht hv;refine ⟨fun e=>k.ne (hi c d hc hd e),⟨_,yC.2 ⟨t0,h0,rfl⟩,(H h0 hc).2 t0c,(H h0 hd).2 t0d⟩,fun h2=> ?_,fun v' vc vd ⟨t',ht',t1,t2⟩ ⟨u',hu',u1,u2⟩=> ?_,?_,?_⟩
 ·rw [zWH h hi hc hd] at h2;rcases k.brd h2 with e|e
  ·exact .inl (zYO h hi hc e)
  ·exact .inr (zYO h hi hd e)
 ·obtain ⟨t,ht,rfl⟩:=yC.1 ht';obtain ⟨u,hu,rfl⟩:=yC.1 hu';obtain ⟨v,hv,rfl⟩:=zAm.1 t2;have hvV:=h.ent t ht v hv;obtain ⟨s,hs,s1,s2,s3⟩:=k.com v (fun e=>vc (by rw [e])) (fun e=>vd (by rw [e])) ⟨t,ht,(H ht hc).1 t1,hv⟩ ⟨u,hu,(H hu hd).1 u1,(H hu hvV).1 u2⟩;exact ⟨_,yC.2 ⟨s,hs,rfl⟩,(H hs hc).2 s1,(H hs hd).2 s2,(H hs hvV).2 s3⟩
 ·rintro ⟨t',ht',tc,hno⟩;obtain ⟨t,ht,rfl⟩:=yC.1 ht';refine k.one ⟨t,ht,(H ht hc).1 tc,fun u hu hne p q hpq tp tq up uq=> ?_⟩;have hp:=h.ent t ht p tp;have hq:=h.ent t ht q tq;exact hno (zDo r u) (yC.2 ⟨u,hu,rfl⟩) (fun e=>hne (zWW h hi hu ht e)) (r p) (r q) (fun e=>hpq (hi p q hp hq e)) ((H ht hp).2 tp) ((H ht hq).2 tq) ((H hu hp).2 up) ((H hu hq).2 uq)
 ·rintro ⟨p',q',r',cp,cq,cr,pq,pr,qr,⟨t1',h1',a1,a2,a3⟩,⟨t2',h2',b1,b2,b3⟩,⟨t3',h3',c1,c2,c3⟩,⟨t4',h4',d1,d2,d3⟩⟩;obtain ⟨t1,h1,rfl⟩:=yC.1 h1';obtain ⟨t2,h2,rfl⟩:=yC.1 h2';obtain ⟨t3,h3,rfl⟩:=yC.1 h3';obtain ⟨t4,h4,rfl⟩:=yC.1 h4';obtain ⟨p,p1,rfl⟩:=zAm.1 a2;obtain ⟨q,q1,rfl⟩:=zAm.1 a3;obtain ⟨s,s1,rfl⟩:=zAm.1 b3;have hp:=h.ent t1 h1 p p1;have hq:=h.ent t1 h1 q q1;have hs:=h.ent t2 h2 s s1
  exact k.tet ⟨p,q,s,fun e=>cp (by rw [e]),fun e=>cq (by rw [e]),fun e=>cr (by rw [e]),fun e=>pq (by rw [e]),fun e=>pr (by rw [e]),fun e=>qr (by rw [e]),
   ⟨t1,h1,(H h1 hc).1 a1,p1,q1⟩,⟨t2,h2,(H h2 hc).1 b1,(H h2 hp).1 b2,s1⟩,⟨t3,h3,(H h3 hc).1 c1,(H h3 hq).1 c2,(H h3 hs).1 c3⟩,⟨t4,h4,(H h4 hp).1 d1,(H h4 hq).1 d2,(H h4 hs).1 d3⟩⟩
theorem zYE (h:jV V l) (hi: ∀ v w,V v->V w->r v=r w->v=w) (ha:V a) (hb:V b) (hc:V c) (hd:V d) (k:zAS l a b c d):zAS (l.map (zDo r)) (r a) (r b) (r c) (r d):=fun t' ht' k1 k2=>by
 obtain ⟨t,ht,rfl⟩:=yC.1 ht';rw [zEG h hi ht ha,zEG h hi ht hb] at k1;rw [zEG h hi ht hc,zEG h hi ht hd] at k2;exact k t ht k1 k2
end
end S1
namespace S1
def zZv (s:Int×List P3) (a b:Int):Int×List P3:=(s.1 - 1,(zIZ a b s.2).map (zDo (dn a)))
theorem zRU {a v w:Int} (hv:v≠a) (hw:w≠a) (e:dn a v=dn a w):v=w:=by
 unfold dn at e;split at e<;>split at e<;>omega
section
variable {s:Int×List P3} {a b c d:Int}
theorem zEm (hs:zBK s) (k:zBN s.2 a b):zDV (zAa s) a b=0/\zT1 s.2 a b:=by
 obtain ⟨_,g,e⟩:=zAu hs;have hm:jV (InN (zAa s).1.1) (zAa s).1.2:=zAc (s:=(zAa s).1) (by rw [e];exact hs);have hw:zDV (zAa s) a b=0:=(zKH g hm).2 (by rw [e];exact k);have:=zPy g hm hw;rw [e] at this;exact ⟨hw,this⟩
theorem zWj (hs:zBK s) (k:zBN s.2 a b):zBK (zZv s a b):=by
 obtain ⟨_,g,e⟩:=zAu hs;have:=zOM g (by rw [e];exact hs) (zEm hs k).1;rw [e] at this;exact this
theorem zCW (hs:zBK s) (k:zBN s.2 a b):InN s.1 a/\InN s.1 b:=by
 obtain ⟨t,ht,ta,tb⟩:=k.near;exact ⟨(zAc hs).ent t ht a ta,(zAc hs).ent t ht b tb⟩
theorem zD1 (k:zBN s.2 c d) (ap:zAS s.2 a b c d):(c≠a/\c≠b)/\d≠a/\d≠b:=by
 obtain ⟨t,ht,tc,td⟩:=k.near;exact ⟨⟨fun e=>ap t ht (.inl (by rw [<- e];exact tc)) (.inl tc),fun e=>ap t ht (.inr (by rw [<- e];exact tc)) (.inl tc)⟩,fun e=>ap t ht (.inl (by rw [<- e];exact td)) (.inl tc),fun e=>ap t ht (.inr (by rw [<- e];exact td)) (.inl tc)⟩
theorem zTm (hs:zBK s) (k:zBN s.2 a b) (k2:zBN s.2 c d) (ap:zAS s.2 a b c d):zBN (zZv s a b).2 (dn a c) (dn a d):=by
 have hm:=zAc hs;have f:=(zEm hs k).2;have hi:=zCW hs k;exact z0J (zHx hm f hi.1 hi.2) (fun v w hv hw e=>zRU hv.2 hw.2 e) (z0a hm hi.1 hi.2 f k2 ap)
theorem zSz {p q:Int} (hs:zBK s) (k:zBN s.2 a b) (k2:zBN s.2 c d) (k3:zBN s.2 p q) (ap:zAS s.2 a b c d) (ap2:zAS s.2 a b p q) (ap3:zAS s.2 c d p q):zAS (zZv s a b).2 (dn a c) (dn a d) (dn a p) (dn a q):=by
 have hm:=zAc hs;have f:=(zEm hs k).2;have hi:=zCW hs k;have i2:=zCW hs k2;have i3:=zCW hs k3;have n2:=zD1 k2 ap;have n3:=zD1 k3 ap2;exact zYE (zHx hm f hi.1 hi.2) (fun v w hv hw e=>zRU hv.2 hw.2 e) ⟨i2.1,n2.1.1⟩ ⟨i2.2,n2.2.1⟩ ⟨i3.1,n3.1.1⟩ ⟨i3.2,n3.2.1⟩ (zXo f ap ap3 k2.near)
end
end S1
namespace S1
structure zFG (s:Int×List P3) (l:List (Int×Int)):Prop where
 surf:zBK s
 free: ∀ e∈l,zBN s.2 e.1 e.2
 apart:l.Pairwise fun e f=>zAS s.2 e.1 e.2 f.1 f.2
def dn2 (a:Int) (e:Int×Int):Int×Int:=(dn a e.1,dn a e.2)
theorem zXK {s:Int×List P3} {a b:Int} {r:List (Int×Int)} (h:zFG s ((a,b)::r)):zFG (zZv s a b) (r.map (dn2 a)):=by
 have k:zBN s.2 a b:=h.free (a,b) (zY ..);obtain ⟨p1,p2⟩:=List.pairwise_cons.1 h.apart;refine ⟨zWj h.surf k,fun e he=> ?_,?_⟩
 ·obtain ⟨f,hf,rfl⟩:=yC.1 he;exact zTm h.surf k (h.free f (zQ _ hf)) (p1 f hf)
 ·refine List.Pairwise.map _ (fun e f hh=> ?_) (p2.imp_of_mem (S:=fun e f=>zAS s.2 e.1 e.2 f.1 f.2/\e∈r/\f∈r) fun he hf hh=>⟨hh,he,hf⟩);obtain ⟨hh,he,hf⟩:=hh;exact zSz h.surf k (h.free e (zQ _ he)) (h.free f (zQ _ hf)) (p1 e he) (p1 f hf) hh
end S1
namespace S1
def zJJ (x:yI.T) (e:Int×Int):Prop:=bE x e.1 e.2\/bE x e.2 e.1
section
variable {x:yI.T}
theorem zMu (g:Full x) {w u:Int} (h:bE x w u): ∃ t∈x.1.2,z8 t w/\z8 t u:=by
 obtain ⟨h1,_⟩:=(zHJ g).1 h;obtain ⟨t,ht,hd⟩:=zDh.1 h1;exact ⟨t,ht,jN hd⟩
theorem z6l (g:Full x) {w u:Int} (h:bE x w u): ¬ bE x u w:=fun k=>((zHJ g).1 h).2 ((zHJ g).1 k).1
theorem z2Y {t:P3} {a b:Int} (hab:a≠b) (ha:z8 t a) (hb:z8 t b):dE t a b\/dE t b a:=by
 obtain ⟨x,y,z⟩:=t;simp only [z8,dE] at *;rcases ha with h|h|h<;>rcases hb with k|k|k<;>(subst h;subst k;simp at *)
theorem zK0 (g:Full x) (hs:jV (InN x.1.1) x.1.2) {w u:Int} (h:bE x w u) {t t':P3} (ht:t∈x.1.2) (ht':t'∈x.1.2) (a:z8 t w/\z8 t u) (b:z8 t' w/\z8 t' u):t=t':=by
 have hne:=(zJf g h).2.2;have hno:=((zHJ g).1 h).2;have d1:dE t w u:=(z2Y hne a.1 a.2).resolve_right fun k=>hno (zDh.2 ⟨t,ht,k⟩);have d2:dE t' w u:=(z2Y hne b.1 b.2).resolve_right fun k=>hno (zDh.2 ⟨t',ht',k⟩);apply yF;intro e;exact hs.dif t ht t' ht' e w u d1 d2
noncomputable def zGg (x:yI.T) (e:Int×Int):Int:= @ite _ (bE x e.2 e.1) (Classical.propDecidable _) e.2 e.1
noncomputable def zN4 (x:yI.T) (e:Int×Int):Int:= @ite _ (bE x e.2 e.1) (Classical.propDecidable _) e.1 e.2
theorem zOH {e:Int×Int} (h:zJJ x e):bE x (zGg x e) (zN4 x e)/\(zGg x e=e.1/\zN4 x e=e.2\/zGg x e=e.2/\zN4 x e=e.1):=by
 unfold zGg zN4
 by_cases k:bE x e.2 e.1
 ·rw [if_pos k,if_pos k];exact ⟨k,.inr ⟨rfl,rfl⟩⟩
 ·rw [if_neg k,if_neg k];exact ⟨h.resolve_right k,.inl ⟨rfl,rfl⟩⟩
noncomputable def zOP (x:yI.T) (e:Int×Int):List Int:=[zN4 x e,zGg x e,nx x (zGg x e)]
theorem zME (g:Full x) {e:Int×Int} (h:zJJ x e):bE x (nx x (zGg x e)) (zGg x e)/\(zOP x e).Nodup:=by
 obtain ⟨h1,_⟩:=zOH h;obtain ⟨z,hz⟩:=zCo g h1;have e1:nx x (zGg x e)=z:=zDd g hz;unfold zOP;rw [e1];refine ⟨hz,?_⟩;have n1:=(zJf g h1).2.2;have n2:=(zJf g hz).2.2;have n3:z≠zN4 x e:=fun k=>by subst k;exact z6l g h1 hz
 simp only [zbG,zT,zbe,or_false,not_or,not_false_eq_true,zbS,and_true];exact ⟨⟨n1.symm,n3.symm⟩,n2.symm⟩
theorem zVZ (g:Full x) {L:List Int} (hL:zCA x L) {e:Int×Int} (h:zJJ x e) (hm:e.1∈L): ∀ v∈zOP x e,v∈L:=by
 obtain ⟨h1,h2⟩:=zOH h
 have hP:zN4 x e∈L/\zGg x e∈L:=by
  rcases h2 with ⟨a,b⟩|⟨a,b⟩
  ·-- what comes behind zN4 is zGg: go round
   rw [a];refine ⟨?_,hm⟩;obtain ⟨i,hi,e0⟩:=zLa hm;obtain ⟨j,hj⟩: ∃ j,j=(i+(L.length - 1)) % L.length:=⟨_,rfl⟩;have hjl:j<L.length:=by rw [hj];exact Nat.mod_lt _ hL.ne
   have hji:(j+1) % L.length=i:=by
    rw [hj,Nat.mod_add_mod,show i+(L.length - 1)+1=i+L.length by omega,Nat.add_mod_right,Nat.mod_eq_of_lt hi]
   have hc:=hL.cyc j hjl;rw [hji,e0] at hc;rw [a] at h1;rw [zHi g h1 hc];exact jB hjl
  ·rw [b];refine ⟨hm,?_⟩;have:=hL.next g hm
   rw [b] at h1;rwa [show nx x e.1=zGg x e from zDd g h1] at this
 have hR:=hL.next g hP.2
 intro v hv;unfold zOP at hv;simp only [zT,zbe,or_false] at hv;rcases hv with e|e|e<;>rw [e]
 ·exact hP.1
 ·exact hP.2
 ·exact hR
theorem z06 (g:Full x) {e f:Int×Int} (he:zJJ x e) (hf:zJJ x f) (ke:zBN x.1.2 e.1 e.2) (kf:zBN x.1.2 f.1 f.2) (ap:zAS x.1.2 e.1 e.2 f.1 f.2): ∀ v∈zOP x e,v∉zOP x f:=by
 obtain ⟨h1,h2⟩:=zOH he;obtain ⟨k1,k2⟩:=zOH hf;obtain ⟨hr,_⟩:=zME g he;obtain ⟨kr,_⟩:=zME g hf;have ne:=zD1 kf ap
 have star1: ∀ {t:P3} {v:Int},z8 t v->(v=zN4 x e\/v=zGg x e)->z8 t e.1\/z8 t e.2:=fun h k=>by
  rcases h2 with ⟨a,b⟩|⟨a,b⟩<;>rw [a,b] at k<;>rcases k with k|k<;>subst k
  ·exact .inr h
  ·exact .inl h
  ·exact .inl h
  ·exact .inr h
 have star2: ∀ {t:P3} {v:Int},z8 t v->(v=zN4 x f\/v=zGg x f)->z8 t f.1\/z8 t f.2:=fun h k=>by
  rcases k2 with ⟨a,b⟩|⟨a,b⟩<;>rw [a,b] at k<;>rcases k with k|k<;>subst k
  ·exact .inr h
  ·exact .inl h
  ·exact .inl h
  ·exact .inr h
 have dis: ∀ v,(v=zN4 x e\/v=zGg x e)->(v=zN4 x f\/v=zGg x f)->False:=fun v a b=>by
  obtain ⟨t,ht,t1,t2⟩:=zMu g h1;rcases a with a|a
  ·exact ap t ht (star1 (v:=v) (by rw [a];exact t2) (.inl a)) (star2 (v:=v) (by rw [a];exact t2) b)
  ·exact ap t ht (star1 (v:=v) (by rw [a];exact t1) (.inr a)) (star2 (v:=v) (by rw [a];exact t1) b)
 intro v hv hw;unfold zOP at hv hw;simp only [zT,zbe,or_false] at hv hw;have hv':(v=zN4 x e\/v=zGg x e)\/v=nx x (zGg x e):=or_assoc.2 hv;have hw':(v=zN4 x f\/v=zGg x f)\/v=nx x (zGg x f):=or_assoc.2 hw;rcases hv' with a|a<;>rcases hw' with b|b
 ·exact dis v a b
 ·obtain ⟨t,ht,t1,t2⟩:=zMu g kr;exact ap t ht (star1 (v:=v) (by rw [b];exact t1) a) (star2 t2 (.inr rfl))
 ·obtain ⟨t,ht,t1,t2⟩:=zMu g hr;exact ap t ht (star1 t2 (.inr rfl)) (star2 (v:=v) (by rw [a];exact t1) b)
 ·rw [<- a] at hr;rw [<- b] at kr;have:=zHi g hr kr;exact dis _ (.inr rfl) (.inr this)
theorem z7H (g:Full x) {L:List Int} (hL:zCA x L): ∀ (D:List (Int×Int)),(∀ d∈D,zJJ x d/\zBN x.1.2 d.1 d.2/\d.1∈L)->D.Pairwise (fun e f=>zAS x.1.2 e.1 e.2 f.1 f.2)->
 ∃ T:List Int,T.Nodup/\T.length=3*D.length/\∀ v∈T,v∈L/\∃ d∈D,v∈zOP x d
 | [],_,_=>⟨[],zbS,rfl,fun v h=>by cases h⟩
 | d ::D,hd,hp=>by
   obtain ⟨p1,p2⟩:=List.pairwise_cons.1 hp;obtain ⟨T,t1,t2,t3⟩:=z7H g hL D (fun e he=>hd e (zQ _ he)) p2;obtain ⟨b1,b2,b3⟩:=hd d (zY ..);refine ⟨zOP x d++T,?_,?_,?_⟩
   ·rw [List.nodup_append];refine ⟨(zME g b1).2,t1,fun v hv w hw e=> ?_⟩;subst e;obtain ⟨_,f,hf,hvf⟩:=t3 v hw;obtain ⟨c1,c2,_⟩:=hd f (zQ _ hf);exact z06 g b1 c1 b2 c2 (p1 f hf) v hv hvf
   ·rw [zN,t2,yA];show 3+_=_;omega
   ·intro v hv;rcases yD.1 hv with h|h
    ·exact ⟨zVZ g hL b1 b3 v h,d,zY ..,h⟩
    ·obtain ⟨a,f,hf,b⟩:=t3 v h;exact ⟨a,f,zQ _ hf,b⟩
theorem zU5 (g:Full x) (hs:jV (InN x.1.1) x.1.2) {L:List Int} (hL:zCA x L) {e:Int×Int} (h:zJJ x e) (k:zBN x.1.2 e.1 e.2) (hm:e.1∈L):4<=L.length:=by
 obtain ⟨h1,h2⟩:=zOH h;obtain ⟨hr,hn⟩:=zME g h;have hin:=zVZ g hL h hm;have h3:3<=L.length:=zBx (zOP x e) L hn hin;apply yF;intro hlt;have hl:L.length=3:=by omega
 -- each vertex of the loop is one of the three
 have hall: ∀ v∈L,v∈zOP x e:=fun v hv=>by
  apply yF;intro hv2
  have:=zBx (v::zOP x e) L (zbG.2 ⟨hv2,hn⟩) fun w hw=>by
   rcases zT.1 hw with e|e
   ·rw [e];exact hv
   ·exact hin w e
  rw [hl] at this;exact absurd this (by unfold zOP;simp)
 have hz:=hall _ (hL.next g (hin _ (show nx x (zGg x e)∈zOP x e by unfold zOP;simp)));obtain ⟨z,hzz⟩:=zCo g hr;have ez:nx x (nx x (zGg x e))=z:=zDd g hzz;rw [ez] at hz
 have hp:bE x (zN4 x e) (nx x (zGg x e)):=by
  unfold zOP at hz;simp only [zT,zbe,or_false] at hz;rcases hz with e|e|e
  ·rw [<- e];exact hzz
  ·rw [e] at hzz;exact absurd hzz (z6l g hr)
  ·rw [e] at hzz;exact absurd rfl (zJf g hzz).2.2
 unfold zOP at hn;simp only [zbG,zT,zbe,or_false,not_or,not_false_eq_true,zbS,and_true] at hn;obtain ⟨t1,ht1,a1,a2⟩:=zMu g hr;obtain ⟨t2,ht2,c1,c2⟩:=zMu g hp
 -- the zH6 vertex is beside both ends
 have tri:zS3 x.1.2 e.1 e.2 (nx x (zGg x e)):=by
  rcases h2 with ⟨a,b⟩|⟨a,b⟩
  ·exact k.com _ (fun q=>hn.2 (a.trans q.symm)) (fun q=>hn.1.2 (b.trans q.symm)) ⟨t1,ht1,by rw [<- a];exact a2,a1⟩ ⟨t2,ht2,by rw [<- b];exact c1,c2⟩
  ·exact k.com _ (fun q=>hn.1.2 (b.trans q.symm)) (fun q=>hn.2 (a.trans q.symm)) ⟨t2,ht2,by rw [<- b];exact c1,c2⟩ ⟨t1,ht1,by rw [<- a];exact a2,a1⟩
 obtain ⟨t,ht,s1,s2,s3⟩:=tri
 have sP:z8 t (zN4 x e)/\z8 t (zGg x e):=by
  rcases h2 with ⟨a,b⟩|⟨a,b⟩<;>rw [a,b]
  ·exact ⟨s2,s1⟩
  ·exact ⟨s1,s2⟩
 refine k.one ⟨t,ht,s1,fun u hu hne a b hab ta tb ua ub=>hne ?_⟩
 have only: ∀ v,z8 t v->v=zN4 x e\/v=zGg x e\/v=nx x (zGg x e):=fun v hv=>by
  apply yF;intro q;rw [not_or,not_or] at q;exact four (hs.deg t ht) hn.1.1 hn.1.2 (Ne.symm q.1) hn.2 (Ne.symm q.2.1) (Ne.symm q.2.2) sP.1 sP.2 s3 hv
 rcases only a ta with e1|e1|e1<;>rcases only b tb with e2|e2|e2
 ·exact absurd (e1.trans e2.symm) hab
 ·exact zK0 g hs h1 hu ht ⟨by rw [<- e2];exact ub,by rw [<- e1];exact ua⟩ ⟨sP.2,sP.1⟩
 ·exact zK0 g hs hp hu ht ⟨by rw [<- e1];exact ua,by rw [<- e2];exact ub⟩ ⟨sP.1,s3⟩
 ·exact zK0 g hs h1 hu ht ⟨by rw [<- e1];exact ua,by rw [<- e2];exact ub⟩ ⟨sP.2,sP.1⟩
 ·exact absurd (e1.trans e2.symm) hab
 ·exact zK0 g hs hr hu ht ⟨by rw [<- e2];exact ub,by rw [<- e1];exact ua⟩ ⟨s3,sP.2⟩
 ·exact zK0 g hs hp hu ht ⟨by rw [<- e2];exact ub,by rw [<- e1];exact ua⟩ ⟨sP.1,s3⟩
 ·exact zK0 g hs hr hu ht ⟨by rw [<- e1];exact ua,by rw [<- e2];exact ub⟩ ⟨s3,sP.2⟩
 ·exact absurd (e1.trans e2.symm) hab
theorem z7b (g:Full x) (hs:jV (InN x.1.1) x.1.2) {L:List Int} (hL:zCA x L) {e:Int×Int} {D:List (Int×Int)} (he:zJJ x e) (ke:zBN x.1.2 e.1 e.2) (hm:e.1∈L)
 (hD: ∀ d∈D,zJJ x d/\zBN x.1.2 d.1 d.2/\d.1∈L) (hp:D.Pairwise (fun e f=>zAS x.1.2 e.1 e.2 f.1 f.2)) (hpe: ∀ d∈D,zAS x.1.2 d.1 d.2 e.1 e.2):D.length+4<=L.length:=by
 have h4:=zU5 g hs hL he ke hm
 obtain ⟨T,t1,t2,t3⟩:=z7H g hL (e::D) (fun d hd=>by
  rcases zT.1 hd with k|k
  ·rw [k];exact ⟨he,ke,hm⟩
  ·exact hD d k) (List.pairwise_cons.2 ⟨fun d hd t ht a b=>hpe d hd t ht b a,hp⟩)
 have:=zBx T L t1 fun v hv=>(t3 v hv).1;rw [t2,yA] at this;omega
end
end S1
namespace S1
def zHO (x:yI.T) (e:Int×Int) (n:Int):Prop:= ∃ j:Nat,j<x.1.2.length/\n=j/\(z8 (tg x.1.2 j) e.1\/z8 (tg x.1.2 j) e.2)
theorem zXH (m:ReM) (l:List Int):zYy m l=(l.map fun c=>c.tdiv 3).foldl (fun m u=>zAB (.int .i64) m u true) m:=by
 unfold zYy;rw [List.foldl_map]
theorem zOR: ∀ (m:ReM) (k:Int),(∀ p∈m,p.2=true)->∀ p∈zAB (.int .i64) m k true,p.2=true
 | [],k,_,p,hp=>by
   have:p∈[((k,true):(ETy.int .i64).T×Bool)]:=hp;rw [zF.1 this]
 | (a,b)::r,k,h,p,hp=>by
   unfold zAB at hp;split at hp
   ·rcases zT.1 hp with e|e
    ·rw [e]
    ·exact h p (zQ _ e)
   ·rcases zT.1 hp with e|e
    ·rw [e];exact h (a,b) (zY ..)
    ·exact zOR r k (fun q hq=>h q (zQ _ hq)) p e
theorem zO5: ∀ (l:List Int) (m:ReM),(∀ p∈m,p.2=true)->∀ p∈l.foldl (fun m u=>zAB (.int .i64) m u true) m,p.2=true
 | [],_,h=>h
 | a::r,m,h=>zO5 r _ (zOR m a h)
theorem z4O {m:ReM} (h: ∀ p∈m,p.2=true) {n:Int} :had m n=true↔n∈zE3 m:=by
 refine ⟨zQU,?_⟩
 induction m with
 | nil=>intro k;cases k
 | cons p r ih =>
   obtain ⟨a,b⟩:=p;intro k;have hb:b=true:=h (a,b) (zY ..);subst hb
   by_cases e:a=n
   ·subst e;show (jS (.int .i64) ((a,true)::r) a).getD false=true;unfold jS;split
    ·rfl
    ·rename_i h0 _;exact absurd rfl h0
   ·have:had r n=true:=ih (fun q hq=>h q (zQ _ hq)) ((zT.1 k).resolve_left (fun q=>e q.symm));show (jS (.int .i64) ((a,true)::r) n).getD false=true;unfold jS;split
    ·rfl
    ·exact this
theorem zRk (x:yI.T) (e:Int×Int):zCt x e=((yU (some x) e.1++yU (some x) e.2).map fun c=>c.tdiv 3).foldl (fun m u=>zAB (.int .i64) m u true) []:=by
 show zYy (zYy [] (yU (some x) e.1)) (yU (some x) e.2)=_;rw [zXH,zXH,zbo,zbm]
theorem zS7 (x:yI.T) (e:Int×Int): ∀ p∈zCt x e,p.2=true:=by
 rw [zRk];exact zO5 _ _ fun p h=>by cases h
section
variable {x:yI.T}
theorem zN9 (g:Full x) {v n:Int} :(∃ c∈yU (some x) v,c.tdiv 3=n)↔∃ j:Nat,j<x.1.2.length/\n=j/\z8 (tg x.1.2 j) v:=by
 constructor
 ·rintro ⟨c,hc,rfl⟩
  have hv:0<=v/\v<x.1.1:=by
   apply yF;intro k
   have:zBR x v=false:=by
    rw [<- zbV,zJK];exact fun q=>k ⟨q.1,q.2.1⟩
   have hc:c∈(if zBR x v then _ else _:List Int):=hc;rw [this] at hc;cases hc
  obtain ⟨b,_,_,_,_,_,hall,_⟩:=g.around hv.1 hv.2;obtain ⟨h1,h2⟩:=hall c hc;obtain ⟨k1,k2⟩:=zAw h1;have h0:=(yH.1 h1).1;rw [h2] at k2;exact ⟨(c / 3).toNat,k1,by rw [Int.tdiv_eq_ediv_of_nonneg h0];omega,k2⟩
 ·rintro ⟨j,hj,rfl,hv⟩;obtain ⟨c,h1,h2,h3⟩:=zJ7 hj hv;have h0:=(yH.1 h1).1;refine ⟨c,by rw [<- h3];exact g.around_all h1,?_⟩;rw [Int.tdiv_eq_ediv_of_nonneg h0];omega
theorem zMd (g:Full x) {e:Int×Int} {n:Int} :had (zCt x e) n=true↔zHO x e n:=by
 rw [zRk,zLM];have e0:had [] n=true↔False:=⟨fun h=>(by cases h),False.elim⟩;rw [e0,false_or,zbo,yD,yC,yC,zN9 g,zN9 g];constructor
 ·rintro (⟨j,a,b,c⟩|⟨j,a,b,c⟩)
  ·exact ⟨j,a,b,.inl c⟩
  ·exact ⟨j,a,b,.inr c⟩
 ·rintro ⟨j,a,b,c|c⟩
  ·exact .inl ⟨j,a,b,c⟩
  ·exact .inr ⟨j,a,b,c⟩
theorem zFt (g:Full x) {e:Int×Int} {n:Int} :n∈zE3 (zCt x e)↔zHO x e n:=by
 rw [<- z4O (zS7 x e),zMd g]
theorem zW3 (g:Full x) {e f:Int×Int} :zKk (zCt x e) (zCt x f)=true↔zAS x.1.2 e.1 e.2 f.1 f.2:=by
 unfold zKk;rw [zJ];constructor
 ·intro h t ht a b;obtain ⟨j,hj,rfl⟩:=zAO ht;obtain ⟨p,hp,e1⟩:=yC.1 ((zFt g).2 (⟨j,hj,rfl,a⟩:zHO x e j));have:=h p hp;rw [e1,(zMd g).2 (⟨j,hj,rfl,b⟩:zHO x f j)] at this;cases this
 ·intro h p hp;obtain ⟨j,hj,e1,a⟩:=(zFt g).1 (yC.2 ⟨p,hp,rfl⟩);cases e2:had (zCt x f) p.1 with
  | false=>rfl
  | true =>
    obtain ⟨i,hi,e3,b⟩:=(zMd g).1 e2;have:i=j:=by omega
    subst this;exact (h _ (qI hi) a b).elim
end
def apT (l:List P3) (e f:Int×Int):Bool:=l.all fun t=> !(decide (z8 t e.1\/z8 t e.2)&&decide (z8 t f.1\/z8 t f.2))
theorem zPn {l:List P3} {e f:Int×Int} :apT l e f=true↔zAS l e.1 e.2 f.1 f.2:=by
 unfold apT zAS;rw [zJ];refine forall_congr' fun t=>forall_congr' fun ht=> ?_;rw [zbB,Bool.and_eq_false_iff,yM,yM];constructor
 ·rintro (h|h) a b
  ·exact h a
  ·exact h b
 ·intro h
  by_cases a:z8 t e.1\/z8 t e.2
  ·exact .inr (h a)
  ·exact .inl a
def okE (x:yI.T) (C:List (Int×Int)) (e:Int×Int):Bool:=decide (zDV x e.1 e.2=0)&&C.all fun c=>apT x.1.2 c e
def chK (x:yI.T) (l:List (Int×Int)):Nat->List (Int×Int)
 | 0=>[]
 | k+1=>if okE x (chK x l k) (l.getD k (0,0))=true then chK x l k++[l.getD k (0,0)] else chK x l k
def zAh (x:yI.T) (l:List (Int×Int)):List (Int×Int):=chK x l l.length
theorem zNJ {x:yI.T} {l:List (Int×Int)} {k:Nat} (h:okE x (chK x l k) (l.getD k (0,0))=true):chK x l (k+1)=chK x l k++[l.getD k (0,0)]:=if_pos h
theorem zZW {x:yI.T} {l:List (Int×Int)} {k:Nat} (h: ¬ okE x (chK x l k) (l.getD k (0,0))=true):chK x l (k+1)=chK x l k:=if_neg h
theorem zM1 (x:yI.T) (l:List (Int×Int)): ∀ k,(chK x l k).length<=k
 | 0=>zI _
 | k+1=>by
   have:=zM1 x l k;unfold chK;split
   ·rw [zN,List.length_singleton];omega
   ·omega
theorem zJH {x:yI.T} (g:Full x) (hs:jV (InN x.1.1) x.1.2) {C:List (Int×Int)} {e:Int×Int} :okE x C e=true↔zBN x.1.2 e.1 e.2/\∀ c∈C,zAS x.1.2 c.1 c.2 e.1 e.2:=by
 unfold okE;rw [zC,zP,zKH g hs,zJ];exact and_congr_right fun _=>forall_congr' fun c=>forall_congr' fun _=>zPn
structure z6A (x:yI.T) (C:List (Int×Int)):Prop where
 free: ∀ e∈C,zBN x.1.2 e.1 e.2
 apart:C.Pairwise fun e f=>zAS x.1.2 e.1 e.2 f.1 f.2
theorem z6A.snoc {x:yI.T} {C:List (Int×Int)} {e:Int×Int} (h:z6A x C) (k:zBN x.1.2 e.1 e.2) (ka: ∀ c∈C,zAS x.1.2 c.1 c.2 e.1 e.2):z6A x (C++[e]) :=
 ⟨fun f hf=>(yD.1 hf).elim (h.free f) fun q=>by rw [zF.1 q];exact k,
   List.pairwise_append.2 ⟨h.apart,List.pairwise_singleton _ _,fun c hc d hd=>by rw [zF.1 hd];exact ka c hc⟩⟩
theorem zLL {x:yI.T} (g:Full x) (hs:jV (InN x.1.1) x.1.2) (l:List (Int×Int)): ∀ k,z6A x (chK x l k)
 | 0=>⟨fun e h=>(by cases h),List.Pairwise.nil⟩
 | k +1=>by
   have ih:=zLL g hs l k
   by_cases h:okE x (chK x l k) (l.getD k (0,0))=true
   ·rw [zNJ h];obtain ⟨h1,h2⟩:=(zJH g hs).1 h;exact ih.snoc h1 h2
   ·rw [zZW h];exact ih
theorem zVS {x:yI.T} (g:Full x) (hs:jV (InN x.1.1) x.1.2) {l:List (Int×Int)} (h:z6A x l): ∀ k,k<=l.length->chK x l k=l.take k
 | 0,_=>rfl
 | k +1,hk=>by
   have ih:=zVS g hs h k (by omega)
   have e:l.take (k+1)=l.take k++[l.getD k (0,0)]:=by
    rw [yB (by omega),zR,zG (by omega)];rfl
   rw [zNJ,ih,e];rw [ih,zJH g hs]
   have hm:l.getD k (0,0)∈l:=by
    rw [zR,zG (by omega)];exact yQ _
   refine ⟨h.free _ hm,fun c hc=> ?_⟩;have hp:=h.apart;rw [<- jE (k+1) l,e] at hp;have:=(List.pairwise_append.1 ((List.pairwise_append.1 hp).1)).2.2 c hc _ (zF.2 rfl);exact this
theorem zQM {x:yI.T} (g:Full x) (hs:jV (InN x.1.1) x.1.2) {l:List (Int×Int)} :(zAh x l).length=l.length↔z6A x l:=by
 constructor
 ·intro h
  have key: ∀ k,k<=l.length->(chK x l k).length=k->chK x l k=l.take k:=fun k=>by
   induction k with
   | zero=>exact fun _ _=>rfl
   | succ k ih =>
     intro hk he;have hl:=zM1 x l k
     by_cases c:okE x (chK x l k) (l.getD k (0,0))=true
     ·rw [zNJ c] at he ⊢;rw [zN,List.length_singleton] at he;rw [ih (by omega) (by omega),yB (by omega),zR,zG (by omega)];rfl
     ·rw [zZW c] at he;omega
  have e:=key l.length (zI _) h;rw [zbK] at e;rw [<- e];exact zLL g hs l l.length
 ·intro h;unfold zAh;rw [zVS g hs h l.length (zI _),zbK]
end S1
namespace S1
theorem z6S {I:Sig} {M:yR} {v:Value} (h:y6 I M ((ETy.pt yI).av none) v):y6 I M (z8M none) v:=by
 have h:[v]=[Value.pointer none]:=h;exact ⟨(List.cons.inj h).1,by simp [z8L]⟩
theorem zCn.res {P:Program} {f:FuncId} {args:List AV} {p q:Option Prop} {u u':AV} (h:zCn P f args (p,q,u)) (hu: ∀ (I:Sig) (v:Value),y6 I [] u v->y6 I [] u' v):zCn P f args (p,q,u') :=
 fun I vals w h1 h2=>⟨(h I vals w h1 h2).1,fun hq=>((h I vals w h1 h2).2 hq).mono fun _ _ ⟨v,σ',e1,e2,e3,e4,e5,e6⟩=>⟨v,σ',e1,e2,e3,e4,hu σ' v e5,e6⟩⟩
def zKs (x:yI.T):List AV->Option Res:=zEz qP (fun s=>some (none,some (zHP s=some x),.tup [(ETy.pt yI).av (some x),zB0.av (0,0,0)]))
theorem zMB (x:yI.T):qM prog 54 (zKs x):=mkR (zA1 fun s r h=>by
 cases h;intro I vals w hag hv;refine ⟨trivial,fun hq=> ?_⟩;have hq:zHP s=some x:=hq;have:=(newRow.1 _ _ (rfl:z9G [qP.av s]=_) I vals w hag hv).2 trivial
 have hc:(zJr s).1=0:=by
  unfold zHP at hq;split at hq
  ·assumption
  ·cases hq
 rw [hq,zQj hc] at this
 exact this) func54
def zVC:List AV->Option Res:=zEz qP (fun s=>some (none,some (zHP s=none),.tup [z8M none,zB0.av (zJr s)]))
theorem zXB:qM prog 54 zVC:=mkR (zA1 fun s r h=>by
 cases h;intro I vals w hag hv;refine ⟨trivial,fun hq=> ?_⟩;have hq:zHP s=none:=hq;have:=(newRow.1 _ _ (rfl:z9G [qP.av s]=_) I vals w hag hv).2 trivial;rw [hq] at this;refine this.mono fun e w' ⟨v,σ',e1,e2,e3,e4,e5,e6⟩=>⟨v,σ',e1,e2,e3,e4,?_,e6⟩;obtain ⟨vs,e,r⟩:=e5
 match vs,r with
 | [a,b],r=>exact ⟨_,e,z6S r.1,r.2.1,trivial⟩) func54
end S1
namespace S1
def doE (s:SoT) (a b:Int):Int:=if isR s=true then (if (0<=a/\a<s.1)/\(0<=b/\b<s.1) then zO7 (zDV (zAa s) a b) else 2) else 11
def doR (s:SoT) (a b:Int):SoT×zAJ×Int:=if doE s a b=0 then ((s.1 - 1,drL a b s.2 s.2.length),zQm s a b,0) else ((0,[]),(0,0,[],[],[]),doE s a b)
def doV (r:SoT×zAJ×Int):AV:= .tup [qP.av r.1,zG3.av r.2.1,.s (.int .i64 r.2.2)]
def doW (r:SoT×zAJ×Int):AV:=if r.2.2=0 then doV r else .tup [.agg [.int .i64 0,.val (.slice none 0 0)],.agg [.int .i64 0,.int .i64 0,.val (.slice none 0 0),.val (.slice none 0 0),.val (.slice none 0 0)],.s (.int .i64 r.2.2)]
theorem zSy {s:SoT} {a b:Int} (h:doE s a b=0):doR s a b=((s.1 - 1,drL a b s.2 s.2.length),zQm s a b,0):=if_pos h
theorem z64 {s:SoT} {a b:Int} (h:doE s a b≠0):doR s a b=((0,[]),(0,0,[],[],[]),doE s a b):=if_neg h
theorem zLI (s:SoT) (a b:Int):(doR s a b).2.2=doE s a b:=by
 by_cases h:doE s a b=0
 ·rw [zSy h,h]
 ·rw [z64 h]
theorem zB4 (s:SoT):isR s=true↔zBK s:=by
 unfold isR;rw [zP];exact ⟨fun h=>(zD9 s).1 (by rw [h]),fun h=>zQj ((zD9 s).2 h)⟩
theorem zIA {s:SoT} (h:zBK s) (a b:Int):doE s a b=if (0<=a/\a<s.1)/\(0<=b/\b<s.1) then zO7 (zDV (zAa s) a b) else 2:=if_pos ((zB4 s).2 h)
theorem z7J {s:SoT} (h:zHP s=none) (a b:Int):doE s a b=11:=if_neg fun k=>by
 have:=(zAu ((zB4 s).1 k)).1;rw [h] at this;cases this
theorem z0v {s:SoT} {a b e:Int} (h:doE s a b=e) (he:e≠0):doW (doR s a b)= .tup [.agg [.int .i64 0,.val (.slice none 0 0)],.agg [.int .i64 0,.int .i64 0,.val (.slice none 0 0),.val (.slice none 0 0),.val (.slice none 0 0)],.s (.int .i64 e)]:=by
 unfold doW;rw [zLI,h,if_neg he]
theorem z6j {s:SoT} {a b:Int} (h:doE s a b=0):doW (doR s a b)=doV ((s.1 - 1,drL a b s.2 s.2.length),zQm s a b,0):=by
 unfold doW;rw [zLI,h,if_pos rfl,zSy h]
theorem zIo {I:Sig} {e:ETy} {v:Value} (h:y5 I [] (.val (.slice none 0 0)) v):y5 I [] (.sl e []) v:=by
 obtain ⟨h,_⟩:=h;subst h;exact zBI (.sl e)
theorem zUl {I:Sig} {s:SoT} {a b:Int} {v:Value} (h:y6 I [] (doW (doR s a b)) v):y6 I [] (doV (doR s a b)) v:=by
 by_cases he:doE s a b=0
 ·rw [z6j he] at h;rw [zSy he];exact h
 ·rw [z0v rfl he] at h;rw [z64 he];obtain ⟨vs,e1,h⟩:=h
  match vs,h with
  | [x,y,z],⟨⟨ds,ea,h1⟩,⟨dt,eb,h2⟩,h3⟩ =>
    refine ⟨_,e1,⟨ds,ea,?_⟩,⟨dt,eb,?_⟩,h3⟩
    ·match ds,h1 with
     | [d1,d2],⟨k1,k2,k3⟩=>exact ⟨k1,zIo k2,k3⟩
    ·match dt,h2 with
     | [d1,d2,d3,d4,d5],⟨k1,k2,k3,k4,k5,k6⟩=>exact ⟨k1,k2,zIo k3,zIo k4,zIo k5,k6⟩
theorem z9l (a:Int) (t:P3):(zPC a [t.1,t.2.1,t.2.2] 0>=0↔z8 t a)/\(z8 t a->zPC a [t.1,t.2.1,t.2.2] 0=zKb a t):=by
 obtain ⟨x,y,z⟩:=t;simp only [zPC,z8,zKb];refine ⟨?_,fun h=> ?_⟩
 ·by_cases h1:a=x
  ·rw [if_pos h1];exact ⟨fun _=> .inl h1.symm,fun _=>by decide⟩
  ·rw [if_neg h1]
   by_cases h2:a=y
   ·rw [if_pos h2];exact ⟨fun _=> .inr (.inl h2.symm),fun _=>by decide⟩
   ·rw [if_neg h2]
    by_cases h3:a=z
    ·rw [if_pos h3];exact ⟨fun _=> .inr (.inr h3.symm),fun _=>by decide⟩
    ·rw [if_neg h3];exact ⟨fun h=>absurd h (by decide),fun h=>by omega⟩
 ·by_cases h1:x=a
  ·rw [if_pos h1,if_pos h1.symm];rfl
  ·rw [if_neg h1,if_neg (Ne.symm h1)]
   by_cases h2:y=a
   ·rw [if_pos h2,if_pos h2.symm];rfl
   ·rw [if_neg h2,if_neg (Ne.symm h2),if_pos (by omega)];rfl
theorem z9z (a:Int) (t:P3):zDv a [t.1,t.2.1,t.2.2]=true↔z8 t a:=by unfold zDv;rw [zP];exact (z9l a t).1
theorem zMP {a b v:Int} (h:0<=v):zJs v a b=dn a (ph a b v):=by
 unfold zJs dn ph;rw [if_neg (by omega)]
theorem z6u (a b:Int) (l:List P3):atL a b l 0=[]:=rfl
theorem z6t (a b:Int) (l:List P3):rtL a b l 0=[]:=rfl
theorem z2k (a b:Int) (l:List P3):zDn a b l 0=[]:=rfl
theorem z8E (a b:Int) (l:List P3):drL a b l 0=[]:=rfl
theorem z6i {a b:Int} {l:List P3} {i:Nat} (h:both a b (tg l i)=true):atL a b l (i+1)=atL a b l i++[(i:Int)]/\rtL a b l (i+1)=rtL a b l i++[tg l i]/\zDn a b l (i+1)=zDn a b l i/\drL a b l (i+1)=drL a b l i:=by
 have e1:atL a b l (i+1)=atL a b l i++(atG a b l i).toList:=q9 _ _;have e2:rtL a b l (i+1)=rtL a b l i++(rtG a b l i).toList:=q9 _ _;have e3:zDn a b l (i+1)=zDn a b l i++(zOt a b l i).toList:=q9 _ _;rw [e1,e2,e3,zFm];unfold atG rtG zOt drG;rw [if_pos h,if_pos h,if_pos h,if_pos h];exact ⟨rfl,rfl,zbF _,zbF _⟩
theorem z83 {a b:Int} {l:List P3} {i:Nat} (h: ¬ both a b (tg l i)=true) (h2:z8 (tg l i) a):atL a b l (i+1)=atL a b l i/\rtL a b l (i+1)=rtL a b l i/\zDn a b l (i+1)=zDn a b l i++[3*(i:Int)+zKb a (tg l i)]/\drL a b l (i+1)=drL a b l i++[drT a b (tg l i)]:=by
 have e1:atL a b l (i+1)=atL a b l i++(atG a b l i).toList:=q9 _ _;have e2:rtL a b l (i+1)=rtL a b l i++(rtG a b l i).toList:=q9 _ _;have e3:zDn a b l (i+1)=zDn a b l i++(zOt a b l i).toList:=q9 _ _;rw [e1,e2,e3,zFm];unfold atG rtG zOt drG;rw [if_neg h,if_neg h,if_neg h,if_neg h,if_pos h2];exact ⟨zbF _,zbF _,rfl,rfl⟩
theorem z8m {a b:Int} {l:List P3} {i:Nat} (h2: ¬ z8 (tg l i) a):atL a b l (i+1)=atL a b l i/\rtL a b l (i+1)=rtL a b l i/\zDn a b l (i+1)=zDn a b l i/\drL a b l (i+1)=drL a b l i++[drT a b (tg l i)]:=by
 have h: ¬ both a b (tg l i)=true:=fun k=>h2 ((zBk.1 k).1);have e1:atL a b l (i+1)=atL a b l i++(atG a b l i).toList:=q9 _ _;have e2:rtL a b l (i+1)=rtL a b l i++(rtG a b l i).toList:=q9 _ _;have e3:zDn a b l (i+1)=zDn a b l i++(zOt a b l i).toList:=q9 _ _;rw [e1,e2,e3,zFm];unfold atG rtG zOt drG;rw [if_neg h,if_neg h,if_neg h,if_neg h,if_neg h2];exact ⟨zbF _,zbF _,zbF _,rfl⟩
theorem zND {s:SoT} (h:zBK s):zD4 s=true:=by
 have hf:=h.fit
 have hb:zSo s.1 s.2 0= -1:=zUX _ _ _ fun t ht=>by
  obtain ⟨i,hi,e⟩:=zAO ht;have h1:=hf.2.2.2 i hi;have h2:=h.deg i hi;have e2:s.2.getD i (0,0,0)=t:=e;rw [e2] at h1;rw [e] at h2;unfold dgn at h2;unfold z1H;rw [h1];simp only [Bool.true_and,zC,bne_iff_ne];exact ⟨fun k=>h2 (.inl k),fun k=>h2 (.inr (.inl k)),fun k=>h2 (.inr (.inr k))⟩
 unfold zD4;have h1:=hf.1;have h2:=hf.2.1;have h3:=hf.2.2.1;rw [hb,decide_eq_false (by omega),decide_eq_false (by omega),decide_eq_false (by omega),decide_eq_false (by omega)];rfl
theorem z4p {s:SoT} (h:zBK s) {a b:Int} (hn: ¬ ((0<=a/\a<s.1)/\(0<=b/\b<s.1))):doE s a b=2:=by rw [zIA h,if_neg hn]
theorem z6w {s:SoT} (h:zBK s) {a b:Int} (hn:(0<=a/\a<s.1)/\(0<=b/\b<s.1)):doE s a b=zO7 (z6E (some (zAa s)) a b):=by rw [zIA h,if_pos hn];rfl
def zNo (n a b:Int) (l:List P3):Spec Nat where
 inv i:=i<=l.length
 live i:=[(71,.s (.int .i64 i))]
 keep:=[1,2,3,6,7,8,12,13,69,70]
 heap i:=[(4,.flat 103 [.int .i64 a,.int .i64 b,.own 6 0 (atL a b l i).length,.own 7 0 (rtL a b l i).length,.own 8 0 (zDn a b l i).length]),(5,.flat 24 [.int .i64 (n - 1),.own 9 0 (drL a b l i).length]),
  (6,.row y8 3 (atL a b l i)),(7,.row .arr3 86 (rtL a b l i)),(8,.row y8 3 (zDn a b l i)),(9,.row .arr3 86 (drL a b l i))]
 keepH:=[0,1,2,3]
 mu i:=l.length - i
 nils:=[4,4,4,5]
attribute [local irreducible] doW z6E zO7 zDv zPC atL rtL zDn drL zJs zD4
theorem z7F (n:Int) (l:List P3) (a b:Int) (x:yI.T) (hx:zHP (n,l)=some x):zAG ⟨tyL,[(54,zKs x),(100,zMX),(69,z4l),(101,zXr),(102,zF6),(103,zAe),(104,zPo)],[]⟩ f65 [qP.av (n,l),y8.av a,y8.av b] (fun r=>r=doW (doR (n,l) a b)):=by
 obtain ⟨e0,g,hs⟩:=zHj hx
 repeat' (conv=>whnf
          first|done|refine qy ?_|refine qG fun _=> ?_|refine qw (fun _=> ?_) (fun _=> ?_)|apply qt|refine qi (fun _=> ?_) (fun _=> ?_)|(refine qS 12 rfl ?_;refine Or.inr (zB (Nat) (zB (zNo n a b l) (zA (zB (0) (zA (yJ.out ?_) (zA ?_ (zA ?_ rfl)))) (fun i hi=> ?_)))))|with_reducible refine zaA (zNo _ _ _ _) (i+1) ?_ ?_ ?_ ?_|refine qu ?_|refine qv ?_ ?_|exact zO)
 all_goals try first|refine qz ?_|apply qz5
 all_goals try simp only [qn0,z7,zX,ETy.dflt,Int.reduceToNat,Int.reduceAdd,Int.reduceSub,Int.reduceNeg,Nat.reduceAdd,zNo] at *
 all_goals have hf:=hs.fit
 all_goals have hn:0<=n/\n<=4096:=⟨hf.1,hf.2.1⟩
 all_goals have hl:l.length<=8192:=hf.2.2.1
 all_goals try exact y9.intro (z0v (z4p hs (by show ¬ ((0<=a/\a<n)/\0<=b/\b<n);omega)) (by decide)).symm
 all_goals try exact yJ.intro (fun y e=>by cases e;exact g.toGood)
 all_goals try exact absurd (zND hs) (by rw [show zD4 (n,l)=false by assumption];decide)
 all_goals have hab:(0<=a/\a<n)/\(0<=b/\b<n):=by omega
 all_goals have hE:doE (n,l) a b=zO7 (z6E (some x) a b):=by rw [e0];exact z6w hs hab
 all_goals try exact y9.intro (z0v hE (by assumption)).symm
 all_goals try first|exact z6u a b l|exact z6t a b l|exact z2k a b l|exact z8E a b l|(rw [z6u,z6t,z2k];exact jL.intro rfl)|(rw [z8E];exact jL.intro rfl)
 all_goals try (refine yJ.intro ?_;unfold yP;omega)
 all_goals try (refine yJ.intro ?_;omega)
 all_goals try
  have hi9:i=l.length:=by omega
  subst hi9;rw [z6j (hE.trans (by assumption))];exact y9.intro rfl
 all_goals have hi1:(i:Int)<l.length:=by assumption
 all_goals have hla:(atL a b l i).length<=i:=z6V a b l i
 all_goals have hlr:(rtL a b l i).length<=i:=z6n a b l i
 all_goals have hlf:(zDn a b l i).length<=i:=z5i a b l i
 all_goals have hld:=z5F a b l i
 all_goals have ht:(0<=(l.getD i (0,0,0)).1/\(l.getD i (0,0,0)).1<n)/\(0<=(l.getD i (0,0,0)).2.1/\(l.getD i (0,0,0)).2.1<n)/\(0<=(l.getD i (0,0,0)).2.2/\(l.getD i (0,0,0)).2.2<n):=zAH (hf.2.2.2 i (show i<l.length by omega))
 all_goals try (refine yJ.intro ?_;omega)
 all_goals try (refine yJ.intro ⟨⟨?_,?_⟩,?_,?_⟩<;>clear hi hi1 hx e0 g hs hf hE<;>omega)
 all_goals try exact absurd (show zPC a [(l.getD i (0,0,0)).fst,(l.getD i (0,0,0)).snd.fst,(l.getD i (0,0,0)).snd.snd] 0>=0 by assumption) (by assumption)
 all_goals have fa:=z9l a (l.getD i (0,0,0))
 all_goals have fb:=z9z b (l.getD i (0,0,0))
 all_goals have hp3:=zQh (a:=a) (t:=l.getD i (0,0,0))
 all_goals have eD:drT a b (l.getD i (0,0,0))=(zJs (l.getD i (0,0,0)).1 a b,zJs (l.getD i (0,0,0)).2.1 a b,zJs (l.getD i (0,0,0)).2.2 a b):=by
            rw [zMP ht.1.1,zMP ht.2.1.1,zMP ht.2.2.1];rfl
 all_goals try
  have kb:zDv b [(l.getD i (0,0,0)).fst,(l.getD i (0,0,0)).snd.fst,(l.getD i (0,0,0)).snd.snd]=true:=by assumption
  have ka:z8 (l.getD i (0,0,0)) a:=fa.1.1 (by assumption);obtain ⟨k1,k2,k3,k4⟩:=z6i (a:=a) (b:=b) (l:=l) (i:=i) (zBk.2 ⟨ka,fb.1 kb⟩);rw [k1,k2,k3];exact jL.intro (by simp only [zN,List.length_singleton])
 all_goals try
  have kb:zDv b [(l.getD i (0,0,0)).fst,(l.getD i (0,0,0)).snd.fst,(l.getD i (0,0,0)).snd.snd]=true:=by assumption
  have ka:z8 (l.getD i (0,0,0)) a:=fa.1.1 (by assumption);obtain ⟨k1,k2,k3,k4⟩:=z6i (a:=a) (b:=b) (l:=l) (i:=i) (zBk.2 ⟨ka,fb.1 kb⟩)
  first|exact k1|exact k2|exact k3|exact k4|(rw [k4];exact jL.intro rfl)
 all_goals try
  have kb:zDv b [(l.getD i (0,0,0)).fst,(l.getD i (0,0,0)).snd.fst,(l.getD i (0,0,0)).snd.snd]=false:=by assumption
  have ka:z8 (l.getD i (0,0,0)) a:=fa.1.1 (by assumption);have eF:=fa.2 ka;have kn: ¬ both a b (tg l i)=true:=fun k=>by rw [fb.2 (zBk.1 k).2] at kb;cases kb
  obtain ⟨k1,k2,k3,k4⟩:=z83 (a:=a) (b:=b) (l:=l) (i:=i) kn ka
  first
  | exact k1
  | exact k2
  | (rw [eF];exact k3)
  | (rw [<- eD];exact k4)
  | (rw [k1,k2,k3];exact jL.intro (by simp only [zN,List.length_singleton]))
  | (rw [k4];exact jL.intro (by simp only [zN,List.length_singleton]))
  | (rw [eF];refine yJ.intro ?_;unfold yP;omega)
 all_goals
  have ka: ¬ z8 (l.getD i (0,0,0)) a:=fun k=>absurd (fa.1.2 k) (by assumption);obtain ⟨k1,k2,k3,k4⟩:=z8m (a:=a) (b:=b) (l:=l) (i:=i) ka
  first
  | exact k1
  | exact k2
  | exact k3
  | (rw [<- eD];exact k4)
  | (rw [k1,k2,k3];exact jL.intro rfl)
  | (rw [k4];exact jL.intro (by simp only [zN,List.length_singleton]))
theorem z3k (n:Int) (l:List P3) (a b:Int) (hx:zHP (n,l)=none):zAG ⟨tyL,[(54,zVC),(100,zMX),(69,z4l),(101,zXr),(102,zF6),(103,zAe),(104,zPo)],[]⟩ f65 [qP.av (n,l),y8.av a,y8.av b] (fun r=>r=doW (doR (n,l) a b)):=by
 have e:=z0v (z7J hx a b) (by decide)
 repeat' (conv=>whnf
          first|done|refine qy ?_|refine qG fun _=> ?_|refine qw (fun _=> ?_) (fun _=> ?_)|apply qt|refine qi (fun _=> ?_) (fun _=> ?_)|(refine qS 12 rfl ?_;refine Or.inr (zB (Nat) (zB (zNo n a b l) (zA (zB (0) (zA (yJ.out ?_) (zA ?_ (zA ?_ rfl)))) (fun i hi=> ?_)))))|with_reducible refine zaA (zNo _ _ _ _) (i+1) ?_ ?_ ?_ ?_|refine qu ?_|refine qv ?_ ?_|exact zO)
 all_goals try first|refine qz ?_|apply qz5
 all_goals try simp only [qn0,z7,zX,ETy.dflt,Int.reduceToNat,Int.reduceAdd,Int.reduceSub,Int.reduceNeg,Nat.reduceAdd] at *
 all_goals try exact yJ.intro hx
 all_goals exact y9.intro e.symm
def z5p:List AV->Option Res:=zOw qP y8 y8 (fun s a b=>some (none,none,doV (doR s a b)))
theorem zVA:qM prog 65 z5p:=mkR (zDZ fun s a b r h=>by
 cases h;cases e:zHP s with
 | none=>exact zCn.res (fb (fn:=[(54,zVC),(100,zMX),(69,z4l),(101,zXr),(102,zF6),(103,zAe),(104,zPo)]) ⟨zXB,zL5,zXj,zVJ,zJD,zCU,zPh,trivial⟩ func65 fun _ _=>z3k s.1 s.2 a b e) fun I v h=>zUl h
 | some x=>exact zCn.res (fb (fn:=[(54,zKs x),(100,zMX),(69,z4l),(101,zXr),(102,zF6),(103,zAe),(104,zPo)]) ⟨(zMB x),zL5,zXj,zVJ,zJD,zCU,zPh,trivial⟩ func65 fun _ _=>z7F s.1 s.2 a b x e) fun I v h=>zUl h) func65
end S1
namespace S1
theorem z3J (x:yI.T) (a b:Int):zDV x a b=0\/zDV x a b=1\/zDV x a b=2\/zDV x a b=3\/zDV x a b=4:=by
 unfold zDV
 (repeat' split)<;>simp
theorem z2y {w:SoT} {a b:Int} (h:doE w a b=0):zBK w/\InN w.1 a/\InN w.1 b/\zDV (zAa w) a b=0/\a≠b:=by
 have hs:zBK w:=by
  apply yF;intro k;unfold doE at h;rw [if_neg (fun e=>k ((zB4 w).1 e))] at h;cases h
 rw [zIA hs] at h;split at h
 case isFalse=>cases h
 rename_i hr
 have h0:zDV (zAa w) a b=0:=by
  rcases z3J (zAa w) a b with e|e|e|e|e
  ·exact e
  all_goals (rw [e] at h;exact absurd h (by decide))
 refine ⟨hs,hr.1,hr.2,h0,fun e=> ?_⟩;subst e;rw [z4G (zCN (zAu hs).2.1.toGood a)] at h0;cases h0
theorem zWU {w s:SoT} {r:zAJ} {a b:Int} (h:doR w a b=(s,r,0)):Was w a b/\s=(w.1 - 1,drL a b w.2 w.2.length)/\r=zQm w a b/\zDV (zAa w) a b=0:=by
 have he:doE w a b=0:=by rw [<- zLI,h]
 rw [zSy he] at h;obtain ⟨h1,h2,h3,h4,h5⟩:=z2y he;have e1:=congrArg Prod.fst h;have e2:=congrArg (fun z=>z.2.1) h;exact ⟨⟨h1,h2,h3,h5⟩,e1.symm,e2.symm,h4⟩
theorem zLW {w s:SoT} {r:zAJ} {a b:Int} (h:doR w a b=(s,r,0)):bkR s r=(w,true)/\rbk s r=some w:=by
 obtain ⟨h1,h2,h3,_⟩:=zWU h;subst h2 h3;exact ⟨z6T h1,z4w h1⟩
theorem zZC {w s:SoT} {r:zAJ} {a b:Int} (h:doR w a b=(s,r,0)):zBK s:=by
 obtain ⟨h1,h2,h3,h4⟩:=zWU h;have:=zOM (zAu h1.surf).2.1 h1.surf h4;rw [h2,zXa];exact this
open Classical in
noncomputable def zBe (s:SoT) (r:zAJ):SoT×Int:=if h: ∃ w,doR w r.1 r.2.1=(s,r,0) then (Classical.choose h,0) else ((0,[]),if isR s=true then 3 else 11)
theorem zSW {w s:SoT} {r:zAJ} (h:doR w r.1 r.2.1=(s,r,0)):zBe s r=(w,0):=by
 have hh: ∃ w,doR w r.1 r.2.1=(s,r,0):=⟨w,h⟩;unfold zBe;rw [dif_pos hh];have k:=(zLW (Classical.choose_spec hh)).1;rw [(zLW h).1] at k;exact Prod.ext (congrArg (fun z=>z.1) k).symm rfl
theorem zQz {s:SoT} {r:zAJ} (h: ¬ ∃ w,doR w r.1 r.2.1=(s,r,0)):zBe s r=((0,[]),if isR s=true then 3 else 11):=by
 unfold zBe;rw [dif_neg h]
theorem zZa {s:SoT} {r:zAJ} (h:zHP s=none):zBe s r=((0,[]),11):=by
 have hn: ¬ isR s=true:=fun k=>by have:=(zAu ((zB4 s).1 k)).1;rw [h] at this;cases this
 rw [zQz (fun ⟨w,hw⟩=>hn ((zB4 s).2 (zZC hw))),if_neg hn]
theorem z4K {s:SoT} {r:zAJ} (hs:zBK s) (h: ∀ w,bkR s r=(w,true)->doR w r.1 r.2.1≠(s,r,0)):zBe s r=((0,[]),3):=by
 rw [zQz (fun ⟨w,hw⟩=>h w (zLW hw).1 hw),if_pos ((zB4 s).2 hs)]
def bkV (r:SoT×Bool):AV:= .tup [qP.av r.1,.s (.bool r.2)]
def bkW (s:SoT) (r:zAJ):AV:=if bkC s r/\kF (bkG r) (bkN s r)<=s.2.length/\zXx (bkN s r) r.2.2.2.2=true then bkV (bkR s r) else .tup [.agg [.int .i64 0,.val (.slice none 0 0)],.s (.bool false)]
theorem z3h {I:Sig} {s:SoT} {r:zAJ} {v:Value} (h:y6 I [] (bkW s r) v):y6 I [] (bkV (bkR s r)) v:=by
 unfold bkW at h;split at h
 ·exact h
 ·rename_i hn;unfold bkR;rw [if_neg hn];obtain ⟨vs,e1,h⟩:=h
  match vs,h with
  | [x,y],⟨⟨ds,ea,h1⟩,h3⟩ =>
    refine ⟨_,e1,⟨ds,ea,?_⟩,h3⟩
    match ds,h1 with
    | [d1,d2],⟨k1,k2,k3⟩=>exact ⟨k1,zIo k2,k3⟩
def z5z (r:zAJ) (k:Nat):GoT:=z5K r.2.2.1 r.2.2.2.1 k
theorem z6b (r:zAJ):z5z r 0=[]:=rfl
theorem z6a (r:zAJ) (k:Nat):z5z r (k+1)=zAB (.int .i64) (z5z r k) (r.2.2.1.getD k 0) (r.2.2.2.1.getD k (0,0,0)):=rfl
theorem z2c (g:GoT) (T:List P3) (A:Int):zJp g T A 0=[]:=rfl
theorem z1k (g:GoT) (T:List P3) (A:Int) (i:Nat):zJp g T A (i+1)=zJp g T A i++[bkT g T A i]:=by
 unfold zJp;rw [List.range_succ,zbo];rfl
theorem zRl (g:GoT) (T:List P3) (A:Int) (i:Nat):(zJp g T A i).length=i:=by unfold zJp;simp
theorem zRL (A:Int) (fan:List Int) (o:List P3): ∀ j,(zSi A fan o j).length=o.length
 | 0=>rfl
 | j+1=>by
   show (zYZ A (zSi A fan o j) (fan.getD j 0)).length=_;unfold zYZ;rw [zbY];exact zRL A fan o j
theorem z7I (A:Int) (fan:List Int) (o:List P3) (j:Nat):zSi A fan o (j+1)=(zSi A fan o j).set ((fan.getD j 0).tdiv 3).toNat (z5u ((zSi A fan o j).getD ((fan.getD j 0).tdiv 3).toNat (0,0,0)) ((fan.getD j 0).tmod 3).toNat A):=rfl
def zX7 (r:zAJ):Spec Nat where
 inv i:=i<=r.2.2.1.length
 live i:=[(59,.s (.int .i64 i))]
 keep:=[2,3,4,5,6,7,57,58]
 heap i:=[(3,.map y8 .arr3 (z5z r i))]
 keepH:=[0,1,2]
 mu i:=r.2.2.1.length - i
def zUa (n:Int) (l:List P3) (r:zAJ):Spec Nat where
 inv i:=i<=bkN (n,l) r/\kF (bkG r) i<=l.length
 live i:=[(77,.s (.int .i64 i)),(11,.s (.int .i64 (kF (bkG r) i)))]
 keep:=[2,3,4,5,6,7,10,76]
 heap i:=[(4,.flat 24 [.int .i64 (n+1),.own 5 0 (zJp (bkG r) l r.1 i).length]),(5,.row .arr3 86 (zJp (bkG r) l r.1 i))]
 keepH:=[0,1,2,3]
 mu i:=bkN (n,l) r - i
 nils:=[4]
def zYK (n:Int) (l:List P3) (r:zAJ):Spec Nat where
 inv j:=j<=r.2.2.2.2.length/\∀ k,k<j->0<=r.2.2.2.2.getD k 0/\r.2.2.2.2.getD k 0<3*(bkN (n,l) r:Int)
 live j:=[(125,.s (.int .i64 j))]
 keep:=[2,3,4,5,6,7,10,11,123,124]
 heap j:=[(5,.row .arr3 86 (zSi r.1 r.2.2.2.2 (zJp (bkG r) l r.1 (bkN (n,l) r)) j))]
 keepH:=[0,1,2,3,4]
 mu j:=r.2.2.2.2.length - j
theorem zV0 {n:Nat} {fan:List Int} {k:Nat} (hk:k<fan.length) (h:fan.getD k 0<0\/fan.getD k 0>=3*(n:Int)): ¬ zXx n fan=true:=fun e=>by
 unfold zXx at e;have:=zJ.1 e _ (jB hk);rw [zP] at this;omega
theorem z04 {n:Nat} {fan:List Int} (h: ∀ k,k<fan.length->0<=fan.getD k 0/\fan.getD k 0<3*(n:Int)):zXx n fan=true:=by
 unfold zXx;rw [zJ];intro c hc;obtain ⟨i,hi,e⟩:=yG.1 hc;have:=h i hi;rw [zR,zG hi] at this;have this:0<=fan[i]/\fan[i]<3*(n:Int):=this;rw [e] at this;rw [zP];exact this
theorem zSU {s:SoT} {r:zAJ} (h: ¬ (bkC s r/\kF (bkG r) (bkN s r)<=s.2.length/\zXx (bkN s r) r.2.2.2.2=true)):bkW s r= .tup [.agg [.int .i64 0,.val (.slice none 0 0)],.s (.bool false)]:=if_neg h
theorem z3H {s:SoT} {r:zAJ} (h:bkC s r/\kF (bkG r) (bkN s r)<=s.2.length/\zXx (bkN s r) r.2.2.2.2=true):bkW s r= .tup [qP.av (s.1+1,zSi r.1 r.2.2.2.2 (zJp (bkG r) s.2 r.1 (bkN s r)) r.2.2.2.2.length),.s (.bool (decide (kF (bkG r) (bkN s r)=s.2.length)))]:=by
 unfold bkW bkR;rw [if_pos h,if_pos h];rfl
theorem z2h {g:GoT} {j:Nat} (h:(jS (.int .i64) g (j:Int)).isSome=true):kF g (j+1)=kF g j:=by rw [z8T,if_pos h]
theorem zQ1 {g:GoT} {j:Nat} (h:(jS (.int .i64) g (j:Int)).isSome=false):kF g (j+1)=kF g j+1:=by rw [z8T,if_neg (by rw [h];simp)]
theorem zRM {g:GoT} {T:List P3} {A:Int} {j:Nat} (h:(jS (.int .i64) g (j:Int)).isSome=true):zJp g T A (j+1)=zJp g T A j++[(jS (.int .i64) g (j:Int)).getD (0,0,0)]:=by
 rw [z1k];unfold bkT;cases e:jS (.int .i64) g (j:Int) with
 | none=>rw [e] at h;cases h
 | some t=>rfl
theorem zOW {g:GoT} {T:List P3} {A:Int} {j:Nat} (h:(jS (.int .i64) g (j:Int)).isSome=false):zJp g T A (j+1)=zJp g T A j++[(upV A (T.getD (kF g j) (0,0,0)).1,upV A (T.getD (kF g j) (0,0,0)).2.1,upV A (T.getD (kF g j) (0,0,0)).2.2)]:=by
 rw [z1k];unfold bkT;cases e:jS (.int .i64) g (j:Int) with
 | none=>rfl
 | some t=>rw [e] at h;cases h
theorem zVH {A v:Int} (h:v>=A):upV A v=v+1:=if_pos h
theorem zVD {A v:Int} (h: ¬ v>=A):upV A v=v:=if_neg h
theorem zUk {n:Int} {l:List P3} {A B:Int} {at_:List Int} {ts:List P3} {fan:List Int} :bkC (n,l) (A,B,at_,ts,fan)↔at_.length=ts.length/\0<=A/\A<=n/\n<4096/\l.length+at_.length<=8192:=Iff.rfl
theorem z6L (A:Int) (fan:List Int) (o:List P3):zSi A fan o 0=o:=rfl
theorem z9m (g:GoT):kF g 0=0:=rfl
theorem z6U (A B:Int) (at_:List Int) (ts:List P3) (fan:List Int):z5z (A,B,at_,ts,fan) at_.length=bkG (A,B,at_,ts,fan):=rfl
attribute [local irreducible] bkW z5z kF zJp zSi bkG
theorem z3Y {fn} (n:Int) (l:List P3) (A B:Int) (at_:List Int) (ts:List P3) (fan:List Int) (hs:zBK (n,l)):zAG ⟨tyL,fn,[]⟩ f106 [qP.av (n,l),zG3.av (A,B,at_,ts,fan)] (fun r=>r=bkW (n,l) (A,B,at_,ts,fan)):=by
 have hf:=hs.fit;have hn:0<=n/\n<=4096:=⟨hf.1,hf.2.1⟩;have hl:l.length<=8192:=hf.2.2.1
 repeat' (conv=>whnf
          first|done|refine qy ?_|refine qG fun _=> ?_|refine qw (fun _=> ?_) (fun _=> ?_)|apply qt|refine qi (fun _=> ?_) (fun _=> ?_)|(refine zaB 6 rfl (zX7 (A,B,at_,ts,fan)) (0) ?_ ?_ ?_ fun i hi=> ?_)|with_reducible refine zaA (zX7 _) (i+1) ?_ ?_ ?_ ?_|(refine qS 13 rfl ?_;refine Or.inr (zB (Nat) (zB (zUa n l (A,B,at_,ts,fan)) (zA (zB (0) (zA (yJ.out ?_) (zA ?_ (zA ?_ rfl)))) (fun j hj=> ?_)))))|with_reducible refine zaA (zUa _ _ _) (j+1) ?_ ?_ ?_ ?_|(refine qS 20 rfl ?_;refine Or.inl (zB (4) ?_))|(refine zaB 30 rfl (zYK n l (A,B,at_,ts,fan)) (0) ?_ ?_ ?_ fun k hk=> ?_)|with_reducible refine zaA (zYK _ _ _) (k+1) ?_ ?_ ?_ ?_|refine qu ?_|refine qv ?_ ?_|exact zO)
 all_goals try first|refine qz ?_|apply qz5
 all_goals try simp only [qn0,z7,zX,ETy.dflt,Int.reduceToNat,Int.reduceAdd,Int.reduceSub,Int.reduceNeg,Nat.reduceAdd,zX7,zUa,zYK] at *
 all_goals have eN:bkN (n,l) (A,B,at_,ts,fan)=l.length+at_.length:=rfl
 all_goals try exact y9.intro (zSU (fun k=>by have c:=zUk.1 k.1;omega)).symm
 all_goals try exact z6b _
 all_goals try exact z6a _ _
 all_goals try exact z2c _ _ _
 all_goals try exact z7I _ _ _ _
 all_goals try (rw [z9m];rfl)
 all_goals try (rw [z2c];exact jL.intro rfl)
 all_goals try (refine yJ.intro ?_;omega)
 all_goals try (rw [z9m];exact yJ.intro ⟨zbH _,zbH _⟩)
 all_goals have ei:i=at_.length:=by omega
 all_goals subst ei
 all_goals try simp only [z6U] at *
 all_goals have eO:(zJp (bkG (A,B,at_,ts,fan)) l A j).length=j:=zRl _ _ _ _
 all_goals have hj1:=hj.1
 all_goals rw [eN] at hj1
 all_goals have hj2:=hj.2
 all_goals try (refine yJ.intro ?_;rw [eO];omega)
 all_goals try (refine yJ.intro ?_;unfold yP;omega)
 all_goals try
  have hit:(jS (.int .i64) (bkG (A,B,at_,ts,fan)) (j:Int)).isSome=true:=by assumption
  first
  | (rw [z2h hit];refine yJ.intro (zA ?_ ?_)<;>omega)
  | (rw [z2h hit];done)
  | exact zRM hit
  | (rw [zRM hit];exact jL.intro (by rw [zN];rfl))
 all_goals try
  have miss:(jS (.int .i64) (bkG (A,B,at_,ts,fan)) (j:Int)).isSome=false:=by assumption
  have e1:((kF (bkG (A,B,at_,ts,fan)) j:Nat):Int)=(l.length:Int):=by assumption
  refine y9.intro (zSU (fun k=> ?_)).symm;have k2:kF (bkG (A,B,at_,ts,fan)) (bkN (n,l) (A,B,at_,ts,fan))<=l.length:=k.2.1;have k3:=zYC (bkG (A,B,at_,ts,fan)) (i:=j+1) (j:=bkN (n,l) (A,B,at_,ts,fan)) (by omega);rw [zQ1 miss] at k3;omega
 all_goals try
  have miss:(jS (.int .i64) (bkG (A,B,at_,ts,fan)) (j:Int)).isSome=false:=by assumption
  have e1:((kF (bkG (A,B,at_,ts,fan)) j:Nat):Int)≠(l.length:Int):=by assumption
  have hk:kF (bkG (A,B,at_,ts,fan)) j<l.length:=by omega
  have ht:(0<=(l.getD (kF (bkG (A,B,at_,ts,fan)) j) (0,0,0)).1/\(l.getD (kF (bkG (A,B,at_,ts,fan)) j) (0,0,0)).1<n)/\(0<=(l.getD (kF (bkG (A,B,at_,ts,fan)) j) (0,0,0)).2.1/\(l.getD (kF (bkG (A,B,at_,ts,fan)) j) (0,0,0)).2.1<n)/\(0<=(l.getD (kF (bkG (A,B,at_,ts,fan)) j) (0,0,0)).2.2/\(l.getD (kF (bkG (A,B,at_,ts,fan)) j) (0,0,0)).2.2<n):=zAH (hf.2.2.2 _ hk)
  first
  | (rw [zQ1 miss];refine yJ.intro (zA ?_ ?_)<;>omega)
  | (refine yJ.intro (zA ?_ ?_)<;>omega)
  | (refine yJ.intro ?_;unfold yP;omega)
  | (rw [zQ1 miss];exact Int.natCast_add _ _)
  | (rw [zOW miss];exact jL.intro (by rw [zN];rfl))
  | (rw [zOW miss]
     first|rw [zVH (v:=(l.getD (kF (bkG (A,B,at_,ts,fan)) j) (0,0,0)).1) (by assumption)]|rw [zVD (v:=(l.getD (kF (bkG (A,B,at_,ts,fan)) j) (0,0,0)).1) (by assumption)]
     first|rw [zVH (v:=(l.getD (kF (bkG (A,B,at_,ts,fan)) j) (0,0,0)).2.1) (by assumption)]|rw [zVD (v:=(l.getD (kF (bkG (A,B,at_,ts,fan)) j) (0,0,0)).2.1) (by assumption)]
     first|rw [zVH (v:=(l.getD (kF (bkG (A,B,at_,ts,fan)) j) (0,0,0)).2.2) (by assumption)]|rw [zVD (v:=(l.getD (kF (bkG (A,B,at_,ts,fan)) j) (0,0,0)).2.2) (by assumption)]
     rfl)
 all_goals have ej:j=l.length+at_.length:=by omega
 all_goals subst ej
 all_goals try exact z6L _ _ _
 all_goals try (refine yJ.intro (zA (zbH _) ?_);intro k hk;omega)
 all_goals have hk2:=hk.2
 all_goals try
  have hkl:(k:Int)<fan.length:=by assumption
  have hkl:k<fan.length:=by omega
  first
  | exact y9.intro (zSU (fun q=>zV0 hkl (.inl (by assumption)) q.2.2)).symm
  | (have hge:fan.getD k 0>=3*((bkN (n,l) (A,B,at_,ts,fan):Nat):Int):=by rw [eN];omega
     exact y9.intro (zSU (fun q=>zV0 hkl (.inr hge) q.2.2)).symm)
 all_goals try
  have h0: ¬ fan.getD k 0<0:=by assumption
  have e3:(fan.getD k 0).tdiv 3=fan.getD k 0 / 3:=Int.tdiv_eq_ediv_of_nonneg (by omega);have e4:(fan.getD k 0).tmod 3=fan.getD k 0 % 3:=Int.tmod_eq_emod_of_nonneg (by omega);rw [eN] at hk2
  first
  | (rw [e3];refine yJ.intro (zA (by decide) ?_);unfold yP;omega)
  | (rw [e3];refine yJ.intro (zA ?_ ?_)<;>omega)
  | (rw [e4];refine yJ.intro (zA ?_ ?_)<;>omega)
  | (rw [eN]
     refine yJ.intro (zA ?_ ?_)
     ·omega
     ·intro q hq
      by_cases e:q=k
      ·subst e;omega
      ·have:=hk2 q (by omega);omega)
 all_goals
  have ek:k=fan.length:=by omega
  subst ek;have hC:bkC (n,l) (A,B,at_,ts,fan):=zUk.2 (by omega);have hF:zXx (bkN (n,l) (A,B,at_,ts,fan)) fan=true:=z04 hk2;refine y9.intro ?_;rw [z3H ⟨hC,by rw [eN];exact hj2,hF⟩];rw [zb6,zbT (by rw [zRL,zRl];rw [eO];exact zI _)]
  have e5:((kF (bkG (A,B,at_,ts,fan)) (l.length+at_.length):Int)==(l.length:Int))=decide (kF (bkG (A,B,at_,ts,fan)) (bkN (n,l) (A,B,at_,ts,fan))=l.length):=by
   rw [Bool.eq_iff_iff,beq_iff_eq,zP,eN];omega
  rw [e5];rfl
def backC:List AV->Option Res:=zCr qP zG3 (fun s r=>some (none,some (zBK s),bkV (bkR s r)))
theorem zXF:qM prog 106 backC:=mkR (jD fun s r q h=>by
 cases h
 exact zCn.res (fb (fn:=[]) trivial func106 fun _ h=>z3Y s.1 s.2 r.1 r.2.1 r.2.2.1 r.2.2.2.1 r.2.2.2.2 h) fun I v h=>z3h h) func106
end S1
namespace S1
theorem z15 (a b:Int) (l m:List P3):zAG ⟨tyL,[(140,zOQ)],[]⟩ f107 [qP.av (a,l),qP.av (b,m)] (fun r=>r= .s (.bool (eqS (a,l) (b,m)))):=by
 repeat' (conv=>whnf
          first|done|refine qy ?_|refine qG fun _=> ?_|refine qw (fun _=> ?_) (fun _=> ?_)|apply qt|refine qi (fun _=> ?_) (fun _=> ?_)|refine qu ?_|refine qv ?_ ?_|exact zO)
 all_goals try first|refine qz ?_|apply qz5
 all_goals try simp only [qn0,z7,zX,ETy.dflt,Int.reduceToNat,Int.reduceAdd,Int.reduceSub,Int.reduceNeg,Nat.reduceAdd,eqS,eqR] at *
 ·rename_i h;subst h;rw [decide_eq_decide];exact ⟨fun e=>by rw [e],fun e=>congrArg Prod.snd e⟩
 ·rename_i h;symm;rw [yM];exact fun e=>h (congrArg Prod.fst e)
def zNT:List AV->Option Res:=zCr qP qP (fun a b=>some (none,none,.s (.bool (eqS a b))))
theorem zQi:qM prog 107 zNT:=mkR (jD fun a b r h=>by cases h;exact fb (by exact ⟨zQq,trivial⟩) func107 fun _ _=>z15 a.1 b.1 a.2 b.2) func107
def zF7 (a b:zAJ):Bool:=decide (a.1=b.1)&&(decide (a.2.1=b.2.1)&&(eqL a.2.2.1 b.2.2.1&&(eqR a.2.2.2.1 b.2.2.2.1&&eqL a.2.2.2.2 b.2.2.2.2)))
theorem zFZ {a b:zAJ} :zF7 a b=true↔a=b:=by
 unfold zF7 eqL eqR;simp only [zC,zP];exact ⟨fun ⟨h1,h2,h3,h4,h5⟩=>Prod.ext h1 (Prod.ext h2 (Prod.ext h3 (Prod.ext h4 h5))),fun h=>by subst h;exact ⟨rfl,rfl,rfl,rfl,rfl⟩⟩
theorem z0t (a1 b1 a2 b2:Int) (t1 f1 t2 f2:List Int) (r1 r2:List P3):zAG ⟨tyL,[(140,zOQ),(141,zPU)],[]⟩ f108 [zG3.av (a1,b1,t1,r1,f1),zG3.av (a2,b2,t2,r2,f2)] (fun r=>r= .s (.bool (zF7 (a1,b1,t1,r1,f1) (a2,b2,t2,r2,f2)))):=by
 repeat' (conv=>whnf
          first|done|refine qy ?_|refine qG fun _=> ?_|refine qw (fun _=> ?_) (fun _=> ?_)|apply qt|refine qi (fun _=> ?_) (fun _=> ?_)|refine qu ?_|refine qv ?_ ?_|exact zO)
 all_goals try first|refine qz ?_|apply qz5
 all_goals try simp only [qn0,z7,zX,ETy.dflt,Int.reduceToNat,Int.reduceAdd,Int.reduceSub,Int.reduceNeg,Nat.reduceAdd] at *
 all_goals
  rw [Bool.eq_iff_iff,zFZ]
  try unfold eqL
  simp only [zP,yM,zbs,Bool.false_eq_true,false_iff] at *;simp [*]
def zOT:List AV->Option Res:=zCr zG3 zG3 (fun a b=>some (none,none,.s (.bool (zF7 a b))))
theorem zRc:qM prog 108 zOT:=mkR (jD fun a b r h=>by
 cases h;exact fb (fn:=[(140,zOQ),(141,zPU)]) ⟨zQq,zU1,trivial⟩ func108 fun _ _=>z0t a.1 a.2.1 b.1 b.2.1 a.2.2.1 a.2.2.2.2 b.2.2.1 b.2.2.2.2 a.2.2.2.1 b.2.2.2.1) func108
def zS4 (r:SoT×Int):AV:= .tup [qP.av r.1,.s (.int .i64 r.2)]
def zMr (r:SoT×Int):AV:=if r.2=0 then zS4 r else .tup [.agg [.int .i64 0,.val (.slice none 0 0)],.s (.int .i64 r.2)]
theorem z0H (s:SoT) (r:zAJ) (h:(zBe s r).2≠0):(zBe s r).1=(0,[]):=by
 unfold zBe at *;split
 ·rename_i hh;rw [dif_pos hh] at h;exact absurd rfl h
 ·rfl
theorem zNp {I:Sig} {s:SoT} {r:zAJ} {v:Value} (h:y6 I [] (zMr (zBe s r)) v):y6 I [] (zS4 (zBe s r)) v:=by
 unfold zMr at h;split at h
 ·exact h
 ·rename_i hn;have e:=z0H s r hn;obtain ⟨vs,e1,h⟩:=h;unfold zS4;rw [e]
  match vs,h with
  | [x,y],⟨⟨ds,ea,h1⟩,h3⟩ =>
    refine ⟨_,e1,⟨ds,ea,?_⟩,h3⟩
    match ds,h1 with
    | [d1,d2],⟨k1,k2,k3⟩=>exact ⟨k1,zIo k2,k3⟩
theorem z5c {s:SoT} {r:zAJ} (hs:zBK s) (h: ∀ w,bkR s r=(w,true)->doR w r.1 r.2.1≠(s,r,0)):zMr (zBe s r)= .tup [.agg [.int .i64 0,.val (.slice none 0 0)],.s (.int .i64 3)]:=by
 rw [z4K hs h];rfl
theorem z0I {s:SoT} {r:zAJ} (h:zHP s=none):zMr (zBe s r)= .tup [.agg [.int .i64 0,.val (.slice none 0 0)],.s (.int .i64 11)]:=by
 rw [zZa h];rfl
theorem z3j {s w:SoT} {r:zAJ} (h:doR w r.1 r.2.1=(s,r,0)):zMr (zBe s r)= .tup [qP.av w,.s (.int .i64 0)]:=by
 rw [zSW h];rfl
theorem zYS {a b:SoT} :eqS a b=true↔a=b:=by unfold eqS;exact decide_eq_true_iff
theorem zHy (a:SoT):eqS a a=true:=zYS.2 rfl
theorem zMq (a:zAJ):zF7 a a=true:=zFZ.2 rfl
attribute [local irreducible] zMr bkR doR eqS zF7 zD4
theorem z0w (n:Int) (l:List P3) (A B:Int) (at_:List Int) (ts:List P3) (fan:List Int) (x:yI.T) (hx:zHP (n,l)=some x):zAG ⟨tyL,[(54,zKs x),(100,zMX),(106,backC),(65,z5p),(107,zNT),(108,zOT)],[]⟩ f68 [qP.av (n,l),zG3.av (A,B,at_,ts,fan)] (fun v=>v=zMr (zBe (n,l) (A,B,at_,ts,fan))):=by
 obtain ⟨e0,g,hs⟩:=zHj hx
 repeat' (conv=>whnf
          first|done|refine qy ?_|refine qG fun _=> ?_|refine qw (fun _=> ?_) (fun _=> ?_)|apply qt|refine qi (fun _=> ?_) (fun _=> ?_)|refine qu ?_|refine qv ?_ ?_|exact zO)
 all_goals try first|refine qz ?_|apply qz5
 all_goals try simp only [qn0,z7,zX,ETy.dflt,Int.reduceToNat,Int.reduceAdd,Int.reduceSub,Int.reduceNeg,Nat.reduceAdd] at *
 all_goals try exact absurd (zND hs) (by rw [show zD4 (n,l)=false by assumption];decide)
 all_goals try
  refine y9.intro (z5c hs (fun w hw hd=> ?_)).symm;have hd:doR w A B=((n,l),(A,B,at_,ts,fan),0):=hd;simp only [hw,hd,zHy,zMq,ne_eq,not_true_eq_false,Bool.true_eq_false,reduceCtorEq] at *
  done
 all_goals
  have h3:(doR (bkR (n,l) (A,B,at_,ts,fan)).1 A B).2.2=0:=by assumption
  have h1:eqS (doR (bkR (n,l) (A,B,at_,ts,fan)).1 A B).1 (n,l)=true:=by assumption
  have h2:zF7 (doR (bkR (n,l) (A,B,at_,ts,fan)).1 A B).2.1 (A,B,at_,ts,fan)=true:=by assumption
  have h:doR (bkR (n,l) (A,B,at_,ts,fan)).1 A B=((n,l),(A,B,at_,ts,fan),0):=Prod.ext (zYS.1 h1) (Prod.ext (zFZ.1 h2) h3);exact y9.intro (z3j h).symm
theorem zXy (n:Int) (l:List P3) (r:zAJ) (hx:zHP (n,l)=none):zAG ⟨tyL,[(54,zVC),(100,zMX),(106,backC),(65,z5p),(107,zNT),(108,zOT)],[]⟩ f68 [qP.av (n,l),zG3.av r] (fun v=>v=zMr (zBe (n,l) r)):=by
 have e:=z0I (r:=r) hx
 repeat' (conv=>whnf
          first|done|refine qy ?_|refine qG fun _=> ?_|refine qw (fun _=> ?_) (fun _=> ?_)|apply qt|refine qi (fun _=> ?_) (fun _=> ?_)|refine qu ?_|refine qv ?_ ?_|exact zO)
 all_goals try first|refine qz ?_|apply qz5
 all_goals try simp only [qn0,z7,zX,ETy.dflt,Int.reduceToNat,Int.reduceAdd,Int.reduceSub,Int.reduceNeg,Nat.reduceAdd] at *
 all_goals try exact yJ.intro hx
 all_goals exact y9.intro e.symm
noncomputable def zWc:List AV->Option Res:=zCr qP zG3 (fun s r=>some (none,none,zS4 (zBe s r)))
theorem zYz:qM prog 68 zWc:=mkR (jD fun s r q h=>by
 cases h;cases e:zHP s with
 | none=>exact zCn.res (fb (fn:=[(54,zVC),(100,zMX),(106,backC),(65,z5p),(107,zNT),(108,zOT)]) ⟨zXB,zL5,zXF,zVA,zQi,zRc,trivial⟩ func68 fun _ _=>zXy s.1 s.2 r e) fun I v h=>zNp h
 | some x=>exact zCn.res (fb (fn:=[(54,zKs x),(100,zMX),(106,backC),(65,z5p),(107,zNT),(108,zOT)]) ⟨(zMB x),zL5,zXF,zVA,zQi,zRc,trivial⟩ func68 fun _ _=>z0w s.1 s.2 r.1 r.2.1 r.2.2.1 r.2.2.2.1 r.2.2.2.2 x e) fun I v h=>zNp h) func68
end S1
namespace S1
def zTY (v:Int):List (Int×Int)->Int
 | []=> -1
 | e::r=>if e.2=v then e.1 else zTY v r
def z1m (x:yI.T) (v:Int):Int:=zTY v (zLv x)
def zVq (L:List (Int×Int)) (v:Int):Spec Nat where
 inv k:=k<=L.length/\zTY v L=zTY v (L.drop k)
 live k:=[(10,.s (.int .i64 k))]
 keep:=[1,8,9]
 heap _:=[]
 keepH:=[]
 mu k:=L.length - k
theorem zNb {l:List (Int×Int)} {x:Nat} (h:x<l.length):l.drop x=l.getD x (0,0)::l.drop (x+1):=by
 rw [List.drop_eq_getElem_cons h,zR,zG h];rfl
attribute [local irreducible] zLv zTY
theorem zX3 (x:yI.T) (v:Int) (g:Good x):zAG ⟨tyL,[(99,zIq)],[]⟩ f63 [(ETy.pt yI).av (some x),y8.av v] (fun r=>r= .s (.int .i64 (z1m x v))):=by
 repeat' (conv=>whnf
          first|done|refine qy ?_|refine qG fun _=> ?_|refine qw (fun _=> ?_) (fun _=> ?_)|apply qt|refine qi (fun _=> ?_) (fun _=> ?_)|(refine zaB 2 rfl (zVq (zLv x) v) (0) ?_ ?_ ?_ fun k hk=> ?_)|with_reducible refine zaA (zVq _ _) (k+1) ?_ ?_ ?_ ?_|refine qu ?_|refine qv ?_ ?_|exact zO)
 all_goals try first|refine qz ?_|apply qz5
 all_goals try simp only [qn0,z7,zX,ETy.dflt,Int.reduceToNat,Int.reduceAdd,Int.reduceSub,Int.reduceNeg,Nat.reduceAdd,zVq,z1m] at *
 ·exact yJ.intro (fun y h=>by cases h;exact g)
 ·exact yJ.intro ⟨zbH _,by rw [zb6]⟩
 all_goals try have hk1:k<(zLv x).length:=Int.ofNat_lt.1 (by assumption)
 ·have h:((zLv x).getD k (0,0)).2=v:=by assumption
  rw [hk.2,zNb hk1];unfold zTY;rw [if_pos h];rfl
 ·have h:((zLv x).getD k (0,0)).2≠v:=by assumption
  refine yJ.intro ⟨hk1,?_⟩;rw [hk.2,zNb hk1];conv=>lhs;unfold zTY
  rw [if_neg h]
 ·refine yJ.intro ?_;omega
 ·have h: ¬ (k:Int)<(zLv x).length:=by assumption
  rw [hk.2,zb7 (by omega)];unfold zTY;rfl
theorem zTS (v:Int):zAG ⟨tyL,[(99,zIq)],[]⟩ f63 [(ETy.pt yI).av none,y8.av v] (fun r=>r= .s (.int .i64 (-1))):=by
 repeat' (conv=>whnf
          first|done|refine qy ?_|refine qG fun _=> ?_|refine qw (fun _=> ?_) (fun _=> ?_)|apply qt|refine qi (fun _=> ?_) (fun _=> ?_)|(refine qS 2 rfl ?_;refine Or.inl (zB (1) ?_))|refine qu ?_|refine qv ?_ ?_|exact zO)
 all_goals try first|refine qz ?_|apply qz5
 all_goals try simp only [qn0,z7,zX,ETy.dflt,Int.reduceToNat,Int.reduceAdd,Int.reduceSub,Int.reduceNeg,Nat.reduceAdd] at *
 all_goals try exact yJ.intro (fun y h=>by cases h)
 all_goals try rfl
 all_goals exact absurd (show (0:Int)<(0:Nat) by assumption) (by decide)
def zYk:List AV->Option Res:=zCr (.pt yI) y8 (fun o v=>some (none,some (∀ x,o=some x->Good x),.s (.int .i64 (match o with|some x=>z1m x v|none=> -1))))
theorem zVp:qM prog 63 zYk:=mkR (jD fun o v r h=>by
 cases h;cases o with
 | none=>exact fb (fn:=[(99,zIq)]) ⟨zLe,trivial⟩ func63 fun _ _=>zTS v
 | some x=>exact fb (fn:=[(99,zIq)]) ⟨zLe,trivial⟩ func63 fun _ h=>zX3 x v (h x rfl)) func63
def zAV:List zAJ->Int->Int
 | [],v=>v
 | r::l,v=>if zJs v r.1 r.2.1<0 then -1 else zAV l (zJs v r.1 r.2.1)
def zOr:zAJ:=(0,0,[],[],[])
def nwK (R:List zAJ) (v:Int):Nat->Int
 | 0=>v
 | k+1=>zJs (nwK R v k) (R.getD k zOr).1 (R.getD k zOr).2.1
theorem zNV {l:List zAJ} {x:Nat} (h:x<l.length):l.drop x=l.getD x zOr::l.drop (x+1):=by
 rw [List.drop_eq_getElem_cons h,zR,zG h];rfl
theorem zOn {R:List zAJ} {k:Nat} (h:k<R.length):R.getD k zOr∈R:=by
 rw [zR,zG h];exact yQ h
theorem z3L {v a b:Int} (hv:v<=1000000) (hb:b<=1000000):zJs v a b<=1000000:=by
 unfold zJs
 (repeat' split)<;>omega
def okR (R:List zAJ):Prop:= ∀ r∈R,-1000000<=r.2.1/\r.2.1<=1000000
def zYr (R:List zAJ) (v:Int):Spec Nat where
 inv k:=k<=R.length/\zAV R v=zAV (R.drop k) (nwK R v k)/\(-1000000<=nwK R v k/\nwK R v k<=1000000)
 live k:=[(0,.s (.int .i64 (nwK R v k))),(9,.s (.int .i64 k))]
 keep:=[7,8]
 heap _:=[]
 keepH:=[]
 mu k:=R.length - k
attribute [local irreducible] zJs zAV nwK
theorem z7A (R:List zAJ) (v:Int) (hR:okR R) (hv: -1000000<=v/\v<=1000000):zAG ⟨tyL,[(104,zPo)],[]⟩ f66 [y8.av v,(ETy.sl zG3).av R] (fun r=>r= .s (.int .i64 (zAV R v))):=by
 repeat' (conv=>whnf
          first|done|refine qy ?_|refine qG fun _=> ?_|refine qw (fun _=> ?_) (fun _=> ?_)|apply qt|refine qi (fun _=> ?_) (fun _=> ?_)|(refine zaB 2 rfl (zYr R v) (0) ?_ ?_ ?_ fun k hk=> ?_)|with_reducible refine zaA (zYr _ _) (k+1) ?_ ?_ ?_ ?_|refine qu ?_|refine qv ?_ ?_|exact zO)
 all_goals try first|refine qz ?_|apply qz5
 all_goals try simp only [qn0,z7,zX,ETy.dflt,Int.reduceToNat,Int.reduceAdd,Int.reduceSub,Int.reduceNeg,Nat.reduceAdd,zYr] at *
 ·refine yJ.intro ⟨zbH _,by rw [zb6];unfold nwK;rfl,?_⟩;unfold nwK;exact hv
 ·unfold nwK;rfl
 all_goals try have hk1:k<R.length:=Int.ofNat_lt.1 (by assumption)
 ·exact yJ.intro ⟨hk.2.2,hR _ (zOn hk1)⟩
 ·have h:zJs (nwK R v k) (R.getD k zOr).1 (R.getD k zOr).2.1<0:=by assumption
  rw [hk.2.1,zNV hk1];unfold zAV;rw [if_pos h]
 ·have h: ¬ zJs (nwK R v k) (R.getD k zOr).1 (R.getD k zOr).2.1<0:=by assumption
  have e:nwK R v (k+1)=zJs (nwK R v k) (R.getD k zOr).1 (R.getD k zOr).2.1:=by conv=>lhs;unfold nwK
  have hb:=z3L (a:=(R.getD k zOr).1) hk.2.2.2 (hR _ (zOn hk1)).2;refine yJ.intro ⟨hk1,?_,by rw [e];exact ⟨by omega,hb⟩⟩;rw [hk.2.1,zNV hk1,e];conv=>lhs;unfold zAV
  rw [if_neg h]
 ·conv=>lhs;unfold nwK
  rfl
 ·refine yJ.intro ?_;omega
 ·have h: ¬ (k:Int)<R.length:=by assumption
  rw [hk.2.1,zb7 (by omega)];unfold zAV;rfl
def z60:List AV->Option Res:=zCr y8 (.sl zG3) (fun (v:Int) (R:List zAJ)=>some (none,some ((-1000000<=v/\v<=1000000)/\okR R),.s (.int .i64 (zAV R v))))
theorem z2u:qM prog 66 z60:=mkR (jD fun v R r h=>by
 cases h;exact fb (fn:=[(104,zPo)]) ⟨zPh,trivial⟩ func66 fun _ h=>z7A R v h.2 h.1) func66
def imL (R:List zAJ) (k:Nat):List Int:=(List.range k).map fun (v:Nat)=>zAV R v
def zYl (n:Int) (R:List zAJ):Int:=if n<0\/n>4096 then 2 else if (imL R n.toNat).all (fun v=>decide (0<=v))=true then 0 else 3
def zNy (n:Int) (R:List zAJ):List Int×Int:=if zYl n R=0 then (imL R n.toNat,0) else ([],zYl n R)
attribute [local irreducible] zYl imL zNy
end S1
namespace S1
def ofV (m:NxM) (i:Int) (L:List Int):NxM:=L.foldl (fun m v=>zAB (.int .i64) m v i) m
def ofK (Ls:List (List Int)):Nat->NxM
 | 0=>[]
 | i+1=>ofV (ofK Ls i) i (Ls.getD i [])
def lfK (Ls:List (List Int)) (i:Nat):List Int:=(Ls.take i).map fun L=>(L.length:Int) - 3
theorem zUZ: ∀ (L:List Int) (m:NxM) (i u:Int),jS y8 (ofV m i L) u=if u∈L then some i else jS y8 m u
 | [],m,i,u=>by rw [if_neg (by simp)];rfl
 | a ::r,m,i,u=>by
   show jS y8 (ofV (zAB y8 m a i) i r) u=_;rw [zUZ r]
   by_cases h:u∈r
   ·rw [if_pos h,if_pos (zQ _ h)]
   ·rw [if_neg h]
    by_cases e:a=u
    ·subst e;rw [zAT,if_pos (zY ..)]
    ·rw [zA4 _ e,if_neg];intro k;rcases zT.1 k with k|k
     ·exact e k.symm
     ·exact h k
theorem zMA {Ls:List (List Int)} (hn:Ls.flatten.Nodup) {i:Nat} {u:Int} (hu:u∈Ls.getD i []): ∀ k,i<k->k<=Ls.length->jS y8 (ofK Ls k) u=some (i:Int)
 | 0,h,_=>absurd h (Nat.not_lt_zero _)
 | k +1,h,hk=>by
   show jS y8 (ofV (ofK Ls k) k (Ls.getD k [])) u=_;rw [zUZ]
   by_cases e:i=k
   ·subst e;rw [if_pos hu]
   ·rw [if_neg,zMA hn hu k (by omega) (by omega)];intro hk2
    -- u lies in two loops
    have hi:i<Ls.length:=by omega
    have hkl:k<Ls.length:=by omega
    have gi:Ls.getD i []=Ls[i]:=by rw [zR,zG hi];rfl
    have gk:Ls.getD k []=Ls[k]:=by rw [zR,zG hkl];rfl
    rw [gi] at hu;rw [gk] at hk2;have hp:=flat_pair hn;have:=List.pairwise_iff_getElem.1 hp;rcases Nat.lt_or_gt_of_ne e with q|q
    ·exact this i k hi hkl q u hu hk2
    ·exact this k i hkl hi q u hk2 hu
where
 flat_pair: ∀ {Ls:List (List Int)},Ls.flatten.Nodup->Ls.Pairwise (fun a b=> ∀ x∈a,x∉b)
  | [],_=>List.Pairwise.nil
  | a::r,hn=>by
    rw [List.flatten_cons,List.nodup_append] at hn;exact List.pairwise_cons.2 ⟨fun b hb x hx hxb=>hn.2.2 x hx x (List.mem_flatten.2 ⟨b,hb,hxb⟩) rfl,flat_pair hn.2.1⟩
open Classical in
noncomputable def z6B (x:yI.T) (C:List (Int×Int)) (i:Nat):Nat:=(C.filter fun c=>decide (zJJ x c/\c.1∈(qW x).getD i [])).length
structure zFA (x:yI.T) (l:List (Int×Int)) (k:Nat) (u:ReM) (f:List Int):Prop where
 used: ∀ n,had u n=true↔∃ c∈chK x l k,zHO x c n
 len:f.length=(qW x).length
 left: ∀ i,i<(qW x).length->f.getD i 0=((qW x).getD i []).length - 3 - (z6B x (chK x l k) i:Int)
theorem z27 {x:yI.T} (g:Full x) {w u:Int} (h:bE x w u):z1m x u=w:=by
 have key: ∀ l:List (Int×Int),(∀ e∈l,bE x e.1 e.2)->(w,u)∈l->zTY u l=w:=fun l=>by
  induction l with
  | nil=>intro _ k;cases k
  | cons e r ih =>
    intro ha k;unfold zTY;split
    ·rename_i h2;have:=ha e (zY ..);rw [h2] at this;exact zWo g this h
    ·rename_i h2;refine ih (fun e he=>ha e (zQ _ he)) ((zT.1 k).resolve_left fun q=>h2 ?_);rw [<- q]
 exact key _ (fun e he=>zGJ.1 he) (zGJ.2 h)
theorem z2l {x:yI.T} {w u:Int} (h:z1m x u=w) (hw:0<=w):bE x w u:=by
 have key: ∀ l:List (Int×Int),(∀ e∈l,bE x e.1 e.2)->zTY u l=w->bE x w u:=fun l=>by
  induction l with
  | nil=>intro _ k;have:(-1:Int)=w:=k;omega
  | cons e r ih =>
    intro ha k;unfold zTY at k;split at k
    ·rename_i h2;have:=ha e (zY ..);rw [h2,k] at this;exact this
    ·exact ih (fun e he=>ha e (zQ _ he)) k
 exact key _ (fun e he=>zGJ.1 he) h
section
variable {x:yI.T} {l:List (Int×Int)} {k:Nat} {u:ReM} {f:List Int}
theorem z3n:zFA x l 0 [] (lfK (qW x) (qW x).length):=by
 refine ⟨fun n=>⟨fun h=>(by cases h),fun ⟨c,h,_⟩=>(by cases h)⟩,?_,fun i hi=> ?_⟩
 ·unfold lfK;rw [yV,zbK]
 ·unfold lfK;rw [zbK,zR,zbf,zG hi,zR,zG hi];have e0:z6B x (chK x l 0) i=0:=rfl;rw [e0];simp
theorem z8s (h:zFA x l k u f) (c: ¬ okE x (chK x l k) (l.getD k (0,0))=true):zFA x l (k+1) u f:=by
 have e:=zZW c;exact ⟨by rw [e];exact h.used,h.len,by rw [e];exact h.left⟩
theorem z34 (g:Full x) (hs:jV (InN x.1.1) x.1.2) (h:zFA x l k u f) (hw:zDV x (l.getD k (0,0)).1 (l.getD k (0,0)).2=0) (hu: ∀ p∈zCt x (l.getD k (0,0)),had u p.1=false):okE x (chK x l k) (l.getD k (0,0))=true:=by
 refine (zJH g hs).2 ⟨(zKH g hs).1 hw,fun c hc t ht a b=> ?_⟩;obtain ⟨j,hj,rfl⟩:=zAO ht;obtain ⟨p,hp,e⟩:=yC.1 ((zFt g).2 (⟨j,hj,rfl,b⟩:zHO x (l.getD k (0,0)) j));have:=hu p hp;rw [show p.1=(j:Int) from e,(h.used j).2 ⟨c,hc,j,hj,rfl,a⟩] at this;cases this
theorem z5I (g:Full x) (hs:jV (InN x.1.1) x.1.2) (h:zFA x l k u f) {p:(ETy.int .i64).T×ETy.bool.T} (hp:p∈zCt x (l.getD k (0,0))) (hu:had u p.1=true): ¬ okE x (chK x l k) (l.getD k (0,0))=true:=by
 intro c;obtain ⟨_,h2⟩:=(zJH g hs).1 c;obtain ⟨d,hd,j,hj,e,a⟩:=(h.used p.1).1 hu;obtain ⟨i,hi,e2,b⟩:=(zFt g).1 (yC.2 ⟨p,hp,rfl⟩);have:i=j:=by omega
 subst this;exact h2 d hd _ (qI hi) a b
theorem z7d (c: ¬ zDV x (l.getD k (0,0)).1 (l.getD k (0,0)).2=0): ¬ okE x (chK x l k) (l.getD k (0,0))=true:=fun h=>by
 unfold okE at h;rw [zC,zP] at h;exact c h.1
theorem zYn (g:Full x) (h:zFA x l k u f) (c:okE x (chK x l k) (l.getD k (0,0))=true) {pre:IBM} (hp: ∀ p,p∈pre↔p∈zCt x (l.getD k (0,0))) (n:Int):had (zRZ u (pre.map (·.1))) n=true↔∃ c∈chK x l (k+1),zHO x c n:=by
 unfold zRZ;rw [zLM,h.used,zNJ c]
 have e1:n∈pre.map (·.1)↔zHO x (l.getD k (0,0)) n:=by
  rw [<- zFt g];show _↔n∈(zCt x (l.getD k (0,0))).map Prod.fst;rw [yC,yC];exact ⟨fun ⟨p,a,b⟩=>⟨p,(hp p).1 a,b⟩,fun ⟨p,a,b⟩=>⟨p,(hp p).2 a,b⟩⟩
 rw [e1];constructor
 ·rintro (⟨d,a,b⟩|a)
  ·exact ⟨d,zb9 _ a,b⟩
  ·exact ⟨_,zbg _ (zF.2 rfl),a⟩
 ·rintro ⟨d,a,b⟩;rcases yD.1 a with a|a
  ·exact .inl ⟨d,a,b⟩
  ·rw [zF.1 a] at b;exact .inr b
open Classical in
theorem z2p (C:List (Int×Int)) (e:Int×Int) (i:Nat):z6B x (C++[e]) i=z6B x C i+(if zJJ x e/\e.1∈(qW x).getD i [] then 1 else 0):=by
 unfold z6B;rw [zbx,zN]
 congr 1
 by_cases q:zJJ x e/\e.1∈(qW x).getD i []
 ·rw [if_pos q,zbP (by rw [zP];exact q)];rfl
 ·rw [if_neg q,zb3 (by rw [zP];exact q)];rfl
theorem z81 (g:Full x) (h:zFA x l k u f) (c:okE x (chK x l k) (l.getD k (0,0))=true) (hb: ¬ zJJ x (l.getD k (0,0))) {pre:IBM} (hp: ∀ p,p∈pre↔p∈zCt x (l.getD k (0,0))):zFA x l (k+1) (zRZ u (pre.map (·.1))) f:=by
 refine ⟨zYn g h c hp,h.len,fun i hi=> ?_⟩;rw [h.left i hi,zNJ c,z2p,if_neg (fun q=>hb q.1)];rfl
theorem z8D (g:Full x) {e:Int×Int} (h:zJJ x e): ∃ i,i<(qW x).length/\e.1∈(qW x).getD i []/\jS y8 (ofK (qW x) (qW x).length) e.1=some (i:Int)/\zCA x ((qW x).getD i []):=by
 have hw: ∃ w,bE x w e.1:=by
  rcases h with k|k
  ·exact zCo g k
  ·exact ⟨_,k⟩
 obtain ⟨L,hL,hu⟩:=List.mem_flatten.1 ((zTs g).2 hw);obtain ⟨i,hi,rfl⟩:=yG.1 hL;have gi:(qW x).getD i []=(qW x)[i]:=by rw [zR,zG hi];rfl
 have lp:=zJa g;refine ⟨i,hi,by rw [gi];exact hu,zMA lp.nd (by rw [gi];exact hu) _ hi (zI _),by rw [gi];exact lp.ok _ hL⟩
theorem z3Z (g:Full x) (hs:jV (InN x.1.1) x.1.2) (h:zFA x l k u f) (c:okE x (chK x l k) (l.getD k (0,0))=true) (hb:zJJ x (l.getD k (0,0))) {i:Nat} (hi:i<(qW x).length) (hm:(l.getD k (0,0)).1∈(qW x).getD i []) (hL:zCA x ((qW x).getD i [])):1<=f.getD i 0:=by
 classical
 obtain ⟨h1,h2⟩:=(zJH g hs).1 c;have hbat:=zLL g hs l k
 have:=z7b g hs hL hb h1 hm (D:=(chK x l k).filter fun c=>decide (zJJ x c/\c.1∈(qW x).getD i [])) (fun d hd=>by
  obtain ⟨a,b⟩:=zb5.1 hd;rw [zP] at b
  exact ⟨b.1,hbat.free d a,b.2⟩) (hbat.apart.sublist List.filter_sublist) fun d hd=>h2 d (zb5.1 hd).1
 rw [h.left i hi];unfold z6B;have e: ∀ (p q:Int×Int->Bool),(∀ c,p c=q c)->((chK x l k).filter p).length=((chK x l k).filter q).length:=fun p q h=>by rw [show p=q from funext h]
 rw [e _ (fun c=>decide (zJJ x c/\c.1∈(qW x).getD i [])) (fun c=>by congr)];omega
theorem z7R (g:Full x) (h:zFA x l k u f) (c:okE x (chK x l k) (l.getD k (0,0))=true) (hb:zJJ x (l.getD k (0,0))) {i:Nat} (hi:i<(qW x).length) (hm:(l.getD k (0,0)).1∈(qW x).getD i []) {pre:IBM} (hp: ∀ p,p∈pre↔p∈zCt x (l.getD k (0,0))) :
 zFA x l (k+1) (zRZ u (pre.map (·.1))) (f.set i (f.getD i 0 - 1)):=by
 refine ⟨zYn g h c hp,by rw [zbY];exact h.len,fun j hj=> ?_⟩;rw [zNJ c,z2p,zR,zbQ]
 by_cases e:i=j
 ·subst e;rw [if_pos rfl,if_pos (by rw [h.len];exact hi),if_pos ⟨hb,hm⟩];show f.getD i 0 - 1=_;rw [h.left i hi];omega
 ·rw [if_neg e,if_neg]
  ·have:=h.left j hj;rw [zR] at this;rw [this];rfl
  ·rintro ⟨_,hm2⟩;have lp:=(zJa g).nd;have a:=zMA lp hm _ hi (zI _);have b:=zMA lp hm2 _ hj (zI _);rw [a] at b;have:(i:Int)=j:=Option.some.inj b;omega
theorem z24 (g:Full x) (hs:jV (InN x.1.1) x.1.2) {e:Int×Int} (hw:zDV x e.1 e.2=0):(z1m x e.1=e.2\/z1m x e.2=e.1)↔zJJ x e:=by
 obtain ⟨t,ht,t1,t2⟩:=((zKH g hs).1 hw).near;have i1:=hs.ent t ht _ t1;have i2:=hs.ent t ht _ t2;constructor
 ·rintro (h|h)
  ·exact .inr (z2l h i2.1)
  ·exact .inl (z2l h i1.1)
 ·rintro (h|h)
  ·exact .inr (z27 g h)
  ·exact .inl (z27 g h)
theorem z0f (g:Full x) {L:List Int} (hL:zCA x L):L.length<=4096:=by
 have:=zBx L ((List.range 4096).map fun (j:Nat)=>(j:Int)) hL.nd fun v hv=>by
  obtain ⟨w,hw⟩:=hL.bord hv;have h1:=(zJf g hw).2.1;have h2: @LE.le Int _ x.1.1 4096:=g.fit.2.1;exact yC.2 ⟨v.toNat,zV.2 (by omega),by omega⟩
 rwa [yV,zAD] at this
theorem zLR (Ls:List (List Int)) (i:Nat) (h:i<=Ls.length):(lfK Ls i).length=i:=by unfold lfK;rw [yV,qZ];omega
theorem zZX (g:Full x) (hs:jV (InN x.1.1) x.1.2) (c:okE x (chK x l k) (l.getD k (0,0))=true) (hb:zJJ x (l.getD k (0,0))) (h:zFA x l k u f) :
 ∃ i:Nat,(jS y8 (ofK (qW x) (qW x).length) (l.getD k (0,0)).1).getD 0=(i:Int)/\i<(lfK (qW x) (qW x).length).length/\1<=f.getD i 0/\f.getD i 0<=4096/\
   ∀ pre:IBM,(∀ p,p∈pre↔p∈zCt x (l.getD k (0,0)))->zFA x l (k+1) (zRZ u (pre.map (·.1))) (f.set i (f.getD i 0 - 1)):=by
 obtain ⟨i,hi,hm,hg,hL⟩:=z8D g hb;have hr:=z3Z g hs h c hb hi hm hL;have hl:=z0f g hL;refine ⟨i,by rw [hg];rfl,by rw [zLR _ _ (zI _)];exact hi,hr,?_,fun pre hp=>z7R g h c hb hi hm hp⟩;rw [h.left i hi];omega
def ixL (x:yI.T) (v:Int):Nat:=Int.toNat ((jS y8 (ofK (qW x) (qW x).length) v).getD 0)
theorem zWw (g:Full x) (hs:jV (InN x.1.1) x.1.2) (c:okE x (chK x l k) (l.getD k (0,0))=true) (hb:zJJ x (l.getD k (0,0))) (h:zFA x l k u f) :
 (0<=(jS y8 (ofK (qW x) (qW x).length) (l.getD k (0,0)).1).getD 0/\(jS y8 (ofK (qW x) (qW x).length) (l.getD k (0,0)).1).getD 0<((lfK (qW x) (qW x).length).length:Int))/\
 yP (f.getD (ixL x (l.getD k (0,0)).1) 0 - 1)/\¬ f.getD (ixL x (l.getD k (0,0)).1) 0<1/\
 ∀ pre:IBM,(∀ p,p∈pre↔p∈zCt x (l.getD k (0,0)))->zFA x l (k+1) (zRZ u (pre.map (·.1))) (f.set (ixL x (l.getD k (0,0)).1) (f.getD (ixL x (l.getD k (0,0)).1) 0 - 1)):=by
 obtain ⟨i,h1,h2,h3,h4,h5⟩:=zZX g hs c hb h;have e:ixL x (l.getD k (0,0)).1=i:=by unfold ixL;rw [h1];rfl
 rw [e,h1];exact ⟨⟨show (0:Int)<=(i:Int) by omega,show (i:Int)<((lfK (qW x) (qW x).length).length:Int) by omega⟩,by unfold yP;omega,by omega,h5⟩
theorem zWZ (g:Full x):(qW x).length<=4096:=by
 have h1:=zPX x x.1.1.toNat;have h2: @LE.le Int _ x.1.1 4096:=g.fit.2.1;have h3:(qW x).length<=x.1.1.toNat:=h1;omega
theorem z9c {m:NxM} {i:Int} {L:List Int} {j:Nat} (hj:j<L.length):ofV m i (L.take (j+1))=zAB y8 (ofV m i (L.take j)) (L.getD j 0) i:=by
 unfold ofV;rw [yB hj,zbm,zR,zG hj];rfl
theorem z9O {Ls:List (List Int)} {i:Nat} (h:i<Ls.length):lfK Ls (i+1)=lfK Ls i++[((Ls.getD i []).length:Int) - 3]:=by
 unfold lfK;rw [yB h,zbo,zR,zG h];rfl
theorem zYR (m:ReM) (pre:IBM) (e:(ETy.int .i64).T×ETy.bool.T):zRZ m ((pre++[e]).map (·.1))=zAB y8 (zRZ m (pre.map (·.1))) e.1 true:=by
 unfold zRZ;rw [zbo,zbm];rfl
end
end S1
namespace Go.Vm
section
variable {T:Tab} {SQ:zDE} {st:St} {K:Exit->St->Prop} {a b c:Code}
structure z6x (T:Tab) (SQ:zDE) (b:Code) (K:Exit->St->Prop) (e:Exit) (t:St):Prop where
 out:match e with
  | .normal=>qC T SQ b t K
  | e=>K e t
structure z2d (id:Nat) (K:Exit->St->Prop) (e:Exit) (t:St):Prop where
 out:match e with
  | .exit i=>(match Nat.beq i id with|true=>K .normal t|false=>K (.exit i) t)
  | e=>K e t
structure z8K (K:Exit->St->Prop) (e:Exit) (t:St):Prop where
 out:match e with
  | .goto _=>False
  | e=>K e t
structure zPP {X:Type} (S:Spec X) (st:St) (x:X) (K:Exit->St->Prop) (e:Exit) (t:St):Prop where
 out:match e with
  | .normal=> ∃ y,S.inv y/\zOs t (S.head st y)/\S.mu y<S.mu x
  | e=>K e t
structure z0W (K:Exit->St->Prop) (e:Exit) (t:St):Prop where
 out:K e t
theorem zRr (h:qC T SQ b st K):z6x T SQ b K .normal st:=⟨h⟩
theorem zSR {i:Nat} (h:K (.exit i) st):z6x T SQ b K (.exit i) st:=⟨h⟩
theorem zR2 (h:K .ret st):z6x T SQ b K .ret st:=⟨h⟩
theorem zRJ {id:Nat} (h:K .normal st):z2d id K .normal st:=⟨h⟩
theorem z2Z {id i:Nat} (e:Nat.beq i id=true) (h:K .normal st):z2d id K (.exit i) st:=⟨by show (match Nat.beq i id with|true=>K .normal st|false=>K (.exit i) st);rw [e];exact h⟩
theorem z1y {id i:Nat} (e:Nat.beq i id=false) (h:K (.exit i) st):z2d id K (.exit i) st:=⟨by show (match Nat.beq i id with|true=>K .normal st|false=>K (.exit i) st);rw [e];exact h⟩
theorem z1w {id:Nat} (h:K .ret st):z2d id K .ret st:=⟨h⟩
theorem z2e (h:K .normal st):z8K K .normal st:=⟨h⟩
theorem z2i (h:K .ret st):z8K K .ret st:=⟨h⟩
theorem zMT {X:Type} {S:Spec X} {x:X} {t:St} (h: ∃ y,S.inv y/\zOs t (S.head st y)/\S.mu y<S.mu x):zPP S st x K .normal t:=⟨h⟩
theorem zM7 {X:Type} {S:Spec X} {x:X} {t:St} {i:Nat} (h:K (.exit i) t):zPP S st x K (.exit i) t:=⟨h⟩
theorem zXM {X:Type} {S:Spec X} {x:X} {t:St} (h:K .ret t):zPP S st x K .ret t:=⟨h⟩
theorem zHd {e:Exit} (h:K e st):z0W K e st:=⟨h⟩
theorem zY4:z0W K=K:=funext fun e=>funext fun s=>propext ⟨fun h=>h.out,fun h=>⟨h⟩⟩
theorem zN7 {s:St} (h:s.forceAll (fun h=>zA8 T c h (z0W K))):s.forceAll (fun h=>zA8 T c h K):=by rw [zY4] at h;exact h
theorem z7K {SQ:zDE} {fn:Func} {args:List AV} {R:AV->Prop} (hb:fn.body=some c) (h:qC T SQ c (St.init args) (z0W (post T fn R))):zH7 T SQ fn args R:=by
 rw [zY4] at h;unfold zH7;rw [hb];show (St.init args).forceAll _;rw [St.forceAll_eq];exact h
theorem z6c (hr:z1B a b=none) (h:qC T SQ a st (z6x T SQ b K)):qC T SQ (.seq a b) st K:=by
 unfold qC;rw [hr];exact (congrArg (qC T SQ a st) (funext fun e=>funext fun s=>propext (by cases e<;>exact ⟨fun h=>⟨h⟩,fun h=>h.out⟩)):qC T SQ a st _=qC T SQ a st (z6x T SQ b K)).mpr h
theorem z7c {r:RM} (hr:z1B a b=some r) (h:st.forceAll fun st=>z9J T r st K):qC T SQ (.seq a b) st K:=by
 rw [St.forceAll_eq] at h;unfold qC;rw [hr];exact h
theorem zY1 {id:Nat} (h:qC T SQ c st (z2d id K)):qC T SQ (.block id c) st K:=by
 unfold qC;exact (congrArg (qC T SQ c st) (funext fun e=>funext fun s=>propext (by cases e<;>exact ⟨fun h=>⟨h⟩,fun h=>h.out⟩)):qC T SQ c st _=qC T SQ c st (z2d id K)).mpr h
theorem zWS (h:qC T SQ c st (z8K K)):qC T SQ (.scope c) st K:=by
 unfold qC;exact (congrArg (qC T SQ c st) (funext fun e=>funext fun s=>propext (by cases e<;>exact ⟨fun h=>⟨h⟩,fun h=>h.out⟩)):qC T SQ c st _=qC T SQ c st (z8K K)).mpr h
theorem zSD {i:Nat} {o:Array Oper} {d:Bool} (h:st.forceAll fun st=>zA8 T (.region i o d) st K):qC T SQ (.region i o d) st K:=by
 rw [St.forceAll_eq] at h;unfold qC;exact h
theorem z2I (h:K .normal st):qC T SQ .skip st K:=h
theorem zXb {l:Nat} (h:K .normal st):qC T SQ (.label l) st K:=h
theorem z2P {i:Nat} (h:K (.exit i) st):qC T SQ (.exit i) st K:=h
theorem z7m (h:K .ret st):qC T SQ .ret st K:=h
theorem z2a {x:Operand} (hr:(zB1 a|| zB1 b)=false) (h:st.forceAll fun st=>zA8 T (.cond x a b) st K):qC T SQ (.cond x a b) st K:=by
 rw [St.forceAll_eq] at h;unfold qC;rw [hr];exact h
theorem zVt {x:Operand} (hr:(zB1 a|| zB1 b)=true) (h:st.forceAll fun st=>match y7 st.env x with
 | .s (.bool t)=>BIf t (qC T SQ a st K) (qC T SQ b st K)
 | _=>False):qC T SQ (.cond x a b) st K:=by
 rw [St.forceAll_eq] at h;unfold qC;rw [hr];exact h
theorem z79 (hr:zB1 c=true) (X:Type) (S:Spec X) (x0:X) (hi:S.inv x0) (hl:zOs st (S.head st x0))
 (h: ∀ x,S.inv x->qC T SQ c (S.head st x) (zPP S st x K)):qC T SQ (.loop c) st K:=by
 unfold qC;rw [hr];refine ⟨X,S,⟨x0,hi,hl⟩,fun x hx=> ?_⟩;rw [St.forceAll_eq];exact (congrArg (qC T SQ c (S.head st x)) (funext fun e=>funext fun s=>propext (by cases e<;>exact ⟨fun h=>⟨h⟩,fun h=>h.out⟩)):qC T SQ c (S.head st x) _=qC T SQ c (S.head st x) (zPP S st x K)).mpr (h x hx)
end
end Go.Vm
namespace S1
def zY2:List AV->St->(AV->St->Prop)->Prop:=zR3 ⟨tyL,[(45,zUB)],[]⟩ f62
theorem zY3 : zJM prog 62 zY2 ∧ ∃ fn, Tryz.prog.funcs[62]? = some fn ∧ (fn.name == "runtime.NumGoroutine") = false ∧ fn.body.isNone = false :=
 ⟨zOG (yN (fn:=[(45,zUB)]) (fr:=[]) ⟨zZF,trivial⟩ trivial) func62 rfl (by kernel_rfl),_,func62,by kernel_rfl,by kernel_rfl⟩
def zUn (Ls:List (List Int)):Spec Nat where
 inv i:=i<=Ls.length
 live i:=[(12,.s (.int .i64 i)),(3,.s (.own 2 0 (lfK Ls i).length))]
 keep:=[2,10,11]
 heap i:=[(3,.map y8 y8 (ofK Ls i)),(2,.row y8 3 (lfK Ls i))]
 keepH:=[0,1]
 mu i:=Ls.length - i
def zUd (Ls:List (List Int)) (i:Nat):Spec Nat where
 inv j:=j<=(Ls.getD i []).length
 live j:=[(19,.s (.int .i64 j))]
 keep:=[2,3,4,5,10,11,12,17,18]
 heap j:=[(3,.map y8 y8 (ofV (ofK Ls i) i ((Ls.getD i []).take j)))]
 keepH:=[0,1,2]
 mu j:=(Ls.getD i []).length - j
def zT9 (x:yI.T) (l:List (Int×Int)):Spec (Nat×ReM×List Int) where
 inv y:=y.1<=l.length/\zFA x l y.1 y.2.1 y.2.2
 live y:=[(24,.s (.int .i64 y.1)),(8,.s (.own 5 0 (chK x l y.1).length))]
 keep:=[0,5,6,7,22,23]
 heap y:=[(4,.map y8 .bool y.2.1),(2,.row y8 3 y.2.2),(5,.row .arr2 33 (chK x l y.1))]
 keepH:=[0,3]
 mu y:=l.length - y.1
def zWt (u:ReM):Spec IBM where
 inv pre:= ∀ p∈pre,had u p.1=false
 live _:=[]
 keep:=[0,5,6,7,8,10,11,22,23,24,39]
 heap _:=[]
 keepH:=[0,2,3,4,5,6]
 mu _:=0
def zWO (u:ReM):Spec IBM where
 inv _:=True
 live _:=[]
 keep:=[0,5,6,7,8,10,11,22,23,24,81]
 heap pre:=[(4,.map y8 .bool (zRZ u (pre.map (·.1))))]
 keepH:=[0,2,3,5,6]
 mu _:=0
attribute [local irreducible] chK zDV zCt z1m zRZ ofK lfK ofV qW
theorem zYQ (x:yI.T) (l:List (Int×Int)) (g:Full x) (hs:jV (InN x.1.1) x.1.2) (hl9:l.length<=100000):zH7 ⟨tyL,[(27,z7M),(57,zMW),(63,zYk)],[(62,.run zY2)]⟩ z8R Tryz.f22 [(ETy.pt yI).av (some x),(ETy.sl .arr2).av l] (fun r=>r= .s (.sl .arr2 (zAh x l))):=by
 refine z7K rfl ?_
 repeat' (first
           | ((with_reducible show qC _ _ (Code.seq _ _) _ _);first|refine z6c rfl ?_|refine z7c rfl ?_)
           | with_reducible refine zY1 ?_
           | with_reducible refine zWS ?_
           | with_reducible refine zSD ?_
           | with_reducible refine z2I ?_
           | with_reducible refine zXb ?_
           | with_reducible refine z2P ?_
           | with_reducible refine z7m ?_
           | ((with_reducible show qC _ _ (Code.cond _ _ _) _ _);first|refine z2a rfl ?_|refine zVt rfl ?_)
           | ((with_reducible show qC _ _ (Code.loop _) _ _);refine z79 rfl (Nat×ReM×List Int) (zT9 x l) ((0,[],lfK (qW x) (qW x).length)) (yJ.out ?_) (zA ?_ (zA ?_ rfl)) (fun y hy=> ?_))
           | with_reducible refine zRr ?_
           | with_reducible refine zSR ?_
           | with_reducible refine zR2 ?_
           | with_reducible refine zRJ ?_
           | ((with_reducible show z2d _ _ (Exit.exit _) _);first|refine z2Z rfl ?_|refine z1y rfl ?_)
           | with_reducible refine z1w ?_
           | with_reducible refine z2e ?_
           | with_reducible refine z2i ?_
           | with_reducible refine zMT ?_
           | with_reducible refine zM7 ?_
           | with_reducible refine zXM ?_
           | with_reducible refine zHd ?_
           | (conv=>whnf
              first
           | done
           | refine qN ?_
           | apply qH
           | refine qG fun _=> ?_
           | apply qB
           | apply qa
           | apply qo
           | refine qe (fun _=> ?_) (fun _=> ?_)
           | refine qn (fun _=> ?_) (fun _=> ?_)
           | refine qd (fun _=> ?_) (fun _=> ?_)
           | apply qt
           | refine qi (fun _=> ?_) (fun _=> ?_)
           | with_reducible refine zRr ?_
           | with_reducible refine zSR ?_
           | with_reducible refine zR2 ?_
           | with_reducible refine zRJ ?_
           | with_reducible refine zMT ?_
           | with_reducible refine zM7 ?_
           | with_reducible refine zHd ?_
           | ((with_reducible show (∃ y,And (Spec.inv (zT9 _ _) y) _));refine zB (y.1+1,_,_) (zA (yJ.out ?_) (zA (zA ?_ (zA (zA rfl (zA rfl ?_)) rfl)) (yJ.out ?_))))
           | refine (fun (XF:Array Value)=> ?_)
           | (refine qS 3 rfl ?_;refine Or.inr (zB (Nat) (zB (zUn (qW x)) (zA (zB (0) (zA (yJ.out ?_) (zA ?_ (zA ?_ rfl)))) (fun i hi=>zN7 ?_)))))
           | with_reducible refine zaA (zUn _) (i+1) ?_ ?_ ?_ ?_
           | (refine qS 6 rfl ?_;refine Or.inr (zB (Nat) (zB (zUd (qW x) i) (zA (zB (0) (zA (yJ.out ?_) (zA ?_ (zA ?_ rfl)))) (fun j hj=>zN7 ?_)))))
           | with_reducible refine zaA (zUd _ _) (j+1) ?_ ?_ ?_ ?_
           | refine (fun (rIt:Nat)=> ?_)
           | refine z8H.intro (it:=39) (zB (zWt y.2.1) (zA (zA (yJ.out ?_) (zA ?_ (zA ?_ rfl))) (zA (fun preu eu heu=>zA rfl ?_) (fun preu hpu=>zA rfl ?_))))
           | ((with_reducible show (And (Spec.inv (zWt y.2.1) _) _));refine zA (yJ.out ?_) (zA ?_ (zA ?_ rfl)))
           | refine (fun (rIt:Nat)=> ?_)
           | refine z8H.intro (it:=81) (zB (zWO y.2.1) (zA (zA (yJ.out ?_) (zA ?_ (zA ?_ rfl))) (zA (fun prew ew hew=>zA rfl ?_) (fun prew hpw=>zA rfl ?_))))
           | ((with_reducible show (And (Spec.inv (zWO y.2.1) _) _));refine zA (yJ.out ?_) (zA ?_ (zA ?_ rfl)))
           | refine zA rfl ?_
           | apply qE
           | apply qO
           | exact zO
           | apply qq
           | apply qs
           | refine qK (by kernel_rfl) ?_
           | apply qr))
 all_goals try first|refine qz ?_|apply qz5
 all_goals try simp only [qn0,z7,zX,ETy.dflt,Int.reduceToNat,Int.reduceAdd,Int.reduceSub,Int.reduceNeg,Nat.reduceAdd,zUn,zUd,zT9,zWt,zWO] at *
 all_goals have hLl:=zWZ g
 all_goals try simp only [show z2U (some x)=qW x from rfl] at *
 all_goals try exact yJ.intro (fun y h=>by cases h;exact g)
 all_goals try exact yJ.intro (fun y h=>by cases h;exact g.toGood)
 all_goals try exact yJ.intro g.toGood
 all_goals try exact yJ.intro trivial
 all_goals try exact yJ.intro (fun p h=>by cases h)
 all_goals try (refine yJ.intro ?_;omega)
 all_goals try first
  | (unfold lfK;rfl)
  | (unfold ofK;rfl)
  | (unfold chK;rfl)
  | (rw [List.take_zero];unfold ofV;rfl)
  | (rw [zcF];unfold zRZ;rfl)
  | exact zYR _ _ _
  | exact z9c (by omega)
  | exact z9O (by omega)
  | (rw [zLR _ _ (by omega),zLR _ _ (by omega)];done)
 all_goals try (have hlf:=zLR (qW x) i (by omega);refine yJ.intro ?_;omega)
 all_goals try
  have ej:j=((qW x).getD i []).length:=by omega
  subst ej;rw [zbK];conv=>lhs;unfold ofK
  done
 all_goals have ei:i=(qW x).length:=by omega
 all_goals subst ei
 all_goals try exact yJ.intro ⟨zbH _,z3n⟩
 all_goals try rfl
 all_goals try
  have hn : ¬ okE x (chK x l y.1) (l.getD y.1 (0,0))=true:=by
            first|exact z7d (by assumption)|exact z5I g hs hy.2 heu.2.2.2.1 (by assumption)
  first
  | exact yJ.intro ⟨by omega,z8s hy.2 hn⟩
  | (rw [zZW hn];done)
 all_goals try
  refine yJ.intro fun p hp=> ?_;rcases yD.1 hp with k|k
  ·exact heu.1 p k
  ·rw [zF.1 k];assumption
 all_goals try
  have e9:y.1=l.length:=by omega
  rw [e9];unfold zAh;rfl
 all_goals have hcl:=zM1 x l y.1
 all_goals have hw:zDV x (l.getD y.1 (0,0)).1 (l.getD y.1 (0,0)).2=0:=by assumption
 all_goals have hOk:=z34 g hs hy.2 hw (fun p q=>hpu.1 p ((hpu.2.2 p).2 q))
 all_goals try first
  | (rw [zNJ hOk,zN];rfl)
  | exact zNJ hOk
  | (refine yJ.intro ?_;omega)
 all_goals try
  have hb:zJJ x (l.getD y.1 (0,0)):=(z24 g hs hw).1 (by first|exact .inl (by assumption)|exact .inr (by assumption));obtain ⟨q1,q2,q3,q4⟩:=zWw g hs hOk hb hy.2
  first
  | exact yJ.intro q1
  | exact yJ.intro q2
  | exact absurd (by assumption) q3
  | exact yJ.intro ⟨by omega,q4 _ hpw.2.2⟩
 all_goals
  have hb: ¬ zJJ x (l.getD y.1 (0,0)):=fun q=>((z24 g hs hw).2 q).elim (by assumption) (by assumption);exact yJ.intro ⟨by omega,z81 g hy.2 hOk hb hpw.2.2⟩
theorem zSr (l:List (Int×Int)):zH7 ⟨tyL,[(27,z7M),(57,zMW),(63,zYk)],[(62,.run zY2)]⟩ z8R Tryz.f22 [(ETy.pt yI).av none,(ETy.sl .arr2).av l] (fun r=>r= .s (.sl .arr2 [])):=by
 refine z7K rfl ?_
 repeat' (first
           | ((with_reducible show qC _ _ (Code.seq _ _) _ _);first|refine z6c rfl ?_|refine z7c rfl ?_)
           | with_reducible refine zY1 ?_
           | with_reducible refine zWS ?_
           | with_reducible refine zSD ?_
           | with_reducible refine z2I ?_
           | with_reducible refine zXb ?_
           | with_reducible refine z2P ?_
           | with_reducible refine z7m ?_
           | ((with_reducible show qC _ _ (Code.cond _ _ _) _ _);first|refine z2a rfl ?_|refine zVt rfl ?_)
           | with_reducible refine zRr ?_
           | with_reducible refine zSR ?_
           | with_reducible refine zR2 ?_
           | with_reducible refine zRJ ?_
           | ((with_reducible show z2d _ _ (Exit.exit _) _);first|refine z2Z rfl ?_|refine z1y rfl ?_)
           | with_reducible refine z1w ?_
           | with_reducible refine z2e ?_
           | with_reducible refine z2i ?_
           | with_reducible refine zMT ?_
           | with_reducible refine zM7 ?_
           | with_reducible refine zXM ?_
           | with_reducible refine zHd ?_
           | (conv=>whnf
              first
           | done
           | refine qN ?_
           | apply qH
           | refine qG fun _=> ?_
           | apply qB
           | apply qa
           | apply qo
           | refine qe (fun _=> ?_) (fun _=> ?_)
           | refine qn (fun _=> ?_) (fun _=> ?_)
           | refine qd (fun _=> ?_) (fun _=> ?_)
           | apply qt
           | refine qi (fun _=> ?_) (fun _=> ?_)
           | with_reducible refine zRr ?_
           | with_reducible refine zSR ?_
           | with_reducible refine zR2 ?_
           | with_reducible refine zRJ ?_
           | with_reducible refine zMT ?_
           | with_reducible refine zM7 ?_
           | with_reducible refine zHd ?_
           | refine zA rfl ?_
           | apply qE
           | apply qO
           | exact zO
           | apply qq
           | apply qs
           | refine qK (by kernel_rfl) ?_
           | apply qr))
 all_goals try first|refine qz ?_|apply qz5
 all_goals try simp only [qn0,z7,zX,ETy.dflt,Int.reduceToNat,Int.reduceAdd,Int.reduceSub,Int.reduceNeg,Nat.reduceAdd] at *
 all_goals rfl
def zFe:List AV->Option Res:=zCr (.pt yI) (.sl .arr2) (fun o l=>some (none,some ((∀ x,o=some x->Full x/\jV (InN x.1.1) x.1.2)/\l.length<=100000),.s (.sl .arr2 (match o with|some x=>zAh x l|none=>[]))))
theorem zI8:qM prog 22 zFe:=mkR (jD fun o l r h=>by
 cases h;cases o with
 | none=>exact zHL (yN (fn:=[(27,z7M),(57,zMW),(63,zYk)]) (fr:=[(62,.run zY2)]) ⟨z26,zLu,zVp,trivial⟩ ⟨zY3,trivial⟩) zVc func22 rfl (by kernel_rfl) (zU rfl) fun _ _=>zSr l
 | some x=>exact zHL (yN (fn:=[(27,z7M),(57,zMW),(63,zYk)]) (fr:=[(62,.run zY2)]) ⟨z26,zLu,zVp,trivial⟩ ⟨zY3,trivial⟩) zVc func22 rfl (by kernel_rfl) (zU rfl) fun _ h=>zYQ x l (h.1 x rfl).1 (h.1 x rfl).2 h.2) func22
end S1
namespace S1
def bwL (n:Nat):List Int:=(List.range n).map fun (j:Nat)=>(n:Int) - 1 - j
theorem zFN (n:Nat):(bwL n).length=n:=by unfold bwL;rw [yV,zAD]
theorem zPH {n k:Nat} (h:k<n):(bwL n).getD k 0=(n:Int) - 1 - k:=by
 unfold bwL;rw [zR,zbf,List.getElem?_range h];rfl
theorem zR7 {n k:Nat} (h:k<n):(bwL n).take k++[(n:Int) - 1 - k]=(bwL n).take (k+1):=by
 rw [yB (by rw [zFN];exact h)];have:=zPH h;rw [zR,zG (by rw [zFN];exact h)] at this;rw [<- show (bwL n)[k]'(by rw [zFN];exact h)=(n:Int) - 1 - k from this]
def zVG (R:List zAJ):Spec Nat where
 inv k:=k<=R.length
 live k:=[(3,.s (.int .i64 ((R.length:Int) - 1 - k)))]
 keep:=[0,1]
 heap _:=[]
 keepH:=[]
 mu k:=R.length - k
theorem z8B (R:List zAJ) (hn:R.length<=100000):zQ0 ⟨tyL,[],[]⟩ f105 [⟨.sl zG3,R⟩] (bwL R.length):=by
 repeat' (conv=>whnf
          first|done|refine qy ?_|refine qG fun _=> ?_|refine qw (fun _=> ?_) (fun _=> ?_)|apply qt|refine qi (fun _=> ?_) (fun _=> ?_)|refine (fun (l:Nat)=> ?_)|refine zB Nat (zB (zVG R) (zB (fun k=>(bwL R.length).take k) (zA (zB 0 (zA (yJ.out ?_) (zA (zAp.out ?_) (zA ?_ (zA ?_ rfl))))) (fun k hk=> ?_))))|((with_reducible show (∃ y,And (Spec.inv (zVG _) y) _));refine zB (k+1) (zA (yJ.out ?_) (zA (zAp.out ?_) (zA (zA ?_ (zA ?_ rfl)) (yJ.out ?_)))))|refine zA (yJ.out (p:=(_++[_]) <+: _) ?_) ?_|refine zA (zAp.intro (y9.out ?_)) ?_|refine zAp.out ?_|refine qu ?_|refine qv ?_ ?_|exact zO)
 all_goals try first|refine qz ?_|apply qz5
 all_goals try simp only [qn0,z7,zX,ETy.dflt,Int.reduceToNat,Int.reduceAdd,Int.reduceSub,Int.reduceNeg,Nat.reduceAdd,zVG] at *
 all_goals have eR:List.length ((some R).getD [])=R.length:=rfl
 all_goals have hlb:=zFN R.length
 ·exact yJ.intro (zbH _)
 ·exact zAp.intro rfl
 ·rw [eR];omega
 ·refine yJ.intro ?_;rw [eR];omega
 all_goals try have hk1:k<R.length:=by omega
 ·rw [zR7 hk1];exact yJ.intro (List.take_prefix _ _)
 ·exact y9.intro rfl
 ·exact yJ.intro hk1
 ·exact zAp.intro (zR7 hk1).symm
 ·omega
 ·refine yJ.intro ?_;omega
 ·exact zAp.intro (zbT (by omega))
theorem z7C {n:Nat} (h:n<=100000): ∀ x∈bwL n,InK .i64 x:=fun x hx=>by
 obtain ⟨j,hj,rfl⟩:=yC.1 hx;have:=zV.1 hj;exact InK.i64.2 (by unfold yP;omega)
def seqB:zDE:=fun f ps L=>f=105/\∃ R:List zAJ,ps=[⟨.sl zG3,R⟩]/\R.length<=100000/\L=bwL R.length
theorem z6h:zDb prog seqB:=fun f ps L h=>by
 obtain ⟨rfl,R,rfl,hn,rfl⟩:=h;exact seq_ok (yN (fn:=[]) (fr:=[]) trivial trivial) func105 rfl (by kernel_rfl) rfl (by kernel_rfl) (zU rfl) (z7C hn) fun _=>z8B R hn
theorem z9R {fn} (R:List zAJ):zAG ⟨tyL,fn,[]⟩ f67 [(ETy.sl zG3).av R] (fun r=>r= .s (.clo 105 [⟨.sl zG3,R⟩])):=by
 repeat' (conv=>whnf
          first|done|refine qy ?_|refine qG fun _=> ?_|refine qw (fun _=> ?_) (fun _=> ?_)|apply qt|refine qi (fun _=> ?_) (fun _=> ?_)|refine qu ?_|refine qv ?_ ?_|exact zO)
 all_goals try first|refine qz ?_|apply qz5
 all_goals try simp only [qn0,z7,zX,ETy.dflt,Int.reduceToNat,Int.reduceAdd,Int.reduceSub,Int.reduceNeg,Nat.reduceAdd] at *
def bwC:List AV->Option Res:=zEz (.sl zG3) (fun R=>some (none,none,.s (.clo 105 [⟨.sl zG3,R⟩])))
theorem z9C:qM prog 67 bwC:=mkR (zA1 fun R r h=>by cases h;exact fb (fn:=[]) trivial func67 fun _ _=>z9R R) func67
inductive ChB (s:SoT):SoT->List zAJ->Prop
 | nil:ChB s s []
 | snoc {x y:SoT} {R:List zAJ} {r:zAJ} :ChB s y R->doR y r.1 r.2.1=(x,r,0)->ChB s x (R++[r])
theorem ChB.back {s x:SoT} {R:List zAJ} {r:zAJ} (h:ChB s x (R++[r])):(zBe x r).2=0/\ChB s (zBe x r).1 R:=by
 generalize e:R++[r]=Q at h;cases h with
 | nil=>simp at e
 | snoc h1 h2 =>
   obtain ⟨e1,e2⟩:=List.append_inj' e rfl;cases e2;subst e1;have:=zSW h2;rw [this];exact ⟨rfl,h1⟩
theorem ChB.zero {s x:SoT} (h:ChB s x []):x=s:=by
 generalize e:([]:List zAJ)=Q at h;cases h with
 | nil=>rfl
 | snoc=>simp at e
noncomputable def unS (x:SoT) (R:List zAJ):Nat->SoT
 | 0=>x
 | k+1=>(zBe (unS x R k) (R.getD (R.length - 1 - k) zOr)).1
theorem zKA {R:List zAJ} {k:Nat} (h:k<R.length):R.take (k+1)=R.take k++[R.getD k zOr]:=by
 rw [yB h,zR,zG h];rfl
theorem zVf {s x:SoT} {R:List zAJ} (h:ChB s x R): ∀ k,k<=R.length->ChB s (unS x R k) (R.take (R.length - k))
 | 0,_=>by rw [Nat.sub_zero,zbK];exact h
 | k+1,hk=>by
   have ih:=zVf h k (by omega);rw [show R.length - k=(R.length - (k+1))+1 by omega,zKA (by omega)] at ih;have:=ih.back.2;unfold unS;rw [show R.length - 1 - k=R.length - (k+1) by omega];exact this
theorem z6O {s x:SoT} {R:List zAJ} (h:ChB s x R) {k:Nat} (hk:k<R.length):(zBe (unS x R k) (R.getD (R.length - 1 - k) zOr)).2=0:=by
 have ih:=zVf h k (by omega);rw [show R.length - k=(R.length - 1 - k)+1 by omega,zKA (by omega)] at ih;exact ih.back.1
theorem z32 {s x:SoT} {R:List zAJ} (h:ChB s x R):unS x R R.length=s:=by
 have:=zVf h R.length (zI _);rw [Nat.sub_self,List.take_zero] at this;exact this.zero
noncomputable def z2n (x:SoT) (R:List zAJ):Spec Nat where
 inv _:=True
 live _:=[]
 keep:=[1,2,4,5]
 heap k:=[(0,.flat 24 [.int .i64 (unS x R k).1,.sl .arr3 (unS x R k).2])]
 keepH:=[1,2,3,4]
 mu _:=0
theorem z3M {s x:SoT} {R:List zAJ} (h:ChB s x R) {k:Nat} (hk:k<(bwL R.length).length):(zBe (unS x R k) (R.getD ((bwL R.length).getD k 0).toNat zOr)).2=0:=by
 rw [zFN] at hk;have:=z6O h hk;rw [zPH hk,show ((R.length:Int) - 1 - k).toNat=R.length - 1 - k by omega];exact this
attribute [local irreducible] zBe unS
theorem z1d (n:Int) (l:List P3) (R:List zAJ) (s:SoT) (h:ChB s (n,l) R) (hn:R.length<=100000) (hl:l.length<=8192):zH7 ⟨tyL,[(64,zIF),(67,bwC),(68,zWc)],[]⟩ seqB Tryz.f25 [qP.av (n,l),(ETy.sl zG3).av R] (fun r=>r=zS4 (s,0)):=by
 repeat' (conv=>whnf
          first|done|refine qy ?_|refine qG fun _=> ?_|refine qw (fun _=> ?_) (fun _=> ?_)|apply qt|refine qi (fun _=> ?_) (fun _=> ?_)|refine zB (bwL R.length) (zA (yJ.out ?_) (zB (z2n (n,l) R) ?_))|(refine zA (fun X=> ?_) (fun X=> ?_))|(refine zA (zA ?_ (zA ?_ rfl)) (fun k hk=> ?_))|(refine zA ?_ (zA ?_ rfl))|exact absurd (z3M h hk) (by assumption)|refine qu ?_|refine qv ?_ ?_|exact zO)
 all_goals try first|refine qz ?_|apply qz5
 all_goals try simp only [qn0,z7,zX,ETy.dflt,Int.reduceToNat,Int.reduceAdd,Int.reduceSub,Int.reduceNeg,Nat.reduceAdd,z2n] at *
 ·exact yJ.intro ⟨rfl,R,rfl,hn,rfl⟩
 ·rw [show unS (n,l) R 0=(n,l) by unfold unS;rfl];exact jL.intro rfl
 ·have e:unS (n,l) R (k+1)=(zBe (unS (n,l) R k) (R.getD ((bwL R.length).getD k 0).toNat zOr)).1:=by
   have hk1:k<R.length:=by rw [zFN] at hk;exact hk
   rw [zPH hk1,show ((R.length:Int) - 1 - k).toNat=R.length - 1 - k by omega];conv=>lhs;unfold unS
  rw [e];exact jL.intro rfl
 ·rw [zFN,z32 h];exact y9.intro rfl
def zY6 (s0:SoT):List AV->Option Res:=zCr qP (.sl zG3) (fun s R=>some (none,some (ChB s0 s R/\R.length<=100000/\s.2.length<=8192),zS4 (s0,0)))
theorem z1b (s0:SoT):qM prog 25 (zY6 s0):=mkR (jD fun s R r h=>by
 cases h;exact zHL (yN (fn:=[(64,zIF),(67,bwC),(68,zWc)]) (fr:=[]) ⟨zMV,z9C,zYz,trivial⟩ trivial) z6h func25 rfl (by kernel_rfl) (zU rfl) fun _ h=>z1d s.1 s.2 R s0 h.1 h.2.1 h.2.2) func25
end S1
namespace S1
abbrev EdB:=List (Int×Int)
def zJh (R:List zAJ) (e:Int×Int):Int×Int:=(zAV R e.1,zAV R e.2)
def doK (s:SoT) (l:EdB):Nat->SoT×List zAJ
 | 0=>(s,[])
 | k+1=>((doR (doK s l k).1 (zAV (doK s l k).2 (l.getD k (0,0)).1) (zAV (doK s l k).2 (l.getD k (0,0)).2)).1,
   (doK s l k).2++[(doR (doK s l k).1 (zAV (doK s l k).2 (l.getD k (0,0)).1) (zAV (doK s l k).2 (l.getD k (0,0)).2)).2.1])
theorem zOk (r:zAJ): ∀ (R:List zAJ) (v:Int),zAV (R++[r]) v=if zJs (zAV R v) r.1 r.2.1<0 then -1 else zJs (zAV R v) r.1 r.2.1
 | [],v=>by
   show zAV [r] v=_;unfold zAV;split
   ·rfl
   ·rfl
 | q::l,v=>by
   show zAV (q::(l++[r])) v=_;unfold zAV;split
   ·rw [if_pos (by unfold zJs;rw [if_pos (by decide)];decide)]
   ·exact zOk r l _
theorem zZb {s:SoT} {a b:Int} (hs:zBK s) (k:zBN s.2 a b):doE s a b=0/\(doR s a b).1=zZv s a b/\(doR s a b).2.1.1=a/\(doR s a b).2.1.2.1=b:=by
 have hi:=zCW hs k
 have h0:doE s a b=0:=by
  rw [zIA hs,if_pos ⟨hi.1,hi.2⟩,(zEm hs k).1];rfl
 rw [zSy h0];refine ⟨h0,?_,rfl,rfl⟩;show (s.1 - 1,drL a b s.2 s.2.length)=_;rw [zXa];rfl
theorem z82 {a v:Int} (hv:0<=v) (ha:0<=a):0<=dn a v:=by unfold dn;split<;>omega
theorem zIU {α:Type} {l:List α} {k:Nat} (d:α) (h:k<l.length):l.drop k=l.getD k d::l.drop (k+1):=by
 rw [List.drop_eq_getElem_cons h,zR,zG h];rfl
structure z7x (s:SoT) (l:EdB) (k:Nat):Prop where
 bat:zFG (doK s l k).1 ((l.drop k).map (zJh (doK s l k).2))
 len:(doK s l k).2.length=k
 num:(doK s l k).1.1=s.1 - k
 ch:ChB s (doK s l k).1 (doK s l k).2
 ok:okR (doK s l k).2
 tri:(doK s l k).1.2.length<=s.2.length
theorem z1Q (a b:Int) (l:List P3):(zIZ a b l).length<=l.length:=by
 unfold zIZ;rw [yV];exact zcC _ _
theorem zFT {s:SoT} {l:EdB} {k:Nat} (h:z7x s l k) (hk:k<l.length):(doR (doK s l k).1 (zAV (doK s l k).2 (l.getD k (0,0)).1) (zAV (doK s l k).2 (l.getD k (0,0)).2)).2.2=0/\
 (doK s l (k+1)).1=zZv (doK s l k).1 (zAV (doK s l k).2 (l.getD k (0,0)).1) (zAV (doK s l k).2 (l.getD k (0,0)).2)/\
 (∀ v,0<=zAV (doK s l k).2 v->zAV (doK s l (k+1)).2 v=dn (zAV (doK s l k).2 (l.getD k (0,0)).1) (ph (zAV (doK s l k).2 (l.getD k (0,0)).1) (zAV (doK s l k).2 (l.getD k (0,0)).2) (zAV (doK s l k).2 v))/\0<=zAV (doK s l (k+1)).2 v)/\z7x s l (k+1):=by
 have hb:=h.bat;rw [zIU (0,0) hk,zbk] at hb;obtain ⟨a,ea⟩: ∃ a,a=zAV (doK s l k).2 (l.getD k (0,0)).1:=⟨_,rfl⟩;obtain ⟨b,eb⟩: ∃ b,b=zAV (doK s l k).2 (l.getD k (0,0)).2:=⟨_,rfl⟩;have hb:zFG (doK s l k).1 ((a,b)::(l.drop (k+1)).map (zJh (doK s l k).2)):=by rw [ea,eb];exact hb
 have hf:zBN (doK s l k).1.2 a b:=hb.free (a,b) (zY ..);have hi:=zCW hb.surf hf;have ia:0<=a/\a<(doK s l k).1.1:=hi.1;have ib:0<=b/\b<(doK s l k).1.1:=hi.2;obtain ⟨d1,d2,d3,d4⟩:=zZb hb.surf hf;have e1:(doK s l (k+1)).1=(doR (doK s l k).1 a b).1:=by rw [ea,eb];rfl
 have e2:(doK s l (k+1)).2=(doK s l k).2++[(doR (doK s l k).1 a b).2.1]:=by rw [ea,eb];rfl
 have hn: ∀ v,0<=zAV (doK s l k).2 v->zAV (doK s l (k+1)).2 v=dn a (ph a b (zAV (doK s l k).2 v))/\0<=zAV (doK s l (k+1)).2 v:=fun v hv=>by
  have hw:0<=dn a (ph a b (zAV (doK s l k).2 v)):=z82 (by unfold ph;split<;>omega) ia.1
  have e:zAV (doK s l (k+1)).2 v=dn a (ph a b (zAV (doK s l k).2 v)):=by
   rw [e2,zOk,d3,d4,zMP hv,if_neg (by omega)]
  exact ⟨e,by rw [e];exact hw⟩
 rw [<- ea,<- eb];refine ⟨by rw [zLI];exact d1,by rw [e1,d2],hn,⟨?_,?_,?_,?_,?_,?_⟩⟩
 ·have hs:=zXK hb;rw [e1,d2];rw [zcE] at hs
  have ec:(l.drop (k+1)).map (zJh (doK s l (k+1)).2)=(l.drop (k+1)).map (dn2 a ∘ zJh (doK s l k).2):=by
   refine zbN fun e he=> ?_;have hm:zJh (doK s l k).2 e∈(l.drop (k+1)).map (zJh (doK s l k).2):=yC.2 ⟨e,he,rfl⟩;have hf2:zBN (doK s l k).1.2 (zJh (doK s l k).2 e).1 (zJh (doK s l k).2 e).2:=hb.free _ (zQ _ hm);have hap:=(List.pairwise_cons.1 hb.apart).1 _ hm;have hne:=zD1 hf2 hap;have hi2:=zCW hb.surf hf2;show (zAV _ e.1,zAV _ e.2)=(dn a (zAV _ e.1),dn a (zAV _ e.2));rw [(hn e.1 hi2.1.1).1,(hn e.2 hi2.2.1).1,zLT (show zAV _ e.1≠a from hne.1.1),zLT (show zAV _ e.2≠a from hne.2.1)]
  rw [ec];exact hs
 ·rw [e2,zN,h.len];rfl
 ·rw [e1,d2];show (doK s l k).1.1 - 1=_;rw [h.num];omega
 ·rw [e1,e2];refine .snoc h.ch ?_;rw [d3,d4];have e0:=zSy d1;rw [e0]
 ·intro r hr;rw [e2] at hr;rcases yD.1 hr with k|k
  ·exact h.ok r k
  ·rw [zF.1 k,d4];have:=hb.surf.fit.2.1;omega
 ·rw [e1,d2];show ((zIZ a b (doK s l k).1.2).map _).length<=_;rw [yV];exact zb0 (z1Q _ _ _) h.tri
theorem zFF {s:SoT} {l:EdB} (h:zFG s l): ∀ k,k<=l.length->z7x s l k
 | 0,_=>by
   refine ⟨?_,rfl,(Int.sub_zero _).symm,.nil,fun r hr=>(by cases hr),zI _⟩
   have e:(l.drop 0).map (zJh (doK s l 0).2)=l:=by
    rw [zb6];exact (zbN (fun e _=>show (zAV [] e.1,zAV [] e.2)=e from rfl)).trans (List.map_id l)
   rw [e];exact h
 | k+1,hk=>(zFT (zFF h k (by omega)) (by omega)).2.2.2
end S1
namespace S1
def zMj (o:Option yI.T) (l:List (Int×Int)):Bool:=match o with
 | some x=>decide (((zAh x l).length:Int)=l.length)
 | none=>false
attribute [local irreducible] zAh
theorem z69 (x:yI.T) (l:List (Int×Int)) (g:Full x) (hs:jV (InN x.1.1) x.1.2) (hl9:l.length<=100000):zAG ⟨tyL,[(22,zFe)],[]⟩ f19 [(ETy.pt yI).av (some x),(ETy.sl .arr2).av l] (fun r=>r= .s (.bool (zMj (some x) l))):=by
 repeat' (conv=>whnf
          first|done|refine qy ?_|refine qG fun _=> ?_|refine qw (fun _=> ?_) (fun _=> ?_)|apply qt|refine qi (fun _=> ?_) (fun _=> ?_)|refine qu ?_|refine qv ?_ ?_|exact zO)
 all_goals try first|refine qz ?_|apply qz5
 all_goals try simp only [qn0,z7,zX,ETy.dflt,Int.reduceToNat,Int.reduceAdd,Int.reduceSub,Int.reduceNeg,Nat.reduceAdd,zMj] at *
 all_goals try exact yJ.intro ⟨fun y h=>by cases h;exact ⟨g,hs⟩,hl9⟩
 all_goals (rw [Bool.eq_iff_iff,beq_iff_eq,zP];done)
theorem z3X (l:List (Int×Int)):zAG ⟨tyL,[(22,zFe)],[]⟩ f19 [(ETy.pt yI).av none,(ETy.sl .arr2).av l] (fun r=>r= .s (.bool (zMj none l))):=by
 repeat' (conv=>whnf
          first|done|refine qy ?_|refine qG fun _=> ?_|refine qw (fun _=> ?_) (fun _=> ?_)|apply qt|refine qi (fun _=> ?_) (fun _=> ?_)|refine qu ?_|refine qv ?_ ?_|exact zO)
 all_goals try first|refine qz ?_|apply qz5
 all_goals try simp only [qn0,z7,zX,ETy.dflt,Int.reduceToNat,Int.reduceAdd,Int.reduceSub,Int.reduceNeg,Nat.reduceAdd,zMj] at *
 all_goals try rfl
def z7L:List AV->Option Res:=zCr (.pt yI) (.sl .arr2) (fun o l=>some (none,some ((∀ x,o=some x->Full x/\jV (InN x.1.1) x.1.2)/\l.length<=100000),.s (.bool (zMj o l))))
theorem z2S:qM prog 19 z7L:=mkR (jD fun o l r h=>by
 cases h;cases o with
 | none=>exact fb (fn:=[(22,zFe)]) ⟨zI8,trivial⟩ func19 fun _ _=>z3X l
 | some x=>exact fb (fn:=[(22,zFe)]) ⟨zI8,trivial⟩ func19 fun _ h=>z69 x l (h.1 x rfl).1 (h.1 x rfl).2 h.2) func19
def zMh (s:SoT) (l:EdB):Int:=if isR s=true then (if zMj (some (zAa s)) l=true then 0 else 14) else 11
def doB (s:SoT) (l:EdB):SoT×List zAJ×Int:=if zMh s l=0 then ((doK s l l.length).1,(doK s l l.length).2,0) else ((0,[]),[],zMh s l)
def z84 (r:SoT×List zAJ×Int):AV:= .tup [qP.av r.1,.s (.sl zG3 r.2.1),.s (.int .i64 r.2.2)]
def z7h (r:SoT×List zAJ×Int):AV:=if r.2.2=0 then z84 r else .tup [.agg [.int .i64 0,.val (.slice none 0 0)],.s (.sl zG3 []),.s (.int .i64 r.2.2)]
theorem zSZ {s:SoT} {l:EdB} (h:zMh s l=0):doB s l=((doK s l l.length).1,(doK s l l.length).2,0):=if_pos h
theorem z7q {s:SoT} {l:EdB} {e:Int} (h:zMh s l=e) (he:e≠0):doB s l=((0,[]),[],e):=by unfold doB;rw [if_neg (by rw [h];exact he),h]
theorem z2W {s:SoT} {l:EdB} {e:Int} (h:zMh s l=e) (he:e≠0):z7h (doB s l)= .tup [.agg [.int .i64 0,.val (.slice none 0 0)],.s (.sl zG3 []),.s (.int .i64 e)]:=by
 rw [z7q h he];unfold z7h;rw [if_neg he]
theorem zQt {I:Sig} {s:SoT} {l:EdB} {v:Value} (h:y6 I [] (z7h (doB s l)) v):y6 I [] (z84 (doB s l)) v:=by
 by_cases he:zMh s l=0
 ·rw [zSZ he] at *;exact h
 ·rw [z2W rfl he] at h;rw [z7q rfl he];obtain ⟨vs,e1,h⟩:=h
  match vs,h with
  | [x,y,z],⟨⟨ds,ea,h1⟩,h2,h3⟩ =>
    refine ⟨_,e1,⟨ds,ea,?_⟩,h2,h3⟩
    match ds,h1 with
    | [d1,d2],⟨k1,k2,k3⟩=>exact ⟨k1,zIo k2,k3⟩
theorem zGf {s:SoT} (hs:zBK s) {l:EdB} :zMj (some (zAa s)) l=true↔zFG s l:=by
 obtain ⟨_,g,e⟩:=zAu hs;have hm:jV (InN (zAa s).1.1) (zAa s).1.2:=zAc (s:=(zAa s).1) (by rw [e];exact hs);have:=zQM g hm (l:=l);unfold zMj;rw [zP];constructor
 ·intro h;have b:=this.1 (by omega);exact ⟨hs,by rw [<- e];exact b.free,by rw [<- e];exact b.apart⟩
 ·intro h;have:=this.2 ⟨by rw [e];exact h.free,by rw [e];exact h.apart⟩;omega
theorem z1L (s:SoT) (l:EdB) (k:Nat):doK s l (k+1)=((doR (doK s l k).1 (zAV (doK s l k).2 (l.getD k (0,0)).1) (zAV (doK s l k).2 (l.getD k (0,0)).2)).1,
 (doK s l k).2++[(doR (doK s l k).1 (zAV (doK s l k).2 (l.getD k (0,0)).1) (zAV (doK s l k).2 (l.getD k (0,0)).2)).2.1]):=rfl
theorem z4D (s:SoT) (l:EdB):doK s l 0=(s,[]):=rfl
def zWx (s:SoT) (l:EdB):Spec Nat where
 inv k:=k<=l.length
 live k:=[(35,.s (.int .i64 k)),(9,.s (.own 4 0 (doK s l k).2.length))]
 keep:=[2,4,33,34]
 heap k:=[(0,.flat 24 [.int .i64 (doK s l k).1.1,.sl .arr3 (doK s l k).1.2]),(4,.row zG3 103 (doK s l k).2)]
 keepH:=[1,2,3]
 mu k:=l.length - k
attribute [local irreducible] doR zAV doK zMj
theorem z75 (n:Int) (l:List P3) (es:EdB) (x:yI.T) (hx:zHP (n,l)=some x) (hl9:es.length<=100000):zAG ⟨tyL,[(54,zKs x),(19,z7L),(64,zIF),(66,z60),(65,z5p)],[]⟩ Tryz.f24 [qP.av (n,l),(ETy.sl .arr2).av es] (fun r=>r=z7h (doB (n,l) es)):=by
 obtain ⟨e0,g,hs⟩:=zHj hx
 repeat' (conv=>whnf
          first|done|refine qy ?_|refine qG fun _=> ?_|refine qw (fun _=> ?_) (fun _=> ?_)|apply qt|refine qi (fun _=> ?_) (fun _=> ?_)|(refine zaB 9 rfl (zWx (n,l) es) (0) ?_ ?_ ?_ fun k hk=> ?_)|with_reducible refine zaA (zWx _ _) (k+1) ?_ ?_ ?_ ?_|refine qu ?_|refine qv ?_ ?_|exact zO)
 all_goals try first|refine qz ?_|apply qz5
 all_goals try simp only [qn0,z7,zX,ETy.dflt,Int.reduceToNat,Int.reduceAdd,Int.reduceSub,Int.reduceNeg,Nat.reduceAdd,zWx] at *
 all_goals have hsm:jV (InN x.1.1) x.1.2:=by
            obtain ⟨_,_,e⟩:=zAu hs;rw [e0];exact zAc (s:=(zAa (n,l)).1) (by rw [e];exact hs)
 all_goals try exact yJ.intro ⟨fun y h=>by cases h;exact ⟨g,hsm⟩,hl9⟩
 all_goals try
  have hB0:zMj (some x) es=false:=by assumption
  have h14:zMh (n,l) es=14:=by
        unfold zMh;rw [if_pos ((zB4 (n,l)).2 hs),<- e0,if_neg (by rw [hB0];decide)]
  exact y9.intro (z2W h14 (by decide)).symm
 all_goals have hB:zMj (some x) es=true:=by assumption
 all_goals have hb:zFG (n,l) es:=(zGf hs).1 (by rw [<- e0];exact hB)
 all_goals have h0:zMh (n,l) es=0:=by
            unfold zMh;rw [if_pos ((zB4 (n,l)).2 hs),<- e0,if_pos hB]
 all_goals try exact yJ.intro (show l.length<=8192 from hs.fit.2.2.1)
 all_goals try (refine yJ.intro ?_;omega)
 all_goals try first
  | (rw [z4D];done)
  | (rw [z4D];rfl)
  | (rw [z4D];exact jL.intro rfl)
 all_goals have hd:=zFF hb k hk
 all_goals have hdl:=hd.len
 all_goals try (refine yJ.intro ?_;omega)
 all_goals try
  have e9:k=List.length es:=by omega
  subst e9;refine y9.intro ?_;rw [zSZ h0];unfold z7h;rw [if_pos rfl];rfl
 all_goals have hk1:k<List.length es:=by omega
 all_goals have hst:=zFT hd hk1
 all_goals try exact absurd hst.1 (by assumption)
 all_goals try first
  | (rw [z1L,zN];done)
  | (rw [z1L,zN];rfl)
  | (rw [z1L];done)
  | (rw [z1L];exact jL.intro rfl)
 all_goals
  have hm : List.getD es k (0,0)∈es:=by
            rw [zR,zG hk1];exact yQ hk1
  have hi:=zCW hs (hb.free _ hm);have hn: @LE.le Int _ n 4096:=hs.fit.2.1;have h1: @LE.le Int _ 0 (List.getD es k (0,0)).1/\@LT.lt Int _ (List.getD es k (0,0)).1 n:=hi.1;have h2: @LE.le Int _ 0 (List.getD es k (0,0)).2/\@LT.lt Int _ (List.getD es k (0,0)).2 n:=hi.2;exact yJ.intro ⟨⟨by omega,by omega⟩,hd.ok⟩
def z6P:List AV->Option Res:=zCr qP (.sl .arr2) (fun s es=>some (none,some (zBK s/\es.length<=100000),z84 (doB s es)))
theorem z2N:qM prog 24 z6P:=mkR (jD fun s es r h=>by
 cases h;cases e:zHP s with
 | none=>exact zCn.res (fun I vals w hag hv=>⟨trivial,fun hq=>absurd (zAu (show zBK s from hq.1)).1 (by rw [e];simp)⟩) fun I v h=>zQt h
 | some x=>exact zCn.res (fb (fn:=[(54,zKs x),(19,z7L),(64,zIF),(66,z60),(65,z5p)]) ⟨(zMB x),z2S,zMV,z2u,zVA,trivial⟩ func24 fun _ h=>z75 s.1 s.2 es x e h.2) fun I v h=>zQt h) func24
end S1
namespace S9
open S1
@[irreducible] def zFd (t:P3) (v:Int):Bool:=t.1==v|| (t.2.1==v|| t.2.2==v)
@[irreducible] def zOj (t:P3) (a b:Int):Bool:=(t.1==a&&t.2.1==b)|| ((t.2.1==a&&t.2.2==b)|| (t.2.2==a&&t.1==b))
theorem zZf {fn} (t:P3) (a b:Int):zAG ⟨tyL,fn,[]⟩ f178 [ETy.arr3.av t,(ETy.int .i64).av a,(ETy.int .i64).av b] (fun r=>r= .s (.bool (zOj t a b))):=by
 repeat' (conv=>whnf
          first|done|refine qy ?_|refine qG fun _=> ?_|refine qw (fun _=> ?_) (fun _=> ?_)|apply qt|refine qi (fun _=> ?_) (fun _=> ?_)|refine qu ?_|refine qv ?_ ?_|exact zO)
 all_goals try first|refine qz ?_|apply qz5
 all_goals try simp only [qn0,z7,zX,ETy.dflt,Int.reduceToNat,Int.reduceAdd,Int.reduceSub,Int.reduceNeg,Nat.reduceAdd,zOj] at *
 all_goals rw [Bool.eq_iff_iff];simp only [zbA,zC,beq_iff_eq,Bool.false_eq_true,true_iff,iff_true,false_iff,iff_false];omega
def zWV:List AV->Option Res:=zOw .arr3 (.int .i64) (.int .i64) (fun t a b=>some (none,none,.s (.bool (zOj t a b))))
theorem z1g:qM prog 178 zWV:=mkR (zDZ fun t a b r h=>by cases h;exact fb (fn:=[]) trivial func178 fun _ _=>zZf t a b) func178
theorem z4X {fn} (t:P3) (v:Int):zAG ⟨tyL,fn,[]⟩ f133 [ETy.arr3.av t,(ETy.int .i64).av v] (fun r=>r= .s (.bool (zFd t v))):=by
 repeat' (conv=>whnf
          first|done|refine qy ?_|refine qG fun _=> ?_|refine qw (fun _=> ?_) (fun _=> ?_)|apply qt|refine qi (fun _=> ?_) (fun _=> ?_)|refine qu ?_|refine qv ?_ ?_|exact zO)
 all_goals try first|refine qz ?_|apply qz5
 all_goals try simp only [qn0,z7,zX,ETy.dflt,Int.reduceToNat,Int.reduceAdd,Int.reduceSub,Int.reduceNeg,Nat.reduceAdd,zFd] at *
 ·rename_i h;rw [h];simp
 ·rename_i h1 h;rw [h];simp
 ·rename_i h1 h2;rw [beq_false_of_ne h1,beq_false_of_ne h2];rfl
def zQI:List AV->Option Res:=zCr .arr3 (.int .i64) (fun t v=>some (none,none,.s (.bool (zFd t v))))
theorem zPc:qM prog 133 zQI:=mkR (jD fun t v r h=>by cases h;exact fb (fn:=[]) trivial func133 fun _ _=>z4X t v) func133
@[irreducible] def zJb (t u:P3):Bool:=zOj u t.1 t.2.1|| (zOj u t.2.1 t.2.2|| zOj u t.2.2 t.1)
theorem zU9 (t u:P3):zAG ⟨tyL,[(178,zWV)],[]⟩ f159 [ETy.arr3.av t,ETy.arr3.av u] (fun r=>r= .s (.bool (zJb t u))):=by
 repeat' (conv=>whnf
          first|done|refine qy ?_|refine qG fun _=> ?_|refine qw (fun _=> ?_) (fun _=> ?_)|apply qt|refine qi (fun _=> ?_) (fun _=> ?_)|refine qu ?_|refine qv ?_ ?_|exact zO)
 all_goals try first|refine qz ?_|apply qz5
 all_goals try simp only [qn0,z7,zX,ETy.dflt,Int.reduceToNat,Int.reduceAdd,Int.reduceSub,Int.reduceNeg,Nat.reduceAdd,zJb] at *
 all_goals simp [*]
def zQY:List AV->Option Res:=zCr .arr3 .arr3 (fun t u=>some (none,none,.s (.bool (zJb t u))))
theorem zVj:qM prog 159 zQY:=mkR (jD fun t u r h=>by cases h;exact fb (by exact ⟨z1g,trivial⟩) func159 fun _ _=>zU9 t u) func159
def zHq (n:Int):Nat->List P3->List Wit
 | _,[]=>[]
 | i,t::r=>if zCm n t then zHq n (i+1) r else (1,(i:Int),0)::zHq n (i+1) r
def zHN (s:Int×List P3):Bool:=decide (s.1<0)|| (decide (s.1>4096)|| decide ((s.2.length:Int)>8192))
def jF (s:Int×List P3):List Wit:=if zHN s then [(1,-1,0)] else zHq s.1 0 s.2
def zPj (n:Int) (l:List P3):Spec (Nat×List Wit) where
 inv x:=x.1<=l.length/\x.2.length<=x.1/\zHq n 0 l=x.2++zHq n x.1 (l.drop x.1)
 live x:=[(4,.s (.int .i64 x.1)),(3,.s (.own 2 0 x.2.length))]
 keep:=[1]
 heap x:=[(2,.row zB0 165 x.2)]
 keepH:=[0]
 mu x:=l.length - x.1
theorem zP6 {n:Int} {t:P3} (h:t.1<0\/t.1>=n\/t.2.1<0\/t.2.1>=n\/t.2.2<0\/t.2.2>=n):zCm n t=false:=by
 rw [<- zbV];intro e;have:=zAH e;omega
theorem zG0 {n:Int} {t:P3} (h: ¬ (t.1<0\/t.1>=n\/t.2.1<0\/t.2.1>=n\/t.2.2<0\/t.2.2>=n)):zCm n t=true:=by
 simp only [zCm,vIn,zC,zbB,Bool.or_eq_false_iff,yM];omega
theorem zVu {fn} (n:Int) (l:List P3):zFB ⟨tyL,fn,[]⟩ f131 [qP.av (n,l)] (fun v obs=>v= .s (.own 0 0 (jF (n,l)).length)/\obs=[.row zB0 165 (jF (n,l))]):=by
 repeat' (conv=>whnf
          first|done|refine qy ?_|refine qG fun _=> ?_|refine qw (fun _=> ?_) (fun _=> ?_)|apply qt|refine qi (fun _=> ?_) (fun _=> ?_)|(refine zaB 5 rfl (zPj n l) ((0,[])) ?_ ?_ ?_ fun x hx=> ?_)|(refine qS 9 rfl ?_;refine Or.inl (zB (4) ?_))|with_reducible refine zaA (zPj _ _) ((x.1+1,if zCm n (l.getD x.1 (0,0,0)) then x.2 else x.2++[(1,(x.1:Int),0)])) ?_ ?_ ?_ ?_|refine qu ?_|refine qv ?_ ?_|exact zO)
 all_goals try first|refine qz ?_|apply qz5
 all_goals try simp only [qn0,z7,zX,ETy.dflt,Int.reduceToNat,Int.reduceAdd,Int.reduceSub,Int.reduceNeg,Nat.reduceAdd,zPj] at *
 all_goals try (refine yJ.intro ?_;omega)
 all_goals try (refine yJ.intro ?_;simp only [List.length_singleton];omega)
 ·rename_i h;simp only [jF,zHN,decide_eq_true h,Bool.true_or,if_true];rfl
 ·rename_i h;simp only [jF,zHN,decide_eq_true h,Bool.true_or,if_true]
 ·rename_i h;simp only [jF,zHN,decide_eq_true h,Bool.true_or,Bool.or_true,if_true];rfl
 ·rename_i h;simp only [jF,zHN,decide_eq_true h,Bool.true_or,Bool.or_true,if_true]
 ·rename_i h;simp only [jF,zHN,decide_eq_true h,Bool.true_or,Bool.or_true,if_true];rfl
 ·rename_i h;simp only [jF,zHN,decide_eq_true h,Bool.true_or,Bool.or_true,if_true]
 ·exact yJ.intro ⟨zbH _,zI _,rfl⟩
 all_goals try
  (have ht:zCm n (l.getD x.1 (0,0,0))=false:=zP6 (by omega)
   (simp only [ht,Bool.false_eq_true,if_false,zN,List.length_singleton]) <;>
   (refine yJ.intro ⟨by omega,by omega,?_⟩;rw [hx.2.2,zBU (0,0,0) (by assumption),zHq,ht];simp;done))
 all_goals try
  (have ht:zCm n (l.getD x.1 (0,0,0))=true:=zG0 (by omega)
   (simp only [ht,if_true]) <;>
   (refine yJ.intro ⟨by omega,by omega,?_⟩;rw [hx.2.2,zBU (0,0,0) (by assumption),zHq,ht];simp;done))
 all_goals
  have e:jF (n,l)=x.2:=by
   have hb:zHN (n,l)=false:=by simp only [zHN,Bool.or_eq_false_iff,yM];omega
   simp only [jF,hb,Bool.false_eq_true,if_false];rw [hx.2.2,zE9 (by assumption)];simp [zHq]
  rw [e]
def zQD:List AV->Option zKQ:=zEz qP (fun s=>some (none,none,.s (.own 0 0 (jF s).length),[.row zB0 165 (jF s)]))
theorem zVF:zDM prog 131 zQD:=zaw (zCC fun s r h=>by cases h;exact fbF (fn:=[]) trivial func131 fun _ _=>zVu s.1 s.2) func131
end S9
namespace S9
open S1
@[irreducible] def ptR (k:Int) (t u:P3):Bool:=(k==3&&zJb t u)|| (k==4&&(zFd u t.1&&(zFd u t.2.1&&zFd u t.2.2)))
def prG (l:List P3) (k:Int) (b a:Nat):Option Wit:=if ptR k (l.getD a (0,0,0)) (l.getD b (0,0,0)) then some (k,(a:Int),(b:Int)) else none
def prI (l:List P3) (k:Int) (b a:Nat):List Wit:=(List.range a).filterMap (prG l k b)
def prO (l:List P3) (k:Int) (b:Nat):List Wit:=(List.range b).flatMap fun b=>prI l k b b
theorem zMR (l:List P3) (k:Int) (b a:Nat):prI l k b (a+1)=prI l k b a++(prG l k b a).toList:=by
 unfold prI;rw [List.range_succ,List.filterMap_append];simp only [List.filterMap_cons,List.filterMap_nil];cases prG l k b a<;>rfl
theorem zRe (l:List P3) (k:Int) (b:Nat):prO l k (b+1)=prO l k b++prI l k b b:=by
 unfold prO;rw [List.range_succ,List.flatMap_append];simp
theorem zVB (l:List P3) (k:Int) (b a:Nat):(prI l k b a).length<=a:=by
 unfold prI;exact zb0 (List.length_filterMap_le _ _) (by simp)
theorem zWA (l:List P3) (k:Int): ∀ b:Nat,b<=8192->(prO l k b).length<=b*8192
 | 0,_=>by simp [prO]
 | b+1,h=>by
   rw [zRe,zN];have:=zWA l k b (by omega);have:=zVB l k b b;omega
def zFJ (l:List P3) (k:Int):Spec Nat where
 inv b:=b<=l.length
 live b:=[(6,.s (.int .i64 b)),(5,.s (.own 2 0 (prO l k b).length))]
 keep:=[1,2]
 heap b:=[(2,.row zB0 165 (prO l k b))]
 keepH:=[0]
 mu b:=l.length - b
def zFE (l:List P3) (k:Int) (b:Nat):Spec Nat where
 inv a:=a<=b
 live a:=[(7,.s (.int .i64 a)),(5,.s (.own 2 0 (prO l k b++prI l k b a).length))]
 keep:=[1,2,6]
 heap a:=[(2,.row zB0 165 (prO l k b++prI l k b a))]
 keepH:=[0]
 mu a:=b - a
theorem zTw (n:Int) (l:List P3) (k:Int) (hl:l.length<=8192):zFB ⟨tyL,[(159,zQY),(133,zQI)],[]⟩ f132 [qP.av (n,l),(ETy.int .i64).av k] (fun v obs=>v= .s (.own 0 0 (prO l k l.length).length)/\obs=[.row zB0 165 (prO l k l.length)]):=by
 repeat' (conv=>whnf
          first|done|refine qy ?_|refine qG fun _=> ?_|refine qw (fun _=> ?_) (fun _=> ?_)|apply qt|refine qi (fun _=> ?_) (fun _=> ?_)|(refine zaB 3 rfl (zFJ l k) (0) ?_ ?_ ?_ fun b hb=> ?_)|with_reducible refine zaA (zFJ _ _) (b+1) ?_ ?_ ?_ ?_|(refine zaB 6 rfl (zFE l k b) (0) ?_ ?_ ?_ fun a ha=> ?_)|with_reducible refine zaA (zFE _ _ _) (a+1) ?_ ?_ ?_ ?_|refine qu ?_|refine qv ?_ ?_|exact zO)
 all_goals try first|refine qz ?_|apply qz5
 all_goals try simp only [qn0,z7,zX,ETy.dflt,Int.reduceToNat,Int.reduceAdd,Int.reduceSub,Int.reduceNeg,Nat.reduceAdd,zFJ,zFE] at *
 all_goals try (refine yJ.intro ?_;omega)
 all_goals try
  (have h1:=zWA l k b (by omega)
   have h2:=zVB l k b a
   refine yJ.intro ?_;rw [zN];omega)
 all_goals try (simp [prI];done)
 all_goals try (exfalso;omega)
 all_goals try
  (have hp:ptR k (l.getD a (0,0,0)) (l.getD b (0,0,0))=true:=by unfold ptR;simp only [*];simp
   rw [zMR,prG,if_pos hp];simp [zbi];done)
 all_goals try
  (have hp:ptR k (l.getD a (0,0,0)) (l.getD b (0,0,0))=false:=by unfold ptR;simp only [*];simp [*]
   rw [zMR,prG,if_neg (by rw [hp];decide)];simp;done)
 all_goals try
  (have hp:ptR k (l.getD a (0,0,0)) (l.getD b (0,0,0))=false:=by
    unfold ptR;rw [beq_false_of_ne (by assumption:k≠3),beq_false_of_ne (by assumption:k≠4)];rfl
   rw [zMR,prG,if_neg (by rw [hp];decide)];simp;done)
 all_goals try
  (have e:a=b:=by omega
   subst e;rw [zRe])
 all_goals
  have e:b=l.length:=by omega
  rw [e]
def zP3:List AV->Option zKQ:=zCr qP (.int .i64) (fun s k=>some (none,some (s.2.length<=8192),.s (.own 0 0 (prO s.2 k s.2.length).length),[.row zB0 165 (prO s.2 k s.2.length)]))
theorem zXe:zDM prog 132 zP3:=zaw (zSK fun s k r h=>by cases h;exact fbF (by exact ⟨zVj,zPc,trivial⟩) func132 fun _ h=>zTw s.1 s.2 k h) func132
def zAX (l:List P3) (v:Int):List P3:=l.filter (zFd · v)
def tch (v w:Int) (u:P3):Bool:=decide (w≠v)&&zFd u w
@[irreducible] def touch (m:List P3) (v:Int) (i k:Nat):Bool :=
  tch v (m.getD i (0,0,0)).1 (m.getD k (0,0,0))|| (tch v (m.getD i (0,0,0)).2.1 (m.getD k (0,0,0))|| tch v (m.getD i (0,0,0)).2.2 (m.getD k (0,0,0)))
def pk (m:List P3) (v:Int) (i:Nat) (s:List Bool) (k:Nat):List Bool:=if s.getD i false=false\/s.getD k false=true then s else if touch m v i k then s.set k true else s
def zH5 (m:List P3) (v:Int) (i:Nat) (s:List Bool) (k:Nat):List Bool:=(List.range k).foldl (pk m v i) s
def zGm (m:List P3) (v:Int) (s:List Bool) (i:Nat):List Bool:=(List.range i).foldl (fun s i=>zH5 m v i s m.length) s
def zF9 (m:List P3) (v:Int) (r:Nat):List Bool:=(List.range r).foldl (fun s _=>zGm m v s m.length) ((List.replicate m.length false).set 0 true)
@[irreducible] def zFI (l:List P3) (v:Int):Bool:= !(List.range (zAX l v).length).all fun j=>(zF9 (zAX l v) v (zAX l v).length).getD j false
theorem zAq (m:List P3) (v:Int) (i:Nat) (s:List Bool) (k:Nat):zH5 m v i s (k+1)=pk m v i (zH5 m v i s k) k:=by
 unfold zH5;rw [List.range_succ,zbm];rfl
theorem zCM (m:List P3) (v:Int) (s:List Bool) (i:Nat):zGm m v s (i+1)=zH5 m v i (zGm m v s i) m.length:=by
 unfold zGm;rw [List.range_succ,zbm];rfl
theorem zBb (m:List P3) (v:Int) (r:Nat):zF9 m v (r+1)=zGm m v (zF9 m v r) m.length:=by
 unfold zF9;rw [List.range_succ,zbm];rfl
theorem zEx (l:List P3) (v:Int) {i:Nat} (h:(i:Int)<l.length):zAX (l.take (i+1)) v=zAX (l.take i) v++(if zFd (l.getD i (0,0,0)) v then [l.getD i (0,0,0)] else []):=by
 have h:i<l.length:=by omega
 unfold zAX;rw [List.take_add_one,zbx,zR,zG h];simp only [Option.toList_some,zbU,zcI,List.filter_nil]
theorem zUC (l:List P3) (v:Int) (i:Nat):(zAX (l.take i) v).length<=l.length:=by
 unfold zAX;exact zb0 (zcC _ _) (by simp;omega)
theorem zM2 {s:List Bool} {i k:Nat} (h1:s.getD i false=true) (h2:s.getD k false=false): ¬ (s.getD i false=false\/s.getD k false=true):=by
 rw [h1,h2];decide
theorem z5Q {m:List P3} {v:Int} {i k:Nat} (h:((m.getD i (0,0,0)).1≠v/\zFd (m.getD k (0,0,0)) (m.getD i (0,0,0)).1=true)\/((m.getD i (0,0,0)).2.1≠v/\zFd (m.getD k (0,0,0)) (m.getD i (0,0,0)).2.1=true)\/
 ((m.getD i (0,0,0)).2.2≠v/\zFd (m.getD k (0,0,0)) (m.getD i (0,0,0)).2.2=true)):touch m v i k=true:=by
 unfold touch tch;simp only [zbA,zC,zP];exact h
theorem z3C {m:List P3} {v:Int} {i k:Nat} (h1:(m.getD i (0,0,0)).1=v\/zFd (m.getD k (0,0,0)) (m.getD i (0,0,0)).1=false) (h2:(m.getD i (0,0,0)).2.1=v\/zFd (m.getD k (0,0,0)) (m.getD i (0,0,0)).2.1=false)
 (h3:(m.getD i (0,0,0)).2.2=v\/zFd (m.getD k (0,0,0)) (m.getD i (0,0,0)).2.2=false): ¬ touch m v i k=true:=by
 have key: ∀ {w:Int} {u:P3},w=v\/zFd u w=false->¬ (w≠v/\zFd u w=true):=by
  rintro w u (h|h) ⟨a,b⟩
  ·exact a h
  ·rw [h] at b;cases b
 unfold touch tch;simp only [zbA,zC,zP];rintro (h|h|h)
 ·exact key h1 h
 ·exact key h2 h
 ·exact key h3 h
def zJZ (l:List P3) (v:Int):Spec Nat where
 inv i:=i<=l.length
 live i:=[(6,.s (.int .i64 i)),(5,.s (.own 1 0 (zAX (l.take i) v).length))]
 keep:=[1,2]
 heap i:=[(1,.row .arr3 86 (zAX (l.take i) v))]
 keepH:=[0]
 mu i:=l.length - i
def zIJ (m:List P3) (v:Int):Spec Nat where
 inv r:=r<=m.length
 live r:=[(45,.s (.int .i64 r))]
 keep:=[1,5,7,44]
 heap r:=[(2,.row .bool 4 (zF9 m v r))]
 keepH:=[1]
 mu r:=m.length - r
def zWX (m:List P3) (v:Int) (s:List Bool):Spec Nat where
 inv i:=i<=m.length
 live i:=[(8,.s (.int .i64 i))]
 keep:=[1,5,7,44,45]
 heap i:=[(2,.row .bool 4 (zGm m v s i))]
 keepH:=[1]
 mu i:=m.length - i
def zXn (m:List P3) (v:Int) (i:Nat) (s:List Bool):Spec Nat where
 inv k:=k<=m.length
 live k:=[(9,.s (.int .i64 k))]
 keep:=[1,5,7,8,44,45]
 heap k:=[(2,.row .bool 4 (zH5 m v i s k))]
 keepH:=[1]
 mu k:=m.length - k
def zXz (n:Nat) (s:List Bool):Spec Nat where
 inv i:=i<=n/\∀ j,j<i->s.getD j false=true
 live i:=[(12,.s (.int .i64 i))]
 keep:=[1,5,7]
 heap _:=[]
 keepH:=[1,2]
 mu i:=n - i
theorem zWC (n:Int) (l:List P3) (v:Int) (hl:l.length<=8192):zAG ⟨tyL,[(133,zQI)],[]⟩ f134 [qP.av (n,l),(ETy.int .i64).av v] (fun r=>r= .s (.bool (zFI l v))):=by
 repeat' (conv=>whnf
          first|done|refine qy ?_|refine qG fun _=> ?_|refine qw (fun _=> ?_) (fun _=> ?_)|apply qt|refine qi (fun _=> ?_) (fun _=> ?_)|(refine zaB 3 rfl (zJZ l v) (0) ?_ ?_ ?_ fun i hi=> ?_)|with_reducible refine zaA (zJZ _ _) (i+1) ?_ ?_ ?_ ?_|(refine zaB 12 rfl (zIJ (zAX (l.take i) v) v) (0) ?_ ?_ ?_ fun r hr=> ?_)|with_reducible refine zaA (zIJ _ _) (r+1) ?_ ?_ ?_ ?_|(refine zaB 14 rfl (zWX (zAX (l.take i) v) v (zF9 (zAX (l.take i) v) v r)) (0) ?_ ?_ ?_ fun x hx=> ?_)|with_reducible refine zaA (zWX _ _ _) (x+1) ?_ ?_ ?_ ?_|(refine zaB 17 rfl (zXn (zAX (l.take i) v) v x (zGm (zAX (l.take i) v) v (zF9 (zAX (l.take i) v) v r) x)) (0) ?_ ?_ ?_ fun k hk=> ?_)|with_reducible refine zaA (zXn _ _ _ _) (k+1) ?_ ?_ ?_ ?_|(refine qS 21 rfl ?_;refine Or.inl (zB (4) ?_))|(refine zaB 28 rfl (zXz (zAX (l.take i) v).length (zF9 (zAX (l.take i) v) v r)) (0) ?_ ?_ ?_ fun y hy=> ?_)|with_reducible refine zaA (zXz _ _) (y+1) ?_ ?_ ?_ ?_|refine qu ?_|refine qv ?_ ?_|exact zO)
 all_goals try first|refine qz ?_|apply qz5
 all_goals try simp only [qn0,z7,zX,ETy.dflt,Int.reduceToNat,Int.reduceAdd,Int.reduceSub,Int.reduceNeg,Nat.reduceAdd,zJZ,zIJ,zWX,zXn,zXz] at *
 all_goals try (refine yJ.intro ?_;omega)
 all_goals try rfl
 all_goals try
  (have h:=zUC l v i
   refine yJ.intro ?_;omega)
 all_goals try (rw [zAq,pk,if_pos (Or.inl (by assumption))];done)
 all_goals try (rw [zAq,pk,if_pos (Or.inr (by assumption))];done)
 all_goals try (rw [zAq,pk,if_neg (zM2 (by assumption) (by assumption)),if_pos (z5Q (by first|exact .inl ⟨by assumption,by assumption⟩|exact .inr (.inl ⟨by assumption,by assumption⟩)|exact .inr (.inr ⟨by assumption,by assumption⟩)))];(try simp only [List.set_set]);done)
 all_goals try (rw [zAq,pk,if_neg (zM2 (by assumption) (by assumption)),if_neg (z3C (by first|exact .inl (by assumption)|exact .inr (by assumption)) (by first|exact .inl (by assumption)|exact .inr (by assumption)) (by first|exact .inl (by assumption)|exact .inr (by assumption)))];done)
 all_goals try
  (have e:k=(zAX (l.take i) v).length:=by omega
   rw [zCM,<- e];done)
 all_goals try
  (have e:x=(zAX (l.take i) v).length:=by omega
   rw [zBb,<- e];done)
 ·rw [zEx _ _ (by assumption),if_pos (by assumption)];simp
 ·rw [zEx _ _ (by assumption),if_pos (by assumption)]
 ·rw [zEx _ _ (by assumption),if_neg (by rw [‹zFd _ _=false›];decide)];simp
 ·rw [zEx _ _ (by assumption),if_neg (by rw [‹zFd _ _=false›];decide)];simp
 ·have e:l.take i=l:=zbT (by omega);rename_i h;rw [e] at h;have h:(zAX l v).length=0:=by omega
  unfold zFI;rw [h];rfl
 ·exact yJ.intro ⟨zbH _,fun j hj=>absurd hj (by omega)⟩
 ·refine yJ.intro ⟨by omega,fun j hj=> ?_⟩
  by_cases e:j=y
  ·subst e;assumption
  ·exact hy.2 j (by omega)
 all_goals
  have e:l.take i=l:=zbT (by omega);have er:r=(zAX (l.take i) v).length:=by omega
  rw [er] at hy;rw [e] at hy
 ·rename_i h;have hyl:y<(zAX l v).length:=by rw [<- e];omega
  rw [er,e] at h;unfold zFI;symm;rw [zbB,<- zbV,zJ];intro hh;rw [hh y (zV.2 hyl)] at h;cases h
 ·rename_i h;rw [e] at h;have hyl:(zAX l v).length<=y:=by omega
  unfold zFI;symm;rw [Bool.not_eq_false',zJ];intro j hj;exact hy.2 j (by have:=zV.1 hj;omega)
def zPi:List AV->Option Res:=zCr qP (.int .i64) (fun s v=>some (none,some (s.2.length<=8192),.s (.bool (zFI s.2 v))))
theorem zYT:qM prog 134 zPi:=mkR (jD fun s v r h=>by cases h;exact fb (by exact ⟨zPc,trivial⟩) func134 fun _ h=>zWC s.1 s.2 v h) func134
end S9
