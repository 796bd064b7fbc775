/- A part of the proofs of the laws. -/
import Derived.Test.YtlhoihabllompaaGreatW4toY3
import Derived.Test.YtlhoihabllompaaGreatVmRng3toF5
import Derived.Test.YtlhoihabllompaaGreatH1toG1
import Derived.Test.YtlhoihabllompaaGreatT22toF5a
set_option linter.unusedSimpArgs false
set_option linter.unusedVariables false
set_option maxHeartbeats 8000000
set_option maxRecDepth 100000
open Go Go.Vm Go.Proofs
namespace S1
structure Iso (s s':Int×List P3) (r:Int->Int):Prop where
 len:s'.2.length=s.2.length
 rng: ∀ v,InN s.1 v->InN s'.1 (r v)
 inj: ∀ v w,InN s.1 v->InN s.1 w->r v=r w->v=w
 sur: ∀ u,InN s'.1 u->∃ v,InN s.1 v/\r v=u
 has: ∀ i,i<s.2.length->∀ v,InN s.1 v->(z8 (tg s'.2 i) (r v)↔z8 (tg s.2 i) v)
theorem zGu (p:P3->Bool): ∀ l:List P3,(l.filter p).length=((List.range l.length).filter fun i=>p (tg l i)).length
 | []=>rfl
 | t ::l=>by
   rw [yA,List.range_succ_eq_map,List.filter_cons,List.filter_cons,List.filter_map];have ih:=zGu p l
   have e:((fun i=>p (tg (t::l) i)) ∘ Nat.succ)=fun i=>p (tg l i):=by
    funext i;show p (tg (t::l) (i+1))=_;unfold tg;rw [List.getD_cons_succ]
   rw [e];show _=(if p t=true then _ else _:List Nat).length;split<;>simp only [yA,yV,ih]
theorem zTQ {p q:Nat->Bool} {n:Nat} (h: ∀ i,i<n->p i=q i):((List.range n).filter p).length=((List.range n).filter q).length:=by
 rw [List.filter_congr fun i hi=>h i (zV.1 hi)]
theorem zGa {x:yI.T} (g:Full x) (hs:jV (InN x.1.1) x.1.2) {a b:Int} (hn:zAQ x a b=true):(zDf x a b).length=(x.1.2.filter (both a b)).length:=by
 rw [z1P g hs hn]
 have hk:qJ x (a,b)>=0\/qJ x (b,a)>=0:=by
  unfold zAQ at hn;rw [Bool.or_eq_true,zP,zP] at hn;exact hn
 by_cases h1:qJ x (a,b)>=0
 ·obtain ⟨c,c1,c2⟩:=zED.1 ((zCk g).1 h1);have e:=g.facing c1;rw [c2] at e;have eo:zAI x (qJ x (a,b))=qJ x (b,a):=by rw [e];unfold zAI;rw [c2]
  rw [eo];unfold zDf
  by_cases h2:qJ x (b,a)>=0
  ·rw [if_pos h1,if_pos h2,if_neg (by omega)];rfl
  ·rw [if_pos h1,if_neg h2,if_pos (by omega)];rfl
 ·unfold zDf;rw [if_neg h1,if_pos (hk.resolve_left h1),if_pos (.inl (by omega))];rfl
theorem z54 {x:yI.T} (g:Full x) {a b v:Int} (hab:a≠b):v∈zDf x a b↔v≠a/\v≠b/\∃ t∈x.1.2,z8 t a/\z8 t b/\z8 t v:=by
 have one: ∀ {p q:Int},qJ x (p,q)>=0->yS x (qJ x (p,q))≠p/\yS x (qJ x (p,q))≠q:=fun {p q} h=>by
  obtain ⟨c,c1,c2⟩:=zED.1 ((zCk g).1 h);have e:=g.facing c1;rw [c2] at e;obtain ⟨n1,n2,_⟩:=g.toGood.ne c1;have e2:(yS x (qY x c),yS x (qV x c))=(p,q):=c2;have f1:yS x (qY x c)=p:=congrArg Prod.fst e2;have f2:yS x (qV x c)=q:=congrArg Prod.snd e2;rw [f1] at n1;rw [f2] at n2;rw [e];exact ⟨n1,n2⟩
 constructor
 ·intro h;refine ⟨?_,?_,zWu g h⟩
  ·unfold zDf at h;rcases yD.1 h with h|h<;>split at h
   ·rw [zF.1 h];exact (one (by assumption)).1
   ·cases h
   ·rw [zF.1 h];exact (one (by assumption)).2
   ·cases h
  ·unfold zDf at h;rcases yD.1 h with h|h<;>split at h
   ·rw [zF.1 h];exact (one (by assumption)).2
   ·cases h
   ·rw [zF.1 h];exact (one (by assumption)).1
   ·cases h
 ·rintro ⟨va,vb,t,ht,ha,hb,hv⟩;obtain ⟨j,hj,ej⟩:=zAO ht
  have key: ∀ {p q:Int},dE t p q->v≠p->v≠q->qJ x (p,q)>=0/\yS x (qJ x (p,q))=v:=fun {p q} hd vp vq=>by
   rw [<- ej] at hd hv;obtain ⟨c,c1,c2,c3⟩:=zHH hj hd;have e:=g.facing c1;rw [c2] at e;have e2:(yS x (qY x c),yS x (qV x c))=(p,q):=c2;refine ⟨by rw [e];exact (yH.1 c1).1,?_⟩;rw [e];rcases z7v c1 (by rw [c3];exact hv) with k|k|k
   ·exact k.symm
   ·exact absurd (k.trans (congrArg Prod.fst e2)) vp
   ·exact absurd (k.trans (congrArg Prod.snd e2)) vq
  unfold zDf;rcases zCy hab ha hb with hd|hd
  ·obtain ⟨k1,k2⟩:=key hd va vb;exact List.mem_append_left _ (by rw [if_pos k1,k2];exact zF.2 rfl)
  ·obtain ⟨k1,k2⟩:=key hd vb va;exact List.mem_append_right _ (by rw [if_pos k1,k2];exact zF.2 rfl)
theorem zGi {x:yI.T} (g:Full x) {v:Int} (hv:InN x.1.1 v):zAY x v=true↔∀ w,zAQ x v w=true->(zDf x v w).length=2:=by
 constructor
 ·intro hi w hw;obtain ⟨c,c1,c2,c3⟩:=zTK g hi hw;obtain ⟨_,h2,h3⟩:=g.opp c3;rw [c2] at h3;exact zHo g (zED.2 ⟨c,c1,c2⟩) (zED.2 ⟨_,h2,h3⟩)
 ·intro h;refine (zDx g).2 ⟨hv,fun ⟨w,hw⟩=> ?_⟩;obtain ⟨e1,e2⟩:=(zHJ g).1 hw
  have hn:zAQ x v w=true:=by
   unfold zAQ;rw [Bool.or_eq_true,zP,zP];exact .inr ((zCk g).2 e1)
  have:=h w hn;unfold zDf at this;rw [if_neg (fun k=>e2 ((zCk g).1 k)),if_pos ((zCk g).2 e1)] at this;cases this
theorem zWh {x:yI.T} (g:Full x) (hs:jV (InN x.1.1) x.1.2) {i j:Nat} :Adj x i j↔i<x.1.2.length/\j<x.1.2.length/\i≠j/\∃ p q,p≠q/\(z8 (tg x.1.2 i) p/\z8 (tg x.1.2 i) q)/\z8 (tg x.1.2 j) p/\z8 (tg x.1.2 j) q:=by
 rw [zLF g];constructor
 ·rintro ⟨hi,hj,p,q,h1,h2⟩;refine ⟨hi,hj,fun e=> ?_,p,q,zNw (hs.deg _ (qI hi)) h1,jN h1,(jN h2).symm⟩;subst e;exact zEM (hs.deg _ (qI hi)) h1 h2
 ·rintro ⟨hi,hj,hij,p,q,hpq,⟨a1,a2⟩,b1,b2⟩;have ne:tg x.1.2 i≠tg x.1.2 j:=fun e'=>hij (zDg hs.nd hi hj e');refine ⟨hi,hj,?_⟩;rcases zCy hpq a1 a2 with a|a<;>rcases zCy hpq b1 b2 with b|b
  ·exact absurd b (hs.dif _ (qI hi) _ (qI hj) ne _ _ a)
  ·exact ⟨_,_,a,b⟩
  ·exact ⟨_,_,a,b⟩
  ·exact absurd b (hs.dif _ (qI hi) _ (qI hj) ne _ _ a)
def z0B (l:List P3) (i:Nat):Prop:= ∀ p q,p≠q->z8 (tg l i) p->z8 (tg l i) q->∃ j,j<l.length/\j≠i/\z8 (tg l j) p/\z8 (tg l j) q
theorem zZm {x:yI.T} (g:Full x) (hs:jV (InN x.1.1) x.1.2) {i:Nat} (hi:i<x.1.2.length):(∃ d:Nat,d<3/\zAI x (3*i+d)<0)↔¬ z0B x.1.2 i:=by
 have hH: ∀ d:Nat,d<3->j6 x (3*(i:Int)+d)=true:=fun d hd=>yH.2 ⟨by omega,by omega⟩;constructor
 ·rintro ⟨d,hd,ho⟩ hc;have h1:=hH d hd;have k:=zFH h1;rw [show ((3*(i:Int)+d) / 3).toNat=i by omega] at k;have hv:=jN k.2;have hne:=g.ends _ h1;obtain ⟨j,hj,hji,b1,b2⟩:=hc _ _ hne hv.1 hv.2;have ne:tg x.1.2 i≠tg x.1.2 j:=fun e'=>hji (zDg hs.nd hi hj e').symm;rcases zCy hne b1 b2 with b|b
  ·exact hs.dif _ (qI hi) _ (qI hj) ne _ _ k.2 b
  ·obtain ⟨c,c1,c2,_⟩:=zHH hj b;have:=g.opp_is c1 (c:=3*(i:Int)+d) c2;have:=(yH.1 c1).1;omega
 ·intro hc;apply yF;intro hn;refine hc fun p q hpq hp hq=> ?_
  have one: ∀ {p q:Int},dE (tg x.1.2 i) p q->∃ j,j<x.1.2.length/\j≠i/\z8 (tg x.1.2 j) p/\z8 (tg x.1.2 j) q:=fun {p q} hd=>by
   obtain ⟨c,c1,c2,c3⟩:=zHH hi hd;have hc3: ∃ d:Nat,d<3/\c=3*(i:Int)+d:=⟨(c - 3*i).toNat,by have:=yH.1 c1;omega,by have:=yH.1 c1;omega⟩;obtain ⟨d,hd3,ed⟩:=hc3
   have ho:0<=zAI x c:=by
    apply yF;intro k;exact hn ⟨d,hd3,by rw [<- ed];omega⟩
   obtain ⟨_,h2,h3⟩:=g.opp ho;have k2:=zFH h2;rw [h3,c2] at k2;refine ⟨_,k2.1,fun e=> ?_,(jN k2.2).2,(jN k2.2).1⟩;rw [e] at k2;exact zEM (hs.deg _ (qI hi)) hd k2.2
  rcases zCy hpq hp hq with hd|hd
  ·exact one hd
  ·obtain ⟨j,j1,j2,j3,j4⟩:=one hd;exact ⟨j,j1,j2,j4,j3⟩
theorem zX6 {x:yI.T} (g:Full x) (hs:jV (InN x.1.1) x.1.2) {a:Int} (ha:InN x.1.1 a) {i0:Nat} (h0:i0<x.1.2.length) (hv:z8 (tg x.1.2 i0) a) :
 (∀ i,i<x.1.2.length->((ofR x).getD i 0=smM x a↔zJ5 (Adj x) i0 i)):=fun i hi=>by
 obtain ⟨c1,c2⟩:=g.vtx a ha.1 ha.2;have kt:=zAw c1;rw [c2] at kt
 have hlab:(ofR x).getD i0 0=smM x a:=by
  unfold smM;exact (zGP g h0 kt.1).2 (zFn g h0 kt.1 hv kt.2 hs)
 rw [<- hlab,eq_comm];exact zGP g h0 hi
section
variable {s s':Int×List P3} {r:Int->Int}
theorem Iso.rev (f:Iso s s' r) (hs:zBK s) (hs':zBK s') {i:Nat} (hi:i<s.2.length) {u:Int} (h:z8 (tg s'.2 i) u): ∃ v,InN s.1 v/\r v=u/\z8 (tg s.2 i) v:=by
 have hm:=zAc hs';have hu:=hm.ent _ (qI (l:=s'.2) (by rw [f.len];exact hi)) u h;obtain ⟨v,hv,e⟩:=f.sur u hu;exact ⟨v,hv,e,(f.has i hi v hv).1 (by rw [e];exact h)⟩
theorem Iso.inn (f:Iso s s' r) (hs:zBK s) (hs':zBK s') {i:Nat} (hi:i<s.2.length) {v:Int} (h:z8 (tg s.2 i) v):InN s.1 v:=(zAc hs).ent _ (qI hi) v h
theorem Iso.bothN (f:Iso s s' r) (hs:zBK s) (hs':zBK s') {a b:Int} (ha:InN s.1 a) (hb:InN s.1 b):(s'.2.filter (both (r a) (r b))).length=(s.2.filter (both a b)).length:=by
 rw [zGu,zGu,f.len];refine zTQ fun i hi=> ?_;rw [Bool.eq_iff_iff,zBk,zBk,f.has i hi a ha,f.has i hi b hb]
theorem Iso.near (f:Iso s s' r) (hs:zBK s) (hs':zBK s') {a b:Int} (ha:InN s.1 a) (hb:InN s.1 b):zAQ (zAa s') (r a) (r b)=zAQ (zAa s) a b:=by
 obtain ⟨_,g,e⟩:=zAu hs;obtain ⟨_,g',e'⟩:=zAu hs'
 by_cases hab:a=b
 ·subst hab;rw [zCN g.toGood,zCN g'.toGood]
 ·rw [Bool.eq_iff_iff,zBj g hab,zBj g' (fun k=>hab (f.inj _ _ ha hb k)),e,e'];constructor
  ·rintro ⟨t,ht,h1,h2⟩;obtain ⟨i,hi,ei⟩:=zAO ht;rw [f.len] at hi;rw [<- ei] at h1 h2;exact ⟨_,qI hi,(f.has i hi a ha).1 h1,(f.has i hi b hb).1 h2⟩
  ·rintro ⟨t,ht,h1,h2⟩;obtain ⟨i,hi,ei⟩:=zAO ht;rw [<- ei] at h1 h2;exact ⟨_,qI (l:=s'.2) (by rw [f.len];exact hi),(f.has i hi a ha).2 h1,(f.has i hi b hb).2 h2⟩
theorem Iso.facN (f:Iso s s' r) (hs:zBK s) (hs':zBK s') {a b:Int} (ha:InN s.1 a) (hb:InN s.1 b) (hn:zAQ (zAa s) a b=true):(zDf (zAa s') (r a) (r b)).length=(zDf (zAa s) a b).length:=by
 obtain ⟨_,g,e⟩:=zAu hs;obtain ⟨_,g',e'⟩:=zAu hs';have hm:=zAc (s:=(zAa s).1) (by rw [e];exact hs);have hm':=zAc (s:=(zAa s').1) (by rw [e'];exact hs');rw [zGa g hm hn,zGa g' hm' ((f.near hs hs' ha hb).trans hn),e,e'];exact f.bothN hs hs' ha hb
theorem Iso.inner (f:Iso s s' r) (hs:zBK s) (hs':zBK s') {v:Int} (hv:InN s.1 v):zAY (zAa s') (r v)=zAY (zAa s) v:=by
 obtain ⟨_,g,e⟩:=zAu hs;obtain ⟨_,g',e'⟩:=zAu hs';rw [Bool.eq_iff_iff,zGi g (by rw [e];exact hv),zGi g' (by rw [e'];exact f.rng v hv)];constructor
 ·intro h w hw;have hw2:=(zLk g.toGood hw).2;rw [e] at hw2;rw [<- f.facN hs hs' hv hw2 hw];exact h _ ((f.near hs hs' hv hw2).trans hw)
 ·intro h w' hw;have hw2:=(zLk g'.toGood hw).2;rw [e'] at hw2;obtain ⟨w,hwn,rfl⟩:=f.sur w' hw2;have hw:=(f.near hs hs' hv hwn).symm.trans hw;rw [f.facN hs hs' hv hwn hw];exact h w hw
theorem Iso.com (f:Iso s s' r) (hs:zBK s) (hs':zBK s') {a b v:Int} (ha:InN s.1 a) (hb:InN s.1 b) (hv:InN s.1 v):r v∈zGc (zAa s') (r a) (r b)↔v∈zGc (zAa s) a b:=by
 obtain ⟨_,g,e⟩:=zAu hs;obtain ⟨_,g',e'⟩:=zAu hs';rw [zMf g,zMf g',f.near hs hs' ha hv,f.near hs hs' hb hv];exact and_congr_left fun _=>⟨fun k e=>k (congrArg r e),fun k e=>k (f.inj _ _ ha hb e)⟩
theorem Iso.shut (f:Iso s s' r) (hs:zBK s) (hs':zBK s') {i:Nat} (hi:i<s.2.length):z0B s'.2 i↔z0B s.2 i:=by
 constructor
 ·intro h p q hpq a1 a2;have hp:=f.inn hs hs' hi a1;have hq:=f.inn hs hs' hi a2;obtain ⟨j,j1,j2,j3,j4⟩:=h (r p) (r q) (fun k=>hpq (f.inj _ _ hp hq k)) ((f.has i hi p hp).2 a1) ((f.has i hi q hq).2 a2);rw [f.len] at j1;exact ⟨j,j1,j2,(f.has j j1 p hp).1 j3,(f.has j j1 q hq).1 j4⟩
 ·intro h p q hpq a1 a2;obtain ⟨p0,hp,rfl,p1⟩:=f.rev hs hs' hi a1;obtain ⟨q0,hq,rfl,q1⟩:=f.rev hs hs' hi a2;obtain ⟨j,j1,j2,j3,j4⟩:=h p0 q0 (fun k=>hpq (congrArg r k)) p1 q1;exact ⟨j,by rw [f.len];exact j1,j2,(f.has j j1 p0 hp).2 j3,(f.has j j1 q0 hq).2 j4⟩
end
end S1
open Go Go.Vm Go.Proofs
namespace S1
def zS3 (l:List P3) (p q r:Int):Prop:= ∃ t∈l,z8 t p/\z8 t q/\z8 t r
def z20 (l:List P3) (v:Int):Prop:= ∀ w,w≠v->(∃ t∈l,z8 t v/\z8 t w)->(l.filter (both v w)).length=2
def z8x (l:List P3) (a:Int):Prop:= ∃ t∈l,z8 t a/\∀ u∈l,u≠t->∀ p q,p≠q->z8 t p->z8 t q->z8 u p->z8 u q->False
def z9V (l:List P3) (a:Int):Prop:= ∃ p q r,a≠p/\a≠q/\a≠r/\p≠q/\p≠r/\q≠r/\zS3 l a p q/\zS3 l a p r/\zS3 l a q r/\zS3 l p q r
structure zBN (l:List P3) (a b:Int):Prop where
 ne:a≠b
 near: ∃ t∈l,z8 t a/\z8 t b
 brd:(l.filter (both a b)).length=2->z20 l a\/z20 l b
 com: ∀ v,v≠a->v≠b->(∃ t∈l,z8 t a/\z8 t v)->(∃ u∈l,z8 u b/\z8 u v)->zS3 l a b v
 one: ¬ z8x l a
 tet: ¬ z9V l a
section
variable {x:yI.T}
theorem zKz (g:Full x) (hs:jV (InN x.1.1) x.1.2) {v:Int} (hv:InN x.1.1 v):zAY x v=true↔z20 x.1.2 v:=by
 rw [zGi g hv];unfold z20;constructor
 ·intro h w hw hn;have k:=(zBj g (a:=v) (v:=w) (Ne.symm hw)).2 hn;rw [<- zGa g hs k];exact h w k
 ·intro h w hw;have ne:v≠w:=fun e=>by subst e;rw [zCN g.toGood] at hw;cases hw
  rw [zGa g hs hw];exact h w ne.symm ((zBj g ne).1 hw)
theorem zTy (g:Full x) (hs:jV (InN x.1.1) x.1.2) {a:Int} (h:z8x x.1.2 a):zB2 x a=true:=by
 obtain ⟨t,ht,ta,hno⟩:=h;obtain ⟨i0,h0,rfl⟩:=zAO ht
 have cnt:=zJG g hs (a:=a) (hs.ent _ ht a ta) (S:=[i0]) (List.nodup_cons.2 ⟨by simp,List.nodup_nil⟩) (by simp) ta (fun i hi=>by rw [zF] at hi;subst hi;exact h0)
  (fun i hi j ha=>by
    rw [zF] at hi;subst hi;exfalso;obtain ⟨_,hj,hij,p,q,hpq,⟨a1,a2⟩,b1,b2⟩:=(zWh g hs).1 ha
    exact hno _ (qI hj) (fun e=>hij (zDg hs.nd h0 hj e.symm)) p q hpq a1 a2 b1 b2)
  (fun i hi=>by rw [zF] at hi;subst hi;exact .refl _)
 unfold zB2;rw [cnt.1];rfl
theorem zXI (g:Full x) (hs:jV (InN x.1.1) x.1.2) {a:Int} (h:z9V x.1.2 a):zB2 x a=true:=by
 obtain ⟨p,q,r,ap,aq,ar,pq,pr,qr,h1,h2,h3,h4⟩:=h;rw [<- Bool.not_eq_false];intro w3;exact zJS g hs w3 ap q r qr aq.symm pq.symm ar.symm pr.symm h3 h4 h1 h2
theorem z5E (g:Full x) (hs:jV (InN x.1.1) x.1.2) {a:Int} (ha:InN x.1.1 a) {t0:P3} (h0:t0∈x.1.2) (hv:z8 t0 a) (h:zB2 x a=true):z8x x.1.2 a\/z9V x.1.2 a:=by
 obtain ⟨i0,hi0,rfl⟩:=zAO h0;have lab:=zX6 g hs ha hi0 hv;have hl:=zMO g.toGood;obtain ⟨C,eC⟩: ∃ C,C=(List.range x.1.2.length).filter fun i=>decide ((ofR x).getD i 0=smM x a):=⟨_,rfl⟩
 have hC: ∀ i,i∈C↔i<x.1.2.length/\zJ5 (Adj x) i0 i:=fun i=>by
  rw [eC,List.mem_filter,zV,zP];exact and_congr_right fun k=>lab i k
 have cnt:(smS x (smM x a) (ofR x).length).1=(C.length:Int):=by rw [zMK,hl,eC]
 have step: ∀ {i j:Nat},i∈C->j<x.1.2.length->i≠j->∀ p q,p≠q->z8 (tg x.1.2 i) p->z8 (tg x.1.2 i) q->z8 (tg x.1.2 j) p->z8 (tg x.1.2 j) q->j∈C:=fun hi hj hij p q hpq a1 a2 b1 b2 =>
  (hC _).2 ⟨hj,.step ((hC _).1 hi).2 ((zWh g hs).2 ⟨((hC _).1 hi).1,hj,hij,p,q,hpq,⟨a1,a2⟩,b1,b2⟩)⟩
 have in0:i0∈C:=(hC i0).2 ⟨hi0,.refl _⟩;have bnd: ∀ S:List Nat,S.Nodup->(∀ i∈S,i∈C)->S.length<=C.length:=fun S hn hS=>zLY S C hn hS;unfold zB2 at h;rw [cnt,Bool.or_eq_true,zC,zP,zP] at h;rcases h with h1|⟨h4,hf⟩
 ·left;refine ⟨_,qI hi0,hv,fun u hu hne p q hpq a1 a2 b1 b2=> ?_⟩;obtain ⟨j,hj,rfl⟩:=zAO hu;have hij:i0≠j:=fun e=>hne (by rw [e])
  have:=bnd [i0,j] (by simp [hij]) (fun i hi=>by
   simp only [zT,List.not_mem_nil,or_false] at hi;rcases hi with e|e<;>subst e
   ·exact in0
   ·exact step in0 hj hij p q hpq a1 a2 b1 b2)
  simp only [yA,List.length_nil] at this;omega
 ·right;have lt: ∀ {i},i∈C->i<x.1.2.length:=fun {i} hi=>((hC i).1 hi).1
  have shut: ∀ i,i∈C->∀ p q,p≠q->z8 (tg x.1.2 i) p->z8 (tg x.1.2 i) q->∃ j,j∈C/\j≠i/\z8 (tg x.1.2 j) p/\z8 (tg x.1.2 j) q:=fun i hi p q hpq a1 a2=>by
   obtain ⟨k1,k2⟩:=(hC i).1 hi
   have hs2:z0B x.1.2 i:=yF fun hn=>by
    obtain ⟨d,hd,ho⟩:=(zZm g hs k1).2 hn;have:(smS x (smM x a) (ofR x).length).2=true:=(zHt x _ _).2 ⟨i,by rw [hl];exact k1,(lab i k1).2 k2,d,hd,ho⟩;rw [this] at hf;cases hf
   obtain ⟨j,hj,hji,b1,b2⟩:=hs2 p q hpq a1 a2;exact ⟨j,step hi hj (Ne.symm hji) p q hpq a1 a2 b1 b2,hji,b1,b2⟩
  have one3: ∀ {i j:Nat},i∈C->j∈C->∀ {u v w:Int},u≠v->u≠w->v≠w->z8 (tg x.1.2 i) u->z8 (tg x.1.2 i) v->z8 (tg x.1.2 i) w->z8 (tg x.1.2 j) u->z8 (tg x.1.2 j) v->z8 (tg x.1.2 j) w->i=j:=fun {i j} hi hj {u v w} uv uw vw a1 a2 a3 b1 b2 b3 =>
   zDg hs.nd (lt hi) (lt hj) (hs.same (qI (lt hi)) (qI (lt hj)) uv uw vw a1 a2 a3 b1 b2 b3)
  obtain ⟨p,hpa⟩:=zRY hv;have ap:=zNw (hs.deg _ (qI hi0)) hpa;have tp:=(jN hpa).2;obtain ⟨q,qa,qp,tq,tall⟩:=zH6 (hs.deg _ (qI hi0)) ap hv tp;obtain ⟨j1,c1,n1,j1a,j1p⟩:=shut i0 in0 a p ap hv tp;obtain ⟨j2,c2,n2,j2a,j2q⟩:=shut i0 in0 a q qa.symm hv tq;obtain ⟨j3,c3,n3,j3p,j3q⟩:=shut i0 in0 p q qp.symm tp tq;have no1: ¬ z8 (tg x.1.2 j1) q:=fun k=>n1 (one3 c1 in0 ap qa.symm qp.symm j1a j1p k hv tp tq);have no2: ¬ z8 (tg x.1.2 j2) p:=fun k=>n2 (one3 c2 in0 ap qa.symm qp.symm j2a k j2q hv tp tq)
  have no3: ¬ z8 (tg x.1.2 j3) a:=fun k=>n3 (one3 c3 in0 ap qa.symm qp.symm k j3p j3q hv tp tq);have d12:j1≠j2:=fun e=>no1 (by rw [e];exact j2q);have d13:j1≠j3:=fun e=>no1 (by rw [e];exact j3q);have d23:j2≠j3:=fun e=>no2 (by rw [e];exact j3p)
  have all: ∀ k,k∈C->k=i0\/k=j1\/k=j2\/k=j3:=fun k hk=>yF fun hn=>by
   rw [not_or,not_or,not_or] at hn;obtain ⟨m0,m1,m2,m3⟩:=hn
   have:=bnd [k,i0,j1,j2,j3] (by simp [m0,m1,m2,m3,n1.symm,n2.symm,n3.symm,d12,d13,d23]) (fun i hi=>by
    simp only [zT,List.not_mem_nil,or_false] at hi
    rcases hi with e|e|e|e|e<;>(subst e;assumption))
   simp only [yA,List.length_nil] at this;omega
  obtain ⟨r,ra,rp,j1r,_⟩:=zH6 (hs.deg _ (qI (lt c1))) ap j1a j1p;have rq:r≠q:=fun e=>no1 (by rw [<- e];exact j1r)
  have not0: ¬ z8 (tg x.1.2 i0) r:=fun k=>by
   rcases tall r k with e|e|e
   ·exact ra e
   ·exact rp e
   ·exact rq e
  obtain ⟨k1,ck1,nk1,k1a,k1r⟩:=shut j1 c1 a r ra.symm j1a j1r
  have e2:k1=j2:=by
   rcases all k1 ck1 with e|e|e|e
   ·exact absurd (by rw [<- e];exact k1r) not0
   ·exact absurd e nk1
   ·exact e
   ·exact absurd (by rw [<- e];exact k1a) no3
  obtain ⟨k2,ck2,nk2,k2p,k2r⟩:=shut j1 c1 p r rp.symm j1p j1r
  have e3:k2=j3:=by
   rcases all k2 ck2 with e|e|e|e
   ·exact absurd (by rw [<- e];exact k2r) not0
   ·exact absurd e nk2
   ·exact absurd (by rw [<- e];exact k2p) no2
   ·exact e
  rw [e2] at k1r;rw [e3] at k2r;exact ⟨p,q,r,ap,qa.symm,ra.symm,qp.symm,rp.symm,rq.symm,⟨_,qI hi0,hv,tp,tq⟩,⟨_,qI (lt c1),j1a,j1p,j1r⟩,⟨_,qI (lt c2),j2a,j2q,k1r⟩,⟨_,qI (lt c3),j3p,j3q,k2r⟩⟩
theorem zKH (g:Full x) (hs:jV (InN x.1.1) x.1.2) {a b:Int} :zDV x a b=0↔zBN x.1.2 a b:=by
 constructor
 ·intro hw;obtain ⟨w1,w2,w3⟩:=zQW hw;have f:=zPy g hs hw;obtain ⟨t,ht,ta,tb⟩:=f.near;have ia:=hs.ent t ht a ta;have ib:=hs.ent t ht b tb;refine ⟨f.ne,f.near,fun h2=> ?_,f.com,fun k=> ?_,fun k=> ?_⟩
  ·rw [<- zKz g hs ia,<- zKz g hs ib];rw [<- zGa g hs w1] at h2;cases e1:zAY x a with
   | true=>exact .inl rfl
   | false =>
     cases e2:zAY x b with
     | true=>exact .inr rfl
     | false=>exact absurd ⟨h2,e1,e2⟩ w2
  ·rw [zTy g hs k] at w3;cases w3
  ·rw [zXI g hs k] at w3;cases w3
 ·intro f;obtain ⟨t,ht,ta,tb⟩:=f.near;have ia:=hs.ent t ht a ta;have ib:=hs.ent t ht b tb;have w1:=(zBj g f.ne).2 f.near
  have c2: ¬ ((zDf x a b).length=2/\zAY x a=false/\zAY x b=false):=fun ⟨k1,k2,k3⟩=>by
   rw [zGa g hs w1] at k1;rcases f.brd k1 with k|k
   ·rw [(zKz g hs ia).2 k] at k2;cases k2
   ·rw [(zKz g hs ib).2 k] at k3;cases k3
  have c3:zTH (zDf x a b) (zGc x a b)=true:=zRa.2 fun v hv=>by
   obtain ⟨_,k1,k2⟩:=(zMf g).1 hv;have va:v≠a:=fun e=>by subst e;rw [zCN g.toGood] at k1;cases k1
   have vb:v≠b:=fun e=>by subst e;rw [zCN g.toGood] at k2;cases k2
   exact (z54 g f.ne).2 ⟨va,vb,f.com v va vb ((zBj g va.symm).1 k1) ((zBj g vb.symm).1 k2)⟩
  have c4:zB2 x a=false:=by
   rw [<- Bool.not_eq_true];intro k;rcases z5E g hs ia ht ta k with k|k
   ·exact f.one k
   ·exact f.tet k
  unfold zDV;rw [w1,if_neg (by simp),if_neg c2,if_neg (by rw [c3];simp),c4];rfl
end
end S1
open Go Go.Vm Go.Proofs
namespace S1
def zAS (l:List P3) (a b c d:Int):Prop:= ∀ t∈l,(z8 t a\/z8 t b)->(z8 t c\/z8 t d)->False
section
variable {V:Int->Prop} {l:List P3} {a b c d:Int}
theorem zRz {t:P3} (h: ¬ z8 t a):phT a b t=t:=by
 unfold z8 at h;rw [not_or,not_or] at h;unfold phT;rw [zLT h.1,zLT h.2.1,zLT h.2.2]
theorem zGN {v:Int} (va:v≠a) (vb:v≠b) (hv: ∀ t∈l,z8 t v->¬ z8 t a/\¬ z8 t b) {t:P3} (tv:z8 t v):t∈zIZ a b l↔t∈l:=by
 rw [zA9];constructor
 ·rintro ⟨u,hu,_,rfl⟩;have uv:=(zCp va vb).1 tv;rw [zRz (hv u hu uv).1];exact hu
 ·intro ht;exact ⟨t,ht,fun k=>(hv t ht tv).1 k.1,zRz (hv t ht tv).1⟩
theorem zIf {l l':List P3} (h:l.Nodup) (h':l'.Nodup) {p:P3->Bool} (k: ∀ t,p t=true->(t∈l'↔t∈l)):(l'.filter p).length=(l.filter p).length :=
 ((List.perm_ext_iff_of_nodup (h'.sublist List.filter_sublist) (h.sublist List.filter_sublist)).2 fun t=>by
   rw [List.mem_filter,List.mem_filter]
   exact ⟨fun ⟨k1,k2⟩=>⟨(k t k2).1 k1,k2⟩,fun ⟨k1,k2⟩=>⟨(k t k2).2 k1,k2⟩⟩).length_eq
theorem zEf {a b:Int} {t:P3} :both a b t=true↔z8 t a/\z8 t b:=by unfold both;rw [zP]
theorem z0a (h:jV V l) (hVa:V a) (hVb:V b) (f:zT1 l a b) (k:zBN l c d) (ap:zAS l a b c d):zBN (zIZ a b l) c d:=by
 have h':=zHx h f hVa hVb;have hc: ∀ t∈l,z8 t c->¬ z8 t a/\¬ z8 t b:=fun t ht k=>⟨fun e=>ap t ht (.inl e) (.inl k),fun e=>ap t ht (.inr e) (.inl k)⟩;have hd: ∀ t∈l,z8 t d->¬ z8 t a/\¬ z8 t b:=fun t ht k=>⟨fun e=>ap t ht (.inl e) (.inr k),fun e=>ap t ht (.inr e) (.inr k)⟩;obtain ⟨t0,h0,t0c,t0d⟩:=k.near;have ca:c≠a:=fun e=>(hc t0 h0 t0c).1 (by rw [<- e];exact t0c);have cb:c≠b:=fun e=>(hc t0 h0 t0c).2 (by rw [<- e];exact t0c)
 have da:d≠a:=fun e=>(hd t0 h0 t0d).1 (by rw [<- e];exact t0d);have db:d≠b:=fun e=>(hd t0 h0 t0d).2 (by rw [<- e];exact t0d);have sc: ∀ {t:P3},z8 t c->(t∈zIZ a b l↔t∈l):=fun {t} tv=>zGN ca cb hc tv;have sd: ∀ {t:P3},z8 t d->(t∈zIZ a b l↔t∈l):=fun {t} tv=>zGN da db hd tv
 have inn: ∀ {v:Int},(∀ {t:P3},z8 t v->(t∈zIZ a b l↔t∈l))->z20 l v->z20 (zIZ a b l) v:=fun {v} sv hi w hw ⟨t,ht,t1,t2⟩=>by
  rw [zIf h.nd h'.nd fun t k=>sv (zEf.1 k).1];exact hi w hw ⟨t,(sv t1).1 ht,t1,t2⟩
 -- what is beside c is no a, no b
 have far: ∀ {t:P3} {v:Int},t∈l->z8 t c->z8 t v->v≠a/\v≠b:=fun {t v} ht tc tv=>⟨fun e=>(hc t ht tc).1 (by rw [<- e];exact tv),fun e=>(hc t ht tc).2 (by rw [<- e];exact tv)⟩;refine ⟨k.ne,⟨t0,(sc t0c).2 h0,t0c,t0d⟩,fun h2=> ?_,fun v vc vd ⟨t,ht,t1,t2⟩ ⟨u,hu,u1,u2⟩=> ?_,?_,?_⟩
 ·rw [zIf h.nd h'.nd fun t k=>sc (zEf.1 k).1] at h2;rcases k.brd h2 with e|e
  ·exact .inl (inn sc e)
  ·exact .inr (inn sd e)
 ·obtain ⟨s,hs,s1,s2,s3⟩:=k.com v vc vd ⟨t,(sc t1).1 ht,t1,t2⟩ ⟨u,(sd u1).1 hu,u1,u2⟩;exact ⟨s,(sc s1).2 hs,s1,s2,s3⟩
 ·rintro ⟨t,ht,tc,hno⟩;have ht':=(sc tc).1 ht;refine k.one ⟨t,ht',tc,fun u hu hne p q hpq tp tq up uq=> ?_⟩
  by_cases uc:z8 u c
  ·exact hno u ((sc uc).2 hu) hne p q hpq tp tq up uq
  ·obtain ⟨pa,pb⟩:=far ht' tc tp;obtain ⟨qa,qb⟩:=far ht' tc tq
   by_cases ub:z8 u a/\z8 u b
   ·exact four (h.deg u hu) f.ne pa.symm qa.symm pb.symm qb.symm hpq ub.1 ub.2 up uq
   ·refine hno (phT a b u) (zA9.2 ⟨u,hu,ub,rfl⟩) (fun e=>uc ?_) p q hpq tp tq ((zCp pa pb).2 up) ((zCp qa qb).2 uq);rw [<- e] at tc;exact (zCp ca cb).1 tc
 ·rintro ⟨p,q,r,cp,cq,cr,pq,pr,qr,⟨t1,h1,a1,a2,a3⟩,⟨t2,h2,b1,b2,b3⟩,⟨t3,h3,c1,c2,c3⟩,⟨t4,h4,d1,d2,d3⟩⟩;have g1:=(sc a1).1 h1;have g2:=(sc b1).1 h2;have g3:=(sc c1).1 h3;obtain ⟨pa,pb⟩:=far g1 a1 a2;obtain ⟨qa,qb⟩:=far g1 a1 a3;obtain ⟨ra,rb⟩:=far g2 b1 b3;obtain ⟨u,hu,_,rfl⟩:=zA9.1 h4;exact k.tet ⟨p,q,r,cp,cq,cr,pq,pr,qr,⟨t1,g1,a1,a2,a3⟩,⟨t2,g2,b1,b2,b3⟩,⟨t3,g3,c1,c2,c3⟩,⟨u,hu,(zCp pa pb).1 d1,(zCp qa qb).1 d2,(zCp ra rb).1 d3⟩⟩
theorem zXo {p q:Int} (f:zT1 l a b) (h1:zAS l a b c d) (h3:zAS l c d p q) (near: ∃ t∈l,z8 t c/\z8 t d):zAS (zIZ a b l) c d p q:=by
 have hc: ∀ t∈l,z8 t c->¬ z8 t a/\¬ z8 t b:=fun t ht k=>⟨fun e=>h1 t ht (.inl e) (.inl k),fun e=>h1 t ht (.inr e) (.inl k)⟩;have hd: ∀ t∈l,z8 t d->¬ z8 t a/\¬ z8 t b:=fun t ht k=>⟨fun e=>h1 t ht (.inl e) (.inr k),fun e=>h1 t ht (.inr e) (.inr k)⟩;obtain ⟨t0,h0,t0c,t0d⟩:=near;have ca:c≠a:=fun e=>(hc t0 h0 t0c).1 (by rw [<- e];exact t0c);have cb:c≠b:=fun e=>(hc t0 h0 t0c).2 (by rw [<- e];exact t0c);have da:d≠a:=fun e=>(hd t0 h0 t0d).1 (by rw [<- e];exact t0d)
 have db:d≠b:=fun e=>(hd t0 h0 t0d).2 (by rw [<- e];exact t0d);intro t ht hcd hpq;rcases hcd with e|e
 ·exact h3 t ((zGN ca cb hc e).1 ht) (.inl e) hpq
 ·exact h3 t ((zGN da db hd e).1 ht) (.inr e) hpq
end
end S1
open Go Go.Vm Go.Proofs
namespace S1
section
variable {V:Int->Prop} {l:List P3} {a b c d:Int} {r:Int->Int}
theorem zEG (h:jV V l) (hi: ∀ v w,V v->V w->r v=r w->v=w) {t:P3} {v:Int} (ht:t∈l) (hv:V v):z8 (zDo r t) (r v)↔z8 t v :=
 ⟨fun k=>by obtain ⟨w,hw,e⟩:=zAm.1 k;rw [<- hi w v (h.ent t ht w hw) hv e];exact hw,fun k=>zAm.2 ⟨v,k,rfl⟩⟩
theorem zWH (h:jV V l) (hi: ∀ v w,V v->V w->r v=r w->v=w) {v w:Int} (hv:V v) (hw:V w):((l.map (zDo r)).filter (both (r v) (r w))).length=(l.filter (both v w)).length:=by
 rw [List.filter_map,yV,List.filter_congr fun t ht=> ?_];rw [Bool.eq_iff_iff];show both (r v) (r w) (zDo r t)=true↔_;rw [zEf,zEf,zEG h hi ht hv,zEG h hi ht hw]
theorem zWW (h:jV V l) (hi: ∀ v w,V v->V w->r v=r w->v=w) {t u:P3} (ht:t∈l) (hu:u∈l) (e:zDo r t=zDo r u):t=u:=by
 have vt: ∀ {t:P3},t∈l->V t.1/\V t.2.1/\V t.2.2:=fun {t} ht=>⟨h.ent t ht _ (.inl rfl),h.ent t ht _ (.inr (.inl rfl)),h.ent t ht _ (.inr (.inr rfl))⟩;have e1:=congrArg Prod.fst e;have e2:=congrArg (fun p=>p.2.1) e;have e3:=congrArg (fun p=>p.2.2) e;exact Prod.ext (hi _ _ (vt ht).1 (vt hu).1 e1) (Prod.ext (hi _ _ (vt ht).2.1 (vt hu).2.1 e2) (hi _ _ (vt ht).2.2 (vt hu).2.2 e3))
theorem zYO (h:jV V l) (hi: ∀ v w,V v->V w->r v=r w->v=w) {v:Int} (hv:V v) (k:z20 l v):z20 (l.map (zDo r)) (r v):=fun w' hw' ⟨t',ht',t1,t2⟩=>by
 obtain ⟨t,ht,rfl⟩:=yC.1 ht';obtain ⟨w,hw,rfl⟩:=zAm.1 t2;rw [zWH h hi hv (h.ent t ht w hw)];exact k w (fun e=>hw' (by rw [e])) ⟨t,ht,(zEG h hi ht hv).1 t1,hw⟩
theorem z0J (h:jV V l) (hi: ∀ v w,V v->V w->r v=r w->v=w) (k:zBN l c d):zBN (l.map (zDo r)) (r c) (r d):=by
 obtain ⟨t0,h0,t0c,t0d⟩:=k.near;have hc:=h.ent t0 h0 c t0c;have hd:=h.ent t0 h0 d t0d;have H: ∀ {t:P3} {v:Int},t∈l->V v->(z8 (zDo r t) (r v)↔z8 t v):=fun ht hv=>zEG h hi ht hv;refine ⟨fun e=>k.ne (hi c d hc hd e),⟨_,yC.2 ⟨t0,h0,rfl⟩,(H h0 hc).2 t0c,(H h0 hd).2 t0d⟩,fun h2=> ?_,fun v' vc vd ⟨t',ht',t1,t2⟩ ⟨u',hu',u1,u2⟩=> ?_,?_,?_⟩
 ·rw [zWH h hi hc hd] at h2;rcases k.brd h2 with e|e
  ·exact .inl (zYO h hi hc e)
  ·exact .inr (zYO h hi hd e)
 ·obtain ⟨t,ht,rfl⟩:=yC.1 ht';obtain ⟨u,hu,rfl⟩:=yC.1 hu';obtain ⟨v,hv,rfl⟩:=zAm.1 t2;have hvV:=h.ent t ht v hv;obtain ⟨s,hs,s1,s2,s3⟩:=k.com v (fun e=>vc (by rw [e])) (fun e=>vd (by rw [e])) ⟨t,ht,(H ht hc).1 t1,hv⟩ ⟨u,hu,(H hu hd).1 u1,(H hu hvV).1 u2⟩;exact ⟨_,yC.2 ⟨s,hs,rfl⟩,(H hs hc).2 s1,(H hs hd).2 s2,(H hs hvV).2 s3⟩
 ·rintro ⟨t',ht',tc,hno⟩;obtain ⟨t,ht,rfl⟩:=yC.1 ht';refine k.one ⟨t,ht,(H ht hc).1 tc,fun u hu hne p q hpq tp tq up uq=> ?_⟩;have hp:=h.ent t ht p tp;have hq:=h.ent t ht q tq;exact hno (zDo r u) (yC.2 ⟨u,hu,rfl⟩) (fun e=>hne (zWW h hi hu ht e)) (r p) (r q) (fun e=>hpq (hi p q hp hq e)) ((H ht hp).2 tp) ((H ht hq).2 tq) ((H hu hp).2 up) ((H hu hq).2 uq)
 ·rintro ⟨p',q',r',cp,cq,cr,pq,pr,qr,⟨t1',h1',a1,a2,a3⟩,⟨t2',h2',b1,b2,b3⟩,⟨t3',h3',c1,c2,c3⟩,⟨t4',h4',d1,d2,d3⟩⟩;obtain ⟨t1,h1,rfl⟩:=yC.1 h1';obtain ⟨t2,h2,rfl⟩:=yC.1 h2';obtain ⟨t3,h3,rfl⟩:=yC.1 h3';obtain ⟨t4,h4,rfl⟩:=yC.1 h4';obtain ⟨p,p1,rfl⟩:=zAm.1 a2;obtain ⟨q,q1,rfl⟩:=zAm.1 a3;obtain ⟨s,s1,rfl⟩:=zAm.1 b3;have hp:=h.ent t1 h1 p p1;have hq:=h.ent t1 h1 q q1;have hs:=h.ent t2 h2 s s1
  exact k.tet ⟨p,q,s,fun e=>cp (by rw [e]),fun e=>cq (by rw [e]),fun e=>cr (by rw [e]),fun e=>pq (by rw [e]),fun e=>pr (by rw [e]),fun e=>qr (by rw [e]),
   ⟨t1,h1,(H h1 hc).1 a1,p1,q1⟩,⟨t2,h2,(H h2 hc).1 b1,(H h2 hp).1 b2,s1⟩,⟨t3,h3,(H h3 hc).1 c1,(H h3 hq).1 c2,(H h3 hs).1 c3⟩,⟨t4,h4,(H h4 hp).1 d1,(H h4 hq).1 d2,(H h4 hs).1 d3⟩⟩
theorem zYE (h:jV V l) (hi: ∀ v w,V v->V w->r v=r w->v=w) (ha:V a) (hb:V b) (hc:V c) (hd:V d) (k:zAS l a b c d):zAS (l.map (zDo r)) (r a) (r b) (r c) (r d):=fun t' ht' k1 k2=>by
 obtain ⟨t,ht,rfl⟩:=yC.1 ht';rw [zEG h hi ht ha,zEG h hi ht hb] at k1;rw [zEG h hi ht hc,zEG h hi ht hd] at k2;exact k t ht k1 k2
end
end S1
open Go Go.Vm Go.Proofs
namespace S1
def zZv (s:Int×List P3) (a b:Int):Int×List P3:=(s.1 - 1,(zIZ a b s.2).map (zDo (dn a)))
theorem zRU {a v w:Int} (hv:v≠a) (hw:w≠a) (e:dn a v=dn a w):v=w:=by
 unfold dn at e;split at e<;>split at e<;>omega
section
variable {s:Int×List P3} {a b c d:Int}
theorem zEm (hs:zBK s) (k:zBN s.2 a b):zDV (zAa s) a b=0/\zT1 s.2 a b:=by
 obtain ⟨_,g,e⟩:=zAu hs;have hm:jV (InN (zAa s).1.1) (zAa s).1.2:=zAc (s:=(zAa s).1) (by rw [e];exact hs);have hw:zDV (zAa s) a b=0:=(zKH g hm).2 (by rw [e];exact k);have:=zPy g hm hw;rw [e] at this;exact ⟨hw,this⟩
theorem zWj (hs:zBK s) (k:zBN s.2 a b):zBK (zZv s a b):=by
 obtain ⟨_,g,e⟩:=zAu hs;have:=zOM g (by rw [e];exact hs) (zEm hs k).1;rw [e] at this;exact this
theorem zCW (hs:zBK s) (k:zBN s.2 a b):InN s.1 a/\InN s.1 b:=by
 obtain ⟨t,ht,ta,tb⟩:=k.near;exact ⟨(zAc hs).ent t ht a ta,(zAc hs).ent t ht b tb⟩
theorem zD1 (k:zBN s.2 c d) (ap:zAS s.2 a b c d):(c≠a/\c≠b)/\d≠a/\d≠b:=by
 obtain ⟨t,ht,tc,td⟩:=k.near;exact ⟨⟨fun e=>ap t ht (.inl (by rw [<- e];exact tc)) (.inl tc),fun e=>ap t ht (.inr (by rw [<- e];exact tc)) (.inl tc)⟩,fun e=>ap t ht (.inl (by rw [<- e];exact td)) (.inl tc),fun e=>ap t ht (.inr (by rw [<- e];exact td)) (.inl tc)⟩
theorem zTm (hs:zBK s) (k:zBN s.2 a b) (k2:zBN s.2 c d) (ap:zAS s.2 a b c d):zBN (zZv s a b).2 (dn a c) (dn a d):=by
 have hm:=zAc hs;have f:=(zEm hs k).2;have hi:=zCW hs k;exact z0J (zHx hm f hi.1 hi.2) (fun v w hv hw e=>zRU hv.2 hw.2 e) (z0a hm hi.1 hi.2 f k2 ap)
theorem zSz {p q:Int} (hs:zBK s) (k:zBN s.2 a b) (k2:zBN s.2 c d) (k3:zBN s.2 p q) (ap:zAS s.2 a b c d) (ap2:zAS s.2 a b p q) (ap3:zAS s.2 c d p q):zAS (zZv s a b).2 (dn a c) (dn a d) (dn a p) (dn a q):=by
 have hm:=zAc hs;have f:=(zEm hs k).2;have hi:=zCW hs k;have i2:=zCW hs k2;have i3:=zCW hs k3;have n2:=zD1 k2 ap;have n3:=zD1 k3 ap2;exact zYE (zHx hm f hi.1 hi.2) (fun v w hv hw e=>zRU hv.2 hw.2 e) ⟨i2.1,n2.1.1⟩ ⟨i2.2,n2.2.1⟩ ⟨i3.1,n3.1.1⟩ ⟨i3.2,n3.2.1⟩ (zXo f ap ap3 k2.near)
end
end S1
open Go Go.Vm Go.Proofs
namespace S1
structure zFG (s:Int×List P3) (l:List (Int×Int)):Prop where
 surf:zBK s
 free: ∀ e∈l,zBN s.2 e.1 e.2
 apart:l.Pairwise fun e f=>zAS s.2 e.1 e.2 f.1 f.2
def dn2 (a:Int) (e:Int×Int):Int×Int:=(dn a e.1,dn a e.2)
theorem zXK {s:Int×List P3} {a b:Int} {r:List (Int×Int)} (h:zFG s ((a,b)::r)):zFG (zZv s a b) (r.map (dn2 a)):=by
 have k:zBN s.2 a b:=h.free (a,b) (zY ..);obtain ⟨p1,p2⟩:=List.pairwise_cons.1 h.apart;refine ⟨zWj h.surf k,fun e he=> ?_,?_⟩
 ·obtain ⟨f,hf,rfl⟩:=yC.1 he;exact zTm h.surf k (h.free f (zQ _ hf)) (p1 f hf)
 ·refine List.Pairwise.map _ (fun e f hh=> ?_) (p2.imp_of_mem (S:=fun e f=>zAS s.2 e.1 e.2 f.1 f.2/\e∈r/\f∈r) fun he hf hh=>⟨hh,he,hf⟩);obtain ⟨hh,he,hf⟩:=hh;exact zSz h.surf k (h.free e (zQ _ he)) (h.free f (zQ _ hf)) (p1 e he) (p1 f hf) hh
end S1
open Go Go.Vm Go.Proofs
namespace S1
def zJJ (x:yI.T) (e:Int×Int):Prop:=bE x e.1 e.2\/bE x e.2 e.1
section
variable {x:yI.T}
theorem zMu (g:Full x) {w u:Int} (h:bE x w u): ∃ t∈x.1.2,z8 t w/\z8 t u:=by
 obtain ⟨h1,_⟩:=(zHJ g).1 h;obtain ⟨t,ht,hd⟩:=zDh.1 h1;exact ⟨t,ht,jN hd⟩
theorem z6l (g:Full x) {w u:Int} (h:bE x w u): ¬ bE x u w:=fun k=>((zHJ g).1 h).2 ((zHJ g).1 k).1
theorem z2Y {t:P3} {a b:Int} (hab:a≠b) (ha:z8 t a) (hb:z8 t b):dE t a b\/dE t b a:=by
 obtain ⟨x,y,z⟩:=t;simp only [z8,dE] at *;rcases ha with h|h|h<;>rcases hb with k|k|k<;>(subst h;subst k;simp at *)
theorem zK0 (g:Full x) (hs:jV (InN x.1.1) x.1.2) {w u:Int} (h:bE x w u) {t t':P3} (ht:t∈x.1.2) (ht':t'∈x.1.2) (a:z8 t w/\z8 t u) (b:z8 t' w/\z8 t' u):t=t':=by
 have hne:=(zJf g h).2.2;have hno:=((zHJ g).1 h).2;have d1:dE t w u:=(z2Y hne a.1 a.2).resolve_right fun k=>hno (zDh.2 ⟨t,ht,k⟩);have d2:dE t' w u:=(z2Y hne b.1 b.2).resolve_right fun k=>hno (zDh.2 ⟨t',ht',k⟩);apply yF;intro e;exact hs.dif t ht t' ht' e w u d1 d2
noncomputable def zGg (x:yI.T) (e:Int×Int):Int:= @ite _ (bE x e.2 e.1) (Classical.propDecidable _) e.2 e.1
noncomputable def zN4 (x:yI.T) (e:Int×Int):Int:= @ite _ (bE x e.2 e.1) (Classical.propDecidable _) e.1 e.2
theorem zOH {e:Int×Int} (h:zJJ x e):bE x (zGg x e) (zN4 x e)/\(zGg x e=e.1/\zN4 x e=e.2\/zGg x e=e.2/\zN4 x e=e.1):=by
 unfold zGg zN4
 by_cases k:bE x e.2 e.1
 ·rw [if_pos k,if_pos k];exact ⟨k,.inr ⟨rfl,rfl⟩⟩
 ·rw [if_neg k,if_neg k];exact ⟨h.resolve_right k,.inl ⟨rfl,rfl⟩⟩
noncomputable def zOP (x:yI.T) (e:Int×Int):List Int:=[zN4 x e,zGg x e,nx x (zGg x e)]
theorem zME (g:Full x) {e:Int×Int} (h:zJJ x e):bE x (nx x (zGg x e)) (zGg x e)/\(zOP x e).Nodup:=by
 obtain ⟨h1,_⟩:=zOH h;obtain ⟨z,hz⟩:=zCo g h1;have e1:nx x (zGg x e)=z:=zDd g hz;unfold zOP;rw [e1];refine ⟨hz,?_⟩;have n1:=(zJf g h1).2.2;have n2:=(zJf g hz).2.2;have n3:z≠zN4 x e:=fun k=>by subst k;exact z6l g h1 hz
 simp only [List.nodup_cons,zT,List.not_mem_nil,or_false,not_or,not_false_eq_true,List.nodup_nil,and_true];exact ⟨⟨n1.symm,n3.symm⟩,n2.symm⟩
theorem zVZ (g:Full x) {L:List Int} (hL:zCA x L) {e:Int×Int} (h:zJJ x e) (hm:e.1∈L): ∀ v∈zOP x e,v∈L:=by
 obtain ⟨h1,h2⟩:=zOH h
 have hP:zN4 x e∈L/\zGg x e∈L:=by
  rcases h2 with ⟨a,b⟩|⟨a,b⟩
  ·-- what comes behind zN4 is zGg: go round
   rw [a];refine ⟨?_,hm⟩;obtain ⟨i,hi,e0⟩:=zLa hm;obtain ⟨j,hj⟩: ∃ j,j=(i+(L.length - 1)) % L.length:=⟨_,rfl⟩;have hjl:j<L.length:=by rw [hj];exact Nat.mod_lt _ hL.ne
   have hji:(j+1) % L.length=i:=by
    rw [hj,Nat.mod_add_mod,show i+(L.length - 1)+1=i+L.length by omega,Nat.add_mod_right,Nat.mod_eq_of_lt hi]
   have hc:=hL.cyc j hjl;rw [hji,e0] at hc;rw [a] at h1;rw [zHi g h1 hc];exact jB hjl
  ·rw [b];refine ⟨hm,?_⟩;have:=hL.next g hm
   rw [b] at h1;rwa [show nx x e.1=zGg x e from zDd g h1] at this
 have hR:=hL.next g hP.2
 intro v hv;unfold zOP at hv;simp only [zT,List.not_mem_nil,or_false] at hv;rcases hv with e|e|e<;>rw [e]
 ·exact hP.1
 ·exact hP.2
 ·exact hR
theorem z06 (g:Full x) {e f:Int×Int} (he:zJJ x e) (hf:zJJ x f) (ke:zBN x.1.2 e.1 e.2) (kf:zBN x.1.2 f.1 f.2) (ap:zAS x.1.2 e.1 e.2 f.1 f.2): ∀ v∈zOP x e,v∉zOP x f:=by
 obtain ⟨h1,h2⟩:=zOH he;obtain ⟨k1,k2⟩:=zOH hf;obtain ⟨hr,_⟩:=zME g he;obtain ⟨kr,_⟩:=zME g hf;have ne:=zD1 kf ap
 have star1: ∀ {t:P3} {v:Int},z8 t v->(v=zN4 x e\/v=zGg x e)->z8 t e.1\/z8 t e.2:=fun h k=>by
  rcases h2 with ⟨a,b⟩|⟨a,b⟩<;>rw [a,b] at k<;>rcases k with k|k<;>subst k
  ·exact .inr h
  ·exact .inl h
  ·exact .inl h
  ·exact .inr h
 have star2: ∀ {t:P3} {v:Int},z8 t v->(v=zN4 x f\/v=zGg x f)->z8 t f.1\/z8 t f.2:=fun h k=>by
  rcases k2 with ⟨a,b⟩|⟨a,b⟩<;>rw [a,b] at k<;>rcases k with k|k<;>subst k
  ·exact .inr h
  ·exact .inl h
  ·exact .inl h
  ·exact .inr h
 have dis: ∀ v,(v=zN4 x e\/v=zGg x e)->(v=zN4 x f\/v=zGg x f)->False:=fun v a b=>by
  obtain ⟨t,ht,t1,t2⟩:=zMu g h1;rcases a with a|a
  ·exact ap t ht (star1 (v:=v) (by rw [a];exact t2) (.inl a)) (star2 (v:=v) (by rw [a];exact t2) b)
  ·exact ap t ht (star1 (v:=v) (by rw [a];exact t1) (.inr a)) (star2 (v:=v) (by rw [a];exact t1) b)
 intro v hv hw;unfold zOP at hv hw;simp only [zT,List.not_mem_nil,or_false] at hv hw;have hv':(v=zN4 x e\/v=zGg x e)\/v=nx x (zGg x e):=or_assoc.2 hv;have hw':(v=zN4 x f\/v=zGg x f)\/v=nx x (zGg x f):=or_assoc.2 hw;rcases hv' with a|a<;>rcases hw' with b|b
 ·exact dis v a b
 ·obtain ⟨t,ht,t1,t2⟩:=zMu g kr;exact ap t ht (star1 (v:=v) (by rw [b];exact t1) a) (star2 t2 (.inr rfl))
 ·obtain ⟨t,ht,t1,t2⟩:=zMu g hr;exact ap t ht (star1 t2 (.inr rfl)) (star2 (v:=v) (by rw [a];exact t1) b)
 ·rw [<- a] at hr;rw [<- b] at kr;have:=zHi g hr kr;exact dis _ (.inr rfl) (.inr this)
theorem z7H (g:Full x) {L:List Int} (hL:zCA x L): ∀ (D:List (Int×Int)),(∀ d∈D,zJJ x d/\zBN x.1.2 d.1 d.2/\d.1∈L)->D.Pairwise (fun e f=>zAS x.1.2 e.1 e.2 f.1 f.2)->
 ∃ T:List Int,T.Nodup/\T.length=3*D.length/\∀ v∈T,v∈L/\∃ d∈D,v∈zOP x d
 | [],_,_=>⟨[],List.nodup_nil,rfl,fun v h=>by cases h⟩
 | d ::D,hd,hp=>by
   obtain ⟨p1,p2⟩:=List.pairwise_cons.1 hp;obtain ⟨T,t1,t2,t3⟩:=z7H g hL D (fun e he=>hd e (zQ _ he)) p2;obtain ⟨b1,b2,b3⟩:=hd d (zY ..);refine ⟨zOP x d++T,?_,?_,?_⟩
   ·rw [List.nodup_append];refine ⟨(zME g b1).2,t1,fun v hv w hw e=> ?_⟩;subst e;obtain ⟨_,f,hf,hvf⟩:=t3 v hw;obtain ⟨c1,c2,_⟩:=hd f (zQ _ hf);exact z06 g b1 c1 b2 c2 (p1 f hf) v hv hvf
   ·rw [zN,t2,yA];show 3+_=_;omega
   ·intro v hv;rcases yD.1 hv with h|h
    ·exact ⟨zVZ g hL b1 b3 v h,d,zY ..,h⟩
    ·obtain ⟨a,f,hf,b⟩:=t3 v h;exact ⟨a,f,zQ _ hf,b⟩
theorem zU5 (g:Full x) (hs:jV (InN x.1.1) x.1.2) {L:List Int} (hL:zCA x L) {e:Int×Int} (h:zJJ x e) (k:zBN x.1.2 e.1 e.2) (hm:e.1∈L):4<=L.length:=by
 obtain ⟨h1,h2⟩:=zOH h;obtain ⟨hr,hn⟩:=zME g h;have hin:=zVZ g hL h hm;have h3:3<=L.length:=zBx (zOP x e) L hn hin;apply yF;intro hlt;have hl:L.length=3:=by omega
 -- each vertex of the loop is one of the three
 have hall: ∀ v∈L,v∈zOP x e:=fun v hv=>by
  apply yF;intro hv2
  have:=zBx (v::zOP x e) L (List.nodup_cons.2 ⟨hv2,hn⟩) fun w hw=>by
   rcases zT.1 hw with e|e
   ·rw [e];exact hv
   ·exact hin w e
  rw [hl] at this;exact absurd this (by unfold zOP;simp)
 have hz:=hall _ (hL.next g (hin _ (show nx x (zGg x e)∈zOP x e by unfold zOP;simp)));obtain ⟨z,hzz⟩:=zCo g hr;have ez:nx x (nx x (zGg x e))=z:=zDd g hzz;rw [ez] at hz
 have hp:bE x (zN4 x e) (nx x (zGg x e)):=by
  unfold zOP at hz;simp only [zT,List.not_mem_nil,or_false] at hz;rcases hz with e|e|e
  ·rw [<- e];exact hzz
  ·rw [e] at hzz;exact absurd hzz (z6l g hr)
  ·rw [e] at hzz;exact absurd rfl (zJf g hzz).2.2
 unfold zOP at hn;simp only [List.nodup_cons,zT,List.not_mem_nil,or_false,not_or,not_false_eq_true,List.nodup_nil,and_true] at hn;obtain ⟨t1,ht1,a1,a2⟩:=zMu g hr;obtain ⟨t2,ht2,c1,c2⟩:=zMu g hp
 -- the zH6 vertex is beside both ends
 have tri:zS3 x.1.2 e.1 e.2 (nx x (zGg x e)):=by
  rcases h2 with ⟨a,b⟩|⟨a,b⟩
  ·exact k.com _ (fun q=>hn.2 (a.trans q.symm)) (fun q=>hn.1.2 (b.trans q.symm)) ⟨t1,ht1,by rw [<- a];exact a2,a1⟩ ⟨t2,ht2,by rw [<- b];exact c1,c2⟩
  ·exact k.com _ (fun q=>hn.1.2 (b.trans q.symm)) (fun q=>hn.2 (a.trans q.symm)) ⟨t2,ht2,by rw [<- b];exact c1,c2⟩ ⟨t1,ht1,by rw [<- a];exact a2,a1⟩
 obtain ⟨t,ht,s1,s2,s3⟩:=tri
 have sP:z8 t (zN4 x e)/\z8 t (zGg x e):=by
  rcases h2 with ⟨a,b⟩|⟨a,b⟩<;>rw [a,b]
  ·exact ⟨s2,s1⟩
  ·exact ⟨s1,s2⟩
 refine k.one ⟨t,ht,s1,fun u hu hne a b hab ta tb ua ub=>hne ?_⟩
 have only: ∀ v,z8 t v->v=zN4 x e\/v=zGg x e\/v=nx x (zGg x e):=fun v hv=>by
  apply yF;intro q;rw [not_or,not_or] at q;exact four (hs.deg t ht) hn.1.1 hn.1.2 (Ne.symm q.1) hn.2 (Ne.symm q.2.1) (Ne.symm q.2.2) sP.1 sP.2 s3 hv
 rcases only a ta with e1|e1|e1<;>rcases only b tb with e2|e2|e2
 ·exact absurd (e1.trans e2.symm) hab
 ·exact zK0 g hs h1 hu ht ⟨by rw [<- e2];exact ub,by rw [<- e1];exact ua⟩ ⟨sP.2,sP.1⟩
 ·exact zK0 g hs hp hu ht ⟨by rw [<- e1];exact ua,by rw [<- e2];exact ub⟩ ⟨sP.1,s3⟩
 ·exact zK0 g hs h1 hu ht ⟨by rw [<- e1];exact ua,by rw [<- e2];exact ub⟩ ⟨sP.2,sP.1⟩
 ·exact absurd (e1.trans e2.symm) hab
 ·exact zK0 g hs hr hu ht ⟨by rw [<- e2];exact ub,by rw [<- e1];exact ua⟩ ⟨s3,sP.2⟩
 ·exact zK0 g hs hp hu ht ⟨by rw [<- e2];exact ub,by rw [<- e1];exact ua⟩ ⟨sP.1,s3⟩
 ·exact zK0 g hs hr hu ht ⟨by rw [<- e1];exact ua,by rw [<- e2];exact ub⟩ ⟨s3,sP.2⟩
 ·exact absurd (e1.trans e2.symm) hab
theorem z7b (g:Full x) (hs:jV (InN x.1.1) x.1.2) {L:List Int} (hL:zCA x L) {e:Int×Int} {D:List (Int×Int)} (he:zJJ x e) (ke:zBN x.1.2 e.1 e.2) (hm:e.1∈L)
 (hD: ∀ d∈D,zJJ x d/\zBN x.1.2 d.1 d.2/\d.1∈L) (hp:D.Pairwise (fun e f=>zAS x.1.2 e.1 e.2 f.1 f.2)) (hpe: ∀ d∈D,zAS x.1.2 d.1 d.2 e.1 e.2):D.length+4<=L.length:=by
 have h4:=zU5 g hs hL he ke hm
 obtain ⟨T,t1,t2,t3⟩:=z7H g hL (e::D) (fun d hd=>by
  rcases zT.1 hd with k|k
  ·rw [k];exact ⟨he,ke,hm⟩
  ·exact hD d k) (List.pairwise_cons.2 ⟨fun d hd t ht a b=>hpe d hd t ht b a,hp⟩)
 have:=zBx T L t1 fun v hv=>(t3 v hv).1;rw [t2,yA] at this;omega
end
end S1
open Go Go.Vm Go.Proofs
namespace S1
def zHO (x:yI.T) (e:Int×Int) (n:Int):Prop:= ∃ j:Nat,j<x.1.2.length/\n=j/\(z8 (tg x.1.2 j) e.1\/z8 (tg x.1.2 j) e.2)
theorem zXH (m:ReM) (l:List Int):zYy m l=(l.map fun c=>c.tdiv 3).foldl (fun m u=>zAB (.int .i64) m u true) m:=by
 unfold zYy;rw [List.foldl_map]
theorem zOR: ∀ (m:ReM) (k:Int),(∀ p∈m,p.2=true)->∀ p∈zAB (.int .i64) m k true,p.2=true
 | [],k,_,p,hp=>by
   have:p∈[((k,true):(ETy.int .i64).T×Bool)]:=hp;rw [zF.1 this]
 | (a,b)::r,k,h,p,hp=>by
   unfold zAB at hp;split at hp
   ·rcases zT.1 hp with e|e
    ·rw [e]
    ·exact h p (zQ _ e)
   ·rcases zT.1 hp with e|e
    ·rw [e];exact h (a,b) (zY ..)
    ·exact zOR r k (fun q hq=>h q (zQ _ hq)) p e
theorem zO5: ∀ (l:List Int) (m:ReM),(∀ p∈m,p.2=true)->∀ p∈l.foldl (fun m u=>zAB (.int .i64) m u true) m,p.2=true
 | [],_,h=>h
 | a::r,m,h=>zO5 r _ (zOR m a h)
theorem z4O {m:ReM} (h: ∀ p∈m,p.2=true) {n:Int} :had m n=true↔n∈zE3 m:=by
 refine ⟨zQU,?_⟩
 induction m with
 | nil=>intro k;cases k
 | cons p r ih =>
   obtain ⟨a,b⟩:=p;intro k;have hb:b=true:=h (a,b) (zY ..);subst hb
   by_cases e:a=n
   ·subst e;show (jS (.int .i64) ((a,true)::r) a).getD false=true;unfold jS;split
    ·rfl
    ·rename_i h0 _;exact absurd rfl h0
   ·have:had r n=true:=ih (fun q hq=>h q (zQ _ hq)) ((zT.1 k).resolve_left (fun q=>e q.symm));show (jS (.int .i64) ((a,true)::r) n).getD false=true;unfold jS;split
    ·rfl
    ·exact this
theorem zRk (x:yI.T) (e:Int×Int):zCt x e=((yU (some x) e.1++yU (some x) e.2).map fun c=>c.tdiv 3).foldl (fun m u=>zAB (.int .i64) m u true) []:=by
 show zYy (zYy [] (yU (some x) e.1)) (yU (some x) e.2)=_;rw [zXH,zXH,List.map_append,List.foldl_append]
theorem zS7 (x:yI.T) (e:Int×Int): ∀ p∈zCt x e,p.2=true:=by
 rw [zRk];exact zO5 _ _ fun p h=>by cases h
section
variable {x:yI.T}
theorem zN9 (g:Full x) {v n:Int} :(∃ c∈yU (some x) v,c.tdiv 3=n)↔∃ j:Nat,j<x.1.2.length/\n=j/\z8 (tg x.1.2 j) v:=by
 constructor
 ·rintro ⟨c,hc,rfl⟩
  have hv:0<=v/\v<x.1.1:=by
   apply yF;intro k
   have:zBR x v=false:=by
    rw [<- Bool.not_eq_true,zJK];exact fun q=>k ⟨q.1,q.2.1⟩
   have hc:c∈(if zBR x v then _ else _:List Int):=hc;rw [this] at hc;cases hc
  obtain ⟨b,_,_,_,_,_,hall,_⟩:=g.around hv.1 hv.2;obtain ⟨h1,h2⟩:=hall c hc;obtain ⟨k1,k2⟩:=zAw h1;have h0:=(yH.1 h1).1;rw [h2] at k2;exact ⟨(c / 3).toNat,k1,by rw [Int.tdiv_eq_ediv_of_nonneg h0];omega,k2⟩
 ·rintro ⟨j,hj,rfl,hv⟩;obtain ⟨c,h1,h2,h3⟩:=zJ7 hj hv;have h0:=(yH.1 h1).1;refine ⟨c,by rw [<- h3];exact g.around_all h1,?_⟩;rw [Int.tdiv_eq_ediv_of_nonneg h0];omega
theorem zMd (g:Full x) {e:Int×Int} {n:Int} :had (zCt x e) n=true↔zHO x e n:=by
 rw [zRk,zLM];have e0:had [] n=true↔False:=⟨fun h=>(by cases h),False.elim⟩;rw [e0,false_or,List.map_append,yD,yC,yC,zN9 g,zN9 g];constructor
 ·rintro (⟨j,a,b,c⟩|⟨j,a,b,c⟩)
  ·exact ⟨j,a,b,.inl c⟩
  ·exact ⟨j,a,b,.inr c⟩
 ·rintro ⟨j,a,b,c|c⟩
  ·exact .inl ⟨j,a,b,c⟩
  ·exact .inr ⟨j,a,b,c⟩
theorem zFt (g:Full x) {e:Int×Int} {n:Int} :n∈zE3 (zCt x e)↔zHO x e n:=by
 rw [<- z4O (zS7 x e),zMd g]
theorem zW3 (g:Full x) {e f:Int×Int} :zKk (zCt x e) (zCt x f)=true↔zAS x.1.2 e.1 e.2 f.1 f.2:=by
 unfold zKk;rw [zJ];constructor
 ·intro h t ht a b;obtain ⟨j,hj,rfl⟩:=zAO ht;obtain ⟨p,hp,e1⟩:=yC.1 ((zFt g).2 (⟨j,hj,rfl,a⟩:zHO x e j));have:=h p hp;rw [e1,(zMd g).2 (⟨j,hj,rfl,b⟩:zHO x f j)] at this;cases this
 ·intro h p hp;obtain ⟨j,hj,e1,a⟩:=(zFt g).1 (yC.2 ⟨p,hp,rfl⟩);cases e2:had (zCt x f) p.1 with
  | false=>rfl
  | true =>
    obtain ⟨i,hi,e3,b⟩:=(zMd g).1 e2;have:i=j:=by omega
    subst this;exact (h _ (qI hi) a b).elim
end
def apT (l:List P3) (e f:Int×Int):Bool:=l.all fun t=> !(decide (z8 t e.1\/z8 t e.2)&&decide (z8 t f.1\/z8 t f.2))
theorem zPn {l:List P3} {e f:Int×Int} :apT l e f=true↔zAS l e.1 e.2 f.1 f.2:=by
 unfold apT zAS;rw [zJ];refine forall_congr' fun t=>forall_congr' fun ht=> ?_;rw [Bool.not_eq_true',Bool.and_eq_false_iff,yM,yM];constructor
 ·rintro (h|h) a b
  ·exact h a
  ·exact h b
 ·intro h
  by_cases a:z8 t e.1\/z8 t e.2
  ·exact .inr (h a)
  ·exact .inl a
def okE (x:yI.T) (C:List (Int×Int)) (e:Int×Int):Bool:=decide (zDV x e.1 e.2=0)&&C.all fun c=>apT x.1.2 c e
def chK (x:yI.T) (l:List (Int×Int)):Nat->List (Int×Int)
 | 0=>[]
 | k+1=>if okE x (chK x l k) (l.getD k (0,0))=true then chK x l k++[l.getD k (0,0)] else chK x l k
def zAh (x:yI.T) (l:List (Int×Int)):List (Int×Int):=chK x l l.length
theorem zNJ {x:yI.T} {l:List (Int×Int)} {k:Nat} (h:okE x (chK x l k) (l.getD k (0,0))=true):chK x l (k+1)=chK x l k++[l.getD k (0,0)]:=if_pos h
theorem zZW {x:yI.T} {l:List (Int×Int)} {k:Nat} (h: ¬ okE x (chK x l k) (l.getD k (0,0))=true):chK x l (k+1)=chK x l k:=if_neg h
theorem zM1 (x:yI.T) (l:List (Int×Int)): ∀ k,(chK x l k).length<=k
 | 0=>zI _
 | k+1=>by
   have:=zM1 x l k;unfold chK;split
   ·rw [zN,List.length_singleton];omega
   ·omega
theorem zJH {x:yI.T} (g:Full x) (hs:jV (InN x.1.1) x.1.2) {C:List (Int×Int)} {e:Int×Int} :okE x C e=true↔zBN x.1.2 e.1 e.2/\∀ c∈C,zAS x.1.2 c.1 c.2 e.1 e.2:=by
 unfold okE;rw [zC,zP,zKH g hs,zJ];exact and_congr_right fun _=>forall_congr' fun c=>forall_congr' fun _=>zPn
structure z6A (x:yI.T) (C:List (Int×Int)):Prop where
 free: ∀ e∈C,zBN x.1.2 e.1 e.2
 apart:C.Pairwise fun e f=>zAS x.1.2 e.1 e.2 f.1 f.2
theorem z6A.snoc {x:yI.T} {C:List (Int×Int)} {e:Int×Int} (h:z6A x C) (k:zBN x.1.2 e.1 e.2) (ka: ∀ c∈C,zAS x.1.2 c.1 c.2 e.1 e.2):z6A x (C++[e]) :=
 ⟨fun f hf=>(yD.1 hf).elim (h.free f) fun q=>by rw [zF.1 q];exact k,
   List.pairwise_append.2 ⟨h.apart,List.pairwise_singleton _ _,fun c hc d hd=>by rw [zF.1 hd];exact ka c hc⟩⟩
theorem zLL {x:yI.T} (g:Full x) (hs:jV (InN x.1.1) x.1.2) (l:List (Int×Int)): ∀ k,z6A x (chK x l k)
 | 0=>⟨fun e h=>(by cases h),List.Pairwise.nil⟩
 | k +1=>by
   have ih:=zLL g hs l k
   by_cases h:okE x (chK x l k) (l.getD k (0,0))=true
   ·rw [zNJ h];obtain ⟨h1,h2⟩:=(zJH g hs).1 h;exact ih.snoc h1 h2
   ·rw [zZW h];exact ih
theorem zVS {x:yI.T} (g:Full x) (hs:jV (InN x.1.1) x.1.2) {l:List (Int×Int)} (h:z6A x l): ∀ k,k<=l.length->chK x l k=l.take k
 | 0,_=>rfl
 | k +1,hk=>by
   have ih:=zVS g hs h k (by omega)
   have e:l.take (k+1)=l.take k++[l.getD k (0,0)]:=by
    rw [yB (by omega),zR,zG (by omega)];rfl
   rw [zNJ,ih,e];rw [ih,zJH g hs]
   have hm:l.getD k (0,0)∈l:=by
    rw [zR,zG (by omega)];exact yQ _
   refine ⟨h.free _ hm,fun c hc=> ?_⟩;have hp:=h.apart;rw [<- jE (k+1) l,e] at hp;have:=(List.pairwise_append.1 ((List.pairwise_append.1 hp).1)).2.2 c hc _ (zF.2 rfl);exact this
theorem zQM {x:yI.T} (g:Full x) (hs:jV (InN x.1.1) x.1.2) {l:List (Int×Int)} :(zAh x l).length=l.length↔z6A x l:=by
 constructor
 ·intro h
  have key: ∀ k,k<=l.length->(chK x l k).length=k->chK x l k=l.take k:=fun k=>by
   induction k with
   | zero=>exact fun _ _=>rfl
   | succ k ih =>
     intro hk he;have hl:=zM1 x l k
     by_cases c:okE x (chK x l k) (l.getD k (0,0))=true
     ·rw [zNJ c] at he ⊢;rw [zN,List.length_singleton] at he;rw [ih (by omega) (by omega),yB (by omega),zR,zG (by omega)];rfl
     ·rw [zZW c] at he;omega
  have e:=key l.length (zI _) h;rw [List.take_length] at e;rw [<- e];exact zLL g hs l l.length
 ·intro h;unfold zAh;rw [zVS g hs h l.length (zI _),List.take_length]
end S1
open Go Go.Vm Go.Proofs
namespace S1
theorem z6S {σ:Sig} {β:yR} {v:Value} (h:y6 σ β ((ETy.pt yI).av none) v):y6 σ β (z8M none) v:=by
 have h:[v]=[Value.pointer none]:=h;exact ⟨(List.cons.inj h).1,by simp [z8L]⟩
theorem zCn.res {P:Program} {f:FuncId} {args:List AV} {p q:Option Prop} {u u':AV} (h:zCn P f args (p,q,u)) (hu: ∀ (σ:Sig) (v:Value),y6 σ [] u v->y6 σ [] u' v):zCn P f args (p,q,u') :=
 fun σ vals w h1 h2=>⟨(h σ vals w h1 h2).1,fun hq=>((h σ vals w h1 h2).2 hq).mono fun _ _ ⟨v,σ',e1,e2,e3,e4,e5,e6⟩=>⟨v,σ',e1,e2,e3,e4,hu σ' v e5,e6⟩⟩
def zKs (x:yI.T):List AV->Option Res:=zEz qP (fun s=>some (none,some (zHP s=some x),.tup [(ETy.pt yI).av (some x),zB0.av (0,0,0)]))
theorem zMB (x:yI.T):qM Tryz.prog 54 (zKs x):=⟨zA1 fun s r h=>by
 cases h;intro σ vals w hag hv;refine ⟨trivial,fun hq=> ?_⟩;have hq:zHP s=some x:=hq;have:=(newRow.1 _ _ (rfl:z9G [qP.av s]=_) σ vals w hag hv).2 trivial
 have hc:(zJr s).1=0:=by
  unfold zHP at hq;split at hq
  ·assumption
  ·cases hq
 rw [hq,zQj hc] at this
 exact this,_,Tryz.func54,by kernel_rfl,by kernel_rfl⟩
def zVC:List AV->Option Res:=zEz qP (fun s=>some (none,some (zHP s=none),.tup [z8M none,zB0.av (zJr s)]))
theorem zXB:qM Tryz.prog 54 zVC:=⟨zA1 fun s r h=>by
 cases h;intro σ vals w hag hv;refine ⟨trivial,fun hq=> ?_⟩;have hq:zHP s=none:=hq;have:=(newRow.1 _ _ (rfl:z9G [qP.av s]=_) σ vals w hag hv).2 trivial;rw [hq] at this;refine this.mono fun e w' ⟨v,σ',e1,e2,e3,e4,e5,e6⟩=>⟨v,σ',e1,e2,e3,e4,?_,e6⟩;obtain ⟨vs,e,r⟩:=e5
 match vs,r with
 | [a,b],r=>exact ⟨_,e,z6S r.1,r.2.1,trivial⟩,_,Tryz.func54,by kernel_rfl,by kernel_rfl⟩
end S1
open Go Go.Vm Go.Proofs
namespace S1
def doE (s:SoT) (a b:Int):Int:=if isR s=true then (if (0<=a/\a<s.1)/\(0<=b/\b<s.1) then zO7 (zDV (zAa s) a b) else 2) else 11
def doR (s:SoT) (a b:Int):SoT×zAJ×Int:=if doE s a b=0 then ((s.1 - 1,drL a b s.2 s.2.length),zQm s a b,0) else ((0,[]),(0,0,[],[],[]),doE s a b)
def doV (r:SoT×zAJ×Int):AV:= .tup [qP.av r.1,zG3.av r.2.1,.s (.int .i64 r.2.2)]
def doW (r:SoT×zAJ×Int):AV:=if r.2.2=0 then doV r else .tup [.agg [.int .i64 0,.val (.slice none 0 0)],.agg [.int .i64 0,.int .i64 0,.val (.slice none 0 0),.val (.slice none 0 0),.val (.slice none 0 0)],.s (.int .i64 r.2.2)]
theorem zSy {s:SoT} {a b:Int} (h:doE s a b=0):doR s a b=((s.1 - 1,drL a b s.2 s.2.length),zQm s a b,0):=if_pos h
theorem z64 {s:SoT} {a b:Int} (h:doE s a b≠0):doR s a b=((0,[]),(0,0,[],[],[]),doE s a b):=if_neg h
theorem zLI (s:SoT) (a b:Int):(doR s a b).2.2=doE s a b:=by
 by_cases h:doE s a b=0
 ·rw [zSy h,h]
 ·rw [z64 h]
theorem zB4 (s:SoT):isR s=true↔zBK s:=by
 unfold isR;rw [zP];exact ⟨fun h=>(zD9 s).1 (by rw [h]),fun h=>zQj ((zD9 s).2 h)⟩
theorem zIA {s:SoT} (h:zBK s) (a b:Int):doE s a b=if (0<=a/\a<s.1)/\(0<=b/\b<s.1) then zO7 (zDV (zAa s) a b) else 2:=if_pos ((zB4 s).2 h)
theorem z7J {s:SoT} (h:zHP s=none) (a b:Int):doE s a b=11:=if_neg fun k=>by
 have:=(zAu ((zB4 s).1 k)).1;rw [h] at this;cases this
theorem z0v {s:SoT} {a b e:Int} (h:doE s a b=e) (he:e≠0):doW (doR s a b)= .tup [.agg [.int .i64 0,.val (.slice none 0 0)],.agg [.int .i64 0,.int .i64 0,.val (.slice none 0 0),.val (.slice none 0 0),.val (.slice none 0 0)],.s (.int .i64 e)]:=by
 unfold doW;rw [zLI,h,if_neg he]
theorem z6j {s:SoT} {a b:Int} (h:doE s a b=0):doW (doR s a b)=doV ((s.1 - 1,drL a b s.2 s.2.length),zQm s a b,0):=by
 unfold doW;rw [zLI,h,if_pos rfl,zSy h]
theorem zIo {σ:Sig} {e:ETy} {v:Value} (h:y5 σ [] (.val (.slice none 0 0)) v):y5 σ [] (.sl e []) v:=by
 obtain ⟨h,_⟩:=h;subst h;exact zBI (.sl e)
theorem zUl {σ:Sig} {s:SoT} {a b:Int} {v:Value} (h:y6 σ [] (doW (doR s a b)) v):y6 σ [] (doV (doR s a b)) v:=by
 by_cases he:doE s a b=0
 ·rw [z6j he] at h;rw [zSy he];exact h
 ·rw [z0v rfl he] at h;rw [z64 he];obtain ⟨vs,e1,h⟩:=h
  match vs,h with
  | [x,y,z],⟨⟨ds,ea,h1⟩,⟨dt,eb,h2⟩,h3⟩ =>
    refine ⟨_,e1,⟨ds,ea,?_⟩,⟨dt,eb,?_⟩,h3⟩
    ·match ds,h1 with
     | [d1,d2],⟨k1,k2,k3⟩=>exact ⟨k1,zIo k2,k3⟩
    ·match dt,h2 with
     | [d1,d2,d3,d4,d5],⟨k1,k2,k3,k4,k5,k6⟩=>exact ⟨k1,k2,zIo k3,zIo k4,zIo k5,k6⟩
theorem z9l (a:Int) (t:P3):(zPC a [t.1,t.2.1,t.2.2] 0>=0↔z8 t a)/\(z8 t a->zPC a [t.1,t.2.1,t.2.2] 0=zKb a t):=by
 obtain ⟨x,y,z⟩:=t;simp only [zPC,z8,zKb];refine ⟨?_,fun h=> ?_⟩
 ·by_cases h1:a=x
  ·rw [if_pos h1];exact ⟨fun _=> .inl h1.symm,fun _=>by decide⟩
  ·rw [if_neg h1]
   by_cases h2:a=y
   ·rw [if_pos h2];exact ⟨fun _=> .inr (.inl h2.symm),fun _=>by decide⟩
   ·rw [if_neg h2]
    by_cases h3:a=z
    ·rw [if_pos h3];exact ⟨fun _=> .inr (.inr h3.symm),fun _=>by decide⟩
    ·rw [if_neg h3];exact ⟨fun h=>absurd h (by decide),fun h=>by omega⟩
 ·by_cases h1:x=a
  ·rw [if_pos h1,if_pos h1.symm];rfl
  ·rw [if_neg h1,if_neg (Ne.symm h1)]
   by_cases h2:y=a
   ·rw [if_pos h2,if_pos h2.symm];rfl
   ·rw [if_neg h2,if_neg (Ne.symm h2),if_pos (by omega)];rfl
theorem z9z (a:Int) (t:P3):zDv a [t.1,t.2.1,t.2.2]=true↔z8 t a:=by unfold zDv;rw [zP];exact (z9l a t).1
theorem zMP {a b v:Int} (h:0<=v):zJs v a b=dn a (ph a b v):=by
 unfold zJs dn ph;rw [if_neg (by omega)]
theorem z6u (a b:Int) (l:List P3):atL a b l 0=[]:=rfl
theorem z6t (a b:Int) (l:List P3):rtL a b l 0=[]:=rfl
theorem z2k (a b:Int) (l:List P3):zDn a b l 0=[]:=rfl
theorem z8E (a b:Int) (l:List P3):drL a b l 0=[]:=rfl
theorem z6i {a b:Int} {l:List P3} {i:Nat} (h:both a b (tg l i)=true):atL a b l (i+1)=atL a b l i++[(i:Int)]/\rtL a b l (i+1)=rtL a b l i++[tg l i]/\zDn a b l (i+1)=zDn a b l i/\drL a b l (i+1)=drL a b l i:=by
 have e1:atL a b l (i+1)=atL a b l i++(atG a b l i).toList:=q9 _ _;have e2:rtL a b l (i+1)=rtL a b l i++(rtG a b l i).toList:=q9 _ _;have e3:zDn a b l (i+1)=zDn a b l i++(zOt a b l i).toList:=q9 _ _;rw [e1,e2,e3,zFm];unfold atG rtG zOt drG;rw [if_pos h,if_pos h,if_pos h,if_pos h];exact ⟨rfl,rfl,List.append_nil _,List.append_nil _⟩
theorem z83 {a b:Int} {l:List P3} {i:Nat} (h: ¬ both a b (tg l i)=true) (h2:z8 (tg l i) a):atL a b l (i+1)=atL a b l i/\rtL a b l (i+1)=rtL a b l i/\zDn a b l (i+1)=zDn a b l i++[3*(i:Int)+zKb a (tg l i)]/\drL a b l (i+1)=drL a b l i++[drT a b (tg l i)]:=by
 have e1:atL a b l (i+1)=atL a b l i++(atG a b l i).toList:=q9 _ _;have e2:rtL a b l (i+1)=rtL a b l i++(rtG a b l i).toList:=q9 _ _;have e3:zDn a b l (i+1)=zDn a b l i++(zOt a b l i).toList:=q9 _ _;rw [e1,e2,e3,zFm];unfold atG rtG zOt drG;rw [if_neg h,if_neg h,if_neg h,if_neg h,if_pos h2];exact ⟨List.append_nil _,List.append_nil _,rfl,rfl⟩
theorem z8m {a b:Int} {l:List P3} {i:Nat} (h2: ¬ z8 (tg l i) a):atL a b l (i+1)=atL a b l i/\rtL a b l (i+1)=rtL a b l i/\zDn a b l (i+1)=zDn a b l i/\drL a b l (i+1)=drL a b l i++[drT a b (tg l i)]:=by
 have h: ¬ both a b (tg l i)=true:=fun k=>h2 ((zBk.1 k).1);have e1:atL a b l (i+1)=atL a b l i++(atG a b l i).toList:=q9 _ _;have e2:rtL a b l (i+1)=rtL a b l i++(rtG a b l i).toList:=q9 _ _;have e3:zDn a b l (i+1)=zDn a b l i++(zOt a b l i).toList:=q9 _ _;rw [e1,e2,e3,zFm];unfold atG rtG zOt drG;rw [if_neg h,if_neg h,if_neg h,if_neg h,if_neg h2];exact ⟨List.append_nil _,List.append_nil _,List.append_nil _,rfl⟩
theorem zND {s:SoT} (h:zBK s):zD4 s=true:=by
 have hf:=h.fit
 have hb:zSo s.1 s.2 0= -1:=zUX _ _ _ fun t ht=>by
  obtain ⟨i,hi,e⟩:=zAO ht;have h1:=hf.2.2.2 i hi;have h2:=h.deg i hi;have e2:s.2.getD i (0,0,0)=t:=e;rw [e2] at h1;rw [e] at h2;unfold dgn at h2;unfold z1H;rw [h1];simp only [Bool.true_and,zC,bne_iff_ne];exact ⟨fun k=>h2 (.inl k),fun k=>h2 (.inr (.inl k)),fun k=>h2 (.inr (.inr k))⟩
 unfold zD4;have h1:=hf.1;have h2:=hf.2.1;have h3:=hf.2.2.1;rw [hb,decide_eq_false (by omega),decide_eq_false (by omega),decide_eq_false (by omega),decide_eq_false (by omega)];rfl
theorem z4p {s:SoT} (h:zBK s) {a b:Int} (hn: ¬ ((0<=a/\a<s.1)/\(0<=b/\b<s.1))):doE s a b=2:=by rw [zIA h,if_neg hn]
theorem z6w {s:SoT} (h:zBK s) {a b:Int} (hn:(0<=a/\a<s.1)/\(0<=b/\b<s.1)):doE s a b=zO7 (z6E (some (zAa s)) a b):=by rw [zIA h,if_pos hn];rfl
def zNo (n a b:Int) (l:List P3):Spec Nat where
 inv i:=i<=l.length
 live i:=[(71,.s (.int .i64 i))]
 keep:=[1,2,3,6,7,8,12,13,69,70]
 heap i:=[(4,.flat 103 [.int .i64 a,.int .i64 b,.own 6 0 (atL a b l i).length,.own 7 0 (rtL a b l i).length,.own 8 0 (zDn a b l i).length]),(5,.flat 24 [.int .i64 (n - 1),.own 9 0 (drL a b l i).length]),
  (6,.row y8 3 (atL a b l i)),(7,.row .arr3 86 (rtL a b l i)),(8,.row y8 3 (zDn a b l i)),(9,.row .arr3 86 (drL a b l i))]
 keepH:=[0,1,2,3]
 mu i:=l.length - i
 nils:=[4,4,4,5]
attribute [local irreducible] doW z6E zO7 zDv zPC atL rtL zDn drL zJs zD4
theorem z7F (n:Int) (l:List P3) (a b:Int) (x:yI.T) (hx:zHP (n,l)=some x):zAG ⟨tyL,[(54,zKs x),(100,zMX),(69,z4l),(101,zXr),(102,zF6),(103,zAe),(104,zPo)],[]⟩ Tryz.f65 [qP.av (n,l),y8.av a,y8.av b] (fun r=>r=doW (doR (n,l) a b)):=by
 obtain ⟨e0,g,hs⟩:=zHj hx
 repeat' (conv=>whnf
          first|done|refine qN ?_|apply qH|refine qG fun _=> ?_|apply qB|apply qa|apply qo|refine qe (fun _=> ?_) (fun _=> ?_)|refine qn (fun _=> ?_) (fun _=> ?_)|refine qd (fun _=> ?_) (fun _=> ?_)|apply qt|refine qi (fun _=> ?_) (fun _=> ?_)|(refine qS 12 rfl ?_;refine Or.inr (zB (Nat) (zB (zNo n a b l) (zA (zB (0) (zA (yJ.out ?_) (zA ?_ (zA ?_ rfl)))) (fun i hi=> ?_)))))|with_reducible refine zaA (zNo _ _ _ _) (i+1) ?_ ?_ ?_ ?_|refine zA rfl ?_|apply qE|apply qO|exact zO|apply qq|apply qs|refine qK (by kernel_rfl) ?_|apply qr)
 all_goals try first|refine qz ?_|apply qz5
 all_goals try simp only [z6,zS,yE,zZ,qn1,z7,qn2,zX,ETy.dflt,qn3,qn4,Int.reduceToNat,Int.reduceAdd,Int.reduceSub,Int.reduceNeg,Nat.reduceAdd,zD,zNo] at *
 all_goals have hf:=hs.fit
 all_goals have hn:0<=n/\n<=4096:=⟨hf.1,hf.2.1⟩
 all_goals have hl:l.length<=8192:=hf.2.2.1
 all_goals try exact y9.intro (z0v (z4p hs (by show ¬ ((0<=a/\a<n)/\0<=b/\b<n);omega)) (by decide)).symm
 all_goals try exact yJ.intro (fun y e=>by cases e;exact g.toGood)
 all_goals try exact absurd (zND hs) (by rw [show zD4 (n,l)=false by assumption];decide)
 all_goals have hab:(0<=a/\a<n)/\(0<=b/\b<n):=by omega
 all_goals have hE:doE (n,l) a b=zO7 (z6E (some x) a b):=by rw [e0];exact z6w hs hab
 all_goals try exact y9.intro (z0v hE (by assumption)).symm
 all_goals try first|exact z6u a b l|exact z6t a b l|exact z2k a b l|exact z8E a b l|(rw [z6u,z6t,z2k];exact jL.intro rfl)|(rw [z8E];exact jL.intro rfl)
 all_goals try (refine yJ.intro ?_;unfold yP;omega)
 all_goals try (refine yJ.intro ?_;omega)
 all_goals try
  have hi9:i=l.length:=by omega
  subst hi9;rw [z6j (hE.trans (by assumption))];exact y9.intro rfl
 all_goals have hi1:(i:Int)<l.length:=by assumption
 all_goals have hla:(atL a b l i).length<=i:=z6V a b l i
 all_goals have hlr:(rtL a b l i).length<=i:=z6n a b l i
 all_goals have hlf:(zDn a b l i).length<=i:=z5i a b l i
 all_goals have hld:=z5F a b l i
 all_goals have ht:(0<=(l.getD i (0,0,0)).1/\(l.getD i (0,0,0)).1<n)/\(0<=(l.getD i (0,0,0)).2.1/\(l.getD i (0,0,0)).2.1<n)/\(0<=(l.getD i (0,0,0)).2.2/\(l.getD i (0,0,0)).2.2<n):=zAH (hf.2.2.2 i (show i<l.length by omega))
 all_goals try (refine yJ.intro ?_;omega)
 all_goals try (refine yJ.intro ⟨⟨?_,?_⟩,?_,?_⟩<;>clear hi hi1 hx e0 g hs hf hE<;>omega)
 all_goals try exact absurd (show zPC a [(l.getD i (0,0,0)).fst,(l.getD i (0,0,0)).snd.fst,(l.getD i (0,0,0)).snd.snd] 0>=0 by assumption) (by assumption)
 all_goals have fa:=z9l a (l.getD i (0,0,0))
 all_goals have fb:=z9z b (l.getD i (0,0,0))
 all_goals have hp3:=zQh (a:=a) (t:=l.getD i (0,0,0))
 all_goals have eD:drT a b (l.getD i (0,0,0))=(zJs (l.getD i (0,0,0)).1 a b,zJs (l.getD i (0,0,0)).2.1 a b,zJs (l.getD i (0,0,0)).2.2 a b):=by
            rw [zMP ht.1.1,zMP ht.2.1.1,zMP ht.2.2.1];rfl
 all_goals try
  have kb:zDv b [(l.getD i (0,0,0)).fst,(l.getD i (0,0,0)).snd.fst,(l.getD i (0,0,0)).snd.snd]=true:=by assumption
  have ka:z8 (l.getD i (0,0,0)) a:=fa.1.1 (by assumption);obtain ⟨k1,k2,k3,k4⟩:=z6i (a:=a) (b:=b) (l:=l) (i:=i) (zBk.2 ⟨ka,fb.1 kb⟩);rw [k1,k2,k3];exact jL.intro (by simp only [zN,List.length_singleton])
 all_goals try
  have kb:zDv b [(l.getD i (0,0,0)).fst,(l.getD i (0,0,0)).snd.fst,(l.getD i (0,0,0)).snd.snd]=true:=by assumption
  have ka:z8 (l.getD i (0,0,0)) a:=fa.1.1 (by assumption);obtain ⟨k1,k2,k3,k4⟩:=z6i (a:=a) (b:=b) (l:=l) (i:=i) (zBk.2 ⟨ka,fb.1 kb⟩)
  first|exact k1|exact k2|exact k3|exact k4|(rw [k4];exact jL.intro rfl)
 all_goals try
  have kb:zDv b [(l.getD i (0,0,0)).fst,(l.getD i (0,0,0)).snd.fst,(l.getD i (0,0,0)).snd.snd]=false:=by assumption
  have ka:z8 (l.getD i (0,0,0)) a:=fa.1.1 (by assumption);have eF:=fa.2 ka;have kn: ¬ both a b (tg l i)=true:=fun k=>by rw [fb.2 (zBk.1 k).2] at kb;cases kb
  obtain ⟨k1,k2,k3,k4⟩:=z83 (a:=a) (b:=b) (l:=l) (i:=i) kn ka
  first
  | exact k1
  | exact k2
  | (rw [eF];exact k3)
  | (rw [<- eD];exact k4)
  | (rw [k1,k2,k3];exact jL.intro (by simp only [zN,List.length_singleton]))
  | (rw [k4];exact jL.intro (by simp only [zN,List.length_singleton]))
  | (rw [eF];refine yJ.intro ?_;unfold yP;omega)
 all_goals
  have ka: ¬ z8 (l.getD i (0,0,0)) a:=fun k=>absurd (fa.1.2 k) (by assumption);obtain ⟨k1,k2,k3,k4⟩:=z8m (a:=a) (b:=b) (l:=l) (i:=i) ka
  first
  | exact k1
  | exact k2
  | exact k3
  | (rw [<- eD];exact k4)
  | (rw [k1,k2,k3];exact jL.intro rfl)
  | (rw [k4];exact jL.intro (by simp only [zN,List.length_singleton]))
theorem z3k (n:Int) (l:List P3) (a b:Int) (hx:zHP (n,l)=none):zAG ⟨tyL,[(54,zVC),(100,zMX),(69,z4l),(101,zXr),(102,zF6),(103,zAe),(104,zPo)],[]⟩ Tryz.f65 [qP.av (n,l),y8.av a,y8.av b] (fun r=>r=doW (doR (n,l) a b)):=by
 have e:=z0v (z7J hx a b) (by decide)
 repeat' (conv=>whnf
          first|done|refine qN ?_|apply qH|refine qG fun _=> ?_|apply qB|apply qa|apply qo|refine qe (fun _=> ?_) (fun _=> ?_)|refine qn (fun _=> ?_) (fun _=> ?_)|refine qd (fun _=> ?_) (fun _=> ?_)|apply qt|refine qi (fun _=> ?_) (fun _=> ?_)|(refine qS 12 rfl ?_;refine Or.inr (zB (Nat) (zB (zNo n a b l) (zA (zB (0) (zA (yJ.out ?_) (zA ?_ (zA ?_ rfl)))) (fun i hi=> ?_)))))|with_reducible refine zaA (zNo _ _ _ _) (i+1) ?_ ?_ ?_ ?_|refine zA rfl ?_|apply qE|apply qO|exact zO|apply qq|apply qs|refine qK (by kernel_rfl) ?_|apply qr)
 all_goals try first|refine qz ?_|apply qz5
 all_goals try simp only [z6,zS,yE,zZ,qn1,z7,qn2,zX,ETy.dflt,qn3,qn4,Int.reduceToNat,Int.reduceAdd,Int.reduceSub,Int.reduceNeg,Nat.reduceAdd,zD] at *
 all_goals try exact yJ.intro hx
 all_goals exact y9.intro e.symm
def z5p:List AV->Option Res:=zOw qP y8 y8 (fun s a b=>some (none,none,doV (doR s a b)))
theorem zVA:qM Tryz.prog 65 z5p:=⟨zDZ fun s a b r h=>by
 cases h;cases e:zHP s with
 | none=>exact zCn.res (qL (yN (fn:=[(54,zVC),(100,zMX),(69,z4l),(101,zXr),(102,zF6),(103,zAe),(104,zPo)]) (fr:=[]) ⟨zXB,zL5,zXj,zVJ,zJD,zCU,zPh,trivial⟩ trivial) Tryz.func65 (by kernel_rfl) fun _ _=>z3k s.1 s.2 a b e) fun σ v h=>zUl h
 | some x=>exact zCn.res (qL (yN (fn:=[(54,zKs x),(100,zMX),(69,z4l),(101,zXr),(102,zF6),(103,zAe),(104,zPo)]) (fr:=[]) ⟨(zMB x),zL5,zXj,zVJ,zJD,zCU,zPh,trivial⟩ trivial) Tryz.func65 (by kernel_rfl) fun _ _=>z7F s.1 s.2 a b x e) fun σ v h=>zUl h,_,Tryz.func65,by kernel_rfl,by kernel_rfl⟩
end S1
