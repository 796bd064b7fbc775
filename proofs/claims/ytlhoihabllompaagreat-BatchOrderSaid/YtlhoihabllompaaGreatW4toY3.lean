/- A part of the proofs of the laws. -/
import Derived.Test.YtlhoihabllompaaGreatF8atoW3
import Derived.Test.YtlhoihabllompaaGreatT0toVmInl
set_option linter.unusedSimpArgs false
set_option linter.unusedVariables false
set_option maxHeartbeats 8000000
set_option maxRecDepth 100000
open Go Go.Vm Go.Proofs
namespace S1
theorem z2b {x:yI.T} {d:Int} (h:j6 x d=true):(qY x d / 3).toNat=(d / 3).toNat:=by
 rw [zAg h];unfold trn;omega
theorem z2F {x:yI.T} {d:Int} (h:j6 x d=true):(qV x d / 3).toNat=(d / 3).toNat:=by
 rw [zBP h];unfold trn;omega
theorem rot {x:yI.T} (g:Full x) {c d:Int} (hin:zAY x c=true) {s1 s2:P3} (h1:s1∈x.1.2) (h2:s2∈x.1.2) (e1:dE s1 d c) (e2:dE s2 c d) (Q:P3->Prop)
 (hQ: ∀ s∈x.1.2,∀ r∈x.1.2,z8 s c->z8 r c->(∃ w:Int,w≠c/\w≠d/\z8 s w/\z8 r w)->Q s->Q r):Q s1↔Q s2:=by
 have hno:=((zDx g).1 hin).2;obtain ⟨i1,hi1,rfl⟩:=zAO h1;obtain ⟨i2,hi2,rfl⟩:=zAO h2;obtain ⟨p1,a1,a2,a3⟩:=zHH hi1 e1;obtain ⟨p2,b1,b2,b3⟩:=zHH hi2 e2;have y1h:=(zAF a1).2;have y2h:=(zAF b1).1;have y1v:yS x (qV x p1)=c:=congrArg Prod.snd a2;have y1p:yS x (qV x (qV x p1))=d:=by rw [(np a1).2.2.2];exact congrArg Prod.fst a2
 have y2v:yS x (qY x p2)=c:=congrArg Prod.fst b2;have y2n:yS x (qY x (qY x p2))=d:=by rw [(np b1).2.2.1];exact congrArg Prod.snd b2
 have y1t:(qV x p1 / 3).toNat=i1:=by rw [z2F a1,a3]
 have y2t:(qY x p2 / 3).toNat=i2:=by rw [z2b b1,b3]
 have hy:=g.after_is y1h y2h (y2v.trans y1v.symm) (y2n.trans y1p.symm);generalize qV x p1=y1 at *;generalize qY x p2=y2 at *
 have aft: ∀ y,j6 x y=true->yS x y=c->0<=yO x y/\j6 x (yO x y)=true/\yS x (yO x y)=c:=fun y k1 k2=>by
  have h0:0<=yO x y:=by
   refine Int.not_lt.1 fun hlt=> ?_;have:=zTz g k1 hlt;rw [k2] at this;exact hno ⟨_,this⟩
  exact ⟨h0,(g.toGood.after_has h0).2.1,(g.toGood.after_v h0).1.trans k2⟩
 have zk: ∀ y,j6 x y=true->yS x y=c->∀ k,j6 x (iter (yO x) y k)=true/\yS x (iter (yO x) y k)=c:=fun y k1 k2 k=>by
  induction k with
  | zero=>exact ⟨k1,k2⟩
  | succ k ih=>have:=aft _ ih.1 ih.2;exact ⟨this.2.1,this.2.2⟩
 have hex: ∃ n,iter (yO x) y2 n=y1:=by
  apply yF;intro hn
  have:zT3 (yO x) y1 24577:=fun j j1 j2=>by
   obtain ⟨j,rfl⟩: ∃ j',j=j'+1:=⟨j - 1,by omega⟩;have k:=zk y1 y1h y1v j;refine ⟨(aft _ k.1 k.2).1,fun e=>hn ⟨j,?_⟩⟩;rw [<- hy];have:=zLt (yO x) y1 1 j;have this:iter (yO x) (yO x y1) j=iter (yO x) y1 (1+j):=this;rw [this,Nat.add_comm];exact e
  have:=zAz g.toGood this;omega
 obtain ⟨n,hn⟩:=hex;obtain ⟨m,m1,_,m3⟩:=exists_least (P:=fun n=>iter (yO x) y2 n=y1) hn
 have step: ∀ k,k<m->(Q (tg x.1.2 (iter (yO x) y2 k / 3).toNat)↔Q (tg x.1.2 (iter (yO x) y2 (k+1) / 3).toNat)):=fun k hk=>by
  obtain ⟨k1,k2⟩:=zk y2 y2h y2v k;obtain ⟨l1,l2⟩:=zk y2 y2h y2v (k+1);have ha:=(aft _ k1 k2).1;have hv:=(g.toGood.after_v ha).2;have hv:yS x (qY x (iter (yO x) y2 (k+1)))=yS x (qV x (iter (yO x) y2 k)):=hv;have wc:yS x (qV x (iter (yO x) y2 k))≠c:=fun e=>(g.toGood.ne k1).2.1 (k2.trans e.symm);have wd:yS x (qV x (iter (yO x) y2 k))≠d:=fun e=>m3 k hk (g.toGood.sameP k1 y1h (k2.trans y1v.symm) (e.trans y1p.symm))
  have t1:=zAw k1;have t2:=zAw l1;have p1:=zAw (zAF k1).2;have n1:=zAw (zAF l1).1;rw [z2F k1] at p1;rw [z2b l1,hv] at n1;rw [k2] at t1;rw [l2] at t2;exact ⟨hQ _ (qI t1.1) _ (qI t2.1) t1.2 t2.2 ⟨_,wc,wd,p1.2,n1.2⟩,hQ _ (qI t2.1) _ (qI t1.1) t2.2 t1.2 ⟨_,wc,wd,n1.2,p1.2⟩⟩
 have all: ∀ k,k<=m->(Q (tg x.1.2 (y2 / 3).toNat)↔Q (tg x.1.2 (iter (yO x) y2 k / 3).toNat)):=fun k=>by
  induction k with
  | zero=>exact fun _=>Iff.rfl
  | succ k ih=>exact fun hk=>(ih (by omega)).trans (step k (by omega))
 have:=all m (zI _);rw [m1,y1t,y2t] at this;exact this.symm
theorem four {t:P3} (hd: ¬ dgn t) {a b p q:Int} (h1:a≠b) (h2:a≠p) (h3:a≠q) (h4:b≠p) (h5:b≠q) (h6:p≠q) (k1:z8 t a) (k2:z8 t b) (k3:z8 t p) (k4:z8 t q):False:=by
 obtain ⟨r,_,_,_,e⟩:=zH6 hd h1 k1 k2;rcases e p k3 with e1|e1|e1
 ·exact h2 e1.symm
 ·exact h4 e1.symm
 ·rcases e q k4 with e2|e2|e2
  ·exact h3 e2.symm
  ·exact h5 e2.symm
  ·exact h6 (e1.trans e2.symm)
section
variable {x:yI.T} {a b:Int}
theorem zT4 (g:Full x) (hs:jV (InN x.1.1) x.1.2) (hw:zDV x a b=0) (hab:a≠b): ∀ t∈x.1.2,z8 t a->z8 t b->∀ v,v≠a->v≠b->z8 t v->∃ u∈x.1.2,u≠t/\z8 u v/\(z8 u a\/z8 u b):=by
 intro t ht ta tb v va vb tv;apply yF;intro hn;have hno: ∀ u∈x.1.2,z8 u v->(z8 u a\/z8 u b)->u=t:=fun u hu uv uab=>yF fun e=>hn ⟨u,hu,e,uv,uab⟩;obtain ⟨w1,w2,w3⟩:=zQW hw;have hd:=hs.deg t ht
 -- it stands alone
 have main : ∀ p q:Int,((p=a/\q=b)\/(p=b/\q=a))->dE t p q->dE t q v->dE t v p->False:=fun p q hpq o1 o2 o3=>by
  have pab: ∀ {u:P3} {w:Int},(w=p\/w=q)->z8 u w->z8 u a\/z8 u b:=fun {u w} h1 h2=>by
   rcases hpq with ⟨e1,e2⟩|⟨e1,e2⟩<;>rcases h1 with e|e<;>(subst e;subst e1;subst e2;first|exact .inl h2|exact .inr h2)
  have no1: ¬ eE x.1.2 v q:=fun h=>by
   obtain ⟨u,hu,k⟩:=zDh.1 h;have:=hno u hu (jN k).1 (pab (.inr rfl) (jN k).2);rw [this] at k;exact zEM hd o2 k
  have no2: ¬ eE x.1.2 p v:=fun h=>by
   obtain ⟨u,hu,k⟩:=zDh.1 h;have:=hno u hu (jN k).2 (pab (.inl rfl) (jN k).1);rw [this] at k;exact zEM hd o3 k
  have yes: ∀ {u w:Int},dE t u w->eE x.1.2 u w:=fun k=>zDh.2 ⟨t,ht,k⟩;have b1:bE x q v:=(zHJ g).2 ⟨yes o2,no1⟩;have b2:bE x v p:=(zHJ g).2 ⟨yes o3,no2⟩
  have ip:zAY x p=false:=by
   rw [<- Bool.not_eq_true,zDx g];exact fun k=>k.2 ⟨_,b2⟩
  have iq:zAY x q=false:=by
   rw [<- Bool.not_eq_true,zDx g];exact fun k=>k.2 (zCo g b1)
  have no3: ¬ eE x.1.2 q p:=fun h=>by
   rcases hpq with ⟨e1,e2⟩|⟨e1,e2⟩
   ·subst e1;subst e2;exact w2 ⟨zHo g (yes o1) h,ip,iq⟩
   ·subst e1;subst e2;exact w2 ⟨zHo g h (yes o1),iq,ip⟩
  obtain ⟨i0,hi0,rfl⟩:=zAO ht
  have cnt:=zJG g hs (a:=a) (hs.ent _ ht a ta) (S:=[i0]) (List.nodup_cons.2 ⟨by simp,List.nodup_nil⟩) (by simp) ta (fun i hi=>by rw [zF] at hi;subst hi;exact hi0)
   (fun i hi j ha=>by
     rw [zF] at hi;subst hi;exfalso;obtain ⟨_,hj,u,w,d1,d2⟩:=(zLF g).1 ha;have hwu:eE x.1.2 w u:=⟨j,hj,d2⟩;have hu:=jN d1;have neuw:=zNw hd d1
     have mem: ∀ z,z8 (tg x.1.2 i) z->z=p\/z=q\/z=v:=fun z hz=>by
      obtain ⟨r,r1,r2,r3,r4⟩:=zH6 hd (zNw hd o1) (jN o1).1 (jN o1).2
      have ev:v=r:=by
       rcases r4 v tv with e|e|e
       ·rcases hpq with ⟨e1,e2⟩|⟨e1,e2⟩
        ·exact absurd (e.trans e1) va
        ·exact absurd (e.trans e1) vb
       ·rcases hpq with ⟨e1,e2⟩|⟨e1,e2⟩
        ·exact absurd (e.trans e2) vb
        ·exact absurd (e.trans e2) va
       ·exact e
      rw [ev];exact r4 z hz
     rcases mem u hu.1 with e|e|e<;>rcases mem w hu.2 with e'|e'|e'<;>subst e<;>subst e'
     ·exact neuw rfl
     ·exact no3 hwu
     ·exact zEM hd o3 d1
     ·exact zEM hd o1 d1
     ·exact neuw rfl
     ·exact no1 hwu
     ·exact no2 hwu
     ·exact zEM hd o2 d1
     ·exact neuw rfl)
   (fun i hi=>by rw [zF] at hi;subst hi;exact .refl _)
  have:zB2 x a=true:=by unfold zB2;rw [cnt.1];rfl
  rw [w3] at this;cases this
 rcases z2B hab va.symm vb.symm ta tb tv with ⟨o1,o2,o3⟩|⟨o1,o2,o3⟩
 ·exact main a b (.inl ⟨rfl,rfl⟩) o1 o2 o3
 ·exact main b a (.inr ⟨rfl,rfl⟩) o1 o2 o3
theorem zJS (g:Full x) (hs:jV (InN x.1.1) x.1.2) (w3:zB2 x a=false) (hab:a≠b): ∀ p q,p≠q->p≠a->p≠b->q≠a->q≠b->(∃ t∈x.1.2,z8 t a/\z8 t p/\z8 t q)->(∃ t∈x.1.2,z8 t b/\z8 t p/\z8 t q)->(∃ t∈x.1.2,z8 t a/\z8 t b/\z8 t p)->(∃ t∈x.1.2,z8 t a/\z8 t b/\z8 t q)->False:=by
 rintro p q pq pa pb qa qb ⟨t1,h1,a1,a2,a3⟩ ⟨t2,h2,b1,b2,b3⟩ ⟨t3,h3,c1,c2,c3⟩ ⟨t4,h4,d1,d2,d3⟩;have no4: ∀ t∈x.1.2,z8 t a->z8 t b->z8 t p->z8 t q->False:=fun t ht k1 k2 k3 k4=>four (hs.deg t ht) hab pa.symm qa.symm pb.symm qb.symm pq k1 k2 k3 k4;have n12:t1≠t2:=fun e=>no4 t1 h1 a1 (by rw [e];exact b1) a2 a3;have n13:t1≠t3:=fun e=>no4 t1 h1 a1 (by rw [e];exact c2) a2 a3;have n14:t1≠t4:=fun e=>no4 t1 h1 a1 (by rw [e];exact d2) a2 a3
 have n23:t2≠t3:=fun e=>no4 t2 h2 (by rw [e];exact c1) b1 b2 b3;have n24:t2≠t4:=fun e=>no4 t2 h2 (by rw [e];exact d1) b1 b2 b3;have n34:t3≠t4:=fun e=>no4 t3 h3 c1 c2 c3 (by rw [e];exact d3)
 have mem3: ∀ {t:P3} {u v w z:Int},t∈x.1.2->u≠v->u≠w->v≠w->z8 t u->z8 t v->z8 t w->z8 t z->z=u\/z=v\/z=w:=fun {t u v w z} ht uv uw vw k1 k2 k3 k4=>by
  obtain ⟨r,r1,r2,r3,r4⟩:=zH6 (hs.deg t ht) uv k1 k2
  have e:w=r:=by
   rcases r4 w k3 with e|e|e
   ·exact absurd e.symm uw
   ·exact absurd e.symm vw
   ·exact e
  rw [e];exact r4 z k4
 let F:P3->Prop:=fun t=>t=t1\/t=t2\/t=t3\/t=t4
 -- the other one with an edge
 have oth: ∀ s,F s->∀ u w,u≠w->z8 s u->z8 s w->∃ r,F r/\r∈x.1.2/\r≠s/\z8 r u/\z8 r w:=fun s hs' u w huw su sw=>by
  rcases hs' with e|e|e|e<;>subst e
  ·rcases mem3 h1 pa.symm qa.symm pq a1 a2 a3 su with e|e|e<;>rcases mem3 h1 pa.symm qa.symm pq a1 a2 a3 sw with e'|e'|e'<;>subst e<;>subst e'
   ·exact absurd rfl huw
   ·exact ⟨t3,.inr (.inr (.inl rfl)),h3,n13.symm,c1,c3⟩
   ·exact ⟨t4,.inr (.inr (.inr rfl)),h4,n14.symm,d1,d3⟩
   ·exact ⟨t3,.inr (.inr (.inl rfl)),h3,n13.symm,c3,c1⟩
   ·exact absurd rfl huw
   ·exact ⟨t2,.inr (.inl rfl),h2,n12.symm,b2,b3⟩
   ·exact ⟨t4,.inr (.inr (.inr rfl)),h4,n14.symm,d3,d1⟩
   ·exact ⟨t2,.inr (.inl rfl),h2,n12.symm,b3,b2⟩
   ·exact absurd rfl huw
  ·rcases mem3 h2 pb.symm qb.symm pq b1 b2 b3 su with e|e|e<;>rcases mem3 h2 pb.symm qb.symm pq b1 b2 b3 sw with e'|e'|e'<;>subst e<;>subst e'
   ·exact absurd rfl huw
   ·exact ⟨t3,.inr (.inr (.inl rfl)),h3,n23.symm,c2,c3⟩
   ·exact ⟨t4,.inr (.inr (.inr rfl)),h4,n24.symm,d2,d3⟩
   ·exact ⟨t3,.inr (.inr (.inl rfl)),h3,n23.symm,c3,c2⟩
   ·exact absurd rfl huw
   ·exact ⟨t1,.inl rfl,h1,n12,a2,a3⟩
   ·exact ⟨t4,.inr (.inr (.inr rfl)),h4,n24.symm,d3,d2⟩
   ·exact ⟨t1,.inl rfl,h1,n12,a3,a2⟩
   ·exact absurd rfl huw
  ·rcases mem3 h3 hab pa.symm pb.symm c1 c2 c3 su with e|e|e<;>rcases mem3 h3 hab pa.symm pb.symm c1 c2 c3 sw with e'|e'|e'<;>subst e<;>subst e'
   ·exact absurd rfl huw
   ·exact ⟨t4,.inr (.inr (.inr rfl)),h4,n34.symm,d1,d2⟩
   ·exact ⟨t1,.inl rfl,h1,n13,a1,a2⟩
   ·exact ⟨t4,.inr (.inr (.inr rfl)),h4,n34.symm,d2,d1⟩
   ·exact absurd rfl huw
   ·exact ⟨t2,.inr (.inl rfl),h2,n23,b1,b2⟩
   ·exact ⟨t1,.inl rfl,h1,n13,a2,a1⟩
   ·exact ⟨t2,.inr (.inl rfl),h2,n23,b2,b1⟩
   ·exact absurd rfl huw
  ·rcases mem3 h4 hab qa.symm qb.symm d1 d2 d3 su with e|e|e<;>rcases mem3 h4 hab qa.symm qb.symm d1 d2 d3 sw with e'|e'|e'<;>subst e<;>subst e'
   ·exact absurd rfl huw
   ·exact ⟨t3,.inr (.inr (.inl rfl)),h3,n34,c1,c2⟩
   ·exact ⟨t1,.inl rfl,h1,n14,a1,a3⟩
   ·exact ⟨t3,.inr (.inr (.inl rfl)),h3,n34,c2,c1⟩
   ·exact absurd rfl huw
   ·exact ⟨t2,.inr (.inl rfl),h2,n24,b1,b3⟩
   ·exact ⟨t1,.inl rfl,h1,n14,a3,a1⟩
   ·exact ⟨t2,.inr (.inl rfl),h2,n24,b3,b1⟩
   ·exact absurd rfl huw
 have inl: ∀ s,F s->s∈x.1.2:=fun s k=>by rcases k with e|e|e|e<;>(subst e;assumption)
 -- it has the edge the other way
 have opp: ∀ s,F s->∀ u w,dE s u w->∃ r,F r/\dE r w u:=fun s k u w hd=>by
  have ne:=zNw (hs.deg s (inl s k)) hd;obtain ⟨r,r1,r2,r3,r4,r5⟩:=oth s k u w ne (jN hd).1 (jN hd).2;rcases zCy ne r4 r5 with e|e
  ·exact absurd e (hs.dif s (inl s k) r r2 r3.symm _ _ hd)
  ·exact ⟨r,r1,e⟩
 obtain ⟨i1,l1,e1⟩:=zAO h1;obtain ⟨i2,l2,e2⟩:=zAO h2;obtain ⟨i3,l3,e3⟩:=zAO h3;obtain ⟨i4,l4,e4⟩:=zAO h4
 have inS: ∀ i,i∈[i1,i2,i3,i4]↔i<x.1.2.length/\F (tg x.1.2 i):=fun i=>by
  constructor
  ·intro hi;simp only [zT,List.not_mem_nil,or_false] at hi;rcases hi with e|e|e|e<;>subst e
   ·exact ⟨l1,.inl e1⟩
   ·exact ⟨l2,.inr (.inl e2)⟩
   ·exact ⟨l3,.inr (.inr (.inl e3))⟩
   ·exact ⟨l4,.inr (.inr (.inr e4))⟩
  ·rintro ⟨hi,e|e|e|e⟩
   ·have:=zDg hs.nd hi l1 (e.trans e1.symm);subst this;simp
   ·have:=zDg hs.nd hi l2 (e.trans e2.symm);subst this;simp
   ·have:=zDg hs.nd hi l3 (e.trans e3.symm);subst this;simp
   ·have:=zDg hs.nd hi l4 (e.trans e4.symm);subst this;simp
 have hn:[i1,i2,i3,i4].Nodup:=by
  have d: ∀ {i j:Nat} {t u:P3},tg x.1.2 i=t->tg x.1.2 j=u->t≠u->i≠j:=fun k1 k2 k3 e=>k3 (by rw [<- k1,<- k2,e]);simp only [List.nodup_cons,zT,List.not_mem_nil,or_false,not_or,List.nodup_nil,and_true,not_false_eq_true];exact ⟨⟨d e1 e2 n12,d e1 e3 n13,d e1 e4 n14⟩,⟨d e2 e3 n23,d e2 e4 n24⟩,d e3 e4 n34⟩
 have cnt:=zJG g hs (a:=a) (hs.ent _ h1 a a1) hn (i0:=i1) (by simp) (by rw [e1];exact a1) (fun i hi=>((inS i).1 hi).1)
  (fun i hi j ha=>by
    obtain ⟨k1,k2⟩:=(inS i).1 hi;obtain ⟨_,hj,u,w,f1,f2⟩:=(zLF g).1 ha;obtain ⟨r,r1,r2⟩:=opp _ k2 u w f1;refine (inS j).2 ⟨hj,?_⟩
    by_cases e:tg x.1.2 j=r
    ·rw [e];exact r1
    ·exact absurd r2 (hs.dif _ (qI hj) r (inl r r1) e _ _ f2))
  (fun i hi=>by
    simp only [zT,List.not_mem_nil,or_false] at hi;rcases hi with e|e|e|e<;>subst e
    ·exact .refl _
    ·exact zFn g l1 l2 (v:=p) (by rw [e1];exact a2) (by rw [e2];exact b2) hs
    ·exact zFn g l1 l3 (v:=a) (by rw [e1];exact a1) (by rw [e3];exact c1) hs
    ·exact zFn g l1 l4 (v:=a) (by rw [e1];exact a1) (by rw [e4];exact d1) hs)
 have flag:(smS x (smM x a) (ofR x).length).2=false:=by
  rw [<- Bool.not_eq_true,zHt];rintro ⟨i,hi,hl,d,hd,ho⟩;rw [zMO g.toGood] at hi;have hF:=((inS i).1 ((cnt.2 i hi).1 hl)).2;have hc:j6 x (3*(i:Int)+d)=true:=yH.2 ⟨by omega,by omega⟩;have ke:=zFH hc;rw [show ((3*(i:Int)+d) / 3).toNat=i by omega] at ke;obtain ⟨r,r1,r2⟩:=opp _ hF _ _ ke.2;exact ((zHJ g).1 ⟨_,hc,ho,rfl⟩).2 (zDh.2 ⟨r,inl r r1,r2⟩)
 have:zB2 x a=true:=by unfold zB2;rw [cnt.1,flag];rfl
 rw [w3] at this;cases this
theorem zSq (g:Full x) (hs:jV (InN x.1.1) x.1.2) (hw:zDV x a b=0) (hab:a≠b): ∀ p q,p≠q->p≠a->p≠b->q≠a->q≠b->(∃ t∈x.1.2,z8 t a/\z8 t p/\z8 t q)->(∃ t∈x.1.2,z8 t b/\z8 t p/\z8 t q)->(∃ t∈x.1.2,z8 t a/\z8 t b/\z8 t p)->(∃ t∈x.1.2,z8 t a/\z8 t b/\z8 t q)->False :=
 zJS g hs (zQW hw).2.2 hab
theorem zPy (g:Full x) (hs:jV (InN x.1.1) x.1.2) (hw:zDV x a b=0):zT1 x.1.2 a b:=by
 obtain ⟨w1,w2,w3⟩:=zQW hw
 have hab:a≠b:=fun e=>by
  subst e;rw [zCN g.toGood] at w1;cases w1
 refine ⟨hab,(zBj g hab).1 w1,fun v va vb hva hvb=> ?_,zT4 g hs hw hab,zSq g hs hw hab,fun t ht u hu hne ta tb ua ub=> ?_⟩
 ·have h1:=(zBj g va.symm).2 hva;have h2:=(zBj g vb.symm).2 hvb;exact zWu g (z0l hw v ((zMf g).2 ⟨hab,h1,h2⟩))
 ·have key: ∀ {s r:P3},s∈x.1.2->r∈x.1.2->dE s a b->dE r b a->∃ c,(c=a\/c=b)/\∀ Q:P3->Prop,(∀ s∈x.1.2,∀ r∈x.1.2,z8 s c->z8 r c->(∃ w:Int,w≠a/\w≠b/\z8 s w/\z8 r w)->Q s->Q r)->(Q s↔Q r):=fun {s r} h1 h2 d1 d2=>by
   have two:=zHo g (zDh.2 ⟨s,h1,d1⟩) (zDh.2 ⟨r,h2,d2⟩)
   by_cases ia:zAY x a=true
   ·exact ⟨a,.inl rfl,fun Q hQ=>(rot g ia h2 h1 d2 d1 Q fun s hs r hr k1 k2 ⟨w,e1,e2,e3⟩=>hQ s hs r hr k1 k2 ⟨w,e1,e2,e3⟩).symm⟩
   ·by_cases ib:zAY x b=true
    ·exact ⟨b,.inr rfl,fun Q hQ=>rot g ib h1 h2 d1 d2 Q fun s hs r hr k1 k2 ⟨w,e1,e2,e3⟩=>hQ s hs r hr k1 k2 ⟨w,e2,e1,e3⟩⟩
    ·exact absurd ⟨two,by simpa using ia,by simpa using ib⟩ w2
  rcases zCy hab ta tb with d1|d1<;>rcases zCy hab ua ub with d2|d2
  ·exact absurd d2 (hs.dif t ht u hu hne _ _ d1)
  ·obtain ⟨c,hc,k⟩:=key ht hu d1 d2;exact ⟨c,hc,fun Q hQ=>(k Q hQ).1⟩
  ·obtain ⟨c,hc,k⟩:=key hu ht d2 d1;exact ⟨c,hc,fun Q hQ=>(k Q hQ).2⟩
  ·exact absurd d2 (hs.dif t ht u hu hne _ _ d1)
end
end S1
open Go Go.Vm Go.Proofs
namespace S1
theorem zHg (k l:List P3) (hn:k.Nodup) (h: ∀ i∈k,i∈l):k.length<=l.length:=by
 induction k generalizing l with
 | nil=>exact Nat.zero_le _
 | cons a r ih =>
   obtain ⟨h1,h2⟩:=List.nodup_cons.1 hn;have ha:=h a (zY ..);have:=ih (l.erase a) h2 fun i hi=>(List.mem_erase_of_ne (fun e=>h1 (by rw [<- e];exact hi))).2 (h i (zQ _ hi));rw [List.length_erase_of_mem ha] at this;have:=List.length_pos_of_mem ha;rw [yA];omega
theorem zBk {a b:Int} {t:P3} :both a b t=true↔z8 t a/\z8 t b:=by unfold both;exact decide_eq_true_iff
theorem zRT {x:yI.T} (g:Full x) (hs:jV (InN x.1.1) x.1.2) {c:Int} (hc:j6 x c=true):(x.1.2.filter (both (jR x c).1 (jR x c).2)).length=if 0<=zAI x c then 2 else 1:=by
 have k:=zFH hc;have hne:=g.ends c hc;have hm1:=qI k.1;have hv1:=jN k.2;have hnd:(x.1.2.filter (both (jR x c).1 (jR x c).2)).Nodup:=hs.nd.filter _;have in1:tg x.1.2 (c / 3).toNat∈x.1.2.filter (both (jR x c).1 (jR x c).2):=List.mem_filter.2 ⟨hm1,zBk.2 hv1⟩
 have one: ∀ t∈x.1.2,dE t (jR x c).1 (jR x c).2->t=tg x.1.2 (c / 3).toNat:=fun t ht hd=>by
  apply yF;intro hn;exact hs.dif t ht _ hm1 hn _ _ hd k.2
 split
 ·rename_i ho;obtain ⟨_,h2,h3⟩:=g.opp ho;have k2:=zFH h2;rw [h3] at k2;have hm2:=qI k2.1
  have ne:tg x.1.2 (c / 3).toNat≠tg x.1.2 (zAI x c / 3).toNat:=fun e=>by
   rw [<- e] at k2;exact zEM (hs.deg _ hm1) k.2 k2.2
  have in2:tg x.1.2 (zAI x c / 3).toNat∈x.1.2.filter (both (jR x c).1 (jR x c).2):=List.mem_filter.2 ⟨hm2,zBk.2 (jN k2.2).symm⟩
  have a1:=zHg [tg x.1.2 (c / 3).toNat,tg x.1.2 (zAI x c / 3).toNat] _ (List.nodup_cons.2 ⟨by simpa using ne,List.nodup_cons.2 ⟨by simp,List.nodup_nil⟩⟩) (fun i hi=>by
   rcases zT.1 hi with e|hi
   ·rw [e];exact in1
   ·rw [zF.1 hi];exact in2)
  have a2:=zHg _ [tg x.1.2 (c / 3).toNat,tg x.1.2 (zAI x c / 3).toNat] hnd (fun t ht=>by
   obtain ⟨m,hb⟩:=List.mem_filter.1 ht;obtain ⟨b1,b2⟩:=zBk.1 hb;rcases zCy hne b1 b2 with e|e
   ·rw [one t m e];exact zY ..
   ·refine zQ _ (zF.2 ?_);apply yF;intro hn
    exact hs.dif t m _ hm2 hn _ _ e k2.2)
  have a1:2<=_:=a1;have a2:_<=2:=a2;omega
 ·rename_i ho;have a1:=zHg [tg x.1.2 (c / 3).toNat] _ (List.nodup_cons.2 ⟨by simp,List.nodup_nil⟩) (fun i hi=>by rw [zF.1 hi];exact in1)
  have a2:=zHg _ [tg x.1.2 (c / 3).toNat] hnd (fun t ht=>by
   obtain ⟨m,hb⟩:=List.mem_filter.1 ht;obtain ⟨b1,b2⟩:=zBk.1 hb;rcases zCy hne b1 b2 with e|e
   ·rw [one t m e];exact zY ..
   ·obtain ⟨d,d1,d2⟩:=zED.1 (zDh.2 ⟨t,m,e⟩)
    exact absurd (by rw [g.opp_is d1 d2];exact (yH.1 d1).1) ho)
  have a1:1<=_:=a1;have a2:_<=1:=a2;omega
theorem zJy (p:P3->Bool): ∀ l:List P3,(l.filter p).length+(l.filter fun t=> !p t).length=l.length
 | []=>rfl
 | t::r=>by
   have:=zJy p r;cases h:p t<;>simp only [List.filter_cons,h,if_true,if_false,Bool.not_true,Bool.not_false,yA,Bool.false_eq_true]<;>omega
theorem z4R (a b:Int) (l:List P3):(zIZ a b l).length+(l.filter (both a b)).length=l.length:=by
 have:=zJy (both a b) l;unfold zIZ;rw [yV];omega
theorem zTK {x:yI.T} (g:Full x) {v w:Int} (hi:zAY x v=true) (hw:zAQ x v w=true): ∃ c,j6 x c=true/\jR x c=(v,w)/\0<=zAI x c:=by
 have hb:=((zDx g).1 hi).2;obtain ⟨d,d1,d2⟩:=(zHf g).1 hw;rcases d2 with e|e
 ·refine ⟨d,d1,e,?_⟩;apply yF;intro hn;exact hb (zCo g ⟨d,d1,by omega,e⟩)
 ·have ho:0<=zAI x d:=by
   apply yF;intro hn;exact hb ⟨w,d,d1,by omega,e⟩
  obtain ⟨_,h2,h3⟩:=g.opp ho;refine ⟨zAI x d,h2,by rw [h3,e],?_⟩;rw [g.opp_is d1 (by rw [h3])];exact (yH.1 d1).1
theorem zOM {x:yI.T} (g:Full x) (hs:zBK x.1) {a b:Int} (hw:zDV x a b=0):zBK (x.1.1 - 1,(zIZ a b x.1.2).map (zDo (dn a))):=by
 have hn:=(zQW hw).1;have hab:=zLk g.toGood hn;have hm:=zAc hs;have hc:=zHx hm (zPy g hm hw);have:=z7S hab.1 (hc hab.1 hab.2);have hl:=z4R a b x.1.2;refine zZu (by omega) (by have:=hs.fit.2.1;omega) ?_ this;rw [yV];have:=hs.fit.2.2.1;omega
end S1
open Go Go.Vm Go.Proofs
namespace S1
def drT (a b:Int) (t:P3):P3:=zDo (dn a) (phT a b t)
def drG (a b:Int) (l:List P3) (i:Nat):Option P3:=if both a b (tg l i)=true then none else some (drT a b (tg l i))
def drL (a b:Int) (l:List P3) (i:Nat):List P3:=(List.range i).filterMap (drG a b l)
def zKl (t:P3) (k:Nat):Int:=[t.1,t.2.1,t.2.2].getD k 0
theorem zFm (a b:Int) (l:List P3) (i:Nat):drL a b l (i+1)=drL a b l i++(drG a b l i).toList:=q9 _ _
theorem z5F (a b:Int) (l:List P3) (i:Nat):(drL a b l i).length<=i:=zC7 _ _
theorem zXa (a b:Int) (l:List P3):drL a b l l.length=(zIZ a b l).map (zDo (dn a)):=by
 have e:drL a b l l.length=l.filterMap fun t=>if both a b t=true then none else some (drT a b t):=by
  conv=>rhs;rw [<- zGs (0,0,0) l,List.filterMap_map]
  rfl
 rw [e];clear e
 induction l with
 | nil=>rfl
 | cons t r ih =>
   cases h:both a b t
   ·rw [List.filterMap_cons,h,if_neg (by decide),ih];show _=((List.filter _ (t::r)).map _).map _;rw [List.filter_cons,h];rfl
   ·rw [List.filterMap_cons,h,if_pos rfl,ih];show _=((List.filter _ (t::r)).map _).map _;rw [List.filter_cons,h];rfl
end S1
open Go Go.Vm Go.Proofs
namespace S1
def z1H (t:P3) (n:Int):Bool:=zCm n t&&(t.1 != t.2.1&&(t.2.1 != t.2.2&&t.2.2 != t.1))
theorem z48 {fn} (t:P3) (n:Int):zAG ⟨tyL,fn,[]⟩ Tryz.f139 [ETy.arr3.av t,y8.av n] (fun r=>r= .s (.bool (z1H t n))):=by
 repeat' (conv=>whnf
          first|done|refine qN ?_|apply qH|refine qG fun _=> ?_|apply qB|apply qa|apply qo|refine qe (fun _=> ?_) (fun _=> ?_)|refine qn (fun _=> ?_) (fun _=> ?_)|refine qd (fun _=> ?_) (fun _=> ?_)|apply qt|refine qi (fun _=> ?_) (fun _=> ?_)|(refine qS 2 rfl ?_;refine Or.inl (zB (4) ?_))|refine zA rfl ?_|apply qE|apply qO|exact zO|apply qq|apply qs|refine qK (by kernel_rfl) ?_|apply qr)
 all_goals try first|refine qz ?_|apply qz5
 all_goals try simp only [z6,zS,yE,zZ,qn1,z7,qn2,zX,ETy.dflt,qn3,qn4,Int.reduceToNat,Int.reduceAdd,Int.reduceSub,Int.reduceNeg,Nat.reduceAdd,zD,z1H] at *
 all_goals rw [Bool.eq_iff_iff];simp only [zCm,vIn,zC,Bool.not_eq_true',Bool.or_eq_false_iff,yM,bne_iff_ne,Bool.false_eq_true,true_iff,iff_true,false_iff,iff_false];omega
def z5n:List AV->Option Res:=zCr .arr3 y8 (fun t n=>some (none,none,.s (.bool (z1H t n))))
theorem z3W:qM Tryz.prog 139 z5n:=⟨jD fun t n r h=>by cases h;exact qL (yN (fn:=[]) (fr:=[]) trivial trivial) Tryz.func139 (by kernel_rfl) fun _ _=>z48 t n,_,Tryz.func139,by kernel_rfl,by kernel_rfl⟩
theorem z0N (t:P3) (n:Int) (l:List P3):zAG ⟨tyL,[(139,z5n)],[]⟩ Tryz.f138 [ETy.arr3.av t,(ETy.pt qP).av (some (n,l))] (fun r=>r= .s (.bool (!z1H t n))):=by
 repeat' (conv=>whnf
          first|done|refine qN ?_|apply qH|refine qG fun _=> ?_|apply qB|apply qa|apply qo|refine qe (fun _=> ?_) (fun _=> ?_)|refine qn (fun _=> ?_) (fun _=> ?_)|refine qd (fun _=> ?_) (fun _=> ?_)|apply qt|refine qi (fun _=> ?_) (fun _=> ?_)|refine zA rfl ?_|apply qE|apply qO|exact zO|apply qq|apply qs|refine qK (by kernel_rfl) ?_|apply qr)
 all_goals try first|refine qz ?_|apply qz5
 all_goals try simp only [z6,zS,yE,zZ,qn1,z7,qn2,zX,ETy.dflt,qn3,qn4,Int.reduceToNat,Int.reduceAdd,Int.reduceSub,Int.reduceNeg,Nat.reduceAdd,zD,Option.getD_some] at *
def zW1:List AV->Option Res:=zCr .arr3 (.pt qP) (fun t o=>match o with|some s=>some (none,none,.s (.bool (!z1H t s.1)))|none=>none)
theorem z0e:qM Tryz.prog 138 zW1:=⟨jD fun t o r h=>by
 cases o with
 | none=>cases h
 | some s=>cases h;exact qL (yN (fn:=[(139,z5n)]) (fr:=[]) ⟨z3W,trivial⟩ trivial) Tryz.func138 (by kernel_rfl) fun _ _=>z0N t s.1 s.2,_,Tryz.func138,by kernel_rfl,by kernel_rfl⟩
attribute [local irreducible] z1H
def zSo (n:Int):List P3->Nat->Int
 | [],_=> -1
 | t::r,i=>if z1H t n=false then (i:Int) else zSo n r (i+1)
def zX1 (n:Int) (l:List P3):Spec Nat where
 inv x:=x<=l.length/\zSo n l 0=zSo n (l.drop x) x
 live x:=[(8,.s (.int .i64 x))]
 keep:=[0,1,7]
 heap _:=[]
 keepH:=[]
 mu x:=l.length - x
theorem zNk {l:List P3} {x:Nat} (h:x<l.length):l.drop x=l.getD x (0,0,0)::l.drop (x+1):=by
 rw [List.drop_eq_getElem_cons h,gdE,gE h];rfl
theorem z3x (l:List P3) (s:Int×List P3):zAG ⟨tyL,[(138,zW1)],[]⟩ Tryz.f170 [(ETy.sl .arr3).av l,.s (.clo 138 [⟨qP,s⟩])] (fun r=>r= .s (.int .i64 (zSo s.1 l 0))):=by
 repeat' (conv=>whnf
          first|done|refine qN ?_|apply qH|refine qG fun _=> ?_|apply qB|apply qa|apply qo|refine qe (fun _=> ?_) (fun _=> ?_)|refine qn (fun _=> ?_) (fun _=> ?_)|refine qd (fun _=> ?_) (fun _=> ?_)|apply qt|refine qi (fun _=> ?_) (fun _=> ?_)|(refine zaB 2 rfl (zX1 s.1 l) (0) ?_ ?_ ?_ fun x hx=> ?_)|with_reducible refine zaA (zX1 _ _) (x+1) ?_ ?_ ?_ ?_|refine zA rfl ?_|apply qE|apply qO|exact zO|apply qq|apply qs|refine qK (by kernel_rfl) ?_|apply qr)
 all_goals try first|refine qz ?_|apply qz5
 all_goals try simp only [z6,zS,yE,zZ,qn1,z7,qn2,zX,ETy.dflt,qn3,qn4,Int.reduceToNat,Int.reduceAdd,Int.reduceSub,Int.reduceNeg,Nat.reduceAdd,zD,zX1] at *
 all_goals try (refine qh ?_;omega)
 ·exact qh ⟨Nat.zero_le _,rfl⟩
 ·rename_i h1 h2;exact qh ⟨by omega,by rw [hx.2,zNk (by omega),zSo,if_neg (by rw [h2];simp)]⟩
 ·rename_i h1 h2;rw [hx.2,zNk (by omega),zSo,if_pos h2]
 ·rw [hx.2,List.drop_eq_nil_of_le (by omega)];rfl
def z1I:List AV->Option Res
 | [.s (.sl .arr3 l),.s (.clo f [⟨.pair (.int .i64) (.sl .arr3),s⟩])]=>match Nat.beq f 138 with
   | true=>some (none,none,.s (.int .i64 (zSo s.1 l 0)))
   | false=>none
 | _=>none
theorem z5s:qM Tryz.prog 170 z1I:=⟨fun args r h=>by
 unfold z1I at h;split at h
 case h_2=>cases h
 split at h
 case h_2=>cases h
 rename_i he;cases h;rw [zH he]
 exact qL (yN (fn:=[(138,zW1)]) (fr:=[]) ⟨z0e,trivial⟩ trivial) Tryz.func170 (by kernel_rfl) fun _ _=>z3x _ _,_,Tryz.func170,by kernel_rfl,by kernel_rfl⟩
theorem z3w (l:List P3) (s:Int×List P3):zAG ⟨tyL,[(170,z1I)],[]⟩ Tryz.f137 [(ETy.sl .arr3).av l,.s (.clo 138 [⟨qP,s⟩])] (fun r=>r= .s (.bool (decide (zSo s.1 l 0>=0)))):=by
 repeat' (conv=>whnf
          first|done|refine qN ?_|apply qH|refine qG fun _=> ?_|apply qB|apply qa|apply qo|refine qe (fun _=> ?_) (fun _=> ?_)|refine qn (fun _=> ?_) (fun _=> ?_)|refine qd (fun _=> ?_) (fun _=> ?_)|apply qt|refine qi (fun _=> ?_) (fun _=> ?_)|refine zA rfl ?_|apply qE|apply qO|exact zO|apply qq|apply qs|refine qK (by kernel_rfl) ?_|apply qr)
 all_goals try first|refine qz ?_|apply qz5
 all_goals try simp only [z6,zS,yE,zZ,qn1,z7,qn2,zX,ETy.dflt,qn3,qn4,Int.reduceToNat,Int.reduceAdd,Int.reduceSub,Int.reduceNeg,Nat.reduceAdd,zD] at *
def z1h:List AV->Option Res
 | [.s (.sl .arr3 l),.s (.clo f [⟨.pair (.int .i64) (.sl .arr3),s⟩])]=>match Nat.beq f 138 with
   | true=>some (none,none,.s (.bool (decide (zSo s.1 l 0>=0))))
   | false=>none
 | _=>none
theorem z3D:qM Tryz.prog 137 z1h:=⟨fun args r h=>by
 unfold z1h at h;split at h
 case h_2=>cases h
 split at h
 case h_2=>cases h
 rename_i he;cases h;rw [zH he]
 exact qL (yN (fn:=[(170,z1I)]) (fr:=[]) ⟨z5s,trivial⟩ trivial) Tryz.func137 (by kernel_rfl) fun _ _=>z3w _ _,_,Tryz.func137,by kernel_rfl,by kernel_rfl⟩
def zD4 (s:Int×List P3):Bool:= !(decide (s.1<0)|| (decide (s.1>4096)|| (decide ((s.2.length:Int)>8192)|| decide (zSo s.1 s.2 0>=0))))
theorem z30 (n:Int) (l:List P3):zAG ⟨tyL,[(137,z1h)],[]⟩ Tryz.f100 [qP.av (n,l)] (fun r=>r= .s (.bool (zD4 (n,l)))):=by
 repeat' (conv=>whnf
          first|done|refine qN ?_|apply qH|refine qG fun _=> ?_|apply qB|apply qa|apply qo|refine qe (fun _=> ?_) (fun _=> ?_)|refine qn (fun _=> ?_) (fun _=> ?_)|refine qd (fun _=> ?_) (fun _=> ?_)|apply qt|refine qi (fun _=> ?_) (fun _=> ?_)|refine zA rfl ?_|apply qE|apply qO|exact zO|apply qq|apply qs|refine qK (by kernel_rfl) ?_|apply qr)
 all_goals try first|refine qz ?_|apply qz5
 all_goals try simp only [z6,zS,yE,zZ,qn1,z7,qn2,zX,ETy.dflt,qn3,qn4,Int.reduceToNat,Int.reduceAdd,Int.reduceSub,Int.reduceNeg,Nat.reduceAdd,zD,zD4] at *
 all_goals simp [*]
def zMX:List AV->Option Res:=zEz qP (fun s=>some (none,none,.s (.bool (zD4 s))))
theorem zL5:qM Tryz.prog 100 zMX:=⟨zA1 fun s r h=>by cases h;exact qL (yN (fn:=[(137,z1h)]) (fr:=[]) ⟨z3D,trivial⟩ trivial) Tryz.func100 (by kernel_rfl) fun _ _=>z30 s.1 s.2,_,Tryz.func100,by kernel_rfl,by kernel_rfl⟩
theorem zUX (n:Int): ∀ (l:List P3) (i:Nat),(∀ t∈l,z1H t n=true)->zSo n l i= -1
 | [],_,_=>rfl
 | t::r,i,h=>by
   unfold zSo;rw [if_neg (by rw [h t (zY ..)];simp)];exact zUX n r (i+1) fun u hu=>h u (zQ _ hu)
abbrev zAJ:=Int×Int×List Int×List P3×List Int
abbrev SoT:=Int×List P3
abbrev zG3:ETy:= .pair y8 (.pair y8 (.pair (.sl y8) (.pair (.sl .arr3) (.sl y8))))
def zJs (v a b:Int):Int:=if v<0 then -1 else if (if v=a then b else v)>a then (if v=a then b else v) - 1 else (if v=a then b else v)
theorem z4o {fn} (v:Int) (r:zAJ) (h:(-1000000<=v/\v<=1000000)/\(-1000000<=r.2.1/\r.2.1<=1000000)):zAG ⟨tyL,fn,[]⟩ Tryz.f104 [y8.av v,zG3.av r] (fun x=>x= .s (.int .i64 (zJs v r.1 r.2.1))):=by
 repeat' (conv=>whnf
          first|done|refine qN ?_|apply qH|refine qG fun _=> ?_|apply qB|apply qa|apply qo|refine qe (fun _=> ?_) (fun _=> ?_)|refine qn (fun _=> ?_) (fun _=> ?_)|refine qd (fun _=> ?_) (fun _=> ?_)|apply qt|refine qi (fun _=> ?_) (fun _=> ?_)|refine zA rfl ?_|apply qE|apply qO|exact zO|apply qq|apply qs|refine qK (by kernel_rfl) ?_|apply qr)
 all_goals try first|refine qz ?_|apply qz5
 all_goals try simp only [z6,zS,yE,zZ,qn1,z7,qn2,zX,ETy.dflt,qn3,qn4,Int.reduceToNat,Int.reduceAdd,Int.reduceSub,Int.reduceNeg,Nat.reduceAdd,zD,zJs] at *
 all_goals try (refine qh ?_;unfold yP;omega)
 all_goals
  (repeat' split)<;>first|rfl|(exfalso;omega)|omega
def zPo:List AV->Option Res:=zCr y8 zG3 (fun (v:Int) (r:zAJ)=>some (none,some ((-1000000<=v/\v<=1000000)/\(-1000000<=r.2.1/\r.2.1<=1000000)),.s (.int .i64 (zJs v r.1 r.2.1))))
theorem zPh:qM Tryz.prog 104 zPo:=⟨jD fun v r r h=>by cases h;exact qL (yN (fn:=[]) (fr:=[]) trivial trivial) Tryz.func104 (by kernel_rfl) fun _ h=>z4o v r h,_,Tryz.func104,by kernel_rfl,by kernel_rfl⟩
def zO7 (w:Int):Int:=if w=1 then 8 else if w=2 then 13 else if w=3\/w=4 then 14 else 0
theorem z5D {fn} (w:Int):zAG ⟨tyL,fn,[]⟩ Tryz.f101 [y8.av w] (fun x=>x= .s (.int .i64 (zO7 w))):=by
 repeat' (conv=>whnf
          first|done|refine qN ?_|apply qH|refine qG fun _=> ?_|apply qB|apply qa|apply qo|refine qe (fun _=> ?_) (fun _=> ?_)|refine qn (fun _=> ?_) (fun _=> ?_)|refine qd (fun _=> ?_) (fun _=> ?_)|apply qt|refine qi (fun _=> ?_) (fun _=> ?_)|refine zA rfl ?_|apply qE|apply qO|exact zO|apply qq|apply qs|refine qK (by kernel_rfl) ?_|apply qr)
 all_goals try first|refine qz ?_|apply qz5
 all_goals try simp only [z6,zS,yE,zZ,qn1,z7,qn2,zX,ETy.dflt,qn3,qn4,Int.reduceToNat,Int.reduceAdd,Int.reduceSub,Int.reduceNeg,Nat.reduceAdd,zD,zO7] at *
 all_goals
  (repeat' split)<;>first|rfl|(exfalso;omega)
def zXr:List AV->Option Res:=zEz y8 (fun w=>some (none,none,.s (.int .i64 (zO7 w))))
theorem zVJ:qM Tryz.prog 101 zXr:=⟨zA1 fun w r h=>by cases h;exact qL (yN (fn:=[]) (fr:=[]) trivial trivial) Tryz.func101 (by kernel_rfl) fun _ _=>z5D w,_,Tryz.func101,by kernel_rfl,by kernel_rfl⟩
def eqS (a b:SoT):Bool:=decide (a=b)
def eqL (a b:List Int):Bool:=decide (a=b)
def zUg (a b:List Int):Spec Nat where
 inv x:=x<=a.length/\∀ i,i<x->a.getD i 0=b.getD i 0
 live x:=[(13,.s (.int .i64 x))]
 keep:=[0,1,12]
 heap _:=[]
 keepH:=[]
 mu x:=a.length - x
theorem zYj {fn} (a b:List Int):zAG ⟨tyL,fn,[]⟩ Tryz.f141 [(ETy.sl y8).av a,(ETy.sl y8).av b] (fun v=>v= .s (.bool (eqL a b))):=by
 repeat' (conv=>whnf
          first|done|refine qN ?_|apply qH|refine qG fun _=> ?_|apply qB|apply qa|apply qo|refine qe (fun _=> ?_) (fun _=> ?_)|refine qn (fun _=> ?_) (fun _=> ?_)|refine qd (fun _=> ?_) (fun _=> ?_)|apply qt|refine qi (fun _=> ?_) (fun _=> ?_)|(refine zaB 4 rfl (zUg a b) (0) ?_ ?_ ?_ fun x hx=> ?_)|with_reducible refine zaA (zUg _ _) (x+1) ?_ ?_ ?_ ?_|refine zA rfl ?_|apply qE|apply qO|exact zO|apply qq|apply qs|refine qK (by kernel_rfl) ?_|apply qr)
 all_goals try first|refine qz ?_|apply qz5
 all_goals try simp only [z6,zS,yE,zZ,qn1,z7,qn2,zX,ETy.dflt,qn3,qn4,Int.reduceToNat,Int.reduceAdd,Int.reduceSub,Int.reduceNeg,Nat.reduceAdd,zD,zUg,eqL] at *
 ·symm;rw [yM];intro e;subst e;exact absurd rfl (by assumption)
 ·exact qh ⟨Nat.zero_le _,fun i hi=>by omega⟩
 ·symm;rw [yM];intro e;subst e;exact absurd rfl (by assumption)
 ·refine yJ.intro ⟨by omega,fun i hi=> ?_⟩
  by_cases e:i=x
  ·subst e;assumption
  ·exact hx.2 i (by omega)
 ·refine qh ?_;omega
 ·symm;rw [zP];apply List.ext_getElem
  ·omega
  ·intro i h1 h2;have:=hx.2 i (by omega);rw [gdE,gdE,gE h1,gE h2] at this;exact this
def zPU:List AV->Option Res:=zCr (.sl y8) (.sl y8) (fun a b=>some (none,none,.s (.bool (eqL a b))))
theorem zU1:qM Tryz.prog 141 zPU:=⟨jD fun a b r h=>by cases h;exact qL (yN (fn:=[]) (fr:=[]) trivial trivial) Tryz.func141 (by kernel_rfl) fun _ _=>zYj a b,_,Tryz.func141,by kernel_rfl,by kernel_rfl⟩
end S1
open Go Go.Vm Go.Proofs
namespace S1
def atG (a b:Int) (l:List P3) (i:Nat):Option Int:=if both a b (tg l i)=true then some (i:Int) else none
def rtG (a b:Int) (l:List P3) (i:Nat):Option P3:=if both a b (tg l i)=true then some (tg l i) else none
def zKb (a:Int) (t:P3):Int:=if t.1=a then 0 else if t.2.1=a then 1 else 2
def zOt (a b:Int) (l:List P3) (i:Nat):Option Int:=if both a b (tg l i)=true then none else if z8 (tg l i) a then some (3*(i:Int)+zKb a (tg l i)) else none
def atL (a b:Int) (l:List P3) (i:Nat):List Int:=(List.range i).filterMap (atG a b l)
def rtL (a b:Int) (l:List P3) (i:Nat):List P3:=(List.range i).filterMap (rtG a b l)
def zDn (a b:Int) (l:List P3) (i:Nat):List Int:=(List.range i).filterMap (zOt a b l)
def zQm (s:SoT) (a b:Int):zAJ:=(a,b,atL a b s.2 s.2.length,rtL a b s.2 s.2.length,zDn a b s.2 s.2.length)
theorem zOf {α:Type} (d:α) (f:Nat->Option α) {i:Nat} {x:α} (h:f i=some x): ∀ n,i<n->((List.range i).filterMap f).length<((List.range n).filterMap f).length/\((List.range n).filterMap f).getD ((List.range i).filterMap f).length d=x
 | 0,hi=>by omega
 | n +1,hi=>by
   rw [q9]
   by_cases e:i=n
   ·subst e;rw [h,Option.toList];refine ⟨by simp,?_⟩;rw [gdE,List.getElem?_append_right (zI _)];simp
   ·obtain ⟨h1,h2⟩:=zOf d f h n (by omega);refine ⟨by rw [zN];omega,?_⟩;rw [gdE,List.getElem?_append_left h1,<- gdE];exact h2
theorem zV1 (a b:Int) (l:List P3): ∀ i,(atL a b l i).length+(drL a b l i).length=i
 | 0=>rfl
 | i+1=>by
   have ih:=zV1 a b l i;have e1:atL a b l (i+1)=atL a b l i++(atG a b l i).toList:=q9 _ _;rw [e1,zFm];unfold atG drG;split<;>simp only [Option.toList,zN,List.length_singleton,List.length_nil]<;>omega
theorem zWL (a b:Int) (l:List P3): ∀ i,(atL a b l i).length=(rtL a b l i).length
 | 0=>rfl
 | i+1=>by
   have ih:=zWL a b l i;have e1:atL a b l (i+1)=atL a b l i++(atG a b l i).toList:=q9 _ _;have e2:rtL a b l (i+1)=rtL a b l i++(rtG a b l i).toList:=q9 _ _;rw [e1,e2];unfold atG rtG;split<;>simp only [Option.toList,zN,List.length_singleton,List.length_nil]<;>omega
theorem z6V (a b:Int) (l:List P3) (i:Nat):(atL a b l i).length<=i:=zC7 _ _
theorem z6n (a b:Int) (l:List P3) (i:Nat):(rtL a b l i).length<=i:=zC7 _ _
theorem z5i (a b:Int) (l:List P3) (i:Nat):(zDn a b l i).length<=i:=zC7 _ _
def upV (A v:Int):Int:=if v>=A then v+1 else v
def upT (A:Int) (t:P3):P3:=(upV A t.1,upV A t.2.1,upV A t.2.2)
abbrev GoT:=List (Int×P3)
def z5K (at_:List Int) (ts:List P3) (k:Nat):GoT:=qA (fun (m:GoT) k=>(zAB (.int .i64) m (at_.getD k 0) (ts.getD k (0,0,0)):GoT)) [] k
def kF (g:GoT):Nat->Nat
 | 0=>0
 | i+1=>if (jS (.int .i64) g (i:Int)).isSome=true then kF g i else kF g i+1
def bkT (g:GoT) (T:List P3) (A:Int) (i:Nat):P3:=(jS (.int .i64) g (i:Int)).getD (upT A (tg T (kF g i)))
def zJp (g:GoT) (T:List P3) (A:Int) (i:Nat):List P3:=(List.range i).map (bkT g T A)
def z5u (t:P3) (k:Nat) (v:Int):P3:=(if k=0 then v else t.1,if k=1 then v else t.2.1,if k=2 then v else t.2.2)
def zYZ (A:Int) (o:List P3) (c:Int):List P3:=o.set (c.tdiv 3).toNat (z5u (o.getD (c.tdiv 3).toNat (0,0,0)) (c.tmod 3).toNat A)
def zSi (A:Int) (fan:List Int) (o:List P3) (j:Nat):List P3:=qA (fun o k=>zYZ A o (fan.getD k 0)) o j
def bkN (s:SoT) (r:zAJ):Nat:=s.2.length+r.2.2.1.length
def bkC (s:SoT) (r:zAJ):Prop:=r.2.2.1.length=r.2.2.2.1.length/\0<=r.1/\r.1<=s.1/\s.1<4096/\bkN s r<=8192
instance (s:SoT) (r:zAJ):Decidable (bkC s r):=inferInstanceAs (Decidable (_/\_))
def bkG (r:zAJ):GoT:=z5K r.2.2.1 r.2.2.2.1 r.2.2.1.length
def zXx (n:Nat) (fan:List Int):Bool:=fan.all fun c=>decide (0<=c/\c<3*(n:Int))
def bkR (s:SoT) (r:zAJ):SoT×Bool :=
 if bkC s r/\kF (bkG r) (bkN s r)<=s.2.length/\zXx (bkN s r) r.2.2.2.2=true then
  ((s.1+1,zSi r.1 r.2.2.2.2 (zJp (bkG r) s.2 r.1 (bkN s r)) r.2.2.2.2.length),decide (kF (bkG r) (bkN s r)=s.2.length))
 else ((0,[]),false)
theorem z8T (g:GoT) (i:Nat):kF g (i+1)=if (jS (.int .i64) g (i:Int)).isSome=true then kF g i else kF g i+1:=rfl
theorem zYC (g:GoT): ∀ {i j:Nat},i<=j->kF g i<=kF g j
 | i,0,h=>by rw [show i=0 by omega];exact zI _
 | i,j+1,h=>by
   by_cases e:i=j+1
   ·rw [e];exact zI _
   ·have:=zYC g (i:=i) (j:=j) (by omega);rw [z8T];split<;>omega
structure Was (w:SoT) (a b:Int):Prop where
 surf:zBK w
 ha:InN w.1 a
 hb:InN w.1 b
 ne:a≠b
section
variable {w:SoT} {a b:Int} (h:Was w a b)
theorem z2j (a b:Int) (l:List P3): ∀ i,i<=l.length->∀ j:Nat,jS (.int .i64) (z5K (atL a b l l.length) (rtL a b l l.length) (atL a b l i).length) (j:Int)=if j<i/\both a b (tg l j)=true then some (tg l j) else none
 | 0,_,j=>by rw [if_neg (by omega)];rfl
 | i + 1,hi,j=>by
   have ih:=z2j a b l i (by omega) j;have e1:atL a b l (i+1)=atL a b l i++(atG a b l i).toList:=q9 _ _;rw [e1]
   by_cases k:both a b (tg l i)=true
   ·have f1:atG a b l i=some (i:Int):=by unfold atG;rw [if_pos k]
    have f2:rtG a b l i=some (tg l i):=by unfold rtG;rw [if_pos k]
    have g1:=(zOf (0:Int) (atG a b l) f1 l.length (by omega)).2;have g2:=(zOf ((0,0,0):P3) (rtG a b l) f2 l.length (by omega)).2;have er:(atL a b l i).length=(rtL a b l i).length:=zWL a b l i;have g2:(rtL a b l l.length).getD (atL a b l i).length (0,0,0)=tg l i:=by rw [er];exact g2
    have g1:(atL a b l l.length).getD (atL a b l i).length 0=(i:Int):=g1;rw [f1,Option.toList,zN,List.length_singleton];show jS (.int .i64) (zAB (.int .i64) (z5K _ _ (atL a b l i).length) ((atL a b l l.length).getD (atL a b l i).length 0) ((rtL a b l l.length).getD (atL a b l i).length (0,0,0))) (j:Int)=_;rw [g1,g2]
    by_cases e:j=i
    ·subst e;rw [zAT,if_pos ⟨by omega,k⟩]
    ·rw [zA4 _ (show ((i:Nat):Int)≠(j:Int) by omega),ih]
     by_cases q:both a b (tg l j)=true
     ·by_cases q2:j<i
      ·rw [if_pos ⟨q2,q⟩,if_pos ⟨by omega,q⟩]
      ·rw [if_neg (fun z=>q2 z.1),if_neg (fun z=>by omega)]
     ·rw [if_neg (fun z=>q z.2),if_neg (fun z=>q z.2)]
   ·have f1:atG a b l i=none:=by unfold atG;rw [if_neg k]
    rw [f1,Option.toList,List.append_nil,ih]
    by_cases q:both a b (tg l j)=true
    ·by_cases q2:j<i
     ·rw [if_pos ⟨q2,q⟩,if_pos ⟨by omega,q⟩]
     ·have: ¬ j<i+1:=fun z=>k (by rw [<- show j=i by omega];exact q);rw [if_neg (fun z=>q2 z.1),if_neg (fun z=>this z.1)]
    ·rw [if_neg (fun z=>q z.2),if_neg (fun z=>q z.2)]
theorem zUS (a b:Int) {l:List P3} {j:Nat} (hj:j<l.length):jS (.int .i64) (z5K (atL a b l l.length) (rtL a b l l.length) (atL a b l l.length).length) (j:Int)=if both a b (tg l j)=true then some (tg l j) else none:=by
 rw [z2j a b l l.length (zI _) j]
 by_cases q:both a b (tg l j)=true
 ·rw [if_pos ⟨hj,q⟩,if_pos q]
 ·rw [if_neg (fun z=>q z.2),if_neg q]
theorem zVm (a b:Int) (l:List P3): ∀ i,i<=l.length->kF (z5K (atL a b l l.length) (rtL a b l l.length) (atL a b l l.length).length) i=(drL a b l i).length
 | 0,_=>rfl
 | i+1,hi=>by
   rw [z8T,zVm a b l i (by omega),zUS a b (by omega),zFm];unfold drG;split
   ·simp [Option.toList]
   ·simp [Option.toList]
theorem zTq {a b v:Int} (h:v≠a):upV a (dn a (ph a b v))=v:=by
 rw [zLT h];unfold upV dn;split<;>split<;>omega
def upD (a b:Int) (t:P3):P3:=if both a b t=true then t else upT a (drT a b t)
theorem z5h (a b:Int) (l:List P3) {i:Nat} (hi:i<=l.length):zJp (z5K (atL a b l l.length) (rtL a b l l.length) (atL a b l l.length).length) (drL a b l l.length) a i=(List.range i).map fun j=>upD a b (tg l j):=by
 unfold zJp;refine List.map_congr_left fun j hj=> ?_;have hj:=zV.1 hj;unfold bkT upD;rw [zUS a b (by omega)];split
 ·rfl
 ·rename_i k;rw [zVm a b l j (by omega)];have f:drG a b l j=some (drT a b (tg l j)):=by unfold drG;rw [if_neg k]
  have:=(zOf ((0,0,0):P3) (drG a b l) f l.length (by omega)).2;have:tg (drL a b l l.length) (drL a b l j).length=drT a b (tg l j):=this;show upT a (tg (drL a b l l.length) (drL a b l j).length)=_;rw [this]
theorem zQh {a:Int} {t:P3} :0<=zKb a t/\zKb a t<3:=by unfold zKb;split<;>(try split)<;>omega
theorem z4S {a b:Int} {t:P3} (hd: ¬ dgn t) (ha:z8 t a):z5u (upT a (drT a b t)) (zKb a t).toNat a=t:=by
 obtain ⟨x,y,z⟩:=t;unfold dgn at hd;unfold z8 at ha;simp only at hd ha;have key: ∀ {v:Int},v≠a->upV a (dn a (ph a b v))=v:=fun h=>zTq h
 by_cases h1:x=a
 ·have h2:y≠a:=by omega
  have h3:z≠a:=by omega
  simp only [zKb,h1,if_true,z5u,upT,drT,zDo,phT,key h2,key h3];simp
 ·by_cases h2:y=a
  ·have h3:z≠a:=by omega
   simp only [zKb,h1,h2,if_true,if_false,z5u,upT,drT,zDo,phT,key h1,key h3];simp
  ·have h3:z=a:=by omega
   simp only [zKb,h1,h2,h3,if_true,if_false,z5u,upT,drT,zDo,phT,key h1,key h2];simp
theorem z0F {a b:Int} {t:P3} (ha: ¬ z8 t a):upT a (drT a b t)=t:=by
 obtain ⟨x,y,z⟩:=t;unfold z8 at ha;simp only at ha;show (upV a (dn a (ph a b x)),upV a (dn a (ph a b y)),upV a (dn a (ph a b z)))=_;rw [zTq (by omega),zTq (by omega),zTq (by omega)]
def zWB (a b:Int) (l:List P3) (i j:Nat):P3:=if j<i then tg l j else upD a b (tg l j)
theorem zYD {a b:Int} {l:List P3} (hd: ∀ j,j<l.length->¬ dgn (tg l j)): ∀ i,i<=l.length->zSi a (zDn a b l l.length) ((List.range l.length).map fun j=>upD a b (tg l j)) (zDn a b l i).length=(List.range l.length).map (zWB a b l i)
 | 0,_=>by
   show ((List.range l.length).map fun j=>upD a b (tg l j))=_;refine List.map_congr_left fun j hj=> ?_;unfold zWB;rw [if_neg (by omega)]
 | i + 1,hi=>by
   have ih:=zYD (a:=a) (b:=b) hd i (by omega);have e1:zDn a b l (i+1)=zDn a b l i++(zOt a b l i).toList:=q9 _ _
   have oth: ∀ j,j≠i->zWB a b l (i+1) j=zWB a b l i j:=fun j hj=>by
    unfold zWB
    by_cases q:j<i
    ·rw [if_pos q,if_pos (by omega)]
    ·rw [if_neg q,if_neg (by omega)]
   rw [e1];cases f:zOt a b l i with
   | none =>
     rw [Option.toList,List.append_nil,ih];refine List.map_congr_left fun j hj=> ?_
     by_cases e:j=i
     ·subst e;unfold zWB;rw [if_neg (by omega),if_pos (by omega)];unfold upD;split
      ·rfl
      ·rename_i k;unfold zOt at f;rw [if_neg k] at f;split at f
       ·cases f
       ·rename_i k2;exact z0F k2
     ·exact (oth j e).symm
   | some c =>
     have g1:=(zOf (0:Int) (zOt a b l) f l.length (by omega)).2;have g1:(zDn a b l l.length).getD (zDn a b l i).length 0=c:=g1;rw [Option.toList,zN,List.length_singleton];show zYZ a (zSi a (zDn a b l l.length) _ (zDn a b l i).length) ((zDn a b l l.length).getD (zDn a b l i).length 0)=_;rw [g1,ih];unfold zOt at f;split at f
     ·cases f
     rename_i k;split at f
     case isFalse=>cases f
     rename_i k2;cases f;have hp:=zQh (a:=a) (t:=tg l i);unfold zYZ
     have q1:((3*(i:Int)+zKb a (tg l i)).tdiv 3).toNat=i:=by
      rw [Int.tdiv_eq_ediv_of_nonneg (by omega)];omega
     have q2:((3*(i:Int)+zKb a (tg l i)).tmod 3).toNat=(zKb a (tg l i)).toNat:=by
      rw [Int.tmod_eq_emod_of_nonneg (by omega)];omega
     rw [q1,q2]
     have gi:((List.range l.length).map (zWB a b l i)).getD i (0,0,0)=upT a (drT a b (tg l i)):=by
      rw [gdE,List.getElem?_map,List.getElem?_range (by omega)];show zWB a b l i i=_;unfold zWB upD;rw [if_neg (by omega),if_neg k]
     rw [gi,z4S (hd i (by omega)) k2];apply List.ext_getElem
     ·simp
     ·intro j h1 h2;rw [List.getElem_set]
      by_cases e:i=j
      ·subst e;rw [if_pos rfl,List.getElem_map,List.getElem_range];unfold zWB;rw [if_pos (by omega)]
      ·rw [if_neg e,List.getElem_map,List.getElem_map,List.getElem_range];exact (oth j (Ne.symm e)).symm
theorem zQR {a b:Int} {l:List P3} {n:Nat} {c:Int} :c∈zDn a b l n↔∃ j,j<n/\zOt a b l j=some c:=by
 unfold zDn;rw [List.mem_filterMap];exact ⟨fun ⟨j,h1,h2⟩=>⟨j,zV.1 h1,h2⟩,fun ⟨j,h1,h2⟩=>⟨j,zV.2 h1,h2⟩⟩
theorem zO4 {a b:Int} {l:List P3} {j:Nat} {c:Int} (h:zOt a b l j=some c): ¬ (both a b (tg l j)=true)/\z8 (tg l j) a/\c=3*(j:Int)+zKb a (tg l j):=by
 unfold zOt at h;split at h
 ·cases h
 ·rename_i k;split at h
  ·rename_i k2;cases h;exact ⟨k,k2,rfl⟩
  ·cases h
include h
theorem z6T:bkR (w.1 - 1,drL a b w.2 w.2.length) (zQm w a b)=(w,true):=by
 obtain ⟨n,l⟩:=w;have hf:=h.surf.fit
 have hn:bkN (n - 1,drL a b l l.length) (zQm (n,l) a b)=l.length:=by
  have:=zV1 a b l l.length;show (drL a b l l.length).length+(atL a b l l.length).length=_;omega
 have hk:=zVm a b l l.length (zI _);unfold bkR;rw [hn]
 have hC:bkC (n - 1,drL a b l l.length) (zQm (n,l) a b):=by
  refine ⟨zWL a b l l.length,h.ha.1,?_,?_,?_⟩
  ·show a<=n - 1;have:=h.ha.2;have:a<n:=this;omega
  ·show n - 1<4096;have:n<=4096:=hf.2.1;omega
  ·rw [hn];exact hf.2.2.1
 have hK:kF (bkG (zQm (n,l) a b)) l.length=(drL a b l l.length).length:=hk
 have hF:zXx l.length (zQm (n,l) a b).2.2.2.2=true:=by
  unfold zXx;rw [zJ];intro c hc;obtain ⟨j,hj,f⟩:=zQR.1 hc;obtain ⟨_,_,e⟩:=zO4 f;have h3:=zQh (a:=a) (t:=tg l j);have hj:j<l.length:=hj;have e:c=3*(j:Int)+zKb a (tg l j):=e;rw [zP];omega
 rw [if_pos ⟨hC,by rw [hK];exact zI _,hF⟩,decide_eq_true (by rw [hK])];refine Prod.ext (Prod.ext (by show n - 1+1=n;omega) ?_) rfl;show zSi a (zDn a b l l.length) (zJp _ (drL a b l l.length) a l.length) (zDn a b l l.length).length=l;have e:=z5h a b l (zI _);have e:zJp (bkG (zQm (n,l) a b)) (drL a b l l.length) a l.length=_:=e;rw [e,zYD h.surf.deg l.length (zI _)];conv=>rhs;rw [<- zGs (0,0,0) l]
 refine List.map_congr_left fun j hj=> ?_;unfold zWB;rw [if_pos (zV.1 hj)]
end
def aF (at_:List Int):Nat->Nat
 | 0=>0
 | i+1=>if aF at_ i<at_.length/\at_.getD (aF at_ i) 0=(i:Int) then aF at_ i+1 else aF at_ i
def fv (A:Int) (fan:List Int) (c v:Int):Int:=if c∈fan then A else v
def rfT (A:Int) (fan:List Int) (i:Nat) (t:P3):P3:=(fv A fan (3*(i:Int)) (upV A t.1),fv A fan (3*(i:Int)+1) (upV A t.2.1),fv A fan (3*(i:Int)+2) (upV A t.2.2))
def rbT (at_:List Int) (ts T:List P3) (A:Int) (fan:List Int) (i:Nat):P3:=if aF at_ i<at_.length/\at_.getD (aF at_ i) 0=(i:Int) then tg ts (aF at_ i) else rfT A fan i (tg T (i - aF at_ i))
def z8y (at_:List Int) (ts T:List P3) (A:Int) (fan:List Int) (i:Nat):List P3:=(List.range i).map (rbT at_ ts T A fan)
def rbC (s:SoT) (r:zAJ):Prop:=r.2.2.1.length=r.2.2.2.1.length/\bkN s r<=8192/\0<=r.1/\r.1<=s.1
instance (s:SoT) (r:zAJ):Decidable (rbC s r):=inferInstanceAs (Decidable (_/\_))
def rbk (s:SoT) (r:zAJ):Option SoT :=
 if rbC s r/\bkN s r - aF r.2.2.1 (bkN s r)<=s.2.length then some (s.1+1,z8y r.2.2.1 r.2.2.2.1 s.2 r.1 r.2.2.2.2 (bkN s r)) else none
theorem z9y (at_:List Int) (i:Nat):aF at_ (i+1)=if aF at_ i<at_.length/\at_.getD (aF at_ i) 0=(i:Int) then aF at_ i+1 else aF at_ i:=rfl
section
variable {w:SoT} {a b:Int} (h:Was w a b)
theorem zRi (a b:Int) (l:List P3) {i:Nat} (hi:i<l.length):((atL a b l i).length<(atL a b l l.length).length/\(atL a b l l.length).getD (atL a b l i).length 0=(i:Int))↔both a b (tg l i)=true:=by
 constructor
 ·rintro ⟨h1,h2⟩;have:=jB h1;rw [h2] at this;unfold atL at this;obtain ⟨j,hj,e⟩:=List.mem_filterMap.1 this;unfold atG at e;split at e
  ·rename_i k;have e:=Option.some.inj e;rw [<- show j=i by omega];exact k
  ·cases e
 ·intro k;exact zOf (0:Int) (atG a b l) (x:=(i:Int)) (by unfold atG;rw [if_pos k]) l.length hi
theorem z21 (a b:Int) (l:List P3): ∀ i,i<=l.length->aF (atL a b l l.length) i=(atL a b l i).length
 | 0,_=>rfl
 | i +1,hi=>by
   have e1:atL a b l (i+1)=atL a b l i++(atG a b l i).toList:=q9 _ _;rw [z9y,z21 a b l i (by omega),e1]
   by_cases k:both a b (tg l i)=true
   ·rw [if_pos ((zRi a b l (by omega)).2 k)];unfold atG;rw [if_pos k];simp [Option.toList]
   ·rw [if_neg (fun z=>k ((zRi a b l (by omega)).1 z))];unfold atG;rw [if_neg k];simp [Option.toList]
theorem z7B {a b:Int} {l:List P3} {i:Nat} (hi:i<l.length) (hd: ¬ dgn (tg l i)) (hb: ¬ (both a b (tg l i)=true)):rfT a (zDn a b l l.length) i (drT a b (tg l i))=tg l i:=by
 have key: ∀ (k:Int) (v:Int),0<=k->k<3->(v=a↔(z8 (tg l i) a/\zKb a (tg l i)=k))->fv a (zDn a b l l.length) (3*(i:Int)+k) (upV a (dn a (ph a b v)))=v:=fun k v k0 k3 hv=>by
  unfold fv;split
  ·rename_i hm;obtain ⟨j,hj,f⟩:=zQR.1 hm;obtain ⟨_,f2,f3⟩:=zO4 f;have:=zQh (a:=a) (t:=tg l j);have e:j=i:=by omega
   subst e;exact (hv.2 ⟨f2,by omega⟩).symm
  ·rename_i hm;refine zTq fun e=>hm ?_;obtain ⟨q1,q2⟩:=hv.1 e;refine zQR.2 ⟨i,hi,?_⟩;unfold zOt;rw [if_neg hb,if_pos q1,q2]
 unfold dgn at hd
 have e0:=key 0 (tg l i).1 (by omega) (by omega) (by
  unfold z8 zKb;constructor
  ·intro e;exact ⟨.inl e,by rw [if_pos e]⟩
  ·rintro ⟨_,e⟩;split at e
   ·assumption
   ·split at e<;>omega)
 have e1:=key 1 (tg l i).2.1 (by omega) (by omega) (by
  unfold z8 zKb;constructor
  ·intro e;exact ⟨.inr (.inl e),by rw [if_neg (by omega),if_pos e]⟩
  ·rintro ⟨_,e⟩;split at e
   ·omega
   ·split at e
    ·assumption
    ·omega)
 have e2:=key 2 (tg l i).2.2 (by omega) (by omega) (by
  unfold z8 zKb;constructor
  ·intro e;exact ⟨.inr (.inr e),by rw [if_neg (by omega),if_neg (by omega)]⟩
  ·rintro ⟨q,e⟩;split at e
   ·omega
   ·split at e<;>omega)
 rw [Int.add_zero] at e0;exact Prod.ext e0 (Prod.ext e1 e2)
include h
theorem z4w:rbk (w.1 - 1,drL a b w.2 w.2.length) (zQm w a b)=some w:=by
 obtain ⟨n,l⟩:=w;have hf:=h.surf.fit
 have hn:bkN (n - 1,drL a b l l.length) (zQm (n,l) a b)=l.length:=by
  have:=zV1 a b l l.length;show (drL a b l l.length).length+(atL a b l l.length).length=_;omega
 have hC:rbC (n - 1,drL a b l l.length) (zQm (n,l) a b):=by
  refine ⟨zWL a b l l.length,by rw [hn];exact hf.2.2.1,h.ha.1,?_⟩;show a<=n - 1;have:=h.ha.2;have:a<n:=this;omega
 have ha:=z21 a b l
 have hl: ∀ i,i<=l.length->i - aF (atL a b l l.length) i=(drL a b l i).length:=fun i hi=>by
  rw [ha i hi];have:=zV1 a b l i;omega
 unfold rbk;rw [hn];have h2:l.length - aF (zQm (n,l) a b).2.2.1 l.length<=(drL a b l l.length).length:=Nat.le_of_eq (hl l.length (zI _));rw [if_pos ⟨hC,h2⟩];refine congrArg some (Prod.ext (by show n - 1+1=n;omega) ?_);show z8y (atL a b l l.length) (rtL a b l l.length) (drL a b l l.length) a (zDn a b l l.length) l.length=l;unfold z8y;conv=>rhs;rw [<- zGs (0,0,0) l]
 refine List.map_congr_left fun j hj=> ?_;have hj:=zV.1 hj;show rbT _ _ _ a _ j=tg l j;unfold rbT;rw [ha j (by omega)]
 by_cases k:both a b (tg l j)=true
 ·rw [if_pos ((zRi a b l hj).2 k)];have f2:rtG a b l j=some (tg l j):=by unfold rtG;rw [if_pos k]
  have g2:=(zOf ((0,0,0):P3) (rtG a b l) f2 l.length hj).2;rw [zWL a b l j];exact g2
 ·rw [if_neg (fun z=>k ((zRi a b l hj).1 z))];have f:drG a b l j=some (drT a b (tg l j)):=by unfold drG;rw [if_neg k]
  have g:=(zOf ((0,0,0):P3) (drG a b l) f l.length hj).2;have g:tg (drL a b l l.length) (drL a b l j).length=drT a b (tg l j):=g;rw [show j - (atL a b l j).length=(drL a b l j).length by have:=zV1 a b l j;omega,g];exact z7B hj (h.surf.deg j hj) k
end
end S1
