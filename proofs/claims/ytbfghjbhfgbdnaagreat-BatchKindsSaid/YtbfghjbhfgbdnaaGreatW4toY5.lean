/- A part of the proofs of the laws. -/
import Derived.Test.YtbfghjbhfgbdnaaGreatFan1toW3
import Derived.Test.YtbfghjbhfgbdnaaGreatT0toVmInl
import Derived.Test.YtbfghjbhfgbdnaaGreatT5toT22
set_option linter.unusedSimpArgs false
set_option linter.unusedVariables false
set_option maxHeartbeats 8000000
set_option maxRecDepth 100000
open Go.Proofs.Tryz
open Go Go.Vm Go.Proofs
namespace S1
theorem zZa {x:z6.T} {d:Int} (h:zAY x d=true):(jM x d / 3).toNat=(d / 3).toNat:=by
 rw [zBI h];unfold trn;omega
theorem zZh {x:z6.T} {d:Int} (h:zAY x d=true):(jH x d / 3).toNat=(d / 3).toNat:=by
 rw [zBj h];unfold trn;omega
theorem rot {x:z6.T} (g:Full x) {c d:Int} (hin:zAz x c=true) {s1 s2:P3} (h1:s1∈x.1.2) (h2:s2∈x.1.2) (e1:dE s1 d c) (e2:dE s2 c d) (Q:P3->Prop)
 (hQ: ∀ s∈x.1.2,∀ r∈x.1.2,zV s c->zV r c->(∃ w:Int,w≠c/\w≠d/\zV s w/\zV r w)->Q s->Q r):Q s1↔Q s2:=by
 have hno:=((zD5 g).1 hin).2;obtain ⟨i1,hi1,rfl⟩:=zAj h1;obtain ⟨i2,hi2,rfl⟩:=zAj h2;obtain ⟨p1,a1,a2,a3⟩:=zHF hi1 e1;obtain ⟨p2,b1,b2,b3⟩:=zHF hi2 e2;have y1h:=(zA8 a1).2;have y2h:=(zA8 b1).1;have y1v:yO x (jH x p1)=c:=congrArg Prod.snd a2;have y1p:yO x (jH x (jH x p1))=d:=by rw [(np a1).2.2.2];exact congrArg Prod.fst a2
 have y2v:yO x (jM x p2)=c:=congrArg Prod.fst b2;have y2n:yO x (jM x (jM x p2))=d:=by rw [(np b1).2.2.1];exact congrArg Prod.snd b2
 have y1t:(jH x p1 / 3).toNat=i1:=by rw [zZh a1,a3]
 have y2t:(jM x p2 / 3).toNat=i2:=by rw [zZa b1,b3]
 have hy:=g.after_is y1h y2h (y2v.trans y1v.symm) (y2n.trans y1p.symm);generalize jH x p1=y1 at *;generalize jM x p2=y2 at *
 have aft: ∀ y,zAY x y=true->yO x y=c->0<=yB x y/\zAY x (yB x y)=true/\yO x (yB x y)=c:=fun y k1 k2=>by
  have h0:0<=yB x y:=by
   refine Int.not_lt.1 fun hlt=> ?_;have:=zV9 g k1 hlt;rw [k2] at this;exact hno ⟨_,this⟩
  exact ⟨h0,(g.toGood.after_has h0).2.1,(g.toGood.after_v h0).1.trans k2⟩
 have zk: ∀ y,zAY x y=true->yO x y=c->∀ k,zAY x (iter (yB x) y k)=true/\yO x (iter (yB x) y k)=c:=fun y k1 k2 k=>by
  induction k with
  | zero=>exact ⟨k1,k2⟩
  | succ k ih=>have:=aft _ ih.1 ih.2;exact ⟨this.2.1,this.2.2⟩
 have hex: ∃ n,iter (yB x) y2 n=y1:=by
  apply yE;intro hn
  have:zPE (yB x) y1 24577:=fun j j1 j2=>by
   obtain ⟨j,rfl⟩: ∃ j',j=j'+1:=⟨j - 1,by omega⟩;have k:=zk y1 y1h y1v j;refine ⟨(aft _ k.1 k.2).1,fun e=>hn ⟨j,?_⟩⟩;rw [<- hy];have:=zLn (yB x) y1 1 j;have this:iter (yB x) (yB x y1) j=iter (yB x) y1 (1+j):=this;rw [this,Nat.add_comm];exact e
  have:=zBF g.toGood this;omega
 obtain ⟨n,hn⟩:=hex;obtain ⟨m,m1,_,m3⟩:=exists_least (P:=fun n=>iter (yB x) y2 n=y1) hn
 have step: ∀ k,k<m->(Q (tg x.1.2 (iter (yB x) y2 k / 3).toNat)↔Q (tg x.1.2 (iter (yB x) y2 (k+1) / 3).toNat)):=fun k hk=>by
  obtain ⟨k1,k2⟩:=zk y2 y2h y2v k;obtain ⟨l1,l2⟩:=zk y2 y2h y2v (k+1);have ha:=(aft _ k1 k2).1;have hv:=(g.toGood.after_v ha).2;have hv:yO x (jM x (iter (yB x) y2 (k+1)))=yO x (jH x (iter (yB x) y2 k)):=hv;have wc:yO x (jH x (iter (yB x) y2 k))≠c:=fun e=>(g.toGood.ne k1).2.1 (k2.trans e.symm);have wd:yO x (jH x (iter (yB x) y2 k))≠d:=fun e=>m3 k hk (g.toGood.sameP k1 y1h (k2.trans y1v.symm) (e.trans y1p.symm))
  have t1:=zAl k1;have t2:=zAl l1;have p1:=zAl (zA8 k1).2;have n1:=zAl (zA8 l1).1;rw [zZh k1] at p1;rw [zZa l1,hv] at n1;rw [k2] at t1;rw [l2] at t2;exact ⟨hQ _ (qZ t1.1) _ (qZ t2.1) t1.2 t2.2 ⟨_,wc,wd,p1.2,n1.2⟩,hQ _ (qZ t2.1) _ (qZ t1.1) t2.2 t1.2 ⟨_,wc,wd,n1.2,p1.2⟩⟩
 have all: ∀ k,k<=m->(Q (tg x.1.2 (y2 / 3).toNat)↔Q (tg x.1.2 (iter (yB x) y2 k / 3).toNat)):=fun k=>by
  induction k with
  | zero=>exact fun _=>Iff.rfl
  | succ k ih=>exact fun hk=>(ih (by omega)).trans (step k (by omega))
 have:=all m (zH _);rw [m1,y1t,y2t] at this;exact this.symm
theorem four {t:P3} (hd: ¬ dgn t) {a b p q:Int} (h1:a≠b) (h2:a≠p) (h3:a≠q) (h4:b≠p) (h5:b≠q) (h6:p≠q) (k1:zV t a) (k2:zV t b) (k3:zV t p) (k4:zV t q):False:=by
 obtain ⟨r,_,_,_,e⟩:=zIX hd h1 k1 k2;rcases e p k3 with e1|e1|e1
 ·exact h2 e1.symm
 ·exact h4 e1.symm
 ·rcases e q k4 with e2|e2|e2
  ·exact h3 e2.symm
  ·exact h5 e2.symm
  ·exact h6 (e1.trans e2.symm)
section
variable {x:z6.T} {a b:Int}
theorem zVL (g:Full x) (hs:j5 (InN x.1.1) x.1.2) (hw:zFS x a b=0) (hab:a≠b): ∀ t∈x.1.2,zV t a->zV t b->∀ v,v≠a->v≠b->zV t v->∃ u∈x.1.2,u≠t/\zV u v/\(zV u a\/zV u b):=by
 intro t ht ta tb v va vb tv;apply yE;intro hn;have hno: ∀ u∈x.1.2,zV u v->(zV u a\/zV u b)->u=t:=fun u hu uv uab=>yE fun e=>hn ⟨u,hu,e,uv,uab⟩;obtain ⟨w1,w2,w3⟩:=zRv hw;have hd:=hs.deg t ht
 -- it stands alone
 have main : ∀ p q:Int,((p=a/\q=b)\/(p=b/\q=a))->dE t p q->dE t q v->dE t v p->False:=fun p q hpq o1 o2 o3=>by
  have pab: ∀ {u:P3} {w:Int},(w=p\/w=q)->zV u w->zV u a\/zV u b:=fun {u w} h1 h2=>by
   rcases hpq with ⟨e1,e2⟩|⟨e1,e2⟩<;>rcases h1 with e|e<;>(subst e;subst e1;subst e2;first|exact .inl h2|exact .inr h2)
  have no1: ¬ eE x.1.2 v q:=fun h=>by
   obtain ⟨u,hu,k⟩:=zDP.1 h;have:=hno u hu (qC k).1 (pab (.inr rfl) (qC k).2);rw [this] at k;exact zEW hd o2 k
  have no2: ¬ eE x.1.2 p v:=fun h=>by
   obtain ⟨u,hu,k⟩:=zDP.1 h;have:=hno u hu (qC k).2 (pab (.inl rfl) (qC k).1);rw [this] at k;exact zEW hd o3 k
  have yes: ∀ {u w:Int},dE t u w->eE x.1.2 u w:=fun k=>zDP.2 ⟨t,ht,k⟩;have b1:bE x q v:=(zNB g).2 ⟨yes o2,no1⟩;have b2:bE x v p:=(zNB g).2 ⟨yes o3,no2⟩
  have ip:zAz x p=false:=by
   rw [<- zA3,zD5 g];exact fun k=>k.2 ⟨_,b2⟩
  have iq:zAz x q=false:=by
   rw [<- zA3,zD5 g];exact fun k=>k.2 (zFk g b1)
  have no3: ¬ eE x.1.2 q p:=fun h=>by
   rcases hpq with ⟨e1,e2⟩|⟨e1,e2⟩
   ·subst e1;subst e2;exact w2 ⟨zHq g (yes o1) h,ip,iq⟩
   ·subst e1;subst e2;exact w2 ⟨zHq g h (yes o1),iq,ip⟩
  obtain ⟨i0,hi0,rfl⟩:=zAj ht
  have cnt:=zJV g hs (a:=a) (hs.ent _ ht a ta) (S:=[i0]) (yU.2 ⟨by simp,jD⟩) (by simp) ta (fun i hi=>by rw [zF] at hi;subst hi;exact hi0)
   (fun i hi j ha=>by
     rw [zF] at hi;subst hi;exfalso;obtain ⟨_,hj,u,w,d1,d2⟩:=(zKm g).1 ha;have hwu:eE x.1.2 w u:=⟨j,hj,d2⟩;have hu:=qC d1;have neuw:=zGB hd d1
     have mem: ∀ z,zV (tg x.1.2 i) z->z=p\/z=q\/z=v:=fun z hz=>by
      obtain ⟨r,r1,r2,r3,r4⟩:=zIX hd (zGB hd o1) (qC o1).1 (qC o1).2
      have ev:v=r:=by
       rcases r4 v tv with e|e|e
       ·rcases hpq with ⟨e1,e2⟩|⟨e1,e2⟩
        ·exact absurd (e.trans e1) va
        ·exact absurd (e.trans e1) vb
       ·rcases hpq with ⟨e1,e2⟩|⟨e1,e2⟩
        ·exact absurd (e.trans e2) vb
        ·exact absurd (e.trans e2) va
       ·exact e
      rw [ev];exact r4 z hz
     rcases mem u hu.1 with e|e|e<;>rcases mem w hu.2 with e'|e'|e'<;>subst e<;>subst e'
     ·exact neuw rfl
     ·exact no3 hwu
     ·exact zEW hd o3 d1
     ·exact zEW hd o1 d1
     ·exact neuw rfl
     ·exact no1 hwu
     ·exact no2 hwu
     ·exact zEW hd o2 d1
     ·exact neuw rfl)
   (fun i hi=>by rw [zF] at hi;subst hi;exact .refl _)
  have:zBo x a=true:=by unfold zBo;rw [cnt.1];rfl
  rw [w3] at this;cases this
 rcases zUI hab va.symm vb.symm ta tb tv with ⟨o1,o2,o3⟩|⟨o1,o2,o3⟩
 ·exact main a b (.inl ⟨rfl,rfl⟩) o1 o2 o3
 ·exact main b a (.inr ⟨rfl,rfl⟩) o1 o2 o3
theorem zIv (g:Full x) (hs:j5 (InN x.1.1) x.1.2) (w3:zBo x a=false) (hab:a≠b): ∀ p q,p≠q->p≠a->p≠b->q≠a->q≠b->(∃ t∈x.1.2,zV t a/\zV t p/\zV t q)->(∃ t∈x.1.2,zV t b/\zV t p/\zV t q)->(∃ t∈x.1.2,zV t a/\zV t b/\zV t p)->(∃ t∈x.1.2,zV t a/\zV t b/\zV t q)->False:=by
 rintro p q pq pa pb qa qb ⟨t1,h1,a1,a2,a3⟩ ⟨t2,h2,b1,b2,b3⟩ ⟨t3,h3,c1,c2,c3⟩ ⟨t4,h4,d1,d2,d3⟩;have no4: ∀ t∈x.1.2,zV t a->zV t b->zV t p->zV t q->False:=fun t ht k1 k2 k3 k4=>four (hs.deg t ht) hab pa.symm qa.symm pb.symm qb.symm pq k1 k2 k3 k4;have n12:t1≠t2:=fun e=>no4 t1 h1 a1 (by rw [e];exact b1) a2 a3;have n13:t1≠t3:=fun e=>no4 t1 h1 a1 (by rw [e];exact c2) a2 a3;have n14:t1≠t4:=fun e=>no4 t1 h1 a1 (by rw [e];exact d2) a2 a3
 have n23:t2≠t3:=fun e=>no4 t2 h2 (by rw [e];exact c1) b1 b2 b3;have n24:t2≠t4:=fun e=>no4 t2 h2 (by rw [e];exact d1) b1 b2 b3;have n34:t3≠t4:=fun e=>no4 t3 h3 c1 c2 c3 (by rw [e];exact d3)
 have mem3: ∀ {t:P3} {u v w z:Int},t∈x.1.2->u≠v->u≠w->v≠w->zV t u->zV t v->zV t w->zV t z->z=u\/z=v\/z=w:=fun {t u v w z} ht uv uw vw k1 k2 k3 k4=>by
  obtain ⟨r,r1,r2,r3,r4⟩:=zIX (hs.deg t ht) uv k1 k2
  have e:w=r:=by
   rcases r4 w k3 with e|e|e
   ·exact absurd e.symm uw
   ·exact absurd e.symm vw
   ·exact e
  rw [e];exact r4 z k4
 let F:P3->Prop:=fun t=>t=t1\/t=t2\/t=t3\/t=t4
 -- the other one with an edge
 have oth: ∀ s,F s->∀ u w,u≠w->zV s u->zV s w->∃ r,F r/\r∈x.1.2/\r≠s/\zV r u/\zV r w:=fun s hs' u w huw su sw=>by
  rcases hs' with e|e|e|e<;>subst e
  ·rcases mem3 h1 pa.symm qa.symm pq a1 a2 a3 su with e|e|e<;>rcases mem3 h1 pa.symm qa.symm pq a1 a2 a3 sw with e'|e'|e'<;>subst e<;>subst e'
   ·exact absurd rfl huw
   ·exact ⟨t3,.inr (.inr (.inl rfl)),h3,n13.symm,c1,c3⟩
   ·exact ⟨t4,.inr (.inr (.inr rfl)),h4,n14.symm,d1,d3⟩
   ·exact ⟨t3,.inr (.inr (.inl rfl)),h3,n13.symm,c3,c1⟩
   ·exact absurd rfl huw
   ·exact ⟨t2,.inr (.inl rfl),h2,n12.symm,b2,b3⟩
   ·exact ⟨t4,.inr (.inr (.inr rfl)),h4,n14.symm,d3,d1⟩
   ·exact ⟨t2,.inr (.inl rfl),h2,n12.symm,b3,b2⟩
   ·exact absurd rfl huw
  ·rcases mem3 h2 pb.symm qb.symm pq b1 b2 b3 su with e|e|e<;>rcases mem3 h2 pb.symm qb.symm pq b1 b2 b3 sw with e'|e'|e'<;>subst e<;>subst e'
   ·exact absurd rfl huw
   ·exact ⟨t3,.inr (.inr (.inl rfl)),h3,n23.symm,c2,c3⟩
   ·exact ⟨t4,.inr (.inr (.inr rfl)),h4,n24.symm,d2,d3⟩
   ·exact ⟨t3,.inr (.inr (.inl rfl)),h3,n23.symm,c3,c2⟩
   ·exact absurd rfl huw
   ·exact ⟨t1,.inl rfl,h1,n12,a2,a3⟩
   ·exact ⟨t4,.inr (.inr (.inr rfl)),h4,n24.symm,d3,d2⟩
   ·exact ⟨t1,.inl rfl,h1,n12,a3,a2⟩
   ·exact absurd rfl huw
  ·rcases mem3 h3 hab pa.symm pb.symm c1 c2 c3 su with e|e|e<;>rcases mem3 h3 hab pa.symm pb.symm c1 c2 c3 sw with e'|e'|e'<;>subst e<;>subst e'
   ·exact absurd rfl huw
   ·exact ⟨t4,.inr (.inr (.inr rfl)),h4,n34.symm,d1,d2⟩
   ·exact ⟨t1,.inl rfl,h1,n13,a1,a2⟩
   ·exact ⟨t4,.inr (.inr (.inr rfl)),h4,n34.symm,d2,d1⟩
   ·exact absurd rfl huw
   ·exact ⟨t2,.inr (.inl rfl),h2,n23,b1,b2⟩
   ·exact ⟨t1,.inl rfl,h1,n13,a2,a1⟩
   ·exact ⟨t2,.inr (.inl rfl),h2,n23,b2,b1⟩
   ·exact absurd rfl huw
  ·rcases mem3 h4 hab qa.symm qb.symm d1 d2 d3 su with e|e|e<;>rcases mem3 h4 hab qa.symm qb.symm d1 d2 d3 sw with e'|e'|e'<;>subst e<;>subst e'
   ·exact absurd rfl huw
   ·exact ⟨t3,.inr (.inr (.inl rfl)),h3,n34,c1,c2⟩
   ·exact ⟨t1,.inl rfl,h1,n14,a1,a3⟩
   ·exact ⟨t3,.inr (.inr (.inl rfl)),h3,n34,c2,c1⟩
   ·exact absurd rfl huw
   ·exact ⟨t2,.inr (.inl rfl),h2,n24,b1,b3⟩
   ·exact ⟨t1,.inl rfl,h1,n14,a3,a1⟩
   ·exact ⟨t2,.inr (.inl rfl),h2,n24,b3,b1⟩
   ·exact absurd rfl huw
 have inl: ∀ s,F s->s∈x.1.2:=fun s k=>by rcases k with e|e|e|e<;>(subst e;assumption)
 -- it has the edge the other way
 have opp: ∀ s,F s->∀ u w,dE s u w->∃ r,F r/\dE r w u:=fun s k u w hd=>by
  have ne:=zGB (hs.deg s (inl s k)) hd;obtain ⟨r,r1,r2,r3,r4,r5⟩:=oth s k u w ne (qC hd).1 (qC hd).2;rcases zD4 ne r4 r5 with e|e
  ·exact absurd e (hs.dif s (inl s k) r r2 r3.symm _ _ hd)
  ·exact ⟨r,r1,e⟩
 obtain ⟨i1,l1,e1⟩:=zAj h1;obtain ⟨i2,l2,e2⟩:=zAj h2;obtain ⟨i3,l3,e3⟩:=zAj h3;obtain ⟨i4,l4,e4⟩:=zAj h4
 have inS: ∀ i,i∈[i1,i2,i3,i4]↔i<x.1.2.length/\F (tg x.1.2 i):=fun i=>by
  constructor
  ·intro hi;simp only [zS,zAP,or_false] at hi;rcases hi with e|e|e|e<;>subst e
   ·exact ⟨l1,.inl e1⟩
   ·exact ⟨l2,.inr (.inl e2)⟩
   ·exact ⟨l3,.inr (.inr (.inl e3))⟩
   ·exact ⟨l4,.inr (.inr (.inr e4))⟩
  ·rintro ⟨hi,e|e|e|e⟩
   ·have:=zDD hs.nd hi l1 (e.trans e1.symm);subst this;simp
   ·have:=zDD hs.nd hi l2 (e.trans e2.symm);subst this;simp
   ·have:=zDD hs.nd hi l3 (e.trans e3.symm);subst this;simp
   ·have:=zDD hs.nd hi l4 (e.trans e4.symm);subst this;simp
 have hn:[i1,i2,i3,i4].Nodup:=by
  have d: ∀ {i j:Nat} {t u:P3},tg x.1.2 i=t->tg x.1.2 j=u->t≠u->i≠j:=fun k1 k2 k3 e=>k3 (by rw [<- k1,<- k2,e]);simp only [yU,zS,zAP,or_false,not_or,jD,and_true,not_false_eq_true];exact ⟨⟨d e1 e2 n12,d e1 e3 n13,d e1 e4 n14⟩,⟨d e2 e3 n23,d e2 e4 n24⟩,d e3 e4 n34⟩
 have cnt:=zJV g hs (a:=a) (hs.ent _ h1 a a1) hn (i0:=i1) (by simp) (by rw [e1];exact a1) (fun i hi=>((inS i).1 hi).1)
  (fun i hi j ha=>by
    obtain ⟨k1,k2⟩:=(inS i).1 hi;obtain ⟨_,hj,u,w,f1,f2⟩:=(zKm g).1 ha;obtain ⟨r,r1,r2⟩:=opp _ k2 u w f1;refine (inS j).2 ⟨hj,?_⟩
    by_cases e:tg x.1.2 j=r
    ·rw [e];exact r1
    ·exact absurd r2 (hs.dif _ (qZ hj) r (inl r r1) e _ _ f2))
  (fun i hi=>by
    simp only [zS,zAP,or_false] at hi;rcases hi with e|e|e|e<;>subst e
    ·exact .refl _
    ·exact zFo g l1 l2 (v:=p) (by rw [e1];exact a2) (by rw [e2];exact b2) hs
    ·exact zFo g l1 l3 (v:=a) (by rw [e1];exact a1) (by rw [e3];exact c1) hs
    ·exact zFo g l1 l4 (v:=a) (by rw [e1];exact a1) (by rw [e4];exact d1) hs)
 have flag:(smS x (smM x a) (ofR x).length).2=false:=by
  rw [<- zA3,zHj];rintro ⟨i,hi,hl,d,hd,ho⟩;rw [zLM g.toGood] at hi;have hF:=((inS i).1 ((cnt.2 i hi).1 hl)).2;have hc:zAY x (3*(i:Int)+d)=true:=z7.2 ⟨by omega,by omega⟩;have ke:=zDw hc;rw [show ((3*(i:Int)+d) / 3).toNat=i by omega] at ke;obtain ⟨r,r1,r2⟩:=opp _ hF _ _ ke.2;exact ((zNB g).1 ⟨_,hc,ho,rfl⟩).2 (zDP.2 ⟨r,inl r r1,r2⟩)
 have:zBo x a=true:=by unfold zBo;rw [cnt.1,flag];rfl
 rw [w3] at this;cases this
theorem zRu (g:Full x) (hs:j5 (InN x.1.1) x.1.2) (hw:zFS x a b=0) (hab:a≠b): ∀ p q,p≠q->p≠a->p≠b->q≠a->q≠b->(∃ t∈x.1.2,zV t a/\zV t p/\zV t q)->(∃ t∈x.1.2,zV t b/\zV t p/\zV t q)->(∃ t∈x.1.2,zV t a/\zV t b/\zV t p)->(∃ t∈x.1.2,zV t a/\zV t b/\zV t q)->False :=
 zIv g hs (zRv hw).2.2 hab
theorem zKl (g:Full x) (hs:j5 (InN x.1.1) x.1.2) (hw:zFS x a b=0):zH6 x.1.2 a b:=by
 obtain ⟨w1,w2,w3⟩:=zRv hw
 have hab:a≠b:=fun e=>by
  subst e;rw [zEe g.toGood] at w1;cases w1
 refine ⟨hab,(zCT g hab).1 w1,fun v va vb hva hvb=> ?_,zVL g hs hw hab,zRu g hs hw hab,fun t ht u hu hne ta tb ua ub=> ?_⟩
 ·have h1:=(zCT g va.symm).2 hva;have h2:=(zCT g vb.symm).2 hvb;exact zVE g (zWp hw v ((zUN g).2 ⟨hab,h1,h2⟩))
 ·have key: ∀ {s r:P3},s∈x.1.2->r∈x.1.2->dE s a b->dE r b a->∃ c,(c=a\/c=b)/\∀ Q:P3->Prop,(∀ s∈x.1.2,∀ r∈x.1.2,zV s c->zV r c->(∃ w:Int,w≠a/\w≠b/\zV s w/\zV r w)->Q s->Q r)->(Q s↔Q r):=fun {s r} h1 h2 d1 d2=>by
   have two:=zHq g (zDP.2 ⟨s,h1,d1⟩) (zDP.2 ⟨r,h2,d2⟩)
   by_cases ia:zAz x a=true
   ·exact ⟨a,.inl rfl,fun Q hQ=>(rot g ia h2 h1 d2 d1 Q fun s hs r hr k1 k2 ⟨w,e1,e2,e3⟩=>hQ s hs r hr k1 k2 ⟨w,e1,e2,e3⟩).symm⟩
   ·by_cases ib:zAz x b=true
    ·exact ⟨b,.inr rfl,fun Q hQ=>rot g ib h1 h2 d1 d2 Q fun s hs r hr k1 k2 ⟨w,e1,e2,e3⟩=>hQ s hs r hr k1 k2 ⟨w,e2,e1,e3⟩⟩
    ·exact absurd ⟨two,by simpa using ia,by simpa using ib⟩ w2
  rcases zD4 hab ta tb with d1|d1<;>rcases zD4 hab ua ub with d2|d2
  ·exact absurd d2 (hs.dif t ht u hu hne _ _ d1)
  ·obtain ⟨c,hc,k⟩:=key ht hu d1 d2;exact ⟨c,hc,fun Q hQ=>(k Q hQ).1⟩
  ·obtain ⟨c,hc,k⟩:=key hu ht d2 d1;exact ⟨c,hc,fun Q hQ=>(k Q hQ).2⟩
  ·exact absurd d2 (hs.dif t ht u hu hne _ _ d1)
end
end S1
namespace S1
theorem zEk (k l:List P3) (hn:k.Nodup) (h: ∀ i∈k,i∈l):k.length<=l.length:=by
 induction k generalizing l with
 | nil=>exact y7 _
 | cons a r ih =>
   obtain ⟨h1,h2⟩:=yU.1 hn;have ha:=h a (zR ..);have:=ih (l.erase a) h2 fun i hi=>(List.mem_erase_of_ne (fun e=>h1 (by rw [<- e];exact hi))).2 (h i (zN _ hi));rw [List.length_erase_of_mem ha] at this;have:=List.length_pos_of_mem ha;rw [zZ];omega
theorem zCy {a b:Int} {t:P3} :both a b t=true↔zV t a/\zV t b:=by unfold both;exact decide_eq_true_iff
theorem zQ4 {x:z6.T} (g:Full x) (hs:j5 (InN x.1.1) x.1.2) {c:Int} (hc:zAY x c=true):(x.1.2.filter (both (jP x c).1 (jP x c).2)).length=if 0<=zA2 x c then 2 else 1:=by
 have k:=zDw hc;have hne:=g.ends c hc;have hm1:=qZ k.1;have hv1:=qC k.2;have hnd:(x.1.2.filter (both (jP x c).1 (jP x c).2)).Nodup:=hs.nd.filter _;have in1:tg x.1.2 (c / 3).toNat∈x.1.2.filter (both (jP x c).1 (jP x c).2):=yR.2 ⟨hm1,zCy.2 hv1⟩
 have one: ∀ t∈x.1.2,dE t (jP x c).1 (jP x c).2->t=tg x.1.2 (c / 3).toNat:=fun t ht hd=>by
  apply yE;intro hn;exact hs.dif t ht _ hm1 hn _ _ hd k.2
 split
 ·rename_i ho;obtain ⟨_,h2,h3⟩:=g.opp ho;have k2:=zDw h2;rw [h3] at k2;have hm2:=qZ k2.1
  have ne:tg x.1.2 (c / 3).toNat≠tg x.1.2 (zA2 x c / 3).toNat:=fun e=>by
   rw [<- e] at k2;exact zEW (hs.deg _ hm1) k.2 k2.2
  have in2:tg x.1.2 (zA2 x c / 3).toNat∈x.1.2.filter (both (jP x c).1 (jP x c).2):=yR.2 ⟨hm2,zCy.2 (qC k2.2).symm⟩
  have a1:=zEk [tg x.1.2 (c / 3).toNat,tg x.1.2 (zA2 x c / 3).toNat] _ (yU.2 ⟨by simpa using ne,yU.2 ⟨by simp,jD⟩⟩) (fun i hi=>by
   rcases zS.1 hi with e|hi
   ·rw [e];exact in1
   ·rw [zF.1 hi];exact in2)
  have a2:=zEk _ [tg x.1.2 (c / 3).toNat,tg x.1.2 (zA2 x c / 3).toNat] hnd (fun t ht=>by
   obtain ⟨m,hb⟩:=yR.1 ht;obtain ⟨b1,b2⟩:=zCy.1 hb;rcases zD4 hne b1 b2 with e|e
   ·rw [one t m e];exact zR ..
   ·refine zN _ (zF.2 ?_);apply yE;intro hn
    exact hs.dif t m _ hm2 hn _ _ e k2.2)
  have a1:2<=_:=a1;have a2:_<=2:=a2;omega
 ·rename_i ho;have a1:=zEk [tg x.1.2 (c / 3).toNat] _ (yU.2 ⟨by simp,jD⟩) (fun i hi=>by rw [zF.1 hi];exact in1)
  have a2:=zEk _ [tg x.1.2 (c / 3).toNat] hnd (fun t ht=>by
   obtain ⟨m,hb⟩:=yR.1 ht;obtain ⟨b1,b2⟩:=zCy.1 hb;rcases zD4 hne b1 b2 with e|e
   ·rw [one t m e];exact zR ..
   ·obtain ⟨d,d1,d2⟩:=zEU.1 (zDP.2 ⟨t,m,e⟩)
    exact absurd (by rw [g.opp_is d1 d2];exact (z7.1 d1).1) ho)
  have a1:1<=_:=a1;have a2:_<=1:=a2;omega
theorem zJj (p:P3->Bool): ∀ l:List P3,(l.filter p).length+(l.filter fun t=> !p t).length=l.length
 | []=>rfl
 | t::r=>by
   have:=zJj p r;cases h:p t<;>simp only [zC4,h,if_true,if_false,Bool.not_true,Bool.not_false,zZ,Bool.false_eq_true]<;>omega
theorem zZx (a b:Int) (l:List P3):(zDG a b l).length+(l.filter (both a b)).length=l.length:=by
 have:=zJj (both a b) l;unfold zDG;rw [jF];omega
theorem zRk {x:z6.T} (g:Full x) {v w:Int} (hi:zAz x v=true) (hw:zBe x v w=true): ∃ c,zAY x c=true/\jP x c=(v,w)/\0<=zA2 x c:=by
 have hb:=((zD5 g).1 hi).2;obtain ⟨d,d1,d2⟩:=(zHt g).1 hw;rcases d2 with e|e
 ·refine ⟨d,d1,e,?_⟩;apply yE;intro hn;exact hb (zFk g ⟨d,d1,by omega,e⟩)
 ·have ho:0<=zA2 x d:=by
   apply yE;intro hn;exact hb ⟨w,d,d1,by omega,e⟩
  obtain ⟨_,h2,h3⟩:=g.opp ho;refine ⟨zA2 x d,h2,by rw [h3,e],?_⟩;rw [g.opp_is d1 (by rw [h3])];exact (z7.1 d1).1
theorem zIn {x:z6.T} (g:Full x) (hs:zDM x.1) {a b:Int} (hw:zFS x a b=0):zDM (x.1.1 - 1,(zDG a b x.1.2).map (zFb (dn a))):=by
 have hn:=(zRv hw).1;have hab:=zSk g.toGood hn;have hm:=zAy hs;have hc:=zQe hm (zKl g hm hw);have:=z3g hab.1 (hc hab.1 hab.2);have hl:=zZx a b x.1.2;refine zWo (by omega) (by have:=hs.fit.2.1;omega) ?_ this;rw [jF];have:=hs.fit.2.2.1;omega
end S1
namespace S1
def drT (a b:Int) (t:P3):P3:=zFb (dn a) (phT a b t)
def drG (a b:Int) (l:List P3) (i:Nat):Option P3:=if both a b (tg l i)=true then none else some (drT a b (tg l i))
def drL (a b:Int) (l:List P3) (i:Nat):List P3:=(List.range i).filterMap (drG a b l)
def z79 (t:P3) (k:Nat):Int:=[t.1,t.2.1,t.2.2].getD k 0
theorem zGK (a b:Int) (l:List P3) (i:Nat):drL a b l (i+1)=drL a b l i++(drG a b l i).toList:=zAE _ _
theorem z2L (a b:Int) (l:List P3) (i:Nat):(drL a b l i).length<=i:=zFt _ _
theorem zIO (a b:Int) (l:List P3):drL a b l l.length=(zDG a b l).map (zFb (dn a)):=by
 have e:drL a b l l.length=l.filterMap fun t=>if both a b t=true then none else some (drT a b t):=by
  conv=>rhs;rw [<- zEw (0,0,0) l,List.filterMap_map]
  rfl
 rw [e];clear e
 induction l with
 | nil=>rfl
 | cons t r ih =>
   cases h:both a b t
   ·rw [List.filterMap_cons,h,if_neg (by decide),ih];show _=((List.filter _ (t::r)).map _).map _;rw [zC4,h];rfl
   ·rw [List.filterMap_cons,h,if_pos rfl,ih];show _=((List.filter _ (t::r)).map _).map _;rw [zC4,h];rfl
end S1
namespace S1
def zYQ (t:P3) (n:Int):Bool:=zGz n t&&(t.1 != t.2.1&&(t.2.1 != t.2.2&&t.2.2 != t.1))
theorem z2N {fn} (t:P3) (n:Int):zAk ⟨tyL,fn,[]⟩ f83 [ETy.arr3.av t,qX.av n] (fun r=>r= .s (.bool (zYQ t n))):=by
 repeat' (conv=>whnf
          first|done|refine qy ?_|refine qG fun _=> ?_|refine qw (fun _=> ?_) (fun _=> ?_)|apply qt|refine qi (fun _=> ?_) (fun _=> ?_)|(refine zJa 2 rfl ?_;refine Or.inl (yM (4) ?_))|refine qu ?_|refine qv ?_ ?_|exact zL)
 all_goals try first|refine qz ?_|apply qz5
 all_goals try simp only [qn0,zY,zX,ETy.dflt,Int.reduceToNat,Int.reduceAdd,Int.reduceSub,Int.reduceNeg,Nat.reduceAdd,zYQ] at *
 all_goals rw [Bool.eq_iff_iff];simp only [zGz,vIn,zA,y8,Bool.or_eq_false_iff,yX,bne_iff_ne,Bool.false_eq_true,true_iff,iff_true,false_iff,iff_false];omega
def z2P:List AV->Option Res:=zFm .arr3 qX (fun t n=>some (none,none,.s (.bool (zYQ t n))))
theorem z16:jN prog 83 z2P:=mkR (zA4 fun t n r h=>by cases h;exact fb (fn:=[]) trivial func83 fun _ _=>z2N t n) func83
theorem zXI (t:P3) (n:Int) (l:List P3):zAk ⟨tyL,[(83,z2P)],[]⟩ f82 [ETy.arr3.av t,(ETy.pt jQ).av (some (n,l))] (fun r=>r= .s (.bool (!zYQ t n))):=by
 repeat' (conv=>whnf
          first|done|refine qy ?_|refine qG fun _=> ?_|refine qw (fun _=> ?_) (fun _=> ?_)|apply qt|refine qi (fun _=> ?_) (fun _=> ?_)|refine qu ?_|refine qv ?_ ?_|exact zL)
 all_goals try first|refine qz ?_|apply qz5
 all_goals try simp only [qn0,zY,zX,ETy.dflt,Int.reduceToNat,Int.reduceAdd,Int.reduceSub,Int.reduceNeg,Nat.reduceAdd,qL] at *
def zVm:List AV->Option Res:=zFm .arr3 (.pt jQ) (fun t o=>match o with|some s=>some (none,none,.s (.bool (!zYQ t s.1)))|none=>none)
theorem zWr:jN prog 82 zVm:=mkR (zA4 fun t o r h=>by
 cases o with
 | none=>cases h
 | some s=>cases h;exact fb (fn:=[(83,z2P)]) ⟨z16,trivial⟩ func82 fun _ _=>zXI t s.1 s.2) func82
attribute [local irreducible] zYQ
def zRG (n:Int):List P3->Nat->Int
 | [],_=> -1
 | t::r,i=>if zYQ t n=false then (i:Int) else zRG n r (i+1)
def zUw (n:Int) (l:List P3):Spec Nat where
 inv x:=x<=l.length/\zRG n l 0=zRG n (l.drop x) x
 live x:=[(8,.s (.int .i64 x))]
 keep:=[0,1,7]
 heap _:=[]
 keepH:=[]
 mu x:=l.length - x
theorem zMh {l:List P3} {x:Nat} (h:x<l.length):l.drop x=l.getD x (0,0,0)::l.drop (x+1):=by
 rw [List.drop_eq_getElem_cons h,gdE,gE h];rfl
theorem z0P (l:List P3) (s:Int×List P3):zAk ⟨tyL,[(82,zVm)],[]⟩ f115 [(ETy.sl .arr3).av l,.s (.clo 82 [⟨jQ,s⟩])] (fun r=>r= .s (.int .i64 (zRG s.1 l 0))):=by
 repeat' (conv=>whnf
          first|done|refine qy ?_|refine qG fun _=> ?_|refine qw (fun _=> ?_) (fun _=> ?_)|apply qt|refine qi (fun _=> ?_) (fun _=> ?_)|(refine jS 2 rfl (zUw s.1 l) (0) ?_ ?_ ?_ fun x hx=> ?_)|with_reducible refine jK (zUw _ _) (x+1) ?_ ?_ ?_ ?_|refine qu ?_|refine qv ?_ ?_|exact zL)
 all_goals try first|refine qz ?_|apply qz5
 all_goals try simp only [qn0,zY,zX,ETy.dflt,Int.reduceToNat,Int.reduceAdd,Int.reduceSub,Int.reduceNeg,Nat.reduceAdd,zUw] at *
 all_goals try (refine qh ?_;omega)
 ·exact qh ⟨y7 _,rfl⟩
 ·rename_i h1 h2;exact qh ⟨by omega,by rw [hx.2,zMh (by omega),zRG,if_neg (by rw [h2];simp)]⟩
 ·rename_i h1 h2;rw [hx.2,zMh (by omega),zRG,if_pos h2]
 ·rw [hx.2,y9 (by omega)];rfl
def zY2:List AV->Option Res
 | [.s (.sl .arr3 l),.s (.clo f [⟨.pair (.int .i64) (.sl .arr3),s⟩])]=>match Nat.beq f 82 with
   | true=>some (none,none,.s (.int .i64 (zRG s.1 l 0)))
   | false=>none
 | _=>none
theorem z0V:jN prog 115 zY2:=⟨fun args r h=>by
 unfold zY2 at h;split at h
 case h_2=>cases h
 split at h
 case h_2=>cases h
 rename_i he;cases h;rw [zC he]
 exact fb (fn:=[(82,zVm)]) ⟨zWr,trivial⟩ func115 fun _ _=>z0P _ _,_,func115,by kernel_rfl,by kernel_rfl⟩
theorem z2S (l:List P3) (s:Int×List P3):zAk ⟨tyL,[(115,zY2)],[]⟩ f81 [(ETy.sl .arr3).av l,.s (.clo 82 [⟨jQ,s⟩])] (fun r=>r= .s (.bool (decide (zRG s.1 l 0>=0)))):=by
 repeat' (conv=>whnf
          first|done|refine qy ?_|refine qG fun _=> ?_|refine qw (fun _=> ?_) (fun _=> ?_)|apply qt|refine qi (fun _=> ?_) (fun _=> ?_)|refine qu ?_|refine qv ?_ ?_|exact zL)
 all_goals try first|refine qz ?_|apply qz5
 all_goals try simp only [qn0,zY,zX,ETy.dflt,Int.reduceToNat,Int.reduceAdd,Int.reduceSub,Int.reduceNeg,Nat.reduceAdd] at *
def z2B:List AV->Option Res
 | [.s (.sl .arr3 l),.s (.clo f [⟨.pair (.int .i64) (.sl .arr3),s⟩])]=>match Nat.beq f 82 with
   | true=>some (none,none,.s (.bool (decide (zRG s.1 l 0>=0))))
   | false=>none
 | _=>none
theorem z0u:jN prog 81 z2B:=⟨fun args r h=>by
 unfold z2B at h;split at h
 case h_2=>cases h
 split at h
 case h_2=>cases h
 rename_i he;cases h;rw [zC he]
 exact fb (fn:=[(115,zY2)]) ⟨z0V,trivial⟩ func81 fun _ _=>z2S _ _,_,func81,by kernel_rfl,by kernel_rfl⟩
def zDp (s:Int×List P3):Bool:= !(decide (s.1<0)|| (decide (s.1>4096)|| (decide ((s.2.length:Int)>8192)|| decide (zRG s.1 s.2 0>=0))))
theorem z0d (n:Int) (l:List P3):zAk ⟨tyL,[(81,z2B)],[]⟩ Tryz.f48 [jQ.av (n,l)] (fun r=>r= .s (.bool (zDp (n,l)))):=by
 repeat' (conv=>whnf
          first|done|refine qy ?_|refine qG fun _=> ?_|refine qw (fun _=> ?_) (fun _=> ?_)|apply qt|refine qi (fun _=> ?_) (fun _=> ?_)|refine qu ?_|refine qv ?_ ?_|exact zL)
 all_goals try first|refine qz ?_|apply qz5
 all_goals try simp only [qn0,zY,zX,ETy.dflt,Int.reduceToNat,Int.reduceAdd,Int.reduceSub,Int.reduceNeg,Nat.reduceAdd,zDp] at *
 all_goals simp [*]
def zL8:List AV->Option Res:=zF4 jQ (fun s=>some (none,none,.s (.bool (zDp s))))
theorem zLI:jN prog 48 zL8:=mkR (zAm fun s r h=>by cases h;exact fb (by exact ⟨z0u,trivial⟩) func48 fun _ _=>z0d s.1 s.2) func48
theorem zTW (n:Int): ∀ (l:List P3) (i:Nat),(∀ t∈l,zYQ t n=true)->zRG n l i= -1
 | [],_,_=>rfl
 | t::r,i,h=>by
   unfold zRG;rw [if_neg (by rw [h t (zR ..)];simp)];exact zTW n r (i+1) fun u hu=>h u (zN _ hu)
abbrev zDZ:=Int×Int×List Int×List P3×List Int
abbrev SoT:=Int×List P3
abbrev zSF:ETy:= .pair qX (.pair qX (.pair (.sl qX) (.pair (.sl .arr3) (.sl qX))))
def zS0 (v a b:Int):Int:=if v<0 then -1 else if (if v=a then b else v)>a then (if v=a then b else v) - 1 else (if v=a then b else v)
theorem z1k {fn} (v:Int) (r:zDZ) (h:(-1000000<=v/\v<=1000000)/\(-1000000<=r.2.1/\r.2.1<=1000000)):zAk ⟨tyL,fn,[]⟩ f53 [qX.av v,zSF.av r] (fun x=>x= .s (.int .i64 (zS0 v r.1 r.2.1))):=by
 repeat' (conv=>whnf
          first|done|refine qy ?_|refine qG fun _=> ?_|refine qw (fun _=> ?_) (fun _=> ?_)|apply qt|refine qi (fun _=> ?_) (fun _=> ?_)|refine qu ?_|refine qv ?_ ?_|exact zL)
 all_goals try first|refine qz ?_|apply qz5
 all_goals try simp only [qn0,zY,zX,ETy.dflt,Int.reduceToNat,Int.reduceAdd,Int.reduceSub,Int.reduceNeg,Nat.reduceAdd,zS0] at *
 all_goals try (refine qh ?_;unfold zAZ;omega)
 all_goals
  (repeat' split)<;>first|rfl|(exfalso;omega)|omega
def zUG:List AV->Option Res:=zFm qX zSF (fun (v:Int) (r:zDZ)=>some (none,some ((-1000000<=v/\v<=1000000)/\(-1000000<=r.2.1/\r.2.1<=1000000)),.s (.int .i64 (zS0 v r.1 r.2.1))))
theorem zTi:jN prog 53 zUG:=mkR (zA4 fun v r r h=>by cases h;exact fb (fn:=[]) trivial func53 fun _ h=>z1k v r h) func53
def zMV (w:Int):Int:=if w=1 then 8 else if w=2 then 13 else if w=3\/w=4 then 14 else 0
theorem z1Q {fn} (w:Int):zAk ⟨tyL,fn,[]⟩ Tryz.f49 [qX.av w] (fun x=>x= .s (.int .i64 (zMV w))):=by
 repeat' (conv=>whnf
          first|done|refine qy ?_|refine qG fun _=> ?_|refine qw (fun _=> ?_) (fun _=> ?_)|apply qt|refine qi (fun _=> ?_) (fun _=> ?_)|refine qu ?_|refine qv ?_ ?_|exact zL)
 all_goals try first|refine qz ?_|apply qz5
 all_goals try simp only [qn0,zY,zX,ETy.dflt,Int.reduceToNat,Int.reduceAdd,Int.reduceSub,Int.reduceNeg,Nat.reduceAdd,zMV] at *
 all_goals
  (repeat' split)<;>first|rfl|(exfalso;omega)
def zTe:List AV->Option Res:=zF4 qX (fun w=>some (none,none,.s (.int .i64 (zMV w))))
theorem zVT:jN prog 49 zTe:=mkR (zAm fun w r h=>by cases h;exact fb (fn:=[]) trivial func49 fun _ _=>z1Q w) func49
def eqS (a b:SoT):Bool:=decide (a=b)
def eqL (a b:List Int):Bool:=decide (a=b)
def zUW (a b:List Int):Spec Nat where
 inv x:=x<=a.length/\∀ i,i<x->a.getD i 0=b.getD i 0
 live x:=[(13,.s (.int .i64 x))]
 keep:=[0,1,12]
 heap _:=[]
 keepH:=[]
 mu x:=a.length - x
theorem zUa {fn} (a b:List Int):zAk ⟨tyL,fn,[]⟩ f114 [(ETy.sl qX).av a,(ETy.sl qX).av b] (fun v=>v= .s (.bool (eqL a b))):=by
 repeat' (conv=>whnf
          first|done|refine qy ?_|refine qG fun _=> ?_|refine qw (fun _=> ?_) (fun _=> ?_)|apply qt|refine qi (fun _=> ?_) (fun _=> ?_)|(refine jS 4 rfl (zUW a b) (0) ?_ ?_ ?_ fun x hx=> ?_)|with_reducible refine jK (zUW _ _) (x+1) ?_ ?_ ?_ ?_|refine qu ?_|refine qv ?_ ?_|exact zL)
 all_goals try first|refine qz ?_|apply qz5
 all_goals try simp only [qn0,zY,zX,ETy.dflt,Int.reduceToNat,Int.reduceAdd,Int.reduceSub,Int.reduceNeg,Nat.reduceAdd,zUW,eqL] at *
 ·symm;rw [yX];intro e;subst e;exact absurd rfl (by assumption)
 ·exact qh ⟨y7 _,fun i hi=>by omega⟩
 ·symm;rw [yX];intro e;subst e;exact absurd rfl (by assumption)
 ·refine zA9.intro ⟨by omega,fun i hi=> ?_⟩
  by_cases e:i=x
  ·subst e;assumption
  ·exact hx.2 i (by omega)
 ·refine qh ?_;omega
 ·symm;rw [zB];apply List.ext_getElem
  ·omega
  ·intro i h1 h2;have:=hx.2 i (by omega);rw [gdE,gdE,gE h1,gE h2] at this;exact this
def zOV:List AV->Option Res:=zFm (.sl qX) (.sl qX) (fun a b=>some (none,none,.s (.bool (eqL a b))))
theorem zSp:jN prog 114 zOV:=mkR (zA4 fun a b r h=>by cases h;exact fb (fn:=[]) trivial func114 fun _ _=>zUa a b) func114
end S1
namespace S1
def atG (a b:Int) (l:List P3) (i:Nat):Option Int:=if both a b (tg l i)=true then some (i:Int) else none
def rtG (a b:Int) (l:List P3) (i:Nat):Option P3:=if both a b (tg l i)=true then some (tg l i) else none
def zKD (a:Int) (t:P3):Int:=if t.1=a then 0 else if t.2.1=a then 1 else 2
def zLz (a b:Int) (l:List P3) (i:Nat):Option Int:=if both a b (tg l i)=true then none else if zV (tg l i) a then some (3*(i:Int)+zKD a (tg l i)) else none
def atL (a b:Int) (l:List P3) (i:Nat):List Int:=(List.range i).filterMap (atG a b l)
def rtL (a b:Int) (l:List P3) (i:Nat):List P3:=(List.range i).filterMap (rtG a b l)
def zDj (a b:Int) (l:List P3) (i:Nat):List Int:=(List.range i).filterMap (zLz a b l)
def zLV (s:SoT) (a b:Int):zDZ:=(a,b,atL a b s.2 s.2.length,rtL a b s.2 s.2.length,zDj a b s.2 s.2.length)
theorem zNW {α:Type} (d:α) (f:Nat->Option α) {i:Nat} {x:α} (h:f i=some x): ∀ n,i<n->((List.range i).filterMap f).length<((List.range n).filterMap f).length/\((List.range n).filterMap f).getD ((List.range i).filterMap f).length d=x
 | 0,hi=>by omega
 | n +1,hi=>by
   rw [zAE]
   by_cases e:i=n
   ·subst e;rw [h,Option.toList];refine ⟨by simp,?_⟩;rw [gdE,qT (zH _)];simp
   ·obtain ⟨h1,h2⟩:=zNW d f h n (by omega);refine ⟨by rw [zO];omega,?_⟩;rw [gdE,yF h1,<- gdE];exact h2
theorem zRc (a b:Int) (l:List P3): ∀ i,(atL a b l i).length+(drL a b l i).length=i
 | 0=>rfl
 | i+1=>by
   have ih:=zRc a b l i;have e1:atL a b l (i+1)=atL a b l i++(atG a b l i).toList:=zAE _ _;rw [e1,zGK];unfold atG drG;split<;>simp only [Option.toList,zO,List.length_singleton,List.length_nil]<;>omega
theorem zRg (a b:Int) (l:List P3): ∀ i,(atL a b l i).length=(rtL a b l i).length
 | 0=>rfl
 | i+1=>by
   have ih:=zRg a b l i;have e1:atL a b l (i+1)=atL a b l i++(atG a b l i).toList:=zAE _ _;have e2:rtL a b l (i+1)=rtL a b l i++(rtG a b l i).toList:=zAE _ _;rw [e1,e2];unfold atG rtG;split<;>simp only [Option.toList,zO,List.length_singleton,List.length_nil]<;>omega
theorem z3i (a b:Int) (l:List P3) (i:Nat):(atL a b l i).length<=i:=zFt _ _
theorem z3x (a b:Int) (l:List P3) (i:Nat):(rtL a b l i).length<=i:=zFt _ _
theorem z2Q (a b:Int) (l:List P3) (i:Nat):(zDj a b l i).length<=i:=zFt _ _
def upV (A v:Int):Int:=if v>=A then v+1 else v
def upT (A:Int) (t:P3):P3:=(upV A t.1,upV A t.2.1,upV A t.2.2)
abbrev GoT:=List (Int×P3)
def z1E (at_:List Int) (ts:List P3) (k:Nat):GoT:=jL (fun (m:GoT) k=>(zAe (.int .i64) m (at_.getD k 0) (ts.getD k (0,0,0)):GoT)) [] k
def kF (g:GoT):Nat->Nat
 | 0=>0
 | i+1=>if (zAR (.int .i64) g (i:Int)).isSome=true then kF g i else kF g i+1
def bkT (g:GoT) (T:List P3) (A:Int) (i:Nat):P3:=(zAR (.int .i64) g (i:Int)).getD (upT A (tg T (kF g i)))
def zJ9 (g:GoT) (T:List P3) (A:Int) (i:Nat):List P3:=(List.range i).map (bkT g T A)
def z2k (t:P3) (k:Nat) (v:Int):P3:=(if k=0 then v else t.1,if k=1 then v else t.2.1,if k=2 then v else t.2.2)
def zUe (A:Int) (o:List P3) (c:Int):List P3:=o.set (c.tdiv 3).toNat (z2k (o.getD (c.tdiv 3).toNat (0,0,0)) (c.tmod 3).toNat A)
def zRR (A:Int) (fan:List Int) (o:List P3) (j:Nat):List P3:=jL (fun o k=>zUe A o (fan.getD k 0)) o j
def bkN (s:SoT) (r:zDZ):Nat:=s.2.length+r.2.2.1.length
def bkC (s:SoT) (r:zDZ):Prop:=r.2.2.1.length=r.2.2.2.1.length/\0<=r.1/\r.1<=s.1/\s.1<4096/\bkN s r<=8192
instance (s:SoT) (r:zDZ):Decidable (bkC s r):=inferInstanceAs (Decidable (_/\_))
def bkG (r:zDZ):GoT:=z1E r.2.2.1 r.2.2.2.1 r.2.2.1.length
def zUs (n:Nat) (fan:List Int):Bool:=fan.all fun c=>decide (0<=c/\c<3*(n:Int))
def bkR (s:SoT) (r:zDZ):SoT×Bool :=
 if bkC s r/\kF (bkG r) (bkN s r)<=s.2.length/\zUs (bkN s r) r.2.2.2.2=true then
  ((s.1+1,zRR r.1 r.2.2.2.2 (zJ9 (bkG r) s.2 r.1 (bkN s r)) r.2.2.2.2.length),decide (kF (bkG r) (bkN s r)=s.2.length))
 else ((0,[]),false)
theorem z4h (g:GoT) (i:Nat):kF g (i+1)=if (zAR (.int .i64) g (i:Int)).isSome=true then kF g i else kF g i+1:=rfl
theorem zVc (g:GoT): ∀ {i j:Nat},i<=j->kF g i<=kF g j
 | i,0,h=>by rw [show i=0 by omega];exact zH _
 | i,j+1,h=>by
   by_cases e:i=j+1
   ·rw [e];exact zH _
   ·have:=zVc g (i:=i) (j:=j) (by omega);rw [z4h];split<;>omega
structure Was (w:SoT) (a b:Int):Prop where
 surf:zDM w
 ha:InN w.1 a
 hb:InN w.1 b
 ne:a≠b
section
variable {w:SoT} {a b:Int} (h:Was w a b)
theorem zYx (a b:Int) (l:List P3): ∀ i,i<=l.length->∀ j:Nat,zAR (.int .i64) (z1E (atL a b l l.length) (rtL a b l l.length) (atL a b l i).length) (j:Int)=if j<i/\both a b (tg l j)=true then some (tg l j) else none
 | 0,_,j=>by rw [if_neg (by omega)];rfl
 | i + 1,hi,j=>by
   have ih:=zYx a b l i (by omega) j;have e1:atL a b l (i+1)=atL a b l i++(atG a b l i).toList:=zAE _ _;rw [e1]
   by_cases k:both a b (tg l i)=true
   ·have f1:atG a b l i=some (i:Int):=by unfold atG;rw [if_pos k]
    have f2:rtG a b l i=some (tg l i):=by unfold rtG;rw [if_pos k]
    have g1:=(zNW (0:Int) (atG a b l) f1 l.length (by omega)).2;have g2:=(zNW ((0,0,0):P3) (rtG a b l) f2 l.length (by omega)).2;have er:(atL a b l i).length=(rtL a b l i).length:=zRg a b l i;have g2:(rtL a b l l.length).getD (atL a b l i).length (0,0,0)=tg l i:=by rw [er];exact g2
    have g1:(atL a b l l.length).getD (atL a b l i).length 0=(i:Int):=g1;rw [f1,Option.toList,zO,List.length_singleton];show zAR (.int .i64) (zAe (.int .i64) (z1E _ _ (atL a b l i).length) ((atL a b l l.length).getD (atL a b l i).length 0) ((rtL a b l l.length).getD (atL a b l i).length (0,0,0))) (j:Int)=_;rw [g1,g2]
    by_cases e:j=i
    ·subst e;rw [zAt,if_pos ⟨by omega,k⟩]
    ·rw [zBM _ (show ((i:Nat):Int)≠(j:Int) by omega),ih]
     by_cases q:both a b (tg l j)=true
     ·by_cases q2:j<i
      ·rw [if_pos ⟨q2,q⟩,if_pos ⟨by omega,q⟩]
      ·rw [if_neg (fun z=>q2 z.1),if_neg (fun z=>by omega)]
     ·rw [if_neg (fun z=>q z.2),if_neg (fun z=>q z.2)]
   ·have f1:atG a b l i=none:=by unfold atG;rw [if_neg k]
    rw [f1,Option.toList,yJ,ih]
    by_cases q:both a b (tg l j)=true
    ·by_cases q2:j<i
     ·rw [if_pos ⟨q2,q⟩,if_pos ⟨by omega,q⟩]
     ·have: ¬ j<i+1:=fun z=>k (by rw [<- show j=i by omega];exact q);rw [if_neg (fun z=>q2 z.1),if_neg (fun z=>this z.1)]
    ·rw [if_neg (fun z=>q z.2),if_neg (fun z=>q z.2)]
theorem zSU (a b:Int) {l:List P3} {j:Nat} (hj:j<l.length):zAR (.int .i64) (z1E (atL a b l l.length) (rtL a b l l.length) (atL a b l l.length).length) (j:Int)=if both a b (tg l j)=true then some (tg l j) else none:=by
 rw [zYx a b l l.length (zH _) j]
 by_cases q:both a b (tg l j)=true
 ·rw [if_pos ⟨hj,q⟩,if_pos q]
 ·rw [if_neg (fun z=>q z.2),if_neg q]
theorem zSa (a b:Int) (l:List P3): ∀ i,i<=l.length->kF (z1E (atL a b l l.length) (rtL a b l l.length) (atL a b l l.length).length) i=(drL a b l i).length
 | 0,_=>rfl
 | i+1,hi=>by
   rw [z4h,zSa a b l i (by omega),zSU a b (by omega),zGK];unfold drG;split
   ·simp [Option.toList]
   ·simp [Option.toList]
theorem zTD {a b v:Int} (h:v≠a):upV a (dn a (ph a b v))=v:=by
 rw [zMJ h];unfold upV dn;split<;>split<;>omega
def upD (a b:Int) (t:P3):P3:=if both a b t=true then t else upT a (drT a b t)
theorem z02 (a b:Int) (l:List P3) {i:Nat} (hi:i<=l.length):zJ9 (z1E (atL a b l l.length) (rtL a b l l.length) (atL a b l l.length).length) (drL a b l l.length) a i=(List.range i).map fun j=>upD a b (tg l j):=by
 unfold zJ9;refine qJ fun j hj=> ?_;have hj:=zQ.1 hj;unfold bkT upD;rw [zSU a b (by omega)];split
 ·rfl
 ·rename_i k;rw [zSa a b l j (by omega)];have f:drG a b l j=some (drT a b (tg l j)):=by unfold drG;rw [if_neg k]
  have:=(zNW ((0,0,0):P3) (drG a b l) f l.length (by omega)).2;have:tg (drL a b l l.length) (drL a b l j).length=drT a b (tg l j):=this;show upT a (tg (drL a b l l.length) (drL a b l j).length)=_;rw [this]
theorem zQK {a:Int} {t:P3} :0<=zKD a t/\zKD a t<3:=by unfold zKD;split<;>(try split)<;>omega
theorem z0G {a b:Int} {t:P3} (hd: ¬ dgn t) (ha:zV t a):z2k (upT a (drT a b t)) (zKD a t).toNat a=t:=by
 obtain ⟨x,y,z⟩:=t;unfold dgn at hd;unfold zV at ha;simp only at hd ha;have key: ∀ {v:Int},v≠a->upV a (dn a (ph a b v))=v:=fun h=>zTD h
 by_cases h1:x=a
 ·have h2:y≠a:=by omega
  have h3:z≠a:=by omega
  simp only [zKD,h1,if_true,z2k,upT,drT,zFb,phT,key h2,key h3];simp
 ·by_cases h2:y=a
  ·have h3:z≠a:=by omega
   simp only [zKD,h1,h2,if_true,if_false,z2k,upT,drT,zFb,phT,key h1,key h3];simp
  ·have h3:z=a:=by omega
   simp only [zKD,h1,h2,h3,if_true,if_false,z2k,upT,drT,zFb,phT,key h1,key h2];simp
theorem zYe {a b:Int} {t:P3} (ha: ¬ zV t a):upT a (drT a b t)=t:=by
 obtain ⟨x,y,z⟩:=t;unfold zV at ha;simp only at ha;show (upV a (dn a (ph a b x)),upV a (dn a (ph a b y)),upV a (dn a (ph a b z)))=_;rw [zTD (by omega),zTD (by omega),zTD (by omega)]
def zUD (a b:Int) (l:List P3) (i j:Nat):P3:=if j<i then tg l j else upD a b (tg l j)
theorem zTp {a b:Int} {l:List P3} (hd: ∀ j,j<l.length->¬ dgn (tg l j)): ∀ i,i<=l.length->zRR a (zDj a b l l.length) ((List.range l.length).map fun j=>upD a b (tg l j)) (zDj a b l i).length=(List.range l.length).map (zUD a b l i)
 | 0,_=>by
   show ((List.range l.length).map fun j=>upD a b (tg l j))=_;refine qJ fun j hj=> ?_;unfold zUD;rw [if_neg (by omega)]
 | i + 1,hi=>by
   have ih:=zTp (a:=a) (b:=b) hd i (by omega);have e1:zDj a b l (i+1)=zDj a b l i++(zLz a b l i).toList:=zAE _ _
   have oth: ∀ j,j≠i->zUD a b l (i+1) j=zUD a b l i j:=fun j hj=>by
    unfold zUD
    by_cases q:j<i
    ·rw [if_pos q,if_pos (by omega)]
    ·rw [if_neg q,if_neg (by omega)]
   rw [e1];cases f:zLz a b l i with
   | none =>
     rw [Option.toList,yJ,ih];refine qJ fun j hj=> ?_
     by_cases e:j=i
     ·subst e;unfold zUD;rw [if_neg (by omega),if_pos (by omega)];unfold upD;split
      ·rfl
      ·rename_i k;unfold zLz at f;rw [if_neg k] at f;split at f
       ·cases f
       ·rename_i k2;exact zYe k2
     ·exact (oth j e).symm
   | some c =>
     have g1:=(zNW (0:Int) (zLz a b l) f l.length (by omega)).2;have g1:(zDj a b l l.length).getD (zDj a b l i).length 0=c:=g1;rw [Option.toList,zO,List.length_singleton];show zUe a (zRR a (zDj a b l l.length) _ (zDj a b l i).length) ((zDj a b l l.length).getD (zDj a b l i).length 0)=_;rw [g1,ih];unfold zLz at f;split at f
     ·cases f
     rename_i k;split at f
     case isFalse=>cases f
     rename_i k2;cases f;have hp:=zQK (a:=a) (t:=tg l i);unfold zUe
     have q1:((3*(i:Int)+zKD a (tg l i)).tdiv 3).toNat=i:=by
      rw [Int.tdiv_eq_ediv_of_nonneg (by omega)];omega
     have q2:((3*(i:Int)+zKD a (tg l i)).tmod 3).toNat=(zKD a (tg l i)).toNat:=by
      rw [Int.tmod_eq_emod_of_nonneg (by omega)];omega
     rw [q1,q2]
     have gi:((List.range l.length).map (zUD a b l i)).getD i (0,0,0)=upT a (drT a b (tg l i)):=by
      rw [gdE,j0,List.getElem?_range (by omega)];show zUD a b l i i=_;unfold zUD upD;rw [if_neg (by omega),if_neg k]
     rw [gi,z0G (hd i (by omega)) k2];apply List.ext_getElem
     ·simp
     ·intro j h1 h2;rw [List.getElem_set]
      by_cases e:i=j
      ·subst e;rw [if_pos rfl,List.getElem_map,List.getElem_range];unfold zUD;rw [if_pos (by omega)]
      ·rw [if_neg e,List.getElem_map,List.getElem_map,List.getElem_range];exact (oth j (Ne.symm e)).symm
theorem zOQ {a b:Int} {l:List P3} {n:Nat} {c:Int} :c∈zDj a b l n↔∃ j,j<n/\zLz a b l j=some c:=by
 unfold zDj;rw [List.mem_filterMap];exact ⟨fun ⟨j,h1,h2⟩=>⟨j,zQ.1 h1,h2⟩,fun ⟨j,h1,h2⟩=>⟨j,zQ.2 h1,h2⟩⟩
theorem zNF {a b:Int} {l:List P3} {j:Nat} {c:Int} (h:zLz a b l j=some c): ¬ (both a b (tg l j)=true)/\zV (tg l j) a/\c=3*(j:Int)+zKD a (tg l j):=by
 unfold zLz at h;split at h
 ·cases h
 ·rename_i k;split at h
  ·rename_i k2;cases h;exact ⟨k,k2,rfl⟩
  ·cases h
include h
theorem z4P:bkR (w.1 - 1,drL a b w.2 w.2.length) (zLV w a b)=(w,true):=by
 obtain ⟨n,l⟩:=w;have hf:=h.surf.fit
 have hn:bkN (n - 1,drL a b l l.length) (zLV (n,l) a b)=l.length:=by
  have:=zRc a b l l.length;show (drL a b l l.length).length+(atL a b l l.length).length=_;omega
 have hk:=zSa a b l l.length (zH _);unfold bkR;rw [hn]
 have hC:bkC (n - 1,drL a b l l.length) (zLV (n,l) a b):=by
  refine ⟨zRg a b l l.length,h.ha.1,?_,?_,?_⟩
  ·show a<=n - 1;have:=h.ha.2;have:a<n:=this;omega
  ·show n - 1<4096;have:n<=4096:=hf.2.1;omega
  ·rw [hn];exact hf.2.2.1
 have hK:kF (bkG (zLV (n,l) a b)) l.length=(drL a b l l.length).length:=hk
 have hF:zUs l.length (zLV (n,l) a b).2.2.2.2=true:=by
  unfold zUs;rw [zM];intro c hc;obtain ⟨j,hj,f⟩:=zOQ.1 hc;obtain ⟨_,_,e⟩:=zNF f;have h3:=zQK (a:=a) (t:=tg l j);have hj:j<l.length:=hj;have e:c=3*(j:Int)+zKD a (tg l j):=e;rw [zB];omega
 rw [if_pos ⟨hC,by rw [hK];exact zH _,hF⟩,decide_eq_true (by rw [hK])];refine Prod.ext (Prod.ext (by show n - 1+1=n;omega) ?_) rfl;show zRR a (zDj a b l l.length) (zJ9 _ (drL a b l l.length) a l.length) (zDj a b l l.length).length=l;have e:=z02 a b l (zH _);have e:zJ9 (bkG (zLV (n,l) a b)) (drL a b l l.length) a l.length=_:=e;rw [e,zTp h.surf.deg l.length (zH _)];conv=>rhs;rw [<- zEw (0,0,0) l]
 refine qJ fun j hj=> ?_;unfold zUD;rw [if_pos (zQ.1 hj)]
end
def aF (at_:List Int):Nat->Nat
 | 0=>0
 | i+1=>if aF at_ i<at_.length/\at_.getD (aF at_ i) 0=(i:Int) then aF at_ i+1 else aF at_ i
def fv (A:Int) (fan:List Int) (c v:Int):Int:=if c∈fan then A else v
def rfT (A:Int) (fan:List Int) (i:Nat) (t:P3):P3:=(fv A fan (3*(i:Int)) (upV A t.1),fv A fan (3*(i:Int)+1) (upV A t.2.1),fv A fan (3*(i:Int)+2) (upV A t.2.2))
def rbT (at_:List Int) (ts T:List P3) (A:Int) (fan:List Int) (i:Nat):P3:=if aF at_ i<at_.length/\at_.getD (aF at_ i) 0=(i:Int) then tg ts (aF at_ i) else rfT A fan i (tg T (i - aF at_ i))
def z5G (at_:List Int) (ts T:List P3) (A:Int) (fan:List Int) (i:Nat):List P3:=(List.range i).map (rbT at_ ts T A fan)
def rbC (s:SoT) (r:zDZ):Prop:=r.2.2.1.length=r.2.2.2.1.length/\bkN s r<=8192/\0<=r.1/\r.1<=s.1
instance (s:SoT) (r:zDZ):Decidable (rbC s r):=inferInstanceAs (Decidable (_/\_))
def rbk (s:SoT) (r:zDZ):Option SoT :=
 if rbC s r/\bkN s r - aF r.2.2.1 (bkN s r)<=s.2.length then some (s.1+1,z5G r.2.2.1 r.2.2.2.1 s.2 r.1 r.2.2.2.2 (bkN s r)) else none
theorem z63 (at_:List Int) (i:Nat):aF at_ (i+1)=if aF at_ i<at_.length/\at_.getD (aF at_ i) 0=(i:Int) then aF at_ i+1 else aF at_ i:=rfl
section
variable {w:SoT} {a b:Int} (h:Was w a b)
theorem zPe (a b:Int) (l:List P3) {i:Nat} (hi:i<l.length):((atL a b l i).length<(atL a b l l.length).length/\(atL a b l l.length).getD (atL a b l i).length 0=(i:Int))↔both a b (tg l i)=true:=by
 constructor
 ·rintro ⟨h1,h2⟩;have:=zA0 h1;rw [h2] at this;unfold atL at this;obtain ⟨j,hj,e⟩:=List.mem_filterMap.1 this;unfold atG at e;split at e
  ·rename_i k;have e:=Option.some.inj e;rw [<- show j=i by omega];exact k
  ·cases e
 ·intro k;exact zNW (0:Int) (atG a b l) (x:=(i:Int)) (by unfold atG;rw [if_pos k]) l.length hi
theorem zZA (a b:Int) (l:List P3): ∀ i,i<=l.length->aF (atL a b l l.length) i=(atL a b l i).length
 | 0,_=>rfl
 | i +1,hi=>by
   have e1:atL a b l (i+1)=atL a b l i++(atG a b l i).toList:=zAE _ _;rw [z63,zZA a b l i (by omega),e1]
   by_cases k:both a b (tg l i)=true
   ·rw [if_pos ((zPe a b l (by omega)).2 k)];unfold atG;rw [if_pos k];simp [Option.toList]
   ·rw [if_neg (fun z=>k ((zPe a b l (by omega)).1 z))];unfold atG;rw [if_neg k];simp [Option.toList]
theorem z3q {a b:Int} {l:List P3} {i:Nat} (hi:i<l.length) (hd: ¬ dgn (tg l i)) (hb: ¬ (both a b (tg l i)=true)):rfT a (zDj a b l l.length) i (drT a b (tg l i))=tg l i:=by
 have key: ∀ (k:Int) (v:Int),0<=k->k<3->(v=a↔(zV (tg l i) a/\zKD a (tg l i)=k))->fv a (zDj a b l l.length) (3*(i:Int)+k) (upV a (dn a (ph a b v)))=v:=fun k v k0 k3 hv=>by
  unfold fv;split
  ·rename_i hm;obtain ⟨j,hj,f⟩:=zOQ.1 hm;obtain ⟨_,f2,f3⟩:=zNF f;have:=zQK (a:=a) (t:=tg l j);have e:j=i:=by omega
   subst e;exact (hv.2 ⟨f2,by omega⟩).symm
  ·rename_i hm;refine zTD fun e=>hm ?_;obtain ⟨q1,q2⟩:=hv.1 e;refine zOQ.2 ⟨i,hi,?_⟩;unfold zLz;rw [if_neg hb,if_pos q1,q2]
 unfold dgn at hd
 have e0:=key 0 (tg l i).1 (by omega) (by omega) (by
  unfold zV zKD;constructor
  ·intro e;exact ⟨.inl e,by rw [if_pos e]⟩
  ·rintro ⟨_,e⟩;split at e
   ·assumption
   ·split at e<;>omega)
 have e1:=key 1 (tg l i).2.1 (by omega) (by omega) (by
  unfold zV zKD;constructor
  ·intro e;exact ⟨.inr (.inl e),by rw [if_neg (by omega),if_pos e]⟩
  ·rintro ⟨_,e⟩;split at e
   ·omega
   ·split at e
    ·assumption
    ·omega)
 have e2:=key 2 (tg l i).2.2 (by omega) (by omega) (by
  unfold zV zKD;constructor
  ·intro e;exact ⟨.inr (.inr e),by rw [if_neg (by omega),if_neg (by omega)]⟩
  ·rintro ⟨q,e⟩;split at e
   ·omega
   ·split at e<;>omega)
 rw [Int.add_zero] at e0;exact Prod.ext e0 (Prod.ext e1 e2)
include h
theorem z2V:rbk (w.1 - 1,drL a b w.2 w.2.length) (zLV w a b)=some w:=by
 obtain ⟨n,l⟩:=w;have hf:=h.surf.fit
 have hn:bkN (n - 1,drL a b l l.length) (zLV (n,l) a b)=l.length:=by
  have:=zRc a b l l.length;show (drL a b l l.length).length+(atL a b l l.length).length=_;omega
 have hC:rbC (n - 1,drL a b l l.length) (zLV (n,l) a b):=by
  refine ⟨zRg a b l l.length,by rw [hn];exact hf.2.2.1,h.ha.1,?_⟩;show a<=n - 1;have:=h.ha.2;have:a<n:=this;omega
 have ha:=zZA a b l
 have hl: ∀ i,i<=l.length->i - aF (atL a b l l.length) i=(drL a b l i).length:=fun i hi=>by
  rw [ha i hi];have:=zRc a b l i;omega
 unfold rbk;rw [hn];have h2:l.length - aF (zLV (n,l) a b).2.2.1 l.length<=(drL a b l l.length).length:=Nat.le_of_eq (hl l.length (zH _));rw [if_pos ⟨hC,h2⟩];refine congrArg some (Prod.ext (by show n - 1+1=n;omega) ?_);show z5G (atL a b l l.length) (rtL a b l l.length) (drL a b l l.length) a (zDj a b l l.length) l.length=l;unfold z5G;conv=>rhs;rw [<- zEw (0,0,0) l]
 refine qJ fun j hj=> ?_;have hj:=zQ.1 hj;show rbT _ _ _ a _ j=tg l j;unfold rbT;rw [ha j (by omega)]
 by_cases k:both a b (tg l j)=true
 ·rw [if_pos ((zPe a b l hj).2 k)];have f2:rtG a b l j=some (tg l j):=by unfold rtG;rw [if_pos k]
  have g2:=(zNW ((0,0,0):P3) (rtG a b l) f2 l.length hj).2;rw [zRg a b l j];exact g2
 ·rw [if_neg (fun z=>k ((zPe a b l hj).1 z))];have f:drG a b l j=some (drT a b (tg l j)):=by unfold drG;rw [if_neg k]
  have g:=(zNW ((0,0,0):P3) (drG a b l) f l.length hj).2;have g:tg (drL a b l l.length) (drL a b l j).length=drT a b (tg l j):=g;rw [show j - (atL a b l j).length=(drL a b l j).length by have:=zRc a b l j;omega,g];exact z3q hj (h.surf.deg j hj) k
end
end S1
namespace S1
def zax (m:ReM) (l:List Int):ReM:=l.foldl (fun m c=>zAe (.int .i64) m (c.tdiv 3) true) m
def stK (x:z6.T) (e:Int×Int):Nat->ReM
 | 0=>[]
 | k+1=>zax (stK x e k) (yS (some x) ([e.1,e.2].getD k 0))
def z6m (x:z6.T) (e:Int×Int):ReM:=stK x e 2
def z9k (x:z6.T) (e:Int×Int):Spec Nat where
 inv k:=k<=2
 live k:=[(11,.s (.int .i64 k))]
 keep:=[0,3,5,10]
 heap k:=[(1,.map qX .bool (stK x e k))]
 keepH:=[0,2]
 mu k:=2 - k
def zba (m:ReM) (L:List Int):Spec Nat where
 inv _:=True
 live _:=[]
 keep:=[0,3,5,10,11]
 heap k:=[(1,.map qX .bool (zax m (L.take k)))]
 keepH:=[0,2,3,4]
 mu _:=0
theorem zcb {m:ReM} {L:List Int} {j:Nat} (hj:j<L.length):zax m (L.take (j+1))=zAe (.int .i64) (zax m (L.take j)) ((L.getD j 0).tdiv 3) true:=by
 unfold zax;rw [yH hj,z6a,gdE,gE hj];rfl
theorem zaz {c:Int} (h:InK .i64 c):zAZ (c.tdiv 3):=by
 have h:=InK.i64.1 h;unfold zAZ at *;rcases Int.le_total 0 c with k|k
 ·rw [Int.tdiv_eq_ediv_of_nonneg k];omega
 ·have e:(-c).tdiv 3= -(c.tdiv 3):=Int.neg_tdiv ..;rw [Int.tdiv_eq_ediv_of_nonneg (by omega)] at e;omega
attribute [local irreducible] zax yS
theorem zcU (x:z6.T) (a b:Int) (g:Good x):zV4 ⟨tyL,[(58,zIs)],[]⟩ z5t f40 [(ETy.pt z6).av (some x),ETy.arr2.av (a,b)] (fun r=>r= .s (.mp qX .bool (z6m x (a,b)))):=by
 repeat' (conv=>whnf
          first|done|refine qy ?_|refine qG fun _=> ?_|refine qw (fun _=> ?_) (fun _=> ?_)|apply qt|refine qi (fun _=> ?_) (fun _=> ?_)|refine yM (Nat) (yM (z9k x (a,b)) (yA (yM (0) (yA (zA9.out ?_) (yA ?_ (yA ?_ rfl)))) (fun k hk=> ?_)))|with_reducible refine jK (z9k _ _) (k+1) ?_ ?_ ?_ ?_|refine yM (yS (some x) ([a,b].getD k 0)) (yA (zA9.out ?_) (yM (zba (stK x (a,b) k) (yS (some x) ([a,b].getD k 0))) ?_))|(refine yA (fun X=> ?_) (fun X=> ?_))|(refine yA (yA ?_ (yA ?_ rfl)) (fun j hj=> ?_))|(refine yA ?_ (yA ?_ rfl))|refine qu ?_|refine qv ?_ ?_|exact zL)
 all_goals try first|refine qz ?_|apply qz5
 all_goals try simp only [qn0,zY,zX,ETy.dflt,Int.reduceToNat,Int.reduceAdd,Int.reduceSub,Int.reduceNeg,Nat.reduceAdd,z9k,zba] at *
 all_goals try (refine qh ?_;omega)
 ·have hk2:k<2:=by omega
  refine zA9.intro ⟨rfl,some x,[a,b].getD k 0,rfl,fun y e=>by cases e;exact g,rfl⟩
 ·rw [List.take_zero];with_unfolding_all rfl
 ·exact qh ⟨by decide,zaz (zRV g _ _ (zA0 hj))⟩
 ·exact zcb hj
 ·rw [qI];rfl
 ·have e:k=2:=by omega
  subst e;exact jE.intro rfl
def z7u:List AV->Option Res:=zFm (.pt z6) .arr2 (fun o e=>match o with|none=>none|some x=>some (none,some (Good x),.s (.mp qX .bool (z6m x e))))
theorem z7f:jN prog 40 z7u:=mkR (zA4 fun o e r h=>by
 cases o with
 | none=>cases h
 | some x=>cases h;exact zT2 (zCv (fn:=[(58,zIs)]) (fr:=[]) ⟨zNS,trivial⟩ trivial) z6R func40 rfl (by kernel_rfl) (zW rfl) fun _ h=>zcU x e.1 e.2 h) func40
def zdO:zHQ:=fun _ _ _=>False
theorem zav:zG0 prog zdO:=fun _ _ _ h=>h.elim
def zVF (a b:ReM):Bool:=a.all fun p=> !had b p.1
def z9b (b:ReM):Spec IBM where
 inv pre:= ∀ p∈pre,had b p.1=false
 live _:=[]
 keep:=[1,7]
 heap _:=[]
 keepH:=[]
 mu _:=0
theorem zb5 (a b:ReM):zV4 ⟨tyL,[],[]⟩ zdO f72 [(ETy.mp qX .bool).av a,(ETy.mp qX .bool).av b] (fun r=>r= .s (.bool (zVF a b))):=by
 repeat' (conv=>whnf
          first|done|refine qy ?_|refine qG fun _=> ?_|refine qw (fun _=> ?_) (fun _=> ?_)|apply qt|refine qi (fun _=> ?_) (fun _=> ?_)|refine (fun (rIt:Nat)=> ?_)|refine z60.intro (it:=7) (yM (z9b b) (yA (yA (zA9.out ?_) (yA ?_ (yA ?_ rfl))) (yA (fun pre e he=>yA rfl ?_) (fun pre hp=>yA rfl ?_))))|((with_reducible show (And (Spec.inv (z9b b) _) _));refine yA (zA9.out ?_) (yA ?_ (yA ?_ rfl)))|refine qu ?_|refine qv ?_ ?_|exact zL)
 all_goals try first|refine qz ?_|apply qz5
 all_goals try simp only [qn0,zY,zX,ETy.dflt,Int.reduceToNat,Int.reduceAdd,Int.reduceSub,Int.reduceNeg,Nat.reduceAdd,z9b] at *
 ·exact qh fun p h=>by cases h
 ·rename_i h;refine Eq.symm (Bool.eq_false_iff.2 fun k=> ?_);have:=zM.1 k _ he.2.2.2.1;rw [show had b e.fst=true from h] at this;cases this
 ·rename_i h;refine zA9.intro fun p hp=> ?_;rcases z8.1 hp with k|k
  ·exact he.1 p k
  ·rw [zF.1 k];exact h
 ·exact (zM.2 fun p k=>by rw [hp.1 p ((hp.2.2 p).2 k)];rfl).symm
def z8D:List AV->Option Res:=zFm (.mp qX .bool) (.mp qX .bool) (fun a b=>some (none,none,.s (.bool (zVF a b))))
theorem z8v:jN prog 72 z8D:=mkR (zA4 fun a b r h=>by
 cases h;exact zT2 (zCv (fn:=[]) (fr:=[]) trivial trivial) zav func72 rfl (by kernel_rfl) (zW rfl) fun _ _=>zb5 a b) func72
def apB (x:z6.T) (e f:Int×Int):Bool:=zBe x e.1 e.2&&(zBe x f.1 f.2&&zVF (z6m x e) (z6m x f))
attribute [local irreducible] z6m zVF zBe
theorem zaX (x:z6.T) (a b c d:Int) (g:Good x):zAk ⟨tyL,[(71,zTg),(40,z7u),(72,z8D)],[]⟩ f34 [(ETy.pt z6).av (some x),ETy.arr2.av (a,b),ETy.arr2.av (c,d)] (fun r=>r= .s (.bool (apB x (a,b) (c,d)))):=by
 repeat' (conv=>whnf
          first|done|refine qy ?_|refine qG fun _=> ?_|refine qw (fun _=> ?_) (fun _=> ?_)|apply qt|refine qi (fun _=> ?_) (fun _=> ?_)|refine qu ?_|refine qv ?_ ?_|exact zL)
 all_goals try first|refine qz ?_|apply qz5
 all_goals try simp only [qn0,zY,zX,ETy.dflt,Int.reduceToNat,Int.reduceAdd,Int.reduceSub,Int.reduceNeg,Nat.reduceAdd,apB] at *
 all_goals try first
  | exact qh g
  | exact qh (fun y h=>by cases h;exact g)
 ·rw [show zBe x a b=true by assumption,show zBe x c d=true by assumption];rfl
 ·rw [show zBe x a b=true by assumption,show zBe x c d=false by assumption];rfl
 ·rw [show zBe x a b=false by assumption];rfl
theorem z9K (a b c d:Int):zAk ⟨tyL,[(71,zTg),(40,z7u),(72,z8D)],[]⟩ f34 [(ETy.pt z6).av none,ETy.arr2.av (a,b),ETy.arr2.av (c,d)] (fun r=>r= .s (.bool false)):=by
 repeat' (conv=>whnf
          first|done|refine qy ?_|refine qG fun _=> ?_|refine qw (fun _=> ?_) (fun _=> ?_)|apply qt|refine qi (fun _=> ?_) (fun _=> ?_)|refine qu ?_|refine qv ?_ ?_|exact zL)
 all_goals try first|refine qz ?_|apply qz5
 all_goals try simp only [qn0,zY,zX,ETy.dflt,Int.reduceToNat,Int.reduceAdd,Int.reduceSub,Int.reduceNeg,Nat.reduceAdd] at *
 all_goals rfl
def z8f:List AV->Option Res:=zOs (.pt z6) .arr2 .arr2 (fun o e f=>some (none,some (∀ x,o=some x->Good x),.s (.bool (match o with|some x=>apB x e f|none=>false))))
theorem z9v:jN prog 34 z8f:=mkR (zEa fun o e f r h=>by
 cases h;cases o with
 | none=>exact fb (fn:=[(71,zTg),(40,z7u),(72,z8D)]) ⟨zTu,z7f,z8v,trivial⟩ func34 fun _ _=>z9K e.1 e.2 f.1 f.2
 | some x=>exact fb (fn:=[(71,zTg),(40,z7u),(72,z8D)]) ⟨zTu,z7f,z8v,trivial⟩ func34 fun _ h=>zaX x e.1 e.2 f.1 f.2 (h x rfl)) func34
end S1
namespace S1
def zW2 (x:z6.T) (c:Nat):Option (Int×Int):=if zA2 x c<0 then some (jP x c) else none
def zSB (x:z6.T):List (Int×Int):=(List.range (3*x.1.2.length)).filterMap (zW2 x)
def z2u (o:Option z6.T):List (Int×Int):=onO o [] zSB
def zUn (x:z6.T):Spec Nat where
 inv k:=k<=3*x.1.2.length
 live k:=[(10,.s (.int .i64 k)),(3,.s (.own 1 0 ((List.range k).filterMap (zW2 x)).length))]
 keep:=[0,9]
 heap k:=[(1,.row .arr2 57 ((List.range k).filterMap (zW2 x)))]
 keepH:=[0]
 mu k:=3*x.1.2.length - k
theorem zYV (x:z6.T) (g:Good x):zAk ⟨tyL,[(106,zCY),(95,zTV),(29,zMI)],[]⟩ f74 [(ETy.pt z6).av (some x)] (fun r=>r= .s (.sl .arr2 (zSB x))):=by
 have hl:x.1.2.length<=8192:=g.fit.2.2.1
 repeat' (conv=>whnf
          first|done|refine qy ?_|refine qG fun _=> ?_|refine qw (fun _=> ?_) (fun _=> ?_)|apply qt|refine qi (fun _=> ?_) (fun _=> ?_)|(refine jS 5 rfl (zUn x) (0) ?_ ?_ ?_ fun k hk=> ?_)|with_reducible refine jK (zUn _) (k+1) ?_ ?_ ?_ ?_|refine qu ?_|refine qv ?_ ?_|exact zL)
 all_goals try first|refine qz ?_|apply qz5
 all_goals try simp only [qn0,zY,zX,ETy.dflt,Int.reduceToNat,Int.reduceAdd,Int.reduceSub,Int.reduceNeg,Nat.reduceAdd,zUn] at *
 all_goals try first|(refine qh ?_;omega)|(refine qh ?_;have:=zFt (zW2 x) k;omega)
 ·exact qh (show (k:Int)<=1000000 by omega)
 ·exact qh (show (k:Int)<=1000000 by omega)
 ·rename_i h;rw [zAE,zW2,if_pos h,zO];rfl
 ·rename_i h;rw [zAE];conv=>lhs;rhs;rw [zW2,if_pos h]
  rfl
 ·rename_i h;rw [zAE];conv=>lhs;rhs;rhs;rw [zW2,if_neg h]
  simp
 ·rename_i h;rw [zAE];conv=>lhs;rhs;rw [zW2,if_neg h]
  simp
 ·have e:k=3*x.1.2.length:=by omega
  rw [e];rfl
theorem zVZ:zAk ⟨tyL,[(106,zCY),(95,zTV),(29,zMI)],[]⟩ f74 [(ETy.pt z6).av none] (fun r=>r= .s (.sl .arr2 [])):=by
 repeat' (conv=>whnf
          first|done|refine qy ?_|refine qG fun _=> ?_|refine qw (fun _=> ?_) (fun _=> ?_)|apply qt|refine qi (fun _=> ?_) (fun _=> ?_)|refine qu ?_|refine qv ?_ ?_|exact zL)
 all_goals try first|refine qz ?_|apply qz5
 all_goals try simp only [qn0,zY,zX,ETy.dflt,Int.reduceToNat,Int.reduceAdd,Int.reduceSub,Int.reduceNeg,Nat.reduceAdd] at *
 rfl
def zZ4:List AV->Option Res:=zF4 (.pt z6) (fun o=>some (none,some (∀ x,o=some x->Good x),.s (.sl .arr2 (z2u o))))
theorem zY9:jN prog 74 zZ4:=mkR (zAm fun o r h=>by
 cases h;cases o with
 | none=>exact fb (fn:=[(106,zCY),(95,zTV),(29,zMI)]) ⟨zEE,zI0,zLA,trivial⟩ func74 fun _ _=>zVZ
 | some x=>exact fb (fn:=[(106,zCY),(95,zTV),(29,zMI)]) ⟨zEE,zI0,zLA,trivial⟩ func74 fun _ h=>zYV x (h x rfl)) func74
abbrev NxM:=List ((ETy.int .i64).T×(ETy.int .i64).T)
def z0m (es:List (Int×Int)) (k:Nat):NxM:=jL (fun m j=>zAe (.int .i64) m (es.getD j (0,0)).2 (es.getD j (0,0)).1) [] k
def zCB (o:Option z6.T):NxM:=z0m (z2u o) (z2u o).length
def zSq (es:List (Int×Int)):Spec Nat where
 inv k:=k<=es.length
 live k:=[(10,.s (.int .i64 k))]
 keep:=[3,8,9]
 heap k:=[(0,.map qX qX (z0m es k))]
 keepH:=[]
 mu k:=es.length - k
theorem zUt (o:Option z6.T) (hg: ∀ x,o=some x->Good x):zAk ⟨tyL,[(74,zZ4)],[]⟩ f100 [(ETy.pt z6).av o] (fun r=>r= .s (.mp qX qX (zCB o))):=by
 repeat' (conv=>whnf
          first|done|refine qy ?_|refine qG fun _=> ?_|refine qw (fun _=> ?_) (fun _=> ?_)|apply qt|refine qi (fun _=> ?_) (fun _=> ?_)|(refine jS 3 rfl (zSq (z2u o)) (0) ?_ ?_ ?_ fun k hk=> ?_)|with_reducible refine jK (zSq _) (k+1) ?_ ?_ ?_ ?_|refine qu ?_|refine qv ?_ ?_|exact zL)
 all_goals try first|refine qz ?_|apply qz5
 all_goals try simp only [qn0,zY,zX,ETy.dflt,Int.reduceToNat,Int.reduceAdd,Int.reduceSub,Int.reduceNeg,Nat.reduceAdd,zSq] at *
 all_goals try (refine qh ?_;omega)
 ·have e:k=(z2u o).length:=by omega
  rw [e];exact jE.intro rfl
def zI1:List AV->Option Res:=zF4 (.pt z6) (fun o=>some (none,some (∀ x,o=some x->Good x),.s (.mp qX qX (zCB o))))
theorem zMn:jN prog 100 zI1:=mkR (zAm fun o r h=>by cases h;exact fb (by exact ⟨zY9,trivial⟩) func100 fun _ h=>zUt o h) func100
theorem z2Y {fn} (o:Option z6.T) (v:Int):zAk ⟨tyL,fn,[]⟩ f67 [(ETy.pt z6).av o,qX.av v] (fun r=>r= .s (.clo 99 [⟨.pt z6,o⟩,⟨qX,v⟩])):=by
 repeat' (conv=>whnf
          first|done|refine qy ?_|refine qG fun _=> ?_|refine qw (fun _=> ?_) (fun _=> ?_)|apply qt|refine qi (fun _=> ?_) (fun _=> ?_)|refine qu ?_|refine qv ?_ ?_|exact zL)
 all_goals try first|refine qz ?_|apply qz5
 all_goals try simp only [qn0,zY,zX,ETy.dflt,Int.reduceToNat,Int.reduceAdd,Int.reduceSub,Int.reduceNeg,Nat.reduceAdd] at *
def zVQ:List AV->Option Res:=zFm (.pt z6) qX (fun o v=>some (none,none,.s (.clo 99 [⟨.pt z6,o⟩,⟨qX,v⟩])))
theorem zSm:jN prog 67 zVQ:=mkR (zA4 fun o v r h=>by cases h;exact fb (fn:=[]) trivial func67 fun _ _=>z2Y o v) func67
def nxt (m:NxM) (u:Int):Int:=(zAR qX m u).getD 0
def zDo (m:NxM) (v:Int):Nat->Int->List Int
 | 0,_=>[]
 | n+1,u=>if u=v then [] else u::zDo m v n (nxt m u)
def zAw (o:Option z6.T) (v:Int):List Int:=if (zAR qX (zCB o) v).isSome then v::zDo (zCB o) v 10000 (nxt (zCB o) v) else []
end S1
namespace S1
section
variable {x:z6.T}
theorem zQO {e:Int×Int} :e∈zSB x↔bE x e.1 e.2:=by
 unfold zSB;rw [List.mem_filterMap];constructor
 ·rintro ⟨c,hc,h⟩;have hc:=zQ.1 hc;unfold zW2 at h;split at h
  ·rename_i ho;cases h;exact ⟨c,z7.2 ⟨by omega,by omega⟩,ho,rfl⟩
  ·cases h
 ·rintro ⟨c,h1,h2,h3⟩;have hc:=z7.1 h1;have e1:((c.toNat:Nat):Int)=c:=by omega
  refine ⟨c.toNat,zQ.2 (by omega),?_⟩;unfold zW2;rw [e1,if_pos h2,h3]
end
theorem zQg (es:List (Int×Int)) (u:Int): ∀ k,(∀ w,zAR qX (z0m es k) u=some w->∃ j,j<k/\es.getD j (0,0)=(w,u))/\((∃ j,j<k/\(es.getD j (0,0)).2=u)->(zAR qX (z0m es k) u).isSome=true)
 | 0=>⟨fun w h=>(by cases h),fun ⟨j,h,_⟩=>by omega⟩
 | k + 1=>by
   obtain ⟨h1,h2⟩:=zQg es u k;have e:z0m es (k+1)=zAe qX (z0m es k) (es.getD k (0,0)).2 (es.getD k (0,0)).1:=rfl;rw [e]
   by_cases he:(es.getD k (0,0)).2=u
   ·rw [he,zAt];exact ⟨fun w hw=>⟨k,by omega,by injection hw with hw;exact Prod.ext hw he⟩,fun _=>rfl⟩
   ·rw [zBM _ he];refine ⟨fun w hw=> ?_,fun ⟨j,hj,hju⟩=>h2 ⟨j,?_,hju⟩⟩
    ·obtain ⟨j,hj,e⟩:=h1 w hw;exact ⟨j,by omega,e⟩
    ·by_cases e:j=k
     ·subst e;exact absurd hju he
     ·omega
theorem zFU {x:z6.T} (g:Full x) {w u:Int} :zAR qX (zCB (some x)) u=some w↔bE x w u:=by
 obtain ⟨h1,h2⟩:=zQg (zSB x) u (zSB x).length
 have mem: ∀ j,j<(zSB x).length->(zSB x).getD j (0,0)∈zSB x:=fun j hj=>by
  rw [gdE,gE hj];exact qF hj
 have fw: ∀ w,zAR qX (zCB (some x)) u=some w->bE x w u:=fun w h=>by
  obtain ⟨j,hj,e⟩:=h1 w h;have:=zQO.1 (mem j hj);rw [e] at this;exact this
 refine ⟨fw w,fun h=> ?_⟩;obtain ⟨j,hj,e⟩:=yI.1 ((zQO (x:=x) (e:=(w,u))).2 h);have:=h2 ⟨j,hj,by rw [gdE,gE hj];show ((zSB x)[j]).2=u;rw [e]⟩;have e3:zCB (some x)=z0m (zSB x) (zSB x).length:=rfl;rw [<- e3] at this;cases h4:zAR qX (zCB (some x)) u with
 | none=>rw [h4] at this;cases this
 | some w'=>rw [zNw g h (fw w' h4)]
theorem zGI {x:z6.T} (g:Full x) {w u:Int} (h:bE x w u):nxt (zCB (some x)) u=w:=by
 unfold nxt;rw [(zFU g).2 h];rfl
theorem zQ6 {x:z6.T} (g:Full x) {v:Int} (hv: ∃ w,bE x w v) {k:Nat} (h: ∀ j,1<=j->j<=k->iter (nxt (zCB (some x))) v j≠v):k<=4096:=by
 have key: ∀ j,∃ w,bE x w (iter (nxt (zCB (some x))) v j):=fun j=>by
  induction j with
  | zero=>exact hv
  | succ j ih =>
    obtain ⟨w,hw⟩:=ih;show ∃ w,bE x w (nxt (zCB (some x)) (iter (nxt (zCB (some x))) v j));rw [zGI g hw];exact zFk g hw
 let f:Int->Int:=fun u=>(zAR qX (zCB (some x)) u).getD (-1)
 have hf: ∀ j,iter f v j=iter (nxt (zCB (some x))) v j:=fun j=>by
  induction j with
  | zero=>rfl
  | succ j ih =>
    obtain ⟨w,hw⟩:=key j;show f (iter f v j)=nxt _ _;rw [ih,zGI g hw];show (zAR qX (zCB (some x)) _).getD (-1)=w;rw [(zFU g).2 hw];rfl
 have fsome: ∀ c,0<=f c->bE x (f c) c:=fun c hc=>by
  cases e:zAR qX (zCB (some x)) c with
  | none => have:f c= -1:=by show (zAR qX (zCB (some x)) c).getD (-1)= -1;rw [e];rfl
            omega
  | some w =>
    have:f c=w:=by show (zAR qX (zCB (some x)) c).getD (-1)=w;rw [e];rfl
    rw [this];exact (zFU g).1 e
 have hn:=g.fit
 have:=pig (f:=f) (L:=x.1.1.toNat) (c:=v) (k:=k) (fun c hc=>by have:=(zPQ g (fsome c hc)).1;omega) (fun a b ha e=>by
  have k1:=fsome a ha;have k2:=fsome b (by omega);rw [<- e] at k2
  exact zQx g k1 k2) (fun j h1 h2=>by
  rw [hf];obtain ⟨w,hw⟩:=key j
  exact ⟨(zPQ g hw).2.1.1,h j h1 h2⟩)
 have h1:x.1.1<=4096:=hn.2.1;have h2:x.1.1.toNat<=4096:=Int.toNat_le_toNat h1;exact jB this h2
theorem zHo {x:z6.T} (g:Full x) {v:Int} (hv: ∃ w,bE x w v): ∀ j,∃ w,bE x w (iter (nxt (zCB (some x))) v j)
 | 0=>hv
 | j+1=>by
   obtain ⟨w,hw⟩:=zHo g hv j;show ∃ w,bE x w (nxt (zCB (some x)) (iter (nxt (zCB (some x))) v j));rw [zGI g hw];exact zFk g hw
end S1
namespace S1
theorem zEj {m:NxM} {v u:Int} {k:Nat} (h:k<=4096):zDo m v (10000 - k) u=if u=v then [] else u::zDo m v (10000 - (k+1)) (nxt m u):=by
 rw [show 10000 - k=(10000 - (k+1))+1 by omega];rfl
def zUL (m:NxM) (v:Int):Spec Nat where
 inv k:=(∀ j,1<=j->j<=k->iter (nxt m) v j≠v)/\(zDo m v 10000 (nxt m v)).drop k=zDo m v (10000 - k) (iter (nxt m) v (k+1))
 live k:=[(5,.s (.int .i64 (iter (nxt m) v (k+1))))]
 keep:=[0,1,2,4]
 heap _:=[]
 keepH:=[]
 mu k:=10000 - k
theorem zXa (x:z6.T) (v:Int) (g:Full x):zR2 ⟨tyL,[(100,zI1)],[]⟩ f99 [⟨.pt z6,some x⟩,⟨qX,v⟩] (zAw (some x) v):=by
 repeat' (conv=>whnf
          first|done|refine qy ?_|refine qG fun _=> ?_|refine qw (fun _=> ?_) (fun _=> ?_)|apply qt|refine qi (fun _=> ?_) (fun _=> ?_)|refine (fun (l:Nat)=> ?_)|refine yM Nat (yM (zUL (zCB (some x)) v) (yM (fun k=>v::(zDo (zCB (some x)) v 10000 (nxt (zCB (some x)) v)).take k) (yA (yM 0 (yA (zA9.out ?_) (yA (zBv.out ?_) (yA ?_ (yA ?_ rfl))))) (fun k hk=> ?_))))|((with_reducible show (∃ y,And (Spec.inv (zUL _ _) y) _));refine yM (k+1) (yA (zA9.out ?_) (yA (zBv.out ?_) (yA (yA ?_ (yA ?_ rfl)) (zA9.out ?_)))))|refine yA (zA9.out (p:=(_++[_]) <+: _) ?_) ?_|refine zBv.out ?_|refine qu ?_|refine qv ?_ ?_|exact zL)
 all_goals try first|refine qz ?_|apply qz5
 all_goals try simp only [qn0,zY,zX,ETy.dflt,Int.reduceToNat,Int.reduceAdd,Int.reduceSub,Int.reduceNeg,Nat.reduceAdd,zUL] at *
 ·exact qh (fun y h=>by cases h;exact g.toGood)
 all_goals try
  have hsome:(zAR qX (zCB (some x)) v).isSome=true:=by assumption
 all_goals try
  have hw: ∃ w,bE x w v:=by
   cases e:zAR qX (zCB (some x)) v with
   | none=>rw [e] at hsome;cases hsome
   | some w=>exact ⟨w,(zFU g).1 e⟩
 all_goals try have hL:zAw (some x) v=v::zDo (zCB (some x)) v 10000 (nxt (zCB (some x)) v):=by unfold zAw;rw [if_pos hsome]
 ·rw [hL];exact qh ⟨_,rfl⟩
 ·exact qh ⟨fun j a b=>by omega,rfl⟩
 ·exact zBv.intro rfl
 all_goals try have h24:=zQ6 g hw hk.1
 ·have hne:iter (nxt (zCB (some x))) v (k+1)≠v:=by assumption
  rw [hL];have:=hk.2;rw [zEj h24,if_neg hne] at this;exact qh (zQq (L:=v::zDo (zCB (some x)) v 10000 (nxt (zCB (some x)) v)) (k:=k+1) this)
 ·have hne:iter (nxt (zCB (some x))) v (k+1)≠v:=by assumption
  have:=hk.2;rw [zEj h24,if_neg hne] at this;refine zA9.intro ⟨fun j a b=> ?_,(zD9 this).2⟩
  by_cases e:j=k+1
  ·subst e;exact hne
  ·exact hk.1 j a (by omega)
 ·have hne:iter (nxt (zCB (some x))) v (k+1)≠v:=by assumption
  have:=hk.2;rw [zEj h24,if_neg hne] at this;exact zBv.intro (by rw [(zD9 this).1];rfl)
 ·refine qh ?_;omega
 ·have he:iter (nxt (zCB (some x))) v (k+1)=v:=by assumption
  have:=hk.2;rw [zEj h24,if_pos he] at this;rw [hL];refine zBv.intro ?_;have h2:=zAV k (zDo (zCB (some x)) v 10000 (nxt (zCB (some x)) v));rw [this,yJ] at h2;rw [h2]
 ·rename_i hn;refine zBv.intro ?_;unfold zAw;have hn:(zAR qX (zCB (some x)) v).isSome=false:=hn;rw [if_neg (by rw [hn];simp)]
theorem zUJ (v:Int):zR2 ⟨tyL,[(100,zI1)],[]⟩ f99 [⟨.pt z6,none⟩,⟨qX,v⟩] (zAw none v):=by
 repeat' (conv=>whnf
          first|done|refine qy ?_|refine qG fun _=> ?_|refine qw (fun _=> ?_) (fun _=> ?_)|apply qt|refine qi (fun _=> ?_) (fun _=> ?_)|refine (fun (l:Nat)=> ?_)|refine zBv.out ?_|refine qu ?_|refine qv ?_ ?_|exact zL)
 all_goals try first|refine qz ?_|apply qz5
 all_goals try simp only [qn0,zY,zX,ETy.dflt,Int.reduceToNat,Int.reduceAdd,Int.reduceSub,Int.reduceNeg,Nat.reduceAdd] at *
 ·exact qh (fun y h=>by cases h)
 ·exact zBv.intro rfl
theorem zQu {x:z6.T} (g:Full x) {v:Int} : ∀ n u,(∃ w,bE x w u)->∀ a∈zDo (zCB (some x)) v n u,0<=a/\a<x.1.1
 | 0,u,_,a,h=>by cases h
 | n + 1,u,⟨w,hw⟩,a,h=>by
   unfold zDo at h;split at h
   ·cases h
   ·rcases zS.1 h with e|h
    ·rw [e];exact (zPQ g hw).2.1
    ·rw [zGI g hw] at h;exact zQu g n w (zFk g hw) a h
theorem zX5 {x:z6.T} (g:Full x) {v:Int} : ∀ a∈zAw (some x) v,0<=a/\a<x.1.1:=fun a h=>by
 unfold zAw at h;split at h
 ·rename_i hs
  obtain ⟨w,hw⟩: ∃ w,bE x w v:=by
   cases e:zAR qX (zCB (some x)) v with
   | none=>rw [e] at hs;cases hs
   | some w=>exact ⟨w,(zFU g).1 e⟩
  rcases zS.1 h with e|h
  ·rw [e];exact (zPQ g hw).2.1
  ·rw [zGI g hw] at h;exact zQu g _ w (zFk g hw) a h
 ·cases h
theorem zXO {x:z6.T} (g:Full x) (v:Int): ∀ a∈zAw (some x) v,InK .i64 a:=fun a h=>by
 have h1:=zX5 g a h;have h2:x.1.1<=4096:=g.fit.2.1;have h3:a<=4096:=Int.le_trans (Int.le_of_lt h1.2) h2;exact InK.i64.2 (by unfold zAZ;omega)
def z4w:zHQ:=fun f ps L=>f=99/\∃ (o:Option z6.T) (v:Int),ps=[⟨.pt z6,o⟩,⟨qX,v⟩]/\(∀ x,o=some x->Full x)/\L=zAw o v
theorem zVb:zG0 prog z4w:=fun f ps L h=>by
 obtain ⟨rfl,o,v,rfl,hg,rfl⟩:=h;cases o with
 | none=>exact seq_ok (zCv (fn:=[(100,zI1)]) (fr:=[]) ⟨zMn,trivial⟩ trivial) func99 rfl (by kernel_rfl) rfl (by kernel_rfl) (zW rfl) (fun a h=>by cases h) fun _=>zUJ v
 | some x=>exact seq_ok (zCv (fn:=[(100,zI1)]) (fr:=[]) ⟨zMn,trivial⟩ trivial) func99 rfl (by kernel_rfl) rfl (by kernel_rfl) (zW rfl) (zXO (hg x rfl) v) fun _=>zXa x v (hg x rfl)
theorem zUH {o:Option z6.T} {v:Int} :(zAw o v).length<=10001:=by
 have key: ∀ n u,(zDo (zCB o) v n u).length<=n:=fun n=>by
  induction n with
  | zero=>exact fun u=>zH _
  | succ n ih =>
    intro u;unfold zDo;split
    ·exact y7 _
    ·have:=ih (nxt (zCB o) u);rw [zZ];omega
 unfold zAw;split
 ·have:=key 10000 (nxt (zCB o) v);rw [zZ];omega
 ·exact y7 _
def zYz (L:List Int):Spec Nat where
 inv _:=True
 live _:=[]
 keep:=[1,2,4]
 heap k:=[(0,.flat 38 [.own 2 0 k]),(2,.row qX 3 (L.take k))]
 keepH:=[1,3]
 mu _:=0
theorem z40 (o:Option z6.T) (v:Int) (hg: ∀ x,o=some x->Full x):zV4 ⟨tyL,[],[]⟩ z4w f98 [.s (.val (.slice none 0 0)),.s (.clo 99 [⟨.pt z6,o⟩,⟨qX,v⟩])] (fun r=>r= .s (.sl qX (zAw o v))):=by
 have hlen:=zUH (o:=o) (v:=v)
 repeat' (conv=>whnf
          first|done|refine qy ?_|refine qG fun _=> ?_|refine qw (fun _=> ?_) (fun _=> ?_)|apply qt|refine qi (fun _=> ?_) (fun _=> ?_)|refine yM (zAw o v) (yA (zA9.out ?_) (yM (zYz (zAw o v)) ?_))|(refine yA (fun X=> ?_) (fun X=> ?_))|(refine yA (yA ?_ (yA ?_ rfl)) (fun k hk=> ?_))|(refine yA ?_ (yA ?_ rfl))|refine qu ?_|refine qv ?_ ?_|exact zL)
 all_goals try first|refine qz ?_|apply qz5
 all_goals try simp only [qn0,zY,zX,ETy.dflt,Int.reduceToNat,Int.reduceAdd,Int.reduceSub,Int.reduceNeg,Nat.reduceAdd,zYz] at *
 ·exact qh ⟨rfl,o,v,rfl,hg,rfl⟩
 ·refine qh ?_;omega
 ·rw [jJ,List.take_take,Nat.min_self,yH hk,gdE,gE hk];rfl
 ·rw [jJ,qI,qI]
def z2K (f:List AV):Option ((Option z6.T)×Int) :=
 match f with
 | [.s (.clo f [⟨.pt (.pair (.pair (.int .i64) (.sl .arr3)) (.pair (.mp .arr2 (.int .i64)) (.sl (.int .i64)))),o⟩,⟨.int .i64,v⟩])]=>match Nat.beq f 99 with
   | true=>some (o,v)
   | false=>none
 | _=>none
theorem zQM {l:List AV} {o:Option z6.T} {v:Int} (h:z2K l=some (o,v)):l=[.s (.clo 99 [⟨.pt z6,o⟩,⟨qX,v⟩])]:=by
 unfold z2K at h;split at h
 ·split at h
  ·rename_i e;cases h;rw [zC e]
  ·cases h
 ·cases h
def zL0 (f:List AV):Option Res:=match z2K f with
 | some (o,v)=>some (none,some (∀ x,o=some x->Full x),.s (.sl qX (zAw o v)))
 | none=>none
def z4q:List AV->Option Res
 | .s (.val (.slice none 0 0))::f=>zL0 f
 | _=>none
theorem z4B:jN prog 98 z4q:=⟨fun args r h=>by
 unfold z4q at h;split at h
 case h_2=>cases h
 unfold zL0 at h;split at h
 case h_2=>cases h
 rename_i he;rw [zQM he];cases h
 exact zT2 (zCv (fn:=[]) (fr:=[]) trivial trivial) zVb func98 rfl (by kernel_rfl) (zW rfl) fun _ h=>z40 _ _ h,_,func98,by kernel_rfl,by kernel_rfl⟩
theorem z4D (o:Option z6.T) (v:Int) (hg: ∀ x,o=some x->Full x):zAk ⟨tyL,[(98,z4q)],[]⟩ f66 [.s (.clo 99 [⟨.pt z6,o⟩,⟨qX,v⟩])] (fun r=>r= .s (.sl qX (zAw o v))):=by
 repeat' (conv=>whnf
          first|done|refine qy ?_|refine qG fun _=> ?_|refine qw (fun _=> ?_) (fun _=> ?_)|apply qt|refine qi (fun _=> ?_) (fun _=> ?_)|refine qu ?_|refine qv ?_ ?_|exact zL)
 all_goals try first|refine qz ?_|apply qz5
 all_goals try simp only [qn0,zY,zX,ETy.dflt,Int.reduceToNat,Int.reduceAdd,Int.reduceSub,Int.reduceNeg,Nat.reduceAdd] at *
 all_goals exact qh hg
def z2i:List AV->Option Res:=zL0
theorem zZS:jN prog 66 z2i:=⟨fun args r h=>by
 unfold z2i zL0 at h;split at h
 case h_2=>cases h
 rename_i he;rw [zQM he];cases h
 exact fb (fn:=[(98,z4q)]) ⟨z4B,trivial⟩ func66 fun _ h=>z4D _ _ h,_,func66,by kernel_rfl,by kernel_rfl⟩
abbrev LpS:=ReM×List (List Int)
def lpI (x:z6.T) (s:LpS) (v:Nat):LpS :=
 if had s.1 v=true then s else ((zAw (some x) v).foldl (fun m u=>zAe (.int .i64) m u true) s.1,if (zAw (some x) v).length>0 then s.2++[zAw (some x) v] else s.2)
def lpS (x:z6.T) (i:Nat):LpS:=jL (lpI x) ([],[]) i
def zAH (x:z6.T):List (List Int):=(lpS x x.1.1.toNat).2
def z3H (o:Option z6.T):List (List Int):=onO o [] zAH
def zWC (x:z6.T):Spec Nat where
 inv k:=(k:Int)<=x.1.1
 live k:=[(13,.s (.int .i64 k)),(3,.s (.own 1 0 (lpS x k).2.length))]
 keep:=[0,2,4,12]
 heap k:=[(1,.row (.sl qX) 38 (lpS x k).2),(2,.map qX .bool (lpS x k).1)]
 keepH:=[0,3]
 mu k:=x.1.1.toNat - k
theorem z0h {x:z6.T} {k:Nat} (h:had (lpS x k).1 k=true):lpS x (k+1)=lpS x k:=by
 show lpI x (lpS x k) k=_;unfold lpI;rw [if_pos h]
theorem zMS {x:z6.T} {k:Nat} (h:had (lpS x k).1 k=false):lpS x (k+1)=((zAw (some x) k).foldl (fun m u=>zAe (.int .i64) m u true) (lpS x k).1,if (zAw (some x) k).length>0 then (lpS x k).2++[zAw (some x) k] else (lpS x k).2):=by
 show lpI x (lpS x k) k=_;unfold lpI;rw [if_neg (by rw [h];simp)]
theorem zKh (x:z6.T): ∀ k,(lpS x k).2.length<=k
 | 0=>zH _
 | k +1=>by
   have ih:=zKh x k;cases h:had (lpS x k).1 k with
   | true=>rw [z0h h];omega
   | false =>
     rw [zMS h];show (if _ then _ else _:List (List Int)).length<=_;split
     ·rw [zO,List.length_singleton];omega
     ·omega
def z6G (m:ReM) (l:List Int):ReM:=l.foldl (fun m u=>zAe (.int .i64) m u true) m
def zZi (m:ReM) (L:List Int):Spec Nat where
 inv _:=True
 live _:=[]
 keep:=[0,2,3,4,5,6,12,13]
 heap k:=[(2,.map qX .bool (z6G m (L.take k)))]
 keepH:=[0,1,3,4]
 mu _:=0
theorem zYM (x:z6.T) (g:Full x):zV4 ⟨tyL,[(65,zB0),(67,zVQ),(66,z2i)],[]⟩ z4w Tryz.f26 [(ETy.pt z6).av (some x)] (fun r=>r= .s (.sl (.sl qX) (zAH x))):=by
 repeat' (conv=>whnf
          first|done|refine qy ?_|refine qG fun _=> ?_|refine qw (fun _=> ?_) (fun _=> ?_)|apply qt|refine qi (fun _=> ?_) (fun _=> ?_)|refine yM (Nat) (yM (zWC x) (yA (yM (0) (yA (zA9.out ?_) (yA ?_ (yA ?_ rfl)))) (fun k hk=> ?_)))|with_reducible refine jK (zWC _) (k+1) ?_ ?_ ?_ ?_|refine yM (zAw (some x) k) (yA (zA9.out ?_) (yM (zZi (lpS x k).1 (zAw (some x) k)) ?_))|(refine yA (fun X=> ?_) (fun X=> ?_))|(refine yA (yA ?_ (yA ?_ rfl)) (fun j hj=> ?_))|(refine yA ?_ (yA ?_ rfl))|refine qu ?_|refine qv ?_ ?_|exact zL)
 all_goals try first|refine qz ?_|apply qz5
 all_goals try simp only [qn0,zY,zX,ETy.dflt,Int.reduceToNat,Int.reduceAdd,Int.reduceSub,Int.reduceNeg,Nat.reduceAdd,zWC,zZi] at *
 all_goals have hn: @LE.le Int _ x.1.1 4096:=g.fit.2.1
 all_goals have h0: @LE.le Int _ 0 x.1.1:=g.fit.1
 all_goals try (refine qh ?_;first|omega|(unfold zAZ;omega))
 all_goals try have hlen:=zKh x k
 all_goals try
  have ht:had (lpS x k).1 k=true:=by assumption
  have e:=z0h ht
  (first|(rw [e];done)|(rw [e]))
 all_goals try have hf:had (lpS x k).1 k=false:=by assumption
 ·exact qh (fun y h=>by cases h;exact g)
 ·exact qh ⟨rfl,some x,k,rfl,fun y h=>(by cases h;exact g),rfl⟩
 ·unfold z6G;rw [yH hj,z6a,gdE,gE hj];rfl
 ·refine qh ?_;omega
 ·have hp:((zAw (some x) k).length:Int)>0:=by assumption
  rw [zMS hf,if_pos (by omega),zO];rfl
 ·have hp:((zAw (some x) k).length:Int)>0:=by assumption
  rw [zMS hf,if_pos (by omega)]
 ·rw [zMS hf,qI];rfl
 ·have hp: ¬ ((zAw (some x) k).length:Int)>0:=by assumption
  rw [zMS hf,if_neg (by omega)]
 ·have hp: ¬ ((zAw (some x) k).length:Int)>0:=by assumption
  rw [zMS hf,if_neg (by omega)]
 ·rw [zMS hf,qI];rfl
 ·have e:k=x.1.1.toNat:=by omega
  rw [e];rfl
theorem zTL:zV4 ⟨tyL,[(65,zB0),(67,zVQ),(66,z2i)],[]⟩ z4w Tryz.f26 [(ETy.pt z6).av none] (fun r=>r= .s (.sl (.sl qX) [])):=by
 repeat' (conv=>whnf
          first|done|refine qy ?_|refine qG fun _=> ?_|refine qw (fun _=> ?_) (fun _=> ?_)|apply qt|refine qi (fun _=> ?_) (fun _=> ?_)|refine qu ?_|refine qv ?_ ?_|exact zL)
 all_goals try first|refine qz ?_|apply qz5
 all_goals try simp only [qn0,zY,zX,ETy.dflt,Int.reduceToNat,Int.reduceAdd,Int.reduceSub,Int.reduceNeg,Nat.reduceAdd] at *
 rfl
def zWO:List AV->Option Res:=zF4 (.pt z6) (fun o=>some (none,some (∀ x,o=some x->Full x),.s (.sl (.sl qX) (z3H o))))
theorem zW7:jN prog 26 zWO:=mkR (zAm fun o r h=>by
 cases h;cases o with
 | none=>exact zT2 (zCv (fn:=[(65,zB0),(67,zVQ),(66,z2i)]) (fr:=[]) ⟨zCb,zSm,zZS,trivial⟩ trivial) zVb func26 rfl (by kernel_rfl) (zW rfl) fun _ _=>zTL
 | some x=>exact zT2 (zCv (fn:=[(65,zB0),(67,zVQ),(66,z2i)]) (fr:=[]) ⟨zCb,zSm,zZS,trivial⟩ trivial) zVb func26 rfl (by kernel_rfl) (zW rfl) fun _ h=>zYM x (h x rfl)) func26
end S1
namespace S1
abbrev nx (x:z6.T) (u:Int):Int:=nxt (zCB (some x)) u
structure zFQ (x:z6.T) (L:List Int):Prop where
 ne:0<L.length
 cyc: ∀ i,i<L.length->bE x (L.getD ((i+1) % L.length) 0) (L.getD i 0)
 nd:L.Nodup
theorem zMs (m:NxM) (v:Int) {p:Nat} (hp:iter (nxt m) v p=v) (hl: ∀ j,1<=j->j<p->iter (nxt m) v j≠v): ∀ (r k n:Nat),k+1+r=p->r<n->zDo m v n (iter (nxt m) v (k+1))=(List.range r).map fun j=>iter (nxt m) v (k+1+j)
 | 0,k,n,h1,h2=>by
   obtain ⟨n,rfl⟩: ∃ n',n=n'+1:=⟨n - 1,by omega⟩;unfold zDo;rw [show k+1=p by omega,if_pos hp];rfl
 | r+1,k,n,h1,h2=>by
   obtain ⟨n,rfl⟩: ∃ n',n=n'+1:=⟨n - 1,by omega⟩;unfold zDo;rw [if_neg (hl (k+1) (by omega) (by omega))];have:=zMs m v hp hl r (k+1) n (by omega) (by omega);show _::zDo m v n (iter (nxt m) v (k+1+1))=_;rw [this,List.range_succ_eq_map,jT,zCr]
   congr 1
   refine qJ fun j _=> ?_;show _=iter (nxt m) v (k+1+(j+1));rw [show k+1+1+j=k+1+(j+1) by omega]
theorem z32 {x:z6.T} (g:Full x) {u u':Int} (h: ∃ w,bE x w u) (h': ∃ w,bE x w u') (e:nx x u=nx x u'):u=u':=by
 obtain ⟨w,hw⟩:=h;obtain ⟨w',hw'⟩:=h';have e:nxt (zCB (some x)) u=nxt (zCB (some x)) u':=e;rw [zGI g hw,zGI g hw'] at e;subst e;exact zQx g hw hw'
theorem zIV {x:z6.T} (g:Full x) {v:Int} (hv: ∃ w,bE x w v): ∀ i d,iter (nx x) v i=iter (nx x) v (i+d)->v=iter (nx x) v d
 | 0,d,h=>by rw [yK] at h;exact h
 | i+1,d,h=>by
   refine zIV g hv i d (z32 g (zHo g hv i) (zHo g hv (i+d)) ?_);rw [show i+1+d=(i+d)+1 by omega] at h;exact h
theorem zNu {x:z6.T} (g:Full x) {v:Int} (hv: ∃ w,bE x w v): ∃ p,0<p/\iter (nx x) v p=v/\(∀ j,1<=j->j<p->iter (nx x) v j≠v)/\zAw (some x) v=(List.range p).map fun j=>iter (nx x) v j:=by
 have hex: ∃ n,n<=4097/\(1<=n/\iter (nx x) v n=v):=by
  apply yE;intro h;have:=zQ6 g hv (k:=4097) fun j h1 h2 e=>h ⟨j,h2,h1,e⟩;omega
 obtain ⟨n,hn,h⟩:=hex;obtain ⟨p,⟨h1,h2⟩,h3,h4⟩:=exists_least (P:=fun n=>1<=n/\iter (nx x) v n=v) h;have hl: ∀ j,1<=j->j<p->iter (nx x) v j≠v:=fun j a b e=>h4 j b ⟨a,e⟩;refine ⟨p,h1,h2,hl,?_⟩;have:=zMs (zCB (some x)) v h2 hl (p - 1) 0 10000 (by omega) (by omega);obtain ⟨w,hw⟩:=hv;unfold zAw;rw [if_pos (by rw [(zFU g).2 hw];rfl)];have e:zDo (zCB (some x)) v 10000 (nxt (zCB (some x)) v)=_:=this;rw [e];obtain ⟨q,rfl⟩: ∃ q,p=q+1:=⟨p - 1,by omega⟩
 rw [List.range_succ_eq_map,jT,zCr];refine congrArg (v:: ·) ?_;show (List.range (q+1 - 1)).map _=_;rw [Nat.add_sub_cancel];refine qJ fun j _=> ?_;show iter _ v (0+1+j)=iter _ v (j+1);rw [show 0+1+j=j+1 by omega]
theorem zPl {f:Nat->Int} {p i:Nat} (h:i<p):((List.range p).map f).getD i 0=f i:=by
 rw [gdE,j0,List.getElem?_range h];rfl
theorem zZt {x:z6.T} (g:Full x) {v:Int} (hv: ∃ w,bE x w v):zFQ x (zAw (some x) v):=by
 obtain ⟨p,h1,h2,h3,e⟩:=zNu g hv;rw [e];have hlen:((List.range p).map fun j=>iter (nx x) v j).length=p:=by rw [jF,zDs]
 refine ⟨by rw [hlen];exact h1,fun i hi=> ?_,?_⟩
 ·rw [hlen] at hi ⊢;rw [zPl hi,zPl (Nat.mod_lt _ h1)];obtain ⟨w,hw⟩:=zHo g hv i
  have e1:iter (nx x) v ((i+1) % p)=nx x (iter (nx x) v i):=by
   by_cases hl:i+1<p
   ·rw [Nat.mod_eq_of_lt hl];rfl
   ·rw [show i+1=p by omega,Nat.mod_self];have:iter (nx x) v p=nx x (iter (nx x) v i):=by rw [show p=i+1 by omega];rfl
    rw [<- this,h2];rfl
  rw [e1];show bE x (nxt (zCB (some x)) (iter (nxt (zCB (some x))) v i)) _;rw [zGI g hw];exact hw
 ·have key: ∀ i j,i<j->j<p->iter (nx x) v i≠iter (nx x) v j:=fun i j h4 h5 e=>by
   have:=zIV g hv i (j - i) (by rw [e];congr 1;omega);exact h3 (j - i) (by omega) (by omega) this.symm
  refine List.Pairwise.map _ (fun i j h=> ?_) (List.nodup_range (n:=p) |>.imp_of_mem (S:=fun i j=>i≠j/\i<p/\j<p) fun hi hj hn=>⟨hn,zQ.1 hi,zQ.1 hj⟩);obtain ⟨hn,hi,hj⟩:=h;rcases Nat.lt_or_gt_of_ne hn with hlt|hgt
  ·exact key i j hlt hj
  ·exact (key j i hgt hi).symm
theorem z09 {x:z6.T} (g:Full x) {v:Int} (hv: ¬ ∃ w,bE x w v):zAw (some x) v=[]:=by
 unfold zAw;rw [if_neg];intro h;cases e:zAR qX (zCB (some x)) v with
 | none=>rw [e] at h;cases h
 | some w=>exact hv ⟨w,(zFU g).1 e⟩
theorem zLJ {L:List Int} {u:Int} (h:u∈L): ∃ i,i<L.length/\L.getD i 0=u:=by
 obtain ⟨i,hi,e⟩:=yI.1 h;exact ⟨i,hi,by rw [gdE,gE hi];exact e⟩
section
variable {x:z6.T}
theorem zFQ.bord {L:List Int} (h:zFQ x L) {u:Int} (hu:u∈L): ∃ w,bE x w u:=by
 obtain ⟨i,hi,e⟩:=zLJ hu;have:=h.cyc i hi;rw [e] at this;exact ⟨_,this⟩
theorem zFQ.next {L:List Int} (h:zFQ x L) (g:Full x) {u:Int} (hu:u∈L):nx x u∈L:=by
 obtain ⟨i,hi,e⟩:=zLJ hu;have:=h.cyc i hi;rw [e] at this;show nxt (zCB (some x)) u∈L;rw [zGI g this];exact zA0 (Nat.mod_lt _ h.ne)
theorem zFQ.iters {L:List Int} (h:zFQ x L) (g:Full x) {u:Int} (hu:u∈L): ∀ k,iter (nx x) u k∈L
 | 0=>hu
 | k+1=>h.next g (h.iters g hu k)
theorem zTU (g:Full x) {v:Int} (hv: ∃ w,bE x w v) {L:List Int} (h:zFQ x L) {u:Int} (h1:u∈zAw (some x) v) (h2:u∈L):v∈L:=by
 obtain ⟨p,p1,p2,p3,e⟩:=zNu g hv;rw [e] at h1;obtain ⟨i,hi,rfl⟩:=zU.1 h1;have hi:=zQ.1 hi;have:=h.iters g h2 (p - i);rw [zLn,show i+(p - i)=p by omega,p2] at this;exact this
theorem zS1 (g:Full x) {v:Int} (hv: ∃ w,bE x w v):v∈zAw (some x) v:=by
 obtain ⟨p,p1,p2,p3,e⟩:=zNu g hv;rw [e];exact zU.2 ⟨0,zQ.2 p1,rfl⟩
theorem zXu (l:List Int): ∀ (m:ReM) (v:Int),had (l.foldl (fun m u=>zAe (.int .i64) m u true) m) v=true↔had m v=true\/v∈l:=by
 induction l with
 | nil=>intro m v;simp
 | cons a r ih =>
   intro m v;rw [List.foldl_cons,ih]
   by_cases e:a=v
   ·subst e
    have:had (zAe (.int .i64) m a true) a=true:=by
     show (zAR (.int .i64) (zAe (.int .i64) m a true) a).getD false=true;rw [zAt];rfl
    simp [this]
   ·have:had (zAe (.int .i64) m a true) v=had m v:=by
     show (zAR (.int .i64) (zAe (.int .i64) m a true) v).getD false=_;rw [zBM _ e];rfl
    rw [this,zS];constructor
    ·rintro (h|h)
     ·exact .inl h
     ·exact .inr (.inr h)
    ·rintro (h|h|h)
     ·exact .inl h
     ·exact absurd h.symm e
     ·exact .inr h
structure Lps (x:z6.T) (Ls:List (List Int)) (k:Int):Prop where
 ok: ∀ L∈Ls,zFQ x L
 nd:Ls.flatten.Nodup
 all: ∀ u,0<=u->u<k->(∃ w,bE x w u)->u∈Ls.flatten
theorem zTT (g:Full x): ∀ k,Lps x (lpS x k).2 k/\∀ u,had (lpS x k).1 u=true↔u∈(lpS x k).2.flatten
 | 0=>⟨⟨fun L h=>(by cases h),jD,fun u h1 h2 _=>by omega⟩,fun u=>⟨fun h=>(by cases h),fun h=>(by cases h)⟩⟩
 | k + 1 =>by
   obtain ⟨ih,ihm⟩:=zTT g k;cases hh:had (lpS x k).1 k with
   | true =>
     rw [z0h hh];refine ⟨⟨ih.ok,ih.nd,fun u h1 h2 h3=> ?_⟩,ihm⟩
     by_cases e:u=k
     ·rw [e];exact (ihm k).1 hh
     ·exact ih.all u h1 (by omega) h3
   | false =>
     rw [zMS hh]
     by_cases hv: ∃ w,bE x w (k:Int)
     ·have hw:=zZt g hv;rw [if_pos hw.ne]
      have hdis: ∀ u∈zAw (some x) k,u∉(lpS x k).2.flatten:=fun u hu hf=>by
       obtain ⟨L,hL,huL⟩:=List.mem_flatten.1 hf;have:=zTU g hv (ih.ok L hL) hu huL;rw [(ihm k).2 (List.mem_flatten.2 ⟨L,hL,this⟩)] at hh;cases hh
      refine ⟨⟨fun L hL=> ?_,?_,fun u h1 h2 h3=> ?_⟩,fun u=> ?_⟩
      ·rcases z8.1 hL with hL|hL
       ·exact ih.ok L hL
       ·rw [zF] at hL;rw [hL];exact hw
      ·rw [List.flatten_append,List.nodup_append];refine ⟨ih.nd,by simpa using hw.nd,fun a ha b hb e=> ?_⟩;have hb:b∈zAw (some x) k:=by simpa using hb
       subst e;exact hdis a hb ha
      ·rw [List.flatten_append,z8]
       by_cases e:u=k
       ·rw [e];exact .inr (by simpa using zS1 g hv)
       ·exact .inl (ih.all u h1 (by omega) h3)
      ·rw [List.flatten_append,z8,zXu,ihm u];simp
     ·rw [z09 g hv];rw [if_neg (by simp)];refine ⟨⟨ih.ok,ih.nd,fun u h1 h2 h3=> ?_⟩,ihm⟩
      by_cases e:u=k
      ·rw [e] at h3;exact absurd h3 hv
      ·exact ih.all u h1 (by omega) h3
theorem zEL (g:Full x):Lps x (zAH x) x.1.1:=by
 have:=(zTT g x.1.1.toNat).1;have h0:0<=x.1.1:=g.fit.1;rw [zA6 h0] at this;exact this
theorem zIJ (g:Full x) {u:Int} :u∈(zAH x).flatten↔∃ w,bE x w u:=by
 have h:=zEL g;constructor
 ·intro hu;obtain ⟨L,hL,huL⟩:=List.mem_flatten.1 hu;exact (h.ok L hL).bord huL
 ·rintro ⟨w,hw⟩;have:=zPQ g hw;exact h.all u this.2.1.1 this.2.1.2 ⟨w,hw⟩
end
end S1
namespace S1
def atV (v:Int) (t:P3):Bool:=decide (zV t v)
end S1
namespace S1
theorem zC8 (a b:Int) (t:P3):both a b t=(atV a t&&atV b t):=by unfold both atV;exact Bool.decide_and _ _
theorem zAo {p q:P3->Bool} (h: ∀ t,p t=q t) (l:List P3):(l.filter p).length=(l.filter q).length:=by rw [show p=q from funext h]
theorem zRC {x:z6.T} (g:Full x) (hs:j5 (InN x.1.1) x.1.2) {a b:Int} (hn:zBe x a b=true):(x.1.2.filter (both a b)).length=if qR x (a,b)<0\/zA2 x (qR x (a,b))<0 then 1 else 2:=by
 by_cases h:qR x (a,b)<0
 ·rw [if_pos (.inl h)];obtain ⟨d,d1,d2⟩:=(zHt g).1 hn;rcases d2 with e|e
  ·have:=g.facing d1;rw [e] at this;rw [this] at h;exact absurd (z7.1 d1).1 (by omega)
  ·have k:=zQ4 g hs d1;rw [e] at k
   have ho: ¬ 0<=zA2 x d:=fun h0=>by
    obtain ⟨_,h2,h3⟩:=g.opp h0;have:=g.facing h2;rw [h3,e] at this;have h2:=(z7.1 h2).1;have this:qR x (a,b)=zA2 x d:=this;omega
   rw [if_neg ho] at k;rw [<- k];exact zAo (fun t=>by rw [zC8,zC8,Bool.and_comm]) _
 ·have hf:qR x (a,b)>=0:=by omega
  obtain ⟨c,c1,c2⟩:=zEU.1 ((zCD g).1 hf);have e:=g.facing c1;rw [c2] at e;have k:=zQ4 g hs c1;rw [c2] at k;rw [e] at h ⊢;have k:(x.1.2.filter (both a b)).length=if 0<=zA2 x c then 2 else 1:=k;rw [k]
  by_cases ho:0<=zA2 x c
  ·rw [if_pos ho,if_neg (by omega)]
  ·rw [if_neg ho,if_pos (by omega)]
end S1
namespace S1
theorem zJL {x:z6.T} (g:Full x) (hs:j5 (InN x.1.1) x.1.2) {a b:Int} (hn:zBe x a b=true):(zDy x a b).length=(x.1.2.filter (both a b)).length:=by
 rw [zRC g hs hn]
 have hk:qR x (a,b)>=0\/qR x (b,a)>=0:=by
  unfold zBe at hn;rw [yN,zB,zB] at hn;exact hn
 by_cases h1:qR x (a,b)>=0
 ·obtain ⟨c,c1,c2⟩:=zEU.1 ((zCD g).1 h1);have e:=g.facing c1;rw [c2] at e;have eo:zA2 x (qR x (a,b))=qR x (b,a):=by rw [e];unfold zA2;rw [c2]
  rw [eo];unfold zDy
  by_cases h2:qR x (b,a)>=0
  ·rw [if_pos h1,if_pos h2,if_neg (by omega)];rfl
  ·rw [if_pos h1,if_neg h2,if_pos (by omega)];rfl
 ·unfold zDy;rw [if_neg h1,if_pos (hk.resolve_left h1),if_pos (.inl (by omega))];rfl
theorem z1a {x:z6.T} (g:Full x) {a b v:Int} (hab:a≠b):v∈zDy x a b↔v≠a/\v≠b/\∃ t∈x.1.2,zV t a/\zV t b/\zV t v:=by
 have one: ∀ {p q:Int},qR x (p,q)>=0->yO x (qR x (p,q))≠p/\yO x (qR x (p,q))≠q:=fun {p q} h=>by
  obtain ⟨c,c1,c2⟩:=zEU.1 ((zCD g).1 h);have e:=g.facing c1;rw [c2] at e;obtain ⟨n1,n2,_⟩:=g.toGood.ne c1;have e2:(yO x (jM x c),yO x (jH x c))=(p,q):=c2;have f1:yO x (jM x c)=p:=congrArg Prod.fst e2;have f2:yO x (jH x c)=q:=congrArg Prod.snd e2;rw [f1] at n1;rw [f2] at n2;rw [e];exact ⟨n1,n2⟩
 constructor
 ·intro h;refine ⟨?_,?_,zVE g h⟩
  ·unfold zDy at h;rcases z8.1 h with h|h<;>split at h
   ·rw [zF.1 h];exact (one (by assumption)).1
   ·cases h
   ·rw [zF.1 h];exact (one (by assumption)).2
   ·cases h
  ·unfold zDy at h;rcases z8.1 h with h|h<;>split at h
   ·rw [zF.1 h];exact (one (by assumption)).2
   ·cases h
   ·rw [zF.1 h];exact (one (by assumption)).1
   ·cases h
 ·rintro ⟨va,vb,t,ht,ha,hb,hv⟩;obtain ⟨j,hj,ej⟩:=zAj ht
  have key: ∀ {p q:Int},dE t p q->v≠p->v≠q->qR x (p,q)>=0/\yO x (qR x (p,q))=v:=fun {p q} hd vp vq=>by
   rw [<- ej] at hd hv;obtain ⟨c,c1,c2,c3⟩:=zHF hj hd;have e:=g.facing c1;rw [c2] at e;have e2:(yO x (jM x c),yO x (jH x c))=(p,q):=c2;refine ⟨by rw [e];exact (z7.1 c1).1,?_⟩;rw [e];rcases z4b c1 (by rw [c3];exact hv) with k|k|k
   ·exact k.symm
   ·exact absurd (k.trans (congrArg Prod.fst e2)) vp
   ·exact absurd (k.trans (congrArg Prod.snd e2)) vq
  unfold zDy;rcases zD4 hab ha hb with hd|hd
  ·obtain ⟨k1,k2⟩:=key hd va vb;exact zAJ _ (by rw [if_pos k1,k2];exact zF.2 rfl)
  ·obtain ⟨k1,k2⟩:=key hd vb va;exact zAa _ (by rw [if_pos k1,k2];exact zF.2 rfl)
theorem zRN {x:z6.T} (g:Full x) {v:Int} (hv:InN x.1.1 v):zAz x v=true↔∀ w,zBe x v w=true->(zDy x v w).length=2:=by
 constructor
 ·intro hi w hw;obtain ⟨c,c1,c2,c3⟩:=zRk g hi hw;obtain ⟨_,h2,h3⟩:=g.opp c3;rw [c2] at h3;exact zHq g (zEU.2 ⟨c,c1,c2⟩) (zEU.2 ⟨_,h2,h3⟩)
 ·intro h;refine (zD5 g).2 ⟨hv,fun ⟨w,hw⟩=> ?_⟩;obtain ⟨e1,e2⟩:=(zNB g).1 hw
  have hn:zBe x v w=true:=by
   unfold zBe;rw [yN,zB,zB];exact .inr ((zCD g).2 e1)
  have:=h w hn;unfold zDy at this;rw [if_neg (fun k=>e2 ((zCD g).1 k)),if_pos ((zCD g).2 e1)] at this;cases this
theorem zLZ {x:z6.T} (g:Full x) (hs:j5 (InN x.1.1) x.1.2) {i j:Nat} :Adj x i j↔i<x.1.2.length/\j<x.1.2.length/\i≠j/\∃ p q,p≠q/\(zV (tg x.1.2 i) p/\zV (tg x.1.2 i) q)/\zV (tg x.1.2 j) p/\zV (tg x.1.2 j) q:=by
 rw [zKm g];constructor
 ·rintro ⟨hi,hj,p,q,h1,h2⟩;refine ⟨hi,hj,fun e=> ?_,p,q,zGB (hs.deg _ (qZ hi)) h1,qC h1,(qC h2).symm⟩;subst e;exact zEW (hs.deg _ (qZ hi)) h1 h2
 ·rintro ⟨hi,hj,hij,p,q,hpq,⟨a1,a2⟩,b1,b2⟩;have ne:tg x.1.2 i≠tg x.1.2 j:=fun e'=>hij (zDD hs.nd hi hj e');refine ⟨hi,hj,?_⟩;rcases zD4 hpq a1 a2 with a|a<;>rcases zD4 hpq b1 b2 with b|b
  ·exact absurd b (hs.dif _ (qZ hi) _ (qZ hj) ne _ _ a)
  ·exact ⟨_,_,a,b⟩
  ·exact ⟨_,_,a,b⟩
  ·exact absurd b (hs.dif _ (qZ hi) _ (qZ hj) ne _ _ a)
def z4Z (l:List P3) (i:Nat):Prop:= ∀ p q,p≠q->zV (tg l i) p->zV (tg l i) q->∃ j,j<l.length/\j≠i/\zV (tg l j) p/\zV (tg l j) q
theorem zXL {x:z6.T} (g:Full x) (hs:j5 (InN x.1.1) x.1.2) {i:Nat} (hi:i<x.1.2.length):(∃ d:Nat,d<3/\zA2 x (3*i+d)<0)↔¬ z4Z x.1.2 i:=by
 have hH: ∀ d:Nat,d<3->zAY x (3*(i:Int)+d)=true:=fun d hd=>z7.2 ⟨by omega,by omega⟩;constructor
 ·rintro ⟨d,hd,ho⟩ hc;have h1:=hH d hd;have k:=zDw h1;rw [show ((3*(i:Int)+d) / 3).toNat=i by omega] at k;have hv:=qC k.2;have hne:=g.ends _ h1;obtain ⟨j,hj,hji,b1,b2⟩:=hc _ _ hne hv.1 hv.2;have ne:tg x.1.2 i≠tg x.1.2 j:=fun e'=>hji (zDD hs.nd hi hj e').symm;rcases zD4 hne b1 b2 with b|b
  ·exact hs.dif _ (qZ hi) _ (qZ hj) ne _ _ k.2 b
  ·obtain ⟨c,c1,c2,_⟩:=zHF hj b;have:=g.opp_is c1 (c:=3*(i:Int)+d) c2;have:=(z7.1 c1).1;omega
 ·intro hc;apply yE;intro hn;refine hc fun p q hpq hp hq=> ?_
  have one: ∀ {p q:Int},dE (tg x.1.2 i) p q->∃ j,j<x.1.2.length/\j≠i/\zV (tg x.1.2 j) p/\zV (tg x.1.2 j) q:=fun {p q} hd=>by
   obtain ⟨c,c1,c2,c3⟩:=zHF hi hd;have hc3: ∃ d:Nat,d<3/\c=3*(i:Int)+d:=⟨(c - 3*i).toNat,by have:=z7.1 c1;omega,by have:=z7.1 c1;omega⟩;obtain ⟨d,hd3,ed⟩:=hc3
   have ho:0<=zA2 x c:=by
    apply yE;intro k;exact hn ⟨d,hd3,by rw [<- ed];omega⟩
   obtain ⟨_,h2,h3⟩:=g.opp ho;have k2:=zDw h2;rw [h3,c2] at k2;refine ⟨_,k2.1,fun e=> ?_,(qC k2.2).2,(qC k2.2).1⟩;rw [e] at k2;exact zEW (hs.deg _ (qZ hi)) hd k2.2
  rcases zD4 hpq hp hq with hd|hd
  ·exact one hd
  ·obtain ⟨j,j1,j2,j3,j4⟩:=one hd;exact ⟨j,j1,j2,j4,j3⟩
theorem zSY {x:z6.T} (g:Full x) (hs:j5 (InN x.1.1) x.1.2) {a:Int} (ha:InN x.1.1 a) {i0:Nat} (h0:i0<x.1.2.length) (hv:zV (tg x.1.2 i0) a) :
 (∀ i,i<x.1.2.length->((ofR x).getD i 0=smM x a↔zHA (Adj x) i0 i)):=fun i hi=>by
 obtain ⟨c1,c2⟩:=g.vtx a ha.1 ha.2;have kt:=zAl c1;rw [c2] at kt
 have hlab:(ofR x).getD i0 0=smM x a:=by
  unfold smM;exact (zEG g h0 kt.1).2 (zFo g h0 kt.1 hv kt.2 hs)
 rw [<- hlab,eq_comm];exact zEG g h0 hi
section
variable {s s':Int×List P3} {r:Int->Int}
end
end S1
namespace S1
def zTP (l:List P3) (p q r:Int):Prop:= ∃ t∈l,zV t p/\zV t q/\zV t r
def z3l (l:List P3) (v:Int):Prop:= ∀ w,w≠v->(∃ t∈l,zV t v/\zV t w)->(l.filter (both v w)).length=2
def z5h (l:List P3) (a:Int):Prop:= ∃ t∈l,zV t a/\∀ u∈l,u≠t->∀ p q,p≠q->zV t p->zV t q->zV u p->zV u q->False
def z5W (l:List P3) (a:Int):Prop:= ∃ p q r,a≠p/\a≠q/\a≠r/\p≠q/\p≠r/\q≠r/\zTP l a p q/\zTP l a p r/\zTP l a q r/\zTP l p q r
structure zNP (l:List P3) (a b:Int):Prop where
 ne:a≠b
 near: ∃ t∈l,zV t a/\zV t b
 brd:(l.filter (both a b)).length=2->z3l l a\/z3l l b
 com: ∀ v,v≠a->v≠b->(∃ t∈l,zV t a/\zV t v)->(∃ u∈l,zV u b/\zV u v)->zTP l a b v
 one: ¬ z5h l a
 tet: ¬ z5W l a
section
variable {x:z6.T}
theorem zIC (g:Full x) (hs:j5 (InN x.1.1) x.1.2) {v:Int} (hv:InN x.1.1 v):zAz x v=true↔z3l x.1.2 v:=by
 rw [zRN g hv];unfold z3l;constructor
 ·intro h w hw hn;have k:=(zCT g (a:=v) (v:=w) (Ne.symm hw)).2 hn;rw [<- zJL g hs k];exact h w k
 ·intro h w hw;have ne:v≠w:=fun e=>by subst e;rw [zEe g.toGood] at hw;cases hw
  rw [zJL g hs hw];exact h w ne.symm ((zCT g ne).1 hw)
theorem zVf (g:Full x) (hs:j5 (InN x.1.1) x.1.2) {a:Int} (h:z5h x.1.2 a):zBo x a=true:=by
 obtain ⟨t,ht,ta,hno⟩:=h;obtain ⟨i0,h0,rfl⟩:=zAj ht
 have cnt:=zJV g hs (a:=a) (hs.ent _ ht a ta) (S:=[i0]) (yU.2 ⟨by simp,jD⟩) (by simp) ta (fun i hi=>by rw [zF] at hi;subst hi;exact h0)
  (fun i hi j ha=>by
    rw [zF] at hi;subst hi;exfalso;obtain ⟨_,hj,hij,p,q,hpq,⟨a1,a2⟩,b1,b2⟩:=(zLZ g hs).1 ha
    exact hno _ (qZ hj) (fun e=>hij (zDD hs.nd h0 hj e.symm)) p q hpq a1 a2 b1 b2)
  (fun i hi=>by rw [zF] at hi;subst hi;exact .refl _)
 unfold zBo;rw [cnt.1];rfl
theorem zVy (g:Full x) (hs:j5 (InN x.1.1) x.1.2) {a:Int} (h:z5W x.1.2 a):zBo x a=true:=by
 obtain ⟨p,q,r,ap,aq,ar,pq,pr,qr,h1,h2,h3,h4⟩:=h;rw [<- Bool.not_eq_false];intro w3;exact zIv g hs w3 ap q r qr aq.symm pq.symm ar.symm pr.symm h3 h4 h1 h2
theorem z2D (g:Full x) (hs:j5 (InN x.1.1) x.1.2) {a:Int} (ha:InN x.1.1 a) {t0:P3} (h0:t0∈x.1.2) (hv:zV t0 a) (h:zBo x a=true):z5h x.1.2 a\/z5W x.1.2 a:=by
 obtain ⟨i0,hi0,rfl⟩:=zAj h0;have lab:=zSY g hs ha hi0 hv;have hl:=zLM g.toGood;obtain ⟨C,eC⟩: ∃ C,C=(List.range x.1.2.length).filter fun i=>decide ((ofR x).getD i 0=smM x a):=⟨_,rfl⟩
 have hC: ∀ i,i∈C↔i<x.1.2.length/\zHA (Adj x) i0 i:=fun i=>by
  rw [eC,yR,zQ,zB];exact and_congr_right fun k=>lab i k
 have cnt:(smS x (smM x a) (ofR x).length).1=(C.length:Int):=by rw [zK9,hl,eC]
 have step: ∀ {i j:Nat},i∈C->j<x.1.2.length->i≠j->∀ p q,p≠q->zV (tg x.1.2 i) p->zV (tg x.1.2 i) q->zV (tg x.1.2 j) p->zV (tg x.1.2 j) q->j∈C:=fun hi hj hij p q hpq a1 a2 b1 b2 =>
  (hC _).2 ⟨hj,.step ((hC _).1 hi).2 ((zLZ g hs).2 ⟨((hC _).1 hi).1,hj,hij,p,q,hpq,⟨a1,a2⟩,b1,b2⟩)⟩
 have in0:i0∈C:=(hC i0).2 ⟨hi0,.refl _⟩;have bnd: ∀ S:List Nat,S.Nodup->(∀ i∈S,i∈C)->S.length<=C.length:=fun S hn hS=>zKw S C hn hS;unfold zBo at h;rw [cnt,yN,zA,zB,zB] at h;rcases h with h1|⟨h4,hf⟩
 ·left;refine ⟨_,qZ hi0,hv,fun u hu hne p q hpq a1 a2 b1 b2=> ?_⟩;obtain ⟨j,hj,rfl⟩:=zAj hu;have hij:i0≠j:=fun e=>hne (by rw [e])
  have:=bnd [i0,j] (by simp [hij]) (fun i hi=>by
   simp only [zS,zAP,or_false] at hi;rcases hi with e|e<;>subst e
   ·exact in0
   ·exact step in0 hj hij p q hpq a1 a2 b1 b2)
  simp only [zZ,List.length_nil] at this;omega
 ·right;have lt: ∀ {i},i∈C->i<x.1.2.length:=fun {i} hi=>((hC i).1 hi).1
  have shut: ∀ i,i∈C->∀ p q,p≠q->zV (tg x.1.2 i) p->zV (tg x.1.2 i) q->∃ j,j∈C/\j≠i/\zV (tg x.1.2 j) p/\zV (tg x.1.2 j) q:=fun i hi p q hpq a1 a2=>by
   obtain ⟨k1,k2⟩:=(hC i).1 hi
   have hs2:z4Z x.1.2 i:=yE fun hn=>by
    obtain ⟨d,hd,ho⟩:=(zXL g hs k1).2 hn;have:(smS x (smM x a) (ofR x).length).2=true:=(zHj x _ _).2 ⟨i,by rw [hl];exact k1,(lab i k1).2 k2,d,hd,ho⟩;rw [this] at hf;cases hf
   obtain ⟨j,hj,hji,b1,b2⟩:=hs2 p q hpq a1 a2;exact ⟨j,step hi hj (Ne.symm hji) p q hpq a1 a2 b1 b2,hji,b1,b2⟩
  have one3: ∀ {i j:Nat},i∈C->j∈C->∀ {u v w:Int},u≠v->u≠w->v≠w->zV (tg x.1.2 i) u->zV (tg x.1.2 i) v->zV (tg x.1.2 i) w->zV (tg x.1.2 j) u->zV (tg x.1.2 j) v->zV (tg x.1.2 j) w->i=j:=fun {i j} hi hj {u v w} uv uw vw a1 a2 a3 b1 b2 b3 =>
   zDD hs.nd (lt hi) (lt hj) (hs.same (qZ (lt hi)) (qZ (lt hj)) uv uw vw a1 a2 a3 b1 b2 b3)
  obtain ⟨p,hpa⟩:=zQ1 hv;have ap:=zGB (hs.deg _ (qZ hi0)) hpa;have tp:=(qC hpa).2;obtain ⟨q,qa,qp,tq,tall⟩:=zIX (hs.deg _ (qZ hi0)) ap hv tp;obtain ⟨j1,c1,n1,j1a,j1p⟩:=shut i0 in0 a p ap hv tp;obtain ⟨j2,c2,n2,j2a,j2q⟩:=shut i0 in0 a q qa.symm hv tq;obtain ⟨j3,c3,n3,j3p,j3q⟩:=shut i0 in0 p q qp.symm tp tq;have no1: ¬ zV (tg x.1.2 j1) q:=fun k=>n1 (one3 c1 in0 ap qa.symm qp.symm j1a j1p k hv tp tq);have no2: ¬ zV (tg x.1.2 j2) p:=fun k=>n2 (one3 c2 in0 ap qa.symm qp.symm j2a k j2q hv tp tq)
  have no3: ¬ zV (tg x.1.2 j3) a:=fun k=>n3 (one3 c3 in0 ap qa.symm qp.symm k j3p j3q hv tp tq);have d12:j1≠j2:=fun e=>no1 (by rw [e];exact j2q);have d13:j1≠j3:=fun e=>no1 (by rw [e];exact j3q);have d23:j2≠j3:=fun e=>no2 (by rw [e];exact j3p)
  have all: ∀ k,k∈C->k=i0\/k=j1\/k=j2\/k=j3:=fun k hk=>yE fun hn=>by
   rw [not_or,not_or,not_or] at hn;obtain ⟨m0,m1,m2,m3⟩:=hn
   have:=bnd [k,i0,j1,j2,j3] (by simp [m0,m1,m2,m3,n1.symm,n2.symm,n3.symm,d12,d13,d23]) (fun i hi=>by
    simp only [zS,zAP,or_false] at hi
    rcases hi with e|e|e|e|e<;>(subst e;assumption))
   simp only [zZ,List.length_nil] at this;omega
  obtain ⟨r,ra,rp,j1r,_⟩:=zIX (hs.deg _ (qZ (lt c1))) ap j1a j1p;have rq:r≠q:=fun e=>no1 (by rw [<- e];exact j1r)
  have not0: ¬ zV (tg x.1.2 i0) r:=fun k=>by
   rcases tall r k with e|e|e
   ·exact ra e
   ·exact rp e
   ·exact rq e
  obtain ⟨k1,ck1,nk1,k1a,k1r⟩:=shut j1 c1 a r ra.symm j1a j1r
  have e2:k1=j2:=by
   rcases all k1 ck1 with e|e|e|e
   ·exact absurd (by rw [<- e];exact k1r) not0
   ·exact absurd e nk1
   ·exact e
   ·exact absurd (by rw [<- e];exact k1a) no3
  obtain ⟨k2,ck2,nk2,k2p,k2r⟩:=shut j1 c1 p r rp.symm j1p j1r
  have e3:k2=j3:=by
   rcases all k2 ck2 with e|e|e|e
   ·exact absurd (by rw [<- e];exact k2r) not0
   ·exact absurd e nk2
   ·exact absurd (by rw [<- e];exact k2p) no2
   ·exact e
  rw [e2] at k1r;rw [e3] at k2r;exact ⟨p,q,r,ap,qa.symm,ra.symm,qp.symm,rp.symm,rq.symm,⟨_,qZ hi0,hv,tp,tq⟩,⟨_,qZ (lt c1),j1a,j1p,j1r⟩,⟨_,qZ (lt c2),j2a,j2q,k1r⟩,⟨_,qZ (lt c3),j3p,j3q,k2r⟩⟩
theorem zYy (g:Full x) (hs:j5 (InN x.1.1) x.1.2) {a b:Int} :zFS x a b=0↔zNP x.1.2 a b:=by
 constructor
 ·intro hw;obtain ⟨w1,w2,w3⟩:=zRv hw;have f:=zKl g hs hw;obtain ⟨t,ht,ta,tb⟩:=f.near;have ia:=hs.ent t ht a ta;have ib:=hs.ent t ht b tb;refine ⟨f.ne,f.near,fun h2=> ?_,f.com,fun k=> ?_,fun k=> ?_⟩
  ·rw [<- zIC g hs ia,<- zIC g hs ib];rw [<- zJL g hs w1] at h2;cases e1:zAz x a with
   | true=>exact .inl rfl
   | false =>
     cases e2:zAz x b with
     | true=>exact .inr rfl
     | false=>exact absurd ⟨h2,e1,e2⟩ w2
  ·rw [zVf g hs k] at w3;cases w3
  ·rw [zVy g hs k] at w3;cases w3
 ·intro f;obtain ⟨t,ht,ta,tb⟩:=f.near;have ia:=hs.ent t ht a ta;have ib:=hs.ent t ht b tb;have w1:=(zCT g f.ne).2 f.near
  have c2: ¬ ((zDy x a b).length=2/\zAz x a=false/\zAz x b=false):=fun ⟨k1,k2,k3⟩=>by
   rw [zJL g hs w1] at k1;rcases f.brd k1 with k|k
   ·rw [(zIC g hs ia).2 k] at k2;cases k2
   ·rw [(zIC g hs ib).2 k] at k3;cases k3
  have c3:zRX (zDy x a b) (zH7 x a b)=true:=zQ0.2 fun v hv=>by
   obtain ⟨_,k1,k2⟩:=(zUN g).1 hv;have va:v≠a:=fun e=>by subst e;rw [zEe g.toGood] at k1;cases k1
   have vb:v≠b:=fun e=>by subst e;rw [zEe g.toGood] at k2;cases k2
   exact (z1a g f.ne).2 ⟨va,vb,f.com v va vb ((zCT g va.symm).1 k1) ((zCT g vb.symm).1 k2)⟩
  have c4:zBo x a=false:=by
   rw [<- zA3];intro k;rcases z2D g hs ia ht ta k with k|k
   ·exact f.one k
   ·exact f.tet k
  unfold zFS;rw [w1,if_neg (by simp),if_neg c2,if_neg (by rw [c3];simp),c4];rfl
end
end S1
namespace S1
def z6d (l:List P3) (a b c d:Int):Prop:= ∀ t∈l,(zV t a\/zV t b)->(zV t c\/zV t d)->False
section
variable {V:Int->Prop} {l:List P3} {a b c d:Int}
theorem z8k {t:P3} (h: ¬ zV t a):phT a b t=t:=by
 unfold zV at h;rw [not_or,not_or] at h;unfold phT;rw [zMJ h.1,zMJ h.2.1,zMJ h.2.2]
theorem z7I {v:Int} (va:v≠a) (vb:v≠b) (hv: ∀ t∈l,zV t v->¬ zV t a/\¬ zV t b) {t:P3} (tv:zV t v):t∈zDG a b l↔t∈l:=by
 rw [zAh];constructor
 ·rintro ⟨u,hu,_,rfl⟩;have uv:=(zFx va vb).1 tv;rw [z8k (hv u hu uv).1];exact hu
 ·intro ht;exact ⟨t,ht,fun k=>(hv t ht tv).1 k.1,z8k (hv t ht tv).1⟩
theorem z7V {l l':List P3} (h:l.Nodup) (h':l'.Nodup) {p:P3->Bool} (k: ∀ t,p t=true->(t∈l'↔t∈l)):(l'.filter p).length=(l.filter p).length :=
 ((List.perm_ext_iff_of_nodup (h'.sublist List.filter_sublist) (h.sublist List.filter_sublist)).2 fun t=>by
   rw [yR,yR]
   exact ⟨fun ⟨k1,k2⟩=>⟨(k t k2).1 k1,k2⟩,fun ⟨k1,k2⟩=>⟨(k t k2).2 k1,k2⟩⟩).length_eq
theorem zXU {a b:Int} {t:P3} :both a b t=true↔zV t a/\zV t b:=by unfold both;rw [zB]
theorem zbW (h:j5 V l) (hVa:V a) (hVb:V b) (f:zH6 l a b) (k:zNP l c d) (ap:z6d l a b c d):zNP (zDG a b l) c d:=by
 have h':=zQe h f hVa hVb;have hc: ∀ t∈l,zV t c->¬ zV t a/\¬ zV t b:=fun t ht k=>⟨fun e=>ap t ht (.inl e) (.inl k),fun e=>ap t ht (.inr e) (.inl k)⟩;have hd: ∀ t∈l,zV t d->¬ zV t a/\¬ zV t b:=fun t ht k=>⟨fun e=>ap t ht (.inl e) (.inr k),fun e=>ap t ht (.inr e) (.inr k)⟩;obtain ⟨t0,h0,t0c,t0d⟩:=k.near;have ca:c≠a:=fun e=>(hc t0 h0 t0c).1 (by rw [<- e];exact t0c);have cb:c≠b:=fun e=>(hc t0 h0 t0c).2 (by rw [<- e];exact t0c)
 have da:d≠a:=fun e=>(hd t0 h0 t0d).1 (by rw [<- e];exact t0d);have db:d≠b:=fun e=>(hd t0 h0 t0d).2 (by rw [<- e];exact t0d);have sc: ∀ {t:P3},zV t c->(t∈zDG a b l↔t∈l):=fun {t} tv=>z7I ca cb hc tv;have sd: ∀ {t:P3},zV t d->(t∈zDG a b l↔t∈l):=fun {t} tv=>z7I da db hd tv
 have inn: ∀ {v:Int},(∀ {t:P3},zV t v->(t∈zDG a b l↔t∈l))->z3l l v->z3l (zDG a b l) v:=fun {v} sv hi w hw ⟨t,ht,t1,t2⟩=>by
  rw [z7V h.nd h'.nd fun t k=>sv (zXU.1 k).1];exact hi w hw ⟨t,(sv t1).1 ht,t1,t2⟩
 -- what is beside c is no a, no b
 have far: ∀ {t:P3} {v:Int},t∈l->zV t c->zV t v->v≠a/\v≠b:=fun {t v} ht tc tv=>⟨fun e=>(hc t ht tc).1 (by rw [<- e];exact tv),fun e=>(hc t ht tc).2 (by rw [<- e];exact tv)⟩;refine ⟨k.ne,⟨t0,(sc t0c).2 h0,t0c,t0d⟩,fun h2=> ?_,fun v vc vd ⟨t,ht,t1,t2⟩ ⟨u,hu,u1,u2⟩=> ?_,?_,?_⟩
 ·rw [z7V h.nd h'.nd fun t k=>sc (zXU.1 k).1] at h2;rcases k.brd h2 with e|e
  ·exact .inl (inn sc e)
  ·exact .inr (inn sd e)
 ·obtain ⟨s,hs,s1,s2,s3⟩:=k.com v vc vd ⟨t,(sc t1).1 ht,t1,t2⟩ ⟨u,(sd u1).1 hu,u1,u2⟩;exact ⟨s,(sc s1).2 hs,s1,s2,s3⟩
 ·rintro ⟨t,ht,tc,hno⟩;have ht':=(sc tc).1 ht;refine k.one ⟨t,ht',tc,fun u hu hne p q hpq tp tq up uq=> ?_⟩
  by_cases uc:zV u c
  ·exact hno u ((sc uc).2 hu) hne p q hpq tp tq up uq
  ·obtain ⟨pa,pb⟩:=far ht' tc tp;obtain ⟨qa,qb⟩:=far ht' tc tq
   by_cases ub:zV u a/\zV u b
   ·exact four (h.deg u hu) f.ne pa.symm qa.symm pb.symm qb.symm hpq ub.1 ub.2 up uq
   ·refine hno (phT a b u) (zAh.2 ⟨u,hu,ub,rfl⟩) (fun e=>uc ?_) p q hpq tp tq ((zFx pa pb).2 up) ((zFx qa qb).2 uq);rw [<- e] at tc;exact (zFx ca cb).1 tc
 ·rintro ⟨p,q,r,cp,cq,cr,pq,pr,qr,⟨t1,h1,a1,a2,a3⟩,⟨t2,h2,b1,b2,b3⟩,⟨t3,h3,c1,c2,c3⟩,⟨t4,h4,d1,d2,d3⟩⟩;have g1:=(sc a1).1 h1;have g2:=(sc b1).1 h2;have g3:=(sc c1).1 h3;obtain ⟨pa,pb⟩:=far g1 a1 a2;obtain ⟨qa,qb⟩:=far g1 a1 a3;obtain ⟨ra,rb⟩:=far g2 b1 b3;obtain ⟨u,hu,_,rfl⟩:=zAh.1 h4;exact k.tet ⟨p,q,r,cp,cq,cr,pq,pr,qr,⟨t1,g1,a1,a2,a3⟩,⟨t2,g2,b1,b2,b3⟩,⟨t3,g3,c1,c2,c3⟩,⟨u,hu,(zFx pa pb).1 d1,(zFx qa qb).1 d2,(zFx ra rb).1 d3⟩⟩
theorem za9 {p q:Int} (f:zH6 l a b) (h1:z6d l a b c d) (h3:z6d l c d p q) (near: ∃ t∈l,zV t c/\zV t d):z6d (zDG a b l) c d p q:=by
 have hc: ∀ t∈l,zV t c->¬ zV t a/\¬ zV t b:=fun t ht k=>⟨fun e=>h1 t ht (.inl e) (.inl k),fun e=>h1 t ht (.inr e) (.inl k)⟩;have hd: ∀ t∈l,zV t d->¬ zV t a/\¬ zV t b:=fun t ht k=>⟨fun e=>h1 t ht (.inl e) (.inr k),fun e=>h1 t ht (.inr e) (.inr k)⟩;obtain ⟨t0,h0,t0c,t0d⟩:=near;have ca:c≠a:=fun e=>(hc t0 h0 t0c).1 (by rw [<- e];exact t0c);have cb:c≠b:=fun e=>(hc t0 h0 t0c).2 (by rw [<- e];exact t0c);have da:d≠a:=fun e=>(hd t0 h0 t0d).1 (by rw [<- e];exact t0d)
 have db:d≠b:=fun e=>(hd t0 h0 t0d).2 (by rw [<- e];exact t0d);intro t ht hcd hpq;rcases hcd with e|e
 ·exact h3 t ((z7I ca cb hc e).1 ht) (.inl e) hpq
 ·exact h3 t ((z7I da db hd e).1 ht) (.inr e) hpq
end
end S1
namespace S1
section
variable {V:Int->Prop} {l:List P3} {a b c d:Int} {r:Int->Int}
theorem z6s (h:j5 V l) (hi: ∀ v w,V v->V w->r v=r w->v=w) {t:P3} {v:Int} (ht:t∈l) (hv:V v):zV (zFb r t) (r v)↔zV t v :=
 ⟨fun k=>by obtain ⟨w,hw,e⟩:=zAs.1 k;rw [<- hi w v (h.ent t ht w hw) hv e];exact hw,fun k=>zAs.2 ⟨v,k,rfl⟩⟩
theorem zas (h:j5 V l) (hi: ∀ v w,V v->V w->r v=r w->v=w) {v w:Int} (hv:V v) (hw:V w):((l.map (zFb r)).filter (both (r v) (r w))).length=(l.filter (both v w)).length:=by
 rw [List.filter_map,jF,List.filter_congr fun t ht=> ?_];rw [Bool.eq_iff_iff];show both (r v) (r w) (zFb r t)=true↔_;rw [zXU,zXU,z6s h hi ht hv,z6s h hi ht hw]
theorem z9o (h:j5 V l) (hi: ∀ v w,V v->V w->r v=r w->v=w) {t u:P3} (ht:t∈l) (hu:u∈l) (e:zFb r t=zFb r u):t=u:=by
 have vt: ∀ {t:P3},t∈l->V t.1/\V t.2.1/\V t.2.2:=fun {t} ht=>⟨h.ent t ht _ (.inl rfl),h.ent t ht _ (.inr (.inl rfl)),h.ent t ht _ (.inr (.inr rfl))⟩;have e1:=congrArg Prod.fst e;have e2:=congrArg (fun p=>p.2.1) e;have e3:=congrArg (fun p=>p.2.2) e;exact Prod.ext (hi _ _ (vt ht).1 (vt hu).1 e1) (Prod.ext (hi _ _ (vt ht).2.1 (vt hu).2.1 e2) (hi _ _ (vt ht).2.2 (vt hu).2.2 e3))
theorem z9y (h:j5 V l) (hi: ∀ v w,V v->V w->r v=r w->v=w) {v:Int} (hv:V v) (k:z3l l v):z3l (l.map (zFb r)) (r v):=fun w' hw' ⟨t',ht',t1,t2⟩=>by
 obtain ⟨t,ht,rfl⟩:=zU.1 ht';obtain ⟨w,hw,rfl⟩:=zAs.1 t2;rw [zas h hi hv (h.ent t ht w hw)];exact k w (fun e=>hw' (by rw [e])) ⟨t,ht,(z6s h hi ht hv).1 t1,hw⟩
theorem zb7 (h:j5 V l) (hi: ∀ v w,V v->V w->r v=r w->v=w) (k:zNP l c d):zNP (l.map (zFb r)) (r c) (r d):=by
 obtain ⟨t0,h0,t0c,t0d⟩:=k.near;have hc:=h.ent t0 h0 c t0c;have hd:=h.ent t0 h0 d t0d;have H: ∀ {t:P3} {v:Int},t∈l->V v->(zV (zFb r t) (r v)↔zV t v):=fun ht hv=>z6s h hi ht hv;refine ⟨fun e=>k.ne (hi c d hc hd e),⟨_,zU.2 ⟨t0,h0,rfl⟩,(H h0 hc).2 t0c,(H h0 hd).2 t0d⟩,fun h2=> ?_,fun v' vc vd ⟨t',ht',t1,t2⟩ ⟨u',hu',u1,u2⟩=> ?_,?_,?_⟩
 ·rw [zas h hi hc hd] at h2;rcases k.brd h2 with e|e
  ·exact .inl (z9y h hi hc e)
  ·exact .inr (z9y h hi hd e)
 ·obtain ⟨t,ht,rfl⟩:=zU.1 ht';obtain ⟨u,hu,rfl⟩:=zU.1 hu';obtain ⟨v,hv,rfl⟩:=zAs.1 t2;have hvV:=h.ent t ht v hv;obtain ⟨s,hs,s1,s2,s3⟩:=k.com v (fun e=>vc (by rw [e])) (fun e=>vd (by rw [e])) ⟨t,ht,(H ht hc).1 t1,hv⟩ ⟨u,hu,(H hu hd).1 u1,(H hu hvV).1 u2⟩;exact ⟨_,zU.2 ⟨s,hs,rfl⟩,(H hs hc).2 s1,(H hs hd).2 s2,(H hs hvV).2 s3⟩
 ·rintro ⟨t',ht',tc,hno⟩;obtain ⟨t,ht,rfl⟩:=zU.1 ht';refine k.one ⟨t,ht,(H ht hc).1 tc,fun u hu hne p q hpq tp tq up uq=> ?_⟩;have hp:=h.ent t ht p tp;have hq:=h.ent t ht q tq;exact hno (zFb r u) (zU.2 ⟨u,hu,rfl⟩) (fun e=>hne (z9o h hi hu ht e)) (r p) (r q) (fun e=>hpq (hi p q hp hq e)) ((H ht hp).2 tp) ((H ht hq).2 tq) ((H hu hp).2 up) ((H hu hq).2 uq)
 ·rintro ⟨p',q',r',cp,cq,cr,pq,pr,qr,⟨t1',h1',a1,a2,a3⟩,⟨t2',h2',b1,b2,b3⟩,⟨t3',h3',c1,c2,c3⟩,⟨t4',h4',d1,d2,d3⟩⟩;obtain ⟨t1,h1,rfl⟩:=zU.1 h1';obtain ⟨t2,h2,rfl⟩:=zU.1 h2';obtain ⟨t3,h3,rfl⟩:=zU.1 h3';obtain ⟨t4,h4,rfl⟩:=zU.1 h4';obtain ⟨p,p1,rfl⟩:=zAs.1 a2;obtain ⟨q,q1,rfl⟩:=zAs.1 a3;obtain ⟨s,s1,rfl⟩:=zAs.1 b3;have hp:=h.ent t1 h1 p p1;have hq:=h.ent t1 h1 q q1;have hs:=h.ent t2 h2 s s1
  exact k.tet ⟨p,q,s,fun e=>cp (by rw [e]),fun e=>cq (by rw [e]),fun e=>cr (by rw [e]),fun e=>pq (by rw [e]),fun e=>pr (by rw [e]),fun e=>qr (by rw [e]),
   ⟨t1,h1,(H h1 hc).1 a1,p1,q1⟩,⟨t2,h2,(H h2 hc).1 b1,(H h2 hp).1 b2,s1⟩,⟨t3,h3,(H h3 hc).1 c1,(H h3 hq).1 c2,(H h3 hs).1 c3⟩,⟨t4,h4,(H h4 hp).1 d1,(H h4 hq).1 d2,(H h4 hs).1 d3⟩⟩
theorem z97 (h:j5 V l) (hi: ∀ v w,V v->V w->r v=r w->v=w) (ha:V a) (hb:V b) (hc:V c) (hd:V d) (k:z6d l a b c d):z6d (l.map (zFb r)) (r a) (r b) (r c) (r d):=fun t' ht' k1 k2=>by
 obtain ⟨t,ht,rfl⟩:=zU.1 ht';rw [z6s h hi ht ha,z6s h hi ht hb] at k1;rw [z6s h hi ht hc,z6s h hi ht hd] at k2;exact k t ht k1 k2
end
end S1
namespace S1
def zFI (s:Int×List P3) (a b:Int):Int×List P3:=(s.1 - 1,(zDG a b s.2).map (zFb (dn a)))
theorem zZE {a v w:Int} (hv:v≠a) (hw:w≠a) (e:dn a v=dn a w):v=w:=by
 unfold dn at e;split at e<;>split at e<;>omega
section
variable {s:Int×List P3} {a b c d:Int}
theorem zKR (hs:zDM s) (k:zNP s.2 a b):zFS (j8 s) a b=0/\zH6 s.2 a b:=by
 obtain ⟨_,g,e⟩:=zCO hs;have hm:j5 (InN (j8 s).1.1) (j8 s).1.2:=zAy (s:=(j8 s).1) (by rw [e];exact hs);have hw:zFS (j8 s) a b=0:=(zYy g hm).2 (by rw [e];exact k);have:=zKl g hm hw;rw [e] at this;exact ⟨hw,this⟩
theorem zU7 (hs:zDM s) (k:zNP s.2 a b):zDM (zFI s a b):=by
 obtain ⟨_,g,e⟩:=zCO hs;have:=zIn g (by rw [e];exact hs) (zKR hs k).1;rw [e] at this;exact this
theorem z0Z (hs:zDM s) (k:zNP s.2 a b):InN s.1 a/\InN s.1 b:=by
 obtain ⟨t,ht,ta,tb⟩:=k.near;exact ⟨(zAy hs).ent t ht a ta,(zAy hs).ent t ht b tb⟩
theorem z7O (k:zNP s.2 c d) (ap:z6d s.2 a b c d):(c≠a/\c≠b)/\d≠a/\d≠b:=by
 obtain ⟨t,ht,tc,td⟩:=k.near;exact ⟨⟨fun e=>ap t ht (.inl (by rw [<- e];exact tc)) (.inl tc),fun e=>ap t ht (.inr (by rw [<- e];exact tc)) (.inl tc)⟩,fun e=>ap t ht (.inl (by rw [<- e];exact td)) (.inl tc),fun e=>ap t ht (.inr (by rw [<- e];exact td)) (.inl tc)⟩
theorem z9W (hs:zDM s) (k:zNP s.2 a b) (k2:zNP s.2 c d) (ap:z6d s.2 a b c d):zNP (zFI s a b).2 (dn a c) (dn a d):=by
 have hm:=zAy hs;have f:=(zKR hs k).2;have hi:=z0Z hs k;exact zb7 (zQe hm f hi.1 hi.2) (fun v w hv hw e=>zZE hv.2 hw.2 e) (zbW hm hi.1 hi.2 f k2 ap)
theorem z9E {p q:Int} (hs:zDM s) (k:zNP s.2 a b) (k2:zNP s.2 c d) (k3:zNP s.2 p q) (ap:z6d s.2 a b c d) (ap2:z6d s.2 a b p q) (ap3:z6d s.2 c d p q):z6d (zFI s a b).2 (dn a c) (dn a d) (dn a p) (dn a q):=by
 have hm:=zAy hs;have f:=(zKR hs k).2;have hi:=z0Z hs k;have i2:=z0Z hs k2;have i3:=z0Z hs k3;have n2:=z7O k2 ap;have n3:=z7O k3 ap2;exact z97 (zQe hm f hi.1 hi.2) (fun v w hv hw e=>zZE hv.2 hw.2 e) ⟨i2.1,n2.1.1⟩ ⟨i2.2,n2.2.1⟩ ⟨i3.1,n3.1.1⟩ ⟨i3.2,n3.2.1⟩ (za9 f ap ap3 k2.near)
end
end S1
namespace S1
structure z9P (s:Int×List P3) (l:List (Int×Int)):Prop where
 surf:zDM s
 free: ∀ e∈l,zNP s.2 e.1 e.2
 apart:l.Pairwise fun e f=>z6d s.2 e.1 e.2 f.1 f.2
def dn2 (a:Int) (e:Int×Int):Int×Int:=(dn a e.1,dn a e.2)
theorem z95 {s:Int×List P3} {a b:Int} {r:List (Int×Int)} (h:z9P s ((a,b)::r)):z9P (zFI s a b) (r.map (dn2 a)):=by
 have k:zNP s.2 a b:=h.free (a,b) (zR ..);obtain ⟨p1,p2⟩:=List.pairwise_cons.1 h.apart;refine ⟨zU7 h.surf k,fun e he=> ?_,?_⟩
 ·obtain ⟨f,hf,rfl⟩:=zU.1 he;exact z9W h.surf k (h.free f (zN _ hf)) (p1 f hf)
 ·refine List.Pairwise.map _ (fun e f hh=> ?_) (p2.imp_of_mem (S:=fun e f=>z6d s.2 e.1 e.2 f.1 f.2/\e∈r/\f∈r) fun he hf hh=>⟨hh,he,hf⟩);obtain ⟨hh,he,hf⟩:=hh;exact z9E h.surf k (h.free e (zN _ he)) (h.free f (zN _ hf)) (p1 e he) (p1 f hf) hh
end S1
namespace S1
def z7T (x:z6.T) (e:Int×Int):Prop:=bE x e.1 e.2\/bE x e.2 e.1
section
variable {x:z6.T}
theorem z8F (g:Full x) {w u:Int} (h:bE x w u): ∃ t∈x.1.2,zV t w/\zV t u:=by
 obtain ⟨h1,_⟩:=(zNB g).1 h;obtain ⟨t,ht,hd⟩:=zDP.1 h1;exact ⟨t,ht,qC hd⟩
theorem zcl (g:Full x) {w u:Int} (h:bE x w u): ¬ bE x u w:=fun k=>((zNB g).1 h).2 ((zNB g).1 k).1
theorem zKG {t:P3} {a b:Int} (hab:a≠b) (ha:zV t a) (hb:zV t b):dE t a b\/dE t b a:=by
 obtain ⟨x,y,z⟩:=t;simp only [zV,dE] at *;rcases ha with h|h|h<;>rcases hb with k|k|k<;>(subst h;subst k;simp at *)
theorem z7b (g:Full x) (hs:j5 (InN x.1.1) x.1.2) {w u:Int} (h:bE x w u) {t t':P3} (ht:t∈x.1.2) (ht':t'∈x.1.2) (a:zV t w/\zV t u) (b:zV t' w/\zV t' u):t=t':=by
 have hne:=(zPQ g h).2.2;have hno:=((zNB g).1 h).2;have d1:dE t w u:=(zKG hne a.1 a.2).resolve_right fun k=>hno (zDP.2 ⟨t,ht,k⟩);have d2:dE t' w u:=(zKG hne b.1 b.2).resolve_right fun k=>hno (zDP.2 ⟨t',ht',k⟩);apply yE;intro e;exact hs.dif t ht t' ht' e w u d1 d2
noncomputable def z7K (x:z6.T) (e:Int×Int):Int:= @ite _ (bE x e.2 e.1) (Classical.propDecidable _) e.2 e.1
noncomputable def z8E (x:z6.T) (e:Int×Int):Int:= @ite _ (bE x e.2 e.1) (Classical.propDecidable _) e.1 e.2
theorem z8L {e:Int×Int} (h:z7T x e):bE x (z7K x e) (z8E x e)/\(z7K x e=e.1/\z8E x e=e.2\/z7K x e=e.2/\z8E x e=e.1):=by
 unfold z7K z8E
 by_cases k:bE x e.2 e.1
 ·rw [if_pos k,if_pos k];exact ⟨k,.inr ⟨rfl,rfl⟩⟩
 ·rw [if_neg k,if_neg k];exact ⟨h.resolve_right k,.inl ⟨rfl,rfl⟩⟩
noncomputable def z8K (x:z6.T) (e:Int×Int):List Int:=[z8E x e,z7K x e,nx x (z7K x e)]
theorem z7w (g:Full x) {e:Int×Int} (h:z7T x e):bE x (nx x (z7K x e)) (z7K x e)/\(z8K x e).Nodup:=by
 obtain ⟨h1,_⟩:=z8L h;obtain ⟨z,hz⟩:=zFk g h1;have e1:nx x (z7K x e)=z:=zGI g hz;unfold z8K;rw [e1];refine ⟨hz,?_⟩;have n1:=(zPQ g h1).2.2;have n2:=(zPQ g hz).2.2;have n3:z≠z8E x e:=fun k=>by subst k;exact zcl g h1 hz
 simp only [yU,zS,zAP,or_false,not_or,not_false_eq_true,jD,and_true];exact ⟨⟨n1.symm,n3.symm⟩,n2.symm⟩
theorem z9m (g:Full x) {L:List Int} (hL:zFQ x L) {e:Int×Int} (h:z7T x e) (hm:e.1∈L): ∀ v∈z8K x e,v∈L:=by
 obtain ⟨h1,h2⟩:=z8L h
 have hP:z8E x e∈L/\z7K x e∈L:=by
  rcases h2 with ⟨a,b⟩|⟨a,b⟩
  ·-- what comes behind z8E is z7K: go round
   rw [a];refine ⟨?_,hm⟩;obtain ⟨i,hi,e0⟩:=zLJ hm;obtain ⟨j,hj⟩: ∃ j,j=(i+(L.length - 1)) % L.length:=⟨_,rfl⟩;have hjl:j<L.length:=by rw [hj];exact Nat.mod_lt _ hL.ne
   have hji:(j+1) % L.length=i:=by
    rw [hj,Nat.mod_add_mod,show i+(L.length - 1)+1=i+L.length by omega,Nat.add_mod_right,Nat.mod_eq_of_lt hi]
   have hc:=hL.cyc j hjl;rw [hji,e0] at hc;rw [a] at h1;rw [zQx g h1 hc];exact zA0 hjl
  ·rw [b];refine ⟨hm,?_⟩;have:=hL.next g hm
   rw [b] at h1;rwa [show nx x e.1=z7K x e from zGI g h1] at this
 have hR:=hL.next g hP.2
 intro v hv;unfold z8K at hv;simp only [zS,zAP,or_false] at hv;rcases hv with e|e|e<;>rw [e]
 ·exact hP.1
 ·exact hP.2
 ·exact hR
theorem zb1 (g:Full x) {e f:Int×Int} (he:z7T x e) (hf:z7T x f) (ke:zNP x.1.2 e.1 e.2) (kf:zNP x.1.2 f.1 f.2) (ap:z6d x.1.2 e.1 e.2 f.1 f.2): ∀ v∈z8K x e,v∉z8K x f:=by
 obtain ⟨h1,h2⟩:=z8L he;obtain ⟨k1,k2⟩:=z8L hf;obtain ⟨hr,_⟩:=z7w g he;obtain ⟨kr,_⟩:=z7w g hf;have ne:=z7O kf ap
 have star1: ∀ {t:P3} {v:Int},zV t v->(v=z8E x e\/v=z7K x e)->zV t e.1\/zV t e.2:=fun h k=>by
  rcases h2 with ⟨a,b⟩|⟨a,b⟩<;>rw [a,b] at k<;>rcases k with k|k<;>subst k
  ·exact .inr h
  ·exact .inl h
  ·exact .inl h
  ·exact .inr h
 have star2: ∀ {t:P3} {v:Int},zV t v->(v=z8E x f\/v=z7K x f)->zV t f.1\/zV t f.2:=fun h k=>by
  rcases k2 with ⟨a,b⟩|⟨a,b⟩<;>rw [a,b] at k<;>rcases k with k|k<;>subst k
  ·exact .inr h
  ·exact .inl h
  ·exact .inl h
  ·exact .inr h
 have dis: ∀ v,(v=z8E x e\/v=z7K x e)->(v=z8E x f\/v=z7K x f)->False:=fun v a b=>by
  obtain ⟨t,ht,t1,t2⟩:=z8F g h1;rcases a with a|a
  ·exact ap t ht (star1 (v:=v) (by rw [a];exact t2) (.inl a)) (star2 (v:=v) (by rw [a];exact t2) b)
  ·exact ap t ht (star1 (v:=v) (by rw [a];exact t1) (.inr a)) (star2 (v:=v) (by rw [a];exact t1) b)
 intro v hv hw;unfold z8K at hv hw;simp only [zS,zAP,or_false] at hv hw;have hv':(v=z8E x e\/v=z7K x e)\/v=nx x (z7K x e):=or_assoc.2 hv;have hw':(v=z8E x f\/v=z7K x f)\/v=nx x (z7K x f):=or_assoc.2 hw;rcases hv' with a|a<;>rcases hw' with b|b
 ·exact dis v a b
 ·obtain ⟨t,ht,t1,t2⟩:=z8F g kr;exact ap t ht (star1 (v:=v) (by rw [b];exact t1) a) (star2 t2 (.inr rfl))
 ·obtain ⟨t,ht,t1,t2⟩:=z8F g hr;exact ap t ht (star1 t2 (.inr rfl)) (star2 (v:=v) (by rw [a];exact t1) b)
 ·rw [<- a] at hr;rw [<- b] at kr;have:=zQx g hr kr;exact dis _ (.inr rfl) (.inr this)
theorem zdA (g:Full x) {L:List Int} (hL:zFQ x L): ∀ (D:List (Int×Int)),(∀ d∈D,z7T x d/\zNP x.1.2 d.1 d.2/\d.1∈L)->D.Pairwise (fun e f=>z6d x.1.2 e.1 e.2 f.1 f.2)->
 ∃ T:List Int,T.Nodup/\T.length=3*D.length/\∀ v∈T,v∈L/\∃ d∈D,v∈z8K x d
 | [],_,_=>⟨[],jD,rfl,fun v h=>by cases h⟩
 | d ::D,hd,hp=>by
   obtain ⟨p1,p2⟩:=List.pairwise_cons.1 hp;obtain ⟨T,t1,t2,t3⟩:=zdA g hL D (fun e he=>hd e (zN _ he)) p2;obtain ⟨b1,b2,b3⟩:=hd d (zR ..);refine ⟨z8K x d++T,?_,?_,?_⟩
   ·rw [List.nodup_append];refine ⟨(z7w g b1).2,t1,fun v hv w hw e=> ?_⟩;subst e;obtain ⟨_,f,hf,hvf⟩:=t3 v hw;obtain ⟨c1,c2,_⟩:=hd f (zN _ hf);exact zb1 g b1 c1 b2 c2 (p1 f hf) v hv hvf
   ·rw [zO,t2,zZ];show 3+_=_;omega
   ·intro v hv;rcases z8.1 hv with h|h
    ·exact ⟨z9m g hL b1 b3 v h,d,zR ..,h⟩
    ·obtain ⟨a,f,hf,b⟩:=t3 v h;exact ⟨a,f,zN _ hf,b⟩
theorem zaT (g:Full x) (hs:j5 (InN x.1.1) x.1.2) {L:List Int} (hL:zFQ x L) {e:Int×Int} (h:z7T x e) (k:zNP x.1.2 e.1 e.2) (hm:e.1∈L):4<=L.length:=by
 obtain ⟨h1,h2⟩:=z8L h;obtain ⟨hr,hn⟩:=z7w g h;have hin:=z9m g hL h hm;have h3:3<=L.length:=zGb (z8K x e) L hn hin;apply yE;intro hlt;have hl:L.length=3:=by omega
 -- each vertex of the loop is one of the three
 have hall: ∀ v∈L,v∈z8K x e:=fun v hv=>by
  apply yE;intro hv2
  have:=zGb (v::z8K x e) L (yU.2 ⟨hv2,hn⟩) fun w hw=>by
   rcases zS.1 hw with e|e
   ·rw [e];exact hv
   ·exact hin w e
  rw [hl] at this;exact absurd this (by unfold z8K;simp)
 have hz:=hall _ (hL.next g (hin _ (show nx x (z7K x e)∈z8K x e by unfold z8K;simp)));obtain ⟨z,hzz⟩:=zFk g hr;have ez:nx x (nx x (z7K x e))=z:=zGI g hzz;rw [ez] at hz
 have hp:bE x (z8E x e) (nx x (z7K x e)):=by
  unfold z8K at hz;simp only [zS,zAP,or_false] at hz;rcases hz with e|e|e
  ·rw [<- e];exact hzz
  ·rw [e] at hzz;exact absurd hzz (zcl g hr)
  ·rw [e] at hzz;exact absurd rfl (zPQ g hzz).2.2
 unfold z8K at hn;simp only [yU,zS,zAP,or_false,not_or,not_false_eq_true,jD,and_true] at hn;obtain ⟨t1,ht1,a1,a2⟩:=z8F g hr;obtain ⟨t2,ht2,c1,c2⟩:=z8F g hp
 -- the zIX vertex is beside both ends
 have tri:zTP x.1.2 e.1 e.2 (nx x (z7K x e)):=by
  rcases h2 with ⟨a,b⟩|⟨a,b⟩
  ·exact k.com _ (fun q=>hn.2 (a.trans q.symm)) (fun q=>hn.1.2 (b.trans q.symm)) ⟨t1,ht1,by rw [<- a];exact a2,a1⟩ ⟨t2,ht2,by rw [<- b];exact c1,c2⟩
  ·exact k.com _ (fun q=>hn.1.2 (b.trans q.symm)) (fun q=>hn.2 (a.trans q.symm)) ⟨t2,ht2,by rw [<- b];exact c1,c2⟩ ⟨t1,ht1,by rw [<- a];exact a2,a1⟩
 obtain ⟨t,ht,s1,s2,s3⟩:=tri
 have sP:zV t (z8E x e)/\zV t (z7K x e):=by
  rcases h2 with ⟨a,b⟩|⟨a,b⟩<;>rw [a,b]
  ·exact ⟨s2,s1⟩
  ·exact ⟨s1,s2⟩
 refine k.one ⟨t,ht,s1,fun u hu hne a b hab ta tb ua ub=>hne ?_⟩
 have only: ∀ v,zV t v->v=z8E x e\/v=z7K x e\/v=nx x (z7K x e):=fun v hv=>by
  apply yE;intro q;rw [not_or,not_or] at q;exact four (hs.deg t ht) hn.1.1 hn.1.2 (Ne.symm q.1) hn.2 (Ne.symm q.2.1) (Ne.symm q.2.2) sP.1 sP.2 s3 hv
 rcases only a ta with e1|e1|e1<;>rcases only b tb with e2|e2|e2
 ·exact absurd (e1.trans e2.symm) hab
 ·exact z7b g hs h1 hu ht ⟨by rw [<- e2];exact ub,by rw [<- e1];exact ua⟩ ⟨sP.2,sP.1⟩
 ·exact z7b g hs hp hu ht ⟨by rw [<- e1];exact ua,by rw [<- e2];exact ub⟩ ⟨sP.1,s3⟩
 ·exact z7b g hs h1 hu ht ⟨by rw [<- e1];exact ua,by rw [<- e2];exact ub⟩ ⟨sP.2,sP.1⟩
 ·exact absurd (e1.trans e2.symm) hab
 ·exact z7b g hs hr hu ht ⟨by rw [<- e2];exact ub,by rw [<- e1];exact ua⟩ ⟨s3,sP.2⟩
 ·exact z7b g hs hp hu ht ⟨by rw [<- e2];exact ub,by rw [<- e1];exact ua⟩ ⟨sP.1,s3⟩
 ·exact z7b g hs hr hu ht ⟨by rw [<- e1];exact ua,by rw [<- e2];exact ub⟩ ⟨s3,sP.2⟩
 ·exact absurd (e1.trans e2.symm) hab
theorem zdC (g:Full x) (hs:j5 (InN x.1.1) x.1.2) {L:List Int} (hL:zFQ x L) {e:Int×Int} {D:List (Int×Int)} (he:z7T x e) (ke:zNP x.1.2 e.1 e.2) (hm:e.1∈L)
 (hD: ∀ d∈D,z7T x d/\zNP x.1.2 d.1 d.2/\d.1∈L) (hp:D.Pairwise (fun e f=>z6d x.1.2 e.1 e.2 f.1 f.2)) (hpe: ∀ d∈D,z6d x.1.2 d.1 d.2 e.1 e.2):D.length+4<=L.length:=by
 have h4:=zaT g hs hL he ke hm
 obtain ⟨T,t1,t2,t3⟩:=zdA g hL (e::D) (fun d hd=>by
  rcases zS.1 hd with k|k
  ·rw [k];exact ⟨he,ke,hm⟩
  ·exact hD d k) (List.pairwise_cons.2 ⟨fun d hd t ht a b=>hpe d hd t ht b a,hp⟩)
 have:=zGb T L t1 fun v hv=>(t3 v hv).1;rw [t2,zZ] at this;omega
end
end S1
namespace S1
def z7M (x:z6.T) (e:Int×Int) (n:Int):Prop:= ∃ j:Nat,j<x.1.2.length/\n=j/\(zV (tg x.1.2 j) e.1\/zV (tg x.1.2 j) e.2)
theorem zab (m:ReM) (l:List Int):zax m l=(l.map fun c=>c.tdiv 3).foldl (fun m u=>zAe (.int .i64) m u true) m:=by
 unfold zax;rw [List.foldl_map]
theorem z8C: ∀ (m:ReM) (k:Int),(∀ p∈m,p.2=true)->∀ p∈zAe (.int .i64) m k true,p.2=true
 | [],k,_,p,hp=>by
   have:p∈[((k,true):(ETy.int .i64).T×Bool)]:=hp;rw [zF.1 this]
 | (a,b)::r,k,h,p,hp=>by
   unfold zAe at hp;split at hp
   ·rcases zS.1 hp with e|e
    ·rw [e]
    ·exact h p (zN _ e)
   ·rcases zS.1 hp with e|e
    ·rw [e];exact h (a,b) (zR ..)
    ·exact z8C r k (fun q hq=>h q (zN _ hq)) p e
theorem z8T: ∀ (l:List Int) (m:ReM),(∀ p∈m,p.2=true)->∀ p∈l.foldl (fun m u=>zAe (.int .i64) m u true) m,p.2=true
 | [],_,h=>h
 | a::r,m,h=>z8T r _ (z8C m a h)
theorem zc6 {m:ReM} (h: ∀ p∈m,p.2=true) {n:Int} :had m n=true↔n∈zFX m:=by
 refine ⟨zT1,?_⟩
 induction m with
 | nil=>intro k;cases k
 | cons p r ih =>
   obtain ⟨a,b⟩:=p;intro k;have hb:b=true:=h (a,b) (zR ..);subst hb
   by_cases e:a=n
   ·subst e;show (zAR (.int .i64) ((a,true)::r) a).getD false=true;unfold zAR;split
    ·rfl
    ·rename_i h0 _;exact absurd rfl h0
   ·have:had r n=true:=ih (fun q hq=>h q (zN _ hq)) ((zS.1 k).resolve_left (fun q=>e q.symm));show (zAR (.int .i64) ((a,true)::r) n).getD false=true;unfold zAR;split
    ·rfl
    ·exact this
theorem z8q (x:z6.T) (e:Int×Int):z6m x e=((yS (some x) e.1++yS (some x) e.2).map fun c=>c.tdiv 3).foldl (fun m u=>zAe (.int .i64) m u true) []:=by
 show zax (zax [] (yS (some x) e.1)) (yS (some x) e.2)=_;rw [zab,zab,zBZ,z6a]
theorem z9J (x:z6.T) (e:Int×Int): ∀ p∈z6m x e,p.2=true:=by
 rw [z8q];exact z8T _ _ fun p h=>by cases h
section
variable {x:z6.T}
theorem z8M (g:Full x) {v n:Int} :(∃ c∈yS (some x) v,c.tdiv 3=n)↔∃ j:Nat,j<x.1.2.length/\n=j/\zV (tg x.1.2 j) v:=by
 constructor
 ·rintro ⟨c,hc,rfl⟩
  have hv:0<=v/\v<x.1.1:=by
   apply yE;intro k
   have:zCH x v=false:=by
    rw [<- zA3,zNl];exact fun q=>k ⟨q.1,q.2.1⟩
   have hc:c∈(if zCH x v then _ else _:List Int):=hc;rw [this] at hc;cases hc
  obtain ⟨b,_,_,_,_,_,hall,_⟩:=g.around hv.1 hv.2;obtain ⟨h1,h2⟩:=hall c hc;obtain ⟨k1,k2⟩:=zAl h1;have h0:=(z7.1 h1).1;rw [h2] at k2;exact ⟨(c / 3).toNat,k1,by rw [Int.tdiv_eq_ediv_of_nonneg h0];omega,k2⟩
 ·rintro ⟨j,hj,rfl,hv⟩;obtain ⟨c,h1,h2,h3⟩:=zIZ hj hv;have h0:=(z7.1 h1).1;refine ⟨c,by rw [<- h3];exact g.around_all h1,?_⟩;rw [Int.tdiv_eq_ediv_of_nonneg h0];omega
theorem z7g (g:Full x) {e:Int×Int} {n:Int} :had (z6m x e) n=true↔z7M x e n:=by
 rw [z8q,zXu];have e0:had [] n=true↔False:=⟨fun h=>(by cases h),False.elim⟩;rw [e0,false_or,zBZ,z8,zU,zU,z8M g,z8M g];constructor
 ·rintro (⟨j,a,b,c⟩|⟨j,a,b,c⟩)
  ·exact ⟨j,a,b,.inl c⟩
  ·exact ⟨j,a,b,.inr c⟩
 ·rintro ⟨j,a,b,c|c⟩
  ·exact .inl ⟨j,a,b,c⟩
  ·exact .inr ⟨j,a,b,c⟩
theorem z7H (g:Full x) {e:Int×Int} {n:Int} :n∈zFX (z6m x e)↔z7M x e n:=by
 rw [<- zc6 (z9J x e),z7g g]
theorem zah (g:Full x) {e f:Int×Int} :zVF (z6m x e) (z6m x f)=true↔z6d x.1.2 e.1 e.2 f.1 f.2:=by
 unfold zVF;rw [zM];constructor
 ·intro h t ht a b;obtain ⟨j,hj,rfl⟩:=zAj ht;obtain ⟨p,hp,e1⟩:=zU.1 ((z7H g).2 (⟨j,hj,rfl,a⟩:z7M x e j));have:=h p hp;rw [e1,(z7g g).2 (⟨j,hj,rfl,b⟩:z7M x f j)] at this;cases this
 ·intro h p hp;obtain ⟨j,hj,e1,a⟩:=(z7H g).1 (zU.2 ⟨p,hp,rfl⟩);cases e2:had (z6m x f) p.1 with
  | false=>rfl
  | true =>
    obtain ⟨i,hi,e3,b⟩:=(z7g g).1 e2;have:i=j:=by omega
    subst this;exact (h _ (qZ hi) a b).elim
end
def apT (l:List P3) (e f:Int×Int):Bool:=l.all fun t=> !(decide (zV t e.1\/zV t e.2)&&decide (zV t f.1\/zV t f.2))
theorem z82 {l:List P3} {e f:Int×Int} :apT l e f=true↔z6d l e.1 e.2 f.1 f.2:=by
 unfold apT z6d;rw [zM];refine forall_congr' fun t=>forall_congr' fun ht=> ?_;rw [y8,Bool.and_eq_false_iff,yX,yX];constructor
 ·rintro (h|h) a b
  ·exact h a
  ·exact h b
 ·intro h
  by_cases a:zV t e.1\/zV t e.2
  ·exact .inr (h a)
  ·exact .inl a
def okE (x:z6.T) (C:List (Int×Int)) (e:Int×Int):Bool:=decide (zFS x e.1 e.2=0)&&C.all fun c=>apT x.1.2 c e
def chK (x:z6.T) (l:List (Int×Int)):Nat->List (Int×Int)
 | 0=>[]
 | k+1=>if okE x (chK x l k) (l.getD k (0,0))=true then chK x l k++[l.getD k (0,0)] else chK x l k
def z6i (x:z6.T) (l:List (Int×Int)):List (Int×Int):=chK x l l.length
theorem z8A {x:z6.T} {l:List (Int×Int)} {k:Nat} (h:okE x (chK x l k) (l.getD k (0,0))=true):chK x l (k+1)=chK x l k++[l.getD k (0,0)]:=if_pos h
theorem zbE {x:z6.T} {l:List (Int×Int)} {k:Nat} (h: ¬ okE x (chK x l k) (l.getD k (0,0))=true):chK x l (k+1)=chK x l k:=if_neg h
theorem z7q (x:z6.T) (l:List (Int×Int)): ∀ k,(chK x l k).length<=k
 | 0=>zH _
 | k+1=>by
   have:=z7q x l k;unfold chK;split
   ·rw [zO,List.length_singleton];omega
   ·omega
theorem z7Q {x:z6.T} (g:Full x) (hs:j5 (InN x.1.1) x.1.2) {C:List (Int×Int)} {e:Int×Int} :okE x C e=true↔zNP x.1.2 e.1 e.2/\∀ c∈C,z6d x.1.2 c.1 c.2 e.1 e.2:=by
 unfold okE;rw [zA,zB,zYy g hs,zM];exact and_congr_right fun _=>forall_congr' fun c=>forall_congr' fun _=>z82
structure zc7 (x:z6.T) (C:List (Int×Int)):Prop where
 free: ∀ e∈C,zNP x.1.2 e.1 e.2
 apart:C.Pairwise fun e f=>z6d x.1.2 e.1 e.2 f.1 f.2
theorem zc7.snoc {x:z6.T} {C:List (Int×Int)} {e:Int×Int} (h:zc7 x C) (k:zNP x.1.2 e.1 e.2) (ka: ∀ c∈C,z6d x.1.2 c.1 c.2 e.1 e.2):zc7 x (C++[e]) :=
 ⟨fun f hf=>(z8.1 hf).elim (h.free f) fun q=>by rw [zF.1 q];exact k,
   List.pairwise_append.2 ⟨h.apart,List.pairwise_singleton _ _,fun c hc d hd=>by rw [zF.1 hd];exact ka c hc⟩⟩
theorem z7x {x:z6.T} (g:Full x) (hs:j5 (InN x.1.1) x.1.2) (l:List (Int×Int)): ∀ k,zc7 x (chK x l k)
 | 0=>⟨fun e h=>(by cases h),List.Pairwise.nil⟩
 | k +1=>by
   have ih:=z7x g hs l k
   by_cases h:okE x (chK x l k) (l.getD k (0,0))=true
   ·rw [z8A h];obtain ⟨h1,h2⟩:=(z7Q g hs).1 h;exact ih.snoc h1 h2
   ·rw [zbE h];exact ih
theorem z9g {x:z6.T} (g:Full x) (hs:j5 (InN x.1.1) x.1.2) {l:List (Int×Int)} (h:zc7 x l): ∀ k,k<=l.length->chK x l k=l.take k
 | 0,_=>rfl
 | k +1,hk=>by
   have ih:=z9g g hs h k (by omega)
   have e:l.take (k+1)=l.take k++[l.getD k (0,0)]:=by
    rw [yH (by omega),gdE,gE (by omega)];rfl
   rw [z8A,ih,e];rw [ih,z7Q g hs]
   have hm:l.getD k (0,0)∈l:=by
    rw [gdE,gE (by omega)];exact qF _
   refine ⟨h.free _ hm,fun c hc=> ?_⟩;have hp:=h.apart;rw [<- zAV (k+1) l,e] at hp;have:=(List.pairwise_append.1 ((List.pairwise_append.1 hp).1)).2.2 c hc _ (zF.2 rfl);exact this
theorem z8e {x:z6.T} (g:Full x) (hs:j5 (InN x.1.1) x.1.2) {l:List (Int×Int)} :(z6i x l).length=l.length↔zc7 x l:=by
 constructor
 ·intro h
  have key: ∀ k,k<=l.length->(chK x l k).length=k->chK x l k=l.take k:=fun k=>by
   induction k with
   | zero=>exact fun _ _=>rfl
   | succ k ih =>
     intro hk he;have hl:=z7q x l k
     by_cases c:okE x (chK x l k) (l.getD k (0,0))=true
     ·rw [z8A c] at he ⊢;rw [zO,List.length_singleton] at he;rw [ih (by omega) (by omega),yH (by omega),gdE,gE (by omega)];rfl
     ·rw [zbE c] at he;omega
  have e:=key l.length (zH _) h;rw [qI] at e;rw [<- e];exact z7x g hs l l.length
 ·intro h;unfold z6i;rw [z9g g hs h l.length (zH _),qI]
end S1
namespace S1
theorem z3S {I:Sig} {Z:yQ} {v:Value} (h:qD I Z ((ETy.pt z6).av none) v):qD I Z (z4i none) v:=by
 have h:[v]=[Value.pointer none]:=h;exact ⟨(List.cons.inj h).1,by simp [z4t]⟩
theorem zDY.res {P:Program} {f:FuncId} {args:List AV} {p q:Option Prop} {u u':AV} (h:zDY P f args (p,q,u)) (hu: ∀ (I:Sig) (v:Value),qD I [] u v->qD I [] u' v):zDY P f args (p,q,u') :=
 fun I vals w h1 h2=>⟨(h I vals w h1 h2).1,fun hq=>((h I vals w h1 h2).2 hq).mono fun _ _ ⟨v,σ',e1,e2,e3,e4,e5,e6⟩=>⟨v,σ',e1,e2,e3,e4,hu σ' v e5,e6⟩⟩
def zTG (x:z6.T):List AV->Option Res:=zF4 jQ (fun s=>some (none,some (zHO s=some x),.tup [(ETy.pt z6).av (some x),zCp.av (0,0,0)]))
theorem zSQ (x:z6.T):jN prog 21 (zTG x):=mkR (zAm fun s r h=>by
 cases h;intro I vals w hag hv;refine ⟨trivial,fun hq=> ?_⟩;have hq:zHO s=some x:=hq;have:=(newRow.1 _ _ (rfl:z4y [jQ.av s]=_) I vals w hag hv).2 trivial
 have hc:(zHh s).1=0:=by
  unfold zHO at hq;split at hq
  ·assumption
  ·cases hq
 rw [hq,zMb hc] at this
 exact this) func21
def zWY:List AV->Option Res:=zF4 jQ (fun s=>some (none,some (zHO s=none),.tup [z4i none,zCp.av (zHh s)]))
theorem zTv:jN prog 21 zWY:=mkR (zAm fun s r h=>by
 cases h;intro I vals w hag hv;refine ⟨trivial,fun hq=> ?_⟩;have hq:zHO s=none:=hq;have:=(newRow.1 _ _ (rfl:z4y [jQ.av s]=_) I vals w hag hv).2 trivial;rw [hq] at this;refine this.mono fun e w' ⟨v,σ',e1,e2,e3,e4,e5,e6⟩=>⟨v,σ',e1,e2,e3,e4,?_,e6⟩;obtain ⟨vs,e,r⟩:=e5
 match vs,r with
 | [a,b],r=>exact ⟨_,e,z3S r.1,r.2.1,trivial⟩) func21
end S1
namespace S1
def doE (s:SoT) (a b:Int):Int:=if isR s=true then (if (0<=a/\a<s.1)/\(0<=b/\b<s.1) then zMV (zFS (j8 s) a b) else 2) else 11
def doR (s:SoT) (a b:Int):SoT×zDZ×Int:=if doE s a b=0 then ((s.1 - 1,drL a b s.2 s.2.length),zLV s a b,0) else ((0,[]),(0,0,[],[],[]),doE s a b)
def doV (r:SoT×zDZ×Int):AV:= .tup [jQ.av r.1,zSF.av r.2.1,.s (.int .i64 r.2.2)]
def doW (r:SoT×zDZ×Int):AV:=if r.2.2=0 then doV r else .tup [.agg [.int .i64 0,.val (.slice none 0 0)],.agg [.int .i64 0,.int .i64 0,.val (.slice none 0 0),.val (.slice none 0 0),.val (.slice none 0 0)],.s (.int .i64 r.2.2)]
theorem zR8 {s:SoT} {a b:Int} (h:doE s a b=0):doR s a b=((s.1 - 1,drL a b s.2 s.2.length),zLV s a b,0):=if_pos h
theorem z1m {s:SoT} {a b:Int} (h:doE s a b≠0):doR s a b=((0,[]),(0,0,[],[],[]),doE s a b):=if_neg h
theorem zOj (s:SoT) (a b:Int):(doR s a b).2.2=doE s a b:=by
 by_cases h:doE s a b=0
 ·rw [zR8 h,h]
 ·rw [z1m h]
theorem zGw (s:SoT):isR s=true↔zDM s:=by
 unfold isR;rw [zB];exact ⟨fun h=>(zEh s).1 (by rw [h]),fun h=>zMb ((zEh s).2 h)⟩
theorem zHm {s:SoT} (h:zDM s) (a b:Int):doE s a b=if (0<=a/\a<s.1)/\(0<=b/\b<s.1) then zMV (zFS (j8 s) a b) else 2:=if_pos ((zGw s).2 h)
theorem z3t {s:SoT} (h:zHO s=none) (a b:Int):doE s a b=11:=if_neg fun k=>by
 have:=(zCO ((zGw s).1 k)).1;rw [h] at this;cases this
theorem zXj {s:SoT} {a b e:Int} (h:doE s a b=e) (he:e≠0):doW (doR s a b)= .tup [.agg [.int .i64 0,.val (.slice none 0 0)],.agg [.int .i64 0,.int .i64 0,.val (.slice none 0 0),.val (.slice none 0 0),.val (.slice none 0 0)],.s (.int .i64 e)]:=by
 unfold doW;rw [zOj,h,if_neg he]
theorem z3X {s:SoT} {a b:Int} (h:doE s a b=0):doW (doR s a b)=doV ((s.1 - 1,drL a b s.2 s.2.length),zLV s a b,0):=by
 unfold doW;rw [zOj,h,if_pos rfl,zR8 h]
theorem zK1 {I:Sig} {e:ETy} {v:Value} (h:qA I [] (.val (.slice none 0 0)) v):qA I [] (.sl e []) v:=by
 obtain ⟨h,_⟩:=h;subst h;exact zBc (.sl e)
theorem zSZ {I:Sig} {s:SoT} {a b:Int} {v:Value} (h:qD I [] (doW (doR s a b)) v):qD I [] (doV (doR s a b)) v:=by
 by_cases he:doE s a b=0
 ·rw [z3X he] at h;rw [zR8 he];exact h
 ·rw [zXj rfl he] at h;rw [z1m he];obtain ⟨vs,e1,h⟩:=h
  match vs,h with
  | [x,y,z],⟨⟨ds,ea,h1⟩,⟨dt,eb,h2⟩,h3⟩ =>
    refine ⟨_,e1,⟨ds,ea,?_⟩,⟨dt,eb,?_⟩,h3⟩
    ·match ds,h1 with
     | [d1,d2],⟨k1,k2,k3⟩=>exact ⟨k1,zK1 k2,k3⟩
    ·match dt,h2 with
     | [d1,d2,d3,d4,d5],⟨k1,k2,k3,k4,k5,k6⟩=>exact ⟨k1,k2,zK1 k3,zK1 k4,zK1 k5,k6⟩
theorem z6M (a:Int) (t:P3):(zO1 a [t.1,t.2.1,t.2.2] 0>=0↔zV t a)/\(zV t a->zO1 a [t.1,t.2.1,t.2.2] 0=zKD a t):=by
 obtain ⟨x,y,z⟩:=t;simp only [zO1,zV,zKD];refine ⟨?_,fun h=> ?_⟩
 ·by_cases h1:a=x
  ·rw [if_pos h1];exact ⟨fun _=> .inl h1.symm,fun _=>by decide⟩
  ·rw [if_neg h1]
   by_cases h2:a=y
   ·rw [if_pos h2];exact ⟨fun _=> .inr (.inl h2.symm),fun _=>by decide⟩
   ·rw [if_neg h2]
    by_cases h3:a=z
    ·rw [if_pos h3];exact ⟨fun _=> .inr (.inr h3.symm),fun _=>by decide⟩
    ·rw [if_neg h3];exact ⟨fun h=>absurd h (by decide),fun h=>by omega⟩
 ·by_cases h1:x=a
  ·rw [if_pos h1,if_pos h1.symm];rfl
  ·rw [if_neg h1,if_neg (Ne.symm h1)]
   by_cases h2:y=a
   ·rw [if_pos h2,if_pos h2.symm];rfl
   ·rw [if_neg h2,if_neg (Ne.symm h2),if_pos (by omega)];rfl
theorem z6Y (a:Int) (t:P3):zEA a [t.1,t.2.1,t.2.2]=true↔zV t a:=by unfold zEA;rw [zB];exact (z6M a t).1
theorem zLj {a b v:Int} (h:0<=v):zS0 v a b=dn a (ph a b v):=by
 unfold zS0 dn ph;rw [if_neg (by omega)]
theorem z3D (a b:Int) (l:List P3):atL a b l 0=[]:=rfl
theorem z2w (a b:Int) (l:List P3):rtL a b l 0=[]:=rfl
theorem zZb (a b:Int) (l:List P3):zDj a b l 0=[]:=rfl
theorem z4T (a b:Int) (l:List P3):drL a b l 0=[]:=rfl
theorem z2v {a b:Int} {l:List P3} {i:Nat} (h:both a b (tg l i)=true):atL a b l (i+1)=atL a b l i++[(i:Int)]/\rtL a b l (i+1)=rtL a b l i++[tg l i]/\zDj a b l (i+1)=zDj a b l i/\drL a b l (i+1)=drL a b l i:=by
 have e1:atL a b l (i+1)=atL a b l i++(atG a b l i).toList:=zAE _ _;have e2:rtL a b l (i+1)=rtL a b l i++(rtG a b l i).toList:=zAE _ _;have e3:zDj a b l (i+1)=zDj a b l i++(zLz a b l i).toList:=zAE _ _;rw [e1,e2,e3,zGK];unfold atG rtG zLz drG;rw [if_pos h,if_pos h,if_pos h,if_pos h];exact ⟨rfl,rfl,yJ _,yJ _⟩
theorem z56 {a b:Int} {l:List P3} {i:Nat} (h: ¬ both a b (tg l i)=true) (h2:zV (tg l i) a):atL a b l (i+1)=atL a b l i/\rtL a b l (i+1)=rtL a b l i/\zDj a b l (i+1)=zDj a b l i++[3*(i:Int)+zKD a (tg l i)]/\drL a b l (i+1)=drL a b l i++[drT a b (tg l i)]:=by
 have e1:atL a b l (i+1)=atL a b l i++(atG a b l i).toList:=zAE _ _;have e2:rtL a b l (i+1)=rtL a b l i++(rtG a b l i).toList:=zAE _ _;have e3:zDj a b l (i+1)=zDj a b l i++(zLz a b l i).toList:=zAE _ _;rw [e1,e2,e3,zGK];unfold atG rtG zLz drG;rw [if_neg h,if_neg h,if_neg h,if_neg h,if_pos h2];exact ⟨yJ _,yJ _,rfl,rfl⟩
theorem z5j {a b:Int} {l:List P3} {i:Nat} (h2: ¬ zV (tg l i) a):atL a b l (i+1)=atL a b l i/\rtL a b l (i+1)=rtL a b l i/\zDj a b l (i+1)=zDj a b l i/\drL a b l (i+1)=drL a b l i++[drT a b (tg l i)]:=by
 have h: ¬ both a b (tg l i)=true:=fun k=>h2 ((zCy.1 k).1);have e1:atL a b l (i+1)=atL a b l i++(atG a b l i).toList:=zAE _ _;have e2:rtL a b l (i+1)=rtL a b l i++(rtG a b l i).toList:=zAE _ _;have e3:zDj a b l (i+1)=zDj a b l i++(zLz a b l i).toList:=zAE _ _;rw [e1,e2,e3,zGK];unfold atG rtG zLz drG;rw [if_neg h,if_neg h,if_neg h,if_neg h,if_neg h2];exact ⟨yJ _,yJ _,yJ _,rfl⟩
theorem zN9 {s:SoT} (h:zDM s):zDp s=true:=by
 have hf:=h.fit
 have hb:zRG s.1 s.2 0= -1:=zTW _ _ _ fun t ht=>by
  obtain ⟨i,hi,e⟩:=zAj ht;have h1:=hf.2.2.2 i hi;have h2:=h.deg i hi;have e2:s.2.getD i (0,0,0)=t:=e;rw [e2] at h1;rw [e] at h2;unfold dgn at h2;unfold zYQ;rw [h1];simp only [Bool.true_and,zA,bne_iff_ne];exact ⟨fun k=>h2 (.inl k),fun k=>h2 (.inr (.inl k)),fun k=>h2 (.inr (.inr k))⟩
 unfold zDp;have h1:=hf.1;have h2:=hf.2.1;have h3:=hf.2.2.1;rw [hb,decide_eq_false (by omega),decide_eq_false (by omega),decide_eq_false (by omega),decide_eq_false (by omega)];rfl
theorem z1h {s:SoT} (h:zDM s) {a b:Int} (hn: ¬ ((0<=a/\a<s.1)/\(0<=b/\b<s.1))):doE s a b=2:=by rw [zHm h,if_neg hn]
theorem z3R {s:SoT} (h:zDM s) {a b:Int} (hn:(0<=a/\a<s.1)/\(0<=b/\b<s.1)):doE s a b=zMV (z4g (some (j8 s)) a b):=by rw [zHm h,if_pos hn];rfl
def zMQ (n a b:Int) (l:List P3):Spec Nat where
 inv i:=i<=l.length
 live i:=[(71,.s (.int .i64 i))]
 keep:=[1,2,3,6,7,8,12,13,69,70]
 heap i:=[(4,.flat 40 [.int .i64 a,.int .i64 b,.own 6 0 (atL a b l i).length,.own 7 0 (rtL a b l i).length,.own 8 0 (zDj a b l i).length]),(5,.flat 24 [.int .i64 (n - 1),.own 9 0 (drL a b l i).length]),
  (6,.row qX 3 (atL a b l i)),(7,.row .arr3 68 (rtL a b l i)),(8,.row qX 3 (zDj a b l i)),(9,.row .arr3 68 (drL a b l i))]
 keepH:=[0,1,2,3]
 mu i:=l.length - i
 nils:=[4,4,4,5]
attribute [local irreducible] doW z4g zMV zEA zO1 atL rtL zDj drL zS0 zDp
theorem z4G (n:Int) (l:List P3) (a b:Int) (x:z6.T) (hx:zHO (n,l)=some x):zAk ⟨tyL,[(21,zTG x),(48,zL8),(50,z4J),(49,zTe),(51,zHD),(52,zBL),(53,zUG)],[]⟩ f16 [jQ.av (n,l),qX.av a,qX.av b] (fun r=>r=doW (doR (n,l) a b)):=by
 obtain ⟨e0,g,hs⟩:=zQB hx
 repeat' (conv=>whnf
          first|done|refine qy ?_|refine qG fun _=> ?_|refine qw (fun _=> ?_) (fun _=> ?_)|apply qt|refine qi (fun _=> ?_) (fun _=> ?_)|(refine zJa 12 rfl ?_;refine Or.inr (yM (Nat) (yM (zMQ n a b l) (yA (yM (0) (yA (zA9.out ?_) (yA ?_ (yA ?_ rfl)))) (fun i hi=> ?_)))))|with_reducible refine jK (zMQ _ _ _ _) (i+1) ?_ ?_ ?_ ?_|refine qu ?_|refine qv ?_ ?_|exact zL)
 all_goals try first|refine qz ?_|apply qz5
 all_goals try simp only [qn0,zY,zX,ETy.dflt,Int.reduceToNat,Int.reduceAdd,Int.reduceSub,Int.reduceNeg,Nat.reduceAdd,zMQ] at *
 all_goals have hf:=hs.fit
 all_goals have hn:0<=n/\n<=4096:=⟨hf.1,hf.2.1⟩
 all_goals have hl:l.length<=8192:=hf.2.2.1
 all_goals try exact jE.intro (zXj (z1h hs (by show ¬ ((0<=a/\a<n)/\0<=b/\b<n);omega)) (by decide)).symm
 all_goals try exact qh (fun y e=>by cases e;exact g.toGood)
 all_goals try exact absurd (zN9 hs) (by rw [show zDp (n,l)=false by assumption];decide)
 all_goals have hab:(0<=a/\a<n)/\(0<=b/\b<n):=by omega
 all_goals have hE:doE (n,l) a b=zMV (z4g (some x) a b):=by rw [e0];exact z3R hs hab
 all_goals try exact jE.intro (zXj hE (by assumption)).symm
 all_goals try first|exact z3D a b l|exact z2w a b l|exact zZb a b l|exact z4T a b l|(rw [z3D,z2w,zZb];exact zAF.intro rfl)|(rw [z4T];exact zAF.intro rfl)
 all_goals try (refine qh ?_;unfold zAZ;omega)
 all_goals try (refine qh ?_;omega)
 all_goals try
  have hi9:i=l.length:=by omega
  subst hi9;rw [z3X (hE.trans (by assumption))];exact jE.intro rfl
 all_goals have hi1:(i:Int)<l.length:=by assumption
 all_goals have hla:(atL a b l i).length<=i:=z3i a b l i
 all_goals have hlr:(rtL a b l i).length<=i:=z3x a b l i
 all_goals have hlf:(zDj a b l i).length<=i:=z2Q a b l i
 all_goals have hld:=z2L a b l i
 all_goals have ht:(0<=(l.getD i (0,0,0)).1/\(l.getD i (0,0,0)).1<n)/\(0<=(l.getD i (0,0,0)).2.1/\(l.getD i (0,0,0)).2.1<n)/\(0<=(l.getD i (0,0,0)).2.2/\(l.getD i (0,0,0)).2.2<n):=zAv (hf.2.2.2 i (show i<l.length by omega))
 all_goals try (refine qh ?_;omega)
 all_goals try (refine zA9.intro ⟨⟨?_,?_⟩,?_,?_⟩<;>clear hi hi1 hx e0 g hs hf hE<;>omega)
 all_goals try exact absurd (show zO1 a [(l.getD i (0,0,0)).fst,(l.getD i (0,0,0)).snd.fst,(l.getD i (0,0,0)).snd.snd] 0>=0 by assumption) (by assumption)
 all_goals have fa:=z6M a (l.getD i (0,0,0))
 all_goals have fb:=z6Y b (l.getD i (0,0,0))
 all_goals have hp3:=zQK (a:=a) (t:=l.getD i (0,0,0))
 all_goals have eD:drT a b (l.getD i (0,0,0))=(zS0 (l.getD i (0,0,0)).1 a b,zS0 (l.getD i (0,0,0)).2.1 a b,zS0 (l.getD i (0,0,0)).2.2 a b):=by
            rw [zLj ht.1.1,zLj ht.2.1.1,zLj ht.2.2.1];rfl
 all_goals try
  have kb:zEA b [(l.getD i (0,0,0)).fst,(l.getD i (0,0,0)).snd.fst,(l.getD i (0,0,0)).snd.snd]=true:=by assumption
  have ka:zV (l.getD i (0,0,0)) a:=fa.1.1 (by assumption);obtain ⟨k1,k2,k3,k4⟩:=z2v (a:=a) (b:=b) (l:=l) (i:=i) (zCy.2 ⟨ka,fb.1 kb⟩);rw [k1,k2,k3];exact zAF.intro (by simp only [zO,List.length_singleton])
 all_goals try
  have kb:zEA b [(l.getD i (0,0,0)).fst,(l.getD i (0,0,0)).snd.fst,(l.getD i (0,0,0)).snd.snd]=true:=by assumption
  have ka:zV (l.getD i (0,0,0)) a:=fa.1.1 (by assumption);obtain ⟨k1,k2,k3,k4⟩:=z2v (a:=a) (b:=b) (l:=l) (i:=i) (zCy.2 ⟨ka,fb.1 kb⟩)
  first|exact k1|exact k2|exact k3|exact k4|(rw [k4];exact zAF.intro rfl)
 all_goals try
  have kb:zEA b [(l.getD i (0,0,0)).fst,(l.getD i (0,0,0)).snd.fst,(l.getD i (0,0,0)).snd.snd]=false:=by assumption
  have ka:zV (l.getD i (0,0,0)) a:=fa.1.1 (by assumption);have eF:=fa.2 ka;have kn: ¬ both a b (tg l i)=true:=fun k=>by rw [fb.2 (zCy.1 k).2] at kb;cases kb
  obtain ⟨k1,k2,k3,k4⟩:=z56 (a:=a) (b:=b) (l:=l) (i:=i) kn ka
  first
  | exact k1
  | exact k2
  | (rw [eF];exact k3)
  | (rw [<- eD];exact k4)
  | (rw [k1,k2,k3];exact zAF.intro (by simp only [zO,List.length_singleton]))
  | (rw [k4];exact zAF.intro (by simp only [zO,List.length_singleton]))
  | (rw [eF];refine qh ?_;unfold zAZ;omega)
 all_goals
  have ka: ¬ zV (l.getD i (0,0,0)) a:=fun k=>absurd (fa.1.2 k) (by assumption);obtain ⟨k1,k2,k3,k4⟩:=z5j (a:=a) (b:=b) (l:=l) (i:=i) ka
  first
  | exact k1
  | exact k2
  | exact k3
  | (rw [<- eD];exact k4)
  | (rw [k1,k2,k3];exact zAF.intro rfl)
  | (rw [k4];exact zAF.intro (by simp only [zO,List.length_singleton]))
theorem z0r (n:Int) (l:List P3) (a b:Int) (hx:zHO (n,l)=none):zAk ⟨tyL,[(21,zWY),(48,zL8),(50,z4J),(49,zTe),(51,zHD),(52,zBL),(53,zUG)],[]⟩ f16 [jQ.av (n,l),qX.av a,qX.av b] (fun r=>r=doW (doR (n,l) a b)):=by
 have e:=zXj (z3t hx a b) (by decide)
 repeat' (conv=>whnf
          first|done|refine qy ?_|refine qG fun _=> ?_|refine qw (fun _=> ?_) (fun _=> ?_)|apply qt|refine qi (fun _=> ?_) (fun _=> ?_)|(refine zJa 12 rfl ?_;refine Or.inr (yM (Nat) (yM (zMQ n a b l) (yA (yM (0) (yA (zA9.out ?_) (yA ?_ (yA ?_ rfl)))) (fun i hi=> ?_)))))|with_reducible refine jK (zMQ _ _ _ _) (i+1) ?_ ?_ ?_ ?_|refine qu ?_|refine qv ?_ ?_|exact zL)
 all_goals try first|refine qz ?_|apply qz5
 all_goals try simp only [qn0,zY,zX,ETy.dflt,Int.reduceToNat,Int.reduceAdd,Int.reduceSub,Int.reduceNeg,Nat.reduceAdd] at *
 all_goals try exact qh hx
 all_goals exact jE.intro e.symm
def zTE:List AV->Option Res:=zOs jQ qX qX (fun s a b=>some (none,none,doV (doR s a b)))
theorem zMa:jN prog 16 zTE:=mkR (zEa fun s a b r h=>by
 cases h;cases e:zHO s with
 | none=>exact zDY.res (fb (fn:=[(21,zWY),(48,zL8),(50,z4J),(49,zTe),(51,zHD),(52,zBL),(53,zUG)]) ⟨zTv,zLI,zZd,zVT,zI7,zCk,zTi,trivial⟩ func16 fun _ _=>z0r s.1 s.2 a b e) fun I v h=>zSZ h
 | some x=>exact zDY.res (fb (fn:=[(21,zTG x),(48,zL8),(50,z4J),(49,zTe),(51,zHD),(52,zBL),(53,zUG)]) ⟨(zSQ x),zLI,zZd,zVT,zI7,zCk,zTi,trivial⟩ func16 fun _ _=>z4G s.1 s.2 a b x e) fun I v h=>zSZ h) func16
end S1
