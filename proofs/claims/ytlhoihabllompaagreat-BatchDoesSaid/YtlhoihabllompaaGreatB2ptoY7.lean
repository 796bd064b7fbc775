/- A part of the proofs of the laws. -/
import Derived.Test.YtlhoihabllompaaGreatW2toB1p
import Derived.Test.YtlhoihabllompaaGreatFan1toF7
import Derived.Test.YtlhoihabllompaaGreatVmGrow2toVmKit
import Derived.Test.YtlhoihabllompaaGreatT5toT22
set_option linter.unusedSimpArgs false
set_option linter.unusedVariables false
set_option maxHeartbeats 8000000
set_option maxRecDepth 100000
open Go.Proofs.Tryz
open Go Go.Vm Go.Proofs
namespace S1
def zAS (l:List P3) (a b c d:Int):Prop:= ∀ t∈l,(z8 t a\/z8 t b)->(z8 t c\/z8 t d)->False
section
variable {V:Int->Prop} {l:List P3} {a b c d:Int}
theorem zRz {t:P3} (h: ¬ z8 t a):phT a b t=t:=by
 unfold z8 at h;rw [not_or,not_or] at h;unfold phT;rw [zLT h.1,zLT h.2.1,zLT h.2.2]
theorem zGN {v:Int} (va:v≠a) (vb:v≠b) (hv: ∀ t∈l,z8 t v->¬ z8 t a/\¬ z8 t b) {t:P3} (tv:z8 t v):t∈zIZ a b l↔t∈l:=by
 rw [zA9];constructor
 ·rintro ⟨u,hu,_,rfl⟩;have uv:=(zCp va vb).1 tv;rw [zRz (hv u hu uv).1];exact hu
 ·intro ht;exact ⟨t,ht,fun k=>(hv t ht tv).1 k.1,zRz (hv t ht tv).1⟩
theorem zIf {l l':List P3} (h:l.Nodup) (h':l'.Nodup) {p:P3->Bool} (k: ∀ t,p t=true->(t∈l'↔t∈l)):(l'.filter p).length=(l.filter p).length :=
 ((List.perm_ext_iff_of_nodup (h'.sublist List.filter_sublist) (h.sublist List.filter_sublist)).2 fun t=>by
   rw [zb5,zb5]
   exact ⟨fun ⟨k1,k2⟩=>⟨(k t k2).1 k1,k2⟩,fun ⟨k1,k2⟩=>⟨(k t k2).2 k1,k2⟩⟩).length_eq
theorem zEf {a b:Int} {t:P3} :both a b t=true↔z8 t a/\z8 t b:=by unfold both;rw [zP]
theorem z0a (h:jV V l) (hVa:V a) (hVb:V b) (f:zT1 l a b) (k:zBN l c d) (ap:zAS l a b c d):zBN (zIZ a b l) c d:=by
 have h':=zHx h f hVa hVb;have hc: ∀ t∈l,z8 t c->¬ z8 t a/\¬ z8 t b:=fun t ht k=>⟨fun e=>ap t ht (.inl e) (.inl k),fun e=>ap t ht (.inr e) (.inl k)⟩;have hd: ∀ t∈l,z8 t d->¬ z8 t a/\¬ z8 t b:=fun t ht k=>⟨fun e=>ap t ht (.inl e) (.inr k),fun e=>ap t ht (.inr e) (.inr k)⟩;obtain ⟨t0,h0,t0c,t0d⟩:=k.near;have ca:c≠a:=fun e=>(hc t0 h0 t0c).1 (by rw [<- e];exact t0c);have cb:c≠b:=fun e=>(hc t0 h0 t0c).2 (by rw [<- e];exact t0c)
 have da:d≠a:=fun e=>(hd t0 h0 t0d).1 (by rw [<- e];exact t0d);have db:d≠b:=fun e=>(hd t0 h0 t0d).2 (by rw [<- e];exact t0d);have sc: ∀ {t:P3},z8 t c->(t∈zIZ a b l↔t∈l):=fun {t} tv=>zGN ca cb hc tv;have sd: ∀ {t:P3},z8 t d->(t∈zIZ a b l↔t∈l):=fun {t} tv=>zGN da db hd tv
 have inn: ∀ {v:Int},(∀ {t:P3},z8 t v->(t∈zIZ a b l↔t∈l))->z20 l v->z20 (zIZ a b l) v:=fun {v} sv hi w hw ⟨t,ht,t1,t2⟩=>by
  rw [zIf h.nd h'.nd fun t k=>sv (zEf.1 k).1];exact hi w hw ⟨t,(sv t1).1 ht,t1,t2⟩
 -- what is beside c is no a, no b
 have far: ∀ {t:P3} {v:Int},t∈l->z8 t c->z8 t v->v≠a/\v≠b:=fun {t v} ht tc tv=>⟨fun e=>(hc t ht tc).1 (by rw [<- e];exact tv),fun e=>(hc t ht tc).2 (by rw [<- e];exact tv)⟩;refine ⟨k.ne,⟨t0,(sc t0c).2 h0,t0c,t0d⟩,fun h2=> ?_,fun v vc vd ⟨t,ht,t1,t2⟩ ⟨u,hu,u1,u2⟩=> ?_,?_,?_⟩
 ·rw [zIf h.nd h'.nd fun t k=>sc (zEf.1 k).1] at h2;rcases k.brd h2 with e|e
  ·exact .inl (inn sc e)
  ·exact .inr (inn sd e)
 ·obtain ⟨s,hs,s1,s2,s3⟩:=k.com v vc vd ⟨t,(sc t1).1 ht,t1,t2⟩ ⟨u,(sd u1).1 hu,u1,u2⟩;exact ⟨s,(sc s1).2 hs,s1,s2,s3⟩
 ·rintro ⟨t,ht,tc,hno⟩;have ht':=(sc tc).1 ht;refine k.one ⟨t,ht',tc,fun u hu hne p q hpq tp tq up uq=> ?_⟩
  by_cases uc:z8 u c
  ·exact hno u ((sc uc).2 hu) hne p q hpq tp tq up uq
  ·obtain ⟨pa,pb⟩:=far ht' tc tp;obtain ⟨qa,qb⟩:=far ht' tc tq
   by_cases ub:z8 u a/\z8 u b
   ·exact four (h.deg u hu) f.ne pa.symm qa.symm pb.symm qb.symm hpq ub.1 ub.2 up uq
   ·refine hno (phT a b u) (zA9.2 ⟨u,hu,ub,rfl⟩) (fun e=>uc ?_) p q hpq tp tq ((zCp pa pb).2 up) ((zCp qa qb).2 uq);rw [<- e] at tc;exact (zCp ca cb).1 tc
 ·rintro ⟨p,q,r,cp,cq,cr,pq,pr,qr,⟨t1,h1,a1,a2,a3⟩,⟨t2,h2,b1,b2,b3⟩,⟨t3,h3,c1,c2,c3⟩,⟨t4,h4,d1,d2,d3⟩⟩;have g1:=(sc a1).1 h1;have g2:=(sc b1).1 h2;have g3:=(sc c1).1 h3;obtain ⟨pa,pb⟩:=far g1 a1 a2;obtain ⟨qa,qb⟩:=far g1 a1 a3;obtain ⟨ra,rb⟩:=far g2 b1 b3;obtain ⟨u,hu,_,rfl⟩:=zA9.1 h4;exact k.tet ⟨p,q,r,cp,cq,cr,pq,pr,qr,⟨t1,g1,a1,a2,a3⟩,⟨t2,g2,b1,b2,b3⟩,⟨t3,g3,c1,c2,c3⟩,⟨u,hu,(zCp pa pb).1 d1,(zCp qa qb).1 d2,(zCp ra rb).1 d3⟩⟩
theorem zXo {p q:Int} (f:zT1 l a b) (h1:zAS l a b c d) (h3:zAS l c d p q) (near: ∃ t∈l,z8 t c/\z8 t d):zAS (zIZ a b l) c d p q:=by
 have hc: ∀ t∈l,z8 t c->¬ z8 t a/\¬ z8 t b:=fun t ht k=>⟨fun e=>h1 t ht (.inl e) (.inl k),fun e=>h1 t ht (.inr e) (.inl k)⟩;have hd: ∀ t∈l,z8 t d->¬ z8 t a/\¬ z8 t b:=fun t ht k=>⟨fun e=>h1 t ht (.inl e) (.inr k),fun e=>h1 t ht (.inr e) (.inr k)⟩;obtain ⟨t0,h0,t0c,t0d⟩:=near;have ca:c≠a:=fun e=>(hc t0 h0 t0c).1 (by rw [<- e];exact t0c);have cb:c≠b:=fun e=>(hc t0 h0 t0c).2 (by rw [<- e];exact t0c);have da:d≠a:=fun e=>(hd t0 h0 t0d).1 (by rw [<- e];exact t0d)
 have db:d≠b:=fun e=>(hd t0 h0 t0d).2 (by rw [<- e];exact t0d);intro t ht hcd hpq;rcases hcd with e|e
 ·exact h3 t ((zGN ca cb hc e).1 ht) (.inl e) hpq
 ·exact h3 t ((zGN da db hd e).1 ht) (.inr e) hpq
end
end S1
namespace S1
section
variable {V:Int->Prop} {l:List P3} {a b c d:Int} {r:Int->Int}
theorem zEG (h:jV V l) (hi: ∀ v w,V v->V w->r v=r w->v=w) {t:P3} {v:Int} (ht:t∈l) (hv:V v):z8 (zDo r t) (r v)↔z8 t v :=
 ⟨fun k=>by obtain ⟨w,hw,e⟩:=zAm.1 k;rw [<- hi w v (h.ent t ht w hw) hv e];exact hw,fun k=>zAm.2 ⟨v,k,rfl⟩⟩
theorem zWH (h:jV V l) (hi: ∀ v w,V v->V w->r v=r w->v=w) {v w:Int} (hv:V v) (hw:V w):((l.map (zDo r)).filter (both (r v) (r w))).length=(l.filter (both v w)).length:=by
 rw [List.filter_map,yV,List.filter_congr fun t ht=> ?_];rw [Bool.eq_iff_iff];show both (r v) (r w) (zDo r t)=true↔_;rw [zEf,zEf,zEG h hi ht hv,zEG h hi ht hw]
theorem zWW (h:jV V l) (hi: ∀ v w,V v->V w->r v=r w->v=w) {t u:P3} (ht:t∈l) (hu:u∈l) (e:zDo r t=zDo r u):t=u:=by
 have vt: ∀ {t:P3},t∈l->V t.1/\V t.2.1/\V t.2.2:=fun {t} ht=>⟨h.ent t ht _ (.inl rfl),h.ent t ht _ (.inr (.inl rfl)),h.ent t ht _ (.inr (.inr rfl))⟩;have e1:=congrArg Prod.fst e;have e2:=congrArg (fun p=>p.2.1) e;have e3:=congrArg (fun p=>p.2.2) e;exact Prod.ext (hi _ _ (vt ht).1 (vt hu).1 e1) (Prod.ext (hi _ _ (vt ht).2.1 (vt hu).2.1 e2) (hi _ _ (vt ht).2.2 (vt hu).2.2 e3))
theorem zYO (h:jV V l) (hi: ∀ v w,V v->V w->r v=r w->v=w) {v:Int} (hv:V v) (k:z20 l v):z20 (l.map (zDo r)) (r v):=fun w' hw' ⟨t',ht',t1,t2⟩=>by
 obtain ⟨t,ht,rfl⟩:=yC.1 ht';obtain ⟨w,hw,rfl⟩:=zAm.1 t2;rw [zWH h hi hv (h.ent t ht w hw)];exact k w (fun e=>hw' (by rw [e])) ⟨t,ht,(zEG h hi ht hv).1 t1,hw⟩
theorem z0J (h:jV V l) (hi: ∀ v w,V v->V w->r v=r w->v=w) (k:zBN l c d):zBN (l.map (zDo r)) (r c) (r d):=by
 obtain ⟨t0,h0,t0c,t0d⟩:=k.near;have hc:=h.ent t0 h0 c t0c;have hd:=h.ent t0 h0 d t0d;have H: ∀ {t:P3} {v:Int},t∈l->V v->(z8 (zDo r t) (r v)↔z8 t v):=fun ht hv=>zEG h hi ht hv;refine ⟨fun e=>k.ne (hi c d hc hd e),⟨_,yC.2 ⟨t0,h0,rfl⟩,(H h0 hc).2 t0c,(H h0 hd).2 t0d⟩,fun h2=> ?_,fun v' vc vd ⟨t',ht',t1,t2⟩ ⟨u',hu',u1,u2⟩=> ?_,?_,?_⟩
 ·rw [zWH h hi hc hd] at h2;rcases k.brd h2 with e|e
  ·exact .inl (zYO h hi hc e)
  ·exact .inr (zYO h hi hd e)
 ·obtain ⟨t,ht,rfl⟩:=yC.1 ht';obtain ⟨u,hu,rfl⟩:=yC.1 hu';obtain ⟨v,hv,rfl⟩:=zAm.1 t2;have hvV:=h.ent t ht v hv;obtain ⟨s,hs,s1,s2,s3⟩:=k.com v (fun e=>vc (by rw [e])) (fun e=>vd (by rw [e])) ⟨t,ht,(H ht hc).1 t1,hv⟩ ⟨u,hu,(H hu hd).1 u1,(H hu hvV).1 u2⟩;exact ⟨_,yC.2 ⟨s,hs,rfl⟩,(H hs hc).2 s1,(H hs hd).2 s2,(H hs hvV).2 s3⟩
 ·rintro ⟨t',ht',tc,hno⟩;obtain ⟨t,ht,rfl⟩:=yC.1 ht';refine k.one ⟨t,ht,(H ht hc).1 tc,fun u hu hne p q hpq tp tq up uq=> ?_⟩;have hp:=h.ent t ht p tp;have hq:=h.ent t ht q tq;exact hno (zDo r u) (yC.2 ⟨u,hu,rfl⟩) (fun e=>hne (zWW h hi hu ht e)) (r p) (r q) (fun e=>hpq (hi p q hp hq e)) ((H ht hp).2 tp) ((H ht hq).2 tq) ((H hu hp).2 up) ((H hu hq).2 uq)
 ·rintro ⟨p',q',r',cp,cq,cr,pq,pr,qr,⟨t1',h1',a1,a2,a3⟩,⟨t2',h2',b1,b2,b3⟩,⟨t3',h3',c1,c2,c3⟩,⟨t4',h4',d1,d2,d3⟩⟩;obtain ⟨t1,h1,rfl⟩:=yC.1 h1';obtain ⟨t2,h2,rfl⟩:=yC.1 h2';obtain ⟨t3,h3,rfl⟩:=yC.1 h3';obtain ⟨t4,h4,rfl⟩:=yC.1 h4';obtain ⟨p,p1,rfl⟩:=zAm.1 a2;obtain ⟨q,q1,rfl⟩:=zAm.1 a3;obtain ⟨s,s1,rfl⟩:=zAm.1 b3;have hp:=h.ent t1 h1 p p1;have hq:=h.ent t1 h1 q q1;have hs:=h.ent t2 h2 s s1
  exact k.tet ⟨p,q,s,fun e=>cp (by rw [e]),fun e=>cq (by rw [e]),fun e=>cr (by rw [e]),fun e=>pq (by rw [e]),fun e=>pr (by rw [e]),fun e=>qr (by rw [e]),
   ⟨t1,h1,(H h1 hc).1 a1,p1,q1⟩,⟨t2,h2,(H h2 hc).1 b1,(H h2 hp).1 b2,s1⟩,⟨t3,h3,(H h3 hc).1 c1,(H h3 hq).1 c2,(H h3 hs).1 c3⟩,⟨t4,h4,(H h4 hp).1 d1,(H h4 hq).1 d2,(H h4 hs).1 d3⟩⟩
theorem zYE (h:jV V l) (hi: ∀ v w,V v->V w->r v=r w->v=w) (ha:V a) (hb:V b) (hc:V c) (hd:V d) (k:zAS l a b c d):zAS (l.map (zDo r)) (r a) (r b) (r c) (r d):=fun t' ht' k1 k2=>by
 obtain ⟨t,ht,rfl⟩:=yC.1 ht';rw [zEG h hi ht ha,zEG h hi ht hb] at k1;rw [zEG h hi ht hc,zEG h hi ht hd] at k2;exact k t ht k1 k2
end
end S1
namespace S1
def zZv (s:Int×List P3) (a b:Int):Int×List P3:=(s.1 - 1,(zIZ a b s.2).map (zDo (dn a)))
theorem zRU {a v w:Int} (hv:v≠a) (hw:w≠a) (e:dn a v=dn a w):v=w:=by
 unfold dn at e;split at e<;>split at e<;>omega
section
variable {s:Int×List P3} {a b c d:Int}
theorem zEm (hs:zBK s) (k:zBN s.2 a b):zDV (zAa s) a b=0/\zT1 s.2 a b:=by
 obtain ⟨_,g,e⟩:=zAu hs;have hm:jV (InN (zAa s).1.1) (zAa s).1.2:=zAc (s:=(zAa s).1) (by rw [e];exact hs);have hw:zDV (zAa s) a b=0:=(zKH g hm).2 (by rw [e];exact k);have:=zPy g hm hw;rw [e] at this;exact ⟨hw,this⟩
theorem zWj (hs:zBK s) (k:zBN s.2 a b):zBK (zZv s a b):=by
 obtain ⟨_,g,e⟩:=zAu hs;have:=zOM g (by rw [e];exact hs) (zEm hs k).1;rw [e] at this;exact this
theorem zCW (hs:zBK s) (k:zBN s.2 a b):InN s.1 a/\InN s.1 b:=by
 obtain ⟨t,ht,ta,tb⟩:=k.near;exact ⟨(zAc hs).ent t ht a ta,(zAc hs).ent t ht b tb⟩
theorem zD1 (k:zBN s.2 c d) (ap:zAS s.2 a b c d):(c≠a/\c≠b)/\d≠a/\d≠b:=by
 obtain ⟨t,ht,tc,td⟩:=k.near;exact ⟨⟨fun e=>ap t ht (.inl (by rw [<- e];exact tc)) (.inl tc),fun e=>ap t ht (.inr (by rw [<- e];exact tc)) (.inl tc)⟩,fun e=>ap t ht (.inl (by rw [<- e];exact td)) (.inl tc),fun e=>ap t ht (.inr (by rw [<- e];exact td)) (.inl tc)⟩
theorem zTm (hs:zBK s) (k:zBN s.2 a b) (k2:zBN s.2 c d) (ap:zAS s.2 a b c d):zBN (zZv s a b).2 (dn a c) (dn a d):=by
 have hm:=zAc hs;have f:=(zEm hs k).2;have hi:=zCW hs k;exact z0J (zHx hm f hi.1 hi.2) (fun v w hv hw e=>zRU hv.2 hw.2 e) (z0a hm hi.1 hi.2 f k2 ap)
theorem zSz {p q:Int} (hs:zBK s) (k:zBN s.2 a b) (k2:zBN s.2 c d) (k3:zBN s.2 p q) (ap:zAS s.2 a b c d) (ap2:zAS s.2 a b p q) (ap3:zAS s.2 c d p q):zAS (zZv s a b).2 (dn a c) (dn a d) (dn a p) (dn a q):=by
 have hm:=zAc hs;have f:=(zEm hs k).2;have hi:=zCW hs k;have i2:=zCW hs k2;have i3:=zCW hs k3;have n2:=zD1 k2 ap;have n3:=zD1 k3 ap2;exact zYE (zHx hm f hi.1 hi.2) (fun v w hv hw e=>zRU hv.2 hw.2 e) ⟨i2.1,n2.1.1⟩ ⟨i2.2,n2.2.1⟩ ⟨i3.1,n3.1.1⟩ ⟨i3.2,n3.2.1⟩ (zXo f ap ap3 k2.near)
end
end S1
namespace S1
structure zFG (s:Int×List P3) (l:List (Int×Int)):Prop where
 surf:zBK s
 free: ∀ e∈l,zBN s.2 e.1 e.2
 apart:l.Pairwise fun e f=>zAS s.2 e.1 e.2 f.1 f.2
def dn2 (a:Int) (e:Int×Int):Int×Int:=(dn a e.1,dn a e.2)
theorem zXK {s:Int×List P3} {a b:Int} {r:List (Int×Int)} (h:zFG s ((a,b)::r)):zFG (zZv s a b) (r.map (dn2 a)):=by
 have k:zBN s.2 a b:=h.free (a,b) (zY ..);obtain ⟨p1,p2⟩:=List.pairwise_cons.1 h.apart;refine ⟨zWj h.surf k,fun e he=> ?_,?_⟩
 ·obtain ⟨f,hf,rfl⟩:=yC.1 he;exact zTm h.surf k (h.free f (zQ _ hf)) (p1 f hf)
 ·refine List.Pairwise.map _ (fun e f hh=> ?_) (p2.imp_of_mem (S:=fun e f=>zAS s.2 e.1 e.2 f.1 f.2/\e∈r/\f∈r) fun he hf hh=>⟨hh,he,hf⟩);obtain ⟨hh,he,hf⟩:=hh;exact zSz h.surf k (h.free e (zQ _ he)) (h.free f (zQ _ hf)) (p1 e he) (p1 f hf) hh
end S1
namespace S1
def zJJ (x:yI.T) (e:Int×Int):Prop:=bE x e.1 e.2\/bE x e.2 e.1
section
variable {x:yI.T}
theorem zMu (g:Full x) {w u:Int} (h:bE x w u): ∃ t∈x.1.2,z8 t w/\z8 t u:=by
 obtain ⟨h1,_⟩:=(zHJ g).1 h;obtain ⟨t,ht,hd⟩:=zDh.1 h1;exact ⟨t,ht,jN hd⟩
theorem z6l (g:Full x) {w u:Int} (h:bE x w u): ¬ bE x u w:=fun k=>((zHJ g).1 h).2 ((zHJ g).1 k).1
theorem z2Y {t:P3} {a b:Int} (hab:a≠b) (ha:z8 t a) (hb:z8 t b):dE t a b\/dE t b a:=by
 obtain ⟨x,y,z⟩:=t;simp only [z8,dE] at *;rcases ha with h|h|h<;>rcases hb with k|k|k<;>(subst h;subst k;simp at *)
theorem zK0 (g:Full x) (hs:jV (InN x.1.1) x.1.2) {w u:Int} (h:bE x w u) {t t':P3} (ht:t∈x.1.2) (ht':t'∈x.1.2) (a:z8 t w/\z8 t u) (b:z8 t' w/\z8 t' u):t=t':=by
 have hne:=(zJf g h).2.2;have hno:=((zHJ g).1 h).2;have d1:dE t w u:=(z2Y hne a.1 a.2).resolve_right fun k=>hno (zDh.2 ⟨t,ht,k⟩);have d2:dE t' w u:=(z2Y hne b.1 b.2).resolve_right fun k=>hno (zDh.2 ⟨t',ht',k⟩);apply yF;intro e;exact hs.dif t ht t' ht' e w u d1 d2
noncomputable def zGg (x:yI.T) (e:Int×Int):Int:= @ite _ (bE x e.2 e.1) (Classical.propDecidable _) e.2 e.1
noncomputable def zN4 (x:yI.T) (e:Int×Int):Int:= @ite _ (bE x e.2 e.1) (Classical.propDecidable _) e.1 e.2
theorem zOH {e:Int×Int} (h:zJJ x e):bE x (zGg x e) (zN4 x e)/\(zGg x e=e.1/\zN4 x e=e.2\/zGg x e=e.2/\zN4 x e=e.1):=by
 unfold zGg zN4
 by_cases k:bE x e.2 e.1
 ·rw [if_pos k,if_pos k];exact ⟨k,.inr ⟨rfl,rfl⟩⟩
 ·rw [if_neg k,if_neg k];exact ⟨h.resolve_right k,.inl ⟨rfl,rfl⟩⟩
noncomputable def zOP (x:yI.T) (e:Int×Int):List Int:=[zN4 x e,zGg x e,nx x (zGg x e)]
theorem zME (g:Full x) {e:Int×Int} (h:zJJ x e):bE x (nx x (zGg x e)) (zGg x e)/\(zOP x e).Nodup:=by
 obtain ⟨h1,_⟩:=zOH h;obtain ⟨z,hz⟩:=zCo g h1;have e1:nx x (zGg x e)=z:=zDd g hz;unfold zOP;rw [e1];refine ⟨hz,?_⟩;have n1:=(zJf g h1).2.2;have n2:=(zJf g hz).2.2;have n3:z≠zN4 x e:=fun k=>by subst k;exact z6l g h1 hz
 simp only [zbG,zT,zbe,or_false,not_or,not_false_eq_true,zbS,and_true];exact ⟨⟨n1.symm,n3.symm⟩,n2.symm⟩
theorem zVZ (g:Full x) {L:List Int} (hL:zCA x L) {e:Int×Int} (h:zJJ x e) (hm:e.1∈L): ∀ v∈zOP x e,v∈L:=by
 obtain ⟨h1,h2⟩:=zOH h
 have hP:zN4 x e∈L/\zGg x e∈L:=by
  rcases h2 with ⟨a,b⟩|⟨a,b⟩
  ·-- what comes behind zN4 is zGg: go round
   rw [a];refine ⟨?_,hm⟩;obtain ⟨i,hi,e0⟩:=zLa hm;obtain ⟨j,hj⟩: ∃ j,j=(i+(L.length - 1)) % L.length:=⟨_,rfl⟩;have hjl:j<L.length:=by rw [hj];exact Nat.mod_lt _ hL.ne
   have hji:(j+1) % L.length=i:=by
    rw [hj,Nat.mod_add_mod,show i+(L.length - 1)+1=i+L.length by omega,Nat.add_mod_right,Nat.mod_eq_of_lt hi]
   have hc:=hL.cyc j hjl;rw [hji,e0] at hc;rw [a] at h1;rw [zHi g h1 hc];exact jB hjl
  ·rw [b];refine ⟨hm,?_⟩;have:=hL.next g hm
   rw [b] at h1;rwa [show nx x e.1=zGg x e from zDd g h1] at this
 have hR:=hL.next g hP.2
 intro v hv;unfold zOP at hv;simp only [zT,zbe,or_false] at hv;rcases hv with e|e|e<;>rw [e]
 ·exact hP.1
 ·exact hP.2
 ·exact hR
theorem z06 (g:Full x) {e f:Int×Int} (he:zJJ x e) (hf:zJJ x f) (ke:zBN x.1.2 e.1 e.2) (kf:zBN x.1.2 f.1 f.2) (ap:zAS x.1.2 e.1 e.2 f.1 f.2): ∀ v∈zOP x e,v∉zOP x f:=by
 obtain ⟨h1,h2⟩:=zOH he;obtain ⟨k1,k2⟩:=zOH hf;obtain ⟨hr,_⟩:=zME g he;obtain ⟨kr,_⟩:=zME g hf;have ne:=zD1 kf ap
 have star1: ∀ {t:P3} {v:Int},z8 t v->(v=zN4 x e\/v=zGg x e)->z8 t e.1\/z8 t e.2:=fun h k=>by
  rcases h2 with ⟨a,b⟩|⟨a,b⟩<;>rw [a,b] at k<;>rcases k with k|k<;>subst k
  ·exact .inr h
  ·exact .inl h
  ·exact .inl h
  ·exact .inr h
 have star2: ∀ {t:P3} {v:Int},z8 t v->(v=zN4 x f\/v=zGg x f)->z8 t f.1\/z8 t f.2:=fun h k=>by
  rcases k2 with ⟨a,b⟩|⟨a,b⟩<;>rw [a,b] at k<;>rcases k with k|k<;>subst k
  ·exact .inr h
  ·exact .inl h
  ·exact .inl h
  ·exact .inr h
 have dis: ∀ v,(v=zN4 x e\/v=zGg x e)->(v=zN4 x f\/v=zGg x f)->False:=fun v a b=>by
  obtain ⟨t,ht,t1,t2⟩:=zMu g h1;rcases a with a|a
  ·exact ap t ht (star1 (v:=v) (by rw [a];exact t2) (.inl a)) (star2 (v:=v) (by rw [a];exact t2) b)
  ·exact ap t ht (star1 (v:=v) (by rw [a];exact t1) (.inr a)) (star2 (v:=v) (by rw [a];exact t1) b)
 intro v hv hw;unfold zOP at hv hw;simp only [zT,zbe,or_false] at hv hw;have hv':(v=zN4 x e\/v=zGg x e)\/v=nx x (zGg x e):=or_assoc.2 hv;have hw':(v=zN4 x f\/v=zGg x f)\/v=nx x (zGg x f):=or_assoc.2 hw;rcases hv' with a|a<;>rcases hw' with b|b
 ·exact dis v a b
 ·obtain ⟨t,ht,t1,t2⟩:=zMu g kr;exact ap t ht (star1 (v:=v) (by rw [b];exact t1) a) (star2 t2 (.inr rfl))
 ·obtain ⟨t,ht,t1,t2⟩:=zMu g hr;exact ap t ht (star1 t2 (.inr rfl)) (star2 (v:=v) (by rw [a];exact t1) b)
 ·rw [<- a] at hr;rw [<- b] at kr;have:=zHi g hr kr;exact dis _ (.inr rfl) (.inr this)
theorem z7H (g:Full x) {L:List Int} (hL:zCA x L): ∀ (D:List (Int×Int)),(∀ d∈D,zJJ x d/\zBN x.1.2 d.1 d.2/\d.1∈L)->D.Pairwise (fun e f=>zAS x.1.2 e.1 e.2 f.1 f.2)->
 ∃ T:List Int,T.Nodup/\T.length=3*D.length/\∀ v∈T,v∈L/\∃ d∈D,v∈zOP x d
 | [],_,_=>⟨[],zbS,rfl,fun v h=>by cases h⟩
 | d ::D,hd,hp=>by
   obtain ⟨p1,p2⟩:=List.pairwise_cons.1 hp;obtain ⟨T,t1,t2,t3⟩:=z7H g hL D (fun e he=>hd e (zQ _ he)) p2;obtain ⟨b1,b2,b3⟩:=hd d (zY ..);refine ⟨zOP x d++T,?_,?_,?_⟩
   ·rw [List.nodup_append];refine ⟨(zME g b1).2,t1,fun v hv w hw e=> ?_⟩;subst e;obtain ⟨_,f,hf,hvf⟩:=t3 v hw;obtain ⟨c1,c2,_⟩:=hd f (zQ _ hf);exact z06 g b1 c1 b2 c2 (p1 f hf) v hv hvf
   ·rw [zN,t2,yA];show 3+_=_;omega
   ·intro v hv;rcases yD.1 hv with h|h
    ·exact ⟨zVZ g hL b1 b3 v h,d,zY ..,h⟩
    ·obtain ⟨a,f,hf,b⟩:=t3 v h;exact ⟨a,f,zQ _ hf,b⟩
theorem zU5 (g:Full x) (hs:jV (InN x.1.1) x.1.2) {L:List Int} (hL:zCA x L) {e:Int×Int} (h:zJJ x e) (k:zBN x.1.2 e.1 e.2) (hm:e.1∈L):4<=L.length:=by
 obtain ⟨h1,h2⟩:=zOH h;obtain ⟨hr,hn⟩:=zME g h;have hin:=zVZ g hL h hm;have h3:3<=L.length:=zBx (zOP x e) L hn hin;apply yF;intro hlt;have hl:L.length=3:=by omega
 -- each vertex of the loop is one of the three
 have hall: ∀ v∈L,v∈zOP x e:=fun v hv=>by
  apply yF;intro hv2
  have:=zBx (v::zOP x e) L (zbG.2 ⟨hv2,hn⟩) fun w hw=>by
   rcases zT.1 hw with e|e
   ·rw [e];exact hv
   ·exact hin w e
  rw [hl] at this;exact absurd this (by unfold zOP;simp)
 have hz:=hall _ (hL.next g (hin _ (show nx x (zGg x e)∈zOP x e by unfold zOP;simp)));obtain ⟨z,hzz⟩:=zCo g hr;have ez:nx x (nx x (zGg x e))=z:=zDd g hzz;rw [ez] at hz
 have hp:bE x (zN4 x e) (nx x (zGg x e)):=by
  unfold zOP at hz;simp only [zT,zbe,or_false] at hz;rcases hz with e|e|e
  ·rw [<- e];exact hzz
  ·rw [e] at hzz;exact absurd hzz (z6l g hr)
  ·rw [e] at hzz;exact absurd rfl (zJf g hzz).2.2
 unfold zOP at hn;simp only [zbG,zT,zbe,or_false,not_or,not_false_eq_true,zbS,and_true] at hn;obtain ⟨t1,ht1,a1,a2⟩:=zMu g hr;obtain ⟨t2,ht2,c1,c2⟩:=zMu g hp
 -- the zH6 vertex is beside both ends
 have tri:zS3 x.1.2 e.1 e.2 (nx x (zGg x e)):=by
  rcases h2 with ⟨a,b⟩|⟨a,b⟩
  ·exact k.com _ (fun q=>hn.2 (a.trans q.symm)) (fun q=>hn.1.2 (b.trans q.symm)) ⟨t1,ht1,by rw [<- a];exact a2,a1⟩ ⟨t2,ht2,by rw [<- b];exact c1,c2⟩
  ·exact k.com _ (fun q=>hn.1.2 (b.trans q.symm)) (fun q=>hn.2 (a.trans q.symm)) ⟨t2,ht2,by rw [<- b];exact c1,c2⟩ ⟨t1,ht1,by rw [<- a];exact a2,a1⟩
 obtain ⟨t,ht,s1,s2,s3⟩:=tri
 have sP:z8 t (zN4 x e)/\z8 t (zGg x e):=by
  rcases h2 with ⟨a,b⟩|⟨a,b⟩<;>rw [a,b]
  ·exact ⟨s2,s1⟩
  ·exact ⟨s1,s2⟩
 refine k.one ⟨t,ht,s1,fun u hu hne a b hab ta tb ua ub=>hne ?_⟩
 have only: ∀ v,z8 t v->v=zN4 x e\/v=zGg x e\/v=nx x (zGg x e):=fun v hv=>by
  apply yF;intro q;rw [not_or,not_or] at q;exact four (hs.deg t ht) hn.1.1 hn.1.2 (Ne.symm q.1) hn.2 (Ne.symm q.2.1) (Ne.symm q.2.2) sP.1 sP.2 s3 hv
 rcases only a ta with e1|e1|e1<;>rcases only b tb with e2|e2|e2
 ·exact absurd (e1.trans e2.symm) hab
 ·exact zK0 g hs h1 hu ht ⟨by rw [<- e2];exact ub,by rw [<- e1];exact ua⟩ ⟨sP.2,sP.1⟩
 ·exact zK0 g hs hp hu ht ⟨by rw [<- e1];exact ua,by rw [<- e2];exact ub⟩ ⟨sP.1,s3⟩
 ·exact zK0 g hs h1 hu ht ⟨by rw [<- e1];exact ua,by rw [<- e2];exact ub⟩ ⟨sP.2,sP.1⟩
 ·exact absurd (e1.trans e2.symm) hab
 ·exact zK0 g hs hr hu ht ⟨by rw [<- e2];exact ub,by rw [<- e1];exact ua⟩ ⟨s3,sP.2⟩
 ·exact zK0 g hs hp hu ht ⟨by rw [<- e2];exact ub,by rw [<- e1];exact ua⟩ ⟨sP.1,s3⟩
 ·exact zK0 g hs hr hu ht ⟨by rw [<- e1];exact ua,by rw [<- e2];exact ub⟩ ⟨s3,sP.2⟩
 ·exact absurd (e1.trans e2.symm) hab
theorem z7b (g:Full x) (hs:jV (InN x.1.1) x.1.2) {L:List Int} (hL:zCA x L) {e:Int×Int} {D:List (Int×Int)} (he:zJJ x e) (ke:zBN x.1.2 e.1 e.2) (hm:e.1∈L)
 (hD: ∀ d∈D,zJJ x d/\zBN x.1.2 d.1 d.2/\d.1∈L) (hp:D.Pairwise (fun e f=>zAS x.1.2 e.1 e.2 f.1 f.2)) (hpe: ∀ d∈D,zAS x.1.2 d.1 d.2 e.1 e.2):D.length+4<=L.length:=by
 have h4:=zU5 g hs hL he ke hm
 obtain ⟨T,t1,t2,t3⟩:=z7H g hL (e::D) (fun d hd=>by
  rcases zT.1 hd with k|k
  ·rw [k];exact ⟨he,ke,hm⟩
  ·exact hD d k) (List.pairwise_cons.2 ⟨fun d hd t ht a b=>hpe d hd t ht b a,hp⟩)
 have:=zBx T L t1 fun v hv=>(t3 v hv).1;rw [t2,yA] at this;omega
end
end S1
namespace S1
def zHO (x:yI.T) (e:Int×Int) (n:Int):Prop:= ∃ j:Nat,j<x.1.2.length/\n=j/\(z8 (tg x.1.2 j) e.1\/z8 (tg x.1.2 j) e.2)
theorem zXH (m:ReM) (l:List Int):zYy m l=(l.map fun c=>c.tdiv 3).foldl (fun m u=>zAB (.int .i64) m u true) m:=by
 unfold zYy;rw [List.foldl_map]
theorem zOR: ∀ (m:ReM) (k:Int),(∀ p∈m,p.2=true)->∀ p∈zAB (.int .i64) m k true,p.2=true
 | [],k,_,p,hp=>by
   have:p∈[((k,true):(ETy.int .i64).T×Bool)]:=hp;rw [zF.1 this]
 | (a,b)::r,k,h,p,hp=>by
   unfold zAB at hp;split at hp
   ·rcases zT.1 hp with e|e
    ·rw [e]
    ·exact h p (zQ _ e)
   ·rcases zT.1 hp with e|e
    ·rw [e];exact h (a,b) (zY ..)
    ·exact zOR r k (fun q hq=>h q (zQ _ hq)) p e
theorem zO5: ∀ (l:List Int) (m:ReM),(∀ p∈m,p.2=true)->∀ p∈l.foldl (fun m u=>zAB (.int .i64) m u true) m,p.2=true
 | [],_,h=>h
 | a::r,m,h=>zO5 r _ (zOR m a h)
theorem z4O {m:ReM} (h: ∀ p∈m,p.2=true) {n:Int} :had m n=true↔n∈zE3 m:=by
 refine ⟨zQU,?_⟩
 induction m with
 | nil=>intro k;cases k
 | cons p r ih =>
   obtain ⟨a,b⟩:=p;intro k;have hb:b=true:=h (a,b) (zY ..);subst hb
   by_cases e:a=n
   ·subst e;show (jS (.int .i64) ((a,true)::r) a).getD false=true;unfold jS;split
    ·rfl
    ·rename_i h0 _;exact absurd rfl h0
   ·have:had r n=true:=ih (fun q hq=>h q (zQ _ hq)) ((zT.1 k).resolve_left (fun q=>e q.symm));show (jS (.int .i64) ((a,true)::r) n).getD false=true;unfold jS;split
    ·rfl
    ·exact this
theorem zRk (x:yI.T) (e:Int×Int):zCt x e=((yU (some x) e.1++yU (some x) e.2).map fun c=>c.tdiv 3).foldl (fun m u=>zAB (.int .i64) m u true) []:=by
 show zYy (zYy [] (yU (some x) e.1)) (yU (some x) e.2)=_;rw [zXH,zXH,zbo,zbm]
theorem zS7 (x:yI.T) (e:Int×Int): ∀ p∈zCt x e,p.2=true:=by
 rw [zRk];exact zO5 _ _ fun p h=>by cases h
section
variable {x:yI.T}
theorem zN9 (g:Full x) {v n:Int} :(∃ c∈yU (some x) v,c.tdiv 3=n)↔∃ j:Nat,j<x.1.2.length/\n=j/\z8 (tg x.1.2 j) v:=by
 constructor
 ·rintro ⟨c,hc,rfl⟩
  have hv:0<=v/\v<x.1.1:=by
   apply yF;intro k
   have:zBR x v=false:=by
    rw [<- zbV,zJK];exact fun q=>k ⟨q.1,q.2.1⟩
   have hc:c∈(if zBR x v then _ else _:List Int):=hc;rw [this] at hc;cases hc
  obtain ⟨b,_,_,_,_,_,hall,_⟩:=g.around hv.1 hv.2;obtain ⟨h1,h2⟩:=hall c hc;obtain ⟨k1,k2⟩:=zAw h1;have h0:=(yH.1 h1).1;rw [h2] at k2;exact ⟨(c / 3).toNat,k1,by rw [Int.tdiv_eq_ediv_of_nonneg h0];omega,k2⟩
 ·rintro ⟨j,hj,rfl,hv⟩;obtain ⟨c,h1,h2,h3⟩:=zJ7 hj hv;have h0:=(yH.1 h1).1;refine ⟨c,by rw [<- h3];exact g.around_all h1,?_⟩;rw [Int.tdiv_eq_ediv_of_nonneg h0];omega
theorem zMd (g:Full x) {e:Int×Int} {n:Int} :had (zCt x e) n=true↔zHO x e n:=by
 rw [zRk,zLM];have e0:had [] n=true↔False:=⟨fun h=>(by cases h),False.elim⟩;rw [e0,false_or,zbo,yD,yC,yC,zN9 g,zN9 g];constructor
 ·rintro (⟨j,a,b,c⟩|⟨j,a,b,c⟩)
  ·exact ⟨j,a,b,.inl c⟩
  ·exact ⟨j,a,b,.inr c⟩
 ·rintro ⟨j,a,b,c|c⟩
  ·exact .inl ⟨j,a,b,c⟩
  ·exact .inr ⟨j,a,b,c⟩
theorem zFt (g:Full x) {e:Int×Int} {n:Int} :n∈zE3 (zCt x e)↔zHO x e n:=by
 rw [<- z4O (zS7 x e),zMd g]
theorem zW3 (g:Full x) {e f:Int×Int} :zKk (zCt x e) (zCt x f)=true↔zAS x.1.2 e.1 e.2 f.1 f.2:=by
 unfold zKk;rw [zJ];constructor
 ·intro h t ht a b;obtain ⟨j,hj,rfl⟩:=zAO ht;obtain ⟨p,hp,e1⟩:=yC.1 ((zFt g).2 (⟨j,hj,rfl,a⟩:zHO x e j));have:=h p hp;rw [e1,(zMd g).2 (⟨j,hj,rfl,b⟩:zHO x f j)] at this;cases this
 ·intro h p hp;obtain ⟨j,hj,e1,a⟩:=(zFt g).1 (yC.2 ⟨p,hp,rfl⟩);cases e2:had (zCt x f) p.1 with
  | false=>rfl
  | true =>
    obtain ⟨i,hi,e3,b⟩:=(zMd g).1 e2;have:i=j:=by omega
    subst this;exact (h _ (qI hi) a b).elim
end
def apT (l:List P3) (e f:Int×Int):Bool:=l.all fun t=> !(decide (z8 t e.1\/z8 t e.2)&&decide (z8 t f.1\/z8 t f.2))
theorem zPn {l:List P3} {e f:Int×Int} :apT l e f=true↔zAS l e.1 e.2 f.1 f.2:=by
 unfold apT zAS;rw [zJ];refine forall_congr' fun t=>forall_congr' fun ht=> ?_;rw [zbB,Bool.and_eq_false_iff,yM,yM];constructor
 ·rintro (h|h) a b
  ·exact h a
  ·exact h b
 ·intro h
  by_cases a:z8 t e.1\/z8 t e.2
  ·exact .inr (h a)
  ·exact .inl a
def okE (x:yI.T) (C:List (Int×Int)) (e:Int×Int):Bool:=decide (zDV x e.1 e.2=0)&&C.all fun c=>apT x.1.2 c e
def chK (x:yI.T) (l:List (Int×Int)):Nat->List (Int×Int)
 | 0=>[]
 | k+1=>if okE x (chK x l k) (l.getD k (0,0))=true then chK x l k++[l.getD k (0,0)] else chK x l k
def zAh (x:yI.T) (l:List (Int×Int)):List (Int×Int):=chK x l l.length
theorem zNJ {x:yI.T} {l:List (Int×Int)} {k:Nat} (h:okE x (chK x l k) (l.getD k (0,0))=true):chK x l (k+1)=chK x l k++[l.getD k (0,0)]:=if_pos h
theorem zZW {x:yI.T} {l:List (Int×Int)} {k:Nat} (h: ¬ okE x (chK x l k) (l.getD k (0,0))=true):chK x l (k+1)=chK x l k:=if_neg h
theorem zM1 (x:yI.T) (l:List (Int×Int)): ∀ k,(chK x l k).length<=k
 | 0=>zI _
 | k+1=>by
   have:=zM1 x l k;unfold chK;split
   ·rw [zN,List.length_singleton];omega
   ·omega
theorem zJH {x:yI.T} (g:Full x) (hs:jV (InN x.1.1) x.1.2) {C:List (Int×Int)} {e:Int×Int} :okE x C e=true↔zBN x.1.2 e.1 e.2/\∀ c∈C,zAS x.1.2 c.1 c.2 e.1 e.2:=by
 unfold okE;rw [zC,zP,zKH g hs,zJ];exact and_congr_right fun _=>forall_congr' fun c=>forall_congr' fun _=>zPn
structure z6A (x:yI.T) (C:List (Int×Int)):Prop where
 free: ∀ e∈C,zBN x.1.2 e.1 e.2
 apart:C.Pairwise fun e f=>zAS x.1.2 e.1 e.2 f.1 f.2
theorem z6A.snoc {x:yI.T} {C:List (Int×Int)} {e:Int×Int} (h:z6A x C) (k:zBN x.1.2 e.1 e.2) (ka: ∀ c∈C,zAS x.1.2 c.1 c.2 e.1 e.2):z6A x (C++[e]) :=
 ⟨fun f hf=>(yD.1 hf).elim (h.free f) fun q=>by rw [zF.1 q];exact k,
   List.pairwise_append.2 ⟨h.apart,List.pairwise_singleton _ _,fun c hc d hd=>by rw [zF.1 hd];exact ka c hc⟩⟩
theorem zLL {x:yI.T} (g:Full x) (hs:jV (InN x.1.1) x.1.2) (l:List (Int×Int)): ∀ k,z6A x (chK x l k)
 | 0=>⟨fun e h=>(by cases h),List.Pairwise.nil⟩
 | k +1=>by
   have ih:=zLL g hs l k
   by_cases h:okE x (chK x l k) (l.getD k (0,0))=true
   ·rw [zNJ h];obtain ⟨h1,h2⟩:=(zJH g hs).1 h;exact ih.snoc h1 h2
   ·rw [zZW h];exact ih
theorem zVS {x:yI.T} (g:Full x) (hs:jV (InN x.1.1) x.1.2) {l:List (Int×Int)} (h:z6A x l): ∀ k,k<=l.length->chK x l k=l.take k
 | 0,_=>rfl
 | k +1,hk=>by
   have ih:=zVS g hs h k (by omega)
   have e:l.take (k+1)=l.take k++[l.getD k (0,0)]:=by
    rw [yB (by omega),zR,zG (by omega)];rfl
   rw [zNJ,ih,e];rw [ih,zJH g hs]
   have hm:l.getD k (0,0)∈l:=by
    rw [zR,zG (by omega)];exact yQ _
   refine ⟨h.free _ hm,fun c hc=> ?_⟩;have hp:=h.apart;rw [<- jE (k+1) l,e] at hp;have:=(List.pairwise_append.1 ((List.pairwise_append.1 hp).1)).2.2 c hc _ (zF.2 rfl);exact this
theorem zQM {x:yI.T} (g:Full x) (hs:jV (InN x.1.1) x.1.2) {l:List (Int×Int)} :(zAh x l).length=l.length↔z6A x l:=by
 constructor
 ·intro h
  have key: ∀ k,k<=l.length->(chK x l k).length=k->chK x l k=l.take k:=fun k=>by
   induction k with
   | zero=>exact fun _ _=>rfl
   | succ k ih =>
     intro hk he;have hl:=zM1 x l k
     by_cases c:okE x (chK x l k) (l.getD k (0,0))=true
     ·rw [zNJ c] at he ⊢;rw [zN,List.length_singleton] at he;rw [ih (by omega) (by omega),yB (by omega),zR,zG (by omega)];rfl
     ·rw [zZW c] at he;omega
  have e:=key l.length (zI _) h;rw [zbK] at e;rw [<- e];exact zLL g hs l l.length
 ·intro h;unfold zAh;rw [zVS g hs h l.length (zI _),zbK]
end S1
namespace S1
def zcM (f e:Int×Int):Bool:=decide (f.1<e.1)|| (decide (f.1=e.1)&&decide (f.2<e.2))
def zcs (l:List (Int×Int)) (e:Int×Int):Nat:=(l.takeWhile fun f=>zcM f e).length
def zcW (l:List (Int×Int)) (e:Int×Int):List (Int×Int):=if zcs l e<l.length/\l.getD (zcs l e) (0,0)=e then l else l.take (zcs l e)++e::l.drop (zcs l e)
def cv (t:P3) (k:Nat):Int:=[t.1,t.2.1,t.2.2].getD k 0
def srt (a b:Int):Int×Int:=if a>b then (b,a) else (a,b)
def edT (out:List (Int×Int)) (t:P3):Nat->List (Int×Int)
 | 0=>out
 | k+1=>zcW (edT out t k) (srt (cv t k) (cv t ((k+1) % 3)))
def edS (l:List P3):Nat->List (Int×Int)
 | 0=>[]
 | i+1=>edT (edS l i) (tg l i) 3
theorem zd7 {q:Nat->Prop} {p:Nat} (h: ∀ j,j<p->q j) (k:q p): ∀ j,j<p+1->q j:=fun j hj=>by
 by_cases e:j=p
 ·rw [e];exact k
 ·exact h j (by omega)
attribute [local irreducible] edT edS zcW
end S1
namespace S1
def zdj (t:P3) (e:Int×Int):Bool:=hasB t e.1|| hasB t e.2
theorem zes (t:P3) (e:Int×Int):zAG ⟨tyL,[(51,zI7)],[]⟩ f58 [ETy.arr3.av t,ETy.arr2.av e] (fun r=>r= .s (.bool (zdj t e))):=by
 repeat' (conv=>whnf
          first|done|refine qy ?_|refine qG fun _=> ?_|refine qw (fun _=> ?_) (fun _=> ?_)|apply qt|refine qi (fun _=> ?_) (fun _=> ?_)|refine qu ?_|refine qv ?_ ?_|exact zO)
 all_goals try first|refine qz ?_|apply qz5
 all_goals try simp only [qn0,z7,zX,ETy.dflt,Int.reduceToNat,Int.reduceAdd,Int.reduceSub,Int.reduceNeg,Nat.reduceAdd,zdj] at *
 all_goals first
  | (rw [show hasB t e.1=true by assumption];rfl)
  | (rw [show hasB t e.1=false by assumption];rfl)
def zer:List AV->Option Res:=zCr .arr3 .arr2 (fun t e=>some (none,none,.s (.bool (zdj t e))))
theorem zel:qM prog 58 zer:=mkR (jD fun t e r h=>by cases h;exact fb (by exact ⟨zLs,trivial⟩) func58 fun _ _=>zes t e) func58
def apI (l:List P3) (a b:Int×Int):Bool:=zdI l a&&(zdI l b&&apT l a b)
theorem ze8 {t:P3} {e:Int×Int} :zdj t e=true↔(z8 t e.1\/z8 t e.2):=by
 unfold zdj;rw [zbA,zG2,zG2]
theorem zf6 {l:List P3} {a b:Int×Int} :apT l a b=true↔∀ t∈l,(zdj t a&&zdj t b)=false:=by
 unfold apT;rw [zJ];refine forall_congr' fun t=>imp_congr Iff.rfl ?_;rw [zbB,Bool.and_eq_false_iff,Bool.and_eq_false_iff,yM,yM,<- ze8,<- ze8,zbV,zbV]
theorem zgK {l:List P3} {a b:Int×Int} {i:Nat} (h:i<l.length) (h1:zdj (tg l i) a=true) (h2:zdj (tg l i) b=true):apT l a b=false:=by
 rw [<- zbV];intro k;have:=zf6.1 k _ (qI h);rw [h1,h2] at this;cases this
theorem zgM {l:List P3} {a b:Int×Int} (h: ∀ j,j<l.length->(zdj (tg l j) a&&zdj (tg l j) b)=false):apT l a b=true:=by
 refine zf6.2 fun t ht=> ?_;obtain ⟨i,hi,rfl⟩:=zAO ht;exact h i hi
def zfC (l:List P3) (a b:Int×Int):Spec Nat where
 inv i:=i<=l.length/\∀ j,j<i->(zdj (tg l j) a&&zdj (tg l j) b)=false
 live i:=[(7,.s (.int .i64 i))]
 keep:=[3,4,5]
 heap _:=[]
 keepH:=[0,1,2]
 mu i:=l.length - i
attribute [local irreducible] zdj zdI apT
theorem zec (n:Int) (l:List P3) (a b:Int×Int) (h:l.length<=30000):zAG ⟨tyL,[(30,zcR),(58,zer)],[]⟩ f18 [qP.av (n,l),ETy.arr2.av a,ETy.arr2.av b] (fun r=>r= .s (.bool (apI l a b))):=by
 repeat' (conv=>whnf
          first|done|refine qy ?_|refine qG fun _=> ?_|refine qw (fun _=> ?_) (fun _=> ?_)|apply qt|refine qi (fun _=> ?_) (fun _=> ?_)|(refine zaB 4 rfl (zfC l a b) (0) ?_ ?_ ?_ fun i hi=> ?_)|with_reducible refine zaA (zfC _ _ _) (i+1) ?_ ?_ ?_ ?_|refine qu ?_|refine qv ?_ ?_|exact zO)
 all_goals try first|refine qz ?_|apply qz5
 all_goals try simp only [qn0,z7,zX,ETy.dflt,Int.reduceToNat,Int.reduceAdd,Int.reduceSub,Int.reduceNeg,Nat.reduceAdd,zfC,apI] at *
 all_goals try exact yJ.intro h
 all_goals try (refine yJ.intro ?_;omega)
 all_goals try exact yJ.intro ⟨zbH _,fun j hj=>absurd hj (Nat.not_lt_zero _)⟩
 all_goals try rw [show zdI l a=false by assumption]
 all_goals try rw [show zdI l a=true by assumption]
 all_goals try rw [show zdI l b=false by assumption]
 all_goals try rw [show zdI l b=true by assumption]
 all_goals try rfl
 all_goals try
  rw [zgK (i:=i) (by omega) (by assumption) (by assumption)];rfl
 all_goals try
  refine yJ.intro ⟨by omega,zd7 hi.2 ?_⟩;rw [Bool.and_eq_false_iff]
  first
  | exact .inl (by assumption)
  | exact .inr (by assumption)
 all_goals
  rw [zgM fun j hj=>hi.2 j (by omega)];rfl
def zeA:List AV->Option Res:=zOw qP .arr2 .arr2 (fun (s:Int×List P3) a b=>some (none,some (s.2.length<=30000),.s (.bool (apI s.2 a b))))
def zdv (l:List P3) (e:Int×Int):Bool:=decide (zde l e.1=e.2)|| decide (zde l e.2=e.1)
attribute [local irreducible] zde
theorem zeU (n:Int) (l:List P3) (e:Int×Int) (h:l.length<=30000):zAG ⟨tyL,[(98,ze7)],[]⟩ f60 [qP.av (n,l),ETy.arr2.av e] (fun r=>r= .s (.bool (zdv l e))):=by
 repeat' (conv=>whnf
          first|done|refine qy ?_|refine qG fun _=> ?_|refine qw (fun _=> ?_) (fun _=> ?_)|apply qt|refine qi (fun _=> ?_) (fun _=> ?_)|refine qu ?_|refine qv ?_ ?_|exact zO)
 all_goals try first|refine qz ?_|apply qz5
 all_goals try simp only [qn0,z7,zX,ETy.dflt,Int.reduceToNat,Int.reduceAdd,Int.reduceSub,Int.reduceNeg,Nat.reduceAdd,zdv] at *
 all_goals try exact yJ.intro h
 ·rw [decide_eq_true (show zde l e.1=e.2 by assumption)];rfl
 ·rw [decide_eq_false (show ¬ zde l e.1=e.2 by assumption)];rfl
def zdk:List AV->Option Res:=zCr qP .arr2 (fun (s:Int×List P3) (e:Int×Int)=>some (none,some (s.2.length<=30000),.s (.bool (zdv s.2 e))))
theorem zdp:qM prog 60 zdk:=mkR (jD fun s e r h=>by cases h;exact fb (by exact ⟨zeB,trivial⟩) func60 fun _ h=>zeU s.1 s.2 e h) func60
theorem zdx:qM prog 18 zeA:=mkR (zDZ fun s a b r h=>by cases h;exact fb (by exact ⟨zc5,zel,trivial⟩) func18 fun _ h=>zec s.1 s.2 a b h) func18
end S1
namespace S1
def shW (l:List P3) (L:List Int) (u w:Int):List Int:=if w∈L then L else if zcV l u w=true then L++[w] else L
def shK (l:List P3) (L:List Int) (u:Int):Nat->List Int
 | 0=>L
 | w+1=>shW l (shK l L u w) u w
def shF (l:List P3) (N:Nat):Nat->Nat->List Int->List Int
 | 0,_,L=>L
 | f+1,i,L=>if i<L.length then shF l N f (i+1) (shK l L (L.getD i 0) N) else L
def shR (l:List P3) (N:Nat) (v:Int):List Int:=shF l N (N+2) 0 [v]
structure zeM (N:Nat) (v:Int) (L:List Int):Prop where
 nd:L.Nodup
 rng: ∀ u∈L,u=v\/(0<=u/\u<(N:Int))
theorem zeM.len {N:Nat} {v:Int} {L:List Int} (h:zeM N v L):L.length<=N+1:=by
 have:L.length<=(v::(List.range N).map Int.ofNat).length:=by
  refine List.Nodup.length_le_of_subset h.nd fun u hu=> ?_;rcases h.rng u hu with k|⟨k1,k2⟩
  ·rw [k];exact zY ..
  ·refine zQ _ (yC.2 ⟨u.toNat,zV.2 (by omega),?_⟩);show ((u.toNat:Nat):Int)=u;omega
 rw [yA,yV,zAD] at this;exact this
theorem zeM.w {l:List P3} {N:Nat} {v u:Int} {L:List Int} {w:Nat} (h:zeM N v L) (hw:w<N):zeM N v (shW l L u w):=by
 unfold shW;split
 ·exact h
 ·rename_i hn;split
  ·refine ⟨List.nodup_append.2 ⟨h.nd,by simp,fun a ha b hb=> ?_⟩,fun a ha=> ?_⟩
   ·rw [zF.1 hb];intro e;exact hn (e▸ha)
   ·rcases yD.1 ha with k|k
    ·exact h.rng a k
    ·rw [zF.1 k];exact .inr ⟨by omega,by omega⟩
  ·exact h
theorem zeM.k {l:List P3} {N:Nat} {v u:Int} {L:List Int} (h:zeM N v L): ∀ {w:Nat},w<=N->zeM N v (shK l L u w)
 | 0,_=>h
 | w+1,hw=>(zeM.k h (w:=w) (by omega)).w (by omega)
theorem zeM.one (N:Nat) (v:Int):zeM N v [v]:=⟨by simp,fun u hu=> .inl (zF.1 hu)⟩
theorem zeO (l:List P3) (L:List Int) (u:Int): ∀ w,∃ r,shK l L u w=L++r
 | 0=>⟨[],(zbF _).symm⟩
 | w +1=>by
   obtain ⟨r,e⟩:=zeO l L u w;show ∃ r,shW l (shK l L u w) u w=_;unfold shW;split
   ·exact ⟨r,e⟩
   ·split
    ·exact ⟨r++[(w:Int)],by rw [e,zbu]⟩
    ·exact ⟨r,e⟩
theorem ze2 {l:List P3} {L:List Int} {u:Int} {w i:Nat} (h:i<L.length):(shK l L u w).getD i 0=L.getD i 0:=by
 obtain ⟨r,e⟩:=zeO l L u w;rw [e,zR,zbD h,zR]
theorem zeW {l:List P3} {L:List Int} {u:Int} {w:Nat} :L.length<=(shK l L u w).length:=by
 obtain ⟨r,e⟩:=zeO l L u w;rw [e,zN];omega
theorem zgB {l:List P3} {N f i:Nat} {L:List Int} (h:i<L.length):shF l N (f+1) i L=shF l N f (i+1) (shK l L (L.getD i 0) N):=by
 show (if _ then _ else _)=_;rw [if_pos h]
theorem zfz {l:List P3} {N f i:Nat} {L:List Int} (h: ¬ i<L.length):shF l N f i L=L:=by
 cases f with
 | zero=>rfl
 | succ f=>show (if _ then _ else _)=_;rw [if_neg h]
theorem zfY {L:List Int} {k:Nat} {w:Int} (h:k<L.length):decide (w∈L.take (k+1))=(decide (w∈L.take k)|| (L.getD k 0==w)):=by
 rw [yB h,zR,zG h];show decide (w∈_++[L[k]])=(_|| (L[k]==w));rw [Bool.eq_iff_iff,zbA,zP,zP,yD,zF,beq_iff_eq];exact or_congr_right ⟨fun e=>e.symm,fun e=>e.symm⟩
def zeX (l:List P3) (N:Nat) (v:Int):Spec (Nat×List Int) where
 inv y:=y.1<=y.2.length/\zeM N v y.2/\y.1<=N+1/\shF l N (N+2 - y.1) y.1 y.2=shR l N v
 live y:=[(6,.s (.int .i64 y.1)),(5,.s (.own 2 0 y.2.length))]
 keep:=[2]
 heap y:=[(2,.row y8 3 y.2)]
 keepH:=[0]
 mu y:=N+1 - y.1
def zeN (l:List P3) (N:Nat) (i:Nat) (L:List Int):Spec Nat where
 inv w:=w<=N
 live w:=[(7,.s (.int .i64 w)),(5,.s (.own 2 0 (shK l L (L.getD i 0) w).length))]
 keep:=[2,6]
 heap w:=[(2,.row y8 3 (shK l L (L.getD i 0) w))]
 keepH:=[0]
 mu w:=N - w
def zeS (L:List Int) (w:Int):Spec Nat where
 inv k:=k<=L.length
 live k:=[(9,.s (.int .i64 k)),(8,.s (.bool (decide (w∈L.take k))))]
 keep:=[2,5,6,7]
 heap _:=[]
 keepH:=[0,2]
 mu k:=L.length - k
theorem zfy (l:List P3) (L:List Int) (u:Int) (w:Nat):shK l L u (w+1)=shW l (shK l L u w) u w:=rfl
attribute [local irreducible] shK shF shR zcV
theorem zed (n:Int) (l:List P3) (v:Int) (h:l.length<=30000/\0<=n/\n<=4096):zAG ⟨tyL,[(71,zce)],[]⟩ f97 [qP.av (n,l),y8.av v] (fun r=>r= .s (.sl y8 (shR l n.toNat v))):=by
 repeat' (conv=>whnf
          first|done|refine qy ?_|refine qG fun _=> ?_|refine qw (fun _=> ?_) (fun _=> ?_)|apply qt|refine qi (fun _=> ?_) (fun _=> ?_)|(refine zaB 3 rfl (zeX l n.toNat v) ((0,[v])) ?_ ?_ ?_ fun y hy=> ?_)|with_reducible refine zaA (zeX _ _ _) ((y.1+1,shK l y.2 (y.2.getD y.1 0) n.toNat)) ?_ ?_ ?_ ?_|(refine zaB 6 rfl (zeN l n.toNat y.1 y.2) (0) ?_ ?_ ?_ fun w hw=> ?_)|with_reducible refine zaA (zeN _ _ _ _) (w+1) ?_ ?_ ?_ ?_|(refine zaB 10 rfl (zeS (shK l y.2 (y.2.getD y.1 0) w) w) (0) ?_ ?_ ?_ fun k hk=> ?_)|with_reducible refine zaA (zeS _ _) (k+1) ?_ ?_ ?_ ?_|refine qu ?_|refine qv ?_ ?_|exact zO)
 all_goals try first|refine qz ?_|apply qz5
 all_goals try simp only [qn0,z7,zX,ETy.dflt,Int.reduceToNat,Int.reduceAdd,Int.reduceSub,Int.reduceNeg,Nat.reduceAdd,zeX,zeN,zeS] at *
 all_goals try exact yJ.intro h.1
 all_goals try (refine yJ.intro ?_;omega)
 all_goals try exact yJ.intro ⟨zbH _,zeM.one _ _,by omega,by unfold shR;rfl⟩
 all_goals try (unfold shK;rfl)
 all_goals try rfl
 all_goals have hyl:=hy.2.1.len
 all_goals try
  rw [zfz (by omega)] at hy;exact hy.2.2.2
 all_goals have hy1:y.1<y.2.length:=by omega
 all_goals try
  have ew:w=n.toNat:=by omega
  subst ew
  first
  | rfl
  | (refine yJ.intro ⟨?_,?_,?_,?_⟩
     ·have:=zeW (l:=l) (L:=y.2) (u:=y.2.getD y.1 0) (w:=n.toNat);omega
     ·exact hy.2.1.k (zI _)
     ·omega
     ·have e:=hy.2.2.2;rw [show n.toNat+2 - y.1=(n.toNat+2 - (y.1+1))+1 by omega,zgB hy1] at e
      exact e)
 all_goals try (refine yJ.intro ?_;omega)
 all_goals have hkl:=(hy.2.1.k (l:=l) (u:=y.2.getD y.1 0) hw).len
 all_goals try (refine yJ.intro ?_;omega)
 all_goals have hs:=zfy l y.2 (y.2.getD y.1 0) w
 all_goals have hg:=ze2 (l:=l) (u:=y.2.getD y.1 0) (w:=w) hy1
 all_goals have hll:=zeW (l:=l) (L:=y.2) (u:=y.2.getD y.1 0) (w:=w)
 all_goals generalize hL:shK l y.2 (y.2.getD y.1 0) w=L at *
 all_goals try
  rw [zfY (by omega)]
  first
  | (rw [decide_eq_true (show ((w:Nat):Int)∈L.take k by assumption)];rfl)
  | (rw [decide_eq_false (show ¬ ((w:Nat):Int)∈L.take k by assumption)];rfl)
 all_goals
  have ek:k=L.length:=by omega
  subst ek;rw [zbK] at *
  first
  | (refine yJ.intro ?_;omega)
  | (rw [hs]
     unfold shW
     first
     | (rw [if_pos (by assumption)];done)
     | (rw [if_neg (by assumption),<- hg]
        first
        | (rw [if_pos (by assumption)];done)
        | (rw [if_pos (by assumption),zN];rfl)
        | (rw [if_neg (by rw [show zcV l (L.getD y.1 0) w=false by assumption];decide)])))
def zeD:List AV->Option Res:=zCr qP y8 (fun (s:Int×List P3) (v:Int)=>some (none,some (s.2.length<=30000/\0<=s.1/\s.1<=4096),.s (.sl y8 (shR s.2 s.1.toNat v))))
theorem zee:qM prog 97 zeD:=mkR (jD fun s v r h=>by cases h;exact fb (by exact ⟨zc9,trivial⟩) func97 fun _ h=>zed s.1 s.2 v h) func97
end S1
namespace S1
def isE (e:Int×Int) (x y:Int):Bool:=decide (e=(x,y))|| decide (e=(y,x))
theorem zdn {e:Int×Int} {x y:Int} :isE e x y=true↔(e.1=x/\e.2=y)\/(e.1=y/\e.2=x):=by
 unfold isE;rw [zbA,zP,zP];constructor
 ·rintro (k|k)
  ·exact .inl ⟨congrArg Prod.fst k,congrArg Prod.snd k⟩
  ·exact .inr ⟨congrArg Prod.fst k,congrArg Prod.snd k⟩
 ·rintro (k|k)
  ·exact .inl (Prod.ext k.1 k.2)
  ·exact .inr (Prod.ext k.1 k.2)
def zdz (es:List (Int×Int)) (x y:Int):Nat->Nat
 | 0=>0
 | k+1=>zdz es x y k+if isE (es.getD k (0,0)) x y=true then 1 else 0
theorem zfN (es:List (Int×Int)) (x y:Int) (k:Nat):zdz es x y (k+1)=zdz es x y k+if isE (es.getD k (0,0)) x y=true then 1 else 0:=rfl
theorem zeY (es:List (Int×Int)) (x y:Int): ∀ k,zdz es x y k<=k
 | 0=>zI _
 | k+1=>by
   have:=zeY es x y k;rw [zfN];split<;>omega
def lpF (l:List P3) (v:Int) (es:List (Int×Int)):Nat->Int->Nat->Nat->Nat×Nat
 | 0,_,n,o=>(n,o)
 | f+1,x,n,o=>if zde l x=v then (n+1,o+zdz es x (zde l x) es.length) else lpF l v es f (zde l x) (n+1) (o+zdz es x (zde l x) es.length)
def ze1 (l:List P3) (N:Nat) (v:Int) (es:List (Int×Int)):Nat×Nat:=lpF l v es N v 0 0
theorem zfj {l:List P3} {v:Int} {es:List (Int×Int)} {f:Nat} {x:Int} {n o:Nat} (h:zde l x=v):lpF l v es (f+1) x n o=(n+1,o+zdz es x (zde l x) es.length):=by
 show (if _ then _ else _)=_;rw [if_pos h]
theorem zfo {l:List P3} {v:Int} {es:List (Int×Int)} {f:Nat} {x:Int} {n o:Nat} (h: ¬ zde l x=v):lpF l v es (f+1) x n o=lpF l v es f (zde l x) (n+1) (o+zdz es x (zde l x) es.length):=by
 show (if _ then _ else _)=_;rw [if_neg h]
def zfI (l:List P3) (N:Nat) (v:Int) (es:List (Int×Int)):Spec (Nat×Int×Nat) where
 inv y:=y.1<=N/\y.2.2<=100000*y.1/\lpF l v es (N - y.1) y.2.1 y.1 y.2.2=ze1 l N v es
 live y:=[(11,.s (.int .i64 y.1)),(10,.s (.int .i64 y.2.1)),(9,.s (.int .i64 y.2.2)),(8,.s (.int .i64 y.1))]
 keep:=[1,2,3]
 heap _:=[]
 keepH:=[0]
 mu y:=N - y.1
def zfK (es:List (Int×Int)) (x y:Int) (o:Nat):Spec Nat where
 inv k:=k<=es.length
 live k:=[(13,.s (.int .i64 k)),(9,.s (.int .i64 (o+zdz es x y k:Nat)))]
 keep:=[1,2,3,8,10,11,12]
 heap _:=[]
 keepH:=[0]
 mu k:=es.length - k
attribute [local irreducible] zdz lpF zde isE
theorem zfG (n:Int) (l:List P3) (v:Int) (es:List (Int×Int)) (h:l.length<=30000/\0<=n/\n<=4096/\es.length<=100000):zAG ⟨tyL,[(98,ze7)],[]⟩ f61 [qP.av (n,l),y8.av v,(ETy.sl .arr2).av es] (fun r=>r= .tup [.s (.int .i64 (ze1 l n.toNat v es).1),.s (.int .i64 (ze1 l n.toNat v es).2)]):=by
 repeat' (conv=>whnf
          first|done|refine qy ?_|refine qG fun _=> ?_|refine qw (fun _=> ?_) (fun _=> ?_)|apply qt|refine qi (fun _=> ?_) (fun _=> ?_)|(refine zaB 4 rfl (zfI l n.toNat v es) ((0,v,0)) ?_ ?_ ?_ fun y hy=> ?_)|with_reducible refine zaA (zfI _ _ _ _) ((y.1+1,zde l y.2.1,y.2.2+zdz es y.2.1 (zde l y.2.1) es.length)) ?_ ?_ ?_ ?_|(refine zaB 9 rfl (zfK es y.2.1 (zde l y.2.1) y.2.2) (0) ?_ ?_ ?_ fun k hk=> ?_)|with_reducible refine zaA (zfK _ _ _ _) (k+1) ?_ ?_ ?_ ?_|refine qu ?_|refine qv ?_ ?_|exact zO)
 all_goals try first|refine qz ?_|apply qz5
 all_goals try simp only [qn0,z7,zX,ETy.dflt,Int.reduceToNat,Int.reduceAdd,Int.reduceSub,Int.reduceNeg,Nat.reduceAdd,zfI,zfK] at *
 all_goals try exact yJ.intro h.1
 all_goals try (refine yJ.intro ?_;omega)
 all_goals try exact yJ.intro ⟨zbH _,zbH _,by unfold ze1;rfl⟩
 all_goals try (unfold zdz;rfl)
 all_goals try rfl
 all_goals try
  have e0:y.1=n.toNat:=by omega
  have e:=hy.2.2;rw [e0,zdl] at e;rw [<- e,<- e0];unfold lpF;exact y9.intro rfl
 all_goals have hi1:y.1<n.toNat:=by omega
 all_goals have hc:=zeY es y.2.1 (zde l y.2.1) k
 all_goals try (refine yJ.intro ?_;omega)
 all_goals have e:=hy.2.2
 all_goals rw [show n.toNat - y.1=(n.toNat - (y.1+1))+1 by omega] at e
 all_goals try
  have ek:k=es.length:=by omega
  subst ek
  first
  | rfl
  | (rw [zfj (by assumption)] at e
     rw [<- e]
     exact y9.intro rfl)
  | (rw [zfo (by assumption)] at e
     exact yJ.intro ⟨by omega,by omega,e⟩)
 all_goals have hk1:k<es.length:=by omega
 all_goals try (refine yJ.intro ?_;simp only [yP];omega)
 all_goals rw [zfN]
 all_goals first
  | (rw [if_pos (zdn.2 (.inl ⟨by assumption,by assumption⟩))];omega)
  | (rw [if_pos (zdn.2 (.inr ⟨by assumption,by assumption⟩))];omega)
  | (rw [if_neg (fun q=>(zdn.1 q).elim (fun z=>by first|exact absurd z.1 (by assumption)|exact absurd z.2 (by assumption)) (fun z=>by first|exact absurd z.1 (by assumption)|exact absurd z.2 (by assumption)))];omega)
def zeq:List AV->Option Res:=zOw qP y8 (.sl .arr2) (fun (s:Int×List P3) (v:Int) es=>some (none,some (s.2.length<=30000/\0<=s.1/\s.1<=4096/\es.length<=100000),.tup [.s (.int .i64 (ze1 s.2 s.1.toNat v es).1),.s (.int .i64 (ze1 s.2 s.1.toNat v es).2)]))
theorem zey:qM prog 61 zeq:=mkR (zDZ fun s v es r h=>by cases h;exact fb (by exact ⟨zeB,trivial⟩) func61 fun _ h=>zfG s.1 s.2 v es h) func61
end S1
namespace Go.Vm
open Go.RowKit
def zen:Code->Option Nat
 | .region i _ _=>some i
 | .seq a _=>zen a
 | .block _ c=>zen c
 | .loop c=>zen c
 | .scope c=>zen c
 | _=>none
def zfv (k:Nat):List Nat->Bool
 | []=>false
 | i::r=>match Nat.beq i k with|true=>true|false=>zfv k r
def zgE (jn:List Nat) (b:Code):Option Nat:=match zen b with
 | some k=>match zfv k jn with
   | true=>some k
   | false=>none
 | none=>none
structure zeL (k:Nat) (P:Prop):Prop where
 out:P
def zdf (T:Tab) (jn:List Nat):Code->St->(Exit->St->Prop)->Prop
 | .seq a b,st,K=>match zgE jn b with
   | some k=>zeL k (∃ (X:Type) (S:Spec X),zdf T jn a st (fun e s=>match e with
      | .normal=> ∃ y,S.inv y/\zOs s (S.head st y)
      | e=>K e s)/\∀ x,S.inv x->(S.head st x).forceAll fun h=>zdf T jn b h K)
   | none=>zdf T jn a st (fun e s=>match e with
     | .normal=>zdf T jn b s K
     | e=>K e s)
 | .block id c,st,K=>zdf T jn c st (fun e s=>match e with
   | .exit i=>match Nat.beq i id with|true=>K .normal s|false=>K (.exit i) s
   | e=>K e s)
 | .cond c a b,st,K=>match y7 st.env c with
   | .s (.bool t)=>BIf t (zdf T jn a st K) (zdf T jn b st K)
   | .s (.nq false _ xs)=>z01 (zPL (xs=[]) (zdf T jn a st K)) (zdf T jn b st K)
   | .s (.nq true _ xs)=>z01 (zdf T jn a st K) (zPL (xs=[]) (zdf T jn b st K))
   | _=>False
 | .loop c,st,K=>(∃ n,rounds (zdf T jn c) K n st)\/(∃ (X:Type) (S:Spec X),zHc T (zax (fun st=>(∃ x,S.inv x/\zOs st (S.head st x))/\
    ∀ x,S.inv x->(S.head st x).forceAll fun h=>zdf T jn c h (fun e s=>match e with
      | .normal=>zax (fun s=> ∃ y,S.inv y/\zOs s (S.head st y)/\S.mu y<S.mu x) S.frz s
      | e=>K e s)) S.frz) S.nils st)
 | .scope c,st,K=>zdf T jn c st K
 | .region _ ops draw,st,K=>zPr T ops draw st (K .normal)
 | .skip,st,K=>K .normal st
 | .label _,st,K=>K .normal st
 | .exit i,st,K=>K (.exit i) st
 | .goto l,st,K=>K (.goto l) st
 | .ret,st,K=>K .ret st
 | _,_,_=>False
section
variable {P:Program} {B:Base} {w:World} {I:Sig} {M:yR} {st:St} {T:Tab} {N:Nat} {a:Act} {r:Option Nat} {n:Nat} {ops:Array Oper} {Q:Exit->Act->World->Prop}
theorem zex (R:jM P T) {jn:List Nat} : ∀ (c:Code) {st:St} {a:Act} {w:World} {K:Exit->St->Prop} {Q:Exit->Act->World->Prop},codeOk N c=true->GA B N st a w->zdf T jn c st K->
 (∀ e st' a' w',K e st'->GA B N st' a' w'->Q e a' w')->c.wpIn (FR r) n P Q a w:=by
 intro c
 induction c with
 | skip=>intro st a w K Q _ h hk hQ;exact wpIn_skip (hQ _ _ _ _ hk h)
 | label l=>intro st a w K Q _ h hk hQ;exact wpIn_label (hQ _ _ _ _ hk h)
 | exit i=>intro st a w K Q _ h hk hQ;exact wpIn_exit (hQ _ _ _ _ hk h)
 | goto l=>intro st a w K Q _ h hk hQ;exact wpIn_goto (hQ _ _ _ _ hk h)
 | ret=>intro st a w K Q _ h hk hQ;exact wpIn_ret (hQ _ _ _ _ hk h)
 | region id ops draw =>
   intro st a w K Q hok h hk hQ;simp only [codeOk,zC,zJ] at hok;exact zSw R hok.1 (fun e=>by simpa [e] using hok.2) h hk fun st' a' w'=>hQ _ _ _ _
 | seq x y ihx ihy =>
   intro st a w K Q hok h hk hQ;simp only [codeOk,zC] at hok;simp only [zdf] at hk;split at hk
   ·have hk:=hk.out;simp only [St.forceAll_eq] at hk;obtain ⟨X,S,hk,hn⟩:=hk;refine wpIn_seq (ihx hok.1 h hk fun e st' a' w' hk' h'=> ?_);cases e with
    | normal =>
      obtain ⟨y,hy,hle⟩:=hk';exact ihy hok.2 (h'.weaken hle) (hn y hy) hQ
    | _=>exact hQ _ _ _ _ hk' h'
   ·refine wpIn_seq (ihx hok.1 h hk fun e st' a' w' hk' h'=> ?_);cases e with
    | normal=>exact ihy hok.2 h' hk' hQ
    | _=>exact hQ _ _ _ _ hk' h'
 | cond c x y ihx ihy =>
   intro st a w K Q hok h hk hQ;simp only [codeOk,zC] at hok;simp only [zdf] at hk;split at hk
   ·rename_i t ht;have hev:=zJ3 h hok.1.1 ht;cases t with
    | true=>exact wpIn_cond_true hev (ihx hok.1.2 h hk hQ)
    | false=>exact wpIn_cond_false hev (ihy hok.2 h hk hQ)
   ·rename_i e xs ht;obtain ⟨I,M,hg⟩:=h.gg;have hr:=jP hg hok.1.1;rw [ht] at hr;obtain ⟨b,hev,hb⟩:=hr;obtain ⟨k1,k2⟩:=hk.out;cases b with
    | true=>exact wpIn_cond_true hev (ihx hok.1.2 h (k1.out (hb rfl)) hQ)
    | false=>exact wpIn_cond_false hev (ihy hok.2 h k2 hQ)
   ·rename_i e xs ht;obtain ⟨I,M,hg⟩:=h.gg;have hr:=jP hg hok.1.1;rw [ht] at hr;obtain ⟨b,hev,hb⟩:=hr;obtain ⟨k1,k2⟩:=hk.out;cases b with
    | true=>exact wpIn_cond_false hev (ihy hok.2 h (k2.out (hb rfl)) hQ)
    | false=>exact wpIn_cond_true hev (ihx hok.1.2 h k1 hQ)
   ·exact hk.elim
 | block id c ih =>
   intro st a w K Q hok h hk hQ;simp only [codeOk] at hok;refine wpIn_block (ih hok h hk fun e st' a' w' hk' h'=> ?_);cases e with
   | exit i =>
     simp only [Exit.inBlock];dsimp only at hk';split at hk'
     ·rename_i e;rw [if_pos (zH e)];exact hQ _ _ _ _ hk' h'
     ·rename_i e;rw [if_neg (fun e'=>by subst e';rw [zbJ] at e;cases e)];exact hQ _ _ _ _ hk' h'
   | _=>exact hQ _ _ _ _ hk' h'
 | loop c ih =>
   intro st a w K Q hok h hk hQ;simp only [codeOk] at hok;simp only [zdf,St.forceAll_eq] at hk;rcases hk with ⟨m,hk⟩|⟨X,S,hk⟩
   ·refine wpIn_loop_rounds m ?_
    have key: ∀ m {st:St} {a:Act} {w:World},GA B N st a w->rounds (zdf T jn c) K m st->Code.roundsIn (FR r) n P c Q m a w:=by
     intro m
     induction m with
     | zero=>intro st a w _ hk;exact hk.elim
     | succ m ihm =>
       intro st a w h hk;refine ih hok h hk fun e st' a' w' hk' h'=> ?_;cases e with
       | normal=>exact ihm h' hk'
       | _=>exact hQ _ _ _ _ hk' h'
    exact key m h hk
   ·obtain ⟨st,h,hk⟩:=zHR S.nils h hk;obtain ⟨st,h,⟨x0,hi0,hle0⟩,hround⟩:=zav S.frz h hk;refine wpIn_loop_ghost (fun m a w=> ∃ x,S.inv x/\S.mu x=m/\GA B N (S.head st x) a w) (S.mu x0) ⟨x0,hi0,rfl,h.weaken hle0⟩ ?_;rintro m a w ⟨x,hi,rfl,hx⟩;refine ih hok hx (hround x hi) fun e st' a' w' hk' h'=> ?_;cases e with
    | normal =>
      obtain ⟨s2,h2,y,hy,hle,hlt⟩:=zav S.frz h' hk';exact ⟨_,hlt,y,hy,rfl,h2.weaken hle⟩
    | _=>exact hQ _ _ _ _ hk' h'
 | _=>intro st a w K Q hok;cases hok
def zfU (T:Tab) (jn:List Nat) (fn:Func) (args:List AV) (R:AV->Prop):Prop :=
 match fn.body with
 | some c=>(St.init args).forceAll fun s=>zdf T jn c s (post T fn R)
 | none=>False
theorem zgA (R:jM P T) {jn:List Nat} {f:FuncId} {fn:Func} {c:Code} (hf:P.funcs[f]? =some fn) (hb:fn.body=some c) (hok:codeOk fn.ntmps c=true)
 {args:List AV} (hl:args.length<=fn.ntmps) {q:Option Prop} {u:AV} (h:zBl args->Opt q->zfU T jn fn args (fun v=>v=u)):zCn P f args (none,q,u):=by
 intro I vals w hag hv;refine ⟨trivial,fun hq=> ?_⟩;have hga:=zJA (N:=fn.ntmps) hag hv hl;have hk:=h (zCF hv) hq;simp only [zfU,hb,St.forceAll_eq] at hk;refine (callsIn_of_wp (F:=Fence.wide) (n:=0) hf hb trivial ?_).calls (fun _ _ hd=>by cases hd);rw [<- FR.none];refine zex R c hok hga hk fun e st' a' w' hp h'=> ?_
 have fin:(match fn.results.toList.all (zGU T st') with|true=>zKo T fn st'=u|false=>False)->a'.defers=[]/\∃ v,(results fn a'.tmps).run P w'= .ok v w'/\∃ v' σ',(Ending.returned v)= .returned v'/\I.le σ'/\Ag σ' w'/\
  (∀ b,b<w.heap.size->σ' b=I b)/\y6 σ' [] u v'/\Below w.heap.size w w':=by
  intro hu;split at hu
  case h_2=>exact hu.elim
  rename_i hallok;obtain ⟨σ1,β1,hg⟩:=h'.gg
  have hview: ∀ {x:AV} {v:Value},y6 σ1 β1 x v->y6 (fun b=>if b<w.heap.size then I b else w'.heap[b]?) [] (x.viewT T st'.hp) v:=fun {x v} hx=>by
   refine AV.viewT_rep_at (fun b o e=> ?_) (fun id ob p hi hp=> ?_) hg.mem hx
   ·split
    ·rename_i hlt;rw [hg.grew.2 b hlt] at e;exact ⟨o,e,.refl⟩
    ·exact hg.mem.ag _ _ e
   ·have:=(hg.sep _ _ _ hi hp).2.1;dsimp only at this;rw [if_neg (by omega)]
  obtain ⟨vs,hrun,hall⟩:=zB5 (P:=P) (w:=w') (fn:=fn) (tmps:=a'.tmps) (Q:=fun r v=>y6 (fun b=>if b<w.heap.size then I b else w'.heap[b]?) [] (zGQ T st' r) v) (fun r hr=>by
   have hro:=zJ.1 hallok r hr;cases r with
   | tmp t=>exact ⟨_,rfl,hview (hg.env t)⟩
   | cell a t =>
     simp only [zGU] at hro;simp only [zGQ];have hx:=hg.env a;split at hro
     ·rename_i id i k hea;rw [hea] at hx;split at hro
      ·rename_i v hv;obtain ⟨p,_,hptr,_⟩:=hx;obtain ⟨_,hrun⟩:=zBf (w:=w') R.ty R.one hg.mem (t:=t) (hg.env a) (p:=none) (q:=none) (v:=v) (by rw [hea];exact hv);obtain ⟨val,h1,h2⟩:=hrun trivial;refine ⟨val,?_,hview h2⟩;rw [hptr] at h1 ⊢;rw [zBL] at h1;simp only [asAddr,zaz,zb4,zay];exact h1
      ·cases hro
     ·cases hro)
  refine ⟨h'.defers,_,hrun,_,(fun b=>if b<w.heap.size then I b else w'.heap[b]?),rfl,fun b o e=> ?_,fun b o e=> ?_,fun b hb=>by simp [hb],by rw [<- hu];exact zJu hall,hg.bel⟩
  ·have:b<w.heap.size:=hag.lt e;exact ⟨o,by simp [this,e],.refl⟩
  ·dsimp only at e;split at e
   ·rename_i hlt;rw [<- show σ1 b=I b from hg.grew.2 b hlt] at e;exact hg.mem.ag _ _ e
   ·exact ⟨o,e,.refl⟩
 cases e with
 | normal=>simp only [post,AV.force_eq] at hp;exact fin hp
 | ret=>simp only [post,AV.force_eq] at hp;exact fin hp
 | _=>exact hp.elim
theorem zfw (R:jM P T) {jn:List Nat} {f:FuncId} {fn:Func} (hf:P.funcs[f]? =some fn) {args:List AV} (hchk:zLg fn args.length=true) {q:Option Prop} {u:AV} (h:zBl args->Opt q->zfU T jn fn args (fun v=>v=u)):zCn P f args (none,q,u):=by
 unfold zLg at hchk;split at hchk
 ·rename_i c hc;simp only [zC] at hchk;exact zgA R hf hc hchk.1 (zU hchk.2) h
 ·cases hchk
theorem zfJ {k:Nat} {A:(X:Type)->Spec X->Prop} {B:(X:Type)->Spec X->X->Prop} {X:Type} (S:Spec X) (h1:A X S) (h2: ∀ x,S.inv x->B X S x):zeL k (∃ X S,A X S/\∀ x,Spec.inv S x->B X S x):=⟨X,S,h1,h2⟩
end
end Go.Vm
namespace S1
def zem (l:List P3) (a b:Int):Nat:=(if zcb l a b>=0 then 1 else 0)+(if zcb l b a>=0 then 1 else 0)
def zf4 (l:List P3) (a b w:Int):Bool:=decide (w≠a)&&(decide (w≠b)&&(zcV l a w&&zcV l b w))
def cmN (l:List P3) (a b:Int):Nat->Nat
 | 0=>0
 | w+1=>cmN l a b w+if zf4 l a b w=true then 1 else 0
theorem zfp (l:List P3) (a b:Int) (w:Nat):cmN l a b (w+1)=cmN l a b w+if zf4 l a b w=true then 1 else 0:=rfl
theorem zfc (l:List P3) (a b:Int): ∀ w,cmN l a b w<=w
 | 0=>zI _
 | w+1=>by
   have:=zfc l a b w;rw [zfp];split<;>omega
theorem zgC {l:List P3} {a b w:Int} (h1:w≠a) (h2:w≠b) (h3:zcV l a w=true) (h4:zcV l b w=true):zf4 l a b w=true:=by
 unfold zf4;rw [decide_eq_true h1,decide_eq_true h2,h3,h4];rfl
theorem zeE {l:List P3} {a b w:Int} :zf4 l a b w=true↔w≠a/\w≠b/\zcV l a w=true/\zcV l b w=true:=by
 unfold zf4;rw [zC,zC,zC,zP,zP]
def zdt (l:List P3) (L:List Int):Nat->Bool
 | 0=>true
 | i+1=>zdt l L i&& !zdm l (L.getD i 0)
theorem zew (l:List P3) (L:List Int) (i:Nat):zdt l L (i+1)=(zdt l L i&& !zdm l (L.getD i 0)):=rfl
def zfS (c:Bool) (n:Nat):Bool:= !(c&&decide (n=4))&&(c|| decide (n>3))
def zdo (l:List P3) (N:Nat) (e:Int×Int):Bool :=
 zdI l e&&(!(zdm l e.1&&(zdm l e.2&& !zdv l e))&&(decide (cmN l e.1 e.2 N<=zem l e.1 e.2)&&zfS (zdt l (shR l N e.1) (shR l N e.1).length) (shR l N e.1).length))
def zef (l:List P3) (a b:Int) (N:Nat) (f:Nat):Spec Nat where
 inv w:=w<=N
 live w:=[(9,.s (.int .i64 w)),(8,.s (.int .i64 (cmN l a b w)))]
 keep:=[2,3,5,6,7]
 heap _:=[]
 keepH:=[0,1,2]
 mu w:=N - w
def zfA (l:List P3) (L:List Int):Spec Nat where
 inv i:=i<=L.length
 live i:=[(12,.s (.int .i64 i)),(11,.s (.bool (zdt l L i)))]
 keep:=[2,3,5,6,7,8,10]
 heap _:=[]
 keepH:=[0,1,2]
 mu i:=L.length - i
def zgJ (l:List P3) (a b:Int):Spec Unit where
 inv _:=(zdm l a&&(zdm l b&& !zdv l (a,b)))=false
 live _:=[]
 keep:=[2,3,5,6]
 heap _:=[]
 keepH:=[0,1]
 mu _:=0
def zft (l:List P3) (a b:Int):Nat:=if zcb l a b>=0 then 1 else 0
def zgL (l:List P3) (a b:Int):Spec Unit where
 inv _:=True
 live _:=[(7,.s (.int .i64 (zft l a b:Nat)))]
 keep:=[2,3,5,6]
 heap _:=[]
 keepH:=[0,1]
 mu _:=0
def zgH (l:List P3) (a b:Int):Spec Unit where
 inv _:=True
 live _:=[(7,.s (.int .i64 (zem l a b:Nat)))]
 keep:=[2,3,5,6]
 heap _:=[]
 keepH:=[0,1]
 mu _:=0
attribute [local irreducible] zdI zdm zdv cmN zcb zcV shR zdt zem zft
theorem zev (n:Int) (l:List P3) (a b:Int) (h:l.length<=30000/\0<=n/\n<=4096):zfU ⟨tyL,[(30,zcR),(95,zei),(60,zdk),(96,zdD),(71,zce),(97,zeD)],[]⟩ [6,9,11] f59 [qP.av (n,l),ETy.arr2.av (a,b)] (fun r=>r= .s (.bool (zdo l n.toNat (a,b)))):=by
 repeat' (conv=>whnf
          first|done|refine qy ?_|refine qG fun _=> ?_|refine qw (fun _=> ?_) (fun _=> ?_)|apply qt|refine qi (fun _=> ?_) (fun _=> ?_)|((with_reducible show zeL 6 _);refine zfJ (zgJ l a b) ?_ (fun u hu=> ?_))|((with_reducible show (∃ y,And (Spec.inv (zgJ _ _ _) y) _));refine zB (()) (zA (yJ.out ?_) (zA ?_ (zA ?_ rfl))))|((with_reducible show zeL 9 _);refine zfJ (zgL l a b) ?_ (fun u hu=> ?_))|((with_reducible show (∃ y,And (Spec.inv (zgL _ _ _) y) _));refine zB (()) (zA (yJ.out ?_) (zA ?_ (zA ?_ rfl))))|((with_reducible show zeL 11 _);refine zfJ (zgH l a b) ?_ (fun u hu=> ?_))|((with_reducible show (∃ y,And (Spec.inv (zgH _ _ _) y) _));refine zB (()) (zA (yJ.out ?_) (zA ?_ (zA ?_ rfl))))|((first|(with_reducible show Or (∃ n,rounds (zdf _ _ (Code.seq (Code.region 13 _ _) _)) _ n _) _)|(with_reducible show Or (∃ n,rounds (zdf _ _ (Code.seq (Code.seq (Code.region 13 _ _) _) _)) _ n _) _)|(with_reducible show Or (∃ n,rounds (zdf _ _ (Code.seq (Code.seq (Code.seq (Code.region 13 _ _) _) _) _)) _ n _) _)|(with_reducible show Or (∃ n,rounds (zdf _ _ (Code.seq (Code.seq (Code.seq (Code.seq (Code.region 13 _ _) _) _) _) _)) _ n _) _)|(with_reducible show Or (∃ n,rounds (zdf _ _ (Code.block _ (Code.seq (Code.region 13 _ _) _))) _ n _) _)|(with_reducible show Or (∃ n,rounds (zdf _ _ (Code.block _ (Code.seq (Code.seq (Code.region 13 _ _) _) _))) _ n _) _)|(with_reducible show Or (∃ n,rounds (zdf _ _ (Code.block _ (Code.seq (Code.seq (Code.seq (Code.region 13 _ _) _) _) _))) _ n _) _)|(with_reducible show Or (∃ n,rounds (zdf _ _ (Code.block _ (Code.seq (Code.seq (Code.seq (Code.seq (Code.region 13 _ _) _) _) _) _))) _ n _) _));refine Or.inr (zB (Nat) (zB (zef l a b n.toNat 0) (zA (zB (0) (zA (yJ.out ?_) (zA ?_ (zA ?_ rfl)))) (fun w hw=> ?_)))))|with_reducible refine zaA (zef _ _ _ _ _) (w+1) ?_ ?_ ?_ ?_|((first|(with_reducible show Or (∃ n,rounds (zdf _ _ (Code.seq (Code.region 22 _ _) _)) _ n _) _)|(with_reducible show Or (∃ n,rounds (zdf _ _ (Code.seq (Code.seq (Code.region 22 _ _) _) _)) _ n _) _)|(with_reducible show Or (∃ n,rounds (zdf _ _ (Code.seq (Code.seq (Code.seq (Code.region 22 _ _) _) _) _)) _ n _) _)|(with_reducible show Or (∃ n,rounds (zdf _ _ (Code.seq (Code.seq (Code.seq (Code.seq (Code.region 22 _ _) _) _) _) _)) _ n _) _)|(with_reducible show Or (∃ n,rounds (zdf _ _ (Code.block _ (Code.seq (Code.region 22 _ _) _))) _ n _) _)|(with_reducible show Or (∃ n,rounds (zdf _ _ (Code.block _ (Code.seq (Code.seq (Code.region 22 _ _) _) _))) _ n _) _)|(with_reducible show Or (∃ n,rounds (zdf _ _ (Code.block _ (Code.seq (Code.seq (Code.seq (Code.region 22 _ _) _) _) _))) _ n _) _)|(with_reducible show Or (∃ n,rounds (zdf _ _ (Code.block _ (Code.seq (Code.seq (Code.seq (Code.seq (Code.region 22 _ _) _) _) _) _))) _ n _) _));refine Or.inr (zB (Nat) (zB (zfA l (shR l n.toNat a)) (zA (zB (0) (zA (yJ.out ?_) (zA ?_ (zA ?_ rfl)))) (fun i hi=> ?_)))))|with_reducible refine zaA (zfA _ _) (i+1) ?_ ?_ ?_ ?_|refine qu ?_|refine qv ?_ ?_|exact zO)
 all_goals try first|refine qz ?_|apply qz5
 all_goals try simp only [qn0,z7,zX,ETy.dflt,Int.reduceToNat,Int.reduceAdd,Int.reduceSub,Int.reduceNeg,Nat.reduceAdd,zef,zfA,zgJ,zgL,zgH] at *
 all_goals try exact yJ.intro trivial
 all_goals try (refine yJ.intro ?_;omega)
 all_goals try
  have e1:zdI l (a,b)=false:=by assumption
  unfold zdo;rw [e1];rfl
 all_goals have e1:zdI l (a,b)=true:=by assumption
 all_goals try
  refine yJ.intro ?_
  first
  | (rw [show zdm l a=false by assumption];rfl)
  | (rw [show zdm l b=false by assumption,Bool.false_and,Bool.and_false];done)
  | (rw [show zdv l (a,b)=true by assumption,Bool.not_true,Bool.and_false,Bool.and_false];done)
 all_goals try
  have e2:zdv l (a,b)=false:=by assumption
  unfold zdo;rw [e1,show zdm l a=true by assumption,show zdm l b=true by assumption,e2];rfl
 all_goals try
  unfold zft
  first
  | (rw [if_pos (by assumption)];rfl)
  | (rw [if_neg (by assumption)];rfl)
 all_goals try
  unfold zem zft
  first
  | (rw [if_pos (show zcb l b a>=0 by assumption)];rfl)
  | (rw [if_neg (show ¬ zcb l b a>=0 by assumption)];rfl)
 all_goals have e2:(zdm l a&&(zdm l b&& !zdv l (a,b)))=false:=by assumption
 all_goals try
  refine yJ.intro ?_;have:=zfc l a b w;unfold yP;omega
 all_goals try
  unfold zft yP;refine yJ.intro ?_;split<;>omega
 all_goals try (unfold cmN;rfl)
 all_goals try (unfold zdt;rfl)
 all_goals try
  rw [zew,show zdt l (shR l n.toNat a) i=true by assumption];rfl
 all_goals try
  rw [zew,show zdt l (shR l n.toNat a) i=false by assumption];rfl
 all_goals try
  rw [zfp]
  first
  | (rw [if_pos (zgC (by assumption) (by assumption) (by assumption) (by assumption))];rfl)
  | (rw [if_neg (fun k=>by
      obtain ⟨k1,k2,k3,k4⟩:=zeE.1 k
      first
      | exact k1 (by assumption)
      | exact k2 (by assumption)
      | (rw [show zcV l a (w:Int)=false by assumption] at k3;cases k3)
      | (rw [show zcV l b (w:Int)=false by assumption] at k4;cases k4))];rfl)
 all_goals try
  have k:=(show zdt l (shR l n.toNat a) i=true by assumption).symm.trans (show zdt l (shR l n.toNat a) i=false by assumption);cases k
 all_goals
  have ew:w=n.toNat:=by omega
  subst ew
  have ef:zdo l n.toNat (a,b)=(decide (cmN l a b n.toNat<=zem l a b)&&zfS (zdt l (shR l n.toNat a) (shR l n.toNat a).length) (shR l n.toNat a).length):=by
   show (zdI l (a,b)&&(!(zdm l a&&(zdm l b&& !zdv l (a,b)))&&_))=_;rw [e1,e2];rfl
  rw [ef]
 all_goals try
  rw [decide_eq_false (show ¬ cmN l a b n.toNat<=zem l a b by omega)];rfl
 all_goals
  rw [decide_eq_true (show cmN l a b n.toNat<=zem l a b by omega),Bool.true_and];have ei:i=(shR l n.toNat a).length:=by omega
  subst ei;unfold zfS
  first
  | (rw [show zdt l (shR l n.toNat a) (shR l n.toNat a).length=true by assumption]
     first
     | (rw [decide_eq_true (show (shR l n.toNat a).length=4 by omega)];rfl)
     | (rw [decide_eq_false (show ¬ (shR l n.toNat a).length=4 by omega)];rfl))
  | (rw [show zdt l (shR l n.toNat a) (shR l n.toNat a).length=false by assumption]
     have e:decide (((shR l n.toNat a).length:Int)>3)=decide ((shR l n.toNat a).length>3):=decide_eq_decide.2 (by omega)
     rw [e];rfl)
def zfF:List AV->Option Res:=zCr qP .arr2 (fun (s:Int×List P3) (e:Int×Int)=>some (none,some (s.2.length<=30000/\0<=s.1/\s.1<=4096),.s (.bool (zdo s.2 s.1.toNat e))))
theorem zeg:qM prog 59 zfF:=mkR (jD fun s e r h=>by
 cases h
 exact zfw (yN (fn:=[(30,zcR),(95,zei),(60,zdk),(96,zdD),(71,zce),(97,zeD)]) (fr:=[]) ⟨zc5,zfX,zdp,zcx,zc9,zee,trivial⟩ trivial) func59 (by kernel_rfl) fun _ h=>zev s.1 s.2 e.1 e.2 h) func59
end S1
namespace S1
def eAt (es:List (Int×Int)) (i:Nat):Int×Int:=es.getD i (0,0)
def apK (l:List P3) (es:List (Int×Int)) (e:Int×Int):Nat->Bool
 | 0=>true
 | k+1=>apK l es e k&&apI l e (eAt es k)
def rmI (l:List P3) (N:Nat) (es:List (Int×Int)) (e:Int×Int):Bool:= !zdv l e|| decide ((3:Int)<=(ze1 l N e.1 es).1 - (ze1 l N e.1 es).2)
def okI (l:List P3) (N:Nat) (es:List (Int×Int)) (i:Nat):Bool:=zdo l N (eAt es i)&&(apK l es (eAt es i) i&&rmI l N es (eAt es i))
def isK (l:List P3) (N:Nat) (es:List (Int×Int)):Nat->Bool
 | 0=>true
 | i+1=>isK l N es i&&okI l N es i
def isI (l:List P3) (N:Nat) (es:List (Int×Int)):Bool:=isK l N es es.length
theorem zfl (l:List P3) (N:Nat) (es:List (Int×Int)) (i:Nat):isK l N es (i+1)=(isK l N es i&&okI l N es i):=rfl
theorem zeR {l:List P3} {N:Nat} {es:List (Int×Int)} : ∀ {i:Nat},isK l N es i=true↔∀ j,j<i->okI l N es j=true
 | 0=>⟨fun _ j hj=>absurd hj (Nat.not_lt_zero _),fun _=>rfl⟩
 | i +1=>by
   rw [zfl,zC,zeR];constructor
   ·rintro ⟨h1,h2⟩ j hj
    by_cases e:j=i
    ·rw [e];exact h2
    ·exact h1 j (by omega)
   ·intro h;exact ⟨fun j hj=>h j (by omega),h i (by omega)⟩
theorem zeC {l:List P3} {es:List (Int×Int)} {e:Int×Int} : ∀ {i:Nat},apK l es e i=true↔∀ j,j<i->apI l e (eAt es j)=true
 | 0=>⟨fun _ j hj=>absurd hj (Nat.not_lt_zero _),fun _=>rfl⟩
 | i +1=>by
   show (_&&_)=true↔_;rw [zC,zeC];constructor
   ·rintro ⟨h1,h2⟩ j hj
    by_cases e:j=i
    ·rw [e];exact h2
    ·exact h1 j (by omega)
   ·intro h;exact ⟨fun j hj=>h j (by omega),h i (by omega)⟩
theorem zeu {l:List P3} {N:Nat} {es:List (Int×Int)} {i:Nat} (hi:i<es.length) (h:okI l N es i=false):isI l N es=false:=by
 rw [<- zbV];intro k;rw [zeR.1 k i hi] at h;cases h
theorem zf5 {l:List P3} {es:List (Int×Int)} {v:Int} : ∀ f x n o,(lpF l v es f x n o).1<=n+f/\(lpF l v es f x n o).2<=o+f*es.length
 | 0,x,n,o=>⟨zI _,by show o<=_;omega⟩
 | f +1,x,n,o=>by
   have hc:=zeY es x (zde l x) es.length;have hm:(f+1)*es.length=f*es.length+es.length:=by rw [Nat.add_mul,Nat.one_mul]
   by_cases h:zde l x=v
   ·rw [zfj h];dsimp only;exact ⟨by omega,by omega⟩
   ·rw [zfo h];obtain ⟨h1,h2⟩:=zf5 (l:=l) (es:=es) (v:=v) f (zde l x) (n+1) (o+zdz es x (zde l x) es.length);exact ⟨by omega,by omega⟩
def zeo (l:List P3) (N:Nat) (es:List (Int×Int)):Spec Nat where
 inv i:=i<=es.length/\isK l N es i=true
 live i:=[(5,.s (.int .i64 i))]
 keep:=[1,2]
 heap _:=[]
 keepH:=[0]
 mu i:=es.length - i
def zfM (l:List P3) (es:List (Int×Int)) (i:Nat):Spec Nat where
 inv k:=k<=i/\apK l es (eAt es i) k=true
 live k:=[(6,.s (.int .i64 k))]
 keep:=[1,2,5]
 heap _:=[]
 keepH:=[0]
 mu k:=i - k
attribute [local irreducible] zdo apI zdv ze1
theorem zfi (n:Int) (l:List P3) (es:List (Int×Int)) (h:l.length<=30000/\0<=n/\n<=4096/\es.length<=100000):zAG ⟨tyL,[(59,zfF),(18,zeA),(60,zdk),(61,zeq)],[]⟩ Tryz.f20 [qP.av (n,l),(ETy.sl .arr2).av es] (fun r=>r= .s (.bool (isI l n.toNat es))):=by
 repeat' (conv=>whnf
          first|done|refine qy ?_|refine qG fun _=> ?_|refine qw (fun _=> ?_) (fun _=> ?_)|apply qt|refine qi (fun _=> ?_) (fun _=> ?_)|(refine zaB 2 rfl (zeo l n.toNat es) (0) ?_ ?_ ?_ fun i hi=> ?_)|with_reducible refine zaA (zeo _ _ _) (i+1) ?_ ?_ ?_ ?_|(refine zaB 7 rfl (zfM l es i) (0) ?_ ?_ ?_ fun k hk=> ?_)|with_reducible refine zaA (zfM _ _ _) (k+1) ?_ ?_ ?_ ?_|refine qu ?_|refine qv ?_ ?_|exact zO)
 all_goals try first|refine qz ?_|apply qz5
 all_goals try simp only [qn0,z7,zX,ETy.dflt,Int.reduceToNat,Int.reduceAdd,Int.reduceSub,Int.reduceNeg,Nat.reduceAdd,zeo,zfM] at *
 all_goals try exact yJ.intro ⟨zbH _,rfl⟩
 all_goals try exact yJ.intro ⟨h.1,h.2.1,h.2.2.1⟩
 all_goals try exact yJ.intro h.1
 all_goals try exact yJ.intro h
 all_goals try (refine yJ.intro ?_;omega)
 all_goals try simp only [show ∀ j,es.getD j (0,0)=eAt es j from fun _=>rfl] at *
 all_goals try
  have ei:i=es.length:=by omega
  subst ei;exact hi.2.symm
 all_goals have hi1:i<es.length:=by omega
 all_goals try
  have e:zdo l n.toNat (eAt es i)=false:=by assumption
  rw [zeu hi1 (by unfold okI;rw [e];rfl)]
 all_goals have e1:zdo l n.toNat (eAt es i)=true:=by assumption
 all_goals try
  have e:apI l (eAt es i) (eAt es k)=true:=by assumption
  refine yJ.intro ⟨by omega,?_⟩;show (_&&_)=true;rw [hk.2,e];rfl
 all_goals try
  have e:apI l (eAt es i) (eAt es k)=false:=by assumption
  rw [zeu hi1 (by
   have:apK l es (eAt es i) i=false:=by
    rw [<- zbV];intro q;rw [zeC.1 q k (by omega)] at e;cases e
   unfold okI;rw [this,Bool.false_and,Bool.and_false])]
 all_goals
  have ek:k=i:=by omega
  subst ek
 all_goals try
  refine yJ.intro ?_
  have hl:(ze1 l n.toNat (eAt es k).1 es).1<=0+n.toNat/\(ze1 l n.toNat (eAt es k).1 es).2<=0+n.toNat*es.length:=by
   unfold ze1;exact zf5 _ _ _ _
  have hm:n.toNat*es.length<=4096*100000:=Nat.mul_le_mul (by omega) h.2.2.2;unfold yP;omega
 all_goals try
  have e:zdv l (eAt es k)=false:=by assumption
  refine yJ.intro ⟨by omega,?_⟩;rw [zfl,hi.2];unfold okI rmI;rw [e1,hk.2,e];rfl
 all_goals have e2:zdv l (eAt es k)=true:=by assumption
 all_goals try
  rw [zeu hi1 (by unfold okI rmI;rw [e1,hk.2,e2,decide_eq_false (by omega)];rfl)]
 all_goals
  refine yJ.intro ⟨by omega,?_⟩;rw [zfl,hi.2];unfold okI rmI;rw [e1,hk.2,e2,decide_eq_true (by omega)];rfl
def zfe:List AV->Option Res:=zCr qP (.sl .arr2) (fun (s:Int×List P3) es=>some (none,some (s.2.length<=30000/\0<=s.1/\s.1<=4096/\es.length<=100000),.s (.bool (isI s.2 s.1.toNat es))))
theorem zej:qM prog 20 zfe:=mkR (jD fun s es r h=>by cases h;exact fb (by exact ⟨zeg,zdx,zdp,zey,trivial⟩) func20 fun _ h=>zfi s.1 s.2 es h) func20
def chI (l:List P3) (N:Nat) (es:List (Int×Int)):Nat->List (Int×Int)
 | 0=>[]
 | i+1=>if isI l N (chI l N es i++[eAt es i])=true then chI l N es i++[eAt es i] else chI l N es i
attribute [local irreducible] isI chI
end S1
namespace S1
def phK (es:List (Int×Int)) (v:Int):Nat->Int
 | 0=>v
 | k+1=>if (eAt es k).1=v then (eAt es k).2 else phK es v k
def lwK (es:List (Int×Int)) (x:Int):Nat->Nat
 | 0=>0
 | k+1=>lwK es x k+if (eAt es k).1<x then 1 else 0
theorem zhM (es:List (Int×Int)) (v:Int) (k:Nat):phK es v (k+1)=if (eAt es k).1=v then (eAt es k).2 else phK es v k:=rfl
theorem zhS (es:List (Int×Int)) (x:Int) (k:Nat):lwK es x (k+1)=lwK es x k+if (eAt es k).1<x then 1 else 0:=rfl
theorem zhJ (es:List (Int×Int)) (x:Int): ∀ k,lwK es x k<=k
 | 0=>zI _
 | k+1=>by
   have:=zhJ es x k;rw [zhS];split<;>omega
def phE (es:List (Int×Int)) (v:Int):Int:=phK es v es.length
def toE (es:List (Int×Int)) (v:Int):Int:=phE es v - lwK es (phE es v) es.length
def tA (es:List (Int×Int)) (N v:Nat):List Int:=(List.range N).map fun (u:Nat)=>if u<v then phE es u else 0
def tB (es:List (Int×Int)) (N v:Nat):List Int:=(List.range N).map fun (u:Nat)=>if u<v then toE es u else phE es u
theorem zhF {n:Int} {es:List (Int×Int)} (he: ∀ e∈es,InN n e.1/\InN n e.2) {v:Int} (hv:InN n v): ∀ k,k<=es.length->InN n (phK es v k)
 | 0,_=>hv
 | k + 1,hk=>by
   rw [zhM];split
   ·have hm:eAt es k∈es:=by
     unfold eAt;rw [zR,zG (by omega)];exact yQ _
    exact (he _ hm).2
   ·exact zhF he hv k (by omega)
theorem zhE {f:Nat->Int} {N u:Nat} (h:u<N):((List.range N).map f).getD u 0=f u:=by
 rw [zR,zbf,List.getElem?_range h];rfl
theorem zhb (es:List (Int×Int)) (N:Nat):tA es N 0=List.replicate N 0:=by
 unfold tA;refine List.ext_getElem (by simp) fun i h1 h2=> ?_;simp
theorem zhc (es:List (Int×Int)) {N v:Nat} (hv:v<N):tA es N (v+1)=(tA es N v).set v (phE es v):=by
 unfold tA;refine List.ext_getElem (by simp) fun i h1 h2=> ?_;rw [List.getElem_set];simp only [List.getElem_map,List.getElem_range]
 by_cases e:v=i
 ·subst e;simp
 ·rw [if_neg e]
  by_cases q:i<v
  ·rw [if_pos q,if_pos (by omega)]
  ·rw [if_neg q,if_neg (by omega)]
theorem zhe (es:List (Int×Int)) (N:Nat):tB es N 0=tA es N N:=by
 unfold tA tB;refine zbN fun u hu=> ?_;rw [if_neg (Nat.not_lt_zero _),if_pos (zV.1 hu)]
theorem zhd (es:List (Int×Int)) {N v:Nat} (hv:v<N):tB es N (v+1)=(tB es N v).set v (toE es v):=by
 unfold tB;refine List.ext_getElem (by simp) fun i h1 h2=> ?_;rw [List.getElem_set];simp only [List.getElem_map,List.getElem_range]
 by_cases e:v=i
 ·subst e;simp
 ·rw [if_neg e]
  by_cases q:i<v
  ·rw [if_pos q,if_pos (by omega)]
  ·rw [if_neg q,if_neg (by omega)]
theorem zha (es:List (Int×Int)) {N v:Nat} (hv:v<N):(tB es N v).getD v 0=phE es v:=by
 unfold tB;rw [zhE hv,if_neg (Nat.lt_irrefl _)]
theorem zhN (es:List (Int×Int)) {N:Nat} {c:Int} (h:0<=c/\c<N):(tB es N N).getD c.toNat 0=toE es c:=by
 unfold tB;rw [zhE (by omega),if_pos (by omega),show ((c.toNat:Nat):Int)=c by omega]
def dgI (t:P3):Bool:=decide (t.1≠t.2.1)&&(decide (t.2.1≠t.2.2)&&decide (t.1≠t.2.2))
def doG (es:List (Int×Int)) (l:List P3) (i:Nat):Option P3:=if dgI (zDo (toE es) (tg l i))=true then some (zDo (toE es) (tg l i)) else none
def doI (es:List (Int×Int)) (l:List P3) (i:Nat):List P3:=(List.range i).filterMap (doG es l)
theorem zgx (es:List (Int×Int)) (l:List P3) (i:Nat):doI es l (i+1)=doI es l i++(doG es l i).toList:=q9 _ _
theorem zh0 (es:List (Int×Int)) (l:List P3) (i:Nat):(doI es l i).length<=i:=zC7 _ _
def zhA (es:List (Int×Int)) (N:Nat):Spec Nat where
 inv v:=v<=N
 live v:=[(6,.s (.int .i64 v)),(5,.s (.own 2 0 N))]
 keep:=[1,2,4]
 heap v:=[(2,.row y8 3 (tA es N v))]
 keepH:=[0,1]
 mu v:=N - v
def zgz (es:List (Int×Int)) (N v:Nat):Spec Nat where
 inv k:=k<=es.length
 live k:=[(7,.s (.int .i64 k))]
 keep:=[1,2,4,5,6]
 heap k:=[(2,.row y8 3 ((tA es N v).set v (phK es v k)))]
 keepH:=[0,1]
 mu k:=es.length - k
def zhC (es:List (Int×Int)) (N:Nat):Spec Nat where
 inv v:=v<=N
 live v:=[(8,.s (.int .i64 v)),(5,.s (.own 2 0 N))]
 keep:=[1,2,4]
 heap v:=[(2,.row y8 3 (tB es N v))]
 keepH:=[0,1]
 mu v:=N - v
def zhB (es:List (Int×Int)) (v:Nat):Spec Nat where
 inv i:=i<=es.length
 live i:=[(10,.s (.int .i64 i)),(9,.s (.int .i64 (lwK es (phE es v) i)))]
 keep:=[1,2,4,5,8]
 heap _:=[]
 keepH:=[0,1,2]
 mu i:=es.length - i
def zhD (es:List (Int×Int)) (v:Nat):Spec Nat where
 inv k:=k<=es.length
 live k:=[(12,.s (.int .i64 k)),(11,.s (.int .i64 (phK es v k)))]
 keep:=[1,2,4,5,8,9,10]
 heap _:=[]
 keepH:=[0,1,2]
 mu k:=es.length - k
def zhG (n:Int) (es:List (Int×Int)) (l:List P3):Spec Nat where
 inv i:=i<=l.length
 live i:=[(14,.s (.int .i64 i))]
 keep:=[1,2,4,5,13]
 heap i:=[(3,.flat 24 [.int .i64 (n - es.length),.own 4 0 (doI es l i).length]),(4,.row .arr3 86 (doI es l i))]
 keepH:=[0,1,2]
 mu i:=l.length - i
 nils:=[3]
attribute [local irreducible] phK lwK tA tB
theorem zh3 {fn} (n:Int) (l:List P3) (es:List (Int×Int)) (hn:0<=n/\n<=4096) (hl:l.length<=8192) (he: ∀ e∈es,InN n e.1/\InN n e.2) (hel:es.length<=100000) (hf: ∀ i<l.length,InN n (tg l i).1/\InN n (tg l i).2.1/\InN n (tg l i).2.2):zAG ⟨tyL,fn,[]⟩ f31 [qP.av (n,l),(ETy.sl .arr2).av es] (fun r=>r=qP.av (n - es.length,doI es l l.length)):=by
 repeat' (conv=>whnf
          first|done|refine qy ?_|refine qG fun _=> ?_|refine qw (fun _=> ?_) (fun _=> ?_)|apply qt|refine qi (fun _=> ?_) (fun _=> ?_)|(refine zaB 3 rfl (zhA es n.toNat) (0) ?_ ?_ ?_ fun v hv=> ?_)|with_reducible refine zaA (zhA _ _) (v+1) ?_ ?_ ?_ ?_|(refine zaB 7 rfl (zgz es n.toNat v) (0) ?_ ?_ ?_ fun k hk=> ?_)|with_reducible refine zaA (zgz _ _ _) (k+1) ?_ ?_ ?_ ?_|(refine zaB 12 rfl (zhC es n.toNat) (0) ?_ ?_ ?_ fun v hv=> ?_)|with_reducible refine zaA (zhC _ _) (v+1) ?_ ?_ ?_ ?_|(refine zaB 16 rfl (zhB es v) (0) ?_ ?_ ?_ fun i hi=> ?_)|with_reducible refine zaA (zhB _ _) (i+1) ?_ ?_ ?_ ?_|(refine zaB 20 rfl (zhD es v) (0) ?_ ?_ ?_ fun k hk=> ?_)|with_reducible refine zaA (zhD _ _) (k+1) ?_ ?_ ?_ ?_|(refine zdg 29 rfl ?_;refine Or.inr (zB (Nat) (zB (zhG n es l) (zA (zB (0) (zA (yJ.out ?_) (zA ?_ (zA ?_ rfl)))) (fun i hi=> ?_)))))|with_reducible refine zaA (zhG _ _ _) (i+1) ?_ ?_ ?_ ?_|refine qu ?_|refine qv ?_ ?_|exact zO)
 all_goals try first|refine qz ?_|apply qz5
 all_goals try simp only [qn0,z7,zX,ETy.dflt,Int.reduceToNat,Int.reduceAdd,Int.reduceSub,Int.reduceNeg,Nat.reduceAdd,zhA,zgz,zhC,zhB,zhD,zhG] at *
 all_goals try simp only [show ∀ j,es.getD j (0,0)=eAt es j from fun _=>rfl] at *
 all_goals try (refine yJ.intro ?_;omega)
 all_goals try exact zhb _ _
 all_goals try (unfold phK;rfl)
 all_goals try (unfold lwK;rfl)
 all_goals try
  rw [zhM]
  first
  | (rw [if_pos (by assumption),List.set_set])
  | (rw [if_pos (by assumption)])
  | (rw [if_neg (by assumption)])
 all_goals try
  have ev:v=n.toNat:=by omega
  subst ev
  first
  | exact zhe _ _
  | (refine yJ.intro ?_;omega)
 all_goals try
  have ek:k=es.length:=by omega
  subst ek
  first
  | exact zhc es (by omega)
  | (have:=zhJ es (phE es v) i
     refine yJ.intro ?_;unfold yP;omega)
  | (rw [zhS,if_pos (by assumption)];omega)
  | (rw [zhS,if_neg (by assumption)];omega)
 all_goals try
  have ei:i=es.length:=by omega
  have hv1:v<n.toNat:=by omega
  subst ei;rw [zha es hv1]
  first
  | exact zhd es hv1
  | (have h1:=zhJ es (phE es v) es.length
     have h2:InN n (phE es v):=zhF he (v:=(v:Int)) ⟨by omega,by omega⟩ es.length (zI _);have h3:0<=phE es v/\phE es v<n:=h2
     refine yJ.intro ?_;unfold yP;omega)
 all_goals try
  have ei:i=l.length:=by omega
  subst ei;exact y9.intro rfl
 all_goals have hi1:i<l.length:=by omega
 all_goals have hf1:=hf i hi1
 all_goals have hln:=zh0 es l i
 all_goals simp only [show ∀ j,l.getD j (0,0,0)=tg l j from fun _=>rfl] at *
 all_goals obtain ⟨⟨f1,f2⟩,⟨f3,f4⟩,f5,f6⟩:=hf1
 all_goals try (refine yJ.intro ?_;omega)
 all_goals
  have ev:v=n.toNat:=by omega
  subst ev
 all_goals have e1:=zhN es (N:=n.toNat) (c:=(tg l i).1) (by omega)
 all_goals have e2:=zhN es (N:=n.toNat) (c:=(tg l i).2.1) (by omega)
 all_goals have e3:=zhN es (N:=n.toNat) (c:=(tg l i).2.2) (by omega)
 all_goals simp only [e1,e2,e3] at *
 all_goals first
  | (have hg:doG es l i=some (zDo (toE es) (tg l i)):=by
      unfold doG;rw [if_pos (by unfold dgI zDo;rw [decide_eq_true (by assumption),decide_eq_true (by assumption),decide_eq_true (by assumption)];rfl)]
     first
     | (rw [zgx,hg];exact jL.intro (by rw [Option.toList,zN];rfl))
     | (rw [zgx,hg];rfl))
  | (have hg:doG es l i=none:=by
      unfold doG
      rw [if_neg (fun k=>by
       unfold dgI zDo at k;simp only [zC,zP] at k;obtain ⟨k1,k2,k3⟩:=k
       first
       | exact k1 (by assumption)
       | exact k2 (by assumption)
       | exact k3 (by assumption))]
     first
     | (rw [zgx,hg];exact jL.intro (by rw [Option.toList,zbF]))
     | (rw [zgx,hg];exact zbF _))
def zhL (s:Int×List P3) (es:List (Int×Int)):Int×List P3:=(s.1 - es.length,doI es s.2 s.2.length)
def zh6:List AV->Option Res:=zCr qP (.sl .arr2) (fun s es=>some (none,some (zBK s/\(∀ e∈es,InN s.1 e.1/\InN s.1 e.2)/\es.length<=100000),qP.av (zhL s es)))
theorem zhZ:qM prog 31 zh6:=mkR (jD fun s es r h=>by
 cases h;exact fb (fn:=[]) trivial func31 fun _ h=>by
  obtain ⟨hs,he,hel⟩:=h
  exact zh3 s.1 s.2 es ⟨hs.fit.1,hs.fit.2.1⟩ hs.fit.2.2.1 he hel (fun i hi=>by have h4:=zAH (hs.fit.2.2.2 i hi);exact ⟨h4.1,h4.2.1,h4.2.2⟩)) func31
end S1
namespace S1
theorem zfr {x:yI.T} (g:Full x) {v:Int} (hv:InN x.1.1 v):(zCz x v).Nodup:=by
 obtain ⟨b,_,eL,_,_,hb3,hall,_⟩:=g.around hv.1 hv.2;have hpos:(yU (some x) v).length>=1:=List.length_pos_of_mem hb3;have nd:=zfB g hv.1 hv.2
 have hlast:zGG (yU (some x) v) (yU (some x) v).length=(yU (some x) v).getD ((yU (some x) v).length - 1) 0:=by
  unfold zGG;rw [if_neg (by omega)]
 have hin:(yU (some x) v).getD ((yU (some x) v).length - 1) 0∈yU (some x) v:=jB (by omega);unfold zCz;rw [List.nodup_append];refine ⟨?_,?_,?_⟩
 ·unfold lkO;rw [zbK];refine List.Pairwise.map _ (fun c d hh e=> ?_) (nd.imp_of_mem (S:=fun c d=>c≠d/\c∈yU (some x) v/\d∈yU (some x) v) fun hc hd hn=>⟨hn,hc,hd⟩);obtain ⟨hn,hc,hd⟩:=hh;obtain ⟨c1,c2⟩:=hall c hc;obtain ⟨d1,d2⟩:=hall d hd;exact hn (g.toGood.same c1 d1 (c2.trans d2.symm) e)
 ·split
  ·exact zbG.2 ⟨by simp,zbS⟩
  ·exact zbS
 ·intro p hp q hq e;subst e;split at hq
  ·rename_i hc;rw [zF.1 hq] at hp;unfold lkO at hp;rw [zbK] at hp;obtain ⟨d,hd,ed⟩:=yC.1 hp;rw [hlast] at hc ed;obtain ⟨c1,c2⟩:=hall _ hin;obtain ⟨d1,d2⟩:=hall d hd;have:=g.after_is c1 d1 (d2.trans c2.symm) ed;have:=(yH.1 d1).1;omega
  ·cases hq
theorem zfa {x:yI.T} (g:Full x) {a b:Int} (ha:InN x.1.1 a):(zGc x a b).Nodup:=by
 unfold zGc;split
 ·exact zbS
 ·exact (zG9 _).nodup_iff.2 ((zfr g ha).filter _)
theorem zeJ {k l:List Int} (hk:k.Nodup) (hl:l.Nodup) (h: ∀ v,v∈k↔v∈l):k.length=l.length :=
 Nat.le_antisymm (zBx k l hk fun v hv=>(h v).1 hv) (zBx l k hl fun v hv=>(h v).2 hv)
def Perm (n:Int) (to:List Int):Prop:=(to.length:Int)=n/\(∀ x∈to,InN n x)/\to.Nodup
end S1
namespace S1
theorem zf8 {l:List P3} {a b:Int} :(∃ c,c<3*l.length/\vI l (trn (c:Nat) 1)=a/\vI l (trn (c:Nat) 2)=b)↔∃ t∈l,dE t a b:=by
 rw [<- zdC,show zcb l a b=zct (3*l.length) (zcH l a b) by unfold zcb;rfl,zdM];refine exists_congr fun c=>and_congr_right fun _=> ?_;unfold zcH;rw [zC,zP,zP]
theorem zgF {l:List P3} {a b:Int} :zcb l a b<0↔¬ ∃ t∈l,dE t a b:=by
 rw [<- zdC];omega
section
variable {x:yI.T}
theorem zeI (g:Full x) {v:Int} {c:Nat} (hc:c<3*x.1.2.length):zdc x.1.2 v c=true↔vI x.1.2 (trn c 2)=v/\bE x (vI x.1.2 (trn c 1)) v:=by
 unfold zdc;rw [zC,zP,zP,show zda x.1.2 (c:Int)=zcb x.1.2 (vI x.1.2 (trn c 2)) (vI x.1.2 (trn c 1)) by unfold zda;rfl,zgF];refine and_congr_right fun e=> ?_;rw [zHJ g,zDh,zDh,e];exact ⟨fun h=>⟨zf8.1 ⟨c,hc,rfl,e⟩,h⟩,fun h=>h.2⟩
theorem zds (g:Full x) {w v:Int} (h:bE x w v):zde x.1.2 v=w:=by
 obtain ⟨h1,h2⟩:=(zHJ g).1 h;obtain ⟨c,hc,c1,c2⟩:=zf8.2 (zDh.1 h1);have hh:0<=zct (3*x.1.2.length) (zdc x.1.2 v):=zdM.2 ⟨c,hc,(zeI g hc).2 ⟨c2,by rw [c1];exact h⟩⟩;obtain ⟨k,e,hk,hp,_⟩:=zfH hh;have hb:=((zeI g hk).1 hp).2;unfold zde;rw [if_pos hh,e];exact zWo g hb h
theorem zgD (g:Full x) {v:Int} (h: ¬ ∃ w,bE x w v):zde x.1.2 v= -1:=by
 unfold zde;rw [if_neg fun hh=> ?_];obtain ⟨k,e,hk,hp,_⟩:=zfH hh;exact h ⟨_,((zeI g hk).1 hp).2⟩
theorem zek (g:Full x) {v:Int} (h:0<=zde x.1.2 v):bE x (zde x.1.2 v) v:=by
 by_cases k: ∃ w,bE x w v
 ·obtain ⟨w,k⟩:=k;rw [zds g k];exact k
 ·rw [zgD g k] at h;omega
theorem zeF (g:Full x) {v:Int} :zdm x.1.2 v=true↔∃ w,bE x w v:=by
 unfold zdm;rw [zP];constructor
 ·intro h;exact ⟨_,zek g h⟩
 ·rintro ⟨w,h⟩;rw [zds g h];exact (zJf g h).1.1
theorem zfR (g:Full x) {e:Int×Int} (h1:0<=e.1) (h2:0<=e.2):zdv x.1.2 e=true↔zJJ x e:=by
 unfold zdv zJJ;rw [zbA,zP,zP];constructor
 ·rintro (h|h)
  ·exact .inr (by have:=zek g (v:=e.1) (by omega);rwa [h] at this)
  ·exact .inl (by have:=zek g (v:=e.2) (by omega);rwa [h] at this)
 ·rintro (h|h)
  ·exact .inr (zds g h)
  ·exact .inl (zds g h)
theorem zdi {l:List P3} {a b:Int} (hab:a≠b):zcV l a b=true↔∃ t∈l,z8 t a/\z8 t b:=by
 unfold zcV;rw [zbA,zP,zP];constructor
 ·rintro (h|h)
  ·obtain ⟨t,ht,hd⟩:=zdC.1 h;exact ⟨t,ht,jN hd⟩
  ·obtain ⟨t,ht,hd⟩:=zdC.1 h;exact ⟨t,ht,(jN hd).2,(jN hd).1⟩
 ·rintro ⟨t,ht,h1,h2⟩;rcases z2Y hab h1 h2 with h|h
  ·exact .inl (zdC.2 ⟨t,ht,h⟩)
  ·exact .inr (zdC.2 ⟨t,ht,h⟩)
theorem zdw {V:Int->Prop} {l:List P3} (hs:jV V l) (a:Int):zcV l a a=false:=by
 rw [<- zbV];intro h;unfold zcV at h;rw [zbA,zP,or_self] at h;obtain ⟨t,ht,hd⟩:=zdC.1 h;exact zNw (hs.deg t ht) hd rfl
theorem zeG {V:Int->Prop} {l:List P3} (hs:jV V l) {a b:Int} (h:zcV l a b=true):a≠b/\∃ t∈l,z8 t a/\z8 t b:=by
 have hab:a≠b:=fun e=>by subst e;rw [zdw hs] at h;cases h
 exact ⟨hab,(zdi hab).1 h⟩
theorem zeH (g:Full x) (hs:jV (InN x.1.1) x.1.2) {a b:Int} :zcV x.1.2 a b=zAQ x a b:=by
 by_cases e:a=b
 ·subst e;rw [zdw hs,zCN g.toGood]
 ·rw [Bool.eq_iff_iff,zdi e,zBj g e]
theorem zea {l:List P3} {e:Int×Int} :zdI l e=true↔e.1≠e.2/\∃ t∈l,z8 t e.1/\z8 t e.2:=by
 unfold zdI;rw [zC,zP];exact and_congr_right fun h=>zdi h
theorem zfE (g:Full x) (hs:jV (InN x.1.1) x.1.2) {v:Int} (hv:InN x.1.1 v):z20 x.1.2 v↔zdm x.1.2 v=false:=by
 rw [<- zKz g hs hv,zDx g,<- zbV,zeF g];exact ⟨fun h=>h.2,fun h=>⟨hv,h⟩⟩
theorem ze6 (g:Full x) {a b:Int} :zem x.1.2 a b=(zDf x a b).length:=by
 have e1:zcb x.1.2 a b>=0↔qJ x (a,b)>=0:=by rw [zCk g,zDh];exact zdC
 have e2:zcb x.1.2 b a>=0↔qJ x (b,a)>=0:=by rw [zCk g,zDh];exact zdC
 unfold zem zDf;simp only [e1,e2];split<;>split<;>rfl
theorem zfq (g:Full x) {a b:Int} (hn: ∃ t∈x.1.2,z8 t a/\z8 t b) (hab:a≠b):(zDf x a b).length=2↔¬ zJJ x (a,b):=by
 rw [<- ze6 g];have e1:zcb x.1.2 a b>=0↔eE x.1.2 a b:=by rw [zDh];exact zdC
 have e2:zcb x.1.2 b a>=0↔eE x.1.2 b a:=by rw [zDh];exact zdC
 have hk:eE x.1.2 a b\/eE x.1.2 b a:=by
  obtain ⟨t,ht,h1,h2⟩:=hn;rcases z2Y hab h1 h2 with h|h
  ·exact .inl (zDh.2 ⟨t,ht,h⟩)
  ·exact .inr (zDh.2 ⟨t,ht,h⟩)
 unfold zem zJJ;rw [zHJ g,zHJ g]
 by_cases k1:eE x.1.2 a b
 ·by_cases k2:eE x.1.2 b a
  ·rw [if_pos (e1.2 k1),if_pos (e2.2 k2)];exact ⟨fun _ h=>h.elim (fun q=>q.2 k2) fun q=>q.2 k1,fun _=>rfl⟩
  ·rw [if_pos (e1.2 k1),if_neg fun q=>k2 (e2.1 q)];exact ⟨fun h=>by omega,fun h=>absurd (.inl ⟨k1,k2⟩) h⟩
 ·have k2:=hk.resolve_left k1;rw [if_neg fun q=>k1 (e1.1 q),if_pos (e2.2 k2)];exact ⟨fun h=>by omega,fun h=>absurd (.inr ⟨k2,k1⟩) h⟩
theorem zfu (g:Full x) (hs:jV (InN x.1.1) x.1.2) {a b:Int} (hab:a≠b):(zDf x a b).Nodup:=by
 have key: ∀ {p q:Int},qJ x (p,q)>=0->∃ t∈x.1.2,dE t p q/\z8 t (yS x (qJ x (p,q)))/\yS x (qJ x (p,q))≠p/\yS x (qJ x (p,q))≠q:=fun {p q} h=>by
  obtain ⟨c,c1,c2⟩:=zED.1 ((zCk g).1 h);have e:=g.facing c1;rw [c2] at e;obtain ⟨n1,n2,_⟩:=g.toGood.ne c1;have e2:(yS x (qY x c),yS x (qV x c))=(p,q):=c2;have f1:yS x (qY x c)=p:=congrArg Prod.fst e2;have f2:yS x (qV x c)=q:=congrArg Prod.snd e2;obtain ⟨k1,k2⟩:=zFH c1;rw [c2] at k2;refine ⟨_,qI k1,k2,?_,?_,?_⟩
  ·rw [e];exact zf2 c1 (.inl rfl)
  ·rw [e,<- f1];exact n1
  ·rw [e,<- f2];exact n2
 unfold zDf;split
 ·rename_i h1;split
  ·rename_i h2;obtain ⟨t,ht,td,tv,n1,n2⟩:=key h1;obtain ⟨u,hu,ud,uv,_,_⟩:=key h2;rw [List.singleton_append,zbG];refine ⟨fun hm=> ?_,by simp⟩;have e:=zF.1 hm;rw [<- e] at uv;have etu:=hs.same ht hu hab n1.symm n2.symm (jN td).1 (jN td).2 tv (jN ud).2 (jN ud).1 uv;subst etu;have hd:=hs.deg t ht;unfold dgn at hd;unfold dE at td ud;omega
  ·simp
 ·split<;>simp
theorem zdu (l:List P3) (a b:Int): ∀ N,cmN l a b N=((List.range N).filter fun w=>zf4 l a b ((w:Nat):Int)).length
 | 0=>by unfold cmN;rfl
 | N+1=>by
   rw [zfp,zdu l a b N,List.range_succ,zbx,zN];split
   ·rename_i h;rw [zbP (by exact h)];rfl
   ·rename_i h;rw [zb3 (by exact h)];rfl
theorem zfs (g:Full x) (hs:jV (InN x.1.1) x.1.2) {a b:Int} (hab:a≠b) (ha:InN x.1.1 a):cmN x.1.2 a b x.1.1.toNat=(zGc x a b).length:=by
 have e:(((List.range x.1.1.toNat).filter fun w=>zf4 x.1.2 a b ((w:Nat):Int)).map fun w:Nat=>(w:Int)).length=(zGc x a b).length:=by
  refine zeJ ?_ (zfa g ha) fun v=> ?_
  ·exact List.Pairwise.map _ (fun i j h e=>h (by exact Int.ofNat.inj e)) (List.nodup_range.sublist List.filter_sublist)
  ·rw [zMf g,yC];constructor
   ·rintro ⟨w,hw,rfl⟩;obtain ⟨_,k⟩:=zb5.1 hw;obtain ⟨_,_,k1,k2⟩:=zeE.1 k;rw [zeH g hs] at k1 k2;exact ⟨hab,k1,k2⟩
   ·rintro ⟨_,k1,k2⟩;obtain ⟨_,r1,r2⟩:=zLk g.toGood k1;refine ⟨v.toNat,zb5.2 ⟨zV.2 (by omega),?_⟩,by omega⟩;rw [show ((v.toNat:Nat):Int)=v by omega];refine zeE.2 ⟨fun q=> ?_,fun q=> ?_,by rw [zeH g hs];exact k1,by rw [zeH g hs];exact k2⟩
    ·subst q;rw [zCN g.toGood] at k1;cases k1
    ·subst q;rw [zCN g.toGood] at k2;cases k2
 rw [yV] at e;rw [zdu,e]
theorem zez (g:Full x) (hs:jV (InN x.1.1) x.1.2) {a b:Int} (hab:a≠b) (ha:InN x.1.1 a):cmN x.1.2 a b x.1.1.toNat<=zem x.1.2 a b↔∀ v,v≠a->v≠b->(∃ t∈x.1.2,z8 t a/\z8 t v)->(∃ u∈x.1.2,z8 u b/\z8 u v)->zS3 x.1.2 a b v:=by
 rw [zfs g hs hab ha,ze6 g];constructor
 ·intro h v va vb hta htb;apply yF;intro hno;have hv:v∈zGc x a b:=(zMf g).2 ⟨hab,(zBj g va.symm).2 hta,(zBj g vb.symm).2 htb⟩;have hnf:v∉zDf x a b:=fun k=>hno ((z54 g hab).1 k).2.2
  have:=zBx (v::zDf x a b) (zGc x a b) (zbG.2 ⟨hnf,zfu g hs hab⟩) fun u hu=>by
   rcases zT.1 hu with k|k
   ·rw [k];exact hv
   ·obtain ⟨ua,ub,t,ht,t1,t2,t3⟩:=(z54 g hab).1 k;exact (zMf g).2 ⟨hab,(zBj g ua.symm).2 ⟨t,ht,t1,t3⟩,(zBj g ub.symm).2 ⟨t,ht,t2,t3⟩⟩
  rw [yA] at this;omega
 ·intro h;refine zBx _ _ (zfa g ha) fun v hv=> ?_;obtain ⟨_,k1,k2⟩:=(zMf g).1 hv;have va:v≠a:=fun e=>by subst e;rw [zCN g.toGood] at k1;cases k1
  have vb:v≠b:=fun e=>by subst e;rw [zCN g.toGood] at k2;cases k2
  exact (z54 g hab).2 ⟨va,vb,h v va vb ((zBj g va.symm).1 k1) ((zBj g vb.symm).1 k2)⟩
end
end S1
namespace S1
theorem zfh {l:List P3} {L:List Int} {u w v:Int} :v∈shW l L u w↔v∈L\/(v=w/\zcV l u w=true):=by
 unfold shW;split
 ·rename_i h;exact ⟨.inl,fun k=>k.elim id fun q=>by rw [q.1];exact h⟩
 ·split
  ·rename_i h;rw [yD,zF];exact ⟨fun k=>k.imp id fun q=>⟨q,h⟩,fun k=>k.imp id fun q=>q.1⟩
  ·rename_i h;exact ⟨.inl,fun k=>k.elim id fun q=>absurd q.2 h⟩
theorem zdr {l:List P3} {L:List Int} {u v:Int} : ∀ {w:Nat},v∈shK l L u w↔v∈L\/∃ k:Nat,k<w/\v=k/\zcV l u k=true
 | 0=>⟨.inl,fun h=>h.elim id fun ⟨k,hk,_⟩=>absurd hk (Nat.not_lt_zero _)⟩
 | w + 1=>by
   rw [zfy,zfh,zdr];constructor
   ·rintro ((h|⟨k,h1,h2⟩)|⟨h1,h2⟩)
    ·exact .inl h
    ·exact .inr ⟨k,by omega,h2⟩
    ·exact .inr ⟨w,by omega,h1,h2⟩
   ·rintro (h|⟨k,h1,h2,h3⟩)
    ·exact .inl (.inl h)
    ·by_cases e:k=w
     ·subst e;exact .inr ⟨h2,h3⟩
     ·exact .inl (.inr ⟨k,by omega,h2,h3⟩)
structure ShS (l:List P3) (N:Nat) (a:Int) (i:Nat) (L:List Int):Prop where
 inA:a∈L
 done: ∀ j,j<i->∀ w:Nat,w<N->zcV l (L.getD j 0) w=true->((w:Nat):Int)∈L
 min: ∀ Q:Int->Prop,Q a->(∀ u w,Q u->zcV l u w=true->Q w)->∀ v∈L,Q v
theorem getD_in {L:List Int} {i:Nat} (h:i<L.length):L.getD i 0∈L:=by
 rw [zR,zG h];exact yQ _
theorem zf7 {l:List P3} {N:Nat} {a:Int} : ∀ (f i:Nat) (L:List Int),zeM N a L->ShS l N a i L->i<=L.length->N+2<=f+i->zeM N a (shF l N f i L)/\ShS l N a (shF l N f i L).length (shF l N f i L)
 | 0,i,L,h,_,hi,hf=>by have:=h.len;omega
 | f + 1,i,L,h,k,hi,hf=>by
   by_cases c:i<L.length
   ·rw [zgB c];refine zf7 f (i+1) _ (h.k (zI _)) ⟨zdr.2 (.inl k.inA),fun j hj w hw hn=> ?_,fun Q q0 qs v hv=> ?_⟩ ?_ (by omega)
    ·by_cases e:j=i
     ·rw [e,ze2 c] at hn;exact zdr.2 (.inr ⟨w,hw,rfl,hn⟩)
     ·rw [ze2 (by omega)] at hn;exact zdr.2 (.inl (k.done j (by omega) w hw hn))
    ·rcases zdr.1 hv with q|⟨m,_,q2,q3⟩
     ·exact k.min Q q0 qs v q
     ·rw [q2];exact qs _ _ (k.min Q q0 qs _ (getD_in c)) q3
    ·have:=zeW (l:=l) (L:=L) (u:=L.getD i 0) (w:=N);omega
   ·rw [zfz c];have:i=L.length:=by omega
    subst this;exact ⟨h,k⟩
structure zfP (l:List P3) (N:Nat) (a:Int) (S:List Int):Prop where
 nd:S.Nodup
 inA:a∈S
 clo: ∀ u∈S,∀ w:Int,0<=w->w<N->zcV l u w=true->w∈S
 min: ∀ Q:Int->Prop,Q a->(∀ u w,Q u->zcV l u w=true->Q w)->∀ v∈S,Q v
theorem zfx (l:List P3) (N:Nat) (a:Int):zfP l N a (shR l N a):=by
 obtain ⟨h1,h2⟩:=zf7 (l:=l) (N:=N) (a:=a) (N+2) 0 [a] (zeM.one N a) ⟨zF.2 rfl,fun j hj=>absurd hj (Nat.not_lt_zero _),fun Q q _ v hv=>by rw [zF.1 hv];exact q⟩ (zbH _) (by omega);refine ⟨h1.nd,h2.inA,fun u hu w w0 w1 hn=> ?_,h2.min⟩;obtain ⟨i,hi,e⟩:=zLa hu;have:=h2.done i hi w.toNat (by omega) (by rw [show (shF l N (N+2) 0 [a]).getD i 0=u from e,show ((w.toNat:Nat):Int)=w by omega];exact hn);rwa [show ((w.toNat:Nat):Int)=w by omega] at this
theorem ze4 {l:List P3} {L:List Int} : ∀ {i:Nat},i<=L.length->(zdt l L i=true↔∀ j,j<i->zdm l (L.getD j 0)=false)
 | 0,_=>⟨fun _ j hj=>absurd hj (Nat.not_lt_zero _),fun _=>by unfold zdt;rfl⟩
 | i +1,hi=>by
   rw [zew,zC,ze4 (by omega),zbB];constructor
   ·rintro ⟨h1,h2⟩ j hj
    by_cases e:j=i
    ·rw [e];exact h2
    ·exact h1 j (by omega)
   ·intro h;exact ⟨fun j hj=>h j (by omega),h i (by omega)⟩
theorem zeQ {l:List P3} {L:List Int} :zdt l L L.length=true↔∀ v∈L,zdm l v=false:=by
 rw [ze4 (zI _)];constructor
 ·intro h v hv;obtain ⟨i,hi,e⟩:=zLa hv;rw [<- e];exact h i hi
 ·intro h j hj;exact h _ (getD_in hj)
theorem zeP {c:Bool} {n:Nat} :zfS c n=false↔(c=true/\n=4)\/(c=false/\n<=3):=by
 unfold zfS;cases c<;>simp
section
variable {x:yI.T}
theorem zdh {l:List P3} {n a:Int} (hs:jV (InN n) l) {S:List Int} (h:zfP l n.toNat a S) {u w:Int} (hu:u∈S) {t:P3} (ht:t∈l) (t1:z8 t u) (t2:z8 t w):w∈S:=by
 by_cases e:u=w
 ·rw [<- e];exact hu
 ·have hw:0<=w/\w<n:=hs.ent t ht w t2;exact h.clo u hu w hw.1 (by omega) ((zdi e).2 ⟨t,ht,t1,t2⟩)
theorem zfD {t:P3} (hd: ¬ dgn t) {a b c v:Int} (hab:a≠b) (hac:a≠c) (hbc:b≠c) (h1:z8 t a) (h2:z8 t b) (h3:z8 t c) (hv:z8 t v):v=a\/v=b\/v=c:=by
 obtain ⟨p,q,r⟩:=t;unfold dgn at hd;unfold z8 at h1 h2 h3 hv;simp only at *;omega
theorem zff (g:Full x) (hs:jV (InN x.1.1) x.1.2) {a:Int} {S:List Int} (h:zfP x.1.2 x.1.1.toNat a S) (k:z8x x.1.2 a):zfS (zdt x.1.2 S S.length) S.length=false:=by
 obtain ⟨t,ht,ta,hno⟩:=k
 have only: ∀ u∈x.1.2,∀ v,z8 t v->z8 u v->u=t:=fun u hu v tv uv =>
  hs.pin v (hs.ent t ht v tv) (fun w=>w=t) (fun t1 h1 t2 h2 a1 a2 ⟨w,wv,b1,b2⟩ e=>by
   apply yF;intro hne
   exact hno t2 h2 hne v w wv.symm tv (by rw [<- e];exact b1) a2 b2) t ht tv rfl u hu uv
 have hS: ∀ v∈S,z8 t v:=h.min _ ta fun u w hu hn=>by
  obtain ⟨_,t',ht',k1,k2⟩:=zeG hs hn;rw [only t' ht' u hu k1] at k2;exact k2
 refine zeP.2 (.inr ⟨?_,?_⟩)
 ·rw [<- zbV,zeQ];intro hc;obtain ⟨w,hw⟩:=zRY ta;have tw:=(jN hw).2;have aw:a≠w:=zNw (hs.deg t ht) hw
  have hb:bE x a w:=(zHJ g).2 ⟨zDh.2 ⟨t,ht,hw⟩,fun q=>by
   obtain ⟨u,hu,hd⟩:=zDh.1 q;have e:=only u hu a ta (jN hd).2;rw [e] at hd;have hdg:=hs.deg t ht;unfold dgn at hdg;unfold dE at hw hd
   omega⟩
  have:=hc w (zdh hs h h.inA ht ta tw);rw [<- zbV,zeF g] at this;exact this ⟨a,hb⟩
 ·have:=zBx S [t.1,t.2.1,t.2.2] h.nd fun v hv=>by
   rcases hS v hv with e|e|e<;>simp [e]
  exact this
theorem zgG {l:List P3} {a p q r:Int} (h1:zS3 l a p q) (h2:zS3 l a p r) (h3:zS3 l a q r) (h4:zS3 l p q r) {u v w:Int} (uv:u≠v) (uw:u≠w) (vw:v≠w)
 (hu:u=a\/u=p\/u=q\/u=r) (hv:v=a\/v=p\/v=q\/v=r) (hw:w=a\/w=p\/w=q\/w=r):zS3 l u v w:=by
 obtain ⟨t1,m1,a1,b1,c1⟩:=h1;obtain ⟨t2,m2,a2,b2,c2⟩:=h2;obtain ⟨t3,m3,a3,b3,c3⟩:=h3;obtain ⟨t4,m4,a4,b4,c4⟩:=h4
 rcases hu with e|e|e|e<;>rcases hv with f|f|f|f<;>rcases hw with i|i|i|i<;>subst e f i<;>first
  | exact absurd rfl uv
  | exact absurd rfl uw
  | exact absurd rfl vw
  | exact ⟨t1,m1,by assumption,by assumption,by assumption⟩
  | exact ⟨t2,m2,by assumption,by assumption,by assumption⟩
  | exact ⟨t3,m3,by assumption,by assumption,by assumption⟩
  | exact ⟨t4,m4,by assumption,by assumption,by assumption⟩
theorem zfn (g:Full x) (hs:jV (InN x.1.1) x.1.2) {a:Int} {S:List Int} (h:zfP x.1.2 x.1.1.toNat a S) (k:z9V x.1.2 a):zfS (zdt x.1.2 S S.length) S.length=false:=by
 obtain ⟨p,q,r,ap,aq,ar,pq,pr,qr,h1,h2,h3,h4⟩:=k
 let F:Int->Prop:=fun v=>v=a\/v=p\/v=q\/v=r
 have T: ∀ {u v w:Int},u≠v->u≠w->v≠w->F u->F v->F w->zS3 x.1.2 u v w:=fun uv uw vw hu hv hw=>zgG h1 h2 h3 h4 uv uw vw hu hv hw
 -- an edge of the four has a triangle of the four on either side
 have two: ∀ {u w:Int},u≠w->F u->F w->∃ A∈x.1.2,∃ B∈x.1.2,dE A u w/\dE B w u/\(∀ v,z8 A v->F v)/\∀ v,z8 B v->F v:=fun {u w} uw hu hw=>by
  obtain ⟨j,m,hj,hm,jm,ju,jw,mu,mw⟩: ∃ j m,F j/\F m/\j≠m/\j≠u/\j≠w/\m≠u/\m≠w:=by
   rcases hu with e|e|e|e<;>rcases hw with f|f|f|f<;>subst e f<;>first
    | exact absurd rfl uw
    | exact ⟨a,p,.inl rfl,.inr (.inl rfl),by omega,by omega,by omega,by omega,by omega⟩
    | exact ⟨a,q,.inl rfl,.inr (.inr (.inl rfl)),by omega,by omega,by omega,by omega,by omega⟩
    | exact ⟨a,r,.inl rfl,.inr (.inr (.inr rfl)),by omega,by omega,by omega,by omega,by omega⟩
    | exact ⟨p,q,.inr (.inl rfl),.inr (.inr (.inl rfl)),by omega,by omega,by omega,by omega,by omega⟩
    | exact ⟨p,r,.inr (.inl rfl),.inr (.inr (.inr rfl)),by omega,by omega,by omega,by omega,by omega⟩
    | exact ⟨q,r,.inr (.inr (.inl rfl)),.inr (.inr (.inr rfl)),by omega,by omega,by omega,by omega,by omega⟩
  obtain ⟨A,hA,Au,Aw,Aj⟩:=T uw ju.symm jw.symm hu hw hj;obtain ⟨B,hB,Bu,Bw,Bm⟩:=T uw mu.symm mw.symm hu hw hm
  have sA: ∀ v,z8 A v->F v:=fun v hv=>by
   rcases zfD (hs.deg A hA) uw ju.symm jw.symm Au Aw Aj hv with e|e|e<;>rw [e]<;>assumption
  have sB: ∀ v,z8 B v->F v:=fun v hv=>by
   rcases zfD (hs.deg B hB) uw mu.symm mw.symm Bu Bw Bm hv with e|e|e<;>rw [e]<;>assumption
  have ne:A≠B:=fun e=>by
   subst e;rcases zfD (hs.deg A hA) uw ju.symm jw.symm Au Aw Aj Bm with e|e|e
   ·exact mu e
   ·exact mw e
   ·exact jm e.symm
  rcases z2Y uw Au Aw with d1|d1<;>rcases z2Y uw Bu Bw with d2|d2
  ·exact absurd d2 (hs.dif A hA B hB ne _ _ d1)
  ·exact ⟨A,hA,B,hB,d1,d2,sA,sB⟩
  ·exact ⟨B,hB,A,hA,d2,d1,sB,sA⟩
  ·exact absurd d2 (hs.dif A hA B hB ne _ _ d1)
 have shut: ∀ {u w:Int},u≠w->F u->F w->∀ t∈x.1.2,z8 t u->z8 t w->∀ v,z8 t v->F v:=fun {u w} uw hu hw t ht tu tw v hv=>by
  obtain ⟨A,hA,B,hB,dA,dB,sA,sB⟩:=two uw hu hw;rcases z2Y uw tu tw with d|d
  ·by_cases e:t=A
   ·exact sA v (by rw [<- e];exact hv)
   ·exact absurd dA (hs.dif t ht A hA e _ _ d)
  ·by_cases e:t=B
   ·exact sB v (by rw [<- e];exact hv)
   ·exact absurd dB (hs.dif t ht B hB e _ _ d)
 have all: ∀ u,F u->∀ t∈x.1.2,z8 t u->∀ v,z8 t v->F v:=fun u hu t ht tu=>by
  obtain ⟨w,hw,uw⟩: ∃ w,F w/\u≠w:=by
   by_cases e:u=a
   ·exact ⟨p,.inr (.inl rfl),by rw [e];exact ap⟩
   ·exact ⟨a,.inl rfl,e⟩
  obtain ⟨A,hA,_,_,dA,_,sA,_⟩:=two uw hu hw;exact hs.pin u (hs.ent A hA u (jN dA).1) (fun t=> ∀ v,z8 t v->F v) (fun t1 m1 t2 m2 a1 a2 ⟨w,wu,b1,b2⟩ hq=>shut wu.symm hu (hq w b1) t2 m2 a2 b2) A hA (jN dA).1 sA t ht tu
 have hS: ∀ v∈S,F v:=h.min _ (.inl rfl) fun u w hu hn=>by
  obtain ⟨_,t,ht,t1,t2⟩:=zeG hs hn;exact all u hu t ht t1 w t2
 have hF: ∀ v,F v->v∈S:=fun v hv=>by
  by_cases e:a=v
  ·rw [<- e];exact h.inA
  ·obtain ⟨A,hA,_,_,dA,_⟩:=two e (.inl rfl) hv;exact zdh hs h h.inA hA (jN dA).1 (jN dA).2
 refine zeP.2 (.inl ⟨zeQ.2 fun v hv=> ?_,?_⟩)
 ·rw [<- zbV,zeF g];rintro ⟨w,hw⟩;obtain ⟨t,ht,k1,k2⟩:=zMu g hw;have wv:=(zJf g hw).2.2;obtain ⟨A,hA,B,hB,dA,dB,_⟩:=two wv (all v (hS v hv) t ht k2 w k1) (hS v hv);exact ((zHJ g).1 hw).2 (zDh.2 ⟨B,hB,dB⟩)
 ·have:=zeJ (k:=S) (l:=[a,p,q,r]) h.nd (by simp;omega) fun v=>by
   simp only [zT,zbe,or_false];exact ⟨hS v,hF v⟩
  exact this
theorem zfL (g:Full x) (hs:jV (InN x.1.1) x.1.2) {a:Int} {S:List Int} (h:zfP x.1.2 x.1.1.toNat a S) {t0:P3} (h0:t0∈x.1.2) (ta:z8 t0 a) (k:zfS (zdt x.1.2 S S.length) S.length=false):z8x x.1.2 a\/z9V x.1.2 a:=by
 obtain ⟨p,pd⟩:=zRY ta;have tp:=(jN pd).2;have ap:a≠p:=zNw (hs.deg t0 h0) pd;obtain ⟨q,qa,qp,tq,only⟩:=zH6 (hs.deg t0 h0) ap ta tp;have pS:=zdh hs h h.inA h0 ta tp;have qS:=zdh hs h h.inA h0 ta tq;have nd3:[a,p,q].Nodup:=by simp;omega
 rcases zeP.1 k with ⟨hc,h4⟩|⟨_,h3⟩
 ·right;have hc:=zeQ.1 hc
  -- the other triangle at an edge
  have other: ∀ {u v:Int},u≠v->u∈S->v∈S->∀ t∈x.1.2,z8 t u->z8 t v->∃ t'∈x.1.2,t'≠t/\z8 t' u/\z8 t' v:=fun {u v} uv hu hv t ht tu tv=>by
   have key: ∀ {u v:Int},v∈S->dE t u v->∃ t'∈x.1.2,t'≠t/\z8 t' u/\z8 t' v:=fun {u v} hv hd=>by
    have hr:=hc v hv;rw [<- zbV,zeF g] at hr;have he:eE x.1.2 v u:=yF fun q=>hr ⟨u,(zHJ g).2 ⟨zDh.2 ⟨t,ht,hd⟩,q⟩⟩;obtain ⟨t',ht',hd'⟩:=zDh.1 he;refine ⟨t',ht',fun e=> ?_,(jN hd').2,(jN hd').1⟩;subst e;have hdg:=hs.deg t' ht;unfold dgn at hdg;unfold dE at hd hd';omega
   rcases z2Y uv tu tv with d|d
   ·exact key hv d
   ·obtain ⟨t',m1,m2,m3,m4⟩:=key hu d;exact ⟨t',m1,m2,m4,m3⟩
  obtain ⟨r,rS,hr⟩: ∃ r∈S,r∉[a,p,q]:=by
   apply yF;intro hno;have:=zBx S [a,p,q] h.nd fun v hv=>yF fun c=>hno ⟨v,hv,c⟩;have h9:[a,p,q].length=3:=rfl;omega
  have hr':r≠a/\r≠p/\r≠q:=by simpa using hr
  have hS: ∀ v∈S,v=a\/v=p\/v=q\/v=r:=fun v hv=>by
   apply yF;intro hno;have hno':v≠a/\v≠p/\v≠q/\v≠r:=by omega
   have:=zBx [v,r,a,p,q] S (by simp;omega) fun w hw=>by
    simp only [zT,zbe,or_false] at hw;rcases hw with e|e|e|e|e<;>rw [e]<;>first|assumption|exact h.inA
   have h9:[v,r,a,p,q].length=5:=rfl;omega
  have side: ∀ {u v m:Int},u≠v->u≠m->v≠m->u∈S->v∈S->z8 t0 u->z8 t0 v->z8 t0 m->(∀ w,w∈S->w≠u->w≠v->w≠m->w=r)->zS3 x.1.2 u v r:=fun {u v m} uv um vm hu hv tu tv tm hw=>by
   obtain ⟨t',m1,m2,m3,m4⟩:=other uv hu hv t0 h0 tu tv;obtain ⟨w,wu,wv,tw,_⟩:=zH6 (hs.deg t' m1) uv m3 m4;have wm:w≠m:=fun e=>m2 (hs.same m1 h0 uv um vm m3 m4 (by rw [<- e];exact tw) tu tv tm);have:=hw w (zdh hs h hu m1 m3 tw) wu wv wm;subst this;exact ⟨t',m1,m3,m4,tw⟩
  refine ⟨p,q,r,ap,qa.symm,hr'.1.symm,qp.symm,hr'.2.1.symm,hr'.2.2.symm,⟨t0,h0,ta,tp,tq⟩,?_,?_,?_⟩
  ·exact side ap qa.symm qp.symm h.inA pS ta tp tq fun w hw w1 w2 w3=>by have:=hS w hw;omega
  ·exact side qa.symm ap qp h.inA qS ta tq tp fun w hw w1 w2 w3=>by have:=hS w hw;omega
  ·exact side qp.symm ap.symm qa pS qS tp tq ta fun w hw w1 w2 w3=>by have:=hS w hw;omega
 ·left
  have hS: ∀ v∈S,z8 t0 v:=fun v hv=>by
   apply yF;intro hno;have n1:v≠a:=fun e=>hno (by rw [e];exact ta);have n2:v≠p:=fun e=>hno (by rw [e];exact tp);have n3:v≠q:=fun e=>hno (by rw [e];exact tq)
   have:=zBx [v,a,p,q] S (by simp;omega) fun w hw=>by
    simp only [zT,zbe,or_false] at hw;rcases hw with e|e|e|e<;>rw [e]<;>first|assumption|exact h.inA
   have h9:[v,a,p,q].length=4:=rfl;omega
  refine ⟨t0,h0,ta,fun u hu hne i j ij ti tj ui uj=> ?_⟩;obtain ⟨w,wi,wj,uw,_⟩:=zH6 (hs.deg u hu) ij ui uj;have iS:i∈S:=zdh hs h h.inA h0 ta ti;have tw:=hS w (zdh hs h iS hu ui uw);exact hne (hs.same hu h0 ij wi.symm wj.symm ui uj uw ti tj tw)
theorem zfg (g:Full x) (hs:jV (InN x.1.1) x.1.2) {e:Int×Int} :zdo x.1.2 x.1.1.toNat e=true↔zBN x.1.2 e.1 e.2:=by
 unfold zdo;rw [zC,zC,zC,zea,zP];have hS:=zfx x.1.2 x.1.1.toNat e.1
 have main: ∀ (hab:e.1≠e.2) (t0:P3) (_:t0∈x.1.2) (_:z8 t0 e.1) (_:z8 t0 e.2),
  ((!(zdm x.1.2 e.1&&(zdm x.1.2 e.2&& !zdv x.1.2 e)))=true↔((x.1.2.filter (both e.1 e.2)).length=2->z20 x.1.2 e.1\/z20 x.1.2 e.2))/\
  (zfS (zdt x.1.2 (shR x.1.2 x.1.1.toNat e.1) (shR x.1.2 x.1.1.toNat e.1).length) (shR x.1.2 x.1.1.toNat e.1).length=true↔¬ z8x x.1.2 e.1/\¬ z9V x.1.2 e.1):=fun hab t0 h0 ta tb=>by
  have ia:InN x.1.1 e.1:=hs.ent t0 h0 _ ta;have ib:InN x.1.1 e.2:=hs.ent t0 h0 _ tb;constructor
  ·rw [<- zGa g hs ((zBj g hab).2 ⟨t0,h0,ta,tb⟩),zfq g ⟨t0,h0,ta,tb⟩ hab,zfE g hs ia,zfE g hs ib];have hb:=zfR g (e:=e) ia.1 ib.1;have hb':zdv x.1.2 e=false↔¬ zJJ x (e.1,e.2):=by rw [<- zbV,hb]
   rw [<- hb'];cases zdm x.1.2 e.1<;>cases zdm x.1.2 e.2<;>cases zdv x.1.2 e<;>simp
  ·rw [<- Bool.not_eq_false,<- not_or];refine not_congr ⟨zfL g hs hS h0 ta,fun k=> ?_⟩;rcases k with k|k
   ·exact zff g hs hS k
   ·exact zfn g hs hS k
 constructor
 ·rintro ⟨⟨hab,t0,h0,ta,tb⟩,h2,h3,h4⟩;have ia:InN x.1.1 e.1:=hs.ent t0 h0 _ ta;obtain ⟨m1,m2⟩:=main hab t0 h0 ta tb;obtain ⟨n1,n2⟩:=m2.1 h4;exact ⟨hab,⟨t0,h0,ta,tb⟩,m1.1 h2,(zez g hs hab ia).1 h3,n1,n2⟩
 ·intro f;obtain ⟨t0,h0,ta,tb⟩:=f.near;have ia:InN x.1.1 e.1:=hs.ent t0 h0 _ ta;obtain ⟨m1,m2⟩:=main f.ne t0 h0 ta tb;exact ⟨⟨f.ne,t0,h0,ta,tb⟩,m1.2 f.brd,(zez g hs f.ne ia).2 f.com,m2.2 ⟨f.one,f.tet⟩⟩
end
end S1
namespace S1
theorem z6S {I:Sig} {M:yR} {v:Value} (h:y6 I M ((ETy.pt yI).av none) v):y6 I M (z8M none) v:=by
 have h:[v]=[Value.pointer none]:=h;exact ⟨(List.cons.inj h).1,by simp [z8L]⟩
theorem zCn.res {P:Program} {f:FuncId} {args:List AV} {p q:Option Prop} {u u':AV} (h:zCn P f args (p,q,u)) (hu: ∀ (I:Sig) (v:Value),y6 I [] u v->y6 I [] u' v):zCn P f args (p,q,u') :=
 fun I vals w h1 h2=>⟨(h I vals w h1 h2).1,fun hq=>((h I vals w h1 h2).2 hq).mono fun _ _ ⟨v,σ',e1,e2,e3,e4,e5,e6⟩=>⟨v,σ',e1,e2,e3,e4,hu σ' v e5,e6⟩⟩
def zKs (x:yI.T):List AV->Option Res:=zEz qP (fun s=>some (none,some (zHP s=some x),.tup [(ETy.pt yI).av (some x),zB0.av (0,0,0)]))
theorem zMB (x:yI.T):qM prog 54 (zKs x):=mkR (zA1 fun s r h=>by
 cases h;intro I vals w hag hv;refine ⟨trivial,fun hq=> ?_⟩;have hq:zHP s=some x:=hq;have:=(newRow.1 _ _ (rfl:z9G [qP.av s]=_) I vals w hag hv).2 trivial
 have hc:(zJr s).1=0:=by
  unfold zHP at hq;split at hq
  ·assumption
  ·cases hq
 rw [hq,zQj hc] at this
 exact this) func54
def zVC:List AV->Option Res:=zEz qP (fun s=>some (none,some (zHP s=none),.tup [z8M none,zB0.av (zJr s)]))
theorem zXB:qM prog 54 zVC:=mkR (zA1 fun s r h=>by
 cases h;intro I vals w hag hv;refine ⟨trivial,fun hq=> ?_⟩;have hq:zHP s=none:=hq;have:=(newRow.1 _ _ (rfl:z9G [qP.av s]=_) I vals w hag hv).2 trivial;rw [hq] at this;refine this.mono fun e w' ⟨v,σ',e1,e2,e3,e4,e5,e6⟩=>⟨v,σ',e1,e2,e3,e4,?_,e6⟩;obtain ⟨vs,e,r⟩:=e5
 match vs,r with
 | [a,b],r=>exact ⟨_,e,z6S r.1,r.2.1,trivial⟩) func54
end S1
namespace S1
def doE (s:SoT) (a b:Int):Int:=if isR s=true then (if (0<=a/\a<s.1)/\(0<=b/\b<s.1) then zO7 (zDV (zAa s) a b) else 2) else 11
def doR (s:SoT) (a b:Int):SoT×zAJ×Int:=if doE s a b=0 then ((s.1 - 1,drL a b s.2 s.2.length),zQm s a b,0) else ((0,[]),(0,0,[],[],[]),doE s a b)
def doV (r:SoT×zAJ×Int):AV:= .tup [qP.av r.1,zG3.av r.2.1,.s (.int .i64 r.2.2)]
def doW (r:SoT×zAJ×Int):AV:=if r.2.2=0 then doV r else .tup [.agg [.int .i64 0,.val (.slice none 0 0)],.agg [.int .i64 0,.int .i64 0,.val (.slice none 0 0),.val (.slice none 0 0),.val (.slice none 0 0)],.s (.int .i64 r.2.2)]
theorem zSy {s:SoT} {a b:Int} (h:doE s a b=0):doR s a b=((s.1 - 1,drL a b s.2 s.2.length),zQm s a b,0):=if_pos h
theorem z64 {s:SoT} {a b:Int} (h:doE s a b≠0):doR s a b=((0,[]),(0,0,[],[],[]),doE s a b):=if_neg h
theorem zLI (s:SoT) (a b:Int):(doR s a b).2.2=doE s a b:=by
 by_cases h:doE s a b=0
 ·rw [zSy h,h]
 ·rw [z64 h]
theorem zB4 (s:SoT):isR s=true↔zBK s:=by
 unfold isR;rw [zP];exact ⟨fun h=>(zD9 s).1 (by rw [h]),fun h=>zQj ((zD9 s).2 h)⟩
theorem zIA {s:SoT} (h:zBK s) (a b:Int):doE s a b=if (0<=a/\a<s.1)/\(0<=b/\b<s.1) then zO7 (zDV (zAa s) a b) else 2:=if_pos ((zB4 s).2 h)
theorem z7J {s:SoT} (h:zHP s=none) (a b:Int):doE s a b=11:=if_neg fun k=>by
 have:=(zAu ((zB4 s).1 k)).1;rw [h] at this;cases this
theorem z0v {s:SoT} {a b e:Int} (h:doE s a b=e) (he:e≠0):doW (doR s a b)= .tup [.agg [.int .i64 0,.val (.slice none 0 0)],.agg [.int .i64 0,.int .i64 0,.val (.slice none 0 0),.val (.slice none 0 0),.val (.slice none 0 0)],.s (.int .i64 e)]:=by
 unfold doW;rw [zLI,h,if_neg he]
theorem z6j {s:SoT} {a b:Int} (h:doE s a b=0):doW (doR s a b)=doV ((s.1 - 1,drL a b s.2 s.2.length),zQm s a b,0):=by
 unfold doW;rw [zLI,h,if_pos rfl,zSy h]
theorem zIo {I:Sig} {e:ETy} {v:Value} (h:y5 I [] (.val (.slice none 0 0)) v):y5 I [] (.sl e []) v:=by
 obtain ⟨h,_⟩:=h;subst h;exact zBI (.sl e)
theorem zUl {I:Sig} {s:SoT} {a b:Int} {v:Value} (h:y6 I [] (doW (doR s a b)) v):y6 I [] (doV (doR s a b)) v:=by
 by_cases he:doE s a b=0
 ·rw [z6j he] at h;rw [zSy he];exact h
 ·rw [z0v rfl he] at h;rw [z64 he];obtain ⟨vs,e1,h⟩:=h
  match vs,h with
  | [x,y,z],⟨⟨ds,ea,h1⟩,⟨dt,eb,h2⟩,h3⟩ =>
    refine ⟨_,e1,⟨ds,ea,?_⟩,⟨dt,eb,?_⟩,h3⟩
    ·match ds,h1 with
     | [d1,d2],⟨k1,k2,k3⟩=>exact ⟨k1,zIo k2,k3⟩
    ·match dt,h2 with
     | [d1,d2,d3,d4,d5],⟨k1,k2,k3,k4,k5,k6⟩=>exact ⟨k1,k2,zIo k3,zIo k4,zIo k5,k6⟩
theorem z9l (a:Int) (t:P3):(zPC a [t.1,t.2.1,t.2.2] 0>=0↔z8 t a)/\(z8 t a->zPC a [t.1,t.2.1,t.2.2] 0=zKb a t):=by
 obtain ⟨x,y,z⟩:=t;simp only [zPC,z8,zKb];refine ⟨?_,fun h=> ?_⟩
 ·by_cases h1:a=x
  ·rw [if_pos h1];exact ⟨fun _=> .inl h1.symm,fun _=>by decide⟩
  ·rw [if_neg h1]
   by_cases h2:a=y
   ·rw [if_pos h2];exact ⟨fun _=> .inr (.inl h2.symm),fun _=>by decide⟩
   ·rw [if_neg h2]
    by_cases h3:a=z
    ·rw [if_pos h3];exact ⟨fun _=> .inr (.inr h3.symm),fun _=>by decide⟩
    ·rw [if_neg h3];exact ⟨fun h=>absurd h (by decide),fun h=>by omega⟩
 ·by_cases h1:x=a
  ·rw [if_pos h1,if_pos h1.symm];rfl
  ·rw [if_neg h1,if_neg (Ne.symm h1)]
   by_cases h2:y=a
   ·rw [if_pos h2,if_pos h2.symm];rfl
   ·rw [if_neg h2,if_neg (Ne.symm h2),if_pos (by omega)];rfl
theorem z9z (a:Int) (t:P3):zDv a [t.1,t.2.1,t.2.2]=true↔z8 t a:=by unfold zDv;rw [zP];exact (z9l a t).1
theorem zMP {a b v:Int} (h:0<=v):zJs v a b=dn a (ph a b v):=by
 unfold zJs dn ph;rw [if_neg (by omega)]
theorem z6u (a b:Int) (l:List P3):atL a b l 0=[]:=rfl
theorem z6t (a b:Int) (l:List P3):rtL a b l 0=[]:=rfl
theorem z2k (a b:Int) (l:List P3):zDn a b l 0=[]:=rfl
theorem z8E (a b:Int) (l:List P3):drL a b l 0=[]:=rfl
theorem z6i {a b:Int} {l:List P3} {i:Nat} (h:both a b (tg l i)=true):atL a b l (i+1)=atL a b l i++[(i:Int)]/\rtL a b l (i+1)=rtL a b l i++[tg l i]/\zDn a b l (i+1)=zDn a b l i/\drL a b l (i+1)=drL a b l i:=by
 have e1:atL a b l (i+1)=atL a b l i++(atG a b l i).toList:=q9 _ _;have e2:rtL a b l (i+1)=rtL a b l i++(rtG a b l i).toList:=q9 _ _;have e3:zDn a b l (i+1)=zDn a b l i++(zOt a b l i).toList:=q9 _ _;rw [e1,e2,e3,zFm];unfold atG rtG zOt drG;rw [if_pos h,if_pos h,if_pos h,if_pos h];exact ⟨rfl,rfl,zbF _,zbF _⟩
theorem z83 {a b:Int} {l:List P3} {i:Nat} (h: ¬ both a b (tg l i)=true) (h2:z8 (tg l i) a):atL a b l (i+1)=atL a b l i/\rtL a b l (i+1)=rtL a b l i/\zDn a b l (i+1)=zDn a b l i++[3*(i:Int)+zKb a (tg l i)]/\drL a b l (i+1)=drL a b l i++[drT a b (tg l i)]:=by
 have e1:atL a b l (i+1)=atL a b l i++(atG a b l i).toList:=q9 _ _;have e2:rtL a b l (i+1)=rtL a b l i++(rtG a b l i).toList:=q9 _ _;have e3:zDn a b l (i+1)=zDn a b l i++(zOt a b l i).toList:=q9 _ _;rw [e1,e2,e3,zFm];unfold atG rtG zOt drG;rw [if_neg h,if_neg h,if_neg h,if_neg h,if_pos h2];exact ⟨zbF _,zbF _,rfl,rfl⟩
theorem z8m {a b:Int} {l:List P3} {i:Nat} (h2: ¬ z8 (tg l i) a):atL a b l (i+1)=atL a b l i/\rtL a b l (i+1)=rtL a b l i/\zDn a b l (i+1)=zDn a b l i/\drL a b l (i+1)=drL a b l i++[drT a b (tg l i)]:=by
 have h: ¬ both a b (tg l i)=true:=fun k=>h2 ((zBk.1 k).1);have e1:atL a b l (i+1)=atL a b l i++(atG a b l i).toList:=q9 _ _;have e2:rtL a b l (i+1)=rtL a b l i++(rtG a b l i).toList:=q9 _ _;have e3:zDn a b l (i+1)=zDn a b l i++(zOt a b l i).toList:=q9 _ _;rw [e1,e2,e3,zFm];unfold atG rtG zOt drG;rw [if_neg h,if_neg h,if_neg h,if_neg h,if_neg h2];exact ⟨zbF _,zbF _,zbF _,rfl⟩
theorem zND {s:SoT} (h:zBK s):zD4 s=true:=by
 have hf:=h.fit
 have hb:zSo s.1 s.2 0= -1:=zUX _ _ _ fun t ht=>by
  obtain ⟨i,hi,e⟩:=zAO ht;have h1:=hf.2.2.2 i hi;have h2:=h.deg i hi;have e2:s.2.getD i (0,0,0)=t:=e;rw [e2] at h1;rw [e] at h2;unfold dgn at h2;unfold z1H;rw [h1];simp only [Bool.true_and,zC,bne_iff_ne];exact ⟨fun k=>h2 (.inl k),fun k=>h2 (.inr (.inl k)),fun k=>h2 (.inr (.inr k))⟩
 unfold zD4;have h1:=hf.1;have h2:=hf.2.1;have h3:=hf.2.2.1;rw [hb,decide_eq_false (by omega),decide_eq_false (by omega),decide_eq_false (by omega),decide_eq_false (by omega)];rfl
theorem z4p {s:SoT} (h:zBK s) {a b:Int} (hn: ¬ ((0<=a/\a<s.1)/\(0<=b/\b<s.1))):doE s a b=2:=by rw [zIA h,if_neg hn]
theorem z6w {s:SoT} (h:zBK s) {a b:Int} (hn:(0<=a/\a<s.1)/\(0<=b/\b<s.1)):doE s a b=zO7 (z6E (some (zAa s)) a b):=by rw [zIA h,if_pos hn];rfl
def zNo (n a b:Int) (l:List P3):Spec Nat where
 inv i:=i<=l.length
 live i:=[(71,.s (.int .i64 i))]
 keep:=[1,2,3,6,7,8,12,13,69,70]
 heap i:=[(4,.flat 103 [.int .i64 a,.int .i64 b,.own 6 0 (atL a b l i).length,.own 7 0 (rtL a b l i).length,.own 8 0 (zDn a b l i).length]),(5,.flat 24 [.int .i64 (n - 1),.own 9 0 (drL a b l i).length]),
  (6,.row y8 3 (atL a b l i)),(7,.row .arr3 86 (rtL a b l i)),(8,.row y8 3 (zDn a b l i)),(9,.row .arr3 86 (drL a b l i))]
 keepH:=[0,1,2,3]
 mu i:=l.length - i
 nils:=[4,4,4,5]
attribute [local irreducible] doW z6E zO7 zDv zPC atL rtL zDn drL zJs zD4
theorem z7F (n:Int) (l:List P3) (a b:Int) (x:yI.T) (hx:zHP (n,l)=some x):zAG ⟨tyL,[(54,zKs x),(100,zMX),(69,z4l),(101,zXr),(102,zF6),(103,zAe),(104,zPo)],[]⟩ f65 [qP.av (n,l),y8.av a,y8.av b] (fun r=>r=doW (doR (n,l) a b)):=by
 obtain ⟨e0,g,hs⟩:=zHj hx
 repeat' (conv=>whnf
          first|done|refine qy ?_|refine qG fun _=> ?_|refine qw (fun _=> ?_) (fun _=> ?_)|apply qt|refine qi (fun _=> ?_) (fun _=> ?_)|(refine zdg 12 rfl ?_;refine Or.inr (zB (Nat) (zB (zNo n a b l) (zA (zB (0) (zA (yJ.out ?_) (zA ?_ (zA ?_ rfl)))) (fun i hi=> ?_)))))|with_reducible refine zaA (zNo _ _ _ _) (i+1) ?_ ?_ ?_ ?_|refine qu ?_|refine qv ?_ ?_|exact zO)
 all_goals try first|refine qz ?_|apply qz5
 all_goals try simp only [qn0,z7,zX,ETy.dflt,Int.reduceToNat,Int.reduceAdd,Int.reduceSub,Int.reduceNeg,Nat.reduceAdd,zNo] at *
 all_goals have hf:=hs.fit
 all_goals have hn:0<=n/\n<=4096:=⟨hf.1,hf.2.1⟩
 all_goals have hl:l.length<=8192:=hf.2.2.1
 all_goals try exact y9.intro (z0v (z4p hs (by show ¬ ((0<=a/\a<n)/\0<=b/\b<n);omega)) (by decide)).symm
 all_goals try exact yJ.intro (fun y e=>by cases e;exact g.toGood)
 all_goals try exact absurd (zND hs) (by rw [show zD4 (n,l)=false by assumption];decide)
 all_goals have hab:(0<=a/\a<n)/\(0<=b/\b<n):=by omega
 all_goals have hE:doE (n,l) a b=zO7 (z6E (some x) a b):=by rw [e0];exact z6w hs hab
 all_goals try exact y9.intro (z0v hE (by assumption)).symm
 all_goals try first|exact z6u a b l|exact z6t a b l|exact z2k a b l|exact z8E a b l|(rw [z6u,z6t,z2k];exact jL.intro rfl)|(rw [z8E];exact jL.intro rfl)
 all_goals try (refine yJ.intro ?_;unfold yP;omega)
 all_goals try (refine yJ.intro ?_;omega)
 all_goals try
  have hi9:i=l.length:=by omega
  subst hi9;rw [z6j (hE.trans (by assumption))];exact y9.intro rfl
 all_goals have hi1:(i:Int)<l.length:=by assumption
 all_goals have hla:(atL a b l i).length<=i:=z6V a b l i
 all_goals have hlr:(rtL a b l i).length<=i:=z6n a b l i
 all_goals have hlf:(zDn a b l i).length<=i:=z5i a b l i
 all_goals have hld:=z5F a b l i
 all_goals have ht:(0<=(l.getD i (0,0,0)).1/\(l.getD i (0,0,0)).1<n)/\(0<=(l.getD i (0,0,0)).2.1/\(l.getD i (0,0,0)).2.1<n)/\(0<=(l.getD i (0,0,0)).2.2/\(l.getD i (0,0,0)).2.2<n):=zAH (hf.2.2.2 i (show i<l.length by omega))
 all_goals try (refine yJ.intro ?_;omega)
 all_goals try (refine yJ.intro ⟨⟨?_,?_⟩,?_,?_⟩<;>clear hi hi1 hx e0 g hs hf hE<;>omega)
 all_goals try exact absurd (show zPC a [(l.getD i (0,0,0)).fst,(l.getD i (0,0,0)).snd.fst,(l.getD i (0,0,0)).snd.snd] 0>=0 by assumption) (by assumption)
 all_goals have fa:=z9l a (l.getD i (0,0,0))
 all_goals have fb:=z9z b (l.getD i (0,0,0))
 all_goals have hp3:=zQh (a:=a) (t:=l.getD i (0,0,0))
 all_goals have eD:drT a b (l.getD i (0,0,0))=(zJs (l.getD i (0,0,0)).1 a b,zJs (l.getD i (0,0,0)).2.1 a b,zJs (l.getD i (0,0,0)).2.2 a b):=by
            rw [zMP ht.1.1,zMP ht.2.1.1,zMP ht.2.2.1];rfl
 all_goals try
  have kb:zDv b [(l.getD i (0,0,0)).fst,(l.getD i (0,0,0)).snd.fst,(l.getD i (0,0,0)).snd.snd]=true:=by assumption
  have ka:z8 (l.getD i (0,0,0)) a:=fa.1.1 (by assumption);obtain ⟨k1,k2,k3,k4⟩:=z6i (a:=a) (b:=b) (l:=l) (i:=i) (zBk.2 ⟨ka,fb.1 kb⟩);rw [k1,k2,k3];exact jL.intro (by simp only [zN,List.length_singleton])
 all_goals try
  have kb:zDv b [(l.getD i (0,0,0)).fst,(l.getD i (0,0,0)).snd.fst,(l.getD i (0,0,0)).snd.snd]=true:=by assumption
  have ka:z8 (l.getD i (0,0,0)) a:=fa.1.1 (by assumption);obtain ⟨k1,k2,k3,k4⟩:=z6i (a:=a) (b:=b) (l:=l) (i:=i) (zBk.2 ⟨ka,fb.1 kb⟩)
  first|exact k1|exact k2|exact k3|exact k4|(rw [k4];exact jL.intro rfl)
 all_goals try
  have kb:zDv b [(l.getD i (0,0,0)).fst,(l.getD i (0,0,0)).snd.fst,(l.getD i (0,0,0)).snd.snd]=false:=by assumption
  have ka:z8 (l.getD i (0,0,0)) a:=fa.1.1 (by assumption);have eF:=fa.2 ka;have kn: ¬ both a b (tg l i)=true:=fun k=>by rw [fb.2 (zBk.1 k).2] at kb;cases kb
  obtain ⟨k1,k2,k3,k4⟩:=z83 (a:=a) (b:=b) (l:=l) (i:=i) kn ka
  first
  | exact k1
  | exact k2
  | (rw [eF];exact k3)
  | (rw [<- eD];exact k4)
  | (rw [k1,k2,k3];exact jL.intro (by simp only [zN,List.length_singleton]))
  | (rw [k4];exact jL.intro (by simp only [zN,List.length_singleton]))
  | (rw [eF];refine yJ.intro ?_;unfold yP;omega)
 all_goals
  have ka: ¬ z8 (l.getD i (0,0,0)) a:=fun k=>absurd (fa.1.2 k) (by assumption);obtain ⟨k1,k2,k3,k4⟩:=z8m (a:=a) (b:=b) (l:=l) (i:=i) ka
  first
  | exact k1
  | exact k2
  | exact k3
  | (rw [<- eD];exact k4)
  | (rw [k1,k2,k3];exact jL.intro rfl)
  | (rw [k4];exact jL.intro (by simp only [zN,List.length_singleton]))
theorem z3k (n:Int) (l:List P3) (a b:Int) (hx:zHP (n,l)=none):zAG ⟨tyL,[(54,zVC),(100,zMX),(69,z4l),(101,zXr),(102,zF6),(103,zAe),(104,zPo)],[]⟩ f65 [qP.av (n,l),y8.av a,y8.av b] (fun r=>r=doW (doR (n,l) a b)):=by
 have e:=z0v (z7J hx a b) (by decide)
 repeat' (conv=>whnf
          first|done|refine qy ?_|refine qG fun _=> ?_|refine qw (fun _=> ?_) (fun _=> ?_)|apply qt|refine qi (fun _=> ?_) (fun _=> ?_)|(refine zdg 12 rfl ?_;refine Or.inr (zB (Nat) (zB (zNo n a b l) (zA (zB (0) (zA (yJ.out ?_) (zA ?_ (zA ?_ rfl)))) (fun i hi=> ?_)))))|with_reducible refine zaA (zNo _ _ _ _) (i+1) ?_ ?_ ?_ ?_|refine qu ?_|refine qv ?_ ?_|exact zO)
 all_goals try first|refine qz ?_|apply qz5
 all_goals try simp only [qn0,z7,zX,ETy.dflt,Int.reduceToNat,Int.reduceAdd,Int.reduceSub,Int.reduceNeg,Nat.reduceAdd] at *
 all_goals try exact yJ.intro hx
 all_goals exact y9.intro e.symm
def z5p:List AV->Option Res:=zOw qP y8 y8 (fun s a b=>some (none,none,doV (doR s a b)))
theorem zVA:qM prog 65 z5p:=mkR (zDZ fun s a b r h=>by
 cases h;cases e:zHP s with
 | none=>exact zCn.res (fb (fn:=[(54,zVC),(100,zMX),(69,z4l),(101,zXr),(102,zF6),(103,zAe),(104,zPo)]) ⟨zXB,zL5,zXj,zVJ,zJD,zCU,zPh,trivial⟩ func65 fun _ _=>z3k s.1 s.2 a b e) fun I v h=>zUl h
 | some x=>exact zCn.res (fb (fn:=[(54,zKs x),(100,zMX),(69,z4l),(101,zXr),(102,zF6),(103,zAe),(104,zPo)]) ⟨(zMB x),zL5,zXj,zVJ,zJD,zCU,zPh,trivial⟩ func65 fun _ _=>z7F s.1 s.2 a b x e) fun I v h=>zUl h) func65
end S1
namespace S1
theorem z3J (x:yI.T) (a b:Int):zDV x a b=0\/zDV x a b=1\/zDV x a b=2\/zDV x a b=3\/zDV x a b=4:=by
 unfold zDV
 (repeat' split)<;>simp
theorem z2y {w:SoT} {a b:Int} (h:doE w a b=0):zBK w/\InN w.1 a/\InN w.1 b/\zDV (zAa w) a b=0/\a≠b:=by
 have hs:zBK w:=by
  apply yF;intro k;unfold doE at h;rw [if_neg (fun e=>k ((zB4 w).1 e))] at h;cases h
 rw [zIA hs] at h;split at h
 case isFalse=>cases h
 rename_i hr
 have h0:zDV (zAa w) a b=0:=by
  rcases z3J (zAa w) a b with e|e|e|e|e
  ·exact e
  all_goals (rw [e] at h;exact absurd h (by decide))
 refine ⟨hs,hr.1,hr.2,h0,fun e=> ?_⟩;subst e;rw [z4G (zCN (zAu hs).2.1.toGood a)] at h0;cases h0
theorem zWU {w s:SoT} {r:zAJ} {a b:Int} (h:doR w a b=(s,r,0)):Was w a b/\s=(w.1 - 1,drL a b w.2 w.2.length)/\r=zQm w a b/\zDV (zAa w) a b=0:=by
 have he:doE w a b=0:=by rw [<- zLI,h]
 rw [zSy he] at h;obtain ⟨h1,h2,h3,h4,h5⟩:=z2y he;have e1:=congrArg Prod.fst h;have e2:=congrArg (fun z=>z.2.1) h;exact ⟨⟨h1,h2,h3,h5⟩,e1.symm,e2.symm,h4⟩
theorem zLW {w s:SoT} {r:zAJ} {a b:Int} (h:doR w a b=(s,r,0)):bkR s r=(w,true)/\rbk s r=some w:=by
 obtain ⟨h1,h2,h3,_⟩:=zWU h;subst h2 h3;exact ⟨z6T h1,z4w h1⟩
theorem zZC {w s:SoT} {r:zAJ} {a b:Int} (h:doR w a b=(s,r,0)):zBK s:=by
 obtain ⟨h1,h2,h3,h4⟩:=zWU h;have:=zOM (zAu h1.surf).2.1 h1.surf h4;rw [h2,zXa];exact this
open Classical in
noncomputable def zBe (s:SoT) (r:zAJ):SoT×Int:=if h: ∃ w,doR w r.1 r.2.1=(s,r,0) then (Classical.choose h,0) else ((0,[]),if isR s=true then 3 else 11)
theorem zSW {w s:SoT} {r:zAJ} (h:doR w r.1 r.2.1=(s,r,0)):zBe s r=(w,0):=by
 have hh: ∃ w,doR w r.1 r.2.1=(s,r,0):=⟨w,h⟩;unfold zBe;rw [dif_pos hh];have k:=(zLW (Classical.choose_spec hh)).1;rw [(zLW h).1] at k;exact Prod.ext (congrArg (fun z=>z.1) k).symm rfl
theorem zQz {s:SoT} {r:zAJ} (h: ¬ ∃ w,doR w r.1 r.2.1=(s,r,0)):zBe s r=((0,[]),if isR s=true then 3 else 11):=by
 unfold zBe;rw [dif_neg h]
theorem zZa {s:SoT} {r:zAJ} (h:zHP s=none):zBe s r=((0,[]),11):=by
 have hn: ¬ isR s=true:=fun k=>by have:=(zAu ((zB4 s).1 k)).1;rw [h] at this;cases this
 rw [zQz (fun ⟨w,hw⟩=>hn ((zB4 s).2 (zZC hw))),if_neg hn]
theorem z4K {s:SoT} {r:zAJ} (hs:zBK s) (h: ∀ w,bkR s r=(w,true)->doR w r.1 r.2.1≠(s,r,0)):zBe s r=((0,[]),3):=by
 rw [zQz (fun ⟨w,hw⟩=>h w (zLW hw).1 hw),if_pos ((zB4 s).2 hs)]
def bkV (r:SoT×Bool):AV:= .tup [qP.av r.1,.s (.bool r.2)]
def bkW (s:SoT) (r:zAJ):AV:=if bkC s r/\kF (bkG r) (bkN s r)<=s.2.length/\zXx (bkN s r) r.2.2.2.2=true then bkV (bkR s r) else .tup [.agg [.int .i64 0,.val (.slice none 0 0)],.s (.bool false)]
theorem z3h {I:Sig} {s:SoT} {r:zAJ} {v:Value} (h:y6 I [] (bkW s r) v):y6 I [] (bkV (bkR s r)) v:=by
 unfold bkW at h;split at h
 ·exact h
 ·rename_i hn;unfold bkR;rw [if_neg hn];obtain ⟨vs,e1,h⟩:=h
  match vs,h with
  | [x,y],⟨⟨ds,ea,h1⟩,h3⟩ =>
    refine ⟨_,e1,⟨ds,ea,?_⟩,h3⟩
    match ds,h1 with
    | [d1,d2],⟨k1,k2,k3⟩=>exact ⟨k1,zIo k2,k3⟩
def z5z (r:zAJ) (k:Nat):GoT:=z5K r.2.2.1 r.2.2.2.1 k
theorem z6b (r:zAJ):z5z r 0=[]:=rfl
theorem z6a (r:zAJ) (k:Nat):z5z r (k+1)=zAB (.int .i64) (z5z r k) (r.2.2.1.getD k 0) (r.2.2.2.1.getD k (0,0,0)):=rfl
theorem z2c (g:GoT) (T:List P3) (A:Int):zJp g T A 0=[]:=rfl
theorem z1k (g:GoT) (T:List P3) (A:Int) (i:Nat):zJp g T A (i+1)=zJp g T A i++[bkT g T A i]:=by
 unfold zJp;rw [List.range_succ,zbo];rfl
theorem zRl (g:GoT) (T:List P3) (A:Int) (i:Nat):(zJp g T A i).length=i:=by unfold zJp;simp
theorem zRL (A:Int) (fan:List Int) (o:List P3): ∀ j,(zSi A fan o j).length=o.length
 | 0=>rfl
 | j+1=>by
   show (zYZ A (zSi A fan o j) (fan.getD j 0)).length=_;unfold zYZ;rw [zbY];exact zRL A fan o j
theorem z7I (A:Int) (fan:List Int) (o:List P3) (j:Nat):zSi A fan o (j+1)=(zSi A fan o j).set ((fan.getD j 0).tdiv 3).toNat (z5u ((zSi A fan o j).getD ((fan.getD j 0).tdiv 3).toNat (0,0,0)) ((fan.getD j 0).tmod 3).toNat A):=rfl
def zX7 (r:zAJ):Spec Nat where
 inv i:=i<=r.2.2.1.length
 live i:=[(59,.s (.int .i64 i))]
 keep:=[2,3,4,5,6,7,57,58]
 heap i:=[(3,.map y8 .arr3 (z5z r i))]
 keepH:=[0,1,2]
 mu i:=r.2.2.1.length - i
def zUa (n:Int) (l:List P3) (r:zAJ):Spec Nat where
 inv i:=i<=bkN (n,l) r/\kF (bkG r) i<=l.length
 live i:=[(77,.s (.int .i64 i)),(11,.s (.int .i64 (kF (bkG r) i)))]
 keep:=[2,3,4,5,6,7,10,76]
 heap i:=[(4,.flat 24 [.int .i64 (n+1),.own 5 0 (zJp (bkG r) l r.1 i).length]),(5,.row .arr3 86 (zJp (bkG r) l r.1 i))]
 keepH:=[0,1,2,3]
 mu i:=bkN (n,l) r - i
 nils:=[4]
def zYK (n:Int) (l:List P3) (r:zAJ):Spec Nat where
 inv j:=j<=r.2.2.2.2.length/\∀ k,k<j->0<=r.2.2.2.2.getD k 0/\r.2.2.2.2.getD k 0<3*(bkN (n,l) r:Int)
 live j:=[(125,.s (.int .i64 j))]
 keep:=[2,3,4,5,6,7,10,11,123,124]
 heap j:=[(5,.row .arr3 86 (zSi r.1 r.2.2.2.2 (zJp (bkG r) l r.1 (bkN (n,l) r)) j))]
 keepH:=[0,1,2,3,4]
 mu j:=r.2.2.2.2.length - j
theorem zV0 {n:Nat} {fan:List Int} {k:Nat} (hk:k<fan.length) (h:fan.getD k 0<0\/fan.getD k 0>=3*(n:Int)): ¬ zXx n fan=true:=fun e=>by
 unfold zXx at e;have:=zJ.1 e _ (jB hk);rw [zP] at this;omega
theorem z04 {n:Nat} {fan:List Int} (h: ∀ k,k<fan.length->0<=fan.getD k 0/\fan.getD k 0<3*(n:Int)):zXx n fan=true:=by
 unfold zXx;rw [zJ];intro c hc;obtain ⟨i,hi,e⟩:=yG.1 hc;have:=h i hi;rw [zR,zG hi] at this;have this:0<=fan[i]/\fan[i]<3*(n:Int):=this;rw [e] at this;rw [zP];exact this
theorem zSU {s:SoT} {r:zAJ} (h: ¬ (bkC s r/\kF (bkG r) (bkN s r)<=s.2.length/\zXx (bkN s r) r.2.2.2.2=true)):bkW s r= .tup [.agg [.int .i64 0,.val (.slice none 0 0)],.s (.bool false)]:=if_neg h
theorem z3H {s:SoT} {r:zAJ} (h:bkC s r/\kF (bkG r) (bkN s r)<=s.2.length/\zXx (bkN s r) r.2.2.2.2=true):bkW s r= .tup [qP.av (s.1+1,zSi r.1 r.2.2.2.2 (zJp (bkG r) s.2 r.1 (bkN s r)) r.2.2.2.2.length),.s (.bool (decide (kF (bkG r) (bkN s r)=s.2.length)))]:=by
 unfold bkW bkR;rw [if_pos h,if_pos h];rfl
theorem z2h {g:GoT} {j:Nat} (h:(jS (.int .i64) g (j:Int)).isSome=true):kF g (j+1)=kF g j:=by rw [z8T,if_pos h]
theorem zQ1 {g:GoT} {j:Nat} (h:(jS (.int .i64) g (j:Int)).isSome=false):kF g (j+1)=kF g j+1:=by rw [z8T,if_neg (by rw [h];simp)]
theorem zRM {g:GoT} {T:List P3} {A:Int} {j:Nat} (h:(jS (.int .i64) g (j:Int)).isSome=true):zJp g T A (j+1)=zJp g T A j++[(jS (.int .i64) g (j:Int)).getD (0,0,0)]:=by
 rw [z1k];unfold bkT;cases e:jS (.int .i64) g (j:Int) with
 | none=>rw [e] at h;cases h
 | some t=>rfl
theorem zOW {g:GoT} {T:List P3} {A:Int} {j:Nat} (h:(jS (.int .i64) g (j:Int)).isSome=false):zJp g T A (j+1)=zJp g T A j++[(upV A (T.getD (kF g j) (0,0,0)).1,upV A (T.getD (kF g j) (0,0,0)).2.1,upV A (T.getD (kF g j) (0,0,0)).2.2)]:=by
 rw [z1k];unfold bkT;cases e:jS (.int .i64) g (j:Int) with
 | none=>rfl
 | some t=>rw [e] at h;cases h
theorem zVH {A v:Int} (h:v>=A):upV A v=v+1:=if_pos h
theorem zVD {A v:Int} (h: ¬ v>=A):upV A v=v:=if_neg h
theorem zUk {n:Int} {l:List P3} {A B:Int} {at_:List Int} {ts:List P3} {fan:List Int} :bkC (n,l) (A,B,at_,ts,fan)↔at_.length=ts.length/\0<=A/\A<=n/\n<4096/\l.length+at_.length<=8192:=Iff.rfl
theorem z6L (A:Int) (fan:List Int) (o:List P3):zSi A fan o 0=o:=rfl
theorem z9m (g:GoT):kF g 0=0:=rfl
theorem z6U (A B:Int) (at_:List Int) (ts:List P3) (fan:List Int):z5z (A,B,at_,ts,fan) at_.length=bkG (A,B,at_,ts,fan):=rfl
attribute [local irreducible] bkW z5z kF zJp zSi bkG
theorem z3Y {fn} (n:Int) (l:List P3) (A B:Int) (at_:List Int) (ts:List P3) (fan:List Int) (hs:zBK (n,l)):zAG ⟨tyL,fn,[]⟩ f106 [qP.av (n,l),zG3.av (A,B,at_,ts,fan)] (fun r=>r=bkW (n,l) (A,B,at_,ts,fan)):=by
 have hf:=hs.fit;have hn:0<=n/\n<=4096:=⟨hf.1,hf.2.1⟩;have hl:l.length<=8192:=hf.2.2.1
 repeat' (conv=>whnf
          first|done|refine qy ?_|refine qG fun _=> ?_|refine qw (fun _=> ?_) (fun _=> ?_)|apply qt|refine qi (fun _=> ?_) (fun _=> ?_)|(refine zaB 6 rfl (zX7 (A,B,at_,ts,fan)) (0) ?_ ?_ ?_ fun i hi=> ?_)|with_reducible refine zaA (zX7 _) (i+1) ?_ ?_ ?_ ?_|(refine zdg 13 rfl ?_;refine Or.inr (zB (Nat) (zB (zUa n l (A,B,at_,ts,fan)) (zA (zB (0) (zA (yJ.out ?_) (zA ?_ (zA ?_ rfl)))) (fun j hj=> ?_)))))|with_reducible refine zaA (zUa _ _ _) (j+1) ?_ ?_ ?_ ?_|(refine zdg 20 rfl ?_;refine Or.inl (zB (4) ?_))|(refine zaB 30 rfl (zYK n l (A,B,at_,ts,fan)) (0) ?_ ?_ ?_ fun k hk=> ?_)|with_reducible refine zaA (zYK _ _ _) (k+1) ?_ ?_ ?_ ?_|refine qu ?_|refine qv ?_ ?_|exact zO)
 all_goals try first|refine qz ?_|apply qz5
 all_goals try simp only [qn0,z7,zX,ETy.dflt,Int.reduceToNat,Int.reduceAdd,Int.reduceSub,Int.reduceNeg,Nat.reduceAdd,zX7,zUa,zYK] at *
 all_goals have eN:bkN (n,l) (A,B,at_,ts,fan)=l.length+at_.length:=rfl
 all_goals try exact y9.intro (zSU (fun k=>by have c:=zUk.1 k.1;omega)).symm
 all_goals try exact z6b _
 all_goals try exact z6a _ _
 all_goals try exact z2c _ _ _
 all_goals try exact z7I _ _ _ _
 all_goals try (rw [z9m];rfl)
 all_goals try (rw [z2c];exact jL.intro rfl)
 all_goals try (refine yJ.intro ?_;omega)
 all_goals try (rw [z9m];exact yJ.intro ⟨zbH _,zbH _⟩)
 all_goals have ei:i=at_.length:=by omega
 all_goals subst ei
 all_goals try simp only [z6U] at *
 all_goals have eO:(zJp (bkG (A,B,at_,ts,fan)) l A j).length=j:=zRl _ _ _ _
 all_goals have hj1:=hj.1
 all_goals rw [eN] at hj1
 all_goals have hj2:=hj.2
 all_goals try (refine yJ.intro ?_;rw [eO];omega)
 all_goals try (refine yJ.intro ?_;unfold yP;omega)
 all_goals try
  have hit:(jS (.int .i64) (bkG (A,B,at_,ts,fan)) (j:Int)).isSome=true:=by assumption
  first
  | (rw [z2h hit];refine yJ.intro (zA ?_ ?_)<;>omega)
  | (rw [z2h hit];done)
  | exact zRM hit
  | (rw [zRM hit];exact jL.intro (by rw [zN];rfl))
 all_goals try
  have miss:(jS (.int .i64) (bkG (A,B,at_,ts,fan)) (j:Int)).isSome=false:=by assumption
  have e1:((kF (bkG (A,B,at_,ts,fan)) j:Nat):Int)=(l.length:Int):=by assumption
  refine y9.intro (zSU (fun k=> ?_)).symm;have k2:kF (bkG (A,B,at_,ts,fan)) (bkN (n,l) (A,B,at_,ts,fan))<=l.length:=k.2.1;have k3:=zYC (bkG (A,B,at_,ts,fan)) (i:=j+1) (j:=bkN (n,l) (A,B,at_,ts,fan)) (by omega);rw [zQ1 miss] at k3;omega
 all_goals try
  have miss:(jS (.int .i64) (bkG (A,B,at_,ts,fan)) (j:Int)).isSome=false:=by assumption
  have e1:((kF (bkG (A,B,at_,ts,fan)) j:Nat):Int)≠(l.length:Int):=by assumption
  have hk:kF (bkG (A,B,at_,ts,fan)) j<l.length:=by omega
  have ht:(0<=(l.getD (kF (bkG (A,B,at_,ts,fan)) j) (0,0,0)).1/\(l.getD (kF (bkG (A,B,at_,ts,fan)) j) (0,0,0)).1<n)/\(0<=(l.getD (kF (bkG (A,B,at_,ts,fan)) j) (0,0,0)).2.1/\(l.getD (kF (bkG (A,B,at_,ts,fan)) j) (0,0,0)).2.1<n)/\(0<=(l.getD (kF (bkG (A,B,at_,ts,fan)) j) (0,0,0)).2.2/\(l.getD (kF (bkG (A,B,at_,ts,fan)) j) (0,0,0)).2.2<n):=zAH (hf.2.2.2 _ hk)
  first
  | (rw [zQ1 miss];refine yJ.intro (zA ?_ ?_)<;>omega)
  | (refine yJ.intro (zA ?_ ?_)<;>omega)
  | (refine yJ.intro ?_;unfold yP;omega)
  | (rw [zQ1 miss];exact Int.natCast_add _ _)
  | (rw [zOW miss];exact jL.intro (by rw [zN];rfl))
  | (rw [zOW miss]
     first|rw [zVH (v:=(l.getD (kF (bkG (A,B,at_,ts,fan)) j) (0,0,0)).1) (by assumption)]|rw [zVD (v:=(l.getD (kF (bkG (A,B,at_,ts,fan)) j) (0,0,0)).1) (by assumption)]
     first|rw [zVH (v:=(l.getD (kF (bkG (A,B,at_,ts,fan)) j) (0,0,0)).2.1) (by assumption)]|rw [zVD (v:=(l.getD (kF (bkG (A,B,at_,ts,fan)) j) (0,0,0)).2.1) (by assumption)]
     first|rw [zVH (v:=(l.getD (kF (bkG (A,B,at_,ts,fan)) j) (0,0,0)).2.2) (by assumption)]|rw [zVD (v:=(l.getD (kF (bkG (A,B,at_,ts,fan)) j) (0,0,0)).2.2) (by assumption)]
     rfl)
 all_goals have ej:j=l.length+at_.length:=by omega
 all_goals subst ej
 all_goals try exact z6L _ _ _
 all_goals try (refine yJ.intro (zA (zbH _) ?_);intro k hk;omega)
 all_goals have hk2:=hk.2
 all_goals try
  have hkl:(k:Int)<fan.length:=by assumption
  have hkl:k<fan.length:=by omega
  first
  | exact y9.intro (zSU (fun q=>zV0 hkl (.inl (by assumption)) q.2.2)).symm
  | (have hge:fan.getD k 0>=3*((bkN (n,l) (A,B,at_,ts,fan):Nat):Int):=by rw [eN];omega
     exact y9.intro (zSU (fun q=>zV0 hkl (.inr hge) q.2.2)).symm)
 all_goals try
  have h0: ¬ fan.getD k 0<0:=by assumption
  have e3:(fan.getD k 0).tdiv 3=fan.getD k 0 / 3:=Int.tdiv_eq_ediv_of_nonneg (by omega);have e4:(fan.getD k 0).tmod 3=fan.getD k 0 % 3:=Int.tmod_eq_emod_of_nonneg (by omega);rw [eN] at hk2
  first
  | (rw [e3];refine yJ.intro (zA (by decide) ?_);unfold yP;omega)
  | (rw [e3];refine yJ.intro (zA ?_ ?_)<;>omega)
  | (rw [e4];refine yJ.intro (zA ?_ ?_)<;>omega)
  | (rw [eN]
     refine yJ.intro (zA ?_ ?_)
     ·omega
     ·intro q hq
      by_cases e:q=k
      ·subst e;omega
      ·have:=hk2 q (by omega);omega)
 all_goals
  have ek:k=fan.length:=by omega
  subst ek;have hC:bkC (n,l) (A,B,at_,ts,fan):=zUk.2 (by omega);have hF:zXx (bkN (n,l) (A,B,at_,ts,fan)) fan=true:=z04 hk2;refine y9.intro ?_;rw [z3H ⟨hC,by rw [eN];exact hj2,hF⟩];rw [zb6,zbT (by rw [zRL,zRl];rw [eO];exact zI _)]
  have e5:((kF (bkG (A,B,at_,ts,fan)) (l.length+at_.length):Int)==(l.length:Int))=decide (kF (bkG (A,B,at_,ts,fan)) (bkN (n,l) (A,B,at_,ts,fan))=l.length):=by
   rw [Bool.eq_iff_iff,beq_iff_eq,zP,eN];omega
  rw [e5];rfl
def backC:List AV->Option Res:=zCr qP zG3 (fun s r=>some (none,some (zBK s),bkV (bkR s r)))
theorem zXF:qM prog 106 backC:=mkR (jD fun s r q h=>by
 cases h
 exact zCn.res (fb (fn:=[]) trivial func106 fun _ h=>z3Y s.1 s.2 r.1 r.2.1 r.2.2.1 r.2.2.2.1 r.2.2.2.2 h) fun I v h=>z3h h) func106
end S1
namespace S1
theorem z15 (a b:Int) (l m:List P3):zAG ⟨tyL,[(140,zOQ)],[]⟩ f107 [qP.av (a,l),qP.av (b,m)] (fun r=>r= .s (.bool (eqS (a,l) (b,m)))):=by
 repeat' (conv=>whnf
          first|done|refine qy ?_|refine qG fun _=> ?_|refine qw (fun _=> ?_) (fun _=> ?_)|apply qt|refine qi (fun _=> ?_) (fun _=> ?_)|refine qu ?_|refine qv ?_ ?_|exact zO)
 all_goals try first|refine qz ?_|apply qz5
 all_goals try simp only [qn0,z7,zX,ETy.dflt,Int.reduceToNat,Int.reduceAdd,Int.reduceSub,Int.reduceNeg,Nat.reduceAdd,eqS,eqR] at *
 ·rename_i h;subst h;rw [decide_eq_decide];exact ⟨fun e=>by rw [e],fun e=>congrArg Prod.snd e⟩
 ·rename_i h;symm;rw [yM];exact fun e=>h (congrArg Prod.fst e)
def zNT:List AV->Option Res:=zCr qP qP (fun a b=>some (none,none,.s (.bool (eqS a b))))
theorem zQi:qM prog 107 zNT:=mkR (jD fun a b r h=>by cases h;exact fb (by exact ⟨zQq,trivial⟩) func107 fun _ _=>z15 a.1 b.1 a.2 b.2) func107
def zF7 (a b:zAJ):Bool:=decide (a.1=b.1)&&(decide (a.2.1=b.2.1)&&(eqL a.2.2.1 b.2.2.1&&(eqR a.2.2.2.1 b.2.2.2.1&&eqL a.2.2.2.2 b.2.2.2.2)))
theorem zFZ {a b:zAJ} :zF7 a b=true↔a=b:=by
 unfold zF7 eqL eqR;simp only [zC,zP];exact ⟨fun ⟨h1,h2,h3,h4,h5⟩=>Prod.ext h1 (Prod.ext h2 (Prod.ext h3 (Prod.ext h4 h5))),fun h=>by subst h;exact ⟨rfl,rfl,rfl,rfl,rfl⟩⟩
theorem z0t (a1 b1 a2 b2:Int) (t1 f1 t2 f2:List Int) (r1 r2:List P3):zAG ⟨tyL,[(140,zOQ),(141,zPU)],[]⟩ f108 [zG3.av (a1,b1,t1,r1,f1),zG3.av (a2,b2,t2,r2,f2)] (fun r=>r= .s (.bool (zF7 (a1,b1,t1,r1,f1) (a2,b2,t2,r2,f2)))):=by
 repeat' (conv=>whnf
          first|done|refine qy ?_|refine qG fun _=> ?_|refine qw (fun _=> ?_) (fun _=> ?_)|apply qt|refine qi (fun _=> ?_) (fun _=> ?_)|refine qu ?_|refine qv ?_ ?_|exact zO)
 all_goals try first|refine qz ?_|apply qz5
 all_goals try simp only [qn0,z7,zX,ETy.dflt,Int.reduceToNat,Int.reduceAdd,Int.reduceSub,Int.reduceNeg,Nat.reduceAdd] at *
 all_goals
  rw [Bool.eq_iff_iff,zFZ]
  try unfold eqL
  simp only [zP,yM,zbs,Bool.false_eq_true,false_iff] at *;simp [*]
def zOT:List AV->Option Res:=zCr zG3 zG3 (fun a b=>some (none,none,.s (.bool (zF7 a b))))
theorem zRc:qM prog 108 zOT:=mkR (jD fun a b r h=>by
 cases h;exact fb (fn:=[(140,zOQ),(141,zPU)]) ⟨zQq,zU1,trivial⟩ func108 fun _ _=>z0t a.1 a.2.1 b.1 b.2.1 a.2.2.1 a.2.2.2.2 b.2.2.1 b.2.2.2.2 a.2.2.2.1 b.2.2.2.1) func108
def zS4 (r:SoT×Int):AV:= .tup [qP.av r.1,.s (.int .i64 r.2)]
def zMr (r:SoT×Int):AV:=if r.2=0 then zS4 r else .tup [.agg [.int .i64 0,.val (.slice none 0 0)],.s (.int .i64 r.2)]
theorem z0H (s:SoT) (r:zAJ) (h:(zBe s r).2≠0):(zBe s r).1=(0,[]):=by
 unfold zBe at *;split
 ·rename_i hh;rw [dif_pos hh] at h;exact absurd rfl h
 ·rfl
theorem zNp {I:Sig} {s:SoT} {r:zAJ} {v:Value} (h:y6 I [] (zMr (zBe s r)) v):y6 I [] (zS4 (zBe s r)) v:=by
 unfold zMr at h;split at h
 ·exact h
 ·rename_i hn;have e:=z0H s r hn;obtain ⟨vs,e1,h⟩:=h;unfold zS4;rw [e]
  match vs,h with
  | [x,y],⟨⟨ds,ea,h1⟩,h3⟩ =>
    refine ⟨_,e1,⟨ds,ea,?_⟩,h3⟩
    match ds,h1 with
    | [d1,d2],⟨k1,k2,k3⟩=>exact ⟨k1,zIo k2,k3⟩
theorem z5c {s:SoT} {r:zAJ} (hs:zBK s) (h: ∀ w,bkR s r=(w,true)->doR w r.1 r.2.1≠(s,r,0)):zMr (zBe s r)= .tup [.agg [.int .i64 0,.val (.slice none 0 0)],.s (.int .i64 3)]:=by
 rw [z4K hs h];rfl
theorem z0I {s:SoT} {r:zAJ} (h:zHP s=none):zMr (zBe s r)= .tup [.agg [.int .i64 0,.val (.slice none 0 0)],.s (.int .i64 11)]:=by
 rw [zZa h];rfl
theorem z3j {s w:SoT} {r:zAJ} (h:doR w r.1 r.2.1=(s,r,0)):zMr (zBe s r)= .tup [qP.av w,.s (.int .i64 0)]:=by
 rw [zSW h];rfl
theorem zYS {a b:SoT} :eqS a b=true↔a=b:=by unfold eqS;exact decide_eq_true_iff
theorem zHy (a:SoT):eqS a a=true:=zYS.2 rfl
theorem zMq (a:zAJ):zF7 a a=true:=zFZ.2 rfl
attribute [local irreducible] zMr bkR doR eqS zF7 zD4
theorem z0w (n:Int) (l:List P3) (A B:Int) (at_:List Int) (ts:List P3) (fan:List Int) (x:yI.T) (hx:zHP (n,l)=some x):zAG ⟨tyL,[(54,zKs x),(100,zMX),(106,backC),(65,z5p),(107,zNT),(108,zOT)],[]⟩ f68 [qP.av (n,l),zG3.av (A,B,at_,ts,fan)] (fun v=>v=zMr (zBe (n,l) (A,B,at_,ts,fan))):=by
 obtain ⟨e0,g,hs⟩:=zHj hx
 repeat' (conv=>whnf
          first|done|refine qy ?_|refine qG fun _=> ?_|refine qw (fun _=> ?_) (fun _=> ?_)|apply qt|refine qi (fun _=> ?_) (fun _=> ?_)|refine qu ?_|refine qv ?_ ?_|exact zO)
 all_goals try first|refine qz ?_|apply qz5
 all_goals try simp only [qn0,z7,zX,ETy.dflt,Int.reduceToNat,Int.reduceAdd,Int.reduceSub,Int.reduceNeg,Nat.reduceAdd] at *
 all_goals try exact absurd (zND hs) (by rw [show zD4 (n,l)=false by assumption];decide)
 all_goals try
  refine y9.intro (z5c hs (fun w hw hd=> ?_)).symm;have hd:doR w A B=((n,l),(A,B,at_,ts,fan),0):=hd;simp only [hw,hd,zHy,zMq,ne_eq,not_true_eq_false,Bool.true_eq_false,reduceCtorEq] at *
  done
 all_goals
  have h3:(doR (bkR (n,l) (A,B,at_,ts,fan)).1 A B).2.2=0:=by assumption
  have h1:eqS (doR (bkR (n,l) (A,B,at_,ts,fan)).1 A B).1 (n,l)=true:=by assumption
  have h2:zF7 (doR (bkR (n,l) (A,B,at_,ts,fan)).1 A B).2.1 (A,B,at_,ts,fan)=true:=by assumption
  have h:doR (bkR (n,l) (A,B,at_,ts,fan)).1 A B=((n,l),(A,B,at_,ts,fan),0):=Prod.ext (zYS.1 h1) (Prod.ext (zFZ.1 h2) h3);exact y9.intro (z3j h).symm
theorem zXy (n:Int) (l:List P3) (r:zAJ) (hx:zHP (n,l)=none):zAG ⟨tyL,[(54,zVC),(100,zMX),(106,backC),(65,z5p),(107,zNT),(108,zOT)],[]⟩ f68 [qP.av (n,l),zG3.av r] (fun v=>v=zMr (zBe (n,l) r)):=by
 have e:=z0I (r:=r) hx
 repeat' (conv=>whnf
          first|done|refine qy ?_|refine qG fun _=> ?_|refine qw (fun _=> ?_) (fun _=> ?_)|apply qt|refine qi (fun _=> ?_) (fun _=> ?_)|refine qu ?_|refine qv ?_ ?_|exact zO)
 all_goals try first|refine qz ?_|apply qz5
 all_goals try simp only [qn0,z7,zX,ETy.dflt,Int.reduceToNat,Int.reduceAdd,Int.reduceSub,Int.reduceNeg,Nat.reduceAdd] at *
 all_goals try exact yJ.intro hx
 all_goals exact y9.intro e.symm
noncomputable def zWc:List AV->Option Res:=zCr qP zG3 (fun s r=>some (none,none,zS4 (zBe s r)))
theorem zYz:qM prog 68 zWc:=mkR (jD fun s r q h=>by
 cases h;cases e:zHP s with
 | none=>exact zCn.res (fb (fn:=[(54,zVC),(100,zMX),(106,backC),(65,z5p),(107,zNT),(108,zOT)]) ⟨zXB,zL5,zXF,zVA,zQi,zRc,trivial⟩ func68 fun _ _=>zXy s.1 s.2 r e) fun I v h=>zNp h
 | some x=>exact zCn.res (fb (fn:=[(54,zKs x),(100,zMX),(106,backC),(65,z5p),(107,zNT),(108,zOT)]) ⟨(zMB x),zL5,zXF,zVA,zQi,zRc,trivial⟩ func68 fun _ _=>z0w s.1 s.2 r.1 r.2.1 r.2.2.1 r.2.2.2.1 r.2.2.2.2 x e) fun I v h=>zNp h) func68
end S1
