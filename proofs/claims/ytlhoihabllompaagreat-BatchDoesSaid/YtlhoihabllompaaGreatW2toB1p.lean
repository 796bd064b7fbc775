/- A part of the proofs of the laws. -/
import Derived.Test.YtlhoihabllompaaGreatFan1toF7
import Derived.Test.YtlhoihabllompaaGreatT0toVmInl
import Derived.Test.YtlhoihabllompaaGreatT5toT22
set_option linter.unusedSimpArgs false
set_option linter.unusedVariables false
set_option maxHeartbeats 8000000
set_option maxRecDepth 100000
open Go.Proofs.Tryz
open Go Go.Vm Go.Proofs
namespace S1
theorem zDg {l:List P3} (hn:l.Nodup) {i j:Nat} (hi:i<l.length) (hj:j<l.length) (e:tg l i=tg l j):i=j:=by
 unfold tg at e;rw [gdE,gdE,gE hi,gE hj] at e;have e:l[i]=l[j]:=e;have key: ∀ p q (hp:p<l.length) (hq:q<l.length),p<q->l[p]≠l[q]:=fun p q hp hq h=>List.pairwise_iff_getElem.1 hn p q hp hq h;rcases Nat.lt_trichotomy i j with h|h|h
 ·exact absurd e (key i j hi hj h)
 ·exact h
 ·exact absurd e.symm (key j i hj hi h)
theorem zLX {l:List P3} (hn:l.Nodup) {v:Int} :z6C l v↔z8I l v:=by
 constructor
 ·intro h Q hQ t ht tv hq u hu uv;obtain ⟨i,hi,ei⟩:=zAO ht;obtain ⟨j,hj,ej⟩:=zAO hu;have:=h (fun k=>Q (tg l k)) (fun p q hp hq pv qv hw k=>hQ _ (qI hp) _ (qI hq) pv qv hw k) i hi (by rw [ei];exact tv) (by show Q (tg l i);rw [ei];exact hq) j hj (by rw [ej];exact uv);have this:Q (tg l j):=this;rw [ej] at this;exact this
 ·intro h Q hQ i hi iv hq j hj jv
  obtain ⟨k,hk,ek,qk⟩:=h (fun t=> ∃ i,i<l.length/\tg l i=t/\Q i) (fun t ht u hu tv uv hw ⟨p,hp,ep,qp⟩=>by
   obtain ⟨q,hq,eq⟩:=zAO hu;refine ⟨q,hq,eq,hQ p q hp hq (by show z8 (tg l p) v;rw [ep];exact tv) (by show z8 (tg l q) v;rw [eq];exact uv) ?_ qp⟩;obtain ⟨w,w1,w2,w3⟩:=hw
   exact ⟨w,w1,by show z8 (tg l p) w;rw [ep];exact w2,by show z8 (tg l q) w;rw [eq];exact w3⟩) _ (qI hi) iv ⟨i,hi,rfl,hq⟩ _ (qI hj) jv
  rw [<- zDg hn hk hj ek];exact qk
abbrev InN (n:Int):Int->Prop:=fun v=>0<=v/\v<n
theorem zAc {s:Int×List P3} (h:zBK s):jV (InN s.1) s.2:=by
 have hn:s.2.Nodup:=by
  refine List.pairwise_iff_getElem.2 fun i j hi hj hij e=> ?_;obtain ⟨w,hw⟩:=zRY (t:=tg s.2 i) (.inl rfl);refine h.dif i j hij hj _ _ hw ?_
  have:tg s.2 i=tg s.2 j:=by
   unfold tg;rw [gdE,gdE,gE hi,gE hj];exact e
  rw [<- this];exact hw
 have two: ∀ t∈s.2,∀ u∈s.2,t≠u->∃ i j,i<s.2.length/\j<s.2.length/\i≠j/\tg s.2 i=t/\tg s.2 j=u:=fun t ht u hu hne=>by
  obtain ⟨i,hi,ei⟩:=zAO ht;obtain ⟨j,hj,ej⟩:=zAO hu;exact ⟨i,j,hi,hj,fun e=>hne (by rw [<- ei,<- ej,e]),ei,ej⟩
 refine ⟨hn,fun t ht v hv=> ?_,fun t ht=> ?_,fun t ht u hu hne a b h1 h2=> ?_,fun t ht u hu hne hh=> ?_,fun v hv=> ?_,fun v hv=> ?_⟩
 ·obtain ⟨i,hi,ei⟩:=zAO ht;exact zZG h.fit hi (by rw [ei];exact hv)
 ·obtain ⟨i,hi,ei⟩:=zAO ht;rw [<- ei];exact h.deg i hi
 ·obtain ⟨i,j,hi,hj,hij,ei,ej⟩:=two t ht u hu hne;rw [<- ei] at h1;rw [<- ej] at h2;rcases Nat.lt_or_gt_of_ne hij with k|k
  ·exact h.dif i j k hj a b h1 h2
  ·exact h.dif j i k hi a b h2 h1
 ·obtain ⟨i,j,hi,hj,hij,ei,ej⟩:=two t ht u hu hne;rcases Nat.lt_or_gt_of_ne hij with k|k
  ·rw [<- ei,<- ej] at hh;exact h.mir i j k hj hh
  ·-- the other way round: three vertices each
   have hd:=h.deg i hi;rw [ei] at hd;have hd2:=h.deg j hj;rw [ej] at hd2
   have key:z8 t u.1/\z8 t u.2.1/\z8 t u.2.2:=by
    obtain ⟨x,y,z⟩:=t;obtain ⟨p,q,r⟩:=u;unfold z8 at *;unfold dgn at *;simp only at *;omega
   rw [<- ei,<- ej] at key;exact h.mir j i k hi key
 ·obtain ⟨j,hj,hv2⟩:=h.use v.toNat (by rw [zAC hv.1];exact hv.2);rw [zAC hv.1] at hv2;exact ⟨_,qI hj,hv2⟩
 ·have:=h.pin v.toNat (by rw [zAC hv.1];exact hv.2);rw [zAC hv.1] at this;exact (zLX hn).1 this
theorem zZu {n:Int} {l:List P3} (h0:0<=n) (h1:n<=4096) (h2:l.length<=8192) (h:jV (InN n) l):zBK (n,l):=by
 refine ⟨⟨h0,h1,h2,fun i hi=> ?_⟩,fun i hi=>h.deg _ (qI hi),fun i j hij hj a b k1 k2=> ?_,fun i j hij hj hh=> ?_,fun v hv=> ?_,fun v hv=> ?_⟩
 ·have e1:=h.ent (tg l i) (qI hi) _ (.inl rfl);have e2:=h.ent (tg l i) (qI hi) _ (.inr (.inl rfl));have e3:=h.ent (tg l i) (qI hi) _ (.inr (.inr rfl));show zCm n (tg l i)=true;refine zG0 ?_;unfold InN at e1 e2 e3;omega
 ·have hj:j<l.length:=hj;exact h.dif _ (qI (show i<l.length by omega)) _ (qI hj) (fun e=>by have:=zDg h.nd (show i<l.length by omega) hj e;omega) a b k1 k2
 ·have hj:j<l.length:=hj;exact h.mir _ (qI (show i<l.length by omega)) _ (qI hj) (fun e=>by have:=zDg h.nd (show i<l.length by omega) hj e;omega) hh
 ·have hv:(v:Int)<n:=hv;obtain ⟨t,ht,tv⟩:=h.use v ⟨by omega,hv⟩;obtain ⟨j,hj,ej⟩:=zAO ht;exact ⟨j,hj,by show z8 (tg l j) v;rw [ej];exact tv⟩
 ·have hv:(v:Int)<n:=hv;exact (zLX h.nd).2 (h.pin v ⟨by omega,hv⟩)
def zDo (r:Int->Int) (t:P3):P3:=(r t.1,r t.2.1,r t.2.2)
theorem zAm {r:Int->Int} {t:P3} {u:Int} :z8 (zDo r t) u↔∃ v,z8 t v/\r v=u:=by
 constructor
 ·rintro (e|e|e)
  ·exact ⟨_,.inl rfl,e⟩
  ·exact ⟨_,.inr (.inl rfl),e⟩
  ·exact ⟨_,.inr (.inr rfl),e⟩
 ·rintro ⟨v,e|e|e,rfl⟩
  ·exact .inl (by rw [<- e];rfl)
  ·exact .inr (.inl (by rw [<- e];rfl))
  ·exact .inr (.inr (by rw [<- e];rfl))
theorem zX5 {r:Int->Int} {t:P3} {p q:Int} :dE (zDo r t) p q↔∃ p0 q0,dE t p0 q0/\r p0=p/\r q0=q:=by
 constructor
 ·rintro (⟨e1,e2⟩|⟨e1,e2⟩|⟨e1,e2⟩)
  ·exact ⟨_,_,.inl ⟨rfl,rfl⟩,e1,e2⟩
  ·exact ⟨_,_,.inr (.inl ⟨rfl,rfl⟩),e1,e2⟩
  ·exact ⟨_,_,.inr (.inr ⟨rfl,rfl⟩),e1,e2⟩
 ·rintro ⟨p0,q0,⟨e1,e2⟩|⟨e1,e2⟩|⟨e1,e2⟩,rfl,rfl⟩
  ·exact .inl ⟨by rw [<- e1];rfl,by rw [<- e2];rfl⟩
  ·exact .inr (.inl ⟨by rw [<- e1];rfl,by rw [<- e2];rfl⟩)
  ·exact .inr (.inr ⟨by rw [<- e1];rfl,by rw [<- e2];rfl⟩)
theorem zWi {V W:Int->Prop} {l:List P3} (h:jV V l) (r:Int->Int) (hr: ∀ v,V v->W (r v)) (hi: ∀ v w,V v->V w->r v=r w->v=w) (ho: ∀ u,W u->∃ v,V v/\r v=u):jV W (l.map (zDo r)):=by
 have inj: ∀ t∈l,∀ u∈l,zDo r t=zDo r u->t=u:=fun t ht u hu e=>by
  have e1:=congrArg Prod.fst e;have e2:=congrArg (fun p=>p.2.1) e;have e3:=congrArg (fun p=>p.2.2) e;exact Prod.ext (hi _ _ (h.ent t ht _ (.inl rfl)) (h.ent u hu _ (.inl rfl)) e1) (Prod.ext (hi _ _ (h.ent t ht _ (.inr (.inl rfl))) (h.ent u hu _ (.inr (.inl rfl))) e2) (hi _ _ (h.ent t ht _ (.inr (.inr rfl))) (h.ent u hu _ (.inr (.inr rfl))) e3))
 have back: ∀ {t:P3} {v:Int},t∈l->V v->(z8 (zDo r t) (r v)↔z8 t v):=fun {t v} ht hv=>by
  rw [zAm];exact ⟨fun ⟨w,hw,e⟩=>by rw [<- hi w v (h.ent t ht w hw) hv e];exact hw,fun k=>⟨v,k,rfl⟩⟩
 refine ⟨?_,fun t' ht' u hu=> ?_,fun t' ht'=> ?_,fun t' ht' u' hu' hne p q h1 h2=> ?_,fun t' ht' u' hu' hne hh=> ?_,fun u hu=> ?_,fun u hu=> ?_⟩
 ·exact List.Pairwise.map _ (fun t u hh e=>hh.1 (inj t hh.2.1 u hh.2.2 e)) (h.nd.imp_of_mem (S:=fun t u=>t≠u/\t∈l/\u∈l) fun ht hu hn=>⟨hn,ht,hu⟩)
 ·obtain ⟨t,ht,rfl⟩:=yC.1 ht';obtain ⟨v,hv,rfl⟩:=zAm.1 hu;exact hr v (h.ent t ht v hv)
 ·obtain ⟨t,ht,rfl⟩:=yC.1 ht';have hd:=h.deg t ht;rintro (e|e|e)
  ·exact hd (.inl (hi _ _ (h.ent t ht _ (.inl rfl)) (h.ent t ht _ (.inr (.inl rfl))) e))
  ·exact hd (.inr (.inl (hi _ _ (h.ent t ht _ (.inr (.inl rfl))) (h.ent t ht _ (.inr (.inr rfl))) e)))
  ·exact hd (.inr (.inr (hi _ _ (h.ent t ht _ (.inr (.inr rfl))) (h.ent t ht _ (.inl rfl)) e)))
 ·obtain ⟨t,ht,rfl⟩:=yC.1 ht';obtain ⟨u,hu,rfl⟩:=yC.1 hu';obtain ⟨p0,q0,d0,e1,e2⟩:=zX5.1 h1;obtain ⟨p1,q1,d1,e3,e4⟩:=zX5.1 h2;have k1:=hi _ _ (h.ent t ht _ (jN d0).1) (h.ent u hu _ (jN d1).1) (e1.trans e3.symm);have k2:=hi _ _ (h.ent t ht _ (jN d0).2) (h.ent u hu _ (jN d1).2) (e2.trans e4.symm);rw [<- k1,<- k2] at d1;exact h.dif t ht u hu (fun e=>hne (by rw [e])) _ _ d0 d1
 ·obtain ⟨t,ht,rfl⟩:=yC.1 ht';obtain ⟨u,hu,rfl⟩:=yC.1 hu';exact h.mir t ht u hu (fun e=>hne (by rw [e])) ⟨(back hu (h.ent t ht _ (.inl rfl))).1 hh.1,(back hu (h.ent t ht _ (.inr (.inl rfl)))).1 hh.2.1,(back hu (h.ent t ht _ (.inr (.inr rfl)))).1 hh.2.2⟩
 ·obtain ⟨v,hv,rfl⟩:=ho u hu;obtain ⟨t,ht,tv⟩:=h.use v hv;exact ⟨_,yC.2 ⟨t,ht,rfl⟩,(back ht hv).2 tv⟩
 ·obtain ⟨v,hv,rfl⟩:=ho u hu;intro Q hQ t' ht' tv' hq u' hu' uv';obtain ⟨t,ht,rfl⟩:=yC.1 ht';obtain ⟨u,hu,rfl⟩:=yC.1 hu';refine h.pin v hv (fun s=>Q (zDo r s)) (fun s hs q hq2 sv qv ⟨w,wv,sw,qw⟩ k=> ?_) t ht ((back ht hv).1 tv') hq u hu ((back hu hv).1 uv');exact hQ _ (yC.2 ⟨s,hs,rfl⟩) _ (yC.2 ⟨q,hq2,rfl⟩) ((back hs hv).2 sv) ((back hq2 hv).2 qv) ⟨r w,fun e=>wv (hi _ _ (h.ent s hs w sw) hv e),zAm.2 ⟨w,sw,rfl⟩,zAm.2 ⟨w,qw,rfl⟩⟩ k
def dn (a v:Int):Int:=if v>a then v - 1 else v
theorem z7S {n a:Int} (ha:0<=a/\a<n) {l:List P3} (h:jV (fun v=>InN n v/\v≠a) l):jV (InN (n - 1)) (l.map (zDo (dn a))):=by
 refine zWi h (dn a) (fun v hv=> ?_) (fun v w hv hw e=> ?_) fun u hu=> ?_
 ·obtain ⟨hv,hne⟩:=hv;unfold InN at *;unfold dn;split<;>omega
 ·have h1:=hv.2;have h2:=hw.2;unfold dn at e;split at e<;>split at e<;>omega
 ·unfold InN at hu
  by_cases k:u>=a
  ·exact ⟨u+1,⟨⟨by omega,by omega⟩,by omega⟩,by unfold dn;rw [if_pos (by omega)];omega⟩
  ·exact ⟨u,⟨⟨by omega,by omega⟩,by omega⟩,by unfold dn;rw [if_neg (by omega)]⟩
end S1
namespace S1
theorem zQW {x:yI.T} {a b:Int} (h:zDV x a b=0):zAQ x a b=true/\¬ ((zDf x a b).length=2/\zAY x a=false/\zAY x b=false)/\zB2 x a=false:=by
 unfold zDV at h;split at h
 ·cases h
 ·rename_i h1;split at h
  ·cases h
  ·rename_i h2;split at h
   ·cases h
   ·split at h
    ·cases h
    ·rename_i h4;exact ⟨by simpa using h1,h2,by simpa using h4⟩
theorem zCk {x:yI.T} (g:Full x) {a b:Int} :qJ x (a,b)>=0↔eE x.1.2 a b:=by
 rw [zED];constructor
 ·intro h;unfold qJ at h;cases e:jS .arr2 x.2.1 (a,b) with
  | none=>rw [e] at h;exact absurd h (by decide)
  | some c=>exact ⟨c,g.map _ _ e⟩
 ·rintro ⟨d,h1,h2⟩;rw [<- h2,g.facing h1];exact (yH.1 h1).1
theorem zHo {x:yI.T} (g:Full x) {a b:Int} (h1:eE x.1.2 a b) (h2:eE x.1.2 b a):(zDf x a b).length=2:=by
 unfold zDf;rw [if_pos ((zCk g).2 h1),if_pos ((zCk g).2 h2)];rfl
theorem zCy {t:P3} {a b:Int} (hab:a≠b) (h1:z8 t a) (h2:z8 t b):dE t a b\/dE t b a:=by
 obtain ⟨x,y,z⟩:=t;unfold z8 at h1 h2;unfold dE;simp only at *;rcases h1 with e1|e1|e1<;>rcases h2 with e2|e2|e2<;>first|(exfalso;omega)|(subst e1 e2;simp)
theorem zEM {t:P3} (hd: ¬ dgn t) {a b:Int} (h1:dE t a b) (h2:dE t b a):False:=by
 unfold dgn at hd;unfold dE at h1 h2;omega
theorem zBj {x:yI.T} (g:Full x) {a v:Int} (hav:a≠v):zAQ x a v=true↔∃ t∈x.1.2,z8 t a/\z8 t v:=by
 rw [zHf g];constructor
 ·rintro ⟨d,d1,d2⟩;have k:=zFH d1;refine ⟨_,qI k.1,?_⟩;have:=jN k.2;rcases d2 with e|e
  ·rw [e] at this;exact this
  ·rw [e] at this;exact this.symm
 ·rintro ⟨t,ht,h1,h2⟩;rcases zCy hav h1 h2 with e|e
  ·obtain ⟨d,d1,d2⟩:=zED.1 (zDh.2 ⟨t,ht,e⟩);exact ⟨d,d1,.inl d2⟩
  ·obtain ⟨d,d1,d2⟩:=zED.1 (zDh.2 ⟨t,ht,e⟩);exact ⟨d,d1,.inr d2⟩
theorem zWu {x:yI.T} (g:Full x) {a b v:Int} (h:v∈zDf x a b): ∃ t∈x.1.2,z8 t a/\z8 t b/\z8 t v:=by
 have key: ∀ {p q:Int},qJ x (p,q)>=0->yS x (qJ x (p,q))=v->∃ t∈x.1.2,z8 t p/\z8 t q/\z8 t v:=fun {p q} h1 h2=>by
  unfold qJ at h1 h2;cases e:jS .arr2 x.2.1 (p,q) with
  | none=>rw [e] at h1;exact absurd h1 (by decide)
  | some c =>
    rw [e] at h2;have h2:yS x c=v:=h2;obtain ⟨k1,k2⟩:=g.map _ _ e;have k:=zFH k1;rw [k2] at k;have kv:=zAw k1;rw [h2] at kv;exact ⟨_,qI k.1,(jN k.2).1,(jN k.2).2,kv.2⟩
 unfold zDf at h;rcases yD.1 h with h|h
 ·split at h
  ·exact key (by assumption) (zF.1 h).symm
  ·cases h
 ·split at h
  ·obtain ⟨t,ht,h1,h2,h3⟩:=key (by assumption) (zF.1 h).symm;exact ⟨t,ht,h2,h1,h3⟩
  ·cases h
theorem zLF {x:yI.T} (g:Full x) {i j:Nat} :Adj x i j↔i<x.1.2.length/\j<x.1.2.length/\∃ p q,dE (tg x.1.2 i) p q/\dE (tg x.1.2 j) q p:=by
 constructor
 ·rintro ⟨c,c1,c2,c3,c4⟩;obtain ⟨k1,k2,k3,k4⟩:=g.opp_v (c:=c) c3;have e1:=zFH c1;have e2:=zFH k2;rw [c2] at e1;rw [c4] at e2;refine ⟨e1.1,e2.1,(jR x c).1,(jR x c).2,e1.2,?_⟩;have e3:jR x (zAI x c)=((jR x c).2,(jR x c).1):=Prod.ext k3 k4;rw [e3] at e2;exact e2.2
 ·rintro ⟨hi,hj,p,q,h1,h2⟩;obtain ⟨c,c1,c2,c3⟩:=zHH hi h1;obtain ⟨d,d1,d2,d3⟩:=zHH hj h2;have e:zAI x c=d:=g.opp_is d1 (by rw [c2,d2]);exact ⟨c,c1,c3,by rw [e];exact (yH.1 d1).1,by rw [e];exact d3⟩
theorem zFn {x:yI.T} (g:Full x) {i j:Nat} (hi:i<x.1.2.length) (hj:j<x.1.2.length) {v:Int} (h1:z8 (tg x.1.2 i) v) (h2:z8 (tg x.1.2 j) v) (hs:jV (InN x.1.1) x.1.2):zJ5 (Adj x) i j:=by
 have hv:=hs.ent _ (qI hi) v h1;refine (zLX hs.nd).2 (hs.pin v hv) (fun k=>zJ5 (Adj x) i k) (fun p q hp hq pv qv ⟨w,wv,pw,qw⟩ k=> ?_) i hi h1 (.refl _) j hj h2
 by_cases e:p=q
 ·subst e;exact k
 ·refine .step k ((zLF g).2 ⟨hp,hq,?_⟩);have ne:tg x.1.2 p≠tg x.1.2 q:=fun e'=>e (zDg hs.nd hp hq e');rcases zCy wv pw pv with a|a<;>rcases zCy wv qw qv with b|b
  ·exact absurd b (hs.dif _ (qI hp) _ (qI hq) ne _ _ a)
  ·exact ⟨_,_,a,b⟩
  ·exact ⟨_,_,a,b⟩
  ·exact absurd b (hs.dif _ (qI hp) _ (qI hq) ne _ _ a)
theorem zMK (x:yI.T) (m:Int): ∀ k,(smS x m k).1=(((List.range k).filter fun i=>decide ((ofR x).getD i 0=m)).length:Int)
 | 0=>rfl
 | k +1=>by
   rw [List.range_succ,zbx]
   by_cases h:(ofR x).getD k 0=m
   ·rw [zIX h];show (smS x m k).1+1=_;rw [zMK x m k,zbP (by simpa using h)];simp
   ·rw [zO3 h,zMK x m k,zb3 (by simpa using h)];simp
theorem zR0 (x:yI.T) (i:Nat) (b:Bool): ∀ c,qA (smC x i) b c=true↔b=true\/∃ d:Nat,d<c/\zAI x (3*i+d)<0
 | 0=>⟨.inl,fun h=>by rcases h with h|⟨d,h,_⟩;exact h;omega⟩
 | c + 1=>by
   rw [z4Q,zbA,zR0 x i b c,zP];constructor
   ·rintro ((h|⟨d,h1,h2⟩)|h)
    ·exact .inl h
    ·exact .inr ⟨d,by omega,h2⟩
    ·exact .inr ⟨c,by omega,h⟩
   ·rintro (h|⟨d,h1,h2⟩)
    ·exact .inl (.inl h)
    ·by_cases e:d=c
     ·subst e;exact .inr h2
     ·exact .inl (.inr ⟨d,by omega,h2⟩)
theorem zHt (x:yI.T) (m:Int): ∀ k,(smS x m k).2=true↔∃ i,i<k/\(ofR x).getD i 0=m/\∃ d:Nat,d<3/\zAI x (3*i+d)<0
 | 0=>⟨fun h=>(by cases h),fun ⟨i,h,_⟩=>by omega⟩
 | k + 1=>by
   by_cases h:(ofR x).getD k 0=m
   ·rw [zIX h];show qA (smC x k) (smS x m k).2 3=true↔_;rw [zR0,zHt x m k];constructor
    ·rintro (⟨i,h1,h2⟩|h1)
     ·exact ⟨i,by omega,h2⟩
     ·exact ⟨k,by omega,h,h1⟩
    ·rintro ⟨i,h1,h2,h3⟩
     by_cases e:i=k
     ·subst e;exact .inr h3
     ·exact .inl ⟨i,by omega,h2,h3⟩
   ·rw [zO3 h,zHt x m k];constructor
    ·rintro ⟨i,h1,h2⟩;exact ⟨i,by omega,h2⟩
    ·rintro ⟨i,h1,h2,h3⟩;refine ⟨i,?_,h2,h3⟩
     by_cases e:i=k
     ·subst e;exact absurd h2 h
     ·omega
theorem zLY (k l:List Nat) (hn:k.Nodup) (h: ∀ i∈k,i∈l):k.length<=l.length:=by
 have:=zBx (k.map fun i=>((i:Nat):Int)) (l.map fun i=>((i:Nat):Int)) (List.Pairwise.map _ (fun i j hij e=>hij (by omega)) hn) fun v hv=>by
  obtain ⟨i,hi,rfl⟩:=yC.1 hv;exact yC.2 ⟨i,h i hi,rfl⟩
 simpa using this
theorem zJG {x:yI.T} (g:Full x) (hs:jV (InN x.1.1) x.1.2) {a:Int} (ha:InN x.1.1 a) {S:List Nat} (hn:S.Nodup) {i0:Nat} (h0:i0∈S) (hv:z8 (tg x.1.2 i0) a) (hl: ∀ i∈S,i<x.1.2.length) (hc: ∀ i∈S,∀ j,Adj x i j->j∈S) (hk: ∀ i∈S,zJ5 (Adj x) i0 i) :
 (smS x (smM x a) (ofR x).length).1=(S.length:Int)/\∀ i,i<x.1.2.length->((ofR x).getD i 0=smM x a↔i∈S):=by
 have hlen:=zMO g.toGood;obtain ⟨c1,c2⟩:=g.vtx a ha.1 ha.2;have kt:=zAw c1;rw [c2] at kt
 have hlab:(ofR x).getD i0 0=smM x a:=by
  unfold smM;exact (zGP g (hl _ h0) kt.1).2 (zFn g (hl _ h0) kt.1 hv kt.2 hs)
 have hmem: ∀ i,i<x.1.2.length->((ofR x).getD i 0=smM x a↔i∈S):=fun i hi=>by
  rw [<- hlab,eq_comm,zGP g (hl _ h0) hi];constructor
  ·intro k
   induction k with
   | refl=>exact h0
   | step _ a ih=>exact hc _ (ih (zNu g.toGood a).1) _ a
  ·exact fun k=>hk i k
 refine ⟨?_,hmem⟩;rw [zMK,hlen]
 have e:((List.range x.1.2.length).filter fun i=>decide ((ofR x).getD i 0=smM x a)).length=S.length:=by
  apply Nat.le_antisymm
  ·refine zLY _ _ (List.nodup_range.sublist List.filter_sublist) fun i hi=> ?_;obtain ⟨k1,k2⟩:=zb5.1 hi;exact (hmem i (zV.1 k1)).1 (by simpa using k2)
  ·refine zLY _ _ hn fun i hi=>zb5.2 ⟨zV.2 (hl i hi),by simpa using (hmem i (hl i hi)).2 hi⟩
 rw [e]
end S1
namespace S1
theorem z2b {x:yI.T} {d:Int} (h:j6 x d=true):(qY x d / 3).toNat=(d / 3).toNat:=by
 rw [zAg h];unfold trn;omega
theorem z2F {x:yI.T} {d:Int} (h:j6 x d=true):(qV x d / 3).toNat=(d / 3).toNat:=by
 rw [zBP h];unfold trn;omega
theorem rot {x:yI.T} (g:Full x) {c d:Int} (hin:zAY x c=true) {s1 s2:P3} (h1:s1∈x.1.2) (h2:s2∈x.1.2) (e1:dE s1 d c) (e2:dE s2 c d) (Q:P3->Prop)
 (hQ: ∀ s∈x.1.2,∀ r∈x.1.2,z8 s c->z8 r c->(∃ w:Int,w≠c/\w≠d/\z8 s w/\z8 r w)->Q s->Q r):Q s1↔Q s2:=by
 have hno:=((zDx g).1 hin).2;obtain ⟨i1,hi1,rfl⟩:=zAO h1;obtain ⟨i2,hi2,rfl⟩:=zAO h2;obtain ⟨p1,a1,a2,a3⟩:=zHH hi1 e1;obtain ⟨p2,b1,b2,b3⟩:=zHH hi2 e2;have y1h:=(zAF a1).2;have y2h:=(zAF b1).1;have y1v:yS x (qV x p1)=c:=congrArg Prod.snd a2;have y1p:yS x (qV x (qV x p1))=d:=by rw [(np a1).2.2.2];exact congrArg Prod.fst a2
 have y2v:yS x (qY x p2)=c:=congrArg Prod.fst b2;have y2n:yS x (qY x (qY x p2))=d:=by rw [(np b1).2.2.1];exact congrArg Prod.snd b2
 have y1t:(qV x p1 / 3).toNat=i1:=by rw [z2F a1,a3]
 have y2t:(qY x p2 / 3).toNat=i2:=by rw [z2b b1,b3]
 have hy:=g.after_is y1h y2h (y2v.trans y1v.symm) (y2n.trans y1p.symm);generalize qV x p1=y1 at *;generalize qY x p2=y2 at *
 have aft: ∀ y,j6 x y=true->yS x y=c->0<=yO x y/\j6 x (yO x y)=true/\yS x (yO x y)=c:=fun y k1 k2=>by
  have h0:0<=yO x y:=by
   refine Int.not_lt.1 fun hlt=> ?_;have:=zTz g k1 hlt;rw [k2] at this;exact hno ⟨_,this⟩
  exact ⟨h0,(g.toGood.after_has h0).2.1,(g.toGood.after_v h0).1.trans k2⟩
 have zk: ∀ y,j6 x y=true->yS x y=c->∀ k,j6 x (iter (yO x) y k)=true/\yS x (iter (yO x) y k)=c:=fun y k1 k2 k=>by
  induction k with
  | zero=>exact ⟨k1,k2⟩
  | succ k ih=>have:=aft _ ih.1 ih.2;exact ⟨this.2.1,this.2.2⟩
 have hex: ∃ n,iter (yO x) y2 n=y1:=by
  apply yF;intro hn
  have:zT3 (yO x) y1 24577:=fun j j1 j2=>by
   obtain ⟨j,rfl⟩: ∃ j',j=j'+1:=⟨j - 1,by omega⟩;have k:=zk y1 y1h y1v j;refine ⟨(aft _ k.1 k.2).1,fun e=>hn ⟨j,?_⟩⟩;rw [<- hy];have:=zLt (yO x) y1 1 j;have this:iter (yO x) (yO x y1) j=iter (yO x) y1 (1+j):=this;rw [this,Nat.add_comm];exact e
  have:=zAz g.toGood this;omega
 obtain ⟨n,hn⟩:=hex;obtain ⟨m,m1,_,m3⟩:=exists_least (P:=fun n=>iter (yO x) y2 n=y1) hn
 have step: ∀ k,k<m->(Q (tg x.1.2 (iter (yO x) y2 k / 3).toNat)↔Q (tg x.1.2 (iter (yO x) y2 (k+1) / 3).toNat)):=fun k hk=>by
  obtain ⟨k1,k2⟩:=zk y2 y2h y2v k;obtain ⟨l1,l2⟩:=zk y2 y2h y2v (k+1);have ha:=(aft _ k1 k2).1;have hv:=(g.toGood.after_v ha).2;have hv:yS x (qY x (iter (yO x) y2 (k+1)))=yS x (qV x (iter (yO x) y2 k)):=hv;have wc:yS x (qV x (iter (yO x) y2 k))≠c:=fun e=>(g.toGood.ne k1).2.1 (k2.trans e.symm);have wd:yS x (qV x (iter (yO x) y2 k))≠d:=fun e=>m3 k hk (g.toGood.sameP k1 y1h (k2.trans y1v.symm) (e.trans y1p.symm))
  have t1:=zAw k1;have t2:=zAw l1;have p1:=zAw (zAF k1).2;have n1:=zAw (zAF l1).1;rw [z2F k1] at p1;rw [z2b l1,hv] at n1;rw [k2] at t1;rw [l2] at t2;exact ⟨hQ _ (qI t1.1) _ (qI t2.1) t1.2 t2.2 ⟨_,wc,wd,p1.2,n1.2⟩,hQ _ (qI t2.1) _ (qI t1.1) t2.2 t1.2 ⟨_,wc,wd,n1.2,p1.2⟩⟩
 have all: ∀ k,k<=m->(Q (tg x.1.2 (y2 / 3).toNat)↔Q (tg x.1.2 (iter (yO x) y2 k / 3).toNat)):=fun k=>by
  induction k with
  | zero=>exact fun _=>Iff.rfl
  | succ k ih=>exact fun hk=>(ih (by omega)).trans (step k (by omega))
 have:=all m (zI _);rw [m1,y1t,y2t] at this;exact this.symm
theorem four {t:P3} (hd: ¬ dgn t) {a b p q:Int} (h1:a≠b) (h2:a≠p) (h3:a≠q) (h4:b≠p) (h5:b≠q) (h6:p≠q) (k1:z8 t a) (k2:z8 t b) (k3:z8 t p) (k4:z8 t q):False:=by
 obtain ⟨r,_,_,_,e⟩:=zH6 hd h1 k1 k2;rcases e p k3 with e1|e1|e1
 ·exact h2 e1.symm
 ·exact h4 e1.symm
 ·rcases e q k4 with e2|e2|e2
  ·exact h3 e2.symm
  ·exact h5 e2.symm
  ·exact h6 (e1.trans e2.symm)
section
variable {x:yI.T} {a b:Int}
theorem zT4 (g:Full x) (hs:jV (InN x.1.1) x.1.2) (hw:zDV x a b=0) (hab:a≠b): ∀ t∈x.1.2,z8 t a->z8 t b->∀ v,v≠a->v≠b->z8 t v->∃ u∈x.1.2,u≠t/\z8 u v/\(z8 u a\/z8 u b):=by
 intro t ht ta tb v va vb tv;apply yF;intro hn;have hno: ∀ u∈x.1.2,z8 u v->(z8 u a\/z8 u b)->u=t:=fun u hu uv uab=>yF fun e=>hn ⟨u,hu,e,uv,uab⟩;obtain ⟨w1,w2,w3⟩:=zQW hw;have hd:=hs.deg t ht
 -- it stands alone
 have main : ∀ p q:Int,((p=a/\q=b)\/(p=b/\q=a))->dE t p q->dE t q v->dE t v p->False:=fun p q hpq o1 o2 o3=>by
  have pab: ∀ {u:P3} {w:Int},(w=p\/w=q)->z8 u w->z8 u a\/z8 u b:=fun {u w} h1 h2=>by
   rcases hpq with ⟨e1,e2⟩|⟨e1,e2⟩<;>rcases h1 with e|e<;>(subst e;subst e1;subst e2;first|exact .inl h2|exact .inr h2)
  have no1: ¬ eE x.1.2 v q:=fun h=>by
   obtain ⟨u,hu,k⟩:=zDh.1 h;have:=hno u hu (jN k).1 (pab (.inr rfl) (jN k).2);rw [this] at k;exact zEM hd o2 k
  have no2: ¬ eE x.1.2 p v:=fun h=>by
   obtain ⟨u,hu,k⟩:=zDh.1 h;have:=hno u hu (jN k).2 (pab (.inl rfl) (jN k).1);rw [this] at k;exact zEM hd o3 k
  have yes: ∀ {u w:Int},dE t u w->eE x.1.2 u w:=fun k=>zDh.2 ⟨t,ht,k⟩;have b1:bE x q v:=(zHJ g).2 ⟨yes o2,no1⟩;have b2:bE x v p:=(zHJ g).2 ⟨yes o3,no2⟩
  have ip:zAY x p=false:=by
   rw [<- zbV,zDx g];exact fun k=>k.2 ⟨_,b2⟩
  have iq:zAY x q=false:=by
   rw [<- zbV,zDx g];exact fun k=>k.2 (zCo g b1)
  have no3: ¬ eE x.1.2 q p:=fun h=>by
   rcases hpq with ⟨e1,e2⟩|⟨e1,e2⟩
   ·subst e1;subst e2;exact w2 ⟨zHo g (yes o1) h,ip,iq⟩
   ·subst e1;subst e2;exact w2 ⟨zHo g h (yes o1),iq,ip⟩
  obtain ⟨i0,hi0,rfl⟩:=zAO ht
  have cnt:=zJG g hs (a:=a) (hs.ent _ ht a ta) (S:=[i0]) (zbG.2 ⟨by simp,zbS⟩) (by simp) ta (fun i hi=>by rw [zF] at hi;subst hi;exact hi0)
   (fun i hi j ha=>by
     rw [zF] at hi;subst hi;exfalso;obtain ⟨_,hj,u,w,d1,d2⟩:=(zLF g).1 ha;have hwu:eE x.1.2 w u:=⟨j,hj,d2⟩;have hu:=jN d1;have neuw:=zNw hd d1
     have mem: ∀ z,z8 (tg x.1.2 i) z->z=p\/z=q\/z=v:=fun z hz=>by
      obtain ⟨r,r1,r2,r3,r4⟩:=zH6 hd (zNw hd o1) (jN o1).1 (jN o1).2
      have ev:v=r:=by
       rcases r4 v tv with e|e|e
       ·rcases hpq with ⟨e1,e2⟩|⟨e1,e2⟩
        ·exact absurd (e.trans e1) va
        ·exact absurd (e.trans e1) vb
       ·rcases hpq with ⟨e1,e2⟩|⟨e1,e2⟩
        ·exact absurd (e.trans e2) vb
        ·exact absurd (e.trans e2) va
       ·exact e
      rw [ev];exact r4 z hz
     rcases mem u hu.1 with e|e|e<;>rcases mem w hu.2 with e'|e'|e'<;>subst e<;>subst e'
     ·exact neuw rfl
     ·exact no3 hwu
     ·exact zEM hd o3 d1
     ·exact zEM hd o1 d1
     ·exact neuw rfl
     ·exact no1 hwu
     ·exact no2 hwu
     ·exact zEM hd o2 d1
     ·exact neuw rfl)
   (fun i hi=>by rw [zF] at hi;subst hi;exact .refl _)
  have:zB2 x a=true:=by unfold zB2;rw [cnt.1];rfl
  rw [w3] at this;cases this
 rcases z2B hab va.symm vb.symm ta tb tv with ⟨o1,o2,o3⟩|⟨o1,o2,o3⟩
 ·exact main a b (.inl ⟨rfl,rfl⟩) o1 o2 o3
 ·exact main b a (.inr ⟨rfl,rfl⟩) o1 o2 o3
theorem zJS (g:Full x) (hs:jV (InN x.1.1) x.1.2) (w3:zB2 x a=false) (hab:a≠b): ∀ p q,p≠q->p≠a->p≠b->q≠a->q≠b->(∃ t∈x.1.2,z8 t a/\z8 t p/\z8 t q)->(∃ t∈x.1.2,z8 t b/\z8 t p/\z8 t q)->(∃ t∈x.1.2,z8 t a/\z8 t b/\z8 t p)->(∃ t∈x.1.2,z8 t a/\z8 t b/\z8 t q)->False:=by
 rintro p q pq pa pb qa qb ⟨t1,h1,a1,a2,a3⟩ ⟨t2,h2,b1,b2,b3⟩ ⟨t3,h3,c1,c2,c3⟩ ⟨t4,h4,d1,d2,d3⟩;have no4: ∀ t∈x.1.2,z8 t a->z8 t b->z8 t p->z8 t q->False:=fun t ht k1 k2 k3 k4=>four (hs.deg t ht) hab pa.symm qa.symm pb.symm qb.symm pq k1 k2 k3 k4;have n12:t1≠t2:=fun e=>no4 t1 h1 a1 (by rw [e];exact b1) a2 a3;have n13:t1≠t3:=fun e=>no4 t1 h1 a1 (by rw [e];exact c2) a2 a3;have n14:t1≠t4:=fun e=>no4 t1 h1 a1 (by rw [e];exact d2) a2 a3
 have n23:t2≠t3:=fun e=>no4 t2 h2 (by rw [e];exact c1) b1 b2 b3;have n24:t2≠t4:=fun e=>no4 t2 h2 (by rw [e];exact d1) b1 b2 b3;have n34:t3≠t4:=fun e=>no4 t3 h3 c1 c2 c3 (by rw [e];exact d3)
 have mem3: ∀ {t:P3} {u v w z:Int},t∈x.1.2->u≠v->u≠w->v≠w->z8 t u->z8 t v->z8 t w->z8 t z->z=u\/z=v\/z=w:=fun {t u v w z} ht uv uw vw k1 k2 k3 k4=>by
  obtain ⟨r,r1,r2,r3,r4⟩:=zH6 (hs.deg t ht) uv k1 k2
  have e:w=r:=by
   rcases r4 w k3 with e|e|e
   ·exact absurd e.symm uw
   ·exact absurd e.symm vw
   ·exact e
  rw [e];exact r4 z k4
 let F:P3->Prop:=fun t=>t=t1\/t=t2\/t=t3\/t=t4
 -- the other one with an edge
 have oth: ∀ s,F s->∀ u w,u≠w->z8 s u->z8 s w->∃ r,F r/\r∈x.1.2/\r≠s/\z8 r u/\z8 r w:=fun s hs' u w huw su sw=>by
  rcases hs' with e|e|e|e<;>subst e
  ·rcases mem3 h1 pa.symm qa.symm pq a1 a2 a3 su with e|e|e<;>rcases mem3 h1 pa.symm qa.symm pq a1 a2 a3 sw with e'|e'|e'<;>subst e<;>subst e'
   ·exact absurd rfl huw
   ·exact ⟨t3,.inr (.inr (.inl rfl)),h3,n13.symm,c1,c3⟩
   ·exact ⟨t4,.inr (.inr (.inr rfl)),h4,n14.symm,d1,d3⟩
   ·exact ⟨t3,.inr (.inr (.inl rfl)),h3,n13.symm,c3,c1⟩
   ·exact absurd rfl huw
   ·exact ⟨t2,.inr (.inl rfl),h2,n12.symm,b2,b3⟩
   ·exact ⟨t4,.inr (.inr (.inr rfl)),h4,n14.symm,d3,d1⟩
   ·exact ⟨t2,.inr (.inl rfl),h2,n12.symm,b3,b2⟩
   ·exact absurd rfl huw
  ·rcases mem3 h2 pb.symm qb.symm pq b1 b2 b3 su with e|e|e<;>rcases mem3 h2 pb.symm qb.symm pq b1 b2 b3 sw with e'|e'|e'<;>subst e<;>subst e'
   ·exact absurd rfl huw
   ·exact ⟨t3,.inr (.inr (.inl rfl)),h3,n23.symm,c2,c3⟩
   ·exact ⟨t4,.inr (.inr (.inr rfl)),h4,n24.symm,d2,d3⟩
   ·exact ⟨t3,.inr (.inr (.inl rfl)),h3,n23.symm,c3,c2⟩
   ·exact absurd rfl huw
   ·exact ⟨t1,.inl rfl,h1,n12,a2,a3⟩
   ·exact ⟨t4,.inr (.inr (.inr rfl)),h4,n24.symm,d3,d2⟩
   ·exact ⟨t1,.inl rfl,h1,n12,a3,a2⟩
   ·exact absurd rfl huw
  ·rcases mem3 h3 hab pa.symm pb.symm c1 c2 c3 su with e|e|e<;>rcases mem3 h3 hab pa.symm pb.symm c1 c2 c3 sw with e'|e'|e'<;>subst e<;>subst e'
   ·exact absurd rfl huw
   ·exact ⟨t4,.inr (.inr (.inr rfl)),h4,n34.symm,d1,d2⟩
   ·exact ⟨t1,.inl rfl,h1,n13,a1,a2⟩
   ·exact ⟨t4,.inr (.inr (.inr rfl)),h4,n34.symm,d2,d1⟩
   ·exact absurd rfl huw
   ·exact ⟨t2,.inr (.inl rfl),h2,n23,b1,b2⟩
   ·exact ⟨t1,.inl rfl,h1,n13,a2,a1⟩
   ·exact ⟨t2,.inr (.inl rfl),h2,n23,b2,b1⟩
   ·exact absurd rfl huw
  ·rcases mem3 h4 hab qa.symm qb.symm d1 d2 d3 su with e|e|e<;>rcases mem3 h4 hab qa.symm qb.symm d1 d2 d3 sw with e'|e'|e'<;>subst e<;>subst e'
   ·exact absurd rfl huw
   ·exact ⟨t3,.inr (.inr (.inl rfl)),h3,n34,c1,c2⟩
   ·exact ⟨t1,.inl rfl,h1,n14,a1,a3⟩
   ·exact ⟨t3,.inr (.inr (.inl rfl)),h3,n34,c2,c1⟩
   ·exact absurd rfl huw
   ·exact ⟨t2,.inr (.inl rfl),h2,n24,b1,b3⟩
   ·exact ⟨t1,.inl rfl,h1,n14,a3,a1⟩
   ·exact ⟨t2,.inr (.inl rfl),h2,n24,b3,b1⟩
   ·exact absurd rfl huw
 have inl: ∀ s,F s->s∈x.1.2:=fun s k=>by rcases k with e|e|e|e<;>(subst e;assumption)
 -- it has the edge the other way
 have opp: ∀ s,F s->∀ u w,dE s u w->∃ r,F r/\dE r w u:=fun s k u w hd=>by
  have ne:=zNw (hs.deg s (inl s k)) hd;obtain ⟨r,r1,r2,r3,r4,r5⟩:=oth s k u w ne (jN hd).1 (jN hd).2;rcases zCy ne r4 r5 with e|e
  ·exact absurd e (hs.dif s (inl s k) r r2 r3.symm _ _ hd)
  ·exact ⟨r,r1,e⟩
 obtain ⟨i1,l1,e1⟩:=zAO h1;obtain ⟨i2,l2,e2⟩:=zAO h2;obtain ⟨i3,l3,e3⟩:=zAO h3;obtain ⟨i4,l4,e4⟩:=zAO h4
 have inS: ∀ i,i∈[i1,i2,i3,i4]↔i<x.1.2.length/\F (tg x.1.2 i):=fun i=>by
  constructor
  ·intro hi;simp only [zT,zbe,or_false] at hi;rcases hi with e|e|e|e<;>subst e
   ·exact ⟨l1,.inl e1⟩
   ·exact ⟨l2,.inr (.inl e2)⟩
   ·exact ⟨l3,.inr (.inr (.inl e3))⟩
   ·exact ⟨l4,.inr (.inr (.inr e4))⟩
  ·rintro ⟨hi,e|e|e|e⟩
   ·have:=zDg hs.nd hi l1 (e.trans e1.symm);subst this;simp
   ·have:=zDg hs.nd hi l2 (e.trans e2.symm);subst this;simp
   ·have:=zDg hs.nd hi l3 (e.trans e3.symm);subst this;simp
   ·have:=zDg hs.nd hi l4 (e.trans e4.symm);subst this;simp
 have hn:[i1,i2,i3,i4].Nodup:=by
  have d: ∀ {i j:Nat} {t u:P3},tg x.1.2 i=t->tg x.1.2 j=u->t≠u->i≠j:=fun k1 k2 k3 e=>k3 (by rw [<- k1,<- k2,e]);simp only [zbG,zT,zbe,or_false,not_or,zbS,and_true,not_false_eq_true];exact ⟨⟨d e1 e2 n12,d e1 e3 n13,d e1 e4 n14⟩,⟨d e2 e3 n23,d e2 e4 n24⟩,d e3 e4 n34⟩
 have cnt:=zJG g hs (a:=a) (hs.ent _ h1 a a1) hn (i0:=i1) (by simp) (by rw [e1];exact a1) (fun i hi=>((inS i).1 hi).1)
  (fun i hi j ha=>by
    obtain ⟨k1,k2⟩:=(inS i).1 hi;obtain ⟨_,hj,u,w,f1,f2⟩:=(zLF g).1 ha;obtain ⟨r,r1,r2⟩:=opp _ k2 u w f1;refine (inS j).2 ⟨hj,?_⟩
    by_cases e:tg x.1.2 j=r
    ·rw [e];exact r1
    ·exact absurd r2 (hs.dif _ (qI hj) r (inl r r1) e _ _ f2))
  (fun i hi=>by
    simp only [zT,zbe,or_false] at hi;rcases hi with e|e|e|e<;>subst e
    ·exact .refl _
    ·exact zFn g l1 l2 (v:=p) (by rw [e1];exact a2) (by rw [e2];exact b2) hs
    ·exact zFn g l1 l3 (v:=a) (by rw [e1];exact a1) (by rw [e3];exact c1) hs
    ·exact zFn g l1 l4 (v:=a) (by rw [e1];exact a1) (by rw [e4];exact d1) hs)
 have flag:(smS x (smM x a) (ofR x).length).2=false:=by
  rw [<- zbV,zHt];rintro ⟨i,hi,hl,d,hd,ho⟩;rw [zMO g.toGood] at hi;have hF:=((inS i).1 ((cnt.2 i hi).1 hl)).2;have hc:j6 x (3*(i:Int)+d)=true:=yH.2 ⟨by omega,by omega⟩;have ke:=zFH hc;rw [show ((3*(i:Int)+d) / 3).toNat=i by omega] at ke;obtain ⟨r,r1,r2⟩:=opp _ hF _ _ ke.2;exact ((zHJ g).1 ⟨_,hc,ho,rfl⟩).2 (zDh.2 ⟨r,inl r r1,r2⟩)
 have:zB2 x a=true:=by unfold zB2;rw [cnt.1,flag];rfl
 rw [w3] at this;cases this
theorem zSq (g:Full x) (hs:jV (InN x.1.1) x.1.2) (hw:zDV x a b=0) (hab:a≠b): ∀ p q,p≠q->p≠a->p≠b->q≠a->q≠b->(∃ t∈x.1.2,z8 t a/\z8 t p/\z8 t q)->(∃ t∈x.1.2,z8 t b/\z8 t p/\z8 t q)->(∃ t∈x.1.2,z8 t a/\z8 t b/\z8 t p)->(∃ t∈x.1.2,z8 t a/\z8 t b/\z8 t q)->False :=
 zJS g hs (zQW hw).2.2 hab
theorem zPy (g:Full x) (hs:jV (InN x.1.1) x.1.2) (hw:zDV x a b=0):zT1 x.1.2 a b:=by
 obtain ⟨w1,w2,w3⟩:=zQW hw
 have hab:a≠b:=fun e=>by
  subst e;rw [zCN g.toGood] at w1;cases w1
 refine ⟨hab,(zBj g hab).1 w1,fun v va vb hva hvb=> ?_,zT4 g hs hw hab,zSq g hs hw hab,fun t ht u hu hne ta tb ua ub=> ?_⟩
 ·have h1:=(zBj g va.symm).2 hva;have h2:=(zBj g vb.symm).2 hvb;exact zWu g (z0l hw v ((zMf g).2 ⟨hab,h1,h2⟩))
 ·have key: ∀ {s r:P3},s∈x.1.2->r∈x.1.2->dE s a b->dE r b a->∃ c,(c=a\/c=b)/\∀ Q:P3->Prop,(∀ s∈x.1.2,∀ r∈x.1.2,z8 s c->z8 r c->(∃ w:Int,w≠a/\w≠b/\z8 s w/\z8 r w)->Q s->Q r)->(Q s↔Q r):=fun {s r} h1 h2 d1 d2=>by
   have two:=zHo g (zDh.2 ⟨s,h1,d1⟩) (zDh.2 ⟨r,h2,d2⟩)
   by_cases ia:zAY x a=true
   ·exact ⟨a,.inl rfl,fun Q hQ=>(rot g ia h2 h1 d2 d1 Q fun s hs r hr k1 k2 ⟨w,e1,e2,e3⟩=>hQ s hs r hr k1 k2 ⟨w,e1,e2,e3⟩).symm⟩
   ·by_cases ib:zAY x b=true
    ·exact ⟨b,.inr rfl,fun Q hQ=>rot g ib h1 h2 d1 d2 Q fun s hs r hr k1 k2 ⟨w,e1,e2,e3⟩=>hQ s hs r hr k1 k2 ⟨w,e2,e1,e3⟩⟩
    ·exact absurd ⟨two,by simpa using ia,by simpa using ib⟩ w2
  rcases zCy hab ta tb with d1|d1<;>rcases zCy hab ua ub with d2|d2
  ·exact absurd d2 (hs.dif t ht u hu hne _ _ d1)
  ·obtain ⟨c,hc,k⟩:=key ht hu d1 d2;exact ⟨c,hc,fun Q hQ=>(k Q hQ).1⟩
  ·obtain ⟨c,hc,k⟩:=key hu ht d2 d1;exact ⟨c,hc,fun Q hQ=>(k Q hQ).2⟩
  ·exact absurd d2 (hs.dif t ht u hu hne _ _ d1)
end
end S1
namespace S1
theorem zHg (k l:List P3) (hn:k.Nodup) (h: ∀ i∈k,i∈l):k.length<=l.length:=by
 induction k generalizing l with
 | nil=>exact zbH _
 | cons a r ih =>
   obtain ⟨h1,h2⟩:=zbG.1 hn;have ha:=h a (zY ..);have:=ih (l.erase a) h2 fun i hi=>(List.mem_erase_of_ne (fun e=>h1 (by rw [<- e];exact hi))).2 (h i (zQ _ hi));rw [List.length_erase_of_mem ha] at this;have:=List.length_pos_of_mem ha;rw [yA];omega
theorem zBk {a b:Int} {t:P3} :both a b t=true↔z8 t a/\z8 t b:=by unfold both;exact decide_eq_true_iff
theorem zRT {x:yI.T} (g:Full x) (hs:jV (InN x.1.1) x.1.2) {c:Int} (hc:j6 x c=true):(x.1.2.filter (both (jR x c).1 (jR x c).2)).length=if 0<=zAI x c then 2 else 1:=by
 have k:=zFH hc;have hne:=g.ends c hc;have hm1:=qI k.1;have hv1:=jN k.2;have hnd:(x.1.2.filter (both (jR x c).1 (jR x c).2)).Nodup:=hs.nd.filter _;have in1:tg x.1.2 (c / 3).toNat∈x.1.2.filter (both (jR x c).1 (jR x c).2):=zb5.2 ⟨hm1,zBk.2 hv1⟩
 have one: ∀ t∈x.1.2,dE t (jR x c).1 (jR x c).2->t=tg x.1.2 (c / 3).toNat:=fun t ht hd=>by
  apply yF;intro hn;exact hs.dif t ht _ hm1 hn _ _ hd k.2
 split
 ·rename_i ho;obtain ⟨_,h2,h3⟩:=g.opp ho;have k2:=zFH h2;rw [h3] at k2;have hm2:=qI k2.1
  have ne:tg x.1.2 (c / 3).toNat≠tg x.1.2 (zAI x c / 3).toNat:=fun e=>by
   rw [<- e] at k2;exact zEM (hs.deg _ hm1) k.2 k2.2
  have in2:tg x.1.2 (zAI x c / 3).toNat∈x.1.2.filter (both (jR x c).1 (jR x c).2):=zb5.2 ⟨hm2,zBk.2 (jN k2.2).symm⟩
  have a1:=zHg [tg x.1.2 (c / 3).toNat,tg x.1.2 (zAI x c / 3).toNat] _ (zbG.2 ⟨by simpa using ne,zbG.2 ⟨by simp,zbS⟩⟩) (fun i hi=>by
   rcases zT.1 hi with e|hi
   ·rw [e];exact in1
   ·rw [zF.1 hi];exact in2)
  have a2:=zHg _ [tg x.1.2 (c / 3).toNat,tg x.1.2 (zAI x c / 3).toNat] hnd (fun t ht=>by
   obtain ⟨m,hb⟩:=zb5.1 ht;obtain ⟨b1,b2⟩:=zBk.1 hb;rcases zCy hne b1 b2 with e|e
   ·rw [one t m e];exact zY ..
   ·refine zQ _ (zF.2 ?_);apply yF;intro hn
    exact hs.dif t m _ hm2 hn _ _ e k2.2)
  have a1:2<=_:=a1;have a2:_<=2:=a2;omega
 ·rename_i ho;have a1:=zHg [tg x.1.2 (c / 3).toNat] _ (zbG.2 ⟨by simp,zbS⟩) (fun i hi=>by rw [zF.1 hi];exact in1)
  have a2:=zHg _ [tg x.1.2 (c / 3).toNat] hnd (fun t ht=>by
   obtain ⟨m,hb⟩:=zb5.1 ht;obtain ⟨b1,b2⟩:=zBk.1 hb;rcases zCy hne b1 b2 with e|e
   ·rw [one t m e];exact zY ..
   ·obtain ⟨d,d1,d2⟩:=zED.1 (zDh.2 ⟨t,m,e⟩)
    exact absurd (by rw [g.opp_is d1 d2];exact (yH.1 d1).1) ho)
  have a1:1<=_:=a1;have a2:_<=1:=a2;omega
theorem zJy (p:P3->Bool): ∀ l:List P3,(l.filter p).length+(l.filter fun t=> !p t).length=l.length
 | []=>rfl
 | t::r=>by
   have:=zJy p r;cases h:p t<;>simp only [zcI,h,if_true,if_false,Bool.not_true,Bool.not_false,yA,Bool.false_eq_true]<;>omega
theorem z4R (a b:Int) (l:List P3):(zIZ a b l).length+(l.filter (both a b)).length=l.length:=by
 have:=zJy (both a b) l;unfold zIZ;rw [yV];omega
theorem zTK {x:yI.T} (g:Full x) {v w:Int} (hi:zAY x v=true) (hw:zAQ x v w=true): ∃ c,j6 x c=true/\jR x c=(v,w)/\0<=zAI x c:=by
 have hb:=((zDx g).1 hi).2;obtain ⟨d,d1,d2⟩:=(zHf g).1 hw;rcases d2 with e|e
 ·refine ⟨d,d1,e,?_⟩;apply yF;intro hn;exact hb (zCo g ⟨d,d1,by omega,e⟩)
 ·have ho:0<=zAI x d:=by
   apply yF;intro hn;exact hb ⟨w,d,d1,by omega,e⟩
  obtain ⟨_,h2,h3⟩:=g.opp ho;refine ⟨zAI x d,h2,by rw [h3,e],?_⟩;rw [g.opp_is d1 (by rw [h3])];exact (yH.1 d1).1
theorem zOM {x:yI.T} (g:Full x) (hs:zBK x.1) {a b:Int} (hw:zDV x a b=0):zBK (x.1.1 - 1,(zIZ a b x.1.2).map (zDo (dn a))):=by
 have hn:=(zQW hw).1;have hab:=zLk g.toGood hn;have hm:=zAc hs;have hc:=zHx hm (zPy g hm hw);have:=z7S hab.1 (hc hab.1 hab.2);have hl:=z4R a b x.1.2;refine zZu (by omega) (by have:=hs.fit.2.1;omega) ?_ this;rw [yV];have:=hs.fit.2.2.1;omega
end S1
namespace S1
def drT (a b:Int) (t:P3):P3:=zDo (dn a) (phT a b t)
def drG (a b:Int) (l:List P3) (i:Nat):Option P3:=if both a b (tg l i)=true then none else some (drT a b (tg l i))
def drL (a b:Int) (l:List P3) (i:Nat):List P3:=(List.range i).filterMap (drG a b l)
def zKl (t:P3) (k:Nat):Int:=[t.1,t.2.1,t.2.2].getD k 0
theorem zFm (a b:Int) (l:List P3) (i:Nat):drL a b l (i+1)=drL a b l i++(drG a b l i).toList:=q9 _ _
theorem z5F (a b:Int) (l:List P3) (i:Nat):(drL a b l i).length<=i:=zC7 _ _
theorem zXa (a b:Int) (l:List P3):drL a b l l.length=(zIZ a b l).map (zDo (dn a)):=by
 have e:drL a b l l.length=l.filterMap fun t=>if both a b t=true then none else some (drT a b t):=by
  conv=>rhs;rw [<- zGs (0,0,0) l,List.filterMap_map]
  rfl
 rw [e];clear e
 induction l with
 | nil=>rfl
 | cons t r ih =>
   cases h:both a b t
   ·rw [List.filterMap_cons,h,if_neg (by decide),ih];show _=((List.filter _ (t::r)).map _).map _;rw [zcI,h];rfl
   ·rw [List.filterMap_cons,h,if_pos rfl,ih];show _=((List.filter _ (t::r)).map _).map _;rw [zcI,h];rfl
end S1
namespace S1
abbrev FsT:=List Bool×Int
theorem zE2 {S:Type} (m:S->Int) (f:S->Nat->S) (hf: ∀ s i,f s i=s\/m s<m (f s i)): ∀ n s,(qA f s n=s/\∀ i,i<n->f s i=s)\/m s<m (qA f s n)
 | 0,s=> .inl ⟨rfl,fun i hi=>by omega⟩
 | n +1,s=>by
   have e:qA f s (n+1)=f (qA f s n) n:=rfl;rcases zE2 m f hf n s with ⟨h1,h2⟩|h
   ·rw [e,h1];rcases hf s n with h|h
    ·exact .inl ⟨h,fun i hi=>by
      by_cases k:i=n
      ·subst k;exact h
      ·exact h2 i (by omega)⟩
    ·exact .inr h
   ·rw [e];rcases hf (qA f s n) n with k|k
    ·rw [k];exact .inr h
    ·exact .inr (by omega)
theorem zLB {S:Type} {f:S->Nat->S} {s:S} : ∀ n,(∀ i,i<n->f s i=s)->qA f s n=s
 | 0,_=>rfl
 | n+1,h=>by
   show f (qA f s n) n=s;rw [zLB n fun i hi=>h i (by omega)];exact h n (by omega)
def fsK (bs:Int->Int->Bool) (L:List Int) (i:Nat) (st:FsT) (k:Nat):FsT :=
 if st.1.getD (L.getD i 0).toNat false=true/\st.1.getD (L.getD k 0).toNat false=false/\bs (L.getD i 0) (L.getD k 0)=true then (st.1.set (L.getD k 0).toNat true,st.2+1) else st
def fsI (bs:Int->Int->Bool) (L:List Int) (st:FsT) (i:Nat):FsT:=qA (fsK bs L i) st L.length
def fsR (bs:Int->Int->Bool) (L:List Int) (st:FsT) (_:Nat):FsT:=qA (fsI bs L) st L.length
def fs0 (L:List Int) (n:Nat):FsT:=((List.replicate n false).set (L.getD 0 0).toNat true,1)
def fsS (bs:Int->Int->Bool) (L:List Int) (n r:Nat):FsT:=qA (fsR bs L) (fs0 L n) r
section
variable {bs:Int->Int->Bool} {L:List Int} {n:Nat}
theorem zRN (i:Nat) (st:FsT) (k:Nat):fsK bs L i st k=st\/st.2<(fsK bs L i st k).2:=by
 unfold fsK;split
 ·exact .inr (by show st.2<st.2+1;omega)
 ·exact .inl rfl
theorem zR5 (st:FsT) (i:Nat):fsI bs L st i=st\/st.2<(fsI bs L st i).2:=(zE2 (·.2) _ (zRN i) _ st).imp (·.1) id
theorem z0m (st:FsT) (r:Nat):fsR bs L st r=st\/st.2<(fsR bs L st r).2:=(zE2 (·.2) _ zR5 _ st).imp (·.1) id
def zXg (bs:Int->Int->Bool) (L:List Int) (st:FsT):Prop:= ∀ i k,i<L.length->k<L.length->fsK bs L i st k=st
theorem z5f {st:FsT} {r:Nat} (h:fsR bs L st r=st):zXg bs L st:=by
 have h1: ∀ i,i<L.length->fsI bs L st i=st:=by
  rcases zE2 (·.2) (fsI bs L) zR5 L.length st with ⟨_,k⟩|k
  ·exact k
  ·have e:qA (fsI bs L) st L.length=st:=h;rw [e] at k;omega
 intro i k hi hk;rcases zE2 (·.2) (fsK bs L i) (zRN i) L.length st with ⟨_,q⟩|q
 ·exact q k hk
 ·have e:qA (fsK bs L i) st L.length=st:=h1 i hi;rw [e] at q;omega
theorem zXg.fix {st:FsT} (h:zXg bs L st) (r:Nat):fsR bs L st r=st:=zLB _ fun i hi=>zLB _ fun k hk=>h i k hi hk
theorem zVT: ∀ r,zXg bs L (fsS bs L n r)\/1+(r:Int)<=(fsS bs L n r).2
 | 0=> .inr (by show 1+((0:Nat):Int)<=1;omega)
 | r +1=>by
   have e:fsS bs L n (r+1)=fsR bs L (fsS bs L n r) r:=rfl;rw [e];rcases zVT r with h|h
   ·rw [h.fix];exact .inl h
   ·rcases z0m (bs:=bs) (L:=L) (fsS bs L n r) r with k|k
    ·rw [k];exact .inl (z5f k)
    ·exact .inr (by omega)
structure zQF (L:List Int) (n:Nat) (R:Int->Prop) (st:FsT) (ks:List Int):Prop where
 nd:ks.Nodup
 len:(ks.length:Int)=st.2
 sub: ∀ x∈ks,x∈L/\R x
 size:st.1.length=n
 mem: ∀ x,0<=x->(st.1.getD x.toNat false=true↔x∈ks)
theorem zI0 (l:List Bool) (i j:Nat) (hi:i<l.length):(l.set i true).getD j false=if i=j then true else l.getD j false:=by
 rw [gdE,zbQ];split
 ·rename_i e;subst e;rfl
 ·rw [gdE]
variable {R:Int->Prop} (hL: ∀ x∈L,0<=x/\x<(n:Int))
include hL
theorem zVR (hR: ∀ x∈L,∀ y∈L,bs x y=true->R x->R y) {i k:Nat} (hi:i<L.length) (hk:k<L.length) {st:FsT} (h: ∃ ks,zQF L n R st ks): ∃ ks,zQF L n R (fsK bs L i st k) ks:=by
 obtain ⟨ks,h⟩:=h;unfold fsK;split
 case isFalse=>exact ⟨ks,h⟩
 rename_i hc;obtain ⟨c1,c2,c3⟩:=hc;have mi:=jB hi;have mk:=jB hk;have b:=hL _ mk;have nk:L.getD k 0∉ks:=fun e=>by rw [(h.mem _ b.1).2 e] at c2;cases c2
 refine ⟨L.getD k 0::ks,zbG.2 ⟨nk,h.nd⟩,?_,fun x hx=> ?_,?_,fun x hx=> ?_⟩
 ·have:=h.len;show ((ks.length+1:Nat):Int)=st.2+1;omega
 ·rcases zT.1 hx with e|e
  ·subst e;exact ⟨mk,hR _ mi _ mk c3 (h.sub _ ((h.mem _ (hL _ mi).1).1 c1)).2⟩
  ·exact h.sub x e
 ·show (st.1.set _ true).length=n;rw [zbY];exact h.size
 ·show (st.1.set _ true).getD _ false=true↔_;rw [zI0 _ _ _ (by rw [h.size];omega),zT];split
  ·rename_i e;exact ⟨fun _=> .inl (by omega),fun _=>rfl⟩
  ·rename_i e;rw [h.mem x hx];exact ⟨.inr,fun k=>k.resolve_left (fun e'=>e (by rw [e']))⟩
theorem zLb (hR: ∀ x∈L,∀ y∈L,bs x y=true->R x->R y) (hne:0<L.length) (h0:R (L.getD 0 0)) (r:Nat): ∃ ks,zQF L n R (fsS bs L n r) ks:=by
 have m0:=jB hne;have b:=hL _ m0;refine qX (n:=r) (fun _ st=> ∃ ks,zQF L n R st ks) ?_ (fun _ st _ h=> ?_) r (zI _)
 ·refine ⟨[L.getD 0 0],zbG.2 ⟨by simp,zbS⟩,rfl,fun x hx=> ?_,?_,fun x hx=> ?_⟩
  ·rw [zF.1 hx];exact ⟨m0,h0⟩
  ·unfold fs0;simp
  ·unfold fs0;rw [zI0 _ _ _ (by rw [zbc];omega),zF];split
   ·rename_i e;exact ⟨fun _=>by omega,fun _=>rfl⟩
   ·rename_i e;rw [gdE,zbI];split
    ·exact ⟨fun h=>(by cases h),fun h=>absurd (by rw [h]) e⟩
    ·exact ⟨fun h=>(by cases h),fun h=>absurd (by rw [h]) e⟩
 ·exact qX (n:=L.length) (fun _ st=> ∃ ks,zQF L n R st ks) h (fun i st hi h=>qX (n:=L.length) (fun _ st=> ∃ ks,zQF L n R st ks) h (fun k st hk h=>zVR hL hR hi hk h) _ (zI _)) _ (zI _)
theorem zZL (hn:L.Nodup) (hne:0<L.length):(fsS bs L n L.length).2=(L.length:Int)↔∀ Q:Int->Prop,(∀ x∈L,∀ y∈L,bs x y=true->Q x->Q y)->Q (L.getD 0 0)->∀ x∈L,Q x:=by
 constructor
 ·intro h Q hQ h0 x hx;obtain ⟨ks,k⟩:=zLb hL hQ hne h0 L.length;have hl:ks.length=L.length:=by have:=k.len;omega
  apply yF;intro hq;have nx:x∉ks:=fun e=>hq (k.sub x e).2
  have:=zBx (x::ks) L (zbG.2 ⟨nx,k.nd⟩) fun y hy=>by
   rcases zT.1 hy with e|e
   ·rw [e];exact hx
   ·exact (k.sub y e).1
  simp only [yA] at this;omega
 ·intro h;obtain ⟨ks,k⟩:=zLb (R:=fun _=>True) hL (fun _ _ _ _ _ _=>trivial) hne trivial L.length (bs:=bs);have hle:=zBx ks L k.nd fun y hy=>(k.sub y hy).1;have hclo:zXg bs L (fsS bs L n L.length):=(zVT L.length).resolve_right (by have:=k.len;omega)
  have all := h (fun x=>(fsS bs L n L.length).1.getD x.toNat false=true) (fun x hx y hy b hq=>by
   obtain ⟨i,hi,ei⟩:=yG.1 hx;obtain ⟨j,hj,ej⟩:=yG.1 hy;have gi:L.getD i 0=x:=by rw [gdE,gE hi];exact ei
   have gj:L.getD j 0=y:=by rw [gdE,gE hj];exact ej
   have:=hclo i j hi hj;unfold fsK at this;rw [gi,gj] at this;split at this
   ·have e:=congrArg Prod.snd this;have e:(fsS bs L n L.length).2+1=(fsS bs L n L.length).2:=e;omega
   ·rename_i hc;apply yF;intro hy'
    exact hc ⟨hq,by simpa using hy',b⟩) (by
   obtain ⟨ks1,k1⟩:=zLb (R:=fun _=>True) hL (fun _ _ _ _ _ _=>trivial) hne trivial L.length (bs:=bs)
   have: ∀ r,(fsS bs L n r).1.getD (L.getD 0 0).toNat false=true:=fun r=>by
    have b:=hL _ (jB hne)
    have step: ∀ i k (st:FsT),st.1.getD (L.getD 0 0).toNat false=true->(fsK bs L i st k).1.getD (L.getD 0 0).toNat false=true:=fun i k st h=>by
     unfold fsK;split
     ·show (st.1.set _ true).getD _ false=true;rw [gdE,zbQ];split
      ·split
       ·rfl
       ·rename_i e1 e2;rw [<- e1] at h;rw [gdE,zbr (by omega)] at h;cases h
      ·rw [<- gdE];exact h
     ·exact h
    refine qX (n:=r) (fun _ (st:FsT)=>st.1.getD (L.getD 0 0).toNat false=true) ?_ (fun _ st _ h=> ?_) r (zI _)
    ·unfold fs0;rw [zI0 _ _ _ (by rw [zbc];omega),if_pos rfl]
    ·exact qX (n:=L.length) (fun _ (st:FsT)=>st.1.getD (L.getD 0 0).toNat false=true) h (fun i st hi h=>qX (n:=L.length) (fun _ (st:FsT)=>st.1.getD (L.getD 0 0).toNat false=true) h (fun k st hk h=>step i k st h) _ (zI _)) _ (zI _)
   exact this _)
  have:=zBx L ks hn fun x hx=>(k.mem x (hL x hx).1).1 (all x hx);have:=k.len;omega
end
def zOu (L:List Int) (n:Nat) (st:FsT):Prop:= ∃ ks,zQF L n (fun _=>True) st ks
section
variable {bs:Int->Int->Bool} {L:List Int} {n:Nat}
theorem zOu.le {st:FsT} (h:zOu L n st):0<=st.2/\st.2<=L.length/\st.1.length=n:=by
 obtain ⟨ks,h⟩:=h;have:=zBx ks L h.nd fun y hy=>(h.sub y hy).1;have:=h.len;exact ⟨by omega,by omega,h.size⟩
theorem zOu.k (hL: ∀ x∈L,0<=x/\x<(n:Int)) {st:FsT} (h:zOu L n st) {i:Nat} (hi:i<L.length): ∀ k,k<=L.length->zOu L n (qA (fsK bs L i) st k) :=
 qX (n:=L.length) (fun _ st=>zOu L n st) h (fun k st hk h=>zVR hL (fun _ _ _ _ _ _=>trivial) hi hk h)
theorem zOu.i (hL: ∀ x∈L,0<=x/\x<(n:Int)) {st:FsT} (h:zOu L n st): ∀ i,i<=L.length->zOu L n (qA (fsI bs L) st i) :=
 qX (n:=L.length) (fun _ st=>zOu L n st) h (fun i st hi h=>zOu.k hL h hi _ (zI _))
theorem zOu.r (hL: ∀ x∈L,0<=x/\x<(n:Int)) (hne:0<L.length) (r:Nat):zOu L n (fsS bs L n r):=zLb hL (fun _ _ _ _ _ _=>trivial) hne trivial r
end
def inG (l:List P3) (v:Int) (i:Nat):Option Int:=if z8 (tg l i) v then some (i:Int) else none
def inL (l:List P3) (v:Int) (i:Nat):List Int:=(List.range i).filterMap (inG l v)
theorem zL8 (l:List P3) (v:Int) (i:Nat):inL l v (i+1)=inL l v i++(inG l v i).toList:=q9 _ _
theorem z58 (l:List P3) (v:Int) (i:Nat):(inL l v i).length<=i:=zC7 _ _
theorem zC0 {l:List P3} {v:Int} {n:Nat} {x:Int} :x∈inL l v n↔∃ j:Nat,j<n/\z8 (tg l j) v/\x=j:=by
 unfold inL;rw [List.mem_filterMap];constructor
 ·rintro ⟨j,hj,e⟩;unfold inG at e;split at e
  ·rename_i h;cases e;exact ⟨j,zV.1 hj,h,rfl⟩
  ·cases e
 ·rintro ⟨j,hj,h,rfl⟩;exact ⟨j,zV.2 hj,by unfold inG;rw [if_pos h]⟩
theorem zQZ {l:List P3} {v:Int} {n:Nat} : ∀ x∈inL l v n,0<=x/\x<(n:Int):=fun x hx=>by
 obtain ⟨j,hj,_,rfl⟩:=zC0.1 hx;omega
theorem zOB (l:List P3) (v:Int): ∀ n,(inL l v n).Nodup
 | 0=>zbS
 | n + 1=>by
   rw [zL8,List.nodup_append];refine ⟨zOB l v n,?_,fun a ha b hb=> ?_⟩
   ·unfold inG;split
    ·exact zbG.2 ⟨by simp,zbS⟩
    ·exact zbS
   ·unfold inG at hb;split at hb
    ·rw [Option.toList,zF] at hb;have:=zQZ a ha;omega
    ·cases hb
def zLq (a b:P3):Nat->Int
 | 0=>0
 | k+1=>if z8 b (zKl a k) then zLq a b k+1 else zLq a b k
def z38 (a b:P3):Bool:=decide (zLq a b 3>=2)
def zJc (l:List P3) (p q:Int):Bool:=z38 (tg l p.toNat) (tg l q.toNat)
def zBZ (l:List P3) (v:Int):Int×Int:=((inL l v l.length).length,if (inL l v l.length).length=0 then 0 else (fsS (zJc l) (inL l v l.length) l.length (inL l v l.length).length).2)
theorem zDu (a b:P3) (k:Nat):zLq a b (k+1)=if z8 b (zKl a k) then zLq a b k+1 else zLq a b k:=rfl
theorem zQS (a b:P3): ∀ k:Nat,0<=zLq a b k/\zLq a b k<=k
 | 0=>⟨Int.le_refl _,Int.le_refl _⟩
 | k+1=>by
   have:=zQS a b k;rw [zDu];split<;>omega
theorem z5O {a b:P3} (hd: ¬ dgn a) {v:Int} (h1:z8 a v) (h2:z8 b v):z38 a b=true↔∃ w,w≠v/\z8 a w/\z8 b w:=by
 unfold z38;rw [zP,zDu,zDu,zDu];obtain ⟨x,y,z⟩:=a;unfold dgn at hd;simp only [zKl,List.getD_cons_zero,List.getD_cons_succ,zLq] at *;have hv:z8 (x,y,z) v↔(x=v\/y=v\/z=v):=Iff.rfl;constructor
 ·intro h;have key: ∀ w,(x=w\/y=w\/z=w)->z8 b w->w≠v->∃ w,w≠v/\z8 (x,y,z) w/\z8 b w:=fun w hw hb hn=>⟨w,hn,hw,hb⟩
  by_cases b1:z8 b x<;>by_cases b2:z8 b y<;>by_cases b3:z8 b z<;>simp only [b1,b2,b3,if_true,if_false] at h<;>first
   | omega
   | (by_cases e:x=v
      ·exact key y (.inr (.inl rfl)) b2 (by omega)
      ·exact key x (.inl rfl) b1 e)
   | (by_cases e:x=v
      ·exact key z (.inr (.inr rfl)) b3 (by omega)
      ·exact key x (.inl rfl) b1 e)
   | (by_cases e:y=v
      ·exact key z (.inr (.inr rfl)) b3 (by omega)
      ·exact key y (.inr (.inl rfl)) b2 e)
 ·rintro ⟨w,w1,w2,w3⟩;have w2:x=w\/y=w\/z=w:=w2;have h1:=hv.1 h1;have c1: ∀ u,u=v\/u=w->z8 b u:=fun u hu=>by rcases hu with e|e<;>(rw [e];assumption)
  by_cases b1:z8 b x<;>by_cases b2:z8 b y<;>by_cases b3:z8 b z<;>simp only [b1,b2,b3,if_true,if_false]<;>first
   | omega
   | (exfalso
      have k1: ¬ (x=v\/x=w):=fun k=>(by first|exact absurd (c1 _ k) b1|exact (by assumption:False))
      omega)
   | (exfalso
      by_cases k1:x=v\/x=w
      ·by_cases k2:y=v\/y=w
       ·first|exact b1 (c1 _ k1)|exact b2 (c1 _ k2)
       ·by_cases k3:z=v\/z=w
        ·first|exact b1 (c1 _ k1)|exact b3 (c1 _ k3)
        ·omega
      ·by_cases k2:y=v\/y=w
       ·by_cases k3:z=v\/z=w
        ·first|exact b2 (c1 _ k2)|exact b3 (c1 _ k3)
        ·omega
       ·omega)
theorem z3t {l:List P3} {v:Int} {k:Nat} (hk:k<(inL l v l.length).length):0<=(inL l v l.length).getD k 0/\((inL l v l.length).getD k 0).toNat<l.length/\z8 (tg l ((inL l v l.length).getD k 0).toNat) v:=by
 obtain ⟨j,hj,h,e⟩:=zC0.1 (jB hk);rw [e];exact ⟨by omega,by omega,h⟩
theorem z2C {l:List P3} (hd: ∀ i,i<l.length->¬ dgn (tg l i)) {v:Int} (hne:0<(inL l v l.length).length):(zBZ l v).1=(zBZ l v).2↔z6C l v:=by
 have e:(zBZ l v).2=(fsS (zJc l) (inL l v l.length) l.length (inL l v l.length).length).2:=if_neg (by omega);rw [e];have hc:=zZL (bs:=zJc l) (L:=inL l v l.length) (n:=l.length) zQZ (zOB l v _) hne;have hc:(zBZ l v).1=(fsS (zJc l) (inL l v l.length) l.length (inL l v l.length).length).2↔_:=⟨fun h=>hc.1 h.symm,fun h=>(hc.2 h).symm⟩;rw [hc]
 have rel: ∀ i j:Nat,i<l.length->z8 (tg l i) v->z8 (tg l j) v->(zJc l (i:Int) (j:Int)=true↔∃ w,w≠v/\z8 (tg l i) w/\z8 (tg l j) w):=fun i j hi h1 h2=>by
  unfold zJc;exact z5O (hd i hi) h1 h2
 obtain ⟨z,hz,hzv,ez⟩:=zC0.1 (jB hne);constructor
 ·intro h Q hQ a ha hav hqa i hi hiv
  have go: ∀ R:Nat->Prop,(∀ i j:Nat,i<l.length->j<l.length->z8 (tg l i) v->z8 (tg l j) v->(∃ w:Int,w≠v/\z8 (tg l i) w/\z8 (tg l j) w)->R i->R j)->R z->∀ i,i<l.length->z8 (tg l i) v->R i:=fun R hR h0 i hi hiv=>by
   have:=h (fun x=>R x.toNat) (fun x hx y hy b q=>by
    obtain ⟨p,hp,hpv,rfl⟩:=zC0.1 hx;obtain ⟨s,hs,hsv,rfl⟩:=zC0.1 hy
    exact hR p s hp hs hpv hsv ((rel p s hp hpv hsv).1 b) q) (by rw [ez];exact h0) (i:Int) (zC0.2 ⟨i,hi,hiv,rfl⟩)
   exact this
  by_cases hqz:Q z
  ·exact go Q hQ hqz i hi hiv
  ·exact absurd hqa (go (fun k=> ¬ Q k) (fun i j hi hj h1 h2 ⟨w,w1,w2,w3⟩ hn hq=>hn (hQ j i hj hi h2 h1 ⟨w,w1,w3,w2⟩ hq)) hqz a ha hav)
 ·intro h Q hQ h0 x hx;obtain ⟨i,hi,hiv,rfl⟩:=zC0.1 hx;rw [ez] at h0;exact h (fun k=>Q (k:Int)) (fun p q hp hq h1 h2 hw hqp=>hQ _ (zC0.2 ⟨p,hp,h1,rfl⟩) _ (zC0.2 ⟨q,hq,h2,rfl⟩) ((rel p q hp h1 h2).2 hw) hqp) z hz hzv h0 i hi hiv
def shE (t u:P3) (p q:Nat):Prop:=zKl t p=zKl u q/\zKl t ((p+1) % 3)=zKl u ((q+1) % 3)
def zQ9 (t u:P3):Prop:=(∀ p q,p<3->q<3->¬ shE t u p q)/\zLq t u 3≠3
theorem zQ8 {t:P3} {a b:Int} :dE t a b↔∃ p,p<3/\zKl t p=a/\zKl t ((p+1) % 3)=b:=by
 constructor
 ·rintro (⟨h1,h2⟩|⟨h1,h2⟩|⟨h1,h2⟩)
  ·exact ⟨0,by omega,h1,h2⟩
  ·exact ⟨1,by omega,h1,h2⟩
  ·exact ⟨2,by omega,h1,h2⟩
 ·rintro ⟨p,hp,h1,h2⟩;have:p=0\/p=1\/p=2:=by omega
  rcases this with e|e|e<;>subst e
  ·exact .inl ⟨h1,h2⟩
  ·exact .inr (.inl ⟨h1,h2⟩)
  ·exact .inr (.inr ⟨h1,h2⟩)
theorem z9e (t u:P3):zLq t u 3=3↔z8 u t.1/\z8 u t.2.1/\z8 u t.2.2:=by
 rw [zDu,zDu,zDu];have e0:zKl t 0=t.1:=rfl;have e1:zKl t 1=t.2.1:=rfl;have e2:zKl t 2=t.2.2:=rfl;rw [e0,e1,e2];show (if _ then (if _ then (if _ then (0:Int)+1 else 0)+1 else _)+1 else _)=3↔_
 by_cases b1:z8 u t.1<;>by_cases b2:z8 u t.2.1<;>by_cases b3:z8 u t.2.2<;>simp [b1,b2,b3,zLq]
theorem zUH {t u:P3} (h1: ¬ dgn t) (h2: ¬ dgn u) (h:z8 u t.1/\z8 u t.2.1/\z8 u t.2.2):z8 t u.1/\z8 t u.2.1/\z8 t u.2.2:=by
 obtain ⟨x,y,z⟩:=t;obtain ⟨p,q,r⟩:=u;unfold z8 at *;unfold dgn at *;simp only at *;omega
theorem zWb {s:Int×List P3} (hf:zMc s) (hd: ∀ i,i<s.2.length->¬ dgn (tg s.2 i)) (hp: ∀ i k,k<i->i<s.2.length->zQ9 (tg s.2 i) (tg s.2 k)) (hv: ∀ v:Nat,(v:Int)<s.1->(zBZ s.2 v).1≠0/\(zBZ s.2 v).1=(zBZ s.2 v).2):zBK s:=by
 refine ⟨hf,hd,fun i j hij hj a b k1 k2=> ?_,fun i j hij hj hh=> ?_,fun v hv'=> ?_,fun v hv'=> ?_⟩
 ·obtain ⟨p,hp3,e1,e2⟩:=zQ8.1 k1;obtain ⟨q,hq3,e3,e4⟩:=zQ8.1 k2;exact (hp j i hij hj).1 q p hq3 hp3 ⟨e3.trans e1.symm,e4.trans e2.symm⟩
 ·refine (hp j i hij hj).2 ((z9e _ _).2 ?_);exact zUH (hd i (by omega)) (hd j hj) hh
 ·have:=(hv v hv').1
  have:0<(inL s.2 v s.2.length).length:=by
   have e:(zBZ s.2 v).1=((inL s.2 v s.2.length).length:Int):=rfl;omega
  obtain ⟨j,hj,h,_⟩:=zC0.1 (jB this);exact ⟨j,hj,h⟩
 ·have h1:=(hv v hv').1
  have:0<(inL s.2 v s.2.length).length:=by
   have e:(zBZ s.2 v).1=((inL s.2 v s.2.length).length:Int):=rfl;omega
  exact (z2C hd this).1 (hv v hv').2
theorem zNY {s:Int×List P3} (h:zBK s) {i k:Nat} (hki:k<i) (hi:i<s.2.length):zQ9 (tg s.2 i) (tg s.2 k):=by
 refine ⟨fun p q hp hq hh=> ?_,fun hh=> ?_⟩
 ·exact h.dif k i hki hi _ _ (zQ8.2 ⟨q,hq,rfl,rfl⟩) (zQ8.2 ⟨p,hp,hh.1,hh.2⟩)
 ·exact h.mir k i hki hi (zUH (h.deg i hi) (h.deg k (by omega)) ((z9e _ _).1 hh))
theorem zZt {s:Int×List P3} (h:zBK s) {v:Nat} (hv:(v:Int)<s.1):(zBZ s.2 v).1≠0/\(zBZ s.2 v).1=(zBZ s.2 v).2:=by
 obtain ⟨j,hj,hjv⟩:=h.use v hv;have hm:(j:Int)∈inL s.2 v s.2.length:=zC0.2 ⟨j,hj,hjv,rfl⟩;have:0<(inL s.2 v s.2.length).length:=List.length_pos_of_mem hm;refine ⟨?_,(z2C h.deg this).2 (h.pin v hv)⟩;have e:(zBZ s.2 v).1=((inL s.2 v s.2.length).length:Int):=rfl;omega
end S1
namespace S1
def z1H (t:P3) (n:Int):Bool:=zCm n t&&(t.1 != t.2.1&&(t.2.1 != t.2.2&&t.2.2 != t.1))
theorem z48 {fn} (t:P3) (n:Int):zAG ⟨tyL,fn,[]⟩ f139 [ETy.arr3.av t,y8.av n] (fun r=>r= .s (.bool (z1H t n))):=by
 repeat' (conv=>whnf
          first|done|refine qy ?_|refine qG fun _=> ?_|refine qw (fun _=> ?_) (fun _=> ?_)|apply qt|refine qi (fun _=> ?_) (fun _=> ?_)|(refine zdg 2 rfl ?_;refine Or.inl (zB (4) ?_))|refine qu ?_|refine qv ?_ ?_|exact zO)
 all_goals try first|refine qz ?_|apply qz5
 all_goals try simp only [qn0,z7,zX,ETy.dflt,Int.reduceToNat,Int.reduceAdd,Int.reduceSub,Int.reduceNeg,Nat.reduceAdd,z1H] at *
 all_goals rw [Bool.eq_iff_iff];simp only [zCm,vIn,zC,zbB,Bool.or_eq_false_iff,yM,bne_iff_ne,Bool.false_eq_true,true_iff,iff_true,false_iff,iff_false];omega
def z5n:List AV->Option Res:=zCr .arr3 y8 (fun t n=>some (none,none,.s (.bool (z1H t n))))
theorem z3W:qM prog 139 z5n:=mkR (jD fun t n r h=>by cases h;exact fb (fn:=[]) trivial func139 fun _ _=>z48 t n) func139
theorem z0N (t:P3) (n:Int) (l:List P3):zAG ⟨tyL,[(139,z5n)],[]⟩ f138 [ETy.arr3.av t,(ETy.pt qP).av (some (n,l))] (fun r=>r= .s (.bool (!z1H t n))):=by
 repeat' (conv=>whnf
          first|done|refine qy ?_|refine qG fun _=> ?_|refine qw (fun _=> ?_) (fun _=> ?_)|apply qt|refine qi (fun _=> ?_) (fun _=> ?_)|refine qu ?_|refine qv ?_ ?_|exact zO)
 all_goals try first|refine qz ?_|apply qz5
 all_goals try simp only [qn0,z7,zX,ETy.dflt,Int.reduceToNat,Int.reduceAdd,Int.reduceSub,Int.reduceNeg,Nat.reduceAdd,zbU] at *
def zW1:List AV->Option Res:=zCr .arr3 (.pt qP) (fun t o=>match o with|some s=>some (none,none,.s (.bool (!z1H t s.1)))|none=>none)
theorem z0e:qM prog 138 zW1:=mkR (jD fun t o r h=>by
 cases o with
 | none=>cases h
 | some s=>cases h;exact fb (fn:=[(139,z5n)]) ⟨z3W,trivial⟩ func138 fun _ _=>z0N t s.1 s.2) func138
attribute [local irreducible] z1H
def zSo (n:Int):List P3->Nat->Int
 | [],_=> -1
 | t::r,i=>if z1H t n=false then (i:Int) else zSo n r (i+1)
def zX1 (n:Int) (l:List P3):Spec Nat where
 inv x:=x<=l.length/\zSo n l 0=zSo n (l.drop x) x
 live x:=[(8,.s (.int .i64 x))]
 keep:=[0,1,7]
 heap _:=[]
 keepH:=[]
 mu x:=l.length - x
theorem zNk {l:List P3} {x:Nat} (h:x<l.length):l.drop x=l.getD x (0,0,0)::l.drop (x+1):=by
 rw [List.drop_eq_getElem_cons h,gdE,gE h];rfl
theorem z3x (l:List P3) (s:Int×List P3):zAG ⟨tyL,[(138,zW1)],[]⟩ f170 [(ETy.sl .arr3).av l,.s (.clo 138 [⟨qP,s⟩])] (fun r=>r= .s (.int .i64 (zSo s.1 l 0))):=by
 repeat' (conv=>whnf
          first|done|refine qy ?_|refine qG fun _=> ?_|refine qw (fun _=> ?_) (fun _=> ?_)|apply qt|refine qi (fun _=> ?_) (fun _=> ?_)|(refine zaB 2 rfl (zX1 s.1 l) (0) ?_ ?_ ?_ fun x hx=> ?_)|with_reducible refine zaA (zX1 _ _) (x+1) ?_ ?_ ?_ ?_|refine qu ?_|refine qv ?_ ?_|exact zO)
 all_goals try first|refine qz ?_|apply qz5
 all_goals try simp only [qn0,z7,zX,ETy.dflt,Int.reduceToNat,Int.reduceAdd,Int.reduceSub,Int.reduceNeg,Nat.reduceAdd,zX1] at *
 all_goals try (refine qh ?_;omega)
 ·exact qh ⟨zbH _,rfl⟩
 ·rename_i h1 h2;exact qh ⟨by omega,by rw [hx.2,zNk (by omega),zSo,if_neg (by rw [h2];simp)]⟩
 ·rename_i h1 h2;rw [hx.2,zNk (by omega),zSo,if_pos h2]
 ·rw [hx.2,zb7 (by omega)];rfl
def z1I:List AV->Option Res
 | [.s (.sl .arr3 l),.s (.clo f [⟨.pair (.int .i64) (.sl .arr3),s⟩])]=>match Nat.beq f 138 with
   | true=>some (none,none,.s (.int .i64 (zSo s.1 l 0)))
   | false=>none
 | _=>none
theorem z5s:qM prog 170 z1I:=⟨fun args r h=>by
 unfold z1I at h;split at h
 case h_2=>cases h
 split at h
 case h_2=>cases h
 rename_i he;cases h;rw [zH he]
 exact fb (fn:=[(138,zW1)]) ⟨z0e,trivial⟩ func170 fun _ _=>z3x _ _,_,func170,by kernel_rfl,by kernel_rfl⟩
theorem z3w (l:List P3) (s:Int×List P3):zAG ⟨tyL,[(170,z1I)],[]⟩ f137 [(ETy.sl .arr3).av l,.s (.clo 138 [⟨qP,s⟩])] (fun r=>r= .s (.bool (decide (zSo s.1 l 0>=0)))):=by
 repeat' (conv=>whnf
          first|done|refine qy ?_|refine qG fun _=> ?_|refine qw (fun _=> ?_) (fun _=> ?_)|apply qt|refine qi (fun _=> ?_) (fun _=> ?_)|refine qu ?_|refine qv ?_ ?_|exact zO)
 all_goals try first|refine qz ?_|apply qz5
 all_goals try simp only [qn0,z7,zX,ETy.dflt,Int.reduceToNat,Int.reduceAdd,Int.reduceSub,Int.reduceNeg,Nat.reduceAdd] at *
def z1h:List AV->Option Res
 | [.s (.sl .arr3 l),.s (.clo f [⟨.pair (.int .i64) (.sl .arr3),s⟩])]=>match Nat.beq f 138 with
   | true=>some (none,none,.s (.bool (decide (zSo s.1 l 0>=0))))
   | false=>none
 | _=>none
theorem z3D:qM prog 137 z1h:=⟨fun args r h=>by
 unfold z1h at h;split at h
 case h_2=>cases h
 split at h
 case h_2=>cases h
 rename_i he;cases h;rw [zH he]
 exact fb (fn:=[(170,z1I)]) ⟨z5s,trivial⟩ func137 fun _ _=>z3w _ _,_,func137,by kernel_rfl,by kernel_rfl⟩
def zD4 (s:Int×List P3):Bool:= !(decide (s.1<0)|| (decide (s.1>4096)|| (decide ((s.2.length:Int)>8192)|| decide (zSo s.1 s.2 0>=0))))
theorem z30 (n:Int) (l:List P3):zAG ⟨tyL,[(137,z1h)],[]⟩ f100 [qP.av (n,l)] (fun r=>r= .s (.bool (zD4 (n,l)))):=by
 repeat' (conv=>whnf
          first|done|refine qy ?_|refine qG fun _=> ?_|refine qw (fun _=> ?_) (fun _=> ?_)|apply qt|refine qi (fun _=> ?_) (fun _=> ?_)|refine qu ?_|refine qv ?_ ?_|exact zO)
 all_goals try first|refine qz ?_|apply qz5
 all_goals try simp only [qn0,z7,zX,ETy.dflt,Int.reduceToNat,Int.reduceAdd,Int.reduceSub,Int.reduceNeg,Nat.reduceAdd,zD4] at *
 all_goals simp [*]
def zMX:List AV->Option Res:=zEz qP (fun s=>some (none,none,.s (.bool (zD4 s))))
theorem zL5:qM prog 100 zMX:=mkR (zA1 fun s r h=>by cases h;exact fb (by exact ⟨z3D,trivial⟩) func100 fun _ _=>z30 s.1 s.2) func100
theorem zUX (n:Int): ∀ (l:List P3) (i:Nat),(∀ t∈l,z1H t n=true)->zSo n l i= -1
 | [],_,_=>rfl
 | t::r,i,h=>by
   unfold zSo;rw [if_neg (by rw [h t (zY ..)];simp)];exact zUX n r (i+1) fun u hu=>h u (zQ _ hu)
abbrev zAJ:=Int×Int×List Int×List P3×List Int
abbrev SoT:=Int×List P3
abbrev zG3:ETy:= .pair y8 (.pair y8 (.pair (.sl y8) (.pair (.sl .arr3) (.sl y8))))
def zJs (v a b:Int):Int:=if v<0 then -1 else if (if v=a then b else v)>a then (if v=a then b else v) - 1 else (if v=a then b else v)
theorem z4o {fn} (v:Int) (r:zAJ) (h:(-1000000<=v/\v<=1000000)/\(-1000000<=r.2.1/\r.2.1<=1000000)):zAG ⟨tyL,fn,[]⟩ f104 [y8.av v,zG3.av r] (fun x=>x= .s (.int .i64 (zJs v r.1 r.2.1))):=by
 repeat' (conv=>whnf
          first|done|refine qy ?_|refine qG fun _=> ?_|refine qw (fun _=> ?_) (fun _=> ?_)|apply qt|refine qi (fun _=> ?_) (fun _=> ?_)|refine qu ?_|refine qv ?_ ?_|exact zO)
 all_goals try first|refine qz ?_|apply qz5
 all_goals try simp only [qn0,z7,zX,ETy.dflt,Int.reduceToNat,Int.reduceAdd,Int.reduceSub,Int.reduceNeg,Nat.reduceAdd,zJs] at *
 all_goals try (refine qh ?_;unfold yP;omega)
 all_goals
  (repeat' split)<;>first|rfl|(exfalso;omega)|omega
def zPo:List AV->Option Res:=zCr y8 zG3 (fun (v:Int) (r:zAJ)=>some (none,some ((-1000000<=v/\v<=1000000)/\(-1000000<=r.2.1/\r.2.1<=1000000)),.s (.int .i64 (zJs v r.1 r.2.1))))
theorem zPh:qM prog 104 zPo:=mkR (jD fun v r r h=>by cases h;exact fb (fn:=[]) trivial func104 fun _ h=>z4o v r h) func104
def zO7 (w:Int):Int:=if w=1 then 8 else if w=2 then 13 else if w=3\/w=4 then 14 else 0
theorem z5D {fn} (w:Int):zAG ⟨tyL,fn,[]⟩ f101 [y8.av w] (fun x=>x= .s (.int .i64 (zO7 w))):=by
 repeat' (conv=>whnf
          first|done|refine qy ?_|refine qG fun _=> ?_|refine qw (fun _=> ?_) (fun _=> ?_)|apply qt|refine qi (fun _=> ?_) (fun _=> ?_)|refine qu ?_|refine qv ?_ ?_|exact zO)
 all_goals try first|refine qz ?_|apply qz5
 all_goals try simp only [qn0,z7,zX,ETy.dflt,Int.reduceToNat,Int.reduceAdd,Int.reduceSub,Int.reduceNeg,Nat.reduceAdd,zO7] at *
 all_goals
  (repeat' split)<;>first|rfl|(exfalso;omega)
def zXr:List AV->Option Res:=zEz y8 (fun w=>some (none,none,.s (.int .i64 (zO7 w))))
theorem zVJ:qM prog 101 zXr:=mkR (zA1 fun w r h=>by cases h;exact fb (fn:=[]) trivial func101 fun _ _=>z5D w) func101
def eqS (a b:SoT):Bool:=decide (a=b)
def eqL (a b:List Int):Bool:=decide (a=b)
def zUg (a b:List Int):Spec Nat where
 inv x:=x<=a.length/\∀ i,i<x->a.getD i 0=b.getD i 0
 live x:=[(13,.s (.int .i64 x))]
 keep:=[0,1,12]
 heap _:=[]
 keepH:=[]
 mu x:=a.length - x
theorem zYj {fn} (a b:List Int):zAG ⟨tyL,fn,[]⟩ f141 [(ETy.sl y8).av a,(ETy.sl y8).av b] (fun v=>v= .s (.bool (eqL a b))):=by
 repeat' (conv=>whnf
          first|done|refine qy ?_|refine qG fun _=> ?_|refine qw (fun _=> ?_) (fun _=> ?_)|apply qt|refine qi (fun _=> ?_) (fun _=> ?_)|(refine zaB 4 rfl (zUg a b) (0) ?_ ?_ ?_ fun x hx=> ?_)|with_reducible refine zaA (zUg _ _) (x+1) ?_ ?_ ?_ ?_|refine qu ?_|refine qv ?_ ?_|exact zO)
 all_goals try first|refine qz ?_|apply qz5
 all_goals try simp only [qn0,z7,zX,ETy.dflt,Int.reduceToNat,Int.reduceAdd,Int.reduceSub,Int.reduceNeg,Nat.reduceAdd,zUg,eqL] at *
 ·symm;rw [yM];intro e;subst e;exact absurd rfl (by assumption)
 ·exact qh ⟨zbH _,fun i hi=>by omega⟩
 ·symm;rw [yM];intro e;subst e;exact absurd rfl (by assumption)
 ·refine yJ.intro ⟨by omega,fun i hi=> ?_⟩
  by_cases e:i=x
  ·subst e;assumption
  ·exact hx.2 i (by omega)
 ·refine qh ?_;omega
 ·symm;rw [zP];apply List.ext_getElem
  ·omega
  ·intro i h1 h2;have:=hx.2 i (by omega);rw [gdE,gdE,gE h1,gE h2] at this;exact this
def zPU:List AV->Option Res:=zCr (.sl y8) (.sl y8) (fun a b=>some (none,none,.s (.bool (eqL a b))))
theorem zU1:qM prog 141 zPU:=mkR (jD fun a b r h=>by cases h;exact fb (fn:=[]) trivial func141 fun _ _=>zYj a b) func141
end S1
namespace S1
@[irreducible] def hasB (t:P3) (v:Int):Bool:=decide (z8 t v)
theorem zG2 {t:P3} {v:Int} :hasB t v=true↔z8 t v:=by unfold hasB;exact decide_eq_true_iff
theorem zP4 {t:P3} {v:Int} :hasB t v=false↔¬ z8 t v:=by rw [<- zG2];simp
theorem z0O {fn} (t:P3) (v:Int):zAG ⟨tyL,fn,[]⟩ f51 [ETy.arr3.av t,y8.av v] (fun r=>r= .s (.bool (hasB t v))):=by
 repeat' (conv=>whnf
          first|done|refine qy ?_|refine qG fun _=> ?_|refine qw (fun _=> ?_) (fun _=> ?_)|apply qt|refine qi (fun _=> ?_) (fun _=> ?_)|refine qu ?_|refine qv ?_ ?_|exact zO)
 all_goals try first|refine qz ?_|apply qz5
 all_goals try simp only [qn0,z7,zX,ETy.dflt,Int.reduceToNat,Int.reduceAdd,Int.reduceSub,Int.reduceNeg,Nat.reduceAdd] at *
 all_goals (rw [Bool.eq_iff_iff,zG2];unfold z8;simp [*])
def zI7:List AV->Option Res:=zCr .arr3 y8 (fun t v=>some (none,none,.s (.bool (hasB t v))))
theorem zLs:qM prog 51 zI7:=mkR (jD fun t v r h=>by cases h;exact fb (fn:=[]) trivial func51 fun _ _=>z0O t v) func51
theorem zXs (t:P3) (k:Nat):[t.1,t.2.1,t.2.2].getD k 0=zKl t k:=rfl
theorem tmX (x:Nat):(((x:Int)+1).tmod 3).toNat=(x+1) % 3:=by rw [Int.tmod_eq_emod_of_nonneg (by omega)];omega
def zQN (a b:P3):Spec Nat where
 inv k:=k<=3
 live k:=[(6,.s (.int .i64 k)),(5,.s (.int .i64 (zLq a b k)))]
 keep:=[2,3]
 heap _:=[]
 keepH:=[0,1]
 mu k:=3 - k
theorem zKY (a b:P3):zLq a b 0=0:=rfl
attribute [local irreducible] zLq
theorem z0X (a b:P3):zAG ⟨tyL,[(51,zI7)],[]⟩ f91 [ETy.arr3.av a,ETy.arr3.av b] (fun r=>r= .s (.bool (z38 a b))):=by
 repeat' (conv=>whnf
          first|done|refine qy ?_|refine qG fun _=> ?_|refine qw (fun _=> ?_) (fun _=> ?_)|apply qt|refine qi (fun _=> ?_) (fun _=> ?_)|(refine zaB 3 rfl (zQN a b) (0) ?_ ?_ ?_ fun k hk=> ?_)|with_reducible refine zaA (zQN _ _) (k+1) ?_ ?_ ?_ ?_|refine qu ?_|refine qv ?_ ?_|exact zO)
 all_goals try first|refine qz ?_|apply qz5
 all_goals try simp only [qn0,z7,zX,ETy.dflt,Int.reduceToNat,Int.reduceAdd,Int.reduceSub,Int.reduceNeg,Nat.reduceAdd,zQN,zXs,z38,tmX] at *
 all_goals try exact zKY a b
 all_goals try exact qh (zbH _)
 all_goals try (rw [zKY];done)
 all_goals try (rw [zKY];rfl)
 all_goals try exact zKY _ _
 all_goals try exact (zKY _ _).symm
 all_goals have hN:=zQS a b k
 all_goals try (refine qh ?_;omega)
 all_goals try (refine qh ?_;unfold yP;omega)
 all_goals try (rw [zDu,if_pos (zG2.1 (by assumption))];done)
 all_goals try (rw [zDu,if_neg (zP4.1 (by assumption))];done)
 all_goals (rw [show k=3 by omega])
def zYh:List AV->Option Res:=zCr .arr3 .arr3 (fun a b=>some (none,none,.s (.bool (z38 a b))))
theorem z08:qM prog 91 zYh:=mkR (jD fun a b r h=>by cases h;exact fb (by exact ⟨zLs,trivial⟩) func91 fun _ _=>z0X a b) func91
theorem z68 (l:List P3) (v:Int):inL l v 0=[]:=rfl
theorem z5X {l:List P3} {v:Int} {i:Nat} (h:hasB (l.getD i (0,0,0)) v=true):inL l v (i+1)=inL l v i++[(i:Int)]:=by
 have h:z8 (tg l i) v:=zG2.1 h;rw [zL8];unfold inG;rw [if_pos h];rfl
theorem z74 {l:List P3} {v:Int} {i:Nat} (h:hasB (l.getD i (0,0,0)) v=false):inL l v (i+1)=inL l v i:=by
 have h: ¬ z8 (tg l i) v:=zP4.1 h;rw [zL8];unfold inG;rw [if_neg h];exact zbF _
theorem z6Q (bs:Int->Int->Bool) (L:List Int) (n:Nat):(fsS bs L n 0).2=1:=rfl
theorem z8F (bs:Int->Int->Bool) (L:List Int) (n:Nat):(fsS bs L n 0).1=(List.replicate n false).set (L.getD 0 0).toNat true:=rfl
theorem z7a {X:Type} (f:X->Nat->X) (s:X):qA f s 0=s:=rfl
theorem z8v (bs:Int->Int->Bool) (L:List Int) (S:FsT) (p:Nat):qA (fsI bs L) S (p+1)=qA (fsK bs L p) (qA (fsI bs L) S p) L.length:=rfl
theorem z9H (bs:Int->Int->Bool) (L:List Int) (n r:Nat):fsS bs L n (r+1)=qA (fsI bs L) (fsS bs L n r) L.length:=rfl
theorem z5G {l:List P3} {v:Int} (h:(inL l v l.length).length=0):zBZ l v=(0,0):=by
 unfold zBZ;rw [if_pos h,h];rfl
theorem z5j {l:List P3} {v:Int} (h:(inL l v l.length).length≠0):zBZ l v=(((inL l v l.length).length:Int),(fsS (zJc l) (inL l v l.length) l.length (inL l v l.length).length).2):=by
 unfold zBZ;rw [if_neg h]
attribute [local irreducible] inL z38
def zVh (l:List P3) (v:Int):Spec Nat where
 inv i:=i<=l.length
 live i:=[(7,.s (.int .i64 i)),(6,.s (.own 1 0 (inL l v i).length))]
 keep:=[1,2,4,5]
 heap i:=[(1,.row y8 3 (inL l v i))]
 keepH:=[0]
 mu i:=l.length - i
def zV5 (l:List P3) (L:List Int):Spec Nat where
 inv r:=r<=L.length
 live r:=[(10,.s (.int .i64 r)),(9,.s (.int .i64 (fsS (zJc l) L l.length r).2))]
 keep:=[1,2,4,5,6,8]
 heap r:=[(2,.row .bool 4 (fsS (zJc l) L l.length r).1)]
 keepH:=[0,1]
 mu r:=L.length - r
def zUA (l:List P3) (L:List Int) (r:Nat):Spec Nat where
 inv i:=i<=L.length
 live i:=[(11,.s (.int .i64 i)),(9,.s (.int .i64 (qA (fsI (zJc l) L) (fsS (zJc l) L l.length r) i).2))]
 keep:=[1,2,4,5,6,8,10]
 heap i:=[(2,.row .bool 4 (qA (fsI (zJc l) L) (fsS (zJc l) L l.length r) i).1)]
 keepH:=[0,1]
 mu i:=L.length - i
def zXR (l:List P3) (L:List Int) (r i:Nat):Spec Nat where
 inv k:=k<=L.length
 live k:=[(12,.s (.int .i64 k)),(9,.s (.int .i64 (qA (fsK (zJc l) L i) (qA (fsI (zJc l) L) (fsS (zJc l) L l.length r) i) k).2))]
 keep:=[1,2,4,5,6,8,10,11]
 heap k:=[(2,.row .bool 4 (qA (fsK (zJc l) L i) (qA (fsI (zJc l) L) (fsS (zJc l) L l.length r) i) k).1)]
 keepH:=[0,1]
 mu k:=L.length - k
theorem z4I {bs:Int->Int->Bool} {L:List Int} {i k:Nat} {S:FsT} (h1:(qA (fsK bs L i) S k).1.getD (L.getD i 0).toNat false=true) (h2:(qA (fsK bs L i) S k).1.getD (L.getD k 0).toNat false=false) (h3:bs (L.getD i 0) (L.getD k 0)=true) :
 qA (fsK bs L i) S (k+1)=((qA (fsK bs L i) S k).1.set (L.getD k 0).toNat true,(qA (fsK bs L i) S k).2+1):=if_pos ⟨h1,h2,h3⟩
theorem zWg {bs:Int->Int->Bool} {L:List Int} {i k:Nat} {S:FsT} (h:(qA (fsK bs L i) S k).1.getD (L.getD i 0).toNat false=false\/(qA (fsK bs L i) S k).1.getD (L.getD k 0).toNat false=true\/bs (L.getD i 0) (L.getD k 0)=false) :
 qA (fsK bs L i) S (k+1)=qA (fsK bs L i) S k:=if_neg (by
 rintro ⟨h1,h2,h3⟩;rcases h with h|h|h
 ·rw [h] at h1;cases h1
 ·rw [h] at h2;cases h2
 ·rw [h] at h3;cases h3)
attribute [local irreducible] fsS qA
theorem z1N (n:Int) (l:List P3) (v:Int) (hl:l.length<=8192):zAG ⟨tyL,[(51,zI7),(91,zYh)],[]⟩ f52 [qP.av (n,l),y8.av v] (fun r=>r= .tup [.s (.int .i64 (zBZ l v).1),.s (.int .i64 (zBZ l v).2)]):=by
 repeat' (conv=>whnf
          first|done|refine qy ?_|refine qG fun _=> ?_|refine qw (fun _=> ?_) (fun _=> ?_)|apply qt|refine qi (fun _=> ?_) (fun _=> ?_)|(refine zaB 3 rfl (zVh l v) (0) ?_ ?_ ?_ fun i hi=> ?_)|with_reducible refine zaA (zVh _ _) (i+1) ?_ ?_ ?_ ?_|(refine zaB 13 rfl (zV5 l (inL l v l.length)) (0) ?_ ?_ ?_ fun r hr=> ?_)|with_reducible refine zaA (zV5 _ _) (r+1) ?_ ?_ ?_ ?_|(refine zaB 16 rfl (zUA l (inL l v l.length) r) (0) ?_ ?_ ?_ fun p hp=> ?_)|with_reducible refine zaA (zUA _ _ _) (p+1) ?_ ?_ ?_ ?_|(refine zaB 19 rfl (zXR l (inL l v l.length) r p) (0) ?_ ?_ ?_ fun q hq=> ?_)|with_reducible refine zaA (zXR _ _ _ _) (q+1) ?_ ?_ ?_ ?_|refine qu ?_|refine qv ?_ ?_|exact zO)
 all_goals try first|refine qz ?_|apply qz5
 all_goals try simp only [qn0,z7,zX,ETy.dflt,Int.reduceToNat,Int.reduceAdd,Int.reduceSub,Int.reduceNeg,Nat.reduceAdd,zVh,zV5,zUA,zXR] at *
 all_goals try exact qh (zbH _)
 all_goals try (rw [z68];done)
 all_goals try (rw [z68];rfl)
 all_goals have hle:=z58 l v i
 all_goals try (refine qh ?_;omega)
 all_goals try (rw [z5X (by assumption)];first|done|exact zN)
 all_goals try (rw [z74 (by assumption)];done)
 all_goals have ei:i=l.length:=by omega
 all_goals subst ei
 all_goals have hg:=fun k (hk:k<(inL l v l.length).length)=>z3t (l:=l) (v:=v) hk
 all_goals have hrg:=zQZ (l:=l) (v:=v) (n:=l.length)
 all_goals try
  have h0:((inL l v l.length).length:Int)=0:=by assumption
  rw [z5G (show (inL l v l.length).length=0 by omega)];exact y9.intro rfl
 all_goals have hne : (inL l v l.length).length ≠ 0 := by have h0:((inL l v l.length).length:Int)≠0:=by assumption
                                                          omega
 all_goals try exact z6Q _ _ _
 all_goals try exact z8F _ _ _
 all_goals try (rw [z7a];done)
 all_goals try (have h:=hg 0 (by omega);refine yJ.intro (zA ?_ ?_)<;>omega)
 all_goals try
  have hr1:r=(inL l v l.length).length:=by omega
  rw [z5j hne,hr1];exact y9.intro rfl
 all_goals try
  have hp1:p=(inL l v l.length).length:=by omega
  rw [z9H,hp1];done
 all_goals try
  have hq1:q=(inL l v l.length).length:=by omega
  rw [z8v,hq1];done
 all_goals (have kp:=hg p (by omega);have kq:=hg q (by omega))
 all_goals try (refine yJ.intro (zA ?_ ?_)<;>omega)
 all_goals have hS:=zOu.r (bs:=zJc l) hrg (by omega) r
 all_goals have hS:=zOu.i (bs:=zJc l) hrg hS p (by omega)
 all_goals have hS:=(zOu.k (bs:=zJc l) hrg hS (i:=p) (by omega) q (by omega)).le
 all_goals try (refine qh ?_;unfold yP;omega)
 all_goals try (refine qh ?_;omega)
 all_goals first
  | (rw [z4I (by assumption) (by assumption) (by assumption)];done)
  | (rw [zWg (.inl (by assumption))];done)
  | (rw [zWg (.inr (.inl (by assumption)))];done)
  | (rw [zWg (.inr (.inr (by assumption)))];done)
def zUm:List AV->Option Res:=zCr qP y8 (fun s v=>some (none,some (s.2.length<=8192),.tup [.s (.int .i64 (zBZ s.2 v).1),.s (.int .i64 (zBZ s.2 v).2)]))
theorem zZk:qM prog 52 zUm:=mkR (jD fun s v r h=>by cases h;exact fb (by exact ⟨zLs,z08,trivial⟩) func52 fun _ h=>z1N s.1 s.2 v h) func52
end S1
namespace S1
def atG (a b:Int) (l:List P3) (i:Nat):Option Int:=if both a b (tg l i)=true then some (i:Int) else none
def rtG (a b:Int) (l:List P3) (i:Nat):Option P3:=if both a b (tg l i)=true then some (tg l i) else none
def zKb (a:Int) (t:P3):Int:=if t.1=a then 0 else if t.2.1=a then 1 else 2
def zOt (a b:Int) (l:List P3) (i:Nat):Option Int:=if both a b (tg l i)=true then none else if z8 (tg l i) a then some (3*(i:Int)+zKb a (tg l i)) else none
def atL (a b:Int) (l:List P3) (i:Nat):List Int:=(List.range i).filterMap (atG a b l)
def rtL (a b:Int) (l:List P3) (i:Nat):List P3:=(List.range i).filterMap (rtG a b l)
def zDn (a b:Int) (l:List P3) (i:Nat):List Int:=(List.range i).filterMap (zOt a b l)
def zQm (s:SoT) (a b:Int):zAJ:=(a,b,atL a b s.2 s.2.length,rtL a b s.2 s.2.length,zDn a b s.2 s.2.length)
theorem zOf {α:Type} (d:α) (f:Nat->Option α) {i:Nat} {x:α} (h:f i=some x): ∀ n,i<n->((List.range i).filterMap f).length<((List.range n).filterMap f).length/\((List.range n).filterMap f).getD ((List.range i).filterMap f).length d=x
 | 0,hi=>by omega
 | n +1,hi=>by
   rw [q9]
   by_cases e:i=n
   ·subst e;rw [h,Option.toList];refine ⟨by simp,?_⟩;rw [gdE,zb8 (zI _)];simp
   ·obtain ⟨h1,h2⟩:=zOf d f h n (by omega);refine ⟨by rw [zN];omega,?_⟩;rw [gdE,zbD h1,<- gdE];exact h2
theorem zV1 (a b:Int) (l:List P3): ∀ i,(atL a b l i).length+(drL a b l i).length=i
 | 0=>rfl
 | i+1=>by
   have ih:=zV1 a b l i;have e1:atL a b l (i+1)=atL a b l i++(atG a b l i).toList:=q9 _ _;rw [e1,zFm];unfold atG drG;split<;>simp only [Option.toList,zN,List.length_singleton,List.length_nil]<;>omega
theorem zWL (a b:Int) (l:List P3): ∀ i,(atL a b l i).length=(rtL a b l i).length
 | 0=>rfl
 | i+1=>by
   have ih:=zWL a b l i;have e1:atL a b l (i+1)=atL a b l i++(atG a b l i).toList:=q9 _ _;have e2:rtL a b l (i+1)=rtL a b l i++(rtG a b l i).toList:=q9 _ _;rw [e1,e2];unfold atG rtG;split<;>simp only [Option.toList,zN,List.length_singleton,List.length_nil]<;>omega
theorem z6V (a b:Int) (l:List P3) (i:Nat):(atL a b l i).length<=i:=zC7 _ _
theorem z6n (a b:Int) (l:List P3) (i:Nat):(rtL a b l i).length<=i:=zC7 _ _
theorem z5i (a b:Int) (l:List P3) (i:Nat):(zDn a b l i).length<=i:=zC7 _ _
def upV (A v:Int):Int:=if v>=A then v+1 else v
def upT (A:Int) (t:P3):P3:=(upV A t.1,upV A t.2.1,upV A t.2.2)
abbrev GoT:=List (Int×P3)
def z5K (at_:List Int) (ts:List P3) (k:Nat):GoT:=qA (fun (m:GoT) k=>(zAB (.int .i64) m (at_.getD k 0) (ts.getD k (0,0,0)):GoT)) [] k
def kF (g:GoT):Nat->Nat
 | 0=>0
 | i+1=>if (jS (.int .i64) g (i:Int)).isSome=true then kF g i else kF g i+1
def bkT (g:GoT) (T:List P3) (A:Int) (i:Nat):P3:=(jS (.int .i64) g (i:Int)).getD (upT A (tg T (kF g i)))
def zJp (g:GoT) (T:List P3) (A:Int) (i:Nat):List P3:=(List.range i).map (bkT g T A)
def z5u (t:P3) (k:Nat) (v:Int):P3:=(if k=0 then v else t.1,if k=1 then v else t.2.1,if k=2 then v else t.2.2)
def zYZ (A:Int) (o:List P3) (c:Int):List P3:=o.set (c.tdiv 3).toNat (z5u (o.getD (c.tdiv 3).toNat (0,0,0)) (c.tmod 3).toNat A)
def zSi (A:Int) (fan:List Int) (o:List P3) (j:Nat):List P3:=qA (fun o k=>zYZ A o (fan.getD k 0)) o j
def bkN (s:SoT) (r:zAJ):Nat:=s.2.length+r.2.2.1.length
def bkC (s:SoT) (r:zAJ):Prop:=r.2.2.1.length=r.2.2.2.1.length/\0<=r.1/\r.1<=s.1/\s.1<4096/\bkN s r<=8192
instance (s:SoT) (r:zAJ):Decidable (bkC s r):=inferInstanceAs (Decidable (_/\_))
def bkG (r:zAJ):GoT:=z5K r.2.2.1 r.2.2.2.1 r.2.2.1.length
def zXx (n:Nat) (fan:List Int):Bool:=fan.all fun c=>decide (0<=c/\c<3*(n:Int))
def bkR (s:SoT) (r:zAJ):SoT×Bool :=
 if bkC s r/\kF (bkG r) (bkN s r)<=s.2.length/\zXx (bkN s r) r.2.2.2.2=true then
  ((s.1+1,zSi r.1 r.2.2.2.2 (zJp (bkG r) s.2 r.1 (bkN s r)) r.2.2.2.2.length),decide (kF (bkG r) (bkN s r)=s.2.length))
 else ((0,[]),false)
theorem z8T (g:GoT) (i:Nat):kF g (i+1)=if (jS (.int .i64) g (i:Int)).isSome=true then kF g i else kF g i+1:=rfl
theorem zYC (g:GoT): ∀ {i j:Nat},i<=j->kF g i<=kF g j
 | i,0,h=>by rw [show i=0 by omega];exact zI _
 | i,j+1,h=>by
   by_cases e:i=j+1
   ·rw [e];exact zI _
   ·have:=zYC g (i:=i) (j:=j) (by omega);rw [z8T];split<;>omega
structure Was (w:SoT) (a b:Int):Prop where
 surf:zBK w
 ha:InN w.1 a
 hb:InN w.1 b
 ne:a≠b
section
variable {w:SoT} {a b:Int} (h:Was w a b)
theorem z2j (a b:Int) (l:List P3): ∀ i,i<=l.length->∀ j:Nat,jS (.int .i64) (z5K (atL a b l l.length) (rtL a b l l.length) (atL a b l i).length) (j:Int)=if j<i/\both a b (tg l j)=true then some (tg l j) else none
 | 0,_,j=>by rw [if_neg (by omega)];rfl
 | i + 1,hi,j=>by
   have ih:=z2j a b l i (by omega) j;have e1:atL a b l (i+1)=atL a b l i++(atG a b l i).toList:=q9 _ _;rw [e1]
   by_cases k:both a b (tg l i)=true
   ·have f1:atG a b l i=some (i:Int):=by unfold atG;rw [if_pos k]
    have f2:rtG a b l i=some (tg l i):=by unfold rtG;rw [if_pos k]
    have g1:=(zOf (0:Int) (atG a b l) f1 l.length (by omega)).2;have g2:=(zOf ((0,0,0):P3) (rtG a b l) f2 l.length (by omega)).2;have er:(atL a b l i).length=(rtL a b l i).length:=zWL a b l i;have g2:(rtL a b l l.length).getD (atL a b l i).length (0,0,0)=tg l i:=by rw [er];exact g2
    have g1:(atL a b l l.length).getD (atL a b l i).length 0=(i:Int):=g1;rw [f1,Option.toList,zN,List.length_singleton];show jS (.int .i64) (zAB (.int .i64) (z5K _ _ (atL a b l i).length) ((atL a b l l.length).getD (atL a b l i).length 0) ((rtL a b l l.length).getD (atL a b l i).length (0,0,0))) (j:Int)=_;rw [g1,g2]
    by_cases e:j=i
    ·subst e;rw [zAT,if_pos ⟨by omega,k⟩]
    ·rw [zA4 _ (show ((i:Nat):Int)≠(j:Int) by omega),ih]
     by_cases q:both a b (tg l j)=true
     ·by_cases q2:j<i
      ·rw [if_pos ⟨q2,q⟩,if_pos ⟨by omega,q⟩]
      ·rw [if_neg (fun z=>q2 z.1),if_neg (fun z=>by omega)]
     ·rw [if_neg (fun z=>q z.2),if_neg (fun z=>q z.2)]
   ·have f1:atG a b l i=none:=by unfold atG;rw [if_neg k]
    rw [f1,Option.toList,zbF,ih]
    by_cases q:both a b (tg l j)=true
    ·by_cases q2:j<i
     ·rw [if_pos ⟨q2,q⟩,if_pos ⟨by omega,q⟩]
     ·have: ¬ j<i+1:=fun z=>k (by rw [<- show j=i by omega];exact q);rw [if_neg (fun z=>q2 z.1),if_neg (fun z=>this z.1)]
    ·rw [if_neg (fun z=>q z.2),if_neg (fun z=>q z.2)]
theorem zUS (a b:Int) {l:List P3} {j:Nat} (hj:j<l.length):jS (.int .i64) (z5K (atL a b l l.length) (rtL a b l l.length) (atL a b l l.length).length) (j:Int)=if both a b (tg l j)=true then some (tg l j) else none:=by
 rw [z2j a b l l.length (zI _) j]
 by_cases q:both a b (tg l j)=true
 ·rw [if_pos ⟨hj,q⟩,if_pos q]
 ·rw [if_neg (fun z=>q z.2),if_neg q]
theorem zVm (a b:Int) (l:List P3): ∀ i,i<=l.length->kF (z5K (atL a b l l.length) (rtL a b l l.length) (atL a b l l.length).length) i=(drL a b l i).length
 | 0,_=>rfl
 | i+1,hi=>by
   rw [z8T,zVm a b l i (by omega),zUS a b (by omega),zFm];unfold drG;split
   ·simp [Option.toList]
   ·simp [Option.toList]
theorem zTq {a b v:Int} (h:v≠a):upV a (dn a (ph a b v))=v:=by
 rw [zLT h];unfold upV dn;split<;>split<;>omega
def upD (a b:Int) (t:P3):P3:=if both a b t=true then t else upT a (drT a b t)
theorem z5h (a b:Int) (l:List P3) {i:Nat} (hi:i<=l.length):zJp (z5K (atL a b l l.length) (rtL a b l l.length) (atL a b l l.length).length) (drL a b l l.length) a i=(List.range i).map fun j=>upD a b (tg l j):=by
 unfold zJp;refine zbN fun j hj=> ?_;have hj:=zV.1 hj;unfold bkT upD;rw [zUS a b (by omega)];split
 ·rfl
 ·rename_i k;rw [zVm a b l j (by omega)];have f:drG a b l j=some (drT a b (tg l j)):=by unfold drG;rw [if_neg k]
  have:=(zOf ((0,0,0):P3) (drG a b l) f l.length (by omega)).2;have:tg (drL a b l l.length) (drL a b l j).length=drT a b (tg l j):=this;show upT a (tg (drL a b l l.length) (drL a b l j).length)=_;rw [this]
theorem zQh {a:Int} {t:P3} :0<=zKb a t/\zKb a t<3:=by unfold zKb;split<;>(try split)<;>omega
theorem z4S {a b:Int} {t:P3} (hd: ¬ dgn t) (ha:z8 t a):z5u (upT a (drT a b t)) (zKb a t).toNat a=t:=by
 obtain ⟨x,y,z⟩:=t;unfold dgn at hd;unfold z8 at ha;simp only at hd ha;have key: ∀ {v:Int},v≠a->upV a (dn a (ph a b v))=v:=fun h=>zTq h
 by_cases h1:x=a
 ·have h2:y≠a:=by omega
  have h3:z≠a:=by omega
  simp only [zKb,h1,if_true,z5u,upT,drT,zDo,phT,key h2,key h3];simp
 ·by_cases h2:y=a
  ·have h3:z≠a:=by omega
   simp only [zKb,h1,h2,if_true,if_false,z5u,upT,drT,zDo,phT,key h1,key h3];simp
  ·have h3:z=a:=by omega
   simp only [zKb,h1,h2,h3,if_true,if_false,z5u,upT,drT,zDo,phT,key h1,key h2];simp
theorem z0F {a b:Int} {t:P3} (ha: ¬ z8 t a):upT a (drT a b t)=t:=by
 obtain ⟨x,y,z⟩:=t;unfold z8 at ha;simp only at ha;show (upV a (dn a (ph a b x)),upV a (dn a (ph a b y)),upV a (dn a (ph a b z)))=_;rw [zTq (by omega),zTq (by omega),zTq (by omega)]
def zWB (a b:Int) (l:List P3) (i j:Nat):P3:=if j<i then tg l j else upD a b (tg l j)
theorem zYD {a b:Int} {l:List P3} (hd: ∀ j,j<l.length->¬ dgn (tg l j)): ∀ i,i<=l.length->zSi a (zDn a b l l.length) ((List.range l.length).map fun j=>upD a b (tg l j)) (zDn a b l i).length=(List.range l.length).map (zWB a b l i)
 | 0,_=>by
   show ((List.range l.length).map fun j=>upD a b (tg l j))=_;refine zbN fun j hj=> ?_;unfold zWB;rw [if_neg (by omega)]
 | i + 1,hi=>by
   have ih:=zYD (a:=a) (b:=b) hd i (by omega);have e1:zDn a b l (i+1)=zDn a b l i++(zOt a b l i).toList:=q9 _ _
   have oth: ∀ j,j≠i->zWB a b l (i+1) j=zWB a b l i j:=fun j hj=>by
    unfold zWB
    by_cases q:j<i
    ·rw [if_pos q,if_pos (by omega)]
    ·rw [if_neg q,if_neg (by omega)]
   rw [e1];cases f:zOt a b l i with
   | none =>
     rw [Option.toList,zbF,ih];refine zbN fun j hj=> ?_
     by_cases e:j=i
     ·subst e;unfold zWB;rw [if_neg (by omega),if_pos (by omega)];unfold upD;split
      ·rfl
      ·rename_i k;unfold zOt at f;rw [if_neg k] at f;split at f
       ·cases f
       ·rename_i k2;exact z0F k2
     ·exact (oth j e).symm
   | some c =>
     have g1:=(zOf (0:Int) (zOt a b l) f l.length (by omega)).2;have g1:(zDn a b l l.length).getD (zDn a b l i).length 0=c:=g1;rw [Option.toList,zN,List.length_singleton];show zYZ a (zSi a (zDn a b l l.length) _ (zDn a b l i).length) ((zDn a b l l.length).getD (zDn a b l i).length 0)=_;rw [g1,ih];unfold zOt at f;split at f
     ·cases f
     rename_i k;split at f
     case isFalse=>cases f
     rename_i k2;cases f;have hp:=zQh (a:=a) (t:=tg l i);unfold zYZ
     have q1:((3*(i:Int)+zKb a (tg l i)).tdiv 3).toNat=i:=by
      rw [Int.tdiv_eq_ediv_of_nonneg (by omega)];omega
     have q2:((3*(i:Int)+zKb a (tg l i)).tmod 3).toNat=(zKb a (tg l i)).toNat:=by
      rw [Int.tmod_eq_emod_of_nonneg (by omega)];omega
     rw [q1,q2]
     have gi:((List.range l.length).map (zWB a b l i)).getD i (0,0,0)=upT a (drT a b (tg l i)):=by
      rw [gdE,zbf,List.getElem?_range (by omega)];show zWB a b l i i=_;unfold zWB upD;rw [if_neg (by omega),if_neg k]
     rw [gi,z4S (hd i (by omega)) k2];apply List.ext_getElem
     ·simp
     ·intro j h1 h2;rw [List.getElem_set]
      by_cases e:i=j
      ·subst e;rw [if_pos rfl,List.getElem_map,List.getElem_range];unfold zWB;rw [if_pos (by omega)]
      ·rw [if_neg e,List.getElem_map,List.getElem_map,List.getElem_range];exact (oth j (Ne.symm e)).symm
theorem zQR {a b:Int} {l:List P3} {n:Nat} {c:Int} :c∈zDn a b l n↔∃ j,j<n/\zOt a b l j=some c:=by
 unfold zDn;rw [List.mem_filterMap];exact ⟨fun ⟨j,h1,h2⟩=>⟨j,zV.1 h1,h2⟩,fun ⟨j,h1,h2⟩=>⟨j,zV.2 h1,h2⟩⟩
theorem zO4 {a b:Int} {l:List P3} {j:Nat} {c:Int} (h:zOt a b l j=some c): ¬ (both a b (tg l j)=true)/\z8 (tg l j) a/\c=3*(j:Int)+zKb a (tg l j):=by
 unfold zOt at h;split at h
 ·cases h
 ·rename_i k;split at h
  ·rename_i k2;cases h;exact ⟨k,k2,rfl⟩
  ·cases h
include h
theorem z6T:bkR (w.1 - 1,drL a b w.2 w.2.length) (zQm w a b)=(w,true):=by
 obtain ⟨n,l⟩:=w;have hf:=h.surf.fit
 have hn:bkN (n - 1,drL a b l l.length) (zQm (n,l) a b)=l.length:=by
  have:=zV1 a b l l.length;show (drL a b l l.length).length+(atL a b l l.length).length=_;omega
 have hk:=zVm a b l l.length (zI _);unfold bkR;rw [hn]
 have hC:bkC (n - 1,drL a b l l.length) (zQm (n,l) a b):=by
  refine ⟨zWL a b l l.length,h.ha.1,?_,?_,?_⟩
  ·show a<=n - 1;have:=h.ha.2;have:a<n:=this;omega
  ·show n - 1<4096;have:n<=4096:=hf.2.1;omega
  ·rw [hn];exact hf.2.2.1
 have hK:kF (bkG (zQm (n,l) a b)) l.length=(drL a b l l.length).length:=hk
 have hF:zXx l.length (zQm (n,l) a b).2.2.2.2=true:=by
  unfold zXx;rw [zJ];intro c hc;obtain ⟨j,hj,f⟩:=zQR.1 hc;obtain ⟨_,_,e⟩:=zO4 f;have h3:=zQh (a:=a) (t:=tg l j);have hj:j<l.length:=hj;have e:c=3*(j:Int)+zKb a (tg l j):=e;rw [zP];omega
 rw [if_pos ⟨hC,by rw [hK];exact zI _,hF⟩,decide_eq_true (by rw [hK])];refine Prod.ext (Prod.ext (by show n - 1+1=n;omega) ?_) rfl;show zSi a (zDn a b l l.length) (zJp _ (drL a b l l.length) a l.length) (zDn a b l l.length).length=l;have e:=z5h a b l (zI _);have e:zJp (bkG (zQm (n,l) a b)) (drL a b l l.length) a l.length=_:=e;rw [e,zYD h.surf.deg l.length (zI _)];conv=>rhs;rw [<- zGs (0,0,0) l]
 refine zbN fun j hj=> ?_;unfold zWB;rw [if_pos (zV.1 hj)]
end
def aF (at_:List Int):Nat->Nat
 | 0=>0
 | i+1=>if aF at_ i<at_.length/\at_.getD (aF at_ i) 0=(i:Int) then aF at_ i+1 else aF at_ i
def fv (A:Int) (fan:List Int) (c v:Int):Int:=if c∈fan then A else v
def rfT (A:Int) (fan:List Int) (i:Nat) (t:P3):P3:=(fv A fan (3*(i:Int)) (upV A t.1),fv A fan (3*(i:Int)+1) (upV A t.2.1),fv A fan (3*(i:Int)+2) (upV A t.2.2))
def rbT (at_:List Int) (ts T:List P3) (A:Int) (fan:List Int) (i:Nat):P3:=if aF at_ i<at_.length/\at_.getD (aF at_ i) 0=(i:Int) then tg ts (aF at_ i) else rfT A fan i (tg T (i - aF at_ i))
def z8y (at_:List Int) (ts T:List P3) (A:Int) (fan:List Int) (i:Nat):List P3:=(List.range i).map (rbT at_ ts T A fan)
def rbC (s:SoT) (r:zAJ):Prop:=r.2.2.1.length=r.2.2.2.1.length/\bkN s r<=8192/\0<=r.1/\r.1<=s.1
instance (s:SoT) (r:zAJ):Decidable (rbC s r):=inferInstanceAs (Decidable (_/\_))
def rbk (s:SoT) (r:zAJ):Option SoT :=
 if rbC s r/\bkN s r - aF r.2.2.1 (bkN s r)<=s.2.length then some (s.1+1,z8y r.2.2.1 r.2.2.2.1 s.2 r.1 r.2.2.2.2 (bkN s r)) else none
theorem z9y (at_:List Int) (i:Nat):aF at_ (i+1)=if aF at_ i<at_.length/\at_.getD (aF at_ i) 0=(i:Int) then aF at_ i+1 else aF at_ i:=rfl
section
variable {w:SoT} {a b:Int} (h:Was w a b)
theorem zRi (a b:Int) (l:List P3) {i:Nat} (hi:i<l.length):((atL a b l i).length<(atL a b l l.length).length/\(atL a b l l.length).getD (atL a b l i).length 0=(i:Int))↔both a b (tg l i)=true:=by
 constructor
 ·rintro ⟨h1,h2⟩;have:=jB h1;rw [h2] at this;unfold atL at this;obtain ⟨j,hj,e⟩:=List.mem_filterMap.1 this;unfold atG at e;split at e
  ·rename_i k;have e:=Option.some.inj e;rw [<- show j=i by omega];exact k
  ·cases e
 ·intro k;exact zOf (0:Int) (atG a b l) (x:=(i:Int)) (by unfold atG;rw [if_pos k]) l.length hi
theorem z21 (a b:Int) (l:List P3): ∀ i,i<=l.length->aF (atL a b l l.length) i=(atL a b l i).length
 | 0,_=>rfl
 | i +1,hi=>by
   have e1:atL a b l (i+1)=atL a b l i++(atG a b l i).toList:=q9 _ _;rw [z9y,z21 a b l i (by omega),e1]
   by_cases k:both a b (tg l i)=true
   ·rw [if_pos ((zRi a b l (by omega)).2 k)];unfold atG;rw [if_pos k];simp [Option.toList]
   ·rw [if_neg (fun z=>k ((zRi a b l (by omega)).1 z))];unfold atG;rw [if_neg k];simp [Option.toList]
theorem z7B {a b:Int} {l:List P3} {i:Nat} (hi:i<l.length) (hd: ¬ dgn (tg l i)) (hb: ¬ (both a b (tg l i)=true)):rfT a (zDn a b l l.length) i (drT a b (tg l i))=tg l i:=by
 have key: ∀ (k:Int) (v:Int),0<=k->k<3->(v=a↔(z8 (tg l i) a/\zKb a (tg l i)=k))->fv a (zDn a b l l.length) (3*(i:Int)+k) (upV a (dn a (ph a b v)))=v:=fun k v k0 k3 hv=>by
  unfold fv;split
  ·rename_i hm;obtain ⟨j,hj,f⟩:=zQR.1 hm;obtain ⟨_,f2,f3⟩:=zO4 f;have:=zQh (a:=a) (t:=tg l j);have e:j=i:=by omega
   subst e;exact (hv.2 ⟨f2,by omega⟩).symm
  ·rename_i hm;refine zTq fun e=>hm ?_;obtain ⟨q1,q2⟩:=hv.1 e;refine zQR.2 ⟨i,hi,?_⟩;unfold zOt;rw [if_neg hb,if_pos q1,q2]
 unfold dgn at hd
 have e0:=key 0 (tg l i).1 (by omega) (by omega) (by
  unfold z8 zKb;constructor
  ·intro e;exact ⟨.inl e,by rw [if_pos e]⟩
  ·rintro ⟨_,e⟩;split at e
   ·assumption
   ·split at e<;>omega)
 have e1:=key 1 (tg l i).2.1 (by omega) (by omega) (by
  unfold z8 zKb;constructor
  ·intro e;exact ⟨.inr (.inl e),by rw [if_neg (by omega),if_pos e]⟩
  ·rintro ⟨_,e⟩;split at e
   ·omega
   ·split at e
    ·assumption
    ·omega)
 have e2:=key 2 (tg l i).2.2 (by omega) (by omega) (by
  unfold z8 zKb;constructor
  ·intro e;exact ⟨.inr (.inr e),by rw [if_neg (by omega),if_neg (by omega)]⟩
  ·rintro ⟨q,e⟩;split at e
   ·omega
   ·split at e<;>omega)
 rw [Int.add_zero] at e0;exact Prod.ext e0 (Prod.ext e1 e2)
include h
theorem z4w:rbk (w.1 - 1,drL a b w.2 w.2.length) (zQm w a b)=some w:=by
 obtain ⟨n,l⟩:=w;have hf:=h.surf.fit
 have hn:bkN (n - 1,drL a b l l.length) (zQm (n,l) a b)=l.length:=by
  have:=zV1 a b l l.length;show (drL a b l l.length).length+(atL a b l l.length).length=_;omega
 have hC:rbC (n - 1,drL a b l l.length) (zQm (n,l) a b):=by
  refine ⟨zWL a b l l.length,by rw [hn];exact hf.2.2.1,h.ha.1,?_⟩;show a<=n - 1;have:=h.ha.2;have:a<n:=this;omega
 have ha:=z21 a b l
 have hl: ∀ i,i<=l.length->i - aF (atL a b l l.length) i=(drL a b l i).length:=fun i hi=>by
  rw [ha i hi];have:=zV1 a b l i;omega
 unfold rbk;rw [hn];have h2:l.length - aF (zQm (n,l) a b).2.2.1 l.length<=(drL a b l l.length).length:=Nat.le_of_eq (hl l.length (zI _));rw [if_pos ⟨hC,h2⟩];refine congrArg some (Prod.ext (by show n - 1+1=n;omega) ?_);show z8y (atL a b l l.length) (rtL a b l l.length) (drL a b l l.length) a (zDn a b l l.length) l.length=l;unfold z8y;conv=>rhs;rw [<- zGs (0,0,0) l]
 refine zbN fun j hj=> ?_;have hj:=zV.1 hj;show rbT _ _ _ a _ j=tg l j;unfold rbT;rw [ha j (by omega)]
 by_cases k:both a b (tg l j)=true
 ·rw [if_pos ((zRi a b l hj).2 k)];have f2:rtG a b l j=some (tg l j):=by unfold rtG;rw [if_pos k]
  have g2:=(zOf ((0,0,0):P3) (rtG a b l) f2 l.length hj).2;rw [zWL a b l j];exact g2
 ·rw [if_neg (fun z=>k ((zRi a b l hj).1 z))];have f:drG a b l j=some (drT a b (tg l j)):=by unfold drG;rw [if_neg k]
  have g:=(zOf ((0,0,0):P3) (drG a b l) f l.length hj).2;have g:tg (drL a b l l.length) (drL a b l j).length=drT a b (tg l j):=g;rw [show j - (atL a b l j).length=(drL a b l j).length by have:=zV1 a b l j;omega,g];exact z7B hj (h.surf.deg j hj) k
end
end S1
namespace S1
def zYy (m:ReM) (l:List Int):ReM:=l.foldl (fun m c=>zAB (.int .i64) m (c.tdiv 3) true) m
def stK (x:yI.T) (e:Int×Int):Nat->ReM
 | 0=>[]
 | k+1=>zYy (stK x e k) (yU (some x) ([e.1,e.2].getD k 0))
def zCt (x:yI.T) (e:Int×Int):ReM:=stK x e 2
def zXp (x:yI.T) (e:Int×Int):Spec Nat where
 inv k:=k<=2
 live k:=[(11,.s (.int .i64 k))]
 keep:=[0,3,5,10]
 heap k:=[(1,.map y8 .bool (stK x e k))]
 keepH:=[0,2]
 mu k:=2 - k
def z2G (m:ReM) (L:List Int):Spec Nat where
 inv _:=True
 live _:=[]
 keep:=[0,3,5,10,11]
 heap k:=[(1,.map y8 .bool (zYy m (L.take k)))]
 keepH:=[0,2,3,4]
 mu _:=0
theorem z6M {m:ReM} {L:List Int} {j:Nat} (hj:j<L.length):zYy m (L.take (j+1))=zAB (.int .i64) (zYy m (L.take j)) ((L.getD j 0).tdiv 3) true:=by
 unfold zYy;rw [yB hj,zbm,gdE,gE hj];rfl
theorem z0S {c:Int} (h:InK .i64 c):yP (c.tdiv 3):=by
 have h:=InK.i64.1 h;unfold yP at *;rcases Int.le_total 0 c with k|k
 ·rw [Int.tdiv_eq_ediv_of_nonneg k];omega
 ·have e:(-c).tdiv 3= -(c.tdiv 3):=Int.neg_tdiv ..;rw [Int.tdiv_eq_ediv_of_nonneg (by omega)] at e;omega
attribute [local irreducible] zYy yU
theorem z4N (x:yI.T) (a b:Int) (g:Good x):zH7 ⟨tyL,[(90,zFO)],[]⟩ z8P Tryz.f57 [(ETy.pt yI).av (some x),ETy.arr2.av (a,b)] (fun r=>r= .s (.mp y8 .bool (zCt x (a,b)))):=by
 repeat' (conv=>whnf
          first|done|refine qy ?_|refine qG fun _=> ?_|refine qw (fun _=> ?_) (fun _=> ?_)|apply qt|refine qi (fun _=> ?_) (fun _=> ?_)|refine zB (Nat) (zB (zXp x (a,b)) (zA (zB (0) (zA (yJ.out ?_) (zA ?_ (zA ?_ rfl)))) (fun k hk=> ?_)))|with_reducible refine zaA (zXp _ _) (k+1) ?_ ?_ ?_ ?_|refine zB (yU (some x) ([a,b].getD k 0)) (zA (yJ.out ?_) (zB (z2G (stK x (a,b) k) (yU (some x) ([a,b].getD k 0))) ?_))|(refine zA (fun X=> ?_) (fun X=> ?_))|(refine zA (zA ?_ (zA ?_ rfl)) (fun j hj=> ?_))|(refine zA ?_ (zA ?_ rfl))|refine qu ?_|refine qv ?_ ?_|exact zO)
 all_goals try first|refine qz ?_|apply qz5
 all_goals try simp only [qn0,z7,zX,ETy.dflt,Int.reduceToNat,Int.reduceAdd,Int.reduceSub,Int.reduceNeg,Nat.reduceAdd,zXp,z2G] at *
 all_goals try (refine qh ?_;omega)
 ·have hk2:k<2:=by omega
  refine yJ.intro ⟨rfl,some x,[a,b].getD k 0,rfl,fun y e=>by cases e;exact g,rfl⟩
 ·rw [List.take_zero];with_unfolding_all rfl
 ·exact qh ⟨by decide,z0S (zKV g _ _ (jB hj))⟩
 ·exact z6M hj
 ·rw [zbK];rfl
 ·have e:k=2:=by omega
  subst e;exact y9.intro rfl
def zMW:List AV->Option Res:=zCr (.pt yI) .arr2 (fun o e=>match o with|none=>none|some x=>some (none,some (Good x),.s (.mp y8 .bool (zCt x e))))
theorem zLu:qM prog 57 zMW:=mkR (jD fun o e r h=>by
 cases o with
 | none=>cases h
 | some x=>cases h;exact zHL (yN (fn:=[(90,zFO)]) (fr:=[]) ⟨zI1,trivial⟩ trivial) z9Z func57 rfl (by kernel_rfl) (zU rfl) fun _ h=>z4N x e.1 e.2 h) func57
def z8R:zDE:=fun _ _ _=>False
theorem zVc:zDb prog z8R:=fun _ _ _ h=>h.elim
def zKk (a b:ReM):Bool:=a.all fun p=> !had b p.1
def zTe (b:ReM):Spec IBM where
 inv pre:= ∀ p∈pre,had b p.1=false
 live _:=[]
 keep:=[1,7]
 heap _:=[]
 keepH:=[]
 mu _:=0
theorem z0L (a b:ReM):zH7 ⟨tyL,[],[]⟩ z8R f56 [(ETy.mp y8 .bool).av a,(ETy.mp y8 .bool).av b] (fun r=>r= .s (.bool (zKk a b))):=by
 repeat' (conv=>whnf
          first|done|refine qy ?_|refine qG fun _=> ?_|refine qw (fun _=> ?_) (fun _=> ?_)|apply qt|refine qi (fun _=> ?_) (fun _=> ?_)|refine (fun (rIt:Nat)=> ?_)|refine z8H.intro (it:=7) (zB (zTe b) (zA (zA (yJ.out ?_) (zA ?_ (zA ?_ rfl))) (zA (fun pre e he=>zA rfl ?_) (fun pre hp=>zA rfl ?_))))|((with_reducible show (And (Spec.inv (zTe b) _) _));refine zA (yJ.out ?_) (zA ?_ (zA ?_ rfl)))|refine qu ?_|refine qv ?_ ?_|exact zO)
 all_goals try first|refine qz ?_|apply qz5
 all_goals try simp only [qn0,z7,zX,ETy.dflt,Int.reduceToNat,Int.reduceAdd,Int.reduceSub,Int.reduceNeg,Nat.reduceAdd,zTe] at *
 ·exact qh fun p h=>by cases h
 ·rename_i h;refine Eq.symm (Bool.eq_false_iff.2 fun k=> ?_);have:=zJ.1 k _ he.2.2.2.1;rw [show had b e.fst=true from h] at this;cases this
 ·rename_i h;refine yJ.intro fun p hp=> ?_;rcases yD.1 hp with k|k
  ·exact he.1 p k
  ·rw [zF.1 k];exact h
 ·exact (zJ.2 fun p k=>by rw [hp.1 p ((hp.2.2 p).2 k)];rfl).symm
def zNP:List AV->Option Res:=zCr (.mp y8 .bool) (.mp y8 .bool) (fun a b=>some (none,none,.s (.bool (zKk a b))))
theorem zSP:qM prog 56 zNP:=mkR (jD fun a b r h=>by
 cases h;exact zHL (yN (fn:=[]) (fr:=[]) trivial trivial) zVc func56 rfl (by kernel_rfl) (zU rfl) fun _ _=>z0L a b) func56
def apB (x:yI.T) (e f:Int×Int):Bool:=zAQ x e.1 e.2&&(zAQ x f.1 f.2&&zKk (zCt x e) (zCt x f))
attribute [local irreducible] zCt zKk zAQ
theorem zUj (x:yI.T) (a b c d:Int) (g:Good x):zAG ⟨tyL,[(55,zLo),(57,zMW),(56,zNP)],[]⟩ f17 [(ETy.pt yI).av (some x),ETy.arr2.av (a,b),ETy.arr2.av (c,d)] (fun r=>r= .s (.bool (apB x (a,b) (c,d)))):=by
 repeat' (conv=>whnf
          first|done|refine qy ?_|refine qG fun _=> ?_|refine qw (fun _=> ?_) (fun _=> ?_)|apply qt|refine qi (fun _=> ?_) (fun _=> ?_)|refine qu ?_|refine qv ?_ ?_|exact zO)
 all_goals try first|refine qz ?_|apply qz5
 all_goals try simp only [qn0,z7,zX,ETy.dflt,Int.reduceToNat,Int.reduceAdd,Int.reduceSub,Int.reduceNeg,Nat.reduceAdd,apB] at *
 all_goals try first
  | exact qh g
  | exact qh (fun y h=>by cases h;exact g)
 ·rw [show zAQ x a b=true by assumption,show zAQ x c d=true by assumption];rfl
 ·rw [show zAQ x a b=true by assumption,show zAQ x c d=false by assumption];rfl
 ·rw [show zAQ x a b=false by assumption];rfl
theorem zSY (a b c d:Int):zAG ⟨tyL,[(55,zLo),(57,zMW),(56,zNP)],[]⟩ f17 [(ETy.pt yI).av none,ETy.arr2.av (a,b),ETy.arr2.av (c,d)] (fun r=>r= .s (.bool false)):=by
 repeat' (conv=>whnf
          first|done|refine qy ?_|refine qG fun _=> ?_|refine qw (fun _=> ?_) (fun _=> ?_)|apply qt|refine qi (fun _=> ?_) (fun _=> ?_)|refine qu ?_|refine qv ?_ ?_|exact zO)
 all_goals try first|refine qz ?_|apply qz5
 all_goals try simp only [qn0,z7,zX,ETy.dflt,Int.reduceToNat,Int.reduceAdd,Int.reduceSub,Int.reduceNeg,Nat.reduceAdd] at *
 all_goals rfl
def zPe:List AV->Option Res:=zOw (.pt yI) .arr2 .arr2 (fun o e f=>some (none,some (∀ x,o=some x->Good x),.s (.bool (match o with|some x=>apB x e f|none=>false))))
theorem zWl:qM prog 17 zPe:=mkR (zDZ fun o e f r h=>by
 cases h;cases o with
 | none=>exact fb (fn:=[(55,zLo),(57,zMW),(56,zNP)]) ⟨zLw,zLu,zSP,trivial⟩ func17 fun _ _=>zSY e.1 e.2 f.1 f.2
 | some x=>exact fb (fn:=[(55,zLo),(57,zMW),(56,zNP)]) ⟨zLw,zLu,zSP,trivial⟩ func17 fun _ h=>zUj x e.1 e.2 f.1 f.2 (h x rfl)) func17
end S1
namespace S1
def zYx (x:yI.T) (c:Nat):Option (Int×Int):=if zAI x c<0 then some (jR x c) else none
def zLv (x:yI.T):List (Int×Int):=(List.range (3*x.1.2.length)).filterMap (zYx x)
def z6g (o:Option yI.T):List (Int×Int):=onO o [] zLv
def zYX (x:yI.T):Spec Nat where
 inv k:=k<=3*x.1.2.length
 live k:=[(10,.s (.int .i64 k)),(3,.s (.own 1 0 ((List.range k).filterMap (zYx x)).length))]
 keep:=[0,9]
 heap k:=[(1,.row .arr2 33 ((List.range k).filterMap (zYx x)))]
 keepH:=[0]
 mu k:=3*x.1.2.length - k
theorem z0j (x:yI.T) (g:Good x):zAG ⟨tyL,[(74,zB3),(37,zSa),(77,zLK)],[]⟩ f99 [(ETy.pt yI).av (some x)] (fun r=>r= .s (.sl .arr2 (zLv x))):=by
 have hl:x.1.2.length<=8192:=g.fit.2.2.1
 repeat' (conv=>whnf
          first|done|refine qy ?_|refine qG fun _=> ?_|refine qw (fun _=> ?_) (fun _=> ?_)|apply qt|refine qi (fun _=> ?_) (fun _=> ?_)|(refine zaB 5 rfl (zYX x) (0) ?_ ?_ ?_ fun k hk=> ?_)|with_reducible refine zaA (zYX _) (k+1) ?_ ?_ ?_ ?_|refine qu ?_|refine qv ?_ ?_|exact zO)
 all_goals try first|refine qz ?_|apply qz5
 all_goals try simp only [qn0,z7,zX,ETy.dflt,Int.reduceToNat,Int.reduceAdd,Int.reduceSub,Int.reduceNeg,Nat.reduceAdd,zYX] at *
 all_goals try first|(refine qh ?_;omega)|(refine qh ?_;have:=zC7 (zYx x) k;omega)
 ·exact qh (show (k:Int)<=1000000 by omega)
 ·exact qh (show (k:Int)<=1000000 by omega)
 ·rename_i h;rw [q9,zYx,if_pos h,zN];rfl
 ·rename_i h;rw [q9];conv=>lhs;rhs;rw [zYx,if_pos h]
  rfl
 ·rename_i h;rw [q9];conv=>lhs;rhs;rhs;rw [zYx,if_neg h]
  simp
 ·rename_i h;rw [q9];conv=>lhs;rhs;rw [zYx,if_neg h]
  simp
 ·have e:k=3*x.1.2.length:=by omega
  rw [e];rfl
theorem zXE:zAG ⟨tyL,[(74,zB3),(37,zSa),(77,zLK)],[]⟩ f99 [(ETy.pt yI).av none] (fun r=>r= .s (.sl .arr2 [])):=by
 repeat' (conv=>whnf
          first|done|refine qy ?_|refine qG fun _=> ?_|refine qw (fun _=> ?_) (fun _=> ?_)|apply qt|refine qi (fun _=> ?_) (fun _=> ?_)|refine qu ?_|refine qv ?_ ?_|exact zO)
 all_goals try first|refine qz ?_|apply qz5
 all_goals try simp only [qn0,z7,zX,ETy.dflt,Int.reduceToNat,Int.reduceAdd,Int.reduceSub,Int.reduceNeg,Nat.reduceAdd] at *
 rfl
def zIq:List AV->Option Res:=zEz (.pt yI) (fun o=>some (none,some (∀ x,o=some x->Good x),.s (.sl .arr2 (z6g o))))
theorem zLe:qM prog 99 zIq:=mkR (zA1 fun o r h=>by
 cases h;cases o with
 | none=>exact fb (fn:=[(74,zB3),(37,zSa),(77,zLK)]) ⟨zE5,zKP,zMb,trivial⟩ func99 fun _ _=>zXE
 | some x=>exact fb (fn:=[(74,zB3),(37,zSa),(77,zLK)]) ⟨zE5,zKP,zMb,trivial⟩ func99 fun _ h=>z0j x (h x rfl)) func99
abbrev NxM:=List ((ETy.int .i64).T×(ETy.int .i64).T)
def z3g (es:List (Int×Int)) (k:Nat):NxM:=qA (fun m j=>zAB (.int .i64) m (es.getD j (0,0)).2 (es.getD j (0,0)).1) [] k
def zBm (o:Option yI.T):NxM:=z3g (z6g o) (z6g o).length
def zUy (es:List (Int×Int)):Spec Nat where
 inv k:=k<=es.length
 live k:=[(10,.s (.int .i64 k))]
 keep:=[3,8,9]
 heap k:=[(0,.map y8 y8 (z3g es k))]
 keepH:=[]
 mu k:=es.length - k
theorem zVv (o:Option yI.T) (hg: ∀ x,o=some x->Good x):zAG ⟨tyL,[(99,zIq)],[]⟩ f127 [(ETy.pt yI).av o] (fun r=>r= .s (.mp y8 y8 (zBm o))):=by
 repeat' (conv=>whnf
          first|done|refine qy ?_|refine qG fun _=> ?_|refine qw (fun _=> ?_) (fun _=> ?_)|apply qt|refine qi (fun _=> ?_) (fun _=> ?_)|(refine zaB 3 rfl (zUy (z6g o)) (0) ?_ ?_ ?_ fun k hk=> ?_)|with_reducible refine zaA (zUy _) (k+1) ?_ ?_ ?_ ?_|refine qu ?_|refine qv ?_ ?_|exact zO)
 all_goals try first|refine qz ?_|apply qz5
 all_goals try simp only [qn0,z7,zX,ETy.dflt,Int.reduceToNat,Int.reduceAdd,Int.reduceSub,Int.reduceNeg,Nat.reduceAdd,zUy] at *
 all_goals try (refine qh ?_;omega)
 ·have e:k=(z6g o).length:=by omega
  rw [e];exact y9.intro rfl
def zIt:List AV->Option Res:=zEz (.pt yI) (fun o=>some (none,some (∀ x,o=some x->Good x),.s (.mp y8 y8 (zBm o))))
theorem zNe:qM prog 127 zIt:=mkR (zA1 fun o r h=>by cases h;exact fb (by exact ⟨zLe,trivial⟩) func127 fun _ h=>zVv o h) func127
theorem z43 {fn} (o:Option yI.T) (v:Int):zAG ⟨tyL,fn,[]⟩ f87 [(ETy.pt yI).av o,y8.av v] (fun r=>r= .s (.clo 126 [⟨.pt yI,o⟩,⟨y8,v⟩])):=by
 repeat' (conv=>whnf
          first|done|refine qy ?_|refine qG fun _=> ?_|refine qw (fun _=> ?_) (fun _=> ?_)|apply qt|refine qi (fun _=> ?_) (fun _=> ?_)|refine qu ?_|refine qv ?_ ?_|exact zO)
 all_goals try first|refine qz ?_|apply qz5
 all_goals try simp only [qn0,z7,zX,ETy.dflt,Int.reduceToNat,Int.reduceAdd,Int.reduceSub,Int.reduceNeg,Nat.reduceAdd] at *
def zUx:List AV->Option Res:=zCr (.pt yI) y8 (fun o v=>some (none,none,.s (.clo 126 [⟨.pt yI,o⟩,⟨y8,v⟩])))
theorem zU4:qM prog 87 zUx:=mkR (jD fun o v r h=>by cases h;exact fb (fn:=[]) trivial func87 fun _ _=>z43 o v) func87
def nxt (m:NxM) (u:Int):Int:=(jS y8 m u).getD 0
def zD7 (m:NxM) (v:Int):Nat->Int->List Int
 | 0,_=>[]
 | n+1,u=>if u=v then [] else u::zD7 m v n (nxt m u)
def zA7 (o:Option yI.T) (v:Int):List Int:=if (jS y8 (zBm o) v).isSome then v::zD7 (zBm o) v 10000 (nxt (zBm o) v) else []
end S1
namespace S1
section
variable {x:yI.T}
theorem zGJ {e:Int×Int} :e∈zLv x↔bE x e.1 e.2:=by
 unfold zLv;rw [List.mem_filterMap];constructor
 ·rintro ⟨c,hc,h⟩;have hc:=zV.1 hc;unfold zYx at h;split at h
  ·rename_i ho;cases h;exact ⟨c,yH.2 ⟨by omega,by omega⟩,ho,rfl⟩
  ·cases h
 ·rintro ⟨c,h1,h2,h3⟩;have hc:=yH.1 h1;have e1:((c.toNat:Nat):Int)=c:=by omega
  refine ⟨c.toNat,zV.2 (by omega),?_⟩;unfold zYx;rw [e1,if_pos h2,h3]
end
theorem zSB (es:List (Int×Int)) (u:Int): ∀ k,(∀ w,jS y8 (z3g es k) u=some w->∃ j,j<k/\es.getD j (0,0)=(w,u))/\((∃ j,j<k/\(es.getD j (0,0)).2=u)->(jS y8 (z3g es k) u).isSome=true)
 | 0=>⟨fun w h=>(by cases h),fun ⟨j,h,_⟩=>by omega⟩
 | k + 1=>by
   obtain ⟨h1,h2⟩:=zSB es u k;have e:z3g es (k+1)=zAB y8 (z3g es k) (es.getD k (0,0)).2 (es.getD k (0,0)).1:=rfl;rw [e]
   by_cases he:(es.getD k (0,0)).2=u
   ·rw [he,zAT];exact ⟨fun w hw=>⟨k,by omega,by injection hw with hw;exact Prod.ext hw he⟩,fun _=>rfl⟩
   ·rw [zA4 _ he];refine ⟨fun w hw=> ?_,fun ⟨j,hj,hju⟩=>h2 ⟨j,?_,hju⟩⟩
    ·obtain ⟨j,hj,e⟩:=h1 w hw;exact ⟨j,by omega,e⟩
    ·by_cases e:j=k
     ·subst e;exact absurd hju he
     ·omega
theorem zFQ {x:yI.T} (g:Full x) {w u:Int} :jS y8 (zBm (some x)) u=some w↔bE x w u:=by
 obtain ⟨h1,h2⟩:=zSB (zLv x) u (zLv x).length
 have mem: ∀ j,j<(zLv x).length->(zLv x).getD j (0,0)∈zLv x:=fun j hj=>by
  rw [gdE,gE hj];exact yQ hj
 have fw: ∀ w,jS y8 (zBm (some x)) u=some w->bE x w u:=fun w h=>by
  obtain ⟨j,hj,e⟩:=h1 w h;have:=zGJ.1 (mem j hj);rw [e] at this;exact this
 refine ⟨fw w,fun h=> ?_⟩;obtain ⟨j,hj,e⟩:=yG.1 ((zGJ (x:=x) (e:=(w,u))).2 h);have:=h2 ⟨j,hj,by rw [gdE,gE hj];show ((zLv x)[j]).2=u;rw [e]⟩;have e3:zBm (some x)=z3g (zLv x) (zLv x).length:=rfl;rw [<- e3] at this;cases h4:jS y8 (zBm (some x)) u with
 | none=>rw [h4] at this;cases this
 | some w'=>rw [zWo g h (fw w' h4)]
theorem zDd {x:yI.T} (g:Full x) {w u:Int} (h:bE x w u):nxt (zBm (some x)) u=w:=by
 unfold nxt;rw [(zFQ g).2 h];rfl
theorem zRm {x:yI.T} (g:Full x) {v:Int} (hv: ∃ w,bE x w v) {k:Nat} (h: ∀ j,1<=j->j<=k->iter (nxt (zBm (some x))) v j≠v):k<=4096:=by
 have key: ∀ j,∃ w,bE x w (iter (nxt (zBm (some x))) v j):=fun j=>by
  induction j with
  | zero=>exact hv
  | succ j ih =>
    obtain ⟨w,hw⟩:=ih;show ∃ w,bE x w (nxt (zBm (some x)) (iter (nxt (zBm (some x))) v j));rw [zDd g hw];exact zCo g hw
 let f:Int->Int:=fun u=>(jS y8 (zBm (some x)) u).getD (-1)
 have hf: ∀ j,iter f v j=iter (nxt (zBm (some x))) v j:=fun j=>by
  induction j with
  | zero=>rfl
  | succ j ih =>
    obtain ⟨w,hw⟩:=key j;show f (iter f v j)=nxt _ _;rw [ih,zDd g hw];show (jS y8 (zBm (some x)) _).getD (-1)=w;rw [(zFQ g).2 hw];rfl
 have fsome: ∀ c,0<=f c->bE x (f c) c:=fun c hc=>by
  cases e:jS y8 (zBm (some x)) c with
  | none => have:f c= -1:=by show (jS y8 (zBm (some x)) c).getD (-1)= -1;rw [e];rfl
            omega
  | some w =>
    have:f c=w:=by show (jS y8 (zBm (some x)) c).getD (-1)=w;rw [e];rfl
    rw [this];exact (zFQ g).1 e
 have hn:=g.fit
 have:=pig (f:=f) (L:=x.1.1.toNat) (c:=v) (k:=k) (fun c hc=>by have:=(zJf g (fsome c hc)).1;omega) (fun a b ha e=>by
  have k1:=fsome a ha;have k2:=fsome b (by omega);rw [<- e] at k2
  exact zHi g k1 k2) (fun j h1 h2=>by
  rw [hf];obtain ⟨w,hw⟩:=key j
  exact ⟨(zJf g hw).2.1.1,h j h1 h2⟩)
 have h1:x.1.1<=4096:=hn.2.1;have h2:x.1.1.toNat<=4096:=Int.toNat_le_toNat h1;exact zb0 this h2
theorem zHl {x:yI.T} (g:Full x) {v:Int} (hv: ∃ w,bE x w v): ∀ j,∃ w,bE x w (iter (nxt (zBm (some x))) v j)
 | 0=>hv
 | j+1=>by
   obtain ⟨w,hw⟩:=zHl g hv j;show ∃ w,bE x w (nxt (zBm (some x)) (iter (nxt (zBm (some x))) v j));rw [zDd g hw];exact zCo g hw
end S1
namespace S1
theorem zEn {m:NxM} {v u:Int} {k:Nat} (h:k<=4096):zD7 m v (10000 - k) u=if u=v then [] else u::zD7 m v (10000 - (k+1)) (nxt m u):=by
 rw [show 10000 - k=(10000 - (k+1))+1 by omega];rfl
def zWR (m:NxM) (v:Int):Spec Nat where
 inv k:=(∀ j,1<=j->j<=k->iter (nxt m) v j≠v)/\(zD7 m v 10000 (nxt m v)).drop k=zD7 m v (10000 - k) (iter (nxt m) v (k+1))
 live k:=[(5,.s (.int .i64 (iter (nxt m) v (k+1))))]
 keep:=[0,1,2,4]
 heap _:=[]
 keepH:=[]
 mu k:=10000 - k
theorem z0K (x:yI.T) (v:Int) (g:Full x):zQ0 ⟨tyL,[(127,zIt)],[]⟩ f126 [⟨.pt yI,some x⟩,⟨y8,v⟩] (zA7 (some x) v):=by
 repeat' (conv=>whnf
          first|done|refine qy ?_|refine qG fun _=> ?_|refine qw (fun _=> ?_) (fun _=> ?_)|apply qt|refine qi (fun _=> ?_) (fun _=> ?_)|refine (fun (l:Nat)=> ?_)|refine zB Nat (zB (zWR (zBm (some x)) v) (zB (fun k=>v::(zD7 (zBm (some x)) v 10000 (nxt (zBm (some x)) v)).take k) (zA (zB 0 (zA (yJ.out ?_) (zA (zAp.out ?_) (zA ?_ (zA ?_ rfl))))) (fun k hk=> ?_))))|((with_reducible show (∃ y,And (Spec.inv (zWR _ _) y) _));refine zB (k+1) (zA (yJ.out ?_) (zA (zAp.out ?_) (zA (zA ?_ (zA ?_ rfl)) (yJ.out ?_)))))|refine zA (yJ.out (p:=(_++[_]) <+: _) ?_) ?_|refine zAp.out ?_|refine qu ?_|refine qv ?_ ?_|exact zO)
 all_goals try first|refine qz ?_|apply qz5
 all_goals try simp only [qn0,z7,zX,ETy.dflt,Int.reduceToNat,Int.reduceAdd,Int.reduceSub,Int.reduceNeg,Nat.reduceAdd,zWR] at *
 ·exact qh (fun y h=>by cases h;exact g.toGood)
 all_goals try
  have hsome:(jS y8 (zBm (some x)) v).isSome=true:=by assumption
 all_goals try
  have hw: ∃ w,bE x w v:=by
   cases e:jS y8 (zBm (some x)) v with
   | none=>rw [e] at hsome;cases hsome
   | some w=>exact ⟨w,(zFQ g).1 e⟩
 all_goals try have hL:zA7 (some x) v=v::zD7 (zBm (some x)) v 10000 (nxt (zBm (some x)) v):=by unfold zA7;rw [if_pos hsome]
 ·rw [hL];exact qh ⟨_,rfl⟩
 ·exact qh ⟨fun j a b=>by omega,rfl⟩
 ·exact zAp.intro rfl
 all_goals try have h24:=zRm g hw hk.1
 ·have hne:iter (nxt (zBm (some x))) v (k+1)≠v:=by assumption
  rw [hL];have:=hk.2;rw [zEn h24,if_neg hne] at this;exact qh (zQp (L:=v::zD7 (zBm (some x)) v 10000 (nxt (zBm (some x)) v)) (k:=k+1) this)
 ·have hne:iter (nxt (zBm (some x))) v (k+1)≠v:=by assumption
  have:=hk.2;rw [zEn h24,if_neg hne] at this;refine yJ.intro ⟨fun j a b=> ?_,(zDA this).2⟩
  by_cases e:j=k+1
  ·subst e;exact hne
  ·exact hk.1 j a (by omega)
 ·have hne:iter (nxt (zBm (some x))) v (k+1)≠v:=by assumption
  have:=hk.2;rw [zEn h24,if_neg hne] at this;exact zAp.intro (by rw [(zDA this).1];rfl)
 ·refine qh ?_;omega
 ·have he:iter (nxt (zBm (some x))) v (k+1)=v:=by assumption
  have:=hk.2;rw [zEn h24,if_pos he] at this;rw [hL];refine zAp.intro ?_;have h2:=jE k (zD7 (zBm (some x)) v 10000 (nxt (zBm (some x)) v));rw [this,zbF] at h2;rw [h2]
 ·rename_i hn;refine zAp.intro ?_;unfold zA7;have hn:(jS y8 (zBm (some x)) v).isSome=false:=hn;rw [if_neg (by rw [hn];simp)]
theorem zW5 (v:Int):zQ0 ⟨tyL,[(127,zIt)],[]⟩ f126 [⟨.pt yI,none⟩,⟨y8,v⟩] (zA7 none v):=by
 repeat' (conv=>whnf
          first|done|refine qy ?_|refine qG fun _=> ?_|refine qw (fun _=> ?_) (fun _=> ?_)|apply qt|refine qi (fun _=> ?_) (fun _=> ?_)|refine (fun (l:Nat)=> ?_)|refine zAp.out ?_|refine qu ?_|refine qv ?_ ?_|exact zO)
 all_goals try first|refine qz ?_|apply qz5
 all_goals try simp only [qn0,z7,zX,ETy.dflt,Int.reduceToNat,Int.reduceAdd,Int.reduceSub,Int.reduceNeg,Nat.reduceAdd] at *
 ·exact qh (fun y h=>by cases h)
 ·exact zAp.intro rfl
theorem zRb {x:yI.T} (g:Full x) {v:Int} : ∀ n u,(∃ w,bE x w u)->∀ a∈zD7 (zBm (some x)) v n u,0<=a/\a<x.1.1
 | 0,u,_,a,h=>by cases h
 | n + 1,u,⟨w,hw⟩,a,h=>by
   unfold zD7 at h;split at h
   ·cases h
   ·rcases zT.1 h with e|h
    ·rw [e];exact (zJf g hw).2.1
    ·rw [zDd g hw] at h;exact zRb g n w (zCo g hw) a h
theorem z0D {x:yI.T} (g:Full x) {v:Int} : ∀ a∈zA7 (some x) v,0<=a/\a<x.1.1:=fun a h=>by
 unfold zA7 at h;split at h
 ·rename_i hs
  obtain ⟨w,hw⟩: ∃ w,bE x w v:=by
   cases e:jS y8 (zBm (some x)) v with
   | none=>rw [e] at hs;cases hs
   | some w=>exact ⟨w,(zFQ g).1 e⟩
  rcases zT.1 h with e|h
  ·rw [e];exact (zJf g hw).2.1
  ·rw [zDd g hw] at h;exact zRb g _ w (zCo g hw) a h
 ·cases h
theorem z0T {x:yI.T} (g:Full x) (v:Int): ∀ a∈zA7 (some x) v,InK .i64 a:=fun a h=>by
 have h1:=z0D g a h;have h2:x.1.1<=4096:=g.fit.2.1;have h3:a<=4096:=Int.le_trans (Int.le_of_lt h1.2) h2;exact InK.i64.2 (by unfold yP;omega)
def z8J:zDE:=fun f ps L=>f=126/\∃ (o:Option yI.T) (v:Int),ps=[⟨.pt yI,o⟩,⟨y8,v⟩]/\(∀ x,o=some x->Full x)/\L=zA7 o v
theorem zW7:zDb prog z8J:=fun f ps L h=>by
 obtain ⟨rfl,o,v,rfl,hg,rfl⟩:=h;cases o with
 | none=>exact seq_ok (yN (fn:=[(127,zIt)]) (fr:=[]) ⟨zNe,trivial⟩ trivial) func126 rfl (by kernel_rfl) rfl (by kernel_rfl) (zU rfl) (fun a h=>by cases h) fun _=>zW5 v
 | some x=>exact seq_ok (yN (fn:=[(127,zIt)]) (fr:=[]) ⟨zNe,trivial⟩ trivial) func126 rfl (by kernel_rfl) rfl (by kernel_rfl) (zU rfl) (z0T (hg x rfl) v) fun _=>z0K x v (hg x rfl)
theorem zUY {o:Option yI.T} {v:Int} :(zA7 o v).length<=10001:=by
 have key: ∀ n u,(zD7 (zBm o) v n u).length<=n:=fun n=>by
  induction n with
  | zero=>exact fun u=>zI _
  | succ n ih =>
    intro u;unfold zD7;split
    ·exact zbH _
    ·have:=ih (nxt (zBm o) u);rw [yA];omega
 unfold zA7;split
 ·have:=key 10000 (nxt (zBm o) v);rw [yA];omega
 ·exact zbH _
def z2H (L:List Int):Spec Nat where
 inv _:=True
 live _:=[]
 keep:=[1,2,4]
 heap k:=[(0,.flat 54 [.own 2 0 k]),(2,.row y8 3 (L.take k))]
 keepH:=[1,3]
 mu _:=0
theorem z62 (o:Option yI.T) (v:Int) (hg: ∀ x,o=some x->Full x):zH7 ⟨tyL,[],[]⟩ z8J Tryz.f125 [.s (.val (.slice none 0 0)),.s (.clo 126 [⟨.pt yI,o⟩,⟨y8,v⟩])] (fun r=>r= .s (.sl y8 (zA7 o v))):=by
 have hlen:=zUY (o:=o) (v:=v)
 repeat' (conv=>whnf
          first|done|refine qy ?_|refine qG fun _=> ?_|refine qw (fun _=> ?_) (fun _=> ?_)|apply qt|refine qi (fun _=> ?_) (fun _=> ?_)|refine zB (zA7 o v) (zA (yJ.out ?_) (zB (z2H (zA7 o v)) ?_))|(refine zA (fun X=> ?_) (fun X=> ?_))|(refine zA (zA ?_ (zA ?_ rfl)) (fun k hk=> ?_))|(refine zA ?_ (zA ?_ rfl))|refine qu ?_|refine qv ?_ ?_|exact zO)
 all_goals try first|refine qz ?_|apply qz5
 all_goals try simp only [qn0,z7,zX,ETy.dflt,Int.reduceToNat,Int.reduceAdd,Int.reduceSub,Int.reduceNeg,Nat.reduceAdd,z2H] at *
 ·exact qh ⟨rfl,o,v,rfl,hg,rfl⟩
 ·refine qh ?_;omega
 ·rw [zb6,List.take_take,Nat.min_self,yB hk,gdE,gE hk];rfl
 ·rw [zb6,zbK,zbK]
def z5P (f:List AV):Option ((Option yI.T)×Int) :=
 match f with
 | [.s (.clo f [⟨.pt (.pair (.pair (.int .i64) (.sl .arr3)) (.pair (.mp .arr2 (.int .i64)) (.sl (.int .i64)))),o⟩,⟨.int .i64,v⟩])]=>match Nat.beq f 126 with
   | true=>some (o,v)
   | false=>none
 | _=>none
theorem zQn {l:List AV} {o:Option yI.T} {v:Int} (h:z5P l=some (o,v)):l=[.s (.clo 126 [⟨.pt yI,o⟩,⟨y8,v⟩])]:=by
 unfold z5P at h;split at h
 ·split at h
  ·rename_i e;cases h;rw [zH e]
  ·cases h
 ·cases h
def zLx (f:List AV):Option Res:=match z5P f with
 | some (o,v)=>some (none,some (∀ x,o=some x->Full x),.s (.sl y8 (zA7 o v)))
 | none=>none
def z8O:List AV->Option Res
 | .s (.val (.slice none 0 0))::f=>zLx f
 | _=>none
theorem z7P:qM prog 125 z8O:=⟨fun args r h=>by
 unfold z8O at h;split at h
 case h_2=>cases h
 unfold zLx at h;split at h
 case h_2=>cases h
 rename_i he;rw [zQn he];cases h
 exact zHL (yN (fn:=[]) (fr:=[]) trivial trivial) zW7 func125 rfl (by kernel_rfl) (zU rfl) fun _ h=>z62 _ _ h,_,func125,by kernel_rfl,by kernel_rfl⟩
theorem z7e (o:Option yI.T) (v:Int) (hg: ∀ x,o=some x->Full x):zAG ⟨tyL,[(125,z8O)],[]⟩ f86 [.s (.clo 126 [⟨.pt yI,o⟩,⟨y8,v⟩])] (fun r=>r= .s (.sl y8 (zA7 o v))):=by
 repeat' (conv=>whnf
          first|done|refine qy ?_|refine qG fun _=> ?_|refine qw (fun _=> ?_) (fun _=> ?_)|apply qt|refine qi (fun _=> ?_) (fun _=> ?_)|refine qu ?_|refine qv ?_ ?_|exact zO)
 all_goals try first|refine qz ?_|apply qz5
 all_goals try simp only [qn0,z7,zX,ETy.dflt,Int.reduceToNat,Int.reduceAdd,Int.reduceSub,Int.reduceNeg,Nat.reduceAdd] at *
 all_goals exact qh hg
def z5x:List AV->Option Res:=zLx
theorem z2O:qM prog 86 z5x:=⟨fun args r h=>by
 unfold z5x zLx at h;split at h
 case h_2=>cases h
 rename_i he;rw [zQn he];cases h
 exact fb (fn:=[(125,z8O)]) ⟨z7P,trivial⟩ func86 fun _ h=>z7e _ _ h,_,func86,by kernel_rfl,by kernel_rfl⟩
abbrev LpS:=ReM×List (List Int)
def lpI (x:yI.T) (s:LpS) (v:Nat):LpS :=
 if had s.1 v=true then s else ((zA7 (some x) v).foldl (fun m u=>zAB (.int .i64) m u true) s.1,if (zA7 (some x) v).length>0 then s.2++[zA7 (some x) v] else s.2)
def lpS (x:yI.T) (i:Nat):LpS:=qA (lpI x) ([],[]) i
def qW (x:yI.T):List (List Int):=(lpS x x.1.1.toNat).2
def z2U (o:Option yI.T):List (List Int):=onO o [] qW
def zYi (x:yI.T):Spec Nat where
 inv k:=(k:Int)<=x.1.1
 live k:=[(13,.s (.int .i64 k)),(3,.s (.own 1 0 (lpS x k).2.length))]
 keep:=[0,2,4,12]
 heap k:=[(1,.row (.sl y8) 54 (lpS x k).2),(2,.map y8 .bool (lpS x k).1)]
 keepH:=[0,3]
 mu k:=x.1.1.toNat - k
theorem z5d {x:yI.T} {k:Nat} (h:had (lpS x k).1 k=true):lpS x (k+1)=lpS x k:=by
 show lpI x (lpS x k) k=_;unfold lpI;rw [if_pos h]
theorem zOV {x:yI.T} {k:Nat} (h:had (lpS x k).1 k=false):lpS x (k+1)=((zA7 (some x) k).foldl (fun m u=>zAB (.int .i64) m u true) (lpS x k).1,if (zA7 (some x) k).length>0 then (lpS x k).2++[zA7 (some x) k] else (lpS x k).2):=by
 show lpI x (lpS x k) k=_;unfold lpI;rw [if_neg (by rw [h];simp)]
theorem zPX (x:yI.T): ∀ k,(lpS x k).2.length<=k
 | 0=>zI _
 | k +1=>by
   have ih:=zPX x k;cases h:had (lpS x k).1 k with
   | true=>rw [z5d h];omega
   | false =>
     rw [zOV h];show (if _ then _ else _:List (List Int)).length<=_;split
     ·rw [zN,List.length_singleton];omega
     ·omega
def zRZ (m:ReM) (l:List Int):ReM:=l.foldl (fun m u=>zAB (.int .i64) m u true) m
def z2o (m:ReM) (L:List Int):Spec Nat where
 inv _:=True
 live _:=[]
 keep:=[0,2,3,4,5,6,12,13]
 heap k:=[(2,.map y8 .bool (zRZ m (L.take k)))]
 keepH:=[0,1,3,4]
 mu _:=0
theorem z1A (x:yI.T) (g:Full x):zH7 ⟨tyL,[(85,zBn),(87,zUx),(86,z5x)],[]⟩ z8J f45 [(ETy.pt yI).av (some x)] (fun r=>r= .s (.sl (.sl y8) (qW x))):=by
 repeat' (conv=>whnf
          first|done|refine qy ?_|refine qG fun _=> ?_|refine qw (fun _=> ?_) (fun _=> ?_)|apply qt|refine qi (fun _=> ?_) (fun _=> ?_)|refine zB (Nat) (zB (zYi x) (zA (zB (0) (zA (yJ.out ?_) (zA ?_ (zA ?_ rfl)))) (fun k hk=> ?_)))|with_reducible refine zaA (zYi _) (k+1) ?_ ?_ ?_ ?_|refine zB (zA7 (some x) k) (zA (yJ.out ?_) (zB (z2o (lpS x k).1 (zA7 (some x) k)) ?_))|(refine zA (fun X=> ?_) (fun X=> ?_))|(refine zA (zA ?_ (zA ?_ rfl)) (fun j hj=> ?_))|(refine zA ?_ (zA ?_ rfl))|refine qu ?_|refine qv ?_ ?_|exact zO)
 all_goals try first|refine qz ?_|apply qz5
 all_goals try simp only [qn0,z7,zX,ETy.dflt,Int.reduceToNat,Int.reduceAdd,Int.reduceSub,Int.reduceNeg,Nat.reduceAdd,zYi,z2o] at *
 all_goals have hn: @LE.le Int _ x.1.1 4096:=g.fit.2.1
 all_goals have h0: @LE.le Int _ 0 x.1.1:=g.fit.1
 all_goals try (refine qh ?_;first|omega|(unfold yP;omega))
 all_goals try have hlen:=zPX x k
 all_goals try
  have ht:had (lpS x k).1 k=true:=by assumption
  have e:=z5d ht
  (first|(rw [e];done)|(rw [e]))
 all_goals try have hf:had (lpS x k).1 k=false:=by assumption
 ·exact qh (fun y h=>by cases h;exact g)
 ·exact qh ⟨rfl,some x,k,rfl,fun y h=>(by cases h;exact g),rfl⟩
 ·unfold zRZ;rw [yB hj,zbm,gdE,gE hj];rfl
 ·refine qh ?_;omega
 ·have hp:((zA7 (some x) k).length:Int)>0:=by assumption
  rw [zOV hf,if_pos (by omega),zN];rfl
 ·have hp:((zA7 (some x) k).length:Int)>0:=by assumption
  rw [zOV hf,if_pos (by omega)]
 ·rw [zOV hf,zbK];rfl
 ·have hp: ¬ ((zA7 (some x) k).length:Int)>0:=by assumption
  rw [zOV hf,if_neg (by omega)]
 ·have hp: ¬ ((zA7 (some x) k).length:Int)>0:=by assumption
  rw [zOV hf,if_neg (by omega)]
 ·rw [zOV hf,zbK];rfl
 ·have e:k=x.1.1.toNat:=by omega
  rw [e];rfl
theorem zYW:zH7 ⟨tyL,[(85,zBn),(87,zUx),(86,z5x)],[]⟩ z8J f45 [(ETy.pt yI).av none] (fun r=>r= .s (.sl (.sl y8) [])):=by
 repeat' (conv=>whnf
          first|done|refine qy ?_|refine qG fun _=> ?_|refine qw (fun _=> ?_) (fun _=> ?_)|apply qt|refine qi (fun _=> ?_) (fun _=> ?_)|refine qu ?_|refine qv ?_ ?_|exact zO)
 all_goals try first|refine qz ?_|apply qz5
 all_goals try simp only [qn0,z7,zX,ETy.dflt,Int.reduceToNat,Int.reduceAdd,Int.reduceSub,Int.reduceNeg,Nat.reduceAdd] at *
 rfl
def zUB:List AV->Option Res:=zEz (.pt yI) (fun o=>some (none,some (∀ x,o=some x->Full x),.s (.sl (.sl y8) (z2U o))))
theorem zZF:qM prog 45 zUB:=mkR (zA1 fun o r h=>by
 cases h;cases o with
 | none=>exact zHL (yN (fn:=[(85,zBn),(87,zUx),(86,z5x)]) (fr:=[]) ⟨zD0,zU4,z2O,trivial⟩ trivial) zW7 func45 rfl (by kernel_rfl) (zU rfl) fun _ _=>zYW
 | some x=>exact zHL (yN (fn:=[(85,zBn),(87,zUx),(86,z5x)]) (fr:=[]) ⟨zD0,zU4,z2O,trivial⟩ trivial) zW7 func45 rfl (by kernel_rfl) (zU rfl) fun _ h=>z1A x (h x rfl)) func45
end S1
namespace S1
abbrev nx (x:yI.T) (u:Int):Int:=nxt (zBm (some x)) u
structure zCA (x:yI.T) (L:List Int):Prop where
 ne:0<L.length
 cyc: ∀ i,i<L.length->bE x (L.getD ((i+1) % L.length) 0) (L.getD i 0)
 nd:L.Nodup
theorem zNI (m:NxM) (v:Int) {p:Nat} (hp:iter (nxt m) v p=v) (hl: ∀ j,1<=j->j<p->iter (nxt m) v j≠v): ∀ (r k n:Nat),k+1+r=p->r<n->zD7 m v n (iter (nxt m) v (k+1))=(List.range r).map fun j=>iter (nxt m) v (k+1+j)
 | 0,k,n,h1,h2=>by
   obtain ⟨n,rfl⟩: ∃ n',n=n'+1:=⟨n - 1,by omega⟩;unfold zD7;rw [show k+1=p by omega,if_pos hp];rfl
 | r+1,k,n,h1,h2=>by
   obtain ⟨n,rfl⟩: ∃ n',n=n'+1:=⟨n - 1,by omega⟩;unfold zD7;rw [if_neg (hl (k+1) (by omega) (by omega))];have:=zNI m v hp hl r (k+1) n (by omega) (by omega);show _::zD7 m v n (iter (nxt m) v (k+1+1))=_;rw [this,List.range_succ_eq_map,zbk,zcE]
   congr 1
   refine zbN fun j _=> ?_;show _=iter (nxt m) v (k+1+(j+1));rw [show k+1+1+j=k+1+(j+1) by omega]
theorem z6N {x:yI.T} (g:Full x) {u u':Int} (h: ∃ w,bE x w u) (h': ∃ w,bE x w u') (e:nx x u=nx x u'):u=u':=by
 obtain ⟨w,hw⟩:=h;obtain ⟨w',hw'⟩:=h';have e:nxt (zBm (some x)) u=nxt (zBm (some x)) u':=e;rw [zDd g hw,zDd g hw'] at e;subst e;exact zHi g hw hw'
theorem zI6 {x:yI.T} (g:Full x) {v:Int} (hv: ∃ w,bE x w v): ∀ i d,iter (nx x) v i=iter (nx x) v (i+d)->v=iter (nx x) v d
 | 0,d,h=>by rw [zD] at h;exact h
 | i+1,d,h=>by
   refine zI6 g hv i d (z6N g (zHl g hv i) (zHl g hv (i+d)) ?_);rw [show i+1+d=(i+d)+1 by omega] at h;exact h
theorem zPt {x:yI.T} (g:Full x) {v:Int} (hv: ∃ w,bE x w v): ∃ p,0<p/\iter (nx x) v p=v/\(∀ j,1<=j->j<p->iter (nx x) v j≠v)/\zA7 (some x) v=(List.range p).map fun j=>iter (nx x) v j:=by
 have hex: ∃ n,n<=4097/\(1<=n/\iter (nx x) v n=v):=by
  apply yF;intro h;have:=zRm g hv (k:=4097) fun j h1 h2 e=>h ⟨j,h2,h1,e⟩;omega
 obtain ⟨n,hn,h⟩:=hex;obtain ⟨p,⟨h1,h2⟩,h3,h4⟩:=exists_least (P:=fun n=>1<=n/\iter (nx x) v n=v) h;have hl: ∀ j,1<=j->j<p->iter (nx x) v j≠v:=fun j a b e=>h4 j b ⟨a,e⟩;refine ⟨p,h1,h2,hl,?_⟩;have:=zNI (zBm (some x)) v h2 hl (p - 1) 0 10000 (by omega) (by omega);obtain ⟨w,hw⟩:=hv;unfold zA7;rw [if_pos (by rw [(zFQ g).2 hw];rfl)];have e:zD7 (zBm (some x)) v 10000 (nxt (zBm (some x)) v)=_:=this;rw [e];obtain ⟨q,rfl⟩: ∃ q,p=q+1:=⟨p - 1,by omega⟩
 rw [List.range_succ_eq_map,zbk,zcE];refine congrArg (v:: ·) ?_;show (List.range (q+1 - 1)).map _=_;rw [Nat.add_sub_cancel];refine zbN fun j _=> ?_;show iter _ v (0+1+j)=iter _ v (j+1);rw [show 0+1+j=j+1 by omega]
theorem zRs {f:Nat->Int} {p i:Nat} (h:i<p):((List.range p).map f).getD i 0=f i:=by
 rw [gdE,zbf,List.getElem?_range h];rfl
theorem z5l {x:yI.T} (g:Full x) {v:Int} (hv: ∃ w,bE x w v):zCA x (zA7 (some x) v):=by
 obtain ⟨p,h1,h2,h3,e⟩:=zPt g hv;rw [e];have hlen:((List.range p).map fun j=>iter (nx x) v j).length=p:=by rw [yV,zAD]
 refine ⟨by rw [hlen];exact h1,fun i hi=> ?_,?_⟩
 ·rw [hlen] at hi ⊢;rw [zRs hi,zRs (Nat.mod_lt _ h1)];obtain ⟨w,hw⟩:=zHl g hv i
  have e1:iter (nx x) v ((i+1) % p)=nx x (iter (nx x) v i):=by
   by_cases hl:i+1<p
   ·rw [Nat.mod_eq_of_lt hl];rfl
   ·rw [show i+1=p by omega,Nat.mod_self];have:iter (nx x) v p=nx x (iter (nx x) v i):=by rw [show p=i+1 by omega];rfl
    rw [<- this,h2];rfl
  rw [e1];show bE x (nxt (zBm (some x)) (iter (nxt (zBm (some x))) v i)) _;rw [zDd g hw];exact hw
 ·have key: ∀ i j,i<j->j<p->iter (nx x) v i≠iter (nx x) v j:=fun i j h4 h5 e=>by
   have:=zI6 g hv i (j - i) (by rw [e];congr 1;omega);exact h3 (j - i) (by omega) (by omega) this.symm
  refine List.Pairwise.map _ (fun i j h=> ?_) (List.nodup_range (n:=p) |>.imp_of_mem (S:=fun i j=>i≠j/\i<p/\j<p) fun hi hj hn=>⟨hn,zV.1 hi,zV.1 hj⟩);obtain ⟨hn,hi,hj⟩:=h;rcases Nat.lt_or_gt_of_ne hn with hlt|hgt
  ·exact key i j hlt hj
  ·exact (key j i hgt hi).symm
theorem z3c {x:yI.T} (g:Full x) {v:Int} (hv: ¬ ∃ w,bE x w v):zA7 (some x) v=[]:=by
 unfold zA7;rw [if_neg];intro h;cases e:jS y8 (zBm (some x)) v with
 | none=>rw [e] at h;cases h
 | some w=>exact hv ⟨w,(zFQ g).1 e⟩
theorem zLa {L:List Int} {u:Int} (h:u∈L): ∃ i,i<L.length/\L.getD i 0=u:=by
 obtain ⟨i,hi,e⟩:=yG.1 h;exact ⟨i,hi,by rw [gdE,gE hi];exact e⟩
section
variable {x:yI.T}
theorem zCA.bord {L:List Int} (h:zCA x L) {u:Int} (hu:u∈L): ∃ w,bE x w u:=by
 obtain ⟨i,hi,e⟩:=zLa hu;have:=h.cyc i hi;rw [e] at this;exact ⟨_,this⟩
theorem zCA.next {L:List Int} (h:zCA x L) (g:Full x) {u:Int} (hu:u∈L):nx x u∈L:=by
 obtain ⟨i,hi,e⟩:=zLa hu;have:=h.cyc i hi;rw [e] at this;show nxt (zBm (some x)) u∈L;rw [zDd g this];exact jB (Nat.mod_lt _ h.ne)
theorem zCA.iters {L:List Int} (h:zCA x L) (g:Full x) {u:Int} (hu:u∈L): ∀ k,iter (nx x) u k∈L
 | 0=>hu
 | k+1=>h.next g (h.iters g hu k)
theorem zYA (g:Full x) {v:Int} (hv: ∃ w,bE x w v) {L:List Int} (h:zCA x L) {u:Int} (h1:u∈zA7 (some x) v) (h2:u∈L):v∈L:=by
 obtain ⟨p,p1,p2,p3,e⟩:=zPt g hv;rw [e] at h1;obtain ⟨i,hi,rfl⟩:=yC.1 h1;have hi:=zV.1 hi;have:=h.iters g h2 (p - i);rw [zLt,show i+(p - i)=p by omega,p2] at this;exact this
theorem zXO (g:Full x) {v:Int} (hv: ∃ w,bE x w v):v∈zA7 (some x) v:=by
 obtain ⟨p,p1,p2,p3,e⟩:=zPt g hv;rw [e];exact yC.2 ⟨0,zV.2 p1,rfl⟩
theorem zLM (l:List Int): ∀ (m:ReM) (v:Int),had (l.foldl (fun m u=>zAB (.int .i64) m u true) m) v=true↔had m v=true\/v∈l:=by
 induction l with
 | nil=>intro m v;simp
 | cons a r ih =>
   intro m v;rw [List.foldl_cons,ih]
   by_cases e:a=v
   ·subst e
    have:had (zAB (.int .i64) m a true) a=true:=by
     show (jS (.int .i64) (zAB (.int .i64) m a true) a).getD false=true;rw [zAT];rfl
    simp [this]
   ·have:had (zAB (.int .i64) m a true) v=had m v:=by
     show (jS (.int .i64) (zAB (.int .i64) m a true) v).getD false=_;rw [zA4 _ e];rfl
    rw [this,zT];constructor
    ·rintro (h|h)
     ·exact .inl h
     ·exact .inr (.inr h)
    ·rintro (h|h|h)
     ·exact .inl h
     ·exact absurd h.symm e
     ·exact .inr h
structure Lps (x:yI.T) (Ls:List (List Int)) (k:Int):Prop where
 ok: ∀ L∈Ls,zCA x L
 nd:Ls.flatten.Nodup
 all: ∀ u,0<=u->u<k->(∃ w,bE x w u)->u∈Ls.flatten
theorem zUP (g:Full x): ∀ k,Lps x (lpS x k).2 k/\∀ u,had (lpS x k).1 u=true↔u∈(lpS x k).2.flatten
 | 0=>⟨⟨fun L h=>(by cases h),zbS,fun u h1 h2 _=>by omega⟩,fun u=>⟨fun h=>(by cases h),fun h=>(by cases h)⟩⟩
 | k + 1 =>by
   obtain ⟨ih,ihm⟩:=zUP g k;cases hh:had (lpS x k).1 k with
   | true =>
     rw [z5d hh];refine ⟨⟨ih.ok,ih.nd,fun u h1 h2 h3=> ?_⟩,ihm⟩
     by_cases e:u=k
     ·rw [e];exact (ihm k).1 hh
     ·exact ih.all u h1 (by omega) h3
   | false =>
     rw [zOV hh]
     by_cases hv: ∃ w,bE x w (k:Int)
     ·have hw:=z5l g hv;rw [if_pos hw.ne]
      have hdis: ∀ u∈zA7 (some x) k,u∉(lpS x k).2.flatten:=fun u hu hf=>by
       obtain ⟨L,hL,huL⟩:=List.mem_flatten.1 hf;have:=zYA g hv (ih.ok L hL) hu huL;rw [(ihm k).2 (List.mem_flatten.2 ⟨L,hL,this⟩)] at hh;cases hh
      refine ⟨⟨fun L hL=> ?_,?_,fun u h1 h2 h3=> ?_⟩,fun u=> ?_⟩
      ·rcases yD.1 hL with hL|hL
       ·exact ih.ok L hL
       ·rw [zF] at hL;rw [hL];exact hw
      ·rw [List.flatten_append,List.nodup_append];refine ⟨ih.nd,by simpa using hw.nd,fun a ha b hb e=> ?_⟩;have hb:b∈zA7 (some x) k:=by simpa using hb
       subst e;exact hdis a hb ha
      ·rw [List.flatten_append,yD]
       by_cases e:u=k
       ·rw [e];exact .inr (by simpa using zXO g hv)
       ·exact .inl (ih.all u h1 (by omega) h3)
      ·rw [List.flatten_append,yD,zLM,ihm u];simp
     ·rw [z3c g hv];rw [if_neg (by simp)];refine ⟨⟨ih.ok,ih.nd,fun u h1 h2 h3=> ?_⟩,ihm⟩
      by_cases e:u=k
      ·rw [e] at h3;exact absurd h3 hv
      ·exact ih.all u h1 (by omega) h3
theorem zJa (g:Full x):Lps x (qW x) x.1.1:=by
 have:=(zUP g x.1.1.toNat).1;have h0:0<=x.1.1:=g.fit.1;rw [zAC h0] at this;exact this
theorem zTs (g:Full x) {u:Int} :u∈(qW x).flatten↔∃ w,bE x w u:=by
 have h:=zJa g;constructor
 ·intro hu;obtain ⟨L,hL,huL⟩:=List.mem_flatten.1 hu;exact (h.ok L hL).bord huL
 ·rintro ⟨w,hw⟩;have:=zJf g hw;exact h.all u this.2.1.1 this.2.1.2 ⟨w,hw⟩
end
end S1
namespace S1
theorem zdq {x:yI.T} (g:Good x) {b:Int} : ∀ n k,k+n=30000->zT3 (yO x) b k->∃ m,zT3 (yO x) b (k+m)/\jW x b n (iter (yO x) b k)=(List.range (m+1)).map fun j=>iter (yO x) b (k+j)
 | 0,k,e,h=>by have:=zAz g h;omega
 | n + 1,k,e,h=>by
   unfold jW
   by_cases h1:yO x (iter (yO x) b k)<0
   ·rw [if_pos h1];exact ⟨0,h,rfl⟩
   ·rw [if_neg h1]
    by_cases h2:yO x (iter (yO x) b k)=b
    ·rw [if_pos h2];exact ⟨0,h,rfl⟩
    ·rw [if_neg h2];obtain ⟨m,m1,m2⟩:=zdq g n (k+1) (by omega) (h.succ h1 h2);refine ⟨m+1,by rw [show k+(m+1)=k+1+m by omega];exact m1,?_⟩;have e2:yO x (iter (yO x) b k)=iter (yO x) b (k+1):=rfl;rw [e2,m2,List.range_succ_eq_map (n:=m+1),zbk,zcE];refine congrArg (List.cons _) (zbN fun j _=> ?_);show iter (yO x) b (k+1+j)=iter (yO x) b (k+(j+1));rw [show k+1+j=k+(j+1) by omega]
theorem zdy {x:yI.T} (g:Full x) {b:Int} {m:Nat} (h:zT3 (yO x) b m): ∀ i j,i<=j->j<=m->iter (yO x) b i=iter (yO x) b j->iter (yO x) b 0=iter (yO x) b (j - i)
 | 0,j,_,_,e=>e
 | i+1,j,h1,h2,e=>by
   obtain ⟨k,rfl⟩: ∃ k,j=k+1:=⟨j - 1,by omega⟩;have p1:=(h (i+1) (by omega) (by omega)).1;have p2:=(h (k+1) (by omega) h2).1;have b1:=g.before_after (c:=iter (yO x) b i) p1;have b2:=g.before_after (c:=iter (yO x) b k) p2;have e:yO x (iter (yO x) b i)=yO x (iter (yO x) b k):=e;rw [e,b2] at b1;rw [show k+1 - (i+1)=k - i by omega];exact zdy g h i k (by omega) (by omega) b1.symm
theorem zfB {x:yI.T} (g:Full x) {v:Int} (h0:0<=v) (h1:v<x.1.1):(yU (some x) v).Nodup:=by
 obtain ⟨b,_,e,_⟩:=g.around h0 h1;rw [e];obtain ⟨m,m1,m2⟩:=zdq g.toGood (b:=b) 30000 0 (by omega) (fun j hj hj2=>by omega);rw [zD] at m1;have e2:jW x b 30000 b=jW x b 30000 (iter (yO x) b 0):=rfl;rw [e2,m2];refine List.Pairwise.map _ (fun i j hh=> ?_) ((List.nodup_range (n:=m+1)).imp_of_mem (S:=fun i j=>i≠j/\i<=m/\j<=m) fun hi hj hn=>⟨hn,by have:=zV.1 hi;omega,by have:=zV.1 hj;omega⟩);obtain ⟨hn,hi,hj⟩:=hh
 rw [zD,zD];intro e
 have key: ∀ i j,i<j->j<=m->iter (yO x) b i≠iter (yO x) b j:=fun i j hij hj e=>by
  have:=zdy g m1 i j (by omega) hj e;exact (m1 (j - i) (by omega) (by omega)).2 this.symm
 rcases Nat.lt_or_gt_of_ne hn with h|h
 ·exact key i j h hj e
 ·exact key j i h hi e.symm
def atV (v:Int) (t:P3):Bool:=decide (z8 t v)
end S1
namespace S1
theorem zNE (a b:Int) (t:P3):both a b t=(atV a t&&atV b t):=by unfold both atV;exact Bool.decide_and _ _
theorem zLn {p q:P3->Bool} (h: ∀ t,p t=q t) (l:List P3):(l.filter p).length=(l.filter q).length:=by rw [show p=q from funext h]
theorem z1P {x:yI.T} (g:Full x) (hs:jV (InN x.1.1) x.1.2) {a b:Int} (hn:zAQ x a b=true):(x.1.2.filter (both a b)).length=if qJ x (a,b)<0\/zAI x (qJ x (a,b))<0 then 1 else 2:=by
 by_cases h:qJ x (a,b)<0
 ·rw [if_pos (.inl h)];obtain ⟨d,d1,d2⟩:=(zHf g).1 hn;rcases d2 with e|e
  ·have:=g.facing d1;rw [e] at this;rw [this] at h;exact absurd (yH.1 d1).1 (by omega)
  ·have k:=zRT g hs d1;rw [e] at k
   have ho: ¬ 0<=zAI x d:=fun h0=>by
    obtain ⟨_,h2,h3⟩:=g.opp h0;have:=g.facing h2;rw [h3,e] at this;have h2:=(yH.1 h2).1;have this:qJ x (a,b)=zAI x d:=this;omega
   rw [if_neg ho] at k;rw [<- k];exact zLn (fun t=>by rw [zNE,zNE,Bool.and_comm]) _
 ·have hf:qJ x (a,b)>=0:=by omega
  obtain ⟨c,c1,c2⟩:=zED.1 ((zCk g).1 hf);have e:=g.facing c1;rw [c2] at e;have k:=zRT g hs c1;rw [c2] at k;rw [e] at h ⊢;have k:(x.1.2.filter (both a b)).length=if 0<=zAI x c then 2 else 1:=k;rw [k]
  by_cases ho:0<=zAI x c
  ·rw [if_pos ho,if_neg (by omega)]
  ·rw [if_neg ho,if_pos (by omega)]
end S1
namespace S1
theorem zGa {x:yI.T} (g:Full x) (hs:jV (InN x.1.1) x.1.2) {a b:Int} (hn:zAQ x a b=true):(zDf x a b).length=(x.1.2.filter (both a b)).length:=by
 rw [z1P g hs hn]
 have hk:qJ x (a,b)>=0\/qJ x (b,a)>=0:=by
  unfold zAQ at hn;rw [zbA,zP,zP] at hn;exact hn
 by_cases h1:qJ x (a,b)>=0
 ·obtain ⟨c,c1,c2⟩:=zED.1 ((zCk g).1 h1);have e:=g.facing c1;rw [c2] at e;have eo:zAI x (qJ x (a,b))=qJ x (b,a):=by rw [e];unfold zAI;rw [c2]
  rw [eo];unfold zDf
  by_cases h2:qJ x (b,a)>=0
  ·rw [if_pos h1,if_pos h2,if_neg (by omega)];rfl
  ·rw [if_pos h1,if_neg h2,if_pos (by omega)];rfl
 ·unfold zDf;rw [if_neg h1,if_pos (hk.resolve_left h1),if_pos (.inl (by omega))];rfl
theorem z54 {x:yI.T} (g:Full x) {a b v:Int} (hab:a≠b):v∈zDf x a b↔v≠a/\v≠b/\∃ t∈x.1.2,z8 t a/\z8 t b/\z8 t v:=by
 have one: ∀ {p q:Int},qJ x (p,q)>=0->yS x (qJ x (p,q))≠p/\yS x (qJ x (p,q))≠q:=fun {p q} h=>by
  obtain ⟨c,c1,c2⟩:=zED.1 ((zCk g).1 h);have e:=g.facing c1;rw [c2] at e;obtain ⟨n1,n2,_⟩:=g.toGood.ne c1;have e2:(yS x (qY x c),yS x (qV x c))=(p,q):=c2;have f1:yS x (qY x c)=p:=congrArg Prod.fst e2;have f2:yS x (qV x c)=q:=congrArg Prod.snd e2;rw [f1] at n1;rw [f2] at n2;rw [e];exact ⟨n1,n2⟩
 constructor
 ·intro h;refine ⟨?_,?_,zWu g h⟩
  ·unfold zDf at h;rcases yD.1 h with h|h<;>split at h
   ·rw [zF.1 h];exact (one (by assumption)).1
   ·cases h
   ·rw [zF.1 h];exact (one (by assumption)).2
   ·cases h
  ·unfold zDf at h;rcases yD.1 h with h|h<;>split at h
   ·rw [zF.1 h];exact (one (by assumption)).2
   ·cases h
   ·rw [zF.1 h];exact (one (by assumption)).1
   ·cases h
 ·rintro ⟨va,vb,t,ht,ha,hb,hv⟩;obtain ⟨j,hj,ej⟩:=zAO ht
  have key: ∀ {p q:Int},dE t p q->v≠p->v≠q->qJ x (p,q)>=0/\yS x (qJ x (p,q))=v:=fun {p q} hd vp vq=>by
   rw [<- ej] at hd hv;obtain ⟨c,c1,c2,c3⟩:=zHH hj hd;have e:=g.facing c1;rw [c2] at e;have e2:(yS x (qY x c),yS x (qV x c))=(p,q):=c2;refine ⟨by rw [e];exact (yH.1 c1).1,?_⟩;rw [e];rcases z7v c1 (by rw [c3];exact hv) with k|k|k
   ·exact k.symm
   ·exact absurd (k.trans (congrArg Prod.fst e2)) vp
   ·exact absurd (k.trans (congrArg Prod.snd e2)) vq
  unfold zDf;rcases zCy hab ha hb with hd|hd
  ·obtain ⟨k1,k2⟩:=key hd va vb;exact zb9 _ (by rw [if_pos k1,k2];exact zF.2 rfl)
  ·obtain ⟨k1,k2⟩:=key hd vb va;exact zbg _ (by rw [if_pos k1,k2];exact zF.2 rfl)
theorem zGi {x:yI.T} (g:Full x) {v:Int} (hv:InN x.1.1 v):zAY x v=true↔∀ w,zAQ x v w=true->(zDf x v w).length=2:=by
 constructor
 ·intro hi w hw;obtain ⟨c,c1,c2,c3⟩:=zTK g hi hw;obtain ⟨_,h2,h3⟩:=g.opp c3;rw [c2] at h3;exact zHo g (zED.2 ⟨c,c1,c2⟩) (zED.2 ⟨_,h2,h3⟩)
 ·intro h;refine (zDx g).2 ⟨hv,fun ⟨w,hw⟩=> ?_⟩;obtain ⟨e1,e2⟩:=(zHJ g).1 hw
  have hn:zAQ x v w=true:=by
   unfold zAQ;rw [zbA,zP,zP];exact .inr ((zCk g).2 e1)
  have:=h w hn;unfold zDf at this;rw [if_neg (fun k=>e2 ((zCk g).1 k)),if_pos ((zCk g).2 e1)] at this;cases this
theorem zWh {x:yI.T} (g:Full x) (hs:jV (InN x.1.1) x.1.2) {i j:Nat} :Adj x i j↔i<x.1.2.length/\j<x.1.2.length/\i≠j/\∃ p q,p≠q/\(z8 (tg x.1.2 i) p/\z8 (tg x.1.2 i) q)/\z8 (tg x.1.2 j) p/\z8 (tg x.1.2 j) q:=by
 rw [zLF g];constructor
 ·rintro ⟨hi,hj,p,q,h1,h2⟩;refine ⟨hi,hj,fun e=> ?_,p,q,zNw (hs.deg _ (qI hi)) h1,jN h1,(jN h2).symm⟩;subst e;exact zEM (hs.deg _ (qI hi)) h1 h2
 ·rintro ⟨hi,hj,hij,p,q,hpq,⟨a1,a2⟩,b1,b2⟩;have ne:tg x.1.2 i≠tg x.1.2 j:=fun e'=>hij (zDg hs.nd hi hj e');refine ⟨hi,hj,?_⟩;rcases zCy hpq a1 a2 with a|a<;>rcases zCy hpq b1 b2 with b|b
  ·exact absurd b (hs.dif _ (qI hi) _ (qI hj) ne _ _ a)
  ·exact ⟨_,_,a,b⟩
  ·exact ⟨_,_,a,b⟩
  ·exact absurd b (hs.dif _ (qI hi) _ (qI hj) ne _ _ a)
def z0B (l:List P3) (i:Nat):Prop:= ∀ p q,p≠q->z8 (tg l i) p->z8 (tg l i) q->∃ j,j<l.length/\j≠i/\z8 (tg l j) p/\z8 (tg l j) q
theorem zZm {x:yI.T} (g:Full x) (hs:jV (InN x.1.1) x.1.2) {i:Nat} (hi:i<x.1.2.length):(∃ d:Nat,d<3/\zAI x (3*i+d)<0)↔¬ z0B x.1.2 i:=by
 have hH: ∀ d:Nat,d<3->j6 x (3*(i:Int)+d)=true:=fun d hd=>yH.2 ⟨by omega,by omega⟩;constructor
 ·rintro ⟨d,hd,ho⟩ hc;have h1:=hH d hd;have k:=zFH h1;rw [show ((3*(i:Int)+d) / 3).toNat=i by omega] at k;have hv:=jN k.2;have hne:=g.ends _ h1;obtain ⟨j,hj,hji,b1,b2⟩:=hc _ _ hne hv.1 hv.2;have ne:tg x.1.2 i≠tg x.1.2 j:=fun e'=>hji (zDg hs.nd hi hj e').symm;rcases zCy hne b1 b2 with b|b
  ·exact hs.dif _ (qI hi) _ (qI hj) ne _ _ k.2 b
  ·obtain ⟨c,c1,c2,_⟩:=zHH hj b;have:=g.opp_is c1 (c:=3*(i:Int)+d) c2;have:=(yH.1 c1).1;omega
 ·intro hc;apply yF;intro hn;refine hc fun p q hpq hp hq=> ?_
  have one: ∀ {p q:Int},dE (tg x.1.2 i) p q->∃ j,j<x.1.2.length/\j≠i/\z8 (tg x.1.2 j) p/\z8 (tg x.1.2 j) q:=fun {p q} hd=>by
   obtain ⟨c,c1,c2,c3⟩:=zHH hi hd;have hc3: ∃ d:Nat,d<3/\c=3*(i:Int)+d:=⟨(c - 3*i).toNat,by have:=yH.1 c1;omega,by have:=yH.1 c1;omega⟩;obtain ⟨d,hd3,ed⟩:=hc3
   have ho:0<=zAI x c:=by
    apply yF;intro k;exact hn ⟨d,hd3,by rw [<- ed];omega⟩
   obtain ⟨_,h2,h3⟩:=g.opp ho;have k2:=zFH h2;rw [h3,c2] at k2;refine ⟨_,k2.1,fun e=> ?_,(jN k2.2).2,(jN k2.2).1⟩;rw [e] at k2;exact zEM (hs.deg _ (qI hi)) hd k2.2
  rcases zCy hpq hp hq with hd|hd
  ·exact one hd
  ·obtain ⟨j,j1,j2,j3,j4⟩:=one hd;exact ⟨j,j1,j2,j4,j3⟩
theorem zX6 {x:yI.T} (g:Full x) (hs:jV (InN x.1.1) x.1.2) {a:Int} (ha:InN x.1.1 a) {i0:Nat} (h0:i0<x.1.2.length) (hv:z8 (tg x.1.2 i0) a) :
 (∀ i,i<x.1.2.length->((ofR x).getD i 0=smM x a↔zJ5 (Adj x) i0 i)):=fun i hi=>by
 obtain ⟨c1,c2⟩:=g.vtx a ha.1 ha.2;have kt:=zAw c1;rw [c2] at kt
 have hlab:(ofR x).getD i0 0=smM x a:=by
  unfold smM;exact (zGP g h0 kt.1).2 (zFn g h0 kt.1 hv kt.2 hs)
 rw [<- hlab,eq_comm];exact zGP g h0 hi
section
variable {s s':Int×List P3} {r:Int->Int}
end
end S1
namespace S1
def zS3 (l:List P3) (p q r:Int):Prop:= ∃ t∈l,z8 t p/\z8 t q/\z8 t r
def z20 (l:List P3) (v:Int):Prop:= ∀ w,w≠v->(∃ t∈l,z8 t v/\z8 t w)->(l.filter (both v w)).length=2
def z8x (l:List P3) (a:Int):Prop:= ∃ t∈l,z8 t a/\∀ u∈l,u≠t->∀ p q,p≠q->z8 t p->z8 t q->z8 u p->z8 u q->False
def z9V (l:List P3) (a:Int):Prop:= ∃ p q r,a≠p/\a≠q/\a≠r/\p≠q/\p≠r/\q≠r/\zS3 l a p q/\zS3 l a p r/\zS3 l a q r/\zS3 l p q r
structure zBN (l:List P3) (a b:Int):Prop where
 ne:a≠b
 near: ∃ t∈l,z8 t a/\z8 t b
 brd:(l.filter (both a b)).length=2->z20 l a\/z20 l b
 com: ∀ v,v≠a->v≠b->(∃ t∈l,z8 t a/\z8 t v)->(∃ u∈l,z8 u b/\z8 u v)->zS3 l a b v
 one: ¬ z8x l a
 tet: ¬ z9V l a
section
variable {x:yI.T}
theorem zKz (g:Full x) (hs:jV (InN x.1.1) x.1.2) {v:Int} (hv:InN x.1.1 v):zAY x v=true↔z20 x.1.2 v:=by
 rw [zGi g hv];unfold z20;constructor
 ·intro h w hw hn;have k:=(zBj g (a:=v) (v:=w) (Ne.symm hw)).2 hn;rw [<- zGa g hs k];exact h w k
 ·intro h w hw;have ne:v≠w:=fun e=>by subst e;rw [zCN g.toGood] at hw;cases hw
  rw [zGa g hs hw];exact h w ne.symm ((zBj g ne).1 hw)
theorem zTy (g:Full x) (hs:jV (InN x.1.1) x.1.2) {a:Int} (h:z8x x.1.2 a):zB2 x a=true:=by
 obtain ⟨t,ht,ta,hno⟩:=h;obtain ⟨i0,h0,rfl⟩:=zAO ht
 have cnt:=zJG g hs (a:=a) (hs.ent _ ht a ta) (S:=[i0]) (zbG.2 ⟨by simp,zbS⟩) (by simp) ta (fun i hi=>by rw [zF] at hi;subst hi;exact h0)
  (fun i hi j ha=>by
    rw [zF] at hi;subst hi;exfalso;obtain ⟨_,hj,hij,p,q,hpq,⟨a1,a2⟩,b1,b2⟩:=(zWh g hs).1 ha
    exact hno _ (qI hj) (fun e=>hij (zDg hs.nd h0 hj e.symm)) p q hpq a1 a2 b1 b2)
  (fun i hi=>by rw [zF] at hi;subst hi;exact .refl _)
 unfold zB2;rw [cnt.1];rfl
theorem zXI (g:Full x) (hs:jV (InN x.1.1) x.1.2) {a:Int} (h:z9V x.1.2 a):zB2 x a=true:=by
 obtain ⟨p,q,r,ap,aq,ar,pq,pr,qr,h1,h2,h3,h4⟩:=h;rw [<- Bool.not_eq_false];intro w3;exact zJS g hs w3 ap q r qr aq.symm pq.symm ar.symm pr.symm h3 h4 h1 h2
theorem z5E (g:Full x) (hs:jV (InN x.1.1) x.1.2) {a:Int} (ha:InN x.1.1 a) {t0:P3} (h0:t0∈x.1.2) (hv:z8 t0 a) (h:zB2 x a=true):z8x x.1.2 a\/z9V x.1.2 a:=by
 obtain ⟨i0,hi0,rfl⟩:=zAO h0;have lab:=zX6 g hs ha hi0 hv;have hl:=zMO g.toGood;obtain ⟨C,eC⟩: ∃ C,C=(List.range x.1.2.length).filter fun i=>decide ((ofR x).getD i 0=smM x a):=⟨_,rfl⟩
 have hC: ∀ i,i∈C↔i<x.1.2.length/\zJ5 (Adj x) i0 i:=fun i=>by
  rw [eC,zb5,zV,zP];exact and_congr_right fun k=>lab i k
 have cnt:(smS x (smM x a) (ofR x).length).1=(C.length:Int):=by rw [zMK,hl,eC]
 have step: ∀ {i j:Nat},i∈C->j<x.1.2.length->i≠j->∀ p q,p≠q->z8 (tg x.1.2 i) p->z8 (tg x.1.2 i) q->z8 (tg x.1.2 j) p->z8 (tg x.1.2 j) q->j∈C:=fun hi hj hij p q hpq a1 a2 b1 b2 =>
  (hC _).2 ⟨hj,.step ((hC _).1 hi).2 ((zWh g hs).2 ⟨((hC _).1 hi).1,hj,hij,p,q,hpq,⟨a1,a2⟩,b1,b2⟩)⟩
 have in0:i0∈C:=(hC i0).2 ⟨hi0,.refl _⟩;have bnd: ∀ S:List Nat,S.Nodup->(∀ i∈S,i∈C)->S.length<=C.length:=fun S hn hS=>zLY S C hn hS;unfold zB2 at h;rw [cnt,zbA,zC,zP,zP] at h;rcases h with h1|⟨h4,hf⟩
 ·left;refine ⟨_,qI hi0,hv,fun u hu hne p q hpq a1 a2 b1 b2=> ?_⟩;obtain ⟨j,hj,rfl⟩:=zAO hu;have hij:i0≠j:=fun e=>hne (by rw [e])
  have:=bnd [i0,j] (by simp [hij]) (fun i hi=>by
   simp only [zT,zbe,or_false] at hi;rcases hi with e|e<;>subst e
   ·exact in0
   ·exact step in0 hj hij p q hpq a1 a2 b1 b2)
  simp only [yA,List.length_nil] at this;omega
 ·right;have lt: ∀ {i},i∈C->i<x.1.2.length:=fun {i} hi=>((hC i).1 hi).1
  have shut: ∀ i,i∈C->∀ p q,p≠q->z8 (tg x.1.2 i) p->z8 (tg x.1.2 i) q->∃ j,j∈C/\j≠i/\z8 (tg x.1.2 j) p/\z8 (tg x.1.2 j) q:=fun i hi p q hpq a1 a2=>by
   obtain ⟨k1,k2⟩:=(hC i).1 hi
   have hs2:z0B x.1.2 i:=yF fun hn=>by
    obtain ⟨d,hd,ho⟩:=(zZm g hs k1).2 hn;have:(smS x (smM x a) (ofR x).length).2=true:=(zHt x _ _).2 ⟨i,by rw [hl];exact k1,(lab i k1).2 k2,d,hd,ho⟩;rw [this] at hf;cases hf
   obtain ⟨j,hj,hji,b1,b2⟩:=hs2 p q hpq a1 a2;exact ⟨j,step hi hj (Ne.symm hji) p q hpq a1 a2 b1 b2,hji,b1,b2⟩
  have one3: ∀ {i j:Nat},i∈C->j∈C->∀ {u v w:Int},u≠v->u≠w->v≠w->z8 (tg x.1.2 i) u->z8 (tg x.1.2 i) v->z8 (tg x.1.2 i) w->z8 (tg x.1.2 j) u->z8 (tg x.1.2 j) v->z8 (tg x.1.2 j) w->i=j:=fun {i j} hi hj {u v w} uv uw vw a1 a2 a3 b1 b2 b3 =>
   zDg hs.nd (lt hi) (lt hj) (hs.same (qI (lt hi)) (qI (lt hj)) uv uw vw a1 a2 a3 b1 b2 b3)
  obtain ⟨p,hpa⟩:=zRY hv;have ap:=zNw (hs.deg _ (qI hi0)) hpa;have tp:=(jN hpa).2;obtain ⟨q,qa,qp,tq,tall⟩:=zH6 (hs.deg _ (qI hi0)) ap hv tp;obtain ⟨j1,c1,n1,j1a,j1p⟩:=shut i0 in0 a p ap hv tp;obtain ⟨j2,c2,n2,j2a,j2q⟩:=shut i0 in0 a q qa.symm hv tq;obtain ⟨j3,c3,n3,j3p,j3q⟩:=shut i0 in0 p q qp.symm tp tq;have no1: ¬ z8 (tg x.1.2 j1) q:=fun k=>n1 (one3 c1 in0 ap qa.symm qp.symm j1a j1p k hv tp tq);have no2: ¬ z8 (tg x.1.2 j2) p:=fun k=>n2 (one3 c2 in0 ap qa.symm qp.symm j2a k j2q hv tp tq)
  have no3: ¬ z8 (tg x.1.2 j3) a:=fun k=>n3 (one3 c3 in0 ap qa.symm qp.symm k j3p j3q hv tp tq);have d12:j1≠j2:=fun e=>no1 (by rw [e];exact j2q);have d13:j1≠j3:=fun e=>no1 (by rw [e];exact j3q);have d23:j2≠j3:=fun e=>no2 (by rw [e];exact j3p)
  have all: ∀ k,k∈C->k=i0\/k=j1\/k=j2\/k=j3:=fun k hk=>yF fun hn=>by
   rw [not_or,not_or,not_or] at hn;obtain ⟨m0,m1,m2,m3⟩:=hn
   have:=bnd [k,i0,j1,j2,j3] (by simp [m0,m1,m2,m3,n1.symm,n2.symm,n3.symm,d12,d13,d23]) (fun i hi=>by
    simp only [zT,zbe,or_false] at hi
    rcases hi with e|e|e|e|e<;>(subst e;assumption))
   simp only [yA,List.length_nil] at this;omega
  obtain ⟨r,ra,rp,j1r,_⟩:=zH6 (hs.deg _ (qI (lt c1))) ap j1a j1p;have rq:r≠q:=fun e=>no1 (by rw [<- e];exact j1r)
  have not0: ¬ z8 (tg x.1.2 i0) r:=fun k=>by
   rcases tall r k with e|e|e
   ·exact ra e
   ·exact rp e
   ·exact rq e
  obtain ⟨k1,ck1,nk1,k1a,k1r⟩:=shut j1 c1 a r ra.symm j1a j1r
  have e2:k1=j2:=by
   rcases all k1 ck1 with e|e|e|e
   ·exact absurd (by rw [<- e];exact k1r) not0
   ·exact absurd e nk1
   ·exact e
   ·exact absurd (by rw [<- e];exact k1a) no3
  obtain ⟨k2,ck2,nk2,k2p,k2r⟩:=shut j1 c1 p r rp.symm j1p j1r
  have e3:k2=j3:=by
   rcases all k2 ck2 with e|e|e|e
   ·exact absurd (by rw [<- e];exact k2r) not0
   ·exact absurd e nk2
   ·exact absurd (by rw [<- e];exact k2p) no2
   ·exact e
  rw [e2] at k1r;rw [e3] at k2r;exact ⟨p,q,r,ap,qa.symm,ra.symm,qp.symm,rp.symm,rq.symm,⟨_,qI hi0,hv,tp,tq⟩,⟨_,qI (lt c1),j1a,j1p,j1r⟩,⟨_,qI (lt c2),j2a,j2q,k1r⟩,⟨_,qI (lt c3),j3p,j3q,k2r⟩⟩
theorem zKH (g:Full x) (hs:jV (InN x.1.1) x.1.2) {a b:Int} :zDV x a b=0↔zBN x.1.2 a b:=by
 constructor
 ·intro hw;obtain ⟨w1,w2,w3⟩:=zQW hw;have f:=zPy g hs hw;obtain ⟨t,ht,ta,tb⟩:=f.near;have ia:=hs.ent t ht a ta;have ib:=hs.ent t ht b tb;refine ⟨f.ne,f.near,fun h2=> ?_,f.com,fun k=> ?_,fun k=> ?_⟩
  ·rw [<- zKz g hs ia,<- zKz g hs ib];rw [<- zGa g hs w1] at h2;cases e1:zAY x a with
   | true=>exact .inl rfl
   | false =>
     cases e2:zAY x b with
     | true=>exact .inr rfl
     | false=>exact absurd ⟨h2,e1,e2⟩ w2
  ·rw [zTy g hs k] at w3;cases w3
  ·rw [zXI g hs k] at w3;cases w3
 ·intro f;obtain ⟨t,ht,ta,tb⟩:=f.near;have ia:=hs.ent t ht a ta;have ib:=hs.ent t ht b tb;have w1:=(zBj g f.ne).2 f.near
  have c2: ¬ ((zDf x a b).length=2/\zAY x a=false/\zAY x b=false):=fun ⟨k1,k2,k3⟩=>by
   rw [zGa g hs w1] at k1;rcases f.brd k1 with k|k
   ·rw [(zKz g hs ia).2 k] at k2;cases k2
   ·rw [(zKz g hs ib).2 k] at k3;cases k3
  have c3:zTH (zDf x a b) (zGc x a b)=true:=zRa.2 fun v hv=>by
   obtain ⟨_,k1,k2⟩:=(zMf g).1 hv;have va:v≠a:=fun e=>by subst e;rw [zCN g.toGood] at k1;cases k1
   have vb:v≠b:=fun e=>by subst e;rw [zCN g.toGood] at k2;cases k2
   exact (z54 g f.ne).2 ⟨va,vb,f.com v va vb ((zBj g va.symm).1 k1) ((zBj g vb.symm).1 k2)⟩
  have c4:zB2 x a=false:=by
   rw [<- zbV];intro k;rcases z5E g hs ia ht ta k with k|k
   ·exact f.one k
   ·exact f.tet k
  unfold zDV;rw [w1,if_neg (by simp),if_neg c2,if_neg (by rw [c3];simp),c4];rfl
end
end S1
