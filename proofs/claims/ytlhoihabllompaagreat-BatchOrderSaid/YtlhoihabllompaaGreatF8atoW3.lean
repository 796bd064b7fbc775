/- A part of the proofs of the laws. -/
import Derived.Test.YtlhoihabllompaaGreatVmRng3toF5
import Derived.Test.YtlhoihabllompaaGreatT22toF5a
set_option linter.unusedSimpArgs false
set_option linter.unusedVariables false
set_option maxHeartbeats 8000000
set_option maxRecDepth 100000
open Go Go.Vm Go.Proofs
namespace S1
theorem zHI {x:yI.T} (g:Good x) {b:Int} : ∀ n k,k+n=30000->zT3 (yO x) b k->∃ y∈jW x b n (iter (yO x) b k),yO x y<0\/yO x y=b
 | 0,k,e,h=>by have:=zAz g h;omega
 | n + 1,k,e,h=>by
   unfold jW
   by_cases h1:yO x (iter (yO x) b k)<0
   ·rw [if_pos h1];exact ⟨_,zF.2 rfl,.inl h1⟩
   ·rw [if_neg h1]
    by_cases h2:yO x (iter (yO x) b k)=b
    ·rw [if_pos h2];exact ⟨_,zF.2 rfl,.inr h2⟩
    ·rw [if_neg h2];obtain ⟨y,hy,h3⟩:=zHI g n (k+1) (by omega) (h.succ h1 h2);exact ⟨y,zQ _ hy,h3⟩
section
variable {x:yI.T} {c d:Int}
theorem Full.last_one (g:Full x) (hc:j6 x c=true) (hd:j6 x d=true) (e:yS x c=yS x d) (h1:yO x c<0) (h2:yO x d<0):c=d:=by
 have hv:=zBA g.fit hc;obtain ⟨b,_,eL,_⟩:=g.around hv.1 hv.2;have k1:=g.around_all hc;have k2:=g.around_all hd;rw [<- e] at k2;rw [eL] at k1 k2;rw [<- zCg _ _ c k1 h1,<- zCg _ _ d k2 h2]
theorem Full.first_is (g:Full x) (hc:j6 x c=true) (h1:yK x c<0):(zAP x (yS x c)).1=c:=by
 have hv:=zBA g.fit hc;obtain ⟨b,eb,eL,_⟩:=g.around hv.1 hv.2;have k1:=g.around_all hc;rw [eL] at k1;have:=zC2 (x:=x) (b:=b) (fun y=>y=b\/0<=yK x y) (fun y _ ha=> .inr (by rw [g.before_after ha];exact (yH.1 (g.after_has ha).1).1)) _ _ (.inl rfl) c k1;rw [eb];rcases this with h|h
 ·exact h.symm
 ·omega
theorem Full.first_one (g:Full x) (hc:j6 x c=true) (hd:j6 x d=true) (e:yS x c=yS x d) (h1:yK x c<0) (h2:yK x d<0):c=d:=by
 rw [<- g.first_is hc h1,<- g.first_is hd h2,e]
theorem Full.last_of_first (g:Full x) (hc:j6 x c=true) (h1:yK x c<0): ∃ y,j6 x y=true/\yS x y=yS x c/\yO x y<0:=by
 have hv:=zBA g.fit hc;obtain ⟨b,eb,eL,_,_,_,hall,_⟩:=g.around hv.1 hv.2;obtain ⟨y,hy,h⟩:=zHI g.toGood (b:=b) 30000 0 rfl (fun j a b=>by omega);have hy:y∈yU (some x) (yS x c):=by rw [eL];exact hy
 obtain ⟨k1,k2⟩:=hall y hy;rcases h with h|h
 ·exact ⟨y,k1,k2,h⟩
 ·have hb:=g.first_is hc h1;rw [eb] at hb;rw [hb] at h;have:=g.before_after (c:=y) (by rw [h];exact (yH.1 hc).1);rw [h] at this;have:=(yH.1 k1).1;omega
end
def bE (x:yI.T) (w u:Int):Prop:= ∃ c,j6 x c=true/\zAI x c<0/\jR x c=(w,u)
section
variable {x:yI.T}
theorem zQL (g:Full x) {w u:Int} (h:bE x w u): ∃ d,j6 x d=true/\yS x d=u/\yO x d<0/\yS x (qV x d)=w:=by
 obtain ⟨c,h1,h2,h3⟩:=h;refine ⟨qV x c,(zAF h1).2,congrArg Prod.snd h3,?_,by rw [(np h1).2.2.2];exact congrArg Prod.fst h3⟩;unfold yO;rw [(np h1).1,if_pos h2];decide
theorem zLN (g:Full x) {w u:Int} (h:bE x w u): ∃ d,j6 x d=true/\yS x d=w/\yK x d<0/\yS x (qY x d)=u:=by
 obtain ⟨c,h1,h2,h3⟩:=h;refine ⟨qY x c,(zAF h1).1,congrArg Prod.fst h3,?_,by rw [(np h1).2.2.1];exact congrArg Prod.snd h3⟩;unfold yK;rw [(np h1).2.1,if_pos h2];decide
theorem zTz (g:Full x) {d:Int} (h:j6 x d=true) (ha:yO x d<0):bE x (yS x (qV x d)) (yS x d):=by
 refine ⟨qY x d,(zAF h).1,?_,zNf h⟩
 by_cases e:zAI x (qY x d)<0
 ·exact e
 ·unfold yO at ha;rw [if_neg e] at ha;have:=(yH.1 (zAF (g.opp (d:=qY x d) (by omega)).2.1).1).1;omega
theorem zZ6 (g:Full x) {d:Int} (h:j6 x d=true) (ha:yK x d<0):bE x (yS x d) (yS x (qY x d)):=by
 refine ⟨qV x d,(zAF h).2,?_,zOA h⟩
 by_cases e:zAI x (qV x d)<0
 ·exact e
 ·unfold yK at ha;rw [if_neg e] at ha;have:=(yH.1 (zAF (g.opp (d:=qV x d) (by omega)).2.1).2).1;omega
theorem zWo (g:Full x) {w w' u:Int} (h:bE x w u) (k:bE x w' u):w=w':=by
 obtain ⟨d,d1,d2,d3,d4⟩:=zQL g h;obtain ⟨e,e1,e2,e3,e4⟩:=zQL g k;rw [<- d4,<- e4,g.last_one d1 e1 (d2.trans e2.symm) d3 e3]
theorem zHi (g:Full x) {w u u':Int} (h:bE x w u) (k:bE x w u'):u=u':=by
 obtain ⟨d,d1,d2,d3,d4⟩:=zLN g h;obtain ⟨e,e1,e2,e3,e4⟩:=zLN g k;rw [<- d4,<- e4,g.first_one d1 e1 (d2.trans e2.symm) d3 e3]
theorem zCo (g:Full x) {w u:Int} (h:bE x w u): ∃ z,bE x z w:=by
 obtain ⟨d,d1,d2,d3,d4⟩:=zLN g h;obtain ⟨y,y1,y2,y3⟩:=g.last_of_first d1 d3;have:=zTz g y1 y3;rw [y2,d2] at this;exact ⟨_,this⟩
theorem zJf (g:Full x) {w u:Int} (h:bE x w u):(0<=w/\w<x.1.1)/\(0<=u/\u<x.1.1)/\w≠u:=by
 obtain ⟨c,h1,h2,h3⟩:=h;have e1:yS x (qY x c)=w:=congrArg Prod.fst h3;have e2:yS x (qV x c)=u:=congrArg Prod.snd h3;have k1:=zBA g.fit (zAF h1).1;have k2:=zBA g.fit (zAF h1).2;have k3:=(g.ne h1).2.2;rw [e1] at k1 k3;rw [e2] at k2 k3;exact ⟨k1,k2,k3⟩
end
end S1
open Go Go.Vm Go.Proofs
namespace S1
def eE (l:List P3) (a b:Int):Prop:= ∃ i,i<l.length/\dE (tg l i) a b
theorem zFH {x:yI.T} {c:Int} (h:j6 x c=true):(c / 3).toNat<x.1.2.length/\dE (tg x.1.2 (c / 3).toNat) (jR x c).1 (jR x c).2:=by
 have hc:=yH.1 h;have h1:=yH.1 (zAF h).1;have h2:=yH.1 (zAF h).2;refine ⟨by omega,?_⟩;show dE _ (yS x (qY x c)) (yS x (qV x c));rw [zDY h1.1 h1.2,zDY h2.1 h2.2,zAg h,zBP h];have e1:(trn c 1 / 3).toNat=(c / 3).toNat:=by unfold trn;omega
 have e2:(trn c 2 / 3).toNat=(c / 3).toNat:=by unfold trn;omega
 rw [e1,e2];have:c % 3=0\/c % 3=1\/c % 3=2:=by omega
 rcases this with e|e|e
 ·rw [show trn c 1 % 3=1 by unfold trn;omega,show trn c 2 % 3=2 by unfold trn;omega];exact .inr (.inl ⟨rfl,rfl⟩)
 ·rw [show trn c 1 % 3=2 by unfold trn;omega,show trn c 2 % 3=0 by unfold trn;omega];exact .inr (.inr ⟨rfl,rfl⟩)
 ·rw [show trn c 1 % 3=0 by unfold trn;omega,show trn c 2 % 3=1 by unfold trn;omega];exact .inl ⟨rfl,rfl⟩
theorem zHH {x:yI.T} {j:Nat} {a b:Int} (hj:j<x.1.2.length) (h:dE (tg x.1.2 j) a b): ∃ c,j6 x c=true/\jR x c=(a,b)/\(c / 3).toNat=j:=by
 have key: ∀ k:Int,0<=k->k<3->p3 (tg x.1.2 j) ((k+1) % 3)=a->p3 (tg x.1.2 j) ((k+2) % 3)=b->∃ c,j6 x c=true/\jR x c=(a,b)/\(c / 3).toNat=j:=fun k h1 h2 ea eb=>by
  have hc:j6 x (3*(j:Int)+k)=true:=yH.2 (by omega);have k1:=yH.1 (zAF hc).1;have k2:=yH.1 (zAF hc).2;refine ⟨3*j+k,hc,?_,by omega⟩;show (yS x (qY x _),yS x (qV x _))=_;rw [zDY k1.1 k1.2,zDY k2.1 k2.2,zAg hc,zBP hc]
  rw [show (trn (3*(j:Int)+k) 1 / 3).toNat=j by unfold trn;omega,show (trn (3*(j:Int)+k) 2 / 3).toNat=j by unfold trn;omega,
   show trn (3*(j:Int)+k) 1 % 3=(k+1) % 3 by unfold trn;omega,show trn (3*(j:Int)+k) 2 % 3=(k+2) % 3 by unfold trn;omega,ea,eb]
 rcases h with h|h|h
 ·exact key 2 (by omega) (by omega) h.1 h.2
 ·exact key 0 (by omega) (by omega) h.1 h.2
 ·exact key 1 (by omega) (by omega) h.1 h.2
theorem zED {x:yI.T} {a b:Int} :eE x.1.2 a b↔∃ c,j6 x c=true/\jR x c=(a,b):=by
 constructor
 ·rintro ⟨i,hi,h⟩;obtain ⟨c,h1,h2,_⟩:=zHH hi h;exact ⟨c,h1,h2⟩
 ·rintro ⟨c,h1,h2⟩;have:=zFH h1;rw [h2] at this;exact ⟨_,this⟩
theorem zHJ {x:yI.T} (g:Full x) {w u:Int} :bE x w u↔eE x.1.2 w u/\¬ eE x.1.2 u w:=by
 rw [zED,zED];constructor
 ·rintro ⟨c,h1,h2,h3⟩;refine ⟨⟨c,h1,h3⟩,fun ⟨d,k1,k2⟩=> ?_⟩;have:=g.opp_is (c:=c) k1 (by rw [k2,h3]);have h4:=(yH.1 k1).1;omega
 ·rintro ⟨⟨c,h1,h3⟩,h⟩;refine ⟨c,h1,?_,h3⟩
  by_cases e:zAI x c<0
  ·exact e
  ·obtain ⟨k1,k2,k3,k4⟩:=g.opp_v (c:=c) (by omega);refine absurd ⟨zAI x c,k2,?_⟩ h;show (_,_)=_;rw [k3,k4];have e1:yS x (qY x c)=w:=congrArg Prod.fst h3;have e2:yS x (qV x c)=u:=congrArg Prod.snd h3;rw [e1,e2]
theorem zDx {x:yI.T} (g:Full x) {v:Int} :zAY x v=true↔(0<=v/\v<x.1.1)/\¬ ∃ w,bE x w v:=by
 unfold zAY;rw [zC,Bool.not_eq_true'];constructor
 ·rintro ⟨h1,h2⟩;have ht:=zJK.1 h1;refine ⟨⟨ht.1,ht.2.1⟩,fun ⟨w,hw⟩=> ?_⟩;obtain ⟨b,eb,eL,hb1,hb2,hb3,hall,_,_,hend⟩:=g.around ht.1 ht.2.1;obtain ⟨d,d1,d2,d3,_⟩:=zQL g hw;rcases hend with h|h
  ·rw [h.1] at h2;cases h2
  ·have:=h.2 d (by rw [<- d2];exact g.around_all d1);omega
 ·rintro ⟨⟨h0,h1⟩,h2⟩;refine ⟨g.there h0 h1,?_⟩;obtain ⟨b,eb,eL,hb1,hb2,hb3,hall,_,_,hend⟩:=g.around h0 h1;rcases hend with h|h
  ·have:=zZ6 g hb1 h.2;rw [hb2] at this;exact absurd (zCo g this) h2
  ·exact h.1
theorem zLt (f:Int->Int) (a:Int) (i:Nat): ∀ j,iter f (iter f a i) j=iter f a (i+j)
 | 0=>rfl
 | j+1=>congrArg f (zLt f a i j)
theorem exists_least {P:Nat->Prop} [DecidablePred P] {n:Nat} (h:P n): ∃ p,P p/\p<=n/\∀ j,j<p->¬ P j:=by
 induction n using Nat.strongRecOn with
 | _ n ih =>
   by_cases e: ∃ j,j<n/\P j
   ·obtain ⟨j,hj,hP⟩:=e;obtain ⟨p,h1,h2,h3⟩:=ih j hj hP;exact ⟨p,h1,by omega,h3⟩
   ·exact ⟨n,h,zI _,fun j hj hP=>e ⟨j,hj,hP⟩⟩
end S1
open Go Go.Vm Go.Proofs
namespace S1
theorem zGs {α:Type} (d:α) (L:List α):(List.range L.length).map (fun i=>L.getD i d)=L:=by
 apply List.ext_getElem
 ·rw [yV,zAD]
 ·intro i h1 h2;rw [List.getElem_map,List.getElem_range,gdE,gE h2];rfl
theorem qI {l:List P3} {i:Nat} (h:i<l.length):tg l i∈l:=by
 unfold tg;rw [gdE,gE h];exact yQ h
theorem zAO {l:List P3} {t:P3} (h:t∈l): ∃ i,i<l.length/\tg l i=t:=by
 obtain ⟨i,hi,e⟩:=yG.1 h;exact ⟨i,hi,by unfold tg;rw [gdE,gE hi];exact e⟩
theorem zDh {l:List P3} {a b:Int} :eE l a b↔∃ t∈l,dE t a b:=by
 constructor
 ·rintro ⟨i,hi,h⟩;exact ⟨_,qI hi,h⟩
 ·rintro ⟨t,ht,h⟩;obtain ⟨i,hi,e⟩:=zAO ht;exact ⟨i,hi,by rw [e];exact h⟩
theorem jN {t:P3} {a b:Int} (h:dE t a b):z8 t a/\z8 t b:=by
 rcases h with ⟨h1,h2⟩|⟨h1,h2⟩|⟨h1,h2⟩
 ·exact ⟨.inl h1,.inr (.inl h2)⟩
 ·exact ⟨.inr (.inl h1),.inr (.inr h2)⟩
 ·exact ⟨.inr (.inr h1),.inl h2⟩
theorem zZG {s:Int×List P3} (h:zMc s) {i:Nat} (hi:i<s.2.length) {v:Int} (hv:z8 (tg s.2 i) v):0<=v/\v<s.1:=by
 have:=zAH (h.2.2.2 i hi);rcases hv with e|e|e<;>(rw [<- e];first|exact this.1|exact this.2.1|exact this.2.2)
end S1
open Go Go.Vm Go.Proofs
namespace S1
def z8I (l:List P3) (v:Int):Prop:= ∀ Q:P3->Prop,
    (∀ t∈l,∀ u∈l,z8 t v->z8 u v->(∃ w:Int,w≠v/\z8 t w/\z8 u w)->Q t->Q u)->
    ∀ t∈l,z8 t v->Q t->∀ u∈l,z8 u v->Q u
structure jV (V:Int->Prop) (l:List P3):Prop where
 nd:l.Nodup
 ent: ∀ t∈l,∀ v,z8 t v->V v
 deg: ∀ t∈l,¬ dgn t
 dif: ∀ t∈l,∀ u∈l,t≠u->∀ a b,dE t a b->¬ dE u a b
 mir: ∀ t∈l,∀ u∈l,t≠u->¬ (z8 u t.1/\z8 u t.2.1/\z8 u t.2.2)
 use: ∀ v,V v->∃ t∈l,z8 t v
 pin: ∀ v,V v->z8I l v
instance (t:P3) (v:Int):Decidable (z8 t v):=inferInstanceAs (Decidable (t.1=v\/t.2.1=v\/t.2.2=v))
theorem z2B {t:P3} {a b r:Int} (hab:a≠b) (har:a≠r) (hbr:b≠r) (h1:z8 t a) (h2:z8 t b) (h3:z8 t r) :
 (dE t a b/\dE t b r/\dE t r a)\/(dE t b a/\dE t a r/\dE t r b):=by
 obtain ⟨x,y,z⟩:=t;unfold z8 at h1 h2 h3;unfold dE;simp only at *;rcases h1 with e1|e1|e1<;>rcases h2 with e2|e2|e2<;>rcases h3 with e3|e3|e3<;>first|(exfalso;omega)|(subst e1 e2 e3;simp)
theorem zH6 {t:P3} (hd: ¬ dgn t) {a b:Int} (hab:a≠b) (h1:z8 t a) (h2:z8 t b): ∃ r,r≠a/\r≠b/\z8 t r/\∀ w,z8 t w->w=a\/w=b\/w=r:=by
 obtain ⟨x,y,z⟩:=t;unfold dgn at hd;unfold z8 at h1 h2;simp only at *;rcases h1 with e1|e1|e1<;>rcases h2 with e2|e2|e2
 ·omega
 ·exact ⟨z,by omega,by omega,.inr (.inr rfl),fun w hw=>by unfold z8 at hw;simp only at hw;omega⟩
 ·exact ⟨y,by omega,by omega,.inr (.inl rfl),fun w hw=>by unfold z8 at hw;simp only at hw;omega⟩
 ·exact ⟨z,by omega,by omega,.inr (.inr rfl),fun w hw=>by unfold z8 at hw;simp only at hw;omega⟩
 ·omega
 ·exact ⟨x,by omega,by omega,.inl rfl,fun w hw=>by unfold z8 at hw;simp only at hw;omega⟩
 ·exact ⟨y,by omega,by omega,.inr (.inl rfl),fun w hw=>by unfold z8 at hw;simp only at hw;omega⟩
 ·exact ⟨x,by omega,by omega,.inl rfl,fun w hw=>by unfold z8 at hw;simp only at hw;omega⟩
 ·omega
theorem zNw {t:P3} (hd: ¬ dgn t) {a b:Int} (h:dE t a b):a≠b:=by
 unfold dgn at hd;unfold dE at h;omega
theorem zRY {t:P3} {v:Int} (h:z8 t v): ∃ w,dE t v w:=by
 rcases h with e|e|e
 ·exact ⟨_,.inl ⟨e,rfl⟩⟩
 ·exact ⟨_,.inr (.inl ⟨e,rfl⟩)⟩
 ·exact ⟨_,.inr (.inr ⟨e,rfl⟩)⟩
theorem jV.same {V:Int->Prop} {l:List P3} (h:jV V l) {t u:P3} (ht:t∈l) (hu:u∈l) {a b r:Int} (hab:a≠b) (har:a≠r) (hbr:b≠r) (h1:z8 t a) (h2:z8 t b) (h3:z8 t r) (k1:z8 u a) (k2:z8 u b) (k3:z8 u r):t=u:=by
 apply yF;intro hne;obtain ⟨r',e1,e2,e3,e4⟩:=zH6 (h.deg t ht) hab h1 h2
 have er:r=r':=by
  rcases e4 r h3 with e|e|e
  ·exact absurd e.symm har
  ·exact absurd e.symm hbr
  ·exact e
 subst er
 have key: ∀ w,z8 t w->z8 u w:=fun w hw=>by
  rcases e4 w hw with e|e|e<;>(subst e;assumption)
 exact h.mir t ht u hu hne ⟨key _ (.inl rfl),key _ (.inr (.inl rfl)),key _ (.inr (.inr rfl))⟩
def ph (a b v:Int):Int:=if v=a then b else v
def phT (a b:Int) (t:P3):P3:=(ph a b t.1,ph a b t.2.1,ph a b t.2.2)
def both (a b:Int) (t:P3):Bool:=decide (z8 t a/\z8 t b)
def zIZ (a b:Int) (l:List P3):List P3:=(l.filter fun t=> !both a b t).map (phT a b)
theorem zIz {a b:Int} {t:P3} {v:Int} (h:z8 t v):z8 (phT a b t) (ph a b v):=by
 rcases h with e|e|e
 ·exact .inl (by show ph a b t.1=_;rw [e])
 ·exact .inr (.inl (by show ph a b t.2.1=_;rw [e]))
 ·exact .inr (.inr (by show ph a b t.2.2=_;rw [e]))
theorem zML {a b:Int} {t:P3} {v:Int} (h:z8 (phT a b t) v): ∃ w,z8 t w/\ph a b w=v:=by
 rcases h with e|e|e
 ·exact ⟨_,.inl rfl,e⟩
 ·exact ⟨_,.inr (.inl rfl),e⟩
 ·exact ⟨_,.inr (.inr rfl),e⟩
theorem z1v {a b:Int} {t:P3} {p q:Int} (h:dE (phT a b t) p q): ∃ p0 q0,dE t p0 q0/\ph a b p0=p/\ph a b q0=q:=by
 rcases h with ⟨e1,e2⟩|⟨e1,e2⟩|⟨e1,e2⟩
 ·exact ⟨_,_,.inl ⟨rfl,rfl⟩,e1,e2⟩
 ·exact ⟨_,_,.inr (.inl ⟨rfl,rfl⟩),e1,e2⟩
 ·exact ⟨_,_,.inr (.inr ⟨rfl,rfl⟩),e1,e2⟩
theorem z2m (a b:Int):ph a b a=b:=if_pos rfl
theorem zLT {a b v:Int} (h:v≠a):ph a b v=v:=if_neg h
theorem zXf {a b v w:Int} (h:ph a b v=ph a b w):v=w\/(v=a/\w=b)\/(v=b/\w=a):=by
 unfold ph at h;split at h<;>split at h<;>omega
theorem zLG {a b:Int} {u:P3} :(!both a b u)=true↔¬ (z8 u a/\z8 u b):=by
 unfold both;rw [Bool.not_eq_true',yM]
theorem zA9 {a b:Int} {l:List P3} {t:P3} :t∈zIZ a b l↔∃ u∈l,¬ (z8 u a/\z8 u b)/\phT a b u=t:=by
 unfold zIZ both;rw [yC];constructor
 ·rintro ⟨u,hu,e⟩;obtain ⟨h1,h2⟩:=List.mem_filter.1 hu;exact ⟨u,h1,zLG.1 h2,e⟩
 ·rintro ⟨u,h1,h2,e⟩;exact ⟨u,List.mem_filter.2 ⟨h1,zLG.2 h2⟩,e⟩
structure zT1 (l:List P3) (a b:Int):Prop where
 ne:a≠b
 near: ∃ t∈l,z8 t a/\z8 t b
 com: ∀ v,v≠a->v≠b->(∃ t∈l,z8 t a/\z8 t v)->(∃ u∈l,z8 u b/\z8 u v)->∃ t∈l,z8 t a/\z8 t b/\z8 t v
 lone: ∀ t∈l,z8 t a->z8 t b->∀ v,v≠a->v≠b->z8 t v->∃ u∈l,u≠t/\z8 u v/\(z8 u a\/z8 u b)
 tetra: ∀ p q,p≠q->p≠a->p≠b->q≠a->q≠b->(∃ t∈l,z8 t a/\z8 t p/\z8 t q)->(∃ t∈l,z8 t b/\z8 t p/\z8 t q)->(∃ t∈l,z8 t a/\z8 t b/\z8 t p)->(∃ t∈l,z8 t a/\z8 t b/\z8 t q)->False
 turn: ∀ t∈l,∀ u∈l,t≠u->z8 t a->z8 t b->z8 u a->z8 u b->∃ c,(c=a\/c=b)/\
  ∀ Q:P3->Prop,(∀ s∈l,∀ r∈l,z8 s c->z8 r c->(∃ w:Int,w≠a/\w≠b/\z8 s w/\z8 r w)->Q s->Q r)->Q t->Q u
section
variable {V:Int->Prop} {l:List P3} {a b:Int}
theorem zUr (h:jV V l) (f:zT1 l a b) {t u:P3} (ht:t∈l) (hu:u∈l) (hne:t≠u) (dt: ¬ (z8 t a/\z8 t b)) (du: ¬ (z8 u a/\z8 u b)) {p q:Int} (h1:dE (phT a b t) p q) (h2:dE (phT a b u) p q):False:=by
 obtain ⟨p0,q0,d0,ep0,eq0⟩:=z1v h1;obtain ⟨p1,q1,d1,ep1,eq1⟩:=z1v h2;have n0:=zNw (h.deg t ht) d0;have n1:=zNw (h.deg u hu) d1;have v0:=jN d0;have v1:=jN d1
 -- one end is drawn
 have key: ∀ {x y:P3},x∈l->y∈l->¬ (z8 x a/\z8 x b)->¬ (z8 y a/\z8 y b)->∀ r,r≠a->r≠b->((dE x a r/\dE y b r)\/(dE x r a/\dE y r b))->False:=fun {x y} hx hy dx dy r ra rb hh=>by
  have hxa:z8 x a/\z8 x r:=by rcases hh with k|k;exact jN k.1;exact (jN k.1).symm
  have hyb:z8 y b/\z8 y r:=by rcases hh with k|k;exact jN k.2;exact (jN k.2).symm
  obtain ⟨w,hw,wa,wb,wr⟩:=f.com r ra rb ⟨x,hx,hxa⟩ ⟨y,hy,hyb⟩;have hwx:w≠x:=fun e=>dx (by rw [<- e];exact ⟨wa,wb⟩);have hwy:w≠y:=fun e=>dy (by rw [<- e];exact ⟨wa,wb⟩);rcases z2B f.ne ra.symm rb.symm wa wb wr with ⟨o1,o2,o3⟩|⟨o1,o2,o3⟩
  ·rcases hh with k|k
   ·exact h.dif w hw y hy hwy _ _ o2 k.2
   ·exact h.dif w hw x hx hwx _ _ o3 k.1
  ·rcases hh with k|k
   ·exact h.dif w hw x hx hwx _ _ o2 k.1
   ·exact h.dif w hw y hy hwy _ _ o3 k.2
 have nab: ∀ {x:P3} {v w:Int},¬ (z8 x a/\z8 x b)->z8 x v->z8 x w->v≠w->(v=a\/v=b)->w≠a/\w≠b:=fun {x v w} dx hv hw hvw e=>by
  refine ⟨fun ew=> ?_,fun ew=> ?_⟩
  ·rcases e with e|e
   ·exact hvw (e.trans ew.symm)
   ·exact dx ⟨by rw [<- ew];exact hw,by rw [<- e];exact hv⟩
  ·rcases e with e|e
   ·exact dx ⟨by rw [<- e];exact hv,by rw [<- ew];exact hw⟩
   ·exact hvw (e.trans ew.symm)
 rcases zXf (ep0.trans ep1.symm) with e|⟨e1,e2⟩|⟨e1,e2⟩
 ·rcases zXf (eq0.trans eq1.symm) with e'|⟨e1,e2⟩|⟨e1,e2⟩
  ·subst e;subst e';exact h.dif t ht u hu hne _ _ d0 d1
  ·subst e;subst e1;subst e2;have:=nab dt v0.2 v0.1 n0.symm (.inl rfl);exact key ht hu dt du p0 this.1 this.2 (.inr ⟨d0,d1⟩)
  ·subst e;subst e1;subst e2;have:=nab dt v0.2 v0.1 n0.symm (.inr rfl);exact key hu ht du dt p0 this.1 this.2 (.inr ⟨d1,d0⟩)
 ·subst e1;subst e2;have k:=nab dt v0.1 v0.2 n0 (.inl rfl);have k2:=nab du v1.1 v1.2 n1 (.inr rfl)
  have e':q0=q1:=by
   rcases zXf (eq0.trans eq1.symm) with e'|⟨e1,e2⟩|⟨e1,e2⟩
   ·exact e'
   ·exact absurd e1 k.1
   ·exact absurd e1 k.2
  subst e';exact key ht hu dt du q0 k.1 k.2 (.inl ⟨d0,d1⟩)
 ·subst e1;subst e2;have k:=nab dt v0.1 v0.2 n0 (.inr rfl)
  have e':q0=q1:=by
   rcases zXf (eq0.trans eq1.symm) with e'|⟨e1,e2⟩|⟨e1,e2⟩
   ·exact e'
   ·exact absurd e1 k.1
   ·exact absurd e1 k.2
  subst e';exact key hu ht du dt q0 k.1 k.2 (.inl ⟨d1,d0⟩)
theorem zUT (h:jV V l) (f:zT1 l a b) {t:P3} (ht:t∈l) (dt: ¬ (z8 t a/\z8 t b)): ¬ dgn (phT a b t):=by
 have hd:=h.deg t ht
 have key: ∀ {v w:Int},z8 t v->z8 t w->v≠w->ph a b v≠ph a b w:=fun {v w} hv hw hvw e=>by
  rcases zXf e with e|⟨e1,e2⟩|⟨e1,e2⟩
  ·exact hvw e
  ·exact dt ⟨by rw [<- e1];exact hv,by rw [<- e2];exact hw⟩
  ·exact dt ⟨by rw [<- e2];exact hw,by rw [<- e1];exact hv⟩
 rintro (e|e|e)
 ·exact key (.inl rfl) (.inr (.inl rfl)) (fun k=>hd (.inl k)) e
 ·exact key (.inr (.inl rfl)) (.inr (.inr rfl)) (fun k=>hd (.inr (.inl k))) e
 ·exact key (.inr (.inr rfl)) (.inl rfl) (fun k=>hd (.inr (.inr k))) e
theorem zJk (f:zT1 l a b) {t:P3} :z8 (phT a b t) b↔z8 t a\/z8 t b:=by
 constructor
 ·intro h;obtain ⟨w,hw,e⟩:=zML h
  by_cases ea:w=a
  ·exact .inl (by rw [<- ea];exact hw)
  ·rw [zLT ea] at e;exact .inr (by rw [<- e];exact hw)
 ·rintro (h|h)
  ·have:=zIz (a:=a) (b:=b) h;rwa [z2m] at this
  ·have:=zIz (a:=a) (b:=b) h;rwa [zLT f.ne.symm] at this
theorem zCp {t:P3} {v:Int} (h1:v≠a) (h2:v≠b):z8 (phT a b t) v↔z8 t v:=by
 constructor
 ·intro h;obtain ⟨w,hw,e⟩:=zML h
  by_cases ea:w=a
  ·rw [ea,z2m] at e;exact absurd e.symm h2
  ·rw [zLT ea] at e;rw [<- e];exact hw
 ·intro h;have:=zIz (a:=a) (b:=b) h;rwa [zLT h1] at this
theorem z5t (f:zT1 l a b) {t:P3} : ¬ z8 (phT a b t) a:=fun h=>by
 obtain ⟨w,hw,e⟩:=zML h
 by_cases ea:w=a
 ·rw [ea,z2m] at e;exact f.ne e.symm
 ·rw [zLT ea] at e;exact ea e
theorem zTa (h:jV V l) (f:zT1 l a b) {t:P3} (ht:t∈l) (ha:z8 t a) (hb:z8 t b) {v:Int} (va:v≠a) (vb:v≠b) (hv:z8 t v): ∃ u∈l,¬ (z8 u a/\z8 u b)/\z8 u v/\(z8 u a\/z8 u b):=by
 obtain ⟨u,hu,hne,k1,k2⟩:=f.lone t ht ha hb v va vb hv;refine ⟨u,hu,fun hab=>hne ?_,k1,k2⟩;exact h.same hu ht f.ne va.symm vb.symm hab.1 hab.2 k1 ha hb hv
theorem z4y (h:jV V l) (f:zT1 l a b) {v:Int} (hV:V v) (va:v≠a) (vb:v≠b):z8I (zIZ a b l) v:=by
 intro Q hQ t' ht' hv' hq u' hu' hw';obtain ⟨t,ht,dt,rfl⟩:=zA9.1 ht';obtain ⟨u,hu,du,rfl⟩:=zA9.1 hu';rw [zCp va vb] at hv' hw'
 let H:P3->Prop:=fun s=>(¬ (z8 s a/\z8 s b)/\Q (phT a b s))\/((z8 s a/\z8 s b)/\∃ r∈l,¬ (z8 r a/\z8 r b)/\z8 r v/\(z8 r a\/z8 r b)/\Q (phT a b r))
 have inn: ∀ {s:P3},s∈l->¬ (z8 s a/\z8 s b)->phT a b s∈zIZ a b l:=fun hs ds=>zA9.2 ⟨_,hs,ds,rfl⟩
 have toQ: ∀ {s r:P3},s∈l->r∈l->¬ (z8 s a/\z8 s b)->¬ (z8 r a/\z8 r b)->z8 s v->z8 r v->(∃ w,w≠v/\z8 (phT a b s) w/\z8 (phT a b r) w)->Q (phT a b s)->Q (phT a b r):=fun {s r} hs hr ds dr sv rv hh =>
  hQ _ (inn hs ds) _ (inn hr dr) ((zCp va vb).2 sv) ((zCp va vb).2 rv) hh
 have hH : H u:=by
  refine h.pin v hV H (fun s hs r hr sv rv ⟨w,wv,sw,rw'⟩ k=> ?_) t ht hv' (.inl ⟨dt,hq⟩) u hu hw'
  by_cases ds:z8 s a/\z8 s b
  ·-- s goes
   have k: ∃ r∈l,¬ (z8 r a/\z8 r b)/\z8 r v/\(z8 r a\/z8 r b)/\Q (phT a b r):=by
    rcases k with k|k
    ·exact absurd ds k.1
    ·exact k.2
   by_cases dr:z8 r a/\z8 r b
   ·exact .inr ⟨dr,k⟩
   ·obtain ⟨r0,h0,d0,v0,e0,q0⟩:=k
    have hwab:w=a\/w=b:=by
     obtain ⟨z,z1,z2,z3,z4⟩:=zH6 (h.deg s hs) f.ne ds.1 ds.2
     have ev:v=z:=by
      rcases z4 v sv with e|e|e
      ·exact absurd e va
      ·exact absurd e vb
      ·exact e
     rcases z4 w sw with e|e|e
     ·exact .inl e
     ·exact .inr e
     ·exact absurd (e.trans ev.symm) wv
    refine .inl ⟨dr,toQ h0 hr d0 dr v0 rv ⟨b,vb.symm,(zJk f).2 e0,(zJk f).2 ?_⟩ q0⟩;rcases hwab with e|e
    ·exact .inl (by rw [<- e];exact rw')
    ·exact .inr (by rw [<- e];exact rw')
  ·have k:Q (phT a b s):=by
    rcases k with k|k
    ·exact k.2
    ·exact absurd k.1 ds
   by_cases dr:z8 r a/\z8 r b
   ·refine .inr ⟨dr,s,hs,ds,sv,?_,k⟩;obtain ⟨z,z1,z2,z3,z4⟩:=zH6 (h.deg r hr) f.ne dr.1 dr.2
    have ev:v=z:=by
     rcases z4 v rv with e|e|e
     ·exact absurd e va
     ·exact absurd e vb
     ·exact e
    rcases z4 w rw' with e|e|e
    ·exact .inl (by rw [<- e];exact sw)
    ·exact .inr (by rw [<- e];exact sw)
    ·exact absurd (e.trans ev.symm) wv
   ·refine .inl ⟨dr,toQ hs hr ds dr sv rv ⟨ph a b w,fun e=> ?_,zIz sw,zIz rw'⟩ k⟩
    by_cases ew:w=a
    ·rw [ew,z2m] at e;exact vb e.symm
    ·rw [zLT ew] at e;exact wv e
 rcases hH with k|k
 ·exact k.2
 ·exact absurd k.1 du
theorem zWP (h:jV V l) (f:zT1 l a b) (hVa:V a) (hVb:V b):z8I (zIZ a b l) b:=by
 intro Q hQ t' ht' hv' hq u' hu' hw';obtain ⟨t,ht,dt,rfl⟩:=zA9.1 ht';obtain ⟨u,hu,du,rfl⟩:=zA9.1 hu';rw [zJk f] at hv' hw';have inn: ∀ {s:P3},s∈l->¬ (z8 s a/\z8 s b)->phT a b s∈zIZ a b l:=fun hs ds=>zA9.2 ⟨_,hs,ds,rfl⟩
 let S:Int->Prop:=fun p=> ∃ r∈l,¬ (z8 r a/\z8 r b)/\(z8 r a\/z8 r b)/\z8 r p/\Q (phT a b r)
 have toQ: ∀ {s r:P3} {w:Int},s∈l->r∈l->¬ (z8 s a/\z8 s b)->¬ (z8 r a/\z8 r b)->(z8 s a\/z8 s b)->(z8 r a\/z8 r b)->w≠a->w≠b->z8 s w->z8 r w->Q (phT a b s)->Q (phT a b r):=fun {s r w} hs hr ds dr sv rv wa wb sw rw' =>
  hQ _ (inn hs ds) _ (inn hr dr) ((zJk f).2 sv) ((zJk f).2 rv) ⟨w,wb,(zCp wa wb).2 sw,(zCp wa wb).2 rw'⟩
 let H:P3->Prop:=fun s=>(¬ (z8 s a/\z8 s b)/\Q (phT a b s))\/((z8 s a/\z8 s b)/\∃ p,p≠a/\p≠b/\z8 s p/\S p)
 -- through what isn't the edge itself
 have thr: ∀ c,(c=a\/c=b)->∀ s∈l,∀ r∈l,z8 s c->z8 r c->(∃ w:Int,w≠a/\w≠b/\z8 s w/\z8 r w)->H s->H r:=by
  rintro c hc s hs r hr sc rc ⟨w,wa,wb,sw,rw'⟩ k
  have ab: ∀ {x:P3},z8 x c->z8 x a\/z8 x b:=fun hx=>by
   rcases hc with e|e
   ·exact .inl (by rw [<- e];exact hx)
   ·exact .inr (by rw [<- e];exact hx)
  by_cases ds:z8 s a/\z8 s b
  ·have k:S w:=by
    rcases k with k|⟨_,p,pa,pb,sp,k⟩
    ·exact absurd ds k.1
    ·obtain ⟨z,z1,z2,z3,z4⟩:=zH6 (h.deg s hs) f.ne ds.1 ds.2;have e1:w=z:=by rcases z4 w sw with e|e|e;exact absurd e wa;exact absurd e wb;exact e
     have e2:p=z:=by rcases z4 p sp with e|e|e;exact absurd e pa;exact absurd e pb;exact e
     rw [e1,<- e2];exact k
   by_cases dr:z8 r a/\z8 r b
   ·exact .inr ⟨dr,w,wa,wb,rw',k⟩
   ·obtain ⟨r0,h0,d0,e0,w0,q0⟩:=k;exact .inl ⟨dr,toQ h0 hr d0 dr e0 (ab rc) wa wb w0 rw' q0⟩
  ·have k:Q (phT a b s):=by
    rcases k with k|k
    ·exact k.2
    ·exact absurd k.1 ds
   by_cases dr:z8 r a/\z8 r b
   ·exact .inr ⟨dr,w,wa,wb,rw',s,hs,ds,ab sc,sw,k⟩
   ·exact .inl ⟨dr,toQ hs hr ds dr (ab sc) (ab rc) wa wb sw rw' k⟩
 have drop: ∀ s∈l,∀ r∈l,(z8 s a/\z8 s b)->(z8 r a/\z8 r b)->H s->H r:=fun s hs r hr ds dr k=>by
  by_cases e:s=r
  ·rw [<- e];exact k
  ·obtain ⟨c,hc,hh⟩:=f.turn s hs r hr e ds.1 ds.2 dr.1 dr.2;exact hh H (thr c hc) k
 have all: ∀ c,(c=a\/c=b)->∀ s∈l,z8 s c->H s->∀ r∈l,z8 r c->H r:=fun c hc=>by
  refine h.pin c (by rcases hc with e|e<;>(rw [e];assumption)) H fun s hs r hr sc rc ⟨w,wc,sw,rw'⟩ k=> ?_
  by_cases wab:w=a\/w=b
  ·have two: ∀ {x:P3},z8 x c->z8 x w->z8 x a/\z8 x b:=fun {x} h1 h2=>by
    rcases hc with e|e<;>rcases wab with e'|e'
    ·exact absurd (e'.trans e.symm) wc
    ·exact ⟨by rw [<- e];exact h1,by rw [<- e'];exact h2⟩
    ·exact ⟨by rw [<- e'];exact h2,by rw [<- e];exact h1⟩
    ·exact absurd (e'.trans e.symm) wc
   exact drop s hs r hr (two sc sw) (two rc rw') k
  ·exact thr c hc s hs r hr sc rc ⟨w,fun e=>wab (.inl e),fun e=>wab (.inr e),sw,rw'⟩ k
 obtain ⟨t0,h0,a0,b0⟩:=f.near;have k0:H t:= .inl ⟨dt,hq⟩
 have kt0:H t0:=by
  rcases hv' with e|e
  ·exact all a (.inl rfl) t ht e k0 t0 h0 a0
  ·exact all b (.inr rfl) t ht e k0 t0 h0 b0
 have ku:H u:=by
  rcases hw' with e|e
  ·exact all a (.inl rfl) t0 h0 a0 kt0 u hu e
  ·exact all b (.inr rfl) t0 h0 b0 kt0 u hu e
 rcases ku with k|k
 ·exact k.2
 ·exact absurd k.1 du
theorem zHx (h:jV V l) (f:zT1 l a b) (hVa:V a) (hVb:V b):jV (fun v=>V v/\v≠a) (zIZ a b l):=by
 refine ⟨?_,fun t' ht' v hv=> ?_,fun t' ht'=> ?_,fun t' ht' u' hu' hne p q h1 h2=> ?_,fun t' ht' u' hu' hne hh=> ?_,fun v hv=> ?_,fun v hv=> ?_⟩
 ·unfold zIZ;refine List.Pairwise.map _ (fun t u hh=> ?_) ((h.nd.sublist List.filter_sublist).imp_of_mem (S:=fun t u=>t≠u/\(t∈l/\¬ (z8 t a/\z8 t b))/\u∈l/\¬ (z8 u a/\z8 u b)) fun ht hu hn=> ?_)
  ·obtain ⟨hn,⟨ht,dt⟩,hu,du⟩:=hh;intro e;obtain ⟨w,hw⟩:=zRY (t:=phT a b t) (.inl rfl);exact zUr h f ht hu hn dt du hw (by rw [<- e];exact hw)
  ·obtain ⟨t1,t2⟩:=List.mem_filter.1 ht;obtain ⟨u1,u2⟩:=List.mem_filter.1 hu;exact ⟨hn,⟨t1,zLG.1 t2⟩,u1,zLG.1 u2⟩
 ·obtain ⟨t,ht,dt,rfl⟩:=zA9.1 ht';have va:v≠a:=fun e=>by rw [e] at hv;exact z5t f hv
  refine ⟨?_,va⟩
  by_cases vb:v=b
  ·rw [vb];exact hVb
  ·exact h.ent t ht v ((zCp va vb).1 hv)
 ·obtain ⟨t,ht,dt,rfl⟩:=zA9.1 ht';exact zUT h f ht dt
 ·obtain ⟨t,ht,dt,rfl⟩:=zA9.1 ht';obtain ⟨u,hu,du,rfl⟩:=zA9.1 hu';exact zUr h f ht hu (fun e=>hne (by rw [e])) dt du h1 h2
 ·obtain ⟨t,ht,dt,rfl⟩:=zA9.1 ht';obtain ⟨u,hu,du,rfl⟩:=zA9.1 hu';have htu:t≠u:=fun e=>hne (by rw [e]);have hdt:=zUT h f ht dt
  have all: ∀ w,z8 (phT a b t) w->z8 (phT a b u) w:=fun w hw=>by
   rcases hw with e|e|e<;>rw [<- e]
   ·exact hh.1
   ·exact hh.2.1
   ·exact hh.2.2
  by_cases hb:z8 (phT a b t) b
  ·-- x, p, q
   obtain ⟨w0,hw0⟩:=zRY hb;have wv:=jN hw0;have wne:=zNw hdt hw0;obtain ⟨q,q1,q2,q3,_⟩:=zH6 hdt wne hb wv.2;have w0a:w0≠a:=fun e=>by have k:=wv.2;rw [e] at k;exact z5t f k
   have qa:q≠a:=fun e=>by rw [e] at q3;exact z5t f q3
   have tp:=(zCp (a:=a) (b:=b) w0a wne.symm).1 wv.2;have tq:=(zCp (a:=a) (b:=b) qa q1).1 q3;have up:=(zCp (a:=a) (b:=b) w0a wne.symm).1 (all _ wv.2);have uq:=(zCp (a:=a) (b:=b) qa q1).1 (all _ q3);have tx:=(zJk f).1 hb;have ux:=(zJk f).1 (all _ hb)
   have fin: ∀ {x y:P3},x∈l->y∈l->z8 x a->z8 y b->z8 x w0->z8 x q->z8 y w0->z8 y q->False:=fun {x y} hx hy xa yb xp xq yp yq =>
    f.tetra w0 q q2.symm w0a wne.symm qa q1 ⟨x,hx,xa,xp,xq⟩ ⟨y,hy,yb,yp,yq⟩ (f.com w0 w0a wne.symm ⟨x,hx,xa,xp⟩ ⟨y,hy,yb,yp⟩) (f.com q qa q1 ⟨x,hx,xa,xq⟩ ⟨y,hy,yb,yq⟩)
   rcases tx with e|e<;>rcases ux with e'|e'
   ·exact htu (h.same ht hu w0a.symm qa.symm q2.symm e tp tq e' up uq)
   ·exact fin ht hu e e' tp tq up uq
   ·exact fin hu ht e' e up uq tp tq
   ·exact htu (h.same ht hu wne q1.symm q2.symm e tp tq e' up uq)
  ·have nb: ∀ w,z8 t w->w≠a/\w≠b:=fun w hw=>⟨fun e=>hb ((zJk f).2 (.inl (by rw [<- e];exact hw))),fun e=>hb ((zJk f).2 (.inr (by rw [<- e];exact hw)))⟩
   have key: ∀ w,z8 t w->z8 u w:=fun w hw=>by
    obtain ⟨wa,wb⟩:=nb w hw;exact (zCp wa wb).1 (all w ((zCp wa wb).2 hw))
   exact h.mir t ht u hu htu ⟨key _ (.inl rfl),key _ (.inr (.inl rfl)),key _ (.inr (.inr rfl))⟩
 ·obtain ⟨hV,va⟩:=hv
  by_cases vb:v=b
  ·subst vb;obtain ⟨t0,h0,a0,b0⟩:=f.near;obtain ⟨z,z1,z2,z3,_⟩:=zH6 (h.deg t0 h0) f.ne a0 b0;obtain ⟨u,hu,du,_,k⟩:=zTa h f h0 a0 b0 z1 z2 z3;exact ⟨_,zA9.2 ⟨u,hu,du,rfl⟩,(zJk f).2 k⟩
  ·obtain ⟨t,ht,tv⟩:=h.use v hV
   by_cases dt:z8 t a/\z8 t b
   ·obtain ⟨u,hu,du,uv,_⟩:=zTa h f ht dt.1 dt.2 va vb tv;exact ⟨_,zA9.2 ⟨u,hu,du,rfl⟩,(zCp va vb).2 uv⟩
   ·exact ⟨_,zA9.2 ⟨t,ht,dt,rfl⟩,(zCp va vb).2 tv⟩
 ·obtain ⟨hV,va⟩:=hv
  by_cases vb:v=b
  ·subst vb;exact zWP h f hVa hVb
  ·exact z4y h f hV va vb
end
end S1
open Go Go.Vm Go.Proofs
namespace S1
inductive zJ5 (A:Nat->Nat->Prop):Nat->Nat->Prop
 | refl (t:Nat):zJ5 A t t
 | step {t u w:Nat} :zJ5 A t u->A u w->zJ5 A t w
theorem zJ5.trans {A:Nat->Nat->Prop} {t u w:Nat} (h:zJ5 A t u) (k:zJ5 A u w):zJ5 A t w:=by
 induction k with
 | refl=>exact h
 | step _ a ih=>exact .step ih a
theorem zJ5.symm {A:Nat->Nat->Prop} (hs: ∀ t u,A t u->A u t) {t u:Nat} (h:zJ5 A t u):zJ5 A u t:=by
 induction h with
 | refl=>exact .refl _
 | step _ a ih=>exact zJ5.trans (.step (.refl _) (hs _ _ a)) ih
theorem zJ5.mono {A B:Nat->Nat->Prop} (h: ∀ t u,A t u->B t u) {t u:Nat} (k:zJ5 A t u):zJ5 B t u:=by
 induction k with
 | refl=>exact .refl _
 | step _ a ih=>exact .step ih (h _ _ a)
def Adj (x:yI.T) (i j:Nat):Prop:= ∃ c,j6 x c=true/\(c / 3).toNat=i/\0<=zAI x c/\(zAI x c / 3).toNat=j
theorem Full.opp_opp {x:yI.T} (g:Full x) {c:Int} (h:0<=zAI x c):zAI x (zAI x c)=c:=by
 obtain ⟨h1,h2,h3⟩:=g.opp h;exact g.opp_is h1 (by rw [h3])
theorem Full.adj_symm {x:yI.T} (g:Full x) {i j:Nat} (h:Adj x i j):Adj x j i:=by
 obtain ⟨c,h1,h2,h3,h4⟩:=h;exact ⟨zAI x c,(g.opp h3).2.1,h4,by rw [g.opp_opp h3];exact (yH.1 h1).1,by rw [g.opp_opp h3];exact h2⟩
theorem zNu {x:yI.T} (g:Good x) {i j:Nat} (h:Adj x i j):i<x.1.2.length/\j<x.1.2.length:=by
 obtain ⟨c,h1,h2,h3,h4⟩:=h;exact ⟨by rw [<- h2];exact (zAw h1).1,by rw [<- h4];exact (zAw (g.opp h3).2.1).1⟩
abbrev lb (l:List Int) (t:Nat):Int:=l.getD t 0
theorem zHF {l:List Int} {i t:Nat} {k:Int} (hi:i<l.length):lb (l.set i k) t=if i=t then k else lb l t:=by
 unfold lb;rw [gdE,List.getElem?_set,gdE];split
 ·rfl
 ·rfl
structure Lab (x:yI.T) (out:List Int) (n:Int):Prop where
 len:out.length=x.1.2.length
 lt: ∀ t,t<x.1.2.length->lb out t<n
 clo: ∀ t u,Adj x t u->0<=lb out t->lb out u=lb out t
 con: ∀ t u,t<x.1.2.length->u<x.1.2.length->0<=lb out t->lb out t=lb out u->zJ5 (Adj x) t u
structure Bf (x:yI.T) (o0:List Int) (n:Int) (f:Nat) (s:OS):Prop where
 len:s.1.length=x.1.2.length
 old: ∀ t,t<x.1.2.length->lb s.1 t=lb o0 t\/(lb s.1 t=n/\lb o0 t<0)
 q: ∀ t,t<x.1.2.length->lb s.1 t=n->(t:Int)∈s.2
 qn: ∀ t∈s.2,0<=t/\t.toNat<x.1.2.length/\lb s.1 t.toNat=n
 con: ∀ t∈s.2,zJ5 (Adj x) f t.toNat
theorem z57 {x:yI.T} (g:Full x) {o0:List Int} {n:Int} {f:Nat} (hn:0<=n) (ho: ∀ t,t<x.1.2.length->lb o0 t<n) {j:Nat} {s:OS} (h:Bf x o0 n f s) (hj:j<s.2.length) (c:Nat) (hc:c<3) :
 Bf x o0 n f (ofC x n j s c)/\(ofC x n j s c).2.getD j 0=s.2.getD j 0/\(∀ t,t<x.1.2.length->0<=lb s.1 t->lb (ofC x n j s c).1 t=lb s.1 t)/\(s.2.length<=(ofC x n j s c).2.length)/\
 (0<=zAI x (3*s.2.getD j 0+c)->0<=lb (ofC x n j s c).1 (zAI x (3*s.2.getD j 0+c) / 3).toNat)/\(∀ i,i<s.2.length->(ofC x n j s c).2.getD i 0=s.2.getD i 0):=by
 unfold ofC;split
 ·rename_i hh;obtain ⟨h1,h2⟩:=hh;obtain ⟨k1,k2,_⟩:=g.opp h1;have hm:s.2.getD j 0∈s.2:=jB hj;obtain ⟨q1,q2,q3⟩:=h.qn _ hm;have hu:=zAw k2;have ho':=yH.1 k2;have hu1:=hu.1
  have happ: ∀ i,i<s.2.length->(s.2++[zAI x (3*s.2.getD j 0+c) / 3]).getD i 0=s.2.getD i 0:=fun i hi=>by
   rw [gdE,List.getElem?_append_left hi,<- gdE]
  have hadj:Adj x (s.2.getD j 0).toNat (zAI x (3*s.2.getD j 0+c) / 3).toNat:=⟨_,k1,by omega,h1,rfl⟩;refine ⟨⟨by show (s.1.set _ _).length=_;rw [List.length_set];exact h.len,fun t ht=> ?_,fun t ht e=> ?_,fun t ht=> ?_,fun t ht=> ?_⟩,happ j hj,fun t ht h0=> ?_,by show _<=(s.2++[_]).length;rw [zN];omega,fun _=> ?_,happ⟩
  ·show lb (s.1.set _ n) t=_\/(lb (s.1.set _ n) t=_/\_);rw [zHF (by rw [h.len];exact hu1)];split
   ·rename_i e;refine .inr ⟨rfl,?_⟩;rcases h.old t ht with e2|e2
    ·rw [<- e2,<- e];exact h2
    ·exact e2.2
   ·exact h.old t ht
  ·have e:lb (s.1.set (zAI x (3*s.2.getD j 0+c) / 3).toNat n) t=n:=e;show (t:Int)∈s.2++[_];rw [zHF (by rw [h.len];exact hu1)] at e;split at e
   ·rename_i e2;exact List.mem_append_right _ (zF.2 (by omega))
   ·exact List.mem_append_left _ (h.q t ht e)
  ·have ht:t∈s.2++[_]:=ht;show 0<=t/\t.toNat<_/\lb (s.1.set _ n) t.toNat=n;rw [zHF (by rw [h.len];exact hu1)];rcases yD.1 ht with ht|ht
   ·obtain ⟨a,b,d⟩:=h.qn t ht;refine ⟨a,b,?_⟩;split
    ·rfl
    ·exact d
   ·rw [zF] at ht;refine ⟨by omega,by rw [ht];exact hu1,?_⟩;rw [if_pos (by rw [ht])]
  ·have ht:t∈s.2++[_]:=ht;rcases yD.1 ht with ht|ht
   ·exact h.con t ht
   ·rw [zF.1 ht];exact .step (h.con _ hm) hadj
  ·show lb (s.1.set _ n) t=_;rw [zHF (by rw [h.len];exact hu1),if_neg (fun e=>by rw [<- e] at h0;have:lb s.1 (zAI x (3*s.2.getD j 0+c) / 3).toNat<0:=h2;omega)]
  ·show 0<=lb (s.1.set _ n) _;rw [zHF (by rw [h.len];exact hu1),if_pos rfl];exact hn
 ·rename_i hh
  exact ⟨h,rfl,fun _ _ _=>rfl,zI _,fun h0=>by
   by_cases e:s.1.getD (zAI x (3*s.2.getD j 0+c) / 3).toNat 0<0
   ·exact absurd ⟨h0,e⟩ hh
   ·show 0<=s.1.getD _ 0;omega,fun _ _=>rfl⟩
def Seen (x:yI.T) (s:OS) (j:Nat):Prop:= ∀ i,i<j->∀ u,Adj x (s.2.getD i 0).toNat u->0<=lb s.1 u
theorem z9w {x:yI.T} (g:Full x) {o0:List Int} {n:Int} {f:Nat} (hn:0<=n) (ho: ∀ t,t<x.1.2.length->lb o0 t<n) {j:Nat} {s:OS} (h:Bf x o0 n f s) (hj:j<s.2.length) (hs:Seen x s j) :
 Bf x o0 n f (ofJ x n s j)/\Seen x (ofJ x n s j) (j+1)/\s.2.length<=(ofJ x n s j).2.length:=by
 have key: ∀ c,c<=3->Bf x o0 n f (qA (ofC x n j) s c)/\(qA (ofC x n j) s c).2.getD j 0=s.2.getD j 0/\(∀ t,t<x.1.2.length->0<=lb s.1 t->0<=lb (qA (ofC x n j) s c).1 t)/\s.2.length<=(qA (ofC x n j) s c).2.length/\
  (∀ d:Nat,d<c->0<=zAI x (3*s.2.getD j 0+d)->0<=lb (qA (ofC x n j) s c).1 (zAI x (3*s.2.getD j 0+d) / 3).toNat)/\(∀ i,i<s.2.length->(qA (ofC x n j) s c).2.getD i 0=s.2.getD i 0):=by
  intro c
  induction c with
  | zero=>exact fun _=>⟨h,rfl,fun _ _ h=>h,zI _,fun d hd=>by omega,fun _ _=>rfl⟩
  | succ c ih =>
    intro hc;obtain ⟨i1,i2,i3,i4,i5,i6⟩:=ih (by omega);obtain ⟨b1,b2,b3,b4,b5,b6⟩:=z57 g hn ho (j:=j) i1 (Nat.lt_of_lt_of_le hj i4) c (by omega);rw [zVW];rw [i2] at b2 b5;refine ⟨b1,b2,fun t ht h0=> ?_,by omega,fun d hd h0=> ?_,fun i hi=>by rw [b6 i (by omega),i6 i hi]⟩
    ·have:=i3 t ht h0;rw [b3 t ht this];exact this
    ·have hlt:=(zAw (g.opp h0).2.1).1
     by_cases e:d=c
     ·subst e;exact b5 h0
     ·have:=i5 d (by omega) h0;rw [b3 _ hlt this];exact this
 obtain ⟨i1,i2,i3,i4,i5,i6⟩:=key 3 (zI _);unfold ofJ;refine ⟨i1,fun i hi u hu=> ?_,i4⟩;rw [i6 i (by omega)] at hu
 by_cases e:i=j
 ·subst e;obtain ⟨c,c1,c2,c3,c4⟩:=hu;have hq:=h.qn _ (jB hj);have hc:=yH.1 c1;have e:c=3*s.2.getD i 0+((c % 3).toNat:Nat):=by omega
  rw [<- c4,e];exact i5 (c % 3).toNat (by omega) (by rw [<- e];exact c3)
 ·exact i3 u (zNu g.toGood hu).2 (hs i (by omega) u hu)
theorem z2J {x:yI.T} (g:Full x) {o0:List Int} {n:Int} {f:Nat} (hn:0<=n) (ho: ∀ t,t<x.1.2.length->lb o0 t<n): ∀ (k j:Nat) {s:OS},Bf x o0 n f s->OOk x.1.2.length s->j<=s.2.length->Seen x s j->x.1.2.length<k+j->
 Bf x o0 n f (bfs x n k j s)/\Seen x (bfs x n k j s) (bfs x n k j s).2.length
 | 0,j,s,h,ok,hj,hs,hk=>by
   have:=ok.cnt;omega
 | k +1,j,s,h,ok,hj,hs,hk=>by
   unfold bfs;split
   ·rename_i hlt;obtain ⟨b1,b2,b3⟩:=z9w g hn ho h hlt hs;exact z2J g hn ho k (j+1) b1 (zVI g.toGood hn ok) (by omega) b2 (by omega)
   ·have e:s.2.length=j:=by omega
    exact ⟨h,by rw [e];exact hs⟩
theorem zZj {x:yI.T} (g:Full x) {out:List Int} {n:Int} (hn:0<=n) (h:Lab x out n) {i:Nat} (hi:i<x.1.2.length) (hl: ¬ lb out i>=0) :
 Lab x (bfs x n 10000 0 (out.set i n,[(i:Int)])).1 (n+1)/\lb (bfs x n 10000 0 (out.set i n,[(i:Int)])).1 i=n/\(∀ t,t<x.1.2.length->0<=lb out t->lb (bfs x n 10000 0 (out.set i n,[(i:Int)])).1 t=lb out t)/\
 ∀ t,t<x.1.2.length->lb (bfs x n 10000 0 (out.set i n,[(i:Int)])).1 t=lb out t\/(lb (bfs x n 10000 0 (out.set i n,[(i:Int)])).1 t=n/\lb out t<0):=by
 have hlen:x.1.2.length<=8192:=g.fit.2.2.1
 have h0:Bf x out n i (out.set i n,[(i:Int)]):=by
  refine ⟨by rw [List.length_set];exact h.len,fun t ht=> ?_,fun t ht e=> ?_,fun t ht=> ?_,fun t ht=> ?_⟩
  ·show lb (out.set i n) t=_\/(lb (out.set i n) t=n/\_);rw [zHF (by rw [h.len];exact hi)];split
   ·rename_i e;subst e;exact .inr ⟨rfl,by omega⟩
   ·exact .inl rfl
  ·have e:lb (out.set i n) t=n:=e;rw [zHF (by rw [h.len];exact hi)] at e;split at e
   ·rename_i e2;exact zF.2 (by omega)
   ·have:=h.lt t ht;omega
  ·rw [zF.1 ht];refine ⟨by omega,by omega,?_⟩;show lb (out.set i n) _=n;rw [zHF (by rw [h.len];exact hi),if_pos (by omega)]
  ·rw [zF.1 ht];exact .refl _
 obtain ⟨b,hs⟩:=z2J g hn h.lt 10000 0 h0 (zM4 hn h.len hi hl) (Nat.zero_le _) (fun i hi=>by omega) (by omega)
 have hin : (i:Int)∈(bfs x n 10000 0 (out.set i n,[(i:Int)])).2:=by
  have key: ∀ (k j:Nat) (s:OS),(i:Int)∈s.2->(i:Int)∈(bfs x n k j s).2:=fun k=>by
   induction k with
   | zero=>exact fun j s h=>(by unfold bfs;exact h)
   | succ k ih =>
     intro j s hm;unfold bfs;split
     ·refine ih _ _ ?_
      have: ∀ c,(i:Int)∈(qA (ofC x n j) s c).2:=fun c=>by
       induction c with
       | zero=>exact hm
       | succ c ih2 =>
         rw [zVW];generalize qA (ofC x n j) s c=S at ih2;unfold ofC;split
         ·exact List.mem_append_left _ ih2
         ·exact ih2
      unfold ofJ;exact this 3
     ·exact hm
  exact key _ _ _ (zF.2 rfl)
 generalize bfs x n 10000 0 (out.set i n,[(i:Int)])=s at *
 have hold: ∀ t,t<x.1.2.length->0<=lb out t->lb s.1 t=lb out t:=fun t ht h0=>by
  rcases b.old t ht with e|e
  ·exact e
  ·omega
 refine ⟨⟨b.len,fun t ht=> ?_,fun t u ha h0=> ?_,fun t u ht hu h0 e=> ?_⟩,(b.qn _ hin).2.2,hold,b.old⟩
 ·rcases b.old t ht with e|e
  ·rw [e];have:=h.lt t ht;omega
  ·rw [e.1];omega
 ·obtain ⟨ht,hu⟩:=zNu g.toGood ha;rcases b.old t ht with e|e
  ·rw [e] at h0 ⊢;have k:=h.clo t u ha h0;rw [hold u hu (by rw [k];exact h0)];exact k
  ·obtain ⟨idx,hidx,e2⟩:=yG.1 (b.q t ht e.1);have hsu:0<=lb s.1 u:=hs idx hidx u (by rw [gdE,gE hidx];show Adj x (s.2[idx]).toNat u;rw [e2];exact ha);rcases b.old u hu with k|k
   ·rw [k] at hsu;have:=h.clo u t (g.adj_symm ha) hsu;omega
   ·rw [k.1,e.1]
 ·rcases b.old t ht with k|k
  ·rw [k] at h0 e;rcases b.old u hu with k2|k2
   ·rw [k2] at e;exact h.con t u ht hu h0 e
   ·have:=h.lt t ht;omega
  ·rw [k.1] at e;have c1:=b.con _ (b.q t ht k.1);have c2:=b.con _ (b.q u hu e.symm);exact zJ5.trans (c1.symm fun _ _=>g.adj_symm) c2
theorem zYG {x:yI.T} (g:Full x): ∀ i,i<=x.1.2.length->Lab x (ofL x i).1 (ofL x i).2/\0<=(ofL x i).2/\∀ t,t<i->0<=lb (ofL x i).1 t
 | 0,_=>by
   have e: ∀ t,t<x.1.2.length->lb (ofL x 0).1 t= -1:=fun t ht=>by
    show (List.replicate x.1.2.length (-1:Int)).getD t 0= -1;rw [gdE,List.getElem?_replicate,if_pos ht];rfl
   refine ⟨⟨List.length_replicate,fun t ht=> ?_,fun t u ha h0=> ?_,fun t u ht hu h0=> ?_⟩,Int.le_refl 0,fun t ht=>by omega⟩
   ·rw [e t ht];show (-1:Int)<0;decide
   ·rw [e t (zNu g.toGood ha).1] at h0;omega
   ·rw [e t ht] at h0;omega
 | i + 1,hi=>by
   obtain ⟨h1,h2,h3⟩:=zYG g i (by omega);show Lab x (ofI x (ofL x i) i).1 (ofI x (ofL x i) i).2/\0<=(ofI x (ofL x i) i).2/\∀ t,t<i+1->0<=lb (ofI x (ofL x i) i).1 t;unfold ofI;split
   ·rename_i h;refine ⟨h1,h2,fun t ht=> ?_⟩
    by_cases e:t=i
    ·subst e;exact h
    ·exact h3 t (by omega)
   ·rename_i h;obtain ⟨k1,k2,k3,_⟩:=zZj g h2 h1 (by omega) h;refine ⟨k1,by show 0<=(ofL x i).2+1;omega,fun t ht=> ?_⟩
    by_cases e:t=i
    ·subst e;show 0<=lb (bfs x _ _ _ _).1 t;rw [k2];exact h2
    ·show 0<=lb (bfs x _ _ _ _).1 t;rw [k3 t (by omega) (h3 t (by omega))];exact h3 t (by omega)
theorem zGP {x:yI.T} (g:Full x) {t u:Nat} (ht:t<x.1.2.length) (hu:u<x.1.2.length):(ofR x).getD t 0=(ofR x).getD u 0↔zJ5 (Adj x) t u:=by
 obtain ⟨h1,h2,h3⟩:=zYG g x.1.2.length (zI _);constructor
 ·exact fun e=>h1.con t u ht hu (h3 t ht) e
 ·intro h;clear hu
  induction h with
  | refl=>rfl
  | step _ a ih =>
    have hb:=(zNu g.toGood a).1;rw [ih];exact (h1.clo _ _ a (h3 _ hb)).symm
end S1
open Go Go.Vm Go.Proofs
namespace S1
theorem zDg {l:List P3} (hn:l.Nodup) {i j:Nat} (hi:i<l.length) (hj:j<l.length) (e:tg l i=tg l j):i=j:=by
 unfold tg at e;rw [gdE,gdE,gE hi,gE hj] at e;have e:l[i]=l[j]:=e;have key: ∀ p q (hp:p<l.length) (hq:q<l.length),p<q->l[p]≠l[q]:=fun p q hp hq h=>List.pairwise_iff_getElem.1 hn p q hp hq h;rcases Nat.lt_trichotomy i j with h|h|h
 ·exact absurd e (key i j hi hj h)
 ·exact h
 ·exact absurd e.symm (key j i hj hi h)
theorem zLX {l:List P3} (hn:l.Nodup) {v:Int} :z6C l v↔z8I l v:=by
 constructor
 ·intro h Q hQ t ht tv hq u hu uv;obtain ⟨i,hi,ei⟩:=zAO ht;obtain ⟨j,hj,ej⟩:=zAO hu;have:=h (fun k=>Q (tg l k)) (fun p q hp hq pv qv hw k=>hQ _ (qI hp) _ (qI hq) pv qv hw k) i hi (by rw [ei];exact tv) (by show Q (tg l i);rw [ei];exact hq) j hj (by rw [ej];exact uv);have this:Q (tg l j):=this;rw [ej] at this;exact this
 ·intro h Q hQ i hi iv hq j hj jv
  obtain ⟨k,hk,ek,qk⟩:=h (fun t=> ∃ i,i<l.length/\tg l i=t/\Q i) (fun t ht u hu tv uv hw ⟨p,hp,ep,qp⟩=>by
   obtain ⟨q,hq,eq⟩:=zAO hu;refine ⟨q,hq,eq,hQ p q hp hq (by show z8 (tg l p) v;rw [ep];exact tv) (by show z8 (tg l q) v;rw [eq];exact uv) ?_ qp⟩;obtain ⟨w,w1,w2,w3⟩:=hw
   exact ⟨w,w1,by show z8 (tg l p) w;rw [ep];exact w2,by show z8 (tg l q) w;rw [eq];exact w3⟩) _ (qI hi) iv ⟨i,hi,rfl,hq⟩ _ (qI hj) jv
  rw [<- zDg hn hk hj ek];exact qk
abbrev InN (n:Int):Int->Prop:=fun v=>0<=v/\v<n
theorem zAc {s:Int×List P3} (h:zBK s):jV (InN s.1) s.2:=by
 have hn:s.2.Nodup:=by
  refine List.pairwise_iff_getElem.2 fun i j hi hj hij e=> ?_;obtain ⟨w,hw⟩:=zRY (t:=tg s.2 i) (.inl rfl);refine h.dif i j hij hj _ _ hw ?_
  have:tg s.2 i=tg s.2 j:=by
   unfold tg;rw [gdE,gdE,gE hi,gE hj];exact e
  rw [<- this];exact hw
 have two: ∀ t∈s.2,∀ u∈s.2,t≠u->∃ i j,i<s.2.length/\j<s.2.length/\i≠j/\tg s.2 i=t/\tg s.2 j=u:=fun t ht u hu hne=>by
  obtain ⟨i,hi,ei⟩:=zAO ht;obtain ⟨j,hj,ej⟩:=zAO hu;exact ⟨i,j,hi,hj,fun e=>hne (by rw [<- ei,<- ej,e]),ei,ej⟩
 refine ⟨hn,fun t ht v hv=> ?_,fun t ht=> ?_,fun t ht u hu hne a b h1 h2=> ?_,fun t ht u hu hne hh=> ?_,fun v hv=> ?_,fun v hv=> ?_⟩
 ·obtain ⟨i,hi,ei⟩:=zAO ht;exact zZG h.fit hi (by rw [ei];exact hv)
 ·obtain ⟨i,hi,ei⟩:=zAO ht;rw [<- ei];exact h.deg i hi
 ·obtain ⟨i,j,hi,hj,hij,ei,ej⟩:=two t ht u hu hne;rw [<- ei] at h1;rw [<- ej] at h2;rcases Nat.lt_or_gt_of_ne hij with k|k
  ·exact h.dif i j k hj a b h1 h2
  ·exact h.dif j i k hi a b h2 h1
 ·obtain ⟨i,j,hi,hj,hij,ei,ej⟩:=two t ht u hu hne;rcases Nat.lt_or_gt_of_ne hij with k|k
  ·rw [<- ei,<- ej] at hh;exact h.mir i j k hj hh
  ·-- the other way round: three vertices each
   have hd:=h.deg i hi;rw [ei] at hd;have hd2:=h.deg j hj;rw [ej] at hd2
   have key:z8 t u.1/\z8 t u.2.1/\z8 t u.2.2:=by
    obtain ⟨x,y,z⟩:=t;obtain ⟨p,q,r⟩:=u;unfold z8 at *;unfold dgn at *;simp only at *;omega
   rw [<- ei,<- ej] at key;exact h.mir j i k hi key
 ·obtain ⟨j,hj,hv2⟩:=h.use v.toNat (by rw [zAC hv.1];exact hv.2);rw [zAC hv.1] at hv2;exact ⟨_,qI hj,hv2⟩
 ·have:=h.pin v.toNat (by rw [zAC hv.1];exact hv.2);rw [zAC hv.1] at this;exact (zLX hn).1 this
theorem zZu {n:Int} {l:List P3} (h0:0<=n) (h1:n<=4096) (h2:l.length<=8192) (h:jV (InN n) l):zBK (n,l):=by
 refine ⟨⟨h0,h1,h2,fun i hi=> ?_⟩,fun i hi=>h.deg _ (qI hi),fun i j hij hj a b k1 k2=> ?_,fun i j hij hj hh=> ?_,fun v hv=> ?_,fun v hv=> ?_⟩
 ·have e1:=h.ent (tg l i) (qI hi) _ (.inl rfl);have e2:=h.ent (tg l i) (qI hi) _ (.inr (.inl rfl));have e3:=h.ent (tg l i) (qI hi) _ (.inr (.inr rfl));show zCm n (tg l i)=true;refine zG0 ?_;unfold InN at e1 e2 e3;omega
 ·have hj:j<l.length:=hj;exact h.dif _ (qI (show i<l.length by omega)) _ (qI hj) (fun e=>by have:=zDg h.nd (show i<l.length by omega) hj e;omega) a b k1 k2
 ·have hj:j<l.length:=hj;exact h.mir _ (qI (show i<l.length by omega)) _ (qI hj) (fun e=>by have:=zDg h.nd (show i<l.length by omega) hj e;omega) hh
 ·have hv:(v:Int)<n:=hv;obtain ⟨t,ht,tv⟩:=h.use v ⟨by omega,hv⟩;obtain ⟨j,hj,ej⟩:=zAO ht;exact ⟨j,hj,by show z8 (tg l j) v;rw [ej];exact tv⟩
 ·have hv:(v:Int)<n:=hv;exact (zLX h.nd).2 (h.pin v ⟨by omega,hv⟩)
def zDo (r:Int->Int) (t:P3):P3:=(r t.1,r t.2.1,r t.2.2)
theorem zAm {r:Int->Int} {t:P3} {u:Int} :z8 (zDo r t) u↔∃ v,z8 t v/\r v=u:=by
 constructor
 ·rintro (e|e|e)
  ·exact ⟨_,.inl rfl,e⟩
  ·exact ⟨_,.inr (.inl rfl),e⟩
  ·exact ⟨_,.inr (.inr rfl),e⟩
 ·rintro ⟨v,e|e|e,rfl⟩
  ·exact .inl (by rw [<- e];rfl)
  ·exact .inr (.inl (by rw [<- e];rfl))
  ·exact .inr (.inr (by rw [<- e];rfl))
theorem zX5 {r:Int->Int} {t:P3} {p q:Int} :dE (zDo r t) p q↔∃ p0 q0,dE t p0 q0/\r p0=p/\r q0=q:=by
 constructor
 ·rintro (⟨e1,e2⟩|⟨e1,e2⟩|⟨e1,e2⟩)
  ·exact ⟨_,_,.inl ⟨rfl,rfl⟩,e1,e2⟩
  ·exact ⟨_,_,.inr (.inl ⟨rfl,rfl⟩),e1,e2⟩
  ·exact ⟨_,_,.inr (.inr ⟨rfl,rfl⟩),e1,e2⟩
 ·rintro ⟨p0,q0,⟨e1,e2⟩|⟨e1,e2⟩|⟨e1,e2⟩,rfl,rfl⟩
  ·exact .inl ⟨by rw [<- e1];rfl,by rw [<- e2];rfl⟩
  ·exact .inr (.inl ⟨by rw [<- e1];rfl,by rw [<- e2];rfl⟩)
  ·exact .inr (.inr ⟨by rw [<- e1];rfl,by rw [<- e2];rfl⟩)
theorem zWi {V W:Int->Prop} {l:List P3} (h:jV V l) (r:Int->Int) (hr: ∀ v,V v->W (r v)) (hi: ∀ v w,V v->V w->r v=r w->v=w) (ho: ∀ u,W u->∃ v,V v/\r v=u):jV W (l.map (zDo r)):=by
 have inj: ∀ t∈l,∀ u∈l,zDo r t=zDo r u->t=u:=fun t ht u hu e=>by
  have e1:=congrArg Prod.fst e;have e2:=congrArg (fun p=>p.2.1) e;have e3:=congrArg (fun p=>p.2.2) e;exact Prod.ext (hi _ _ (h.ent t ht _ (.inl rfl)) (h.ent u hu _ (.inl rfl)) e1) (Prod.ext (hi _ _ (h.ent t ht _ (.inr (.inl rfl))) (h.ent u hu _ (.inr (.inl rfl))) e2) (hi _ _ (h.ent t ht _ (.inr (.inr rfl))) (h.ent u hu _ (.inr (.inr rfl))) e3))
 have back: ∀ {t:P3} {v:Int},t∈l->V v->(z8 (zDo r t) (r v)↔z8 t v):=fun {t v} ht hv=>by
  rw [zAm];exact ⟨fun ⟨w,hw,e⟩=>by rw [<- hi w v (h.ent t ht w hw) hv e];exact hw,fun k=>⟨v,k,rfl⟩⟩
 refine ⟨?_,fun t' ht' u hu=> ?_,fun t' ht'=> ?_,fun t' ht' u' hu' hne p q h1 h2=> ?_,fun t' ht' u' hu' hne hh=> ?_,fun u hu=> ?_,fun u hu=> ?_⟩
 ·exact List.Pairwise.map _ (fun t u hh e=>hh.1 (inj t hh.2.1 u hh.2.2 e)) (h.nd.imp_of_mem (S:=fun t u=>t≠u/\t∈l/\u∈l) fun ht hu hn=>⟨hn,ht,hu⟩)
 ·obtain ⟨t,ht,rfl⟩:=yC.1 ht';obtain ⟨v,hv,rfl⟩:=zAm.1 hu;exact hr v (h.ent t ht v hv)
 ·obtain ⟨t,ht,rfl⟩:=yC.1 ht';have hd:=h.deg t ht;rintro (e|e|e)
  ·exact hd (.inl (hi _ _ (h.ent t ht _ (.inl rfl)) (h.ent t ht _ (.inr (.inl rfl))) e))
  ·exact hd (.inr (.inl (hi _ _ (h.ent t ht _ (.inr (.inl rfl))) (h.ent t ht _ (.inr (.inr rfl))) e)))
  ·exact hd (.inr (.inr (hi _ _ (h.ent t ht _ (.inr (.inr rfl))) (h.ent t ht _ (.inl rfl)) e)))
 ·obtain ⟨t,ht,rfl⟩:=yC.1 ht';obtain ⟨u,hu,rfl⟩:=yC.1 hu';obtain ⟨p0,q0,d0,e1,e2⟩:=zX5.1 h1;obtain ⟨p1,q1,d1,e3,e4⟩:=zX5.1 h2;have k1:=hi _ _ (h.ent t ht _ (jN d0).1) (h.ent u hu _ (jN d1).1) (e1.trans e3.symm);have k2:=hi _ _ (h.ent t ht _ (jN d0).2) (h.ent u hu _ (jN d1).2) (e2.trans e4.symm);rw [<- k1,<- k2] at d1;exact h.dif t ht u hu (fun e=>hne (by rw [e])) _ _ d0 d1
 ·obtain ⟨t,ht,rfl⟩:=yC.1 ht';obtain ⟨u,hu,rfl⟩:=yC.1 hu';exact h.mir t ht u hu (fun e=>hne (by rw [e])) ⟨(back hu (h.ent t ht _ (.inl rfl))).1 hh.1,(back hu (h.ent t ht _ (.inr (.inl rfl)))).1 hh.2.1,(back hu (h.ent t ht _ (.inr (.inr rfl)))).1 hh.2.2⟩
 ·obtain ⟨v,hv,rfl⟩:=ho u hu;obtain ⟨t,ht,tv⟩:=h.use v hv;exact ⟨_,yC.2 ⟨t,ht,rfl⟩,(back ht hv).2 tv⟩
 ·obtain ⟨v,hv,rfl⟩:=ho u hu;intro Q hQ t' ht' tv' hq u' hu' uv';obtain ⟨t,ht,rfl⟩:=yC.1 ht';obtain ⟨u,hu,rfl⟩:=yC.1 hu';refine h.pin v hv (fun s=>Q (zDo r s)) (fun s hs q hq2 sv qv ⟨w,wv,sw,qw⟩ k=> ?_) t ht ((back ht hv).1 tv') hq u hu ((back hu hv).1 uv');exact hQ _ (yC.2 ⟨s,hs,rfl⟩) _ (yC.2 ⟨q,hq2,rfl⟩) ((back hs hv).2 sv) ((back hq2 hv).2 qv) ⟨r w,fun e=>wv (hi _ _ (h.ent s hs w sw) hv e),zAm.2 ⟨w,sw,rfl⟩,zAm.2 ⟨w,qw,rfl⟩⟩ k
def dn (a v:Int):Int:=if v>a then v - 1 else v
theorem z7S {n a:Int} (ha:0<=a/\a<n) {l:List P3} (h:jV (fun v=>InN n v/\v≠a) l):jV (InN (n - 1)) (l.map (zDo (dn a))):=by
 refine zWi h (dn a) (fun v hv=> ?_) (fun v w hv hw e=> ?_) fun u hu=> ?_
 ·obtain ⟨hv,hne⟩:=hv;unfold InN at *;unfold dn;split<;>omega
 ·have h1:=hv.2;have h2:=hw.2;unfold dn at e;split at e<;>split at e<;>omega
 ·unfold InN at hu
  by_cases k:u>=a
  ·exact ⟨u+1,⟨⟨by omega,by omega⟩,by omega⟩,by unfold dn;rw [if_pos (by omega)];omega⟩
  ·exact ⟨u,⟨⟨by omega,by omega⟩,by omega⟩,by unfold dn;rw [if_neg (by omega)]⟩
end S1
open Go Go.Vm Go.Proofs
namespace S1
theorem zQW {x:yI.T} {a b:Int} (h:zDV x a b=0):zAQ x a b=true/\¬ ((zDf x a b).length=2/\zAY x a=false/\zAY x b=false)/\zB2 x a=false:=by
 unfold zDV at h;split at h
 ·cases h
 ·rename_i h1;split at h
  ·cases h
  ·rename_i h2;split at h
   ·cases h
   ·split at h
    ·cases h
    ·rename_i h4;exact ⟨by simpa using h1,h2,by simpa using h4⟩
theorem zCk {x:yI.T} (g:Full x) {a b:Int} :qJ x (a,b)>=0↔eE x.1.2 a b:=by
 rw [zED];constructor
 ·intro h;unfold qJ at h;cases e:jS .arr2 x.2.1 (a,b) with
  | none=>rw [e] at h;exact absurd h (by decide)
  | some c=>exact ⟨c,g.map _ _ e⟩
 ·rintro ⟨d,h1,h2⟩;rw [<- h2,g.facing h1];exact (yH.1 h1).1
theorem zHo {x:yI.T} (g:Full x) {a b:Int} (h1:eE x.1.2 a b) (h2:eE x.1.2 b a):(zDf x a b).length=2:=by
 unfold zDf;rw [if_pos ((zCk g).2 h1),if_pos ((zCk g).2 h2)];rfl
theorem zCy {t:P3} {a b:Int} (hab:a≠b) (h1:z8 t a) (h2:z8 t b):dE t a b\/dE t b a:=by
 obtain ⟨x,y,z⟩:=t;unfold z8 at h1 h2;unfold dE;simp only at *;rcases h1 with e1|e1|e1<;>rcases h2 with e2|e2|e2<;>first|(exfalso;omega)|(subst e1 e2;simp)
theorem zEM {t:P3} (hd: ¬ dgn t) {a b:Int} (h1:dE t a b) (h2:dE t b a):False:=by
 unfold dgn at hd;unfold dE at h1 h2;omega
theorem zBj {x:yI.T} (g:Full x) {a v:Int} (hav:a≠v):zAQ x a v=true↔∃ t∈x.1.2,z8 t a/\z8 t v:=by
 rw [zHf g];constructor
 ·rintro ⟨d,d1,d2⟩;have k:=zFH d1;refine ⟨_,qI k.1,?_⟩;have:=jN k.2;rcases d2 with e|e
  ·rw [e] at this;exact this
  ·rw [e] at this;exact this.symm
 ·rintro ⟨t,ht,h1,h2⟩;rcases zCy hav h1 h2 with e|e
  ·obtain ⟨d,d1,d2⟩:=zED.1 (zDh.2 ⟨t,ht,e⟩);exact ⟨d,d1,.inl d2⟩
  ·obtain ⟨d,d1,d2⟩:=zED.1 (zDh.2 ⟨t,ht,e⟩);exact ⟨d,d1,.inr d2⟩
theorem zWu {x:yI.T} (g:Full x) {a b v:Int} (h:v∈zDf x a b): ∃ t∈x.1.2,z8 t a/\z8 t b/\z8 t v:=by
 have key: ∀ {p q:Int},qJ x (p,q)>=0->yS x (qJ x (p,q))=v->∃ t∈x.1.2,z8 t p/\z8 t q/\z8 t v:=fun {p q} h1 h2=>by
  unfold qJ at h1 h2;cases e:jS .arr2 x.2.1 (p,q) with
  | none=>rw [e] at h1;exact absurd h1 (by decide)
  | some c =>
    rw [e] at h2;have h2:yS x c=v:=h2;obtain ⟨k1,k2⟩:=g.map _ _ e;have k:=zFH k1;rw [k2] at k;have kv:=zAw k1;rw [h2] at kv;exact ⟨_,qI k.1,(jN k.2).1,(jN k.2).2,kv.2⟩
 unfold zDf at h;rcases yD.1 h with h|h
 ·split at h
  ·exact key (by assumption) (zF.1 h).symm
  ·cases h
 ·split at h
  ·obtain ⟨t,ht,h1,h2,h3⟩:=key (by assumption) (zF.1 h).symm;exact ⟨t,ht,h2,h1,h3⟩
  ·cases h
theorem zLF {x:yI.T} (g:Full x) {i j:Nat} :Adj x i j↔i<x.1.2.length/\j<x.1.2.length/\∃ p q,dE (tg x.1.2 i) p q/\dE (tg x.1.2 j) q p:=by
 constructor
 ·rintro ⟨c,c1,c2,c3,c4⟩;obtain ⟨k1,k2,k3,k4⟩:=g.opp_v (c:=c) c3;have e1:=zFH c1;have e2:=zFH k2;rw [c2] at e1;rw [c4] at e2;refine ⟨e1.1,e2.1,(jR x c).1,(jR x c).2,e1.2,?_⟩;have e3:jR x (zAI x c)=((jR x c).2,(jR x c).1):=Prod.ext k3 k4;rw [e3] at e2;exact e2.2
 ·rintro ⟨hi,hj,p,q,h1,h2⟩;obtain ⟨c,c1,c2,c3⟩:=zHH hi h1;obtain ⟨d,d1,d2,d3⟩:=zHH hj h2;have e:zAI x c=d:=g.opp_is d1 (by rw [c2,d2]);exact ⟨c,c1,c3,by rw [e];exact (yH.1 d1).1,by rw [e];exact d3⟩
theorem zFn {x:yI.T} (g:Full x) {i j:Nat} (hi:i<x.1.2.length) (hj:j<x.1.2.length) {v:Int} (h1:z8 (tg x.1.2 i) v) (h2:z8 (tg x.1.2 j) v) (hs:jV (InN x.1.1) x.1.2):zJ5 (Adj x) i j:=by
 have hv:=hs.ent _ (qI hi) v h1;refine (zLX hs.nd).2 (hs.pin v hv) (fun k=>zJ5 (Adj x) i k) (fun p q hp hq pv qv ⟨w,wv,pw,qw⟩ k=> ?_) i hi h1 (.refl _) j hj h2
 by_cases e:p=q
 ·subst e;exact k
 ·refine .step k ((zLF g).2 ⟨hp,hq,?_⟩);have ne:tg x.1.2 p≠tg x.1.2 q:=fun e'=>e (zDg hs.nd hp hq e');rcases zCy wv pw pv with a|a<;>rcases zCy wv qw qv with b|b
  ·exact absurd b (hs.dif _ (qI hp) _ (qI hq) ne _ _ a)
  ·exact ⟨_,_,a,b⟩
  ·exact ⟨_,_,a,b⟩
  ·exact absurd b (hs.dif _ (qI hp) _ (qI hq) ne _ _ a)
theorem zMK (x:yI.T) (m:Int): ∀ k,(smS x m k).1=(((List.range k).filter fun i=>decide ((ofR x).getD i 0=m)).length:Int)
 | 0=>rfl
 | k +1=>by
   rw [List.range_succ,List.filter_append]
   by_cases h:(ofR x).getD k 0=m
   ·rw [zIX h];show (smS x m k).1+1=_;rw [zMK x m k,List.filter_cons_of_pos (by simpa using h)];simp
   ·rw [zO3 h,zMK x m k,List.filter_cons_of_neg (by simpa using h)];simp
theorem zR0 (x:yI.T) (i:Nat) (b:Bool): ∀ c,qA (smC x i) b c=true↔b=true\/∃ d:Nat,d<c/\zAI x (3*i+d)<0
 | 0=>⟨.inl,fun h=>by rcases h with h|⟨d,h,_⟩;exact h;omega⟩
 | c + 1=>by
   rw [z4Q,Bool.or_eq_true,zR0 x i b c,zP];constructor
   ·rintro ((h|⟨d,h1,h2⟩)|h)
    ·exact .inl h
    ·exact .inr ⟨d,by omega,h2⟩
    ·exact .inr ⟨c,by omega,h⟩
   ·rintro (h|⟨d,h1,h2⟩)
    ·exact .inl (.inl h)
    ·by_cases e:d=c
     ·subst e;exact .inr h2
     ·exact .inl (.inr ⟨d,by omega,h2⟩)
theorem zHt (x:yI.T) (m:Int): ∀ k,(smS x m k).2=true↔∃ i,i<k/\(ofR x).getD i 0=m/\∃ d:Nat,d<3/\zAI x (3*i+d)<0
 | 0=>⟨fun h=>(by cases h),fun ⟨i,h,_⟩=>by omega⟩
 | k + 1=>by
   by_cases h:(ofR x).getD k 0=m
   ·rw [zIX h];show qA (smC x k) (smS x m k).2 3=true↔_;rw [zR0,zHt x m k];constructor
    ·rintro (⟨i,h1,h2⟩|h1)
     ·exact ⟨i,by omega,h2⟩
     ·exact ⟨k,by omega,h,h1⟩
    ·rintro ⟨i,h1,h2,h3⟩
     by_cases e:i=k
     ·subst e;exact .inr h3
     ·exact .inl ⟨i,by omega,h2,h3⟩
   ·rw [zO3 h,zHt x m k];constructor
    ·rintro ⟨i,h1,h2⟩;exact ⟨i,by omega,h2⟩
    ·rintro ⟨i,h1,h2,h3⟩;refine ⟨i,?_,h2,h3⟩
     by_cases e:i=k
     ·subst e;exact absurd h2 h
     ·omega
theorem zLY (k l:List Nat) (hn:k.Nodup) (h: ∀ i∈k,i∈l):k.length<=l.length:=by
 have:=zBx (k.map fun i=>((i:Nat):Int)) (l.map fun i=>((i:Nat):Int)) (List.Pairwise.map _ (fun i j hij e=>hij (by omega)) hn) fun v hv=>by
  obtain ⟨i,hi,rfl⟩:=yC.1 hv;exact yC.2 ⟨i,h i hi,rfl⟩
 simpa using this
theorem zJG {x:yI.T} (g:Full x) (hs:jV (InN x.1.1) x.1.2) {a:Int} (ha:InN x.1.1 a) {S:List Nat} (hn:S.Nodup) {i0:Nat} (h0:i0∈S) (hv:z8 (tg x.1.2 i0) a) (hl: ∀ i∈S,i<x.1.2.length) (hc: ∀ i∈S,∀ j,Adj x i j->j∈S) (hk: ∀ i∈S,zJ5 (Adj x) i0 i) :
 (smS x (smM x a) (ofR x).length).1=(S.length:Int)/\∀ i,i<x.1.2.length->((ofR x).getD i 0=smM x a↔i∈S):=by
 have hlen:=zMO g.toGood;obtain ⟨c1,c2⟩:=g.vtx a ha.1 ha.2;have kt:=zAw c1;rw [c2] at kt
 have hlab:(ofR x).getD i0 0=smM x a:=by
  unfold smM;exact (zGP g (hl _ h0) kt.1).2 (zFn g (hl _ h0) kt.1 hv kt.2 hs)
 have hmem: ∀ i,i<x.1.2.length->((ofR x).getD i 0=smM x a↔i∈S):=fun i hi=>by
  rw [<- hlab,eq_comm,zGP g (hl _ h0) hi];constructor
  ·intro k
   induction k with
   | refl=>exact h0
   | step _ a ih=>exact hc _ (ih (zNu g.toGood a).1) _ a
  ·exact fun k=>hk i k
 refine ⟨?_,hmem⟩;rw [zMK,hlen]
 have e:((List.range x.1.2.length).filter fun i=>decide ((ofR x).getD i 0=smM x a)).length=S.length:=by
  apply Nat.le_antisymm
  ·refine zLY _ _ (List.nodup_range.sublist List.filter_sublist) fun i hi=> ?_;obtain ⟨k1,k2⟩:=List.mem_filter.1 hi;exact (hmem i (zV.1 k1)).1 (by simpa using k2)
  ·refine zLY _ _ hn fun i hi=>List.mem_filter.2 ⟨zV.2 (hl i hi),by simpa using (hmem i (hl i hi)).2 hi⟩
 rw [e]
end S1
