/- A part of the proofs of the laws. -/
import Derived.Test.YtbfghjbhfgbdnaaVmSeqtoF10g
import Derived.Test.YtbfghjbhfgbdnaaT5toT20
set_option linter.unusedSimpArgs false
set_option linter.unusedVariables false
set_option maxHeartbeats 8000000
set_option maxRecDepth 100000
open Go.Proofs.Try
open Go Go.Vm Go.Proofs
namespace S1
def z1v (l:List P3) (v:Int):Prop:= ∀ Q:P3->Prop,
    (∀ t∈l,∀ u∈l,zV t v->zV u v->(∃ w:Int,w≠v/\zV t w/\zV u w)->Q t->Q u)->
    ∀ t∈l,zV t v->Q t->∀ u∈l,zV u v->Q u
structure jP (V:Int->Prop) (l:List P3):Prop where
 nd:l.Nodup
 ent: ∀ t∈l,∀ v,zV t v->V v
 deg: ∀ t∈l,¬ dgn t
 dif: ∀ t∈l,∀ u∈l,t≠u->∀ a b,dE t a b->¬ dE u a b
 mir: ∀ t∈l,∀ u∈l,t≠u->¬ (zV u t.1/\zV u t.2.1/\zV u t.2.2)
 use: ∀ v,V v->∃ t∈l,zV t v
 pin: ∀ v,V v->z1v l v
instance (t:P3) (v:Int):Decidable (zV t v):=inferInstanceAs (Decidable (t.1=v\/t.2.1=v\/t.2.2=v))
theorem zRo {t:P3} {a b r:Int} (hab:a≠b) (har:a≠r) (hbr:b≠r) (h1:zV t a) (h2:zV t b) (h3:zV t r) :
 (dE t a b/\dE t b r/\dE t r a)\/(dE t b a/\dE t a r/\dE t r b):=by
 obtain ⟨x,y,z⟩:=t;unfold zV at h1 h2 h3;unfold dE;simp only at *;rcases h1 with e1|e1|e1<;>rcases h2 with e2|e2|e2<;>rcases h3 with e3|e3|e3<;>first|(exfalso;omega)|(subst e1 e2 e3;simp)
theorem zHg {t:P3} (hd: ¬ dgn t) {a b:Int} (hab:a≠b) (h1:zV t a) (h2:zV t b): ∃ r,r≠a/\r≠b/\zV t r/\∀ w,zV t w->w=a\/w=b\/w=r:=by
 obtain ⟨x,y,z⟩:=t;unfold dgn at hd;unfold zV at h1 h2;simp only at *;rcases h1 with e1|e1|e1<;>rcases h2 with e2|e2|e2
 ·omega
 ·exact ⟨z,by omega,by omega,.inr (.inr rfl),fun w hw=>by unfold zV at hw;simp only at hw;omega⟩
 ·exact ⟨y,by omega,by omega,.inr (.inl rfl),fun w hw=>by unfold zV at hw;simp only at hw;omega⟩
 ·exact ⟨z,by omega,by omega,.inr (.inr rfl),fun w hw=>by unfold zV at hw;simp only at hw;omega⟩
 ·omega
 ·exact ⟨x,by omega,by omega,.inl rfl,fun w hw=>by unfold zV at hw;simp only at hw;omega⟩
 ·exact ⟨y,by omega,by omega,.inr (.inl rfl),fun w hw=>by unfold zV at hw;simp only at hw;omega⟩
 ·exact ⟨x,by omega,by omega,.inl rfl,fun w hw=>by unfold zV at hw;simp only at hw;omega⟩
 ·omega
theorem zF1 {t:P3} (hd: ¬ dgn t) {a b:Int} (h:dE t a b):a≠b:=by
 unfold dgn at hd;unfold dE at h;omega
theorem zPv {t:P3} {v:Int} (h:zV t v): ∃ w,dE t v w:=by
 rcases h with e|e|e
 ·exact ⟨_,.inl ⟨e,rfl⟩⟩
 ·exact ⟨_,.inr (.inl ⟨e,rfl⟩)⟩
 ·exact ⟨_,.inr (.inr ⟨e,rfl⟩)⟩
theorem jP.same {V:Int->Prop} {l:List P3} (h:jP V l) {t u:P3} (ht:t∈l) (hu:u∈l) {a b r:Int} (hab:a≠b) (har:a≠r) (hbr:b≠r) (h1:zV t a) (h2:zV t b) (h3:zV t r) (k1:zV u a) (k2:zV u b) (k3:zV u r):t=u:=by
 apply yE;intro hne;obtain ⟨r',e1,e2,e3,e4⟩:=zHg (h.deg t ht) hab h1 h2
 have er:r=r':=by
  rcases e4 r h3 with e|e|e
  ·exact absurd e.symm har
  ·exact absurd e.symm hbr
  ·exact e
 subst er
 have key: ∀ w,zV t w->zV u w:=fun w hw=>by
  rcases e4 w hw with e|e|e<;>(subst e;assumption)
 exact h.mir t ht u hu hne ⟨key _ (.inl rfl),key _ (.inr (.inl rfl)),key _ (.inr (.inr rfl))⟩
def ph (a b v:Int):Int:=if v=a then b else v
def phT (a b:Int) (t:P3):P3:=(ph a b t.1,ph a b t.2.1,ph a b t.2.2)
def both (a b:Int) (t:P3):Bool:=decide (zV t a/\zV t b)
def zDJ (a b:Int) (l:List P3):List P3:=(l.filter fun t=> !both a b t).map (phT a b)
theorem zDc {a b:Int} {t:P3} {v:Int} (h:zV t v):zV (phT a b t) (ph a b v):=by
 rcases h with e|e|e
 ·exact .inl (by show ph a b t.1=_;rw [e])
 ·exact .inr (.inl (by show ph a b t.2.1=_;rw [e]))
 ·exact .inr (.inr (by show ph a b t.2.2=_;rw [e]))
theorem zEp {a b:Int} {t:P3} {v:Int} (h:zV (phT a b t) v): ∃ w,zV t w/\ph a b w=v:=by
 rcases h with e|e|e
 ·exact ⟨_,.inl rfl,e⟩
 ·exact ⟨_,.inr (.inl rfl),e⟩
 ·exact ⟨_,.inr (.inr rfl),e⟩
theorem zUo {a b:Int} {t:P3} {p q:Int} (h:dE (phT a b t) p q): ∃ p0 q0,dE t p0 q0/\ph a b p0=p/\ph a b q0=q:=by
 rcases h with ⟨e1,e2⟩|⟨e1,e2⟩|⟨e1,e2⟩
 ·exact ⟨_,_,.inl ⟨rfl,rfl⟩,e1,e2⟩
 ·exact ⟨_,_,.inr (.inl ⟨rfl,rfl⟩),e1,e2⟩
 ·exact ⟨_,_,.inr (.inr ⟨rfl,rfl⟩),e1,e2⟩
theorem zXz (a b:Int):ph a b a=b:=if_pos rfl
theorem zNS {a b v:Int} (h:v≠a):ph a b v=v:=if_neg h
theorem zFh {a b v w:Int} (h:ph a b v=ph a b w):v=w\/(v=a/\w=b)\/(v=b/\w=a):=by
 unfold ph at h;split at h<;>split at h<;>omega
theorem zKb {a b:Int} {u:P3} :(!both a b u)=true↔¬ (zV u a/\zV u b):=by
 unfold both;rw [y8,zB0]
theorem zAf {a b:Int} {l:List P3} {t:P3} :t∈zDJ a b l↔∃ u∈l,¬ (zV u a/\zV u b)/\phT a b u=t:=by
 unfold zDJ both;rw [zS];constructor
 ·rintro ⟨u,hu,e⟩;obtain ⟨h1,h2⟩:=yR.1 hu;exact ⟨u,h1,zKb.1 h2,e⟩
 ·rintro ⟨u,h1,h2,e⟩;exact ⟨u,yR.2 ⟨h1,zKb.2 h2⟩,e⟩
structure zHY (l:List P3) (a b:Int):Prop where
 ne:a≠b
 near: ∃ t∈l,zV t a/\zV t b
 com: ∀ v,v≠a->v≠b->(∃ t∈l,zV t a/\zV t v)->(∃ u∈l,zV u b/\zV u v)->∃ t∈l,zV t a/\zV t b/\zV t v
 lone: ∀ t∈l,zV t a->zV t b->∀ v,v≠a->v≠b->zV t v->∃ u∈l,u≠t/\zV u v/\(zV u a\/zV u b)
 tetra: ∀ p q,p≠q->p≠a->p≠b->q≠a->q≠b->(∃ t∈l,zV t a/\zV t p/\zV t q)->(∃ t∈l,zV t b/\zV t p/\zV t q)->(∃ t∈l,zV t a/\zV t b/\zV t p)->(∃ t∈l,zV t a/\zV t b/\zV t q)->False
 turn: ∀ t∈l,∀ u∈l,t≠u->zV t a->zV t b->zV u a->zV u b->∃ c,(c=a\/c=b)/\
  ∀ Q:P3->Prop,(∀ s∈l,∀ r∈l,zV s c->zV r c->(∃ w:Int,w≠a/\w≠b/\zV s w/\zV r w)->Q s->Q r)->Q t->Q u
section
variable {V:Int->Prop} {l:List P3} {a b:Int}
theorem zJG (f:zHY l a b) {t:P3} :zV (phT a b t) b↔zV t a\/zV t b:=by
 constructor
 ·intro h;obtain ⟨w,hw,e⟩:=zEp h
  by_cases ea:w=a
  ·exact .inl (by rw [<- ea];exact hw)
  ·rw [zNS ea] at e;exact .inr (by rw [<- e];exact hw)
 ·rintro (h|h)
  ·have:=zDc (a:=a) (b:=b) h;rwa [zXz] at this
  ·have:=zDc (a:=a) (b:=b) h;rwa [zNS f.ne.symm] at this
theorem zKj (h:jP V l) (f:zHY l a b) {t:P3} (ht:t∈l) (ha:zV t a) (hb:zV t b) {v:Int} (va:v≠a) (vb:v≠b) (hv:zV t v): ∃ u∈l,¬ (zV u a/\zV u b)/\zV u v/\(zV u a\/zV u b):=by
 obtain ⟨u,hu,hne,k1,k2⟩:=f.lone t ht ha hb v va vb hv;refine ⟨u,hu,fun hab=>hne ?_,k1,k2⟩;exact h.same hu ht f.ne va.symm vb.symm hab.1 hab.2 k1 ha hb hv
end
end S1
namespace S1
inductive zG4 (A:Nat->Nat->Prop):Nat->Nat->Prop
 | refl (t:Nat):zG4 A t t
 | step {t u w:Nat} :zG4 A t u->A u w->zG4 A t w
theorem zG4.trans {A:Nat->Nat->Prop} {t u w:Nat} (h:zG4 A t u) (k:zG4 A u w):zG4 A t w:=by
 induction k with
 | refl=>exact h
 | step _ a ih=>exact .step ih a
theorem zG4.symm {A:Nat->Nat->Prop} (hs: ∀ t u,A t u->A u t) {t u:Nat} (h:zG4 A t u):zG4 A u t:=by
 induction h with
 | refl=>exact .refl _
 | step _ a ih=>exact zG4.trans (.step (.refl _) (hs _ _ a)) ih
theorem zG4.mono {A B:Nat->Nat->Prop} (h: ∀ t u,A t u->B t u) {t u:Nat} (k:zG4 A t u):zG4 B t u:=by
 induction k with
 | refl=>exact .refl _
 | step _ a ih=>exact .step ih (h _ _ a)
def Adj (x:zX.T) (i j:Nat):Prop:= ∃ c,zAX x c=true/\(c / 3).toNat=i/\0<=zAY x c/\(zAY x c / 3).toNat=j
theorem Full.opp_opp {x:zX.T} (g:Full x) {c:Int} (h:0<=zAY x c):zAY x (zAY x c)=c:=by
 obtain ⟨h1,h2,h3⟩:=g.opp h;exact g.opp_is h1 (by rw [h3])
theorem Full.adj_symm {x:zX.T} (g:Full x) {i j:Nat} (h:Adj x i j):Adj x j i:=by
 obtain ⟨c,h1,h2,h3,h4⟩:=h;exact ⟨zAY x c,(g.opp h3).2.1,h4,by rw [g.opp_opp h3];exact (z6.1 h1).1,by rw [g.opp_opp h3];exact h2⟩
theorem zMi {x:zX.T} (g:Good x) {i j:Nat} (h:Adj x i j):i<x.1.2.length/\j<x.1.2.length:=by
 obtain ⟨c,h1,h2,h3,h4⟩:=h;exact ⟨by rw [<- h2];exact (zBI h1).1,by rw [<- h4];exact (zBI (g.opp h3).2.1).1⟩
abbrev lb (l:List Int) (t:Nat):Int:=l.getD t 0
theorem zHF {l:List Int} {i t:Nat} {k:Int} (hi:i<l.length):lb (l.set i k) t=if i=t then k else lb l t:=by
 unfold lb;rw [gdE,qI,gdE];split
 ·rfl
 ·rfl
structure Lab (x:zX.T) (out:List Int) (n:Int):Prop where
 len:out.length=x.1.2.length
 lt: ∀ t,t<x.1.2.length->lb out t<n
 clo: ∀ t u,Adj x t u->0<=lb out t->lb out u=lb out t
 con: ∀ t u,t<x.1.2.length->u<x.1.2.length->0<=lb out t->lb out t=lb out u->zG4 (Adj x) t u
structure Bf (x:zX.T) (o0:List Int) (n:Int) (f:Nat) (s:OS):Prop where
 len:s.1.length=x.1.2.length
 old: ∀ t,t<x.1.2.length->lb s.1 t=lb o0 t\/(lb s.1 t=n/\lb o0 t<0)
 q: ∀ t,t<x.1.2.length->lb s.1 t=n->(t:Int)∈s.2
 qn: ∀ t∈s.2,0<=t/\t.toNat<x.1.2.length/\lb s.1 t.toNat=n
 con: ∀ t∈s.2,zG4 (Adj x) f t.toNat
theorem zYn {x:zX.T} (g:Full x) {o0:List Int} {n:Int} {f:Nat} (hn:0<=n) (ho: ∀ t,t<x.1.2.length->lb o0 t<n) {j:Nat} {s:OS} (h:Bf x o0 n f s) (hj:j<s.2.length) (c:Nat) (hc:c<3) :
 Bf x o0 n f (ofC x n j s c)/\(ofC x n j s c).2.getD j 0=s.2.getD j 0/\(∀ t,t<x.1.2.length->0<=lb s.1 t->lb (ofC x n j s c).1 t=lb s.1 t)/\(s.2.length<=(ofC x n j s c).2.length)/\
 (0<=zAY x (3*s.2.getD j 0+c)->0<=lb (ofC x n j s c).1 (zAY x (3*s.2.getD j 0+c) / 3).toNat)/\(∀ i,i<s.2.length->(ofC x n j s c).2.getD i 0=s.2.getD i 0):=by
 unfold ofC;split
 ·rename_i hh;obtain ⟨h1,h2⟩:=hh;obtain ⟨k1,k2,_⟩:=g.opp h1;have hm:s.2.getD j 0∈s.2:=zA5 hj;obtain ⟨q1,q2,q3⟩:=h.qn _ hm;have hu:=zBI k2;have ho':=z6.1 k2;have hu1:=hu.1
  have happ: ∀ i,i<s.2.length->(s.2++[zAY x (3*s.2.getD j 0+c) / 3]).getD i 0=s.2.getD i 0:=fun i hi=>by
   rw [gdE,yF hi,<- gdE]
  have hadj:Adj x (s.2.getD j 0).toNat (zAY x (3*s.2.getD j 0+c) / 3).toNat:=⟨_,k1,by omega,h1,rfl⟩;refine ⟨⟨by show (s.1.set _ _).length=_;rw [qZ];exact h.len,fun t ht=> ?_,fun t ht e=> ?_,fun t ht=> ?_,fun t ht=> ?_⟩,happ j hj,fun t ht h0=> ?_,by show _<=(s.2++[_]).length;rw [z7];omega,fun _=> ?_,happ⟩
  ·show lb (s.1.set _ n) t=_\/(lb (s.1.set _ n) t=_/\_);rw [zHF (by rw [h.len];exact hu1)];split
   ·rename_i e;refine .inr ⟨rfl,?_⟩;rcases h.old t ht with e2|e2
    ·rw [<- e2,<- e];exact h2
    ·exact e2.2
   ·exact h.old t ht
  ·have e:lb (s.1.set (zAY x (3*s.2.getD j 0+c) / 3).toNat n) t=n:=e;show (t:Int)∈s.2++[_];rw [zHF (by rw [h.len];exact hu1)] at e;split at e
   ·rename_i e2;exact zA7 _ (zD.2 (by omega))
   ·exact zAF _ (h.q t ht e)
  ·have ht:t∈s.2++[_]:=ht;show 0<=t/\t.toNat<_/\lb (s.1.set _ n) t.toNat=n;rw [zHF (by rw [h.len];exact hu1)];rcases zY.1 ht with ht|ht
   ·obtain ⟨a,b,d⟩:=h.qn t ht;refine ⟨a,b,?_⟩;split
    ·rfl
    ·exact d
   ·rw [zD] at ht;refine ⟨by omega,by rw [ht];exact hu1,?_⟩;rw [if_pos (by rw [ht])]
  ·have ht:t∈s.2++[_]:=ht;rcases zY.1 ht with ht|ht
   ·exact h.con t ht
   ·rw [zD.1 ht];exact .step (h.con _ hm) hadj
  ·show lb (s.1.set _ n) t=_;rw [zHF (by rw [h.len];exact hu1),if_neg (fun e=>by rw [<- e] at h0;have:lb s.1 (zAY x (3*s.2.getD j 0+c) / 3).toNat<0:=h2;omega)]
  ·show 0<=lb (s.1.set _ n) _;rw [zHF (by rw [h.len];exact hu1),if_pos rfl];exact hn
 ·rename_i hh
  exact ⟨h,rfl,fun _ _ _=>rfl,zI _,fun h0=>by
   by_cases e:s.1.getD (zAY x (3*s.2.getD j 0+c) / 3).toNat 0<0
   ·exact absurd ⟨h0,e⟩ hh
   ·show 0<=s.1.getD _ 0;omega,fun _ _=>rfl⟩
def Seen (x:zX.T) (s:OS) (j:Nat):Prop:= ∀ i,i<j->∀ u,Adj x (s.2.getD i 0).toNat u->0<=lb s.1 u
theorem z35 {x:zX.T} (g:Full x) {o0:List Int} {n:Int} {f:Nat} (hn:0<=n) (ho: ∀ t,t<x.1.2.length->lb o0 t<n) {j:Nat} {s:OS} (h:Bf x o0 n f s) (hj:j<s.2.length) (hs:Seen x s j) :
 Bf x o0 n f (ofJ x n s j)/\Seen x (ofJ x n s j) (j+1)/\s.2.length<=(ofJ x n s j).2.length:=by
 have key: ∀ c,c<=3->Bf x o0 n f (jE (ofC x n j) s c)/\(jE (ofC x n j) s c).2.getD j 0=s.2.getD j 0/\(∀ t,t<x.1.2.length->0<=lb s.1 t->0<=lb (jE (ofC x n j) s c).1 t)/\s.2.length<=(jE (ofC x n j) s c).2.length/\
  (∀ d:Nat,d<c->0<=zAY x (3*s.2.getD j 0+d)->0<=lb (jE (ofC x n j) s c).1 (zAY x (3*s.2.getD j 0+d) / 3).toNat)/\(∀ i,i<s.2.length->(jE (ofC x n j) s c).2.getD i 0=s.2.getD i 0):=by
  intro c
  induction c with
  | zero=>exact fun _=>⟨h,rfl,fun _ _ h=>h,zI _,fun d hd=>by omega,fun _ _=>rfl⟩
  | succ c ih =>
    intro hc;obtain ⟨i1,i2,i3,i4,i5,i6⟩:=ih (by omega);obtain ⟨b1,b2,b3,b4,b5,b6⟩:=zYn g hn ho (j:=j) i1 (Nat.lt_of_lt_of_le hj i4) c (by omega);rw [zRT];rw [i2] at b2 b5;refine ⟨b1,b2,fun t ht h0=> ?_,by omega,fun d hd h0=> ?_,fun i hi=>by rw [b6 i (by omega),i6 i hi]⟩
    ·have:=i3 t ht h0;rw [b3 t ht this];exact this
    ·have hlt:=(zBI (g.opp h0).2.1).1
     by_cases e:d=c
     ·subst e;exact b5 h0
     ·have:=i5 d (by omega) h0;rw [b3 _ hlt this];exact this
 obtain ⟨i1,i2,i3,i4,i5,i6⟩:=key 3 (zI _);unfold ofJ;refine ⟨i1,fun i hi u hu=> ?_,i4⟩;rw [i6 i (by omega)] at hu
 by_cases e:i=j
 ·subst e;obtain ⟨c,c1,c2,c3,c4⟩:=hu;have hq:=h.qn _ (zA5 hj);have hc:=z6.1 c1;have e:c=3*s.2.getD i 0+((c % 3).toNat:Nat):=by omega
  rw [<- c4,e];exact i5 (c % 3).toNat (by omega) (by rw [<- e];exact c3)
 ·exact i3 u (zMi g.toGood hu).2 (hs i (by omega) u hu)
theorem zXW {x:zX.T} (g:Full x) {o0:List Int} {n:Int} {f:Nat} (hn:0<=n) (ho: ∀ t,t<x.1.2.length->lb o0 t<n): ∀ (k j:Nat) {s:OS},Bf x o0 n f s->OOk x.1.2.length s->j<=s.2.length->Seen x s j->x.1.2.length<k+j->
 Bf x o0 n f (bfs x n k j s)/\Seen x (bfs x n k j s) (bfs x n k j s).2.length
 | 0,j,s,h,ok,hj,hs,hk=>by
   have:=ok.cnt;omega
 | k +1,j,s,h,ok,hj,hs,hk=>by
   unfold bfs;split
   ·rename_i hlt;obtain ⟨b1,b2,b3⟩:=z35 g hn ho h hlt hs;exact zXW g hn ho k (j+1) b1 (zTw g.toGood hn ok) (by omega) b2 (by omega)
   ·have e:s.2.length=j:=by omega
    exact ⟨h,by rw [e];exact hs⟩
theorem zPO {x:zX.T} (g:Full x) {out:List Int} {n:Int} (hn:0<=n) (h:Lab x out n) {i:Nat} (hi:i<x.1.2.length) (hl: ¬ lb out i>=0) :
 Lab x (bfs x n 10000 0 (out.set i n,[(i:Int)])).1 (n+1)/\lb (bfs x n 10000 0 (out.set i n,[(i:Int)])).1 i=n/\(∀ t,t<x.1.2.length->0<=lb out t->lb (bfs x n 10000 0 (out.set i n,[(i:Int)])).1 t=lb out t)/\
 ∀ t,t<x.1.2.length->lb (bfs x n 10000 0 (out.set i n,[(i:Int)])).1 t=lb out t\/(lb (bfs x n 10000 0 (out.set i n,[(i:Int)])).1 t=n/\lb out t<0):=by
 have hlen:x.1.2.length<=8192:=g.fit.2.2.1
 have h0:Bf x out n i (out.set i n,[(i:Int)]):=by
  refine ⟨by rw [qZ];exact h.len,fun t ht=> ?_,fun t ht e=> ?_,fun t ht=> ?_,fun t ht=> ?_⟩
  ·show lb (out.set i n) t=_\/(lb (out.set i n) t=n/\_);rw [zHF (by rw [h.len];exact hi)];split
   ·rename_i e;subst e;exact .inr ⟨rfl,by omega⟩
   ·exact .inl rfl
  ·have e:lb (out.set i n) t=n:=e;rw [zHF (by rw [h.len];exact hi)] at e;split at e
   ·rename_i e2;exact zD.2 (by omega)
   ·have:=h.lt t ht;omega
  ·rw [zD.1 ht];refine ⟨by omega,by omega,?_⟩;show lb (out.set i n) _=n;rw [zHF (by rw [h.len];exact hi),if_pos (by omega)]
  ·rw [zD.1 ht];exact .refl _
 obtain ⟨b,hs⟩:=zXW g hn h.lt 10000 0 h0 (zLG hn h.len hi hl) (jB _) (fun i hi=>by omega) (by omega)
 have hin : (i:Int)∈(bfs x n 10000 0 (out.set i n,[(i:Int)])).2:=by
  have key: ∀ (k j:Nat) (s:OS),(i:Int)∈s.2->(i:Int)∈(bfs x n k j s).2:=fun k=>by
   induction k with
   | zero=>exact fun j s h=>(by unfold bfs;exact h)
   | succ k ih =>
     intro j s hm;unfold bfs;split
     ·refine ih _ _ ?_
      have: ∀ c,(i:Int)∈(jE (ofC x n j) s c).2:=fun c=>by
       induction c with
       | zero=>exact hm
       | succ c ih2 =>
         rw [zRT];generalize jE (ofC x n j) s c=S at ih2;unfold ofC;split
         ·exact zAF _ ih2
         ·exact ih2
      unfold ofJ;exact this 3
     ·exact hm
  exact key _ _ _ (zD.2 rfl)
 generalize bfs x n 10000 0 (out.set i n,[(i:Int)])=s at *
 have hold: ∀ t,t<x.1.2.length->0<=lb out t->lb s.1 t=lb out t:=fun t ht h0=>by
  rcases b.old t ht with e|e
  ·exact e
  ·omega
 refine ⟨⟨b.len,fun t ht=> ?_,fun t u ha h0=> ?_,fun t u ht hu h0 e=> ?_⟩,(b.qn _ hin).2.2,hold,b.old⟩
 ·rcases b.old t ht with e|e
  ·rw [e];have:=h.lt t ht;omega
  ·rw [e.1];omega
 ·obtain ⟨ht,hu⟩:=zMi g.toGood ha;rcases b.old t ht with e|e
  ·rw [e] at h0 ⊢;have k:=h.clo t u ha h0;rw [hold u hu (by rw [k];exact h0)];exact k
  ·obtain ⟨idx,hidx,e2⟩:=yG.1 (b.q t ht e.1);have hsu:0<=lb s.1 u:=hs idx hidx u (by rw [gdE,gE hidx];show Adj x (s.2[idx]).toNat u;rw [e2];exact ha);rcases b.old u hu with k|k
   ·rw [k] at hsu;have:=h.clo u t (g.adj_symm ha) hsu;omega
   ·rw [k.1,e.1]
 ·rcases b.old t ht with k|k
  ·rw [k] at h0 e;rcases b.old u hu with k2|k2
   ·rw [k2] at e;exact h.con t u ht hu h0 e
   ·have:=h.lt t ht;omega
  ·rw [k.1] at e;have c1:=b.con _ (b.q t ht k.1);have c2:=b.con _ (b.q u hu e.symm);exact zG4.trans (c1.symm fun _ _=>g.adj_symm) c2
theorem zK1 {x:zX.T} (g:Full x): ∀ i,i<=x.1.2.length->Lab x (ofL x i).1 (ofL x i).2/\0<=(ofL x i).2/\∀ t,t<i->0<=lb (ofL x i).1 t
 | 0,_=>by
   have e: ∀ t,t<x.1.2.length->lb (ofL x 0).1 t= -1:=fun t ht=>by
    show (List.replicate x.1.2.length (-1:Int)).getD t 0= -1;rw [gdE,yU,if_pos ht];rfl
   refine ⟨⟨jH,fun t ht=> ?_,fun t u ha h0=> ?_,fun t u ht hu h0=> ?_⟩,Int.le_refl 0,fun t ht=>by omega⟩
   ·rw [e t ht];show (-1:Int)<0;decide
   ·rw [e t (zMi g.toGood ha).1] at h0;omega
   ·rw [e t ht] at h0;omega
 | i + 1,hi=>by
   obtain ⟨h1,h2,h3⟩:=zK1 g i (by omega);show Lab x (ofI x (ofL x i) i).1 (ofI x (ofL x i) i).2/\0<=(ofI x (ofL x i) i).2/\∀ t,t<i+1->0<=lb (ofI x (ofL x i) i).1 t;unfold ofI;split
   ·rename_i h;refine ⟨h1,h2,fun t ht=> ?_⟩
    by_cases e:t=i
    ·subst e;exact h
    ·exact h3 t (by omega)
   ·rename_i h;obtain ⟨k1,k2,k3,_⟩:=zPO g h2 h1 (by omega) h;refine ⟨k1,by show 0<=(ofL x i).2+1;omega,fun t ht=> ?_⟩
    by_cases e:t=i
    ·subst e;show 0<=lb (bfs x _ _ _ _).1 t;rw [k2];exact h2
    ·show 0<=lb (bfs x _ _ _ _).1 t;rw [k3 t (by omega) (h3 t (by omega))];exact h3 t (by omega)
theorem zDv {x:zX.T} (g:Full x) {t u:Nat} (ht:t<x.1.2.length) (hu:u<x.1.2.length):(ofR x).getD t 0=(ofR x).getD u 0↔zG4 (Adj x) t u:=by
 obtain ⟨h1,h2,h3⟩:=zK1 g x.1.2.length (zI _);constructor
 ·exact fun e=>h1.con t u ht hu (h3 t ht) e
 ·intro h;clear hu
  induction h with
  | refl=>rfl
  | step _ a ih =>
    have hb:=(zMi g.toGood a).1;rw [ih];exact (h1.clo _ _ a (h3 _ hb)).symm
end S1
namespace S1
theorem zD0 {l:List P3} (hn:l.Nodup) {i j:Nat} (hi:i<l.length) (hj:j<l.length) (e:tg l i=tg l j):i=j:=by
 unfold tg at e;rw [gdE,gdE,gE hi,gE hj] at e;have e:l[i]=l[j]:=e;have key: ∀ p q (hp:p<l.length) (hq:q<l.length),p<q->l[p]≠l[q]:=fun p q hp hq h=>List.pairwise_iff_getElem.1 hn p q hp hq h;rcases Nat.lt_trichotomy i j with h|h|h
 ·exact absurd e (key i j hi hj h)
 ·exact h
 ·exact absurd e.symm (key j i hj hi h)
theorem zLV {l:List P3} (hn:l.Nodup) {v:Int} :z2J l v↔z1v l v:=by
 constructor
 ·intro h Q hQ t ht tv hq u hu uv;obtain ⟨i,hi,ei⟩:=zAr ht;obtain ⟨j,hj,ej⟩:=zAr hu;have:=h (fun k=>Q (tg l k)) (fun p q hp hq pv qv hw k=>hQ _ (qU hp) _ (qU hq) pv qv hw k) i hi (by rw [ei];exact tv) (by show Q (tg l i);rw [ei];exact hq) j hj (by rw [ej];exact uv);have this:Q (tg l j):=this;rw [ej] at this;exact this
 ·intro h Q hQ i hi iv hq j hj jv
  obtain ⟨k,hk,ek,qk⟩:=h (fun t=> ∃ i,i<l.length/\tg l i=t/\Q i) (fun t ht u hu tv uv hw ⟨p,hp,ep,qp⟩=>by
   obtain ⟨q,hq,eq⟩:=zAr hu;refine ⟨q,hq,eq,hQ p q hp hq (by show zV (tg l p) v;rw [ep];exact tv) (by show zV (tg l q) v;rw [eq];exact uv) ?_ qp⟩;obtain ⟨w,w1,w2,w3⟩:=hw
   exact ⟨w,w1,by show zV (tg l p) w;rw [ep];exact w2,by show zV (tg l q) w;rw [eq];exact w3⟩) _ (qU hi) iv ⟨i,hi,rfl,hq⟩ _ (qU hj) jv
  rw [<- zD0 hn hk hj ek];exact qk
abbrev InN (n:Int):Int->Prop:=fun v=>0<=v/\v<n
theorem zBd {s:Int×List P3} (h:zJh s):jP (InN s.1) s.2:=by
 have hn:s.2.Nodup:=by
  refine List.pairwise_iff_getElem.2 fun i j hi hj hij e=> ?_;obtain ⟨w,hw⟩:=zPv (t:=tg s.2 i) (.inl rfl);refine h.dif i j hij hj _ _ hw ?_
  have:tg s.2 i=tg s.2 j:=by
   unfold tg;rw [gdE,gdE,gE hi,gE hj];exact e
  rw [<- this];exact hw
 have two: ∀ t∈s.2,∀ u∈s.2,t≠u->∃ i j,i<s.2.length/\j<s.2.length/\i≠j/\tg s.2 i=t/\tg s.2 j=u:=fun t ht u hu hne=>by
  obtain ⟨i,hi,ei⟩:=zAr ht;obtain ⟨j,hj,ej⟩:=zAr hu;exact ⟨i,j,hi,hj,fun e=>hne (by rw [<- ei,<- ej,e]),ei,ej⟩
 refine ⟨hn,fun t ht v hv=> ?_,fun t ht=> ?_,fun t ht u hu hne a b h1 h2=> ?_,fun t ht u hu hne hh=> ?_,fun v hv=> ?_,fun v hv=> ?_⟩
 ·obtain ⟨i,hi,ei⟩:=zAr ht;exact zWZ h.fit hi (by rw [ei];exact hv)
 ·obtain ⟨i,hi,ei⟩:=zAr ht;rw [<- ei];exact h.deg i hi
 ·obtain ⟨i,j,hi,hj,hij,ei,ej⟩:=two t ht u hu hne;rw [<- ei] at h1;rw [<- ej] at h2;rcases Nat.lt_or_gt_of_ne hij with k|k
  ·exact h.dif i j k hj a b h1 h2
  ·exact h.dif j i k hi a b h2 h1
 ·obtain ⟨i,j,hi,hj,hij,ei,ej⟩:=two t ht u hu hne;rcases Nat.lt_or_gt_of_ne hij with k|k
  ·rw [<- ei,<- ej] at hh;exact h.mir i j k hj hh
  ·-- the other way round: three vertices each
   have hd:=h.deg i hi;rw [ei] at hd;have hd2:=h.deg j hj;rw [ej] at hd2
   have key:zV t u.1/\zV t u.2.1/\zV t u.2.2:=by
    obtain ⟨x,y,z⟩:=t;obtain ⟨p,q,r⟩:=u;unfold zV at *;unfold dgn at *;simp only at *;omega
   rw [<- ei,<- ej] at key;exact h.mir j i k hi key
 ·obtain ⟨j,hj,hv2⟩:=h.use v.toNat (by rw [zA4 hv.1];exact hv.2);rw [zA4 hv.1] at hv2;exact ⟨_,qU hj,hv2⟩
 ·have:=h.pin v.toNat (by rw [zA4 hv.1];exact hv.2);rw [zA4 hv.1] at this;exact (zLV hn).1 this
def zHA (r:Int->Int) (t:P3):P3:=(r t.1,r t.2.1,r t.2.2)
theorem zBS {r:Int->Int} {t:P3} {u:Int} :zV (zHA r t) u↔∃ v,zV t v/\r v=u:=by
 constructor
 ·rintro (e|e|e)
  ·exact ⟨_,.inl rfl,e⟩
  ·exact ⟨_,.inr (.inl rfl),e⟩
  ·exact ⟨_,.inr (.inr rfl),e⟩
 ·rintro ⟨v,e|e|e,rfl⟩
  ·exact .inl (by rw [<- e];rfl)
  ·exact .inr (.inl (by rw [<- e];rfl))
  ·exact .inr (.inr (by rw [<- e];rfl))
theorem zIK {r:Int->Int} {t:P3} {p q:Int} :dE (zHA r t) p q↔∃ p0 q0,dE t p0 q0/\r p0=p/\r q0=q:=by
 constructor
 ·rintro (⟨e1,e2⟩|⟨e1,e2⟩|⟨e1,e2⟩)
  ·exact ⟨_,_,.inl ⟨rfl,rfl⟩,e1,e2⟩
  ·exact ⟨_,_,.inr (.inl ⟨rfl,rfl⟩),e1,e2⟩
  ·exact ⟨_,_,.inr (.inr ⟨rfl,rfl⟩),e1,e2⟩
 ·rintro ⟨p0,q0,⟨e1,e2⟩|⟨e1,e2⟩|⟨e1,e2⟩,rfl,rfl⟩
  ·exact .inl ⟨by rw [<- e1];rfl,by rw [<- e2];rfl⟩
  ·exact .inr (.inl ⟨by rw [<- e1];rfl,by rw [<- e2];rfl⟩)
  ·exact .inr (.inr ⟨by rw [<- e1];rfl,by rw [<- e2];rfl⟩)
def dn (a v:Int):Int:=if v>a then v - 1 else v
end S1
namespace S1
theorem zBz {x:zX.T} (g:Full x) {a b:Int} :qM x (a,b)>=0↔eE x.1.2 a b:=by
 rw [zDr];constructor
 ·intro h;unfold qM at h;cases e:zA3 .arr2 x.2.1 (a,b) with
  | none=>rw [e] at h;exact absurd h (by decide)
  | some c=>exact ⟨c,g.map _ _ e⟩
 ·rintro ⟨d,h1,h2⟩;rw [<- h2,g.facing h1];exact (z6.1 h1).1
theorem zDL {t:P3} {a b:Int} (hab:a≠b) (h1:zV t a) (h2:zV t b):dE t a b\/dE t b a:=by
 obtain ⟨x,y,z⟩:=t;unfold zV at h1 h2;unfold dE;simp only at *;rcases h1 with e1|e1|e1<;>rcases h2 with e2|e2|e2<;>first|(exfalso;omega)|(subst e1 e2;simp)
theorem zDu {t:P3} (hd: ¬ dgn t) {a b:Int} (h1:dE t a b) (h2:dE t b a):False:=by
 unfold dgn at hd;unfold dE at h1 h2;omega
theorem zCP {x:zX.T} (g:Full x) {a v:Int} (hav:a≠v):zBh x a v=true↔∃ t∈x.1.2,zV t a/\zV t v:=by
 rw [zHW g];constructor
 ·rintro ⟨d,d1,d2⟩;have k:=zDj d1;refine ⟨_,qU k.1,?_⟩;have:=y9 k.2;rcases d2 with e|e
  ·rw [e] at this;exact this
  ·rw [e] at this;exact this.symm
 ·rintro ⟨t,ht,h1,h2⟩;rcases zDL hav h1 h2 with e|e
  ·obtain ⟨d,d1,d2⟩:=zDr.1 (zDS.2 ⟨t,ht,e⟩);exact ⟨d,d1,.inl d2⟩
  ·obtain ⟨d,d1,d2⟩:=zDr.1 (zDS.2 ⟨t,ht,e⟩);exact ⟨d,d1,.inr d2⟩
theorem zLS {x:zX.T} (g:Full x) {i j:Nat} :Adj x i j↔i<x.1.2.length/\j<x.1.2.length/\∃ p q,dE (tg x.1.2 i) p q/\dE (tg x.1.2 j) q p:=by
 constructor
 ·rintro ⟨c,c1,c2,c3,c4⟩;obtain ⟨k1,k2,k3,k4⟩:=g.opp_v (c:=c) c3;have e1:=zDj c1;have e2:=zDj k2;rw [c2] at e1;rw [c4] at e2;refine ⟨e1.1,e2.1,(qX x c).1,(qX x c).2,e1.2,?_⟩;have e3:qX x (zAY x c)=((qX x c).2,(qX x c).1):=Prod.ext k3 k4;rw [e3] at e2;exact e2.2
 ·rintro ⟨hi,hj,p,q,h1,h2⟩;obtain ⟨c,c1,c2,c3⟩:=zGp hi h1;obtain ⟨d,d1,d2,d3⟩:=zGp hj h2;have e:zAY x c=d:=g.opp_is d1 (by rw [c2,d2]);exact ⟨c,c1,c3,by rw [e];exact (z6.1 d1).1,by rw [e];exact d3⟩
end S1
namespace S1
section
variable {x:zX.T} {a b:Int}
end
end S1
namespace S1
theorem zH6 (k l:List P3) (hn:k.Nodup) (h: ∀ i∈k,i∈l):k.length<=l.length:=by
 induction k generalizing l with
 | nil=>exact jB _
 | cons a r ih =>
   obtain ⟨h1,h2⟩:=yQ.1 hn;have ha:=h a (zQ ..);have:=ih (l.erase a) h2 fun i hi=>(List.mem_erase_of_ne (fun e=>h1 (by rw [<- e];exact hi))).2 (h i (zM _ hi));rw [List.length_erase_of_mem ha] at this;have:=List.length_pos_of_mem ha;rw [zZ];omega
theorem zF6 {a b:Int} {t:P3} :both a b t=true↔zV t a/\zV t b:=by unfold both;exact decide_eq_true_iff
theorem zKg {x:zX.T} (g:Full x) (hs:jP (InN x.1.1) x.1.2) {c:Int} (hc:zAX x c=true):(x.1.2.filter (both (qX x c).1 (qX x c).2)).length=if 0<=zAY x c then 2 else 1:=by
 have k:=zDj hc;have hne:=g.ends c hc;have hm1:=qU k.1;have hv1:=y9 k.2;have hnd:(x.1.2.filter (both (qX x c).1 (qX x c).2)).Nodup:=hs.nd.filter _;have in1:tg x.1.2 (c / 3).toNat∈x.1.2.filter (both (qX x c).1 (qX x c).2):=yR.2 ⟨hm1,zF6.2 hv1⟩
 have one: ∀ t∈x.1.2,dE t (qX x c).1 (qX x c).2->t=tg x.1.2 (c / 3).toNat:=fun t ht hd=>by
  apply yE;intro hn;exact hs.dif t ht _ hm1 hn _ _ hd k.2
 split
 ·rename_i ho;obtain ⟨_,h2,h3⟩:=g.opp ho;have k2:=zDj h2;rw [h3] at k2;have hm2:=qU k2.1
  have ne:tg x.1.2 (c / 3).toNat≠tg x.1.2 (zAY x c / 3).toNat:=fun e=>by
   rw [<- e] at k2;exact zDu (hs.deg _ hm1) k.2 k2.2
  have in2:tg x.1.2 (zAY x c / 3).toNat∈x.1.2.filter (both (qX x c).1 (qX x c).2):=yR.2 ⟨hm2,zF6.2 (y9 k2.2).symm⟩
  have a1:=zH6 [tg x.1.2 (c / 3).toNat,tg x.1.2 (zAY x c / 3).toNat] _ (yQ.2 ⟨by simpa using ne,yQ.2 ⟨by simp,qW⟩⟩) (fun i hi=>by
   rcases zP.1 hi with e|hi
   ·rw [e];exact in1
   ·rw [zD.1 hi];exact in2)
  have a2:=zH6 _ [tg x.1.2 (c / 3).toNat,tg x.1.2 (zAY x c / 3).toNat] hnd (fun t ht=>by
   obtain ⟨m,hb⟩:=yR.1 ht;obtain ⟨b1,b2⟩:=zF6.1 hb;rcases zDL hne b1 b2 with e|e
   ·rw [one t m e];exact zQ ..
   ·refine zM _ (zD.2 ?_);apply yE;intro hn
    exact hs.dif t m _ hm2 hn _ _ e k2.2)
  have a1:2<=_:=a1;have a2:_<=2:=a2;omega
 ·rename_i ho;have a1:=zH6 [tg x.1.2 (c / 3).toNat] _ (yQ.2 ⟨by simp,qW⟩) (fun i hi=>by rw [zD.1 hi];exact in1)
  have a2:=zH6 _ [tg x.1.2 (c / 3).toNat] hnd (fun t ht=>by
   obtain ⟨m,hb⟩:=yR.1 ht;obtain ⟨b1,b2⟩:=zF6.1 hb;rcases zDL hne b1 b2 with e|e
   ·rw [one t m e];exact zQ ..
   ·obtain ⟨d,d1,d2⟩:=zDr.1 (zDS.2 ⟨t,m,e⟩)
    exact absurd (by rw [g.opp_is d1 d2];exact (z6.1 d1).1) ho)
  have a1:1<=_:=a1;have a2:_<=1:=a2;omega
end S1
namespace S1
def atV (v:Int) (t:P3):Bool:=decide (zV t v)
end S1
namespace S1
theorem zLk (a b:Int) (t:P3):both a b t=(atV a t&&atV b t):=by unfold both atV;exact Bool.decide_and _ _
theorem zKd {p q:P3->Bool} (h: ∀ t,p t=q t) (l:List P3):(l.filter p).length=(l.filter q).length:=by rw [show p=q from funext h]
theorem zWH {x:zX.T} (g:Full x) (hs:jP (InN x.1.1) x.1.2) {a b:Int} (hn:zBh x a b=true):(x.1.2.filter (both a b)).length=if qM x (a,b)<0\/zAY x (qM x (a,b))<0 then 1 else 2:=by
 by_cases h:qM x (a,b)<0
 ·rw [if_pos (.inl h)];obtain ⟨d,d1,d2⟩:=(zHW g).1 hn;rcases d2 with e|e
  ·have:=g.facing d1;rw [e] at this;rw [this] at h;exact absurd (z6.1 d1).1 (by omega)
  ·have k:=zKg g hs d1;rw [e] at k
   have ho: ¬ 0<=zAY x d:=fun h0=>by
    obtain ⟨_,h2,h3⟩:=g.opp h0;have:=g.facing h2;rw [h3,e] at this;have h2:=(z6.1 h2).1;have this:qM x (a,b)=zAY x d:=this;omega
   rw [if_neg ho] at k;rw [<- k];exact zKd (fun t=>by rw [zLk,zLk,Bool.and_comm]) _
 ·have hf:qM x (a,b)>=0:=by omega
  obtain ⟨c,c1,c2⟩:=zDr.1 ((zBz g).1 hf);have e:=g.facing c1;rw [c2] at e;have k:=zKg g hs c1;rw [c2] at k;rw [e] at h ⊢;have k:(x.1.2.filter (both a b)).length=if 0<=zAY x c then 2 else 1:=k;rw [k]
  by_cases ho:0<=zAY x c
  ·rw [if_pos ho,if_neg (by omega)]
  ·rw [if_neg ho,if_pos (by omega)]
end S1
namespace S1
theorem zHi {x:zX.T} (g:Full x) (hs:jP (InN x.1.1) x.1.2) {a b:Int} (hn:zBh x a b=true):(zDm x a b).length=(x.1.2.filter (both a b)).length:=by
 rw [zWH g hs hn]
 have hk:qM x (a,b)>=0\/qM x (b,a)>=0:=by
  unfold zBh at hn;rw [yO,zF,zF] at hn;exact hn
 by_cases h1:qM x (a,b)>=0
 ·obtain ⟨c,c1,c2⟩:=zDr.1 ((zBz g).1 h1);have e:=g.facing c1;rw [c2] at e;have eo:zAY x (qM x (a,b))=qM x (b,a):=by rw [e];unfold zAY;rw [c2]
  rw [eo];unfold zDm
  by_cases h2:qM x (b,a)>=0
  ·rw [if_pos h1,if_pos h2,if_neg (by omega)];rfl
  ·rw [if_pos h1,if_neg h2,if_pos (by omega)];rfl
 ·unfold zDm;rw [if_neg h1,if_pos (hk.resolve_left h1),if_pos (.inl (by omega))];rfl
theorem zKu {x:zX.T} (g:Full x) (hs:jP (InN x.1.1) x.1.2) {i j:Nat} :Adj x i j↔i<x.1.2.length/\j<x.1.2.length/\i≠j/\∃ p q,p≠q/\(zV (tg x.1.2 i) p/\zV (tg x.1.2 i) q)/\zV (tg x.1.2 j) p/\zV (tg x.1.2 j) q:=by
 rw [zLS g];constructor
 ·rintro ⟨hi,hj,p,q,h1,h2⟩;refine ⟨hi,hj,fun e=> ?_,p,q,zF1 (hs.deg _ (qU hi)) h1,y9 h1,(y9 h2).symm⟩;subst e;exact zDu (hs.deg _ (qU hi)) h1 h2
 ·rintro ⟨hi,hj,hij,p,q,hpq,⟨a1,a2⟩,b1,b2⟩;have ne:tg x.1.2 i≠tg x.1.2 j:=fun e'=>hij (zD0 hs.nd hi hj e');refine ⟨hi,hj,?_⟩;rcases zDL hpq a1 a2 with a|a<;>rcases zDL hpq b1 b2 with b|b
  ·exact absurd b (hs.dif _ (qU hi) _ (qU hj) ne _ _ a)
  ·exact ⟨_,_,a,b⟩
  ·exact ⟨_,_,a,b⟩
  ·exact absurd b (hs.dif _ (qU hi) _ (qU hj) ne _ _ a)
section
variable {s s':Int×List P3} {r:Int->Int}
end
end S1
namespace S1
section
variable {x:zX.T}
end
end S1
namespace S1
section
variable {V:Int->Prop} {l:List P3} {a b c d:Int}
theorem zVP {a b:Int} {t:P3} :both a b t=true↔zV t a/\zV t b:=by unfold both;rw [zF]
end
end S1
namespace S1
section
variable {V:Int->Prop} {l:List P3} {a b c d:Int} {r:Int->Int}
end
end S1
namespace S1
def zDE (s:Int×List P3) (a b:Int):Int×List P3:=(s.1 - 1,(zDJ a b s.2).map (zHA (dn a)))
section
variable {s:Int×List P3} {a b c d:Int}
end
end S1
namespace S1
end S1
namespace S1
section
variable {x:zX.T}
theorem zJn {t:P3} {a b:Int} (hab:a≠b) (ha:zV t a) (hb:zV t b):dE t a b\/dE t b a:=by
 obtain ⟨x,y,z⟩:=t;simp only [zV,dE] at *;rcases ha with h|h|h<;>rcases hb with k|k|k<;>(subst h;subst k;simp at *)
end
end S1
namespace S1
theorem zTU {k l:List Int} (hk:k.Nodup) (hl:l.Nodup) (h: ∀ v,v∈k↔v∈l):k.length=l.length :=
 Nat.le_antisymm (zG7 k l hk fun v hv=>(h v).1 hv) (zG7 l k hl fun v hv=>(h v).2 hv)
def Perm (n:Int) (to:List Int):Prop:=(to.length:Int)=n/\(∀ x∈to,InN n x)/\to.Nodup
end S1
namespace S1
def VC (l:List P3) (u w:Int):Prop:= ∀ Q:Int->Prop,(∀ t∈l,∀ p q,zV t p->zV t q->Q p->Q q)->Q u->Q w
theorem VC.refl {l:List P3} (u:Int):VC l u u:=fun _ _ h=>h
theorem VC.trans {l:List P3} {u v w:Int} (h:VC l u v) (k:VC l v w):VC l u w:=fun Q hQ q=>k Q hQ (h Q hQ q)
theorem VC.symm {l:List P3} {u w:Int} (h:VC l u w):VC l w u:=by
 have:=h (fun v=>VC l v u) (fun t ht p q hp hq k=> ?_) (VC.refl u)
 ·exact this
 ·exact fun Q hQ hv=>k Q hQ (hQ t ht q p hq hp hv)
theorem VC.tri {l:List P3} {t:P3} (ht:t∈l) {p q:Int} (hp:zV t p) (hq:zV t q):VC l p q:=fun Q hQ h=>hQ t ht p q hp hq h
theorem VC.mono {l l':List P3} (hs: ∀ t∈l,∃ t'∈l',∀ v,zV t v->zV t' v) {u w:Int} (h:VC l u w):VC l' u w:=fun Q hQ hu =>
 h Q (fun t ht p q hp hq k=>by
   obtain ⟨t',ht',hv⟩:=hs t ht
   exact hQ t' ht' p q (hv p hp) (hv q hq) k) hu
theorem VC.ind {l:List P3} {u:Int} {Q:Int->Prop} (h0:Q u) (hs: ∀ t∈l,∀ p q,VC l u p->zV t p->zV t q->Q p->Q q) {w:Int} (h:VC l u w):Q w:=by
 have:=h (fun v=>VC l u v/\Q v) (fun t ht p q hp hq ⟨k1,k2⟩=>⟨k1.trans (.tri ht hp hq),hs t ht p q k1 hp hq k2⟩) ⟨.refl u,h0⟩;exact this.2
section
variable {x:zX.T}
theorem zKG (g:Full x) (hs:jP (InN x.1.1) x.1.2) {i j:Nat} (hi:i<x.1.2.length) (hj:j<x.1.2.length) {v:Int} (h1:zV (tg x.1.2 i) v) (h2:zV (tg x.1.2 j) v):zG4 (Adj x) i j:=by
 have:=hs.pin v (hs.ent _ (qU hi) v h1) (fun t=> ∀ k,k<x.1.2.length->tg x.1.2 k=t->zG4 (Adj x) i k) (fun t ht u hu a1 a2 ⟨w,wv,b1,b2⟩ hq k hk e=>by
  obtain ⟨m,hm,rfl⟩:=zAr ht;have c1:=hq m hm rfl
  by_cases emk:m=k
  ·rw [<- emk];exact c1
  ·subst e
   exact c1.step ((zKu g hs).2 ⟨hm,hk,emk,v,w,wv.symm,⟨a1,b1⟩,a2,b2⟩)) (tg x.1.2 i) (qU hi) h1 (fun k hk e=>by rw [zD0 hs.nd hk hi e];exact .refl _) (tg x.1.2 j) (qU hj) h2
 exact this j hj rfl
theorem zY3 (g:Full x) (hs:jP (InN x.1.1) x.1.2) {i j:Nat} (hi:i<x.1.2.length) (hj:j<x.1.2.length) {u w:Int} (h1:zV (tg x.1.2 i) u) (h2:zV (tg x.1.2 j) w):zG4 (Adj x) i j↔VC x.1.2 u w:=by
 constructor
 ·intro h
  have key: ∀ v,zV (tg x.1.2 j) v->VC x.1.2 u v:=by
   clear h2
   induction h with
   | refl=>exact fun v hv=> .tri (qU hi) h1 hv
   | step c a ih =>
     obtain ⟨k1,k2,_,p,q,_,⟨a1,_⟩,b1,_⟩:=(zKu g hs).1 a;exact fun v hv=>(ih k1 p a1).trans (.tri (qU k2) b1 hv)
  exact key w h2
 ·intro h
  have:=VC.ind (Q:=fun w=> ∀ j,j<x.1.2.length->zV (tg x.1.2 j) w->zG4 (Adj x) i j) (fun j hj hv=>zKG g hs hi hj h1 hv) (fun t ht p q _ hp hq k j hj hv=>by
   obtain ⟨m,hm,rfl⟩:=zAr ht
   exact (k m hm hp).trans (zKG g hs hm hj hq hv)) h
  exact this j hj h2
end
theorem zJA {α Z γ:Type} {E:α->Z->Prop} {f:α->γ} {g:Z->γ} (hk: ∀ a b,E a b->f a=g b): ∀ {A:List α} {B:List Z},(∀ a∈A,∃ b∈B,E a b)->(∀ b∈B,∃ a∈A,E a b)->
 A.Pairwise (fun a a'=> ∀ b∈B,E a b->E a' b->False)->B.Pairwise (fun b b'=> ∀ a∈A,E a b->E a b'->False)->(A.map f).Perm (B.map g)
 | [],B,_,h2,_,_=>by
   cases B with
   | nil=>exact .refl _
   | cons b B=>obtain ⟨a,ha,_⟩:=h2 b (zQ ..);cases ha
 | a ::A,B,h1,h2,h3,h4=>by
   obtain ⟨b,hb,e⟩:=h1 a (zQ ..);obtain ⟨B1,B2,rfl⟩:=List.append_of_mem hb;obtain ⟨p1,p2⟩:=List.pairwise_cons.1 h3;obtain ⟨q1,q2,q3⟩:=List.pairwise_append.1 h4;obtain ⟨q4,q5⟩:=List.pairwise_cons.1 q2
   have sub: ∀ {c},c∈B1++B2->c∈B1++b::B2:=fun {c} hc=>by
    rcases zY.1 hc with k|k<;>simp [k]
   have nob: ∀ c∈B1++B2,∀ d∈a::A,E d b->E d c->False:=fun c hc d hd k1 k2=>by
    rcases zY.1 hc with k|k
    ·exact q3 c k b (zQ ..) d hd k2 k1
    ·exact q4 c k d hd k1 k2
   have ih:=zJA hk (A:=A) (B:=B1++B2) (fun d hd=>by
    obtain ⟨c,hc,ec⟩:=h1 d (zM _ hd);refine ⟨c,?_,ec⟩;rcases zY.1 hc with k|k
    ·exact zAF _ k
    ·rcases zP.1 k with k|k
     ·subst k;exact (p1 d hd c (by simp) e ec).elim
     ·exact zA7 _ k) (fun c hc=>by
    obtain ⟨d,hd,ed⟩:=h2 c (sub hc);rcases zP.1 hd with k|k
    ·subst k;exact (nob c hc d (zQ ..) e ed).elim
    ·exact ⟨d,k,ed⟩)
    (p2.imp fun h b' hb'=>h b' (sub hb'))
    (List.pairwise_append.2 ⟨q1.imp fun h d hd=>h d (zM _ hd),q5.imp fun h d hd=>h d (zM _ hd),fun c hc c' hc' d hd=>q3 c hc c' (zM _ hc') d (zM _ hd)⟩)
   rw [jV,zA8,jV,hk a b e];rw [zA8] at ih;exact (ih.cons _).trans List.perm_middle.symm
end S1
namespace S1
def bL (l:List P3) (w u:Int):Prop:=(∃ t∈l,dE t w u)/\¬ ∃ t∈l,dE t u w
structure z1m (l:List P3) (L:List Int):Prop where
 ne:L≠[]
 nd:L.Nodup
 brd: ∀ u∈L,∃ w,bL l w u
 clo: ∀ u∈L,∀ w,bL l w u->w∈L
 ind: ∀ Q:Int->Prop,(∃ u∈L,Q u)->(∀ u w,bL l w u->Q u->Q w)->∀ u∈L,Q u
structure zG2 (l:List P3) (Ls:List (List Int)):Prop where
 ok: ∀ L∈Ls,z1m l L
 nd:Ls.flatten.Nodup
 all: ∀ u,(∃ w,bL l w u)->u∈Ls.flatten
theorem zG2.one {l:List P3} {Ls:List (List Int)} (h:zG2 l Ls) {L L':List Int} (h1:L∈Ls) (h2:L'∈Ls) {u:Int} (k1:u∈L) (k2:u∈L'):L=L':=by
 apply yE;intro hne;have hp:=(List.pairwise_flatten.1 h.nd).2;obtain ⟨i,hi,e1⟩:=yG.1 h1;obtain ⟨j,hj,e2⟩:=yG.1 h2;have hpw:=List.pairwise_iff_getElem.1 hp;rcases Nat.lt_trichotomy i j with q|q|q
 ·have:=hpw i j hi hj q;rw [e1,e2] at this;exact this u k1 u k2 rfl
 ·subst q;exact hne (e1.symm.trans e2)
 ·have:=hpw j i hj hi q;rw [e1,e2] at this;exact this u k2 u k1 rfl
section
variable {V:Int->Prop} {l:List P3} {a b:Int}
theorem zMx {t:P3} {p q:Int} (hd: ¬ dgn t) (h:dE t p q): ¬ dE t q p:=by
 unfold dgn at hd;unfold dE at h ⊢;omega
theorem zD7 {t:P3} {p q r:Int} (hpq:p≠q) (hpr:p≠r) (hqr:q≠r) (h1:zV t p) (h2:zV t q) (h3:zV t r) (h:dE t p q):dE t q r/\dE t r p:=by
 rcases zRo hpq hpr hqr h1 h2 h3 with ⟨_,k1,k2⟩|⟨k,_,_⟩
 ·exact ⟨k1,k2⟩
 ·exfalso;unfold zV at h1 h2 h3;unfold dE at h k;omega
theorem zOP {t:P3} (hd: ¬ dgn t) {a b c v:Int} (hab:a≠b) (hca:c≠a) (hcb:c≠b) (h1:zV t a) (h2:zV t b) (h3:zV t c) (hv:zV t v):v=a\/v=b\/v=c:=by
 obtain ⟨p,q,r⟩:=t;unfold dgn at hd;unfold zV at h1 h2 h3 hv;simp only at *;omega
theorem zE5 {t:P3} (ht:t∈l) (hk: ¬ (zV t a/\zV t b)) {p q:Int} (h:dE t p q): ∃ t'∈zDJ a b l,dE t' (ph a b p) (ph a b q):=by
 refine ⟨phT a b t,zAf.2 ⟨t,ht,hk,rfl⟩,?_⟩;rcases h with ⟨h1,h2⟩|⟨h1,h2⟩|⟨h1,h2⟩
 ·exact .inl ⟨by show ph a b t.1=_;rw [h1],by show ph a b t.2.1=_;rw [h2]⟩
 ·exact .inr (.inl ⟨by show ph a b t.2.1=_;rw [h1],by show ph a b t.2.2=_;rw [h2]⟩)
 ·exact .inr (.inr ⟨by show ph a b t.2.2=_;rw [h1],by show ph a b t.1=_;rw [h2]⟩)
theorem zOv {p' q':Int} (h: ∃ t∈zDJ a b l,dE t p' q'): ∃ t∈l,¬ (zV t a/\zV t b)/\∃ p q,dE t p q/\ph a b p=p'/\ph a b q=q':=by
 obtain ⟨t',ht',hd⟩:=h;obtain ⟨t,ht,hk,rfl⟩:=zAf.1 ht';exact ⟨t,ht,hk,zUo hd⟩
theorem zM2 (h:jP V l) (f:zHY l a b) {t:P3} (ht:t∈l) (ta:zV t a) (tb:zV t b) {v:Int} (va:v≠a) (vb:v≠b) (tv:zV t v):(∃ u∈l,¬ (zV u a/\zV u b)/\((∃ c,(c=a\/c=b)/\dE t c v/\dE u v c)\/∃ c,(c=a\/c=b)/\dE t v c/\dE u c v)):=by
 obtain ⟨u,hu,hk,uv,huc⟩:=zKj h f ht ta tb va vb tv
 obtain ⟨c,hc,uc,tc,vc⟩: ∃ c,(c=a\/c=b)/\zV u c/\zV t c/\v≠c:=by
  rcases huc with k|k
  ·exact ⟨a,.inl rfl,k,ta,va⟩
  ·exact ⟨b,.inr rfl,k,tb,vb⟩
 have htu:t≠u:=fun e=>hk (by rw [<- e];exact ⟨ta,tb⟩);refine ⟨u,hu,hk,?_⟩;rcases zJn vc tv tc with d|d<;>rcases zJn vc uv uc with d2|d2
 ·exact absurd d2 (h.dif t ht u hu htu _ _ d)
 ·exact .inr ⟨c,hc,d,d2⟩
 ·exact .inl ⟨c,hc,d,d2⟩
 ·exact absurd d2 (h.dif t ht u hu htu _ _ d)
theorem zLD {c:Int} (h:c=a\/c=b):ph a b c=b:=by
 rcases h with h|h
 ·rw [h,zXz]
 ·unfold ph;split<;>first|rfl|exact h
theorem z0x (h:jP V l) (f:zHY l a b) {w u:Int} (hb:bL l w u) (hn: ¬ (w=a/\u=b)) (hn2: ¬ (w=b/\u=a)):bL (zDJ a b l) (ph a b w) (ph a b u):=by
 obtain ⟨⟨t,ht,hd⟩,hno⟩:=hb;have hwu:=zF1 (h.deg t ht) hd;have tw:=(y9 hd).1;have tu:=(y9 hd).2;constructor
 ·by_cases hk :zV t a/\zV t b
  ·-- t goes
   by_cases wc:w=a\/w=b
   ·have ua :u≠a:=fun e=>by rcases wc with k|k;exact hwu (k.trans e.symm);exact hn2 ⟨k,e⟩
    have ub:u≠b:=fun e=>by rcases wc with k|k;exact hn ⟨k,e⟩;exact hwu (k.trans e.symm)
    rw [zLD wc,zNS ua];obtain ⟨s,hs,sk,⟨c,hc,d1,d2⟩|⟨c,hc,d1,d2⟩⟩:=zM2 h f ht hk.1 hk.2 ua ub tu
    ·-- t has (c, u): c is w, or both edges come from u's side
     by_cases e:c=w
     ·subst e;exact absurd ⟨s,hs,d2⟩ hno
     ·exfalso;have cu:c≠u:=fun q=>by rcases hc with k|k;exact ua (q.symm.trans k);exact ub (q.symm.trans k)
      have tc:zV t c:=(y9 d1).1
      have:=(zD7 e cu hwu tc tw tu (by
       rcases zJn e tc tw with q|q
       ·exact q
       ·exfalso;have:=zD7 (Ne.symm e) hwu cu tw tc tu q
        exact zMx (h.deg t ht) hd this.2)).2
      exact zMx (h.deg t ht) d1 this
    ·have:=zE5 hs sk d2;rw [zLD hc,zNS ua] at this;exact this
   ·have wa:w≠a:=fun e=>wc (.inl e);have wb:w≠b:=fun e=>wc (.inr e)
    have uc:u=a\/u=b:=by
     rcases zOP (h.deg t ht) f.ne wa wb hk.1 hk.2 tw tu with e|e|e
     ·exact .inl e
     ·exact .inr e
     ·exact absurd e.symm hwu
    rw [zLD uc,zNS wa];obtain ⟨s,hs,sk,⟨c,hc,d1,d2⟩|⟨c,hc,d1,d2⟩⟩:=zM2 h f ht hk.1 hk.2 wa wb tw
    ·have:=zE5 hs sk d2;rw [zLD hc,zNS wa] at this;exact this
    ·by_cases e:c=u
     ·subst e;exact absurd ⟨s,hs,d2⟩ hno
     ·exfalso;have cw:c≠w:=fun q=>by rcases hc with k|k;exact wa (q.symm.trans k);exact wb (q.symm.trans k)
      have tc:zV t c:=(y9 d1).2;have:=(zD7 hwu (Ne.symm cw) (Ne.symm e) tw tu tc hd).2;exact zMx (h.deg t ht) d1 this
  ·exact zE5 ht hk hd
 ·intro hq;obtain ⟨s,hs,sk,p,q,sd,ep,eq⟩:=zOv hq
  -- s has (p, q), images of u and w
  have key: ∀ {c c' z:Int},c≠c'->(c=a\/c=b)->(c'=a\/c'=b)->z≠a->z≠b->(∃ t∈l,zV t c/\zV t z)->(∃ t∈l,zV t c'/\zV t z)->∃ r∈l,zV r c/\zV r c'/\zV r z:=fun {c c' z} hcc hc hc' za zb h1 h2=>by
   rcases hc with e|e<;>rcases hc' with e'|e'
   ·exact absurd (e.trans e'.symm) hcc
   ·subst e e';exact f.com z za zb h1 h2
   ·subst e e';obtain ⟨r,hr,r1,r2,r3⟩:=f.com z za zb h2 h1;exact ⟨r,hr,r2,r1,r3⟩
   ·exact absurd (e.trans e'.symm) hcc
  rcases zFh ep with e1|e1<;>rcases zFh eq with e2|e2
  ·subst e1 e2;exact hno ⟨s,hs,sd⟩
  ·-- p = u; q and w are a and b
   subst e1
   have hwq:q≠w/\(q=a\/q=b)/\(w=a\/w=b):=by
    rcases e2 with ⟨k1,k2⟩|⟨k1,k2⟩
    ·exact ⟨by rw [k1,k2];exact f.ne,.inl k1,.inr k2⟩
    ·exact ⟨by rw [k1,k2];exact f.ne.symm,.inr k1,.inl k2⟩
   obtain ⟨hqw,hq1,hw1⟩:=hwq;have pq:=zF1 (h.deg s hs) sd
   have pa:p≠a:=fun e=>by
    rcases hq1 with k|k
    ·exact pq (e.trans k.symm)
    ·rcases hw1 with k2|k2
     ·exact hwu (k2.trans e.symm)
     ·exact hqw (k.trans k2.symm)
   have pb:p≠b:=fun e=>by
    rcases hq1 with k|k
    ·rcases hw1 with k2|k2
     ·exact hqw (k.trans k2.symm)
     ·exact hwu (k2.trans e.symm)
    ·exact pq (e.trans k.symm)
   obtain ⟨r,hr,rq,rw',rp⟩:=key hqw hq1 hw1 pa pb ⟨s,hs,(y9 sd).2,(y9 sd).1⟩ ⟨t,ht,tw,tu⟩;have hdr:dE r w p:=(zJn hwu rw' rp).resolve_right fun k=>hno ⟨r,hr,k⟩;have hdr2:=(zD7 hwu (Ne.symm hqw) pq rw' rp rq hdr).1
   have hrs:r≠s:=fun e=>sk (by
    rw [<- e];rcases hq1 with k|k<;>rcases hw1 with k2|k2
    ·exact absurd (k.trans k2.symm) hqw
    ·exact ⟨by rw [<- k];exact rq,by rw [<- k2];exact rw'⟩
    ·exact ⟨by rw [<- k2];exact rw',by rw [<- k];exact rq⟩
    ·exact absurd (k.trans k2.symm) hqw)
   exact h.dif r hr s hs hrs _ _ hdr2 sd
  ·-- q = w; p and u are a and b
   subst e2
   have hwq:p≠u/\(p=a\/p=b)/\(u=a\/u=b):=by
    rcases e1 with ⟨k1,k2⟩|⟨k1,k2⟩
    ·exact ⟨by rw [k1,k2];exact f.ne,.inl k1,.inr k2⟩
    ·exact ⟨by rw [k1,k2];exact f.ne.symm,.inr k1,.inl k2⟩
   obtain ⟨hpu,hp1,hu1⟩:=hwq;have pq:=zF1 (h.deg s hs) sd
   have qa:q≠a:=fun e=>by
    rcases hp1 with k|k
    ·exact pq (k.trans e.symm)
    ·rcases hu1 with k2|k2
     ·exact hwu (e.trans k2.symm)
     ·exact hpu (k.trans k2.symm)
   have qb:q≠b:=fun e=>by
    rcases hp1 with k|k
    ·rcases hu1 with k2|k2
     ·exact hpu (k.trans k2.symm)
     ·exact hwu (e.trans k2.symm)
    ·exact pq (k.trans e.symm)
   obtain ⟨r,hr,rp,ru,rq⟩:=key hpu hp1 hu1 qa qb ⟨s,hs,(y9 sd).1,(y9 sd).2⟩ ⟨t,ht,tu,tw⟩;have hdr:dE r q u:=(zJn hwu rq ru).resolve_right fun k=>hno ⟨r,hr,k⟩;have hdr2:=(zD7 hwu (Ne.symm pq) (Ne.symm hpu) rq ru rp hdr).2
   have hrs:r≠s:=fun e=>sk (by
    rw [<- e];rcases hp1 with k|k<;>rcases hu1 with k2|k2
    ·exact absurd (k.trans k2.symm) hpu
    ·exact ⟨by rw [<- k];exact rp,by rw [<- k2];exact ru⟩
    ·exact ⟨by rw [<- k2];exact ru,by rw [<- k];exact rp⟩
    ·exact absurd (k.trans k2.symm) hpu)
   exact h.dif r hr s hs hrs _ _ hdr2 sd
  ·rcases e1 with ⟨k1,k2⟩|⟨k1,k2⟩<;>rcases e2 with ⟨m1,m2⟩|⟨m1,m2⟩
   ·exact hwu (m2.trans k2.symm)
   ·exact hn ⟨m2,k2⟩
   ·exact hn2 ⟨m2,k2⟩
   ·exact hwu (m2.trans k2.symm)
end
end S1
namespace S1
section
variable {V:Int->Prop} {l:List P3} {a b:Int}
theorem zP4 (h:jP V l) (f:zHY l a b) {t r:P3} (ht:t∈l) (hr:r∈l) {v:Int} (va:v≠a) (vb:v≠b) (t1:zV t a) (t2:zV t b) (t3:zV t v) (r1:zV r a) (r2:zV r b) (r3:zV r v):r=t :=
 h.same hr ht f.ne va.symm vb.symm r1 r2 r3 t1 t2 t3
theorem zT1 (h:jP V l) (f:zHY l a b) {w' u':Int} (hb:bL (zDJ a b l) w' u'): ∃ w u,bL l w u/\ph a b w=w'/\ph a b u=u':=by
 obtain ⟨he,hno⟩:=hb;obtain ⟨s,hs,sk,w0,u0,sd,rfl,rfl⟩:=zOv he
 by_cases hbk: ∃ t∈l,dE t u0 w0
 ·obtain ⟨t,ht,td⟩:=hbk;have hk:zV t a/\zV t b:=yE fun hk=>hno (zE5 ht hk td);have hwu:=zF1 (h.deg s hs) sd;have sw:=(y9 sd).1;have su:=(y9 sd).2;have tw:=(y9 td).2;have tu:=(y9 td).1
  -- the other end of the edge
  obtain ⟨c,cc,hc⟩: ∃ c,(c=a\/c=b)/\((w0=a\/w0=b)/\u0≠a/\u0≠b/\c≠w0\/(u0=a\/u0=b)/\w0≠a/\w0≠b/\c≠u0):=by
   by_cases wc:w0=a\/w0=b
   ·have ua:u0≠a:=fun e=>by
     rcases wc with k|k
     ·exact hwu (k.trans e.symm)
     ·exact sk ⟨by rw [<- e];exact su,by rw [<- k];exact sw⟩
    have ub:u0≠b:=fun e=>by
     rcases wc with k|k
     ·exact sk ⟨by rw [<- k];exact sw,by rw [<- e];exact su⟩
     ·exact hwu (k.trans e.symm)
    rcases wc with k|k
    ·exact ⟨b,.inr rfl,.inl ⟨.inl k,ua,ub,by rw [k];exact f.ne.symm⟩⟩
    ·exact ⟨a,.inl rfl,.inl ⟨.inr k,ua,ub,by rw [k];exact f.ne⟩⟩
   ·have wa:w0≠a:=fun e=>wc (.inl e);have wb:w0≠b:=fun e=>wc (.inr e);rcases zOP (h.deg t ht) f.ne wa wb hk.1 hk.2 tw tu with k|k|k
    ·exact ⟨b,.inr rfl,.inr ⟨.inl k,wa,wb,by rw [k];exact f.ne.symm⟩⟩
    ·exact ⟨a,.inl rfl,.inr ⟨.inr k,wa,wb,by rw [k];exact f.ne⟩⟩
    ·exact absurd k.symm hwu
  have tc:zV t c:=by rcases cc with k|k<;>rw [k];exact hk.1;exact hk.2
  rcases hc with ⟨wc,ua,ub,cw⟩|⟨uc,wa,wb,cu⟩
  ·have uc:u0≠c:=fun e=>by rcases cc with k|k;exact ua (e.trans k);exact ub (e.trans k)
   have d2:=(zD7 (Ne.symm hwu) uc (Ne.symm cw) tu tw tc td).2;refine ⟨c,u0,⟨⟨t,ht,d2⟩,fun ⟨r,hr,rd⟩=> ?_⟩,by rw [zLD cc,zLD wc],rfl⟩
   by_cases rk:zV r a/\zV r b
   ·have:=zP4 h f ht hr ua ub hk.1 hk.2 tu rk.1 rk.2 (y9 rd).1;subst this;exact zMx (h.deg r hr) rd d2
   ·have:=zE5 hr rk rd;rw [show ph a b c=ph a b w0 by rw [zLD cc,zLD wc]] at this;exact hno this
  ·have wc:w0≠c:=fun e=>by rcases cc with k|k;exact wa (e.trans k);exact wb (e.trans k)
   have d2:=(zD7 (Ne.symm hwu) (Ne.symm cu) wc tu tw tc td).1;refine ⟨w0,c,⟨⟨t,ht,d2⟩,fun ⟨r,hr,rd⟩=> ?_⟩,rfl,by rw [zLD cc,zLD uc]⟩
   by_cases rk:zV r a/\zV r b
   ·have:=zP4 h f ht hr wa wb hk.1 hk.2 tw rk.1 rk.2 (y9 rd).2;subst this;exact zMx (h.deg r hr) rd d2
   ·have:=zE5 hr rk rd;rw [show ph a b c=ph a b u0 by rw [zLD cc,zLD uc]] at this;exact hno this
 ·exact ⟨w0,u0,⟨⟨s,hs,sd⟩,hbk⟩,rfl,rfl⟩
theorem zWu (f:zHY l a b):VC l a b:=by
 obtain ⟨t,ht,ta,tb⟩:=f.near;exact .tri ht ta tb
theorem zId (h:jP V l) (f:zHY l a b) {u w:Int} :VC (zDJ a b l) (ph a b u) (ph a b w)↔VC l u w:=by
 constructor
 ·intro hc
  obtain ⟨v,e,k⟩:=hc (fun v'=> ∃ v,ph a b v=v'/\VC l u v) (fun t' ht' p' q' hp' hq' ⟨v,e,k⟩=>by
   obtain ⟨t,ht,_,rfl⟩:=zAf.1 ht';obtain ⟨p,hp,ep⟩:=zEp hp';obtain ⟨q,hq,eq⟩:=zEp hq';refine ⟨q,eq,?_⟩
   have kp:VC l u p:=by
    rcases zFh (e.trans ep.symm) with e1|⟨e1,e2⟩|⟨e1,e2⟩
    ·rw [<- e1];exact k
    ·rw [e2];rw [e1] at k;exact k.trans (zWu f)
    ·rw [e2];rw [e1] at k;exact k.trans (zWu f).symm
   exact kp.trans (.tri ht hp hq)) ⟨u,rfl,.refl u⟩
  rcases zFh e with e1|⟨e1,e2⟩|⟨e1,e2⟩
  ·rw [<- e1];exact k
  ·rw [e2];rw [e1] at k;exact k.trans (zWu f)
  ·rw [e2];rw [e1] at k;exact k.trans (zWu f).symm
 ·intro hc Q hQ hu;refine hc (fun v=>Q (ph a b v)) (fun t ht p q hp hq k=> ?_) hu
  by_cases hk:zV t a/\zV t b
  ·have hpq: ∀ {c v:Int},(c=a\/c=b)->v≠a->v≠b->zV t v->(Q (ph a b c)↔Q (ph a b v)):=fun {c v} hc va vb tv=>by
    obtain ⟨s,hs,sk,sv,sc⟩:=zKj h f ht hk.1 hk.2 va vb tv;have hm:phT a b s∈zDJ a b l:=zAf.2 ⟨s,hs,sk,rfl⟩;have h1:zV (phT a b s) (ph a b v):=zDc sv;have h2:zV (phT a b s) (ph a b c):=by rw [zLD hc];exact (zJG f).2 sc
    exact ⟨fun k=>hQ _ hm _ _ h2 h1 k,fun k=>hQ _ hm _ _ h1 h2 k⟩
   by_cases pc:p=a\/p=b
   ·by_cases qc:q=a\/q=b
    ·rw [zLD qc,<- zLD pc];exact k
    ·exact (hpq pc (fun e=>qc (.inl e)) (fun e=>qc (.inr e)) hq).1 k
   ·by_cases qc:q=a\/q=b
    ·exact (hpq qc (fun e=>pc (.inl e)) (fun e=>pc (.inr e)) hp).2 k
    ·rcases zOP (h.deg t ht) f.ne (fun e=>pc (.inl e)) (fun e=>pc (.inr e)) hk.1 hk.2 hp hq with e|e|e
     ·exact absurd (.inl e) qc
     ·exact absurd (.inr e) qc
     ·rw [e];exact k
  ·exact hQ _ (zAf.2 ⟨t,ht,hk,rfl⟩) _ _ (zDc hp) (zDc hq) k
open Classical in
noncomputable def zQV (a b:Int) (Ls:List (List Int)):List (List Int):=if b∈Ls.flatten then Ls.map fun L=>L.filter fun v=>decide (v≠a) else Ls.map fun L=>L.map (ph a b)
def zQl (l:List P3) (a b:Int):Prop:=(∃ w,bL l w a)->(∃ w,bL l w b)->bL l a b\/bL l b a
theorem zCm {Ls:List (List Int)} (hl:zG2 l Ls) {u:Int} :u∈Ls.flatten↔∃ w,bL l w u:=by
 refine ⟨fun hu=> ?_,hl.all u⟩;obtain ⟨L,hL,huL⟩:=List.mem_flatten.1 hu;exact (hl.ok L hL).brd u huL
theorem zOF {Ls:List (List Int)} (hl:zG2 l Ls) (hB:zQl l a b) (ha:a∈Ls.flatten) (hb:b∈Ls.flatten) {L:List Int} (hL:L∈Ls):a∈L↔b∈L:=by
 have key: ∀ {p q:Int},p∈Ls.flatten->bL l q p->(p∈L↔q∈L):=fun {p q} hp h=>by
  refine ⟨fun k=>(hl.ok L hL).clo p k q h,fun k=> ?_⟩;obtain ⟨L2,h2,p2⟩:=List.mem_flatten.1 hp;have:=(hl.ok L2 h2).clo p p2 q h;rw [hl.one hL h2 k this];exact p2
 rcases hB ((zCm hl).1 ha) ((zCm hl).1 hb) with h|h
 ·exact (key hb h).symm
 ·exact key ha h
theorem zV6 {Ls:List (List Int)} {L':List Int} (h:L'∈zQV a b Ls): ∃ L∈Ls,(b∈Ls.flatten/\L'=L.filter fun v=>decide (v≠a))\/(b∉Ls.flatten/\L'=L.map (ph a b)):=by
 unfold zQV at h;split at h
 ·rename_i hb;obtain ⟨L,hL,e⟩:=zS.1 h;exact ⟨L,hL,.inl ⟨hb,e.symm⟩⟩
 ·rename_i hb;obtain ⟨L,hL,e⟩:=zS.1 h;exact ⟨L,hL,.inr ⟨hb,e.symm⟩⟩
theorem zFt {Ls:List (List Int)} (hl:zG2 l Ls) (f:zHY l a b) (hB:zQl l a b) {L L':List Int} (hL:L∈Ls) (h:(b∈Ls.flatten/\L'=L.filter fun v=>decide (v≠a))\/(b∉Ls.flatten/\L'=L.map (ph a b))) {v':Int} :v'∈L'↔∃ v∈L,ph a b v=v':=by
 rcases h with ⟨hb,rfl⟩|⟨hb,rfl⟩
 ·rw [yR,zF];constructor
  ·rintro ⟨h1,h2⟩;exact ⟨v',h1,zNS h2⟩
  ·rintro ⟨v,hv,rfl⟩
   by_cases e:v=a
   ·subst e;rw [zXz];exact ⟨(zOF hl hB (List.mem_flatten.2 ⟨L,hL,hv⟩) hb hL).1 hv,f.ne.symm⟩
   ·rw [zNS e];exact ⟨hv,e⟩
 ·rw [zS]
theorem zZj (h:jP V l) (f:zHY l a b) (hB:zQl l a b) {Ls:List (List Int)} (hl:zG2 l Ls):zG2 (zDJ a b l) (zQV a b Ls):=by
 have abL: ∀ {w u:Int},bL l w u->ph a b w=ph a b u\/bL (zDJ a b l) (ph a b w) (ph a b u):=fun {w u} hb=>by
  by_cases h1:w=a/\u=b
  ·left;rw [zLD (.inl h1.1),zLD (.inr h1.2)]
  ·by_cases h2:w=b/\u=a
   ·left;rw [zLD (.inr h2.1),zLD (.inl h2.2)]
   ·exact .inr (z0x h f hb h1 h2)
 refine ⟨fun L' hL'=> ?_,?_,fun u' ⟨w',hw'⟩=> ?_⟩
 ·obtain ⟨L,hL,hk⟩:=zV6 hL';have hm:=fun v'=>zFt hl f hB hL hk (v':=v');have ok:=hl.ok L hL
  have ind: ∀ Q:Int->Prop,(∃ u∈L',Q u)->(∀ u w,bL (zDJ a b l) w u->Q u->Q w)->∀ u∈L',Q u:=fun Q ⟨u',hu',q⟩ hs v' hv'=>by
   obtain ⟨u,hu,rfl⟩:=(hm u').1 hu';obtain ⟨v,hv,rfl⟩:=(hm v').1 hv';refine ok.ind (fun v=>Q (ph a b v)) ⟨u,hu,q⟩ (fun u w hb k=> ?_) v hv;rcases abL hb with e|e
   ·rw [e];exact k
   ·exact hs _ _ e k
  -- whose image is on the loop, is on the loop
  have back: ∀ {z:Int},(∃ w,bL l w z)->ph a b z∈L'->z∈L:=fun {z} hz hzL=>by
   obtain ⟨v,hv,e⟩:=(hm _).1 hzL;rcases zFh e with e1|⟨e1,e2⟩|⟨e1,e2⟩
   ·rw [<- e1];exact hv
   ·subst e1 e2;exact (zOF hl hB (List.mem_flatten.2 ⟨L,hL,hv⟩) (hl.all _ hz) hL).1 hv
   ·subst e1 e2;exact (zOF hl hB (hl.all _ hz) (List.mem_flatten.2 ⟨L,hL,hv⟩) hL).2 hv
  have clo: ∀ u∈L',∀ w,bL (zDJ a b l) w u->w∈L':=fun u' hu' w' hb=>by
   obtain ⟨w,u,k,rfl,rfl⟩:=zT1 h f hb;exact (hm _).2 ⟨w,ok.clo u (back ⟨w,k⟩ hu') w k,rfl⟩
  have nd:L'.Nodup:=by
   rcases hk with ⟨_,rfl⟩|⟨hb,rfl⟩
   ·exact ok.nd.sublist List.filter_sublist
   ·refine List.Pairwise.map _ (fun v w hvw=>hvw) (ok.nd.imp_of_mem fun {v w} hv hw ne e=> ?_);rcases zFh e with e1|⟨_,e2⟩|⟨e1,_⟩
    ·exact ne e1
    ·subst e2;exact hb (List.mem_flatten.2 ⟨L,hL,hw⟩)
    ·subst e1;exact hb (List.mem_flatten.2 ⟨L,hL,hv⟩)
  obtain ⟨v0,hv0⟩:=List.exists_mem_of_ne_nil L ok.ne;refine ⟨fun e=> ?_,nd,fun u' hu'=> ?_,clo,ind⟩
  ·have:=(hm (ph a b v0)).2 ⟨v0,hv0,rfl⟩;rw [e] at this;cases this
  ·obtain ⟨u,hu,rfl⟩:=(hm u').1 hu'
   -- somebody comes behind it
   obtain ⟨w,hw⟩:=ok.brd u hu;rcases abL hw with e|e
   ·obtain ⟨z,hz⟩:=ok.brd w (ok.clo u hu w hw);rw [<- e];rcases abL hz with e2|e2
    ·exfalso;have hwu:=zF1 (h.deg _ hw.1.choose_spec.1) hw.1.choose_spec.2;have hzw:=zF1 (h.deg _ hz.1.choose_spec.1) hz.1.choose_spec.2;have hzu:z≠u:=fun q=>by subst q;exact hw.2 hz.1
     rcases zFh e with k|⟨k1,k2⟩|⟨k1,k2⟩<;>rcases zFh e2 with m|⟨m1,m2⟩|⟨m1,m2⟩
     ·exact hwu k
     ·exact hwu k
     ·exact hwu k
     ·exact hzw m
     ·exact f.ne (k1.symm.trans m2)
     ·exact hzu (m1.trans k2.symm)
     ·exact hzw m
     ·exact hzu (m1.trans k2.symm)
     ·exact f.ne (m2.symm.trans k1)
    ·exact ⟨_,e2⟩
   ·exact ⟨_,e⟩
 ·unfold zQV;split
  ·rw [<- List.filter_flatten];exact hl.nd.sublist List.filter_sublist
  ·rename_i hb;rw [<- List.map_flatten];refine List.Pairwise.map _ (fun v w hvw=>hvw) (hl.nd.imp_of_mem fun {v w} hv hw ne e=> ?_);rcases zFh e with e1|⟨_,e2⟩|⟨e1,_⟩
   ·exact ne e1
   ·subst e2;exact hb hw
   ·subst e1;exact hb hv
 ·obtain ⟨w,u,k,rfl,rfl⟩:=zT1 h f hw';obtain ⟨L,hL,huL⟩:=List.mem_flatten.1 (hl.all u ⟨w,k⟩)
  by_cases hb:b∈Ls.flatten
  ·refine List.mem_flatten.2 ⟨L.filter fun v=>decide (v≠a),?_,(zFt hl f hB hL (.inl ⟨hb,rfl⟩)).2 ⟨u,huL,rfl⟩⟩;unfold zQV;rw [if_pos hb];exact zS.2 ⟨L,hL,rfl⟩
  ·refine List.mem_flatten.2 ⟨L.map (ph a b),?_,(zFt hl f hB hL (.inr ⟨hb,rfl⟩)).2 ⟨u,huL,rfl⟩⟩;unfold zQV;rw [if_neg hb];exact zS.2 ⟨L,hL,rfl⟩
end
end S1
namespace S1
open Classical in
noncomputable def clV (l:List P3) (Vs:List Int) (u:Int):Nat:=Vs.countP fun v=>decide (VC l u v)
def inC (l:List P3) (u:Int) (t:P3):Prop:= ∃ v,zV t v/\VC l u v
open Classical in
noncomputable def clF (l:List P3) (u:Int):Nat:=l.countP fun t=>decide (inC l u t)
open Classical in
noncomputable def clB (l:List P3) (Ls:List (List Int)) (u:Int):Nat:=Ls.flatten.countP fun v=>decide (VC l u v)
open Classical in
noncomputable def clL (l:List P3) (Ls:List (List Int)) (u:Int):Nat:=Ls.countP fun L=>decide (∃ v∈L,VC l u v)
section
variable {V:Int->Prop} {l:List P3} {a b:Int}
theorem z1h (f:zHY l a b) {v:Int} (h:v≠a) {u:Int} (hs:jP V l):VC (zDJ a b l) (ph a b u) v↔VC l u v:=by
 have:=zId hs f (u:=u) (w:=v);rwa [zNS h] at this
theorem zGj {p q:Int->Bool} {a:Int} : ∀ {L:List Int},L.Nodup->(∀ v,v≠a->q v=p v)->(L.filter fun v=>decide (v≠a)).countP q+(if a∈L/\p a=true then 1 else 0)=L.countP p
 | [],_,_=>by simp
 | c ::L,hn,h=>by
   obtain ⟨h1,h2⟩:=yQ.1 hn;have ih:=zGj h2 h
   by_cases e:c=a
   ·subst e;rw [if_neg fun k=>h1 k.1] at ih;rw [qC (by simp),List.countP_cons,<- ih]
    by_cases k:p c=true
    ·rw [if_pos ⟨zQ ..,k⟩,if_pos k]
    ·rw [if_neg fun q=>k q.2,if_neg k]
   ·rw [yV (by simpa using e),List.countP_cons,List.countP_cons,<- ih,h c e]
    have:(a∈c::L/\p a=true)↔(a∈L/\p a=true):=by
     rw [zP];exact ⟨fun ⟨k1,k2⟩=>⟨k1.resolve_left (Ne.symm e),k2⟩,fun ⟨k1,k2⟩=>⟨.inr k1,k2⟩⟩
    simp only [this];omega
open Classical in
theorem zZ5 (h:jP V l) (f:zHY l a b) {Vs:List Int} (hn:Vs.Nodup) (ha:a∈Vs) (u:Int):clV (zDJ a b l) (Vs.filter fun v=>decide (v≠a)) (ph a b u)+(if VC l u a then 1 else 0)=clV l Vs u:=by
 unfold clV;rw [<- zGj (p:=fun v=>decide (VC l u v)) (a:=a) hn (q:=fun v=>decide (VC (zDJ a b l) (ph a b u) v)) fun v hv=>decide_eq_decide.2 (z1h f hv h)]
 congr 1
 simp only [ha,true_and,zF]
open Classical in
theorem zYL (h:jP V l) (f:zHY l a b) (u:Int):clF (zDJ a b l) (ph a b u)+(if VC l u a then (l.filter (both a b)).length else 0)=clF l u:=by
 unfold clF zDJ
 have e1:((l.filter fun t=> !both a b t).map (phT a b)).countP (fun t=>decide (inC ((l.filter fun t=> !both a b t).map (phT a b)) (ph a b u) t))=(l.filter fun t=> !both a b t).countP fun t=>decide (inC l u t):=by
  rw [List.countP_map];refine List.countP_congr fun t _=> ?_;show decide (inC (zDJ a b l) (ph a b u) (phT a b t))=true↔decide (inC l u t)=true;rw [zF,zF];constructor
  ·rintro ⟨v',hv',k⟩;obtain ⟨v,hv,rfl⟩:=zEp hv';exact ⟨v,hv,(zId h f).1 k⟩
  ·rintro ⟨v,hv,k⟩;exact ⟨_,zDc hv,(zId h f).2 k⟩
 rw [e1]
 have e2:(l.filter (both a b)).countP (fun t=>decide (inC l u t))=if VC l u a then (l.filter (both a b)).length else 0:=by
  have key: ∀ t∈l.filter (both a b),(inC l u t↔VC l u a):=fun t ht=>by
   obtain ⟨t1,t2⟩:=yR.1 ht;have t2:=(zVP.1 t2).1;exact ⟨fun ⟨v,hv,k⟩=>k.trans (.tri t1 hv t2),fun k=>⟨a,t2,k⟩⟩
  split
  ·rename_i k;exact List.countP_eq_length.2 fun t ht=>decide_eq_true ((key t ht).2 k)
  ·rename_i k;exact List.countP_eq_zero.2 fun t ht=>by rw [zF,key t ht];exact k
 rw [<- e2,Nat.add_comm];have:=List.countP_eq_countP_filter_add l (fun t=>decide (inC l u t)) (both a b);rw [this]
open Classical in
theorem zZI (h:jP V l) (f:zHY l a b) {Ls:List (List Int)} (hl:zG2 l Ls) (u:Int):clB (zDJ a b l) (zQV a b Ls) (ph a b u)+(if (a∈Ls.flatten/\b∈Ls.flatten)/\VC l u a then 1 else 0)=clB l Ls u:=by
 unfold clB zQV
 by_cases hb:b∈Ls.flatten
 ·rw [if_pos hb,<- List.filter_flatten,<- zGj (p:=fun v=>decide (VC l u v)) (a:=a) hl.nd (q:=fun v=>decide (VC (zDJ a b l) (ph a b u) v)) fun v hv=>decide_eq_decide.2 (z1h f hv h)]
  congr 1
  simp only [hb,and_true,zF]
 ·rw [if_neg hb,if_neg fun k=>hb k.1.2,<- List.map_flatten,List.countP_map,zBX];refine List.countP_congr fun v _=> ?_;show decide (VC (zDJ a b l) (ph a b u) (ph a b v))=true↔_;rw [zF,zF];exact zId h f
open Classical in
theorem zY2 (h:jP V l) (f:zHY l a b) (hB:zQl l a b) {Ls:List (List Int)} (hl:zG2 l Ls) (u:Int):clL (zDJ a b l) (zQV a b Ls) (ph a b u)=clL l Ls u:=by
 have key: ∀ L∈Ls,∀ L',((b∈Ls.flatten/\L'=L.filter fun v=>decide (v≠a))\/(b∉Ls.flatten/\L'=L.map (ph a b)))->((∃ v∈L',VC (zDJ a b l) (ph a b u) v)↔∃ v∈L,VC l u v):=fun L hL L' hk=>by
  constructor
  ·rintro ⟨v',hv',k⟩;obtain ⟨v,hv,rfl⟩:=(zFt hl f hB hL hk).1 hv';exact ⟨v,hv,(zId h f).1 k⟩
  ·rintro ⟨v,hv,k⟩;exact ⟨_,(zFt hl f hB hL hk).2 ⟨v,hv,rfl⟩,(zId h f).2 k⟩
 unfold clL
 by_cases hb:b∈Ls.flatten
 ·have e:zQV a b Ls=Ls.map fun L=>L.filter fun v=>decide (v≠a):=by unfold zQV;rw [if_pos hb]
  rw [e,List.countP_map];refine List.countP_congr fun L hL=> ?_;show decide (∃ v∈L.filter fun v=>decide (v≠a),VC (zDJ a b l) (ph a b u) v)=true↔_;rw [zF,zF];exact key L hL _ (.inl ⟨hb,rfl⟩)
 ·have e:zQV a b Ls=Ls.map fun L=>L.map (ph a b):=by unfold zQV;rw [if_neg hb]
  rw [e,List.countP_map];refine List.countP_congr fun L hL=> ?_;show decide (∃ v∈L.map (ph a b),VC (zDJ a b l) (ph a b u) v)=true↔_;rw [zF,zF];exact key L hL _ (.inr ⟨hb,rfl⟩)
end
section
variable {V:Int->Prop} {l:List P3} {r:Int->Int}
theorem zI5 (h:jP V l) (hi: ∀ v w,V v->V w->r v=r w->v=w) {u w:Int} (hu:V u) (hw:V w):VC (l.map (zHA r)) (r u) (r w)↔VC l u w:=by
 constructor
 ·intro hc
  obtain ⟨v,hv,e,k⟩:=hc (fun v'=> ∃ v,V v/\r v=v'/\VC l u v) (fun t' ht' p' q' hp' hq' ⟨v,hv,e,k⟩=>by
   obtain ⟨t,ht,rfl⟩:=zS.1 ht';obtain ⟨p,hp,ep⟩:=zBS.1 hp';obtain ⟨q,hq,eq⟩:=zBS.1 hq';have:v=p:=hi v p hv (h.ent t ht p hp) (e.trans ep.symm);subst this
   exact ⟨q,h.ent t ht q hq,eq,k.trans (.tri ht hp hq)⟩) ⟨u,hu,rfl,.refl u⟩
  rw [<- hi v w hv hw e];exact k
 ·intro hc Q hQ hq;exact hc (fun v=>Q (r v)) (fun t ht p q hp hq k=>hQ _ (zS.2 ⟨t,ht,rfl⟩) _ _ (zBS.2 ⟨p,hp,rfl⟩) (zBS.2 ⟨q,hq,rfl⟩) k) hq
theorem zPt (h:jP V l) (hi: ∀ v w,V v->V w->r v=r w->v=w) {w u:Int} (hw:V w) (hu:V u):bL (l.map (zHA r)) (r w) (r u)↔bL l w u:=by
 have key: ∀ {p q:Int},V p->V q->((∃ t∈l.map (zHA r),dE t (r p) (r q))↔∃ t∈l,dE t p q):=fun {p q} hp hq=>by
  constructor
  ·rintro ⟨t',ht',hd⟩;obtain ⟨t,ht,rfl⟩:=zS.1 ht';obtain ⟨p0,q0,d,e1,e2⟩:=zIK.1 hd;have k:=y9 d;rw [hi p0 p (h.ent t ht _ k.1) hp e1,hi q0 q (h.ent t ht _ k.2) hq e2] at d;exact ⟨t,ht,d⟩
  ·rintro ⟨t,ht,d⟩;exact ⟨_,zS.2 ⟨t,ht,rfl⟩,zIK.2 ⟨p,q,d,rfl,rfl⟩⟩
 unfold bL;rw [key hw hu,key hu hw]
theorem z0O (h:jP V l) {w u:Int} (k:bL l w u):V w/\V u:=by
 obtain ⟨⟨t,ht,d⟩,_⟩:=k;exact ⟨h.ent t ht _ (y9 d).1,h.ent t ht _ (y9 d).2⟩
theorem zUy (h:jP V l) {w' u':Int} (k:bL (l.map (zHA r)) w' u'): ∃ w u,V w/\V u/\r w=w'/\r u=u':=by
 obtain ⟨⟨t',ht',hd⟩,_⟩:=k;obtain ⟨t,ht,rfl⟩:=zS.1 ht';obtain ⟨p0,q0,d,e1,e2⟩:=zIK.1 hd;exact ⟨p0,q0,h.ent t ht _ (y9 d).1,h.ent t ht _ (y9 d).2,e1,e2⟩
theorem zYj (h:jP V l) (hi: ∀ v w,V v->V w->r v=r w->v=w) {Ls:List (List Int)} (hl:zG2 l Ls):zG2 (l.map (zHA r)) (Ls.map fun L=>L.map r):=by
 have hV: ∀ {u:Int},u∈Ls.flatten->V u:=fun hu=>by
  obtain ⟨w,hw⟩:=(zCm hl).1 hu;exact (z0O h hw).2
 have hinj: ∀ {L:List Int},(∀ u∈L,V u)->L.Nodup->(L.map r).Nodup:=fun hL hn =>
  List.Pairwise.map _ (fun v w hvw=>hvw) (hn.imp_of_mem fun {v w} hv hw ne e=>ne (hi v w (hL v hv) (hL w hw) e))
 refine ⟨fun L' hL'=> ?_,?_,fun u' ⟨w',hw'⟩=> ?_⟩
 ·obtain ⟨L,hL,rfl⟩:=zS.1 hL';have ok:=hl.ok L hL;have hLV: ∀ u∈L,V u:=fun u hu=>hV (List.mem_flatten.2 ⟨L,hL,hu⟩);refine ⟨fun e=>ok.ne (List.map_eq_nil_iff.1 e),hinj hLV ok.nd,fun u' hu'=> ?_,fun u' hu' w' hb=> ?_,fun Q ⟨u',hu',q⟩ hs v' hv'=> ?_⟩
  ·obtain ⟨u,hu,rfl⟩:=zS.1 hu';obtain ⟨w,hw⟩:=ok.brd u hu;exact ⟨r w,(zPt h hi (z0O h hw).1 (hLV u hu)).2 hw⟩
  ·obtain ⟨u,hu,rfl⟩:=zS.1 hu';obtain ⟨w,u2,hw,_,rfl,_⟩:=zUy h hb;exact zS.2 ⟨w,ok.clo u hu w ((zPt h hi hw (hLV u hu)).1 hb),rfl⟩
  ·obtain ⟨u,hu,rfl⟩:=zS.1 hu';obtain ⟨v,hv,rfl⟩:=zS.1 hv';exact ok.ind (fun v=>Q (r v)) ⟨u,hu,q⟩ (fun u w hb k=>hs _ _ ((zPt h hi (z0O h hb).1 (z0O h hb).2).2 hb) k) v hv
 ·rw [<- List.map_flatten];exact hinj (fun u hu=>hV hu) hl.nd
 ·obtain ⟨w,u,hw,hu,rfl,rfl⟩:=zUy h hw';rw [<- List.map_flatten];exact zS.2 ⟨u,hl.all u ⟨w,(zPt h hi hw hu).1 hw'⟩,rfl⟩
open Classical in
theorem z1R (h:jP V l) (hi: ∀ v w,V v->V w->r v=r w->v=w) {Vs:List Int} (hVs: ∀ v∈Vs,V v) {Ls:List (List Int)} (hl:zG2 l Ls) {u:Int} (hu:V u) :
 clV (l.map (zHA r)) (Vs.map r) (r u)=clV l Vs u/\clF (l.map (zHA r)) (r u)=clF l u/\clB (l.map (zHA r)) (Ls.map fun L=>L.map r) (r u)=clB l Ls u/\clL (l.map (zHA r)) (Ls.map fun L=>L.map r) (r u)=clL l Ls u:=by
 have hV: ∀ {u:Int},u∈Ls.flatten->V u:=fun hu=>by
  obtain ⟨w,hw⟩:=(zCm hl).1 hu;exact (z0O h hw).2
 refine ⟨?_,?_,?_,?_⟩
 ·unfold clV;rw [List.countP_map];refine List.countP_congr fun v hv=> ?_;show decide (VC _ (r u) (r v))=true↔_;rw [zF,zF];exact zI5 h hi hu (hVs v hv)
 ·unfold clF;rw [List.countP_map];refine List.countP_congr fun t ht=> ?_;show decide (inC _ (r u) (zHA r t))=true↔_;rw [zF,zF];constructor
  ·rintro ⟨v',hv',k⟩;obtain ⟨v,hv,rfl⟩:=zBS.1 hv';exact ⟨v,hv,(zI5 h hi hu (h.ent t ht v hv)).1 k⟩
  ·rintro ⟨v,hv,k⟩;exact ⟨_,zBS.2 ⟨v,hv,rfl⟩,(zI5 h hi hu (h.ent t ht v hv)).2 k⟩
 ·unfold clB;rw [<- List.map_flatten,List.countP_map];refine List.countP_congr fun v hv=> ?_;show decide (VC _ (r u) (r v))=true↔_;rw [zF,zF];exact zI5 h hi hu (hV hv)
 ·unfold clL;rw [List.countP_map];refine List.countP_congr fun L hL=> ?_;show decide (∃ v'∈L.map r,VC _ (r u) v')=true↔_;rw [zF,zF];constructor
  ·rintro ⟨v',hv',k⟩;obtain ⟨v,hv,rfl⟩:=zS.1 hv';exact ⟨v,hv,(zI5 h hi hu (hV (List.mem_flatten.2 ⟨L,hL,hv⟩))).1 k⟩
  ·rintro ⟨v,hv,k⟩;exact ⟨_,zS.2 ⟨v,hv,rfl⟩,(zI5 h hi hu (hV (List.mem_flatten.2 ⟨L,hL,hv⟩))).2 k⟩
end
end S1
namespace S1
section
variable {x:zX.T}
def zDB (x:zX.T) (j:Nat):Int:=(ofR x).getD j 0
def zL0 (x:zX.T) (v:Int):Int:=zDB x (yL x v / 3).toNat
def nF (x:zX.T) (s:Int):Nat:=(List.range x.1.2.length).countP fun j=>decide (zDB x j=s)
def nV (x:zX.T) (s:Int):Nat:=(List.range x.1.1.toNat).countP fun (v:Nat)=>decide (zL0 x v=s)
def nB (x:zX.T) (s:Int):Nat:=(List.range (3*x.1.2.length)).countP fun (c:Nat)=>decide (zAY x c<0)&&decide (zDB x (c / 3)=s)
def nL (x:zX.T) (s:Int):Nat:=(zAC x).countP fun L=>decide (zL0 x (L.getD 0 0)=s)
def vsX (x:zX.T):List Int:=(List.range x.1.1.toNat).map fun (v:Nat)=>(v:Int)
theorem zZT {L:List Int} {i:Nat} (h:i<L.length):L.getD i 0∈L:=by
 rw [gdE,gE h];exact y6 _
theorem zCQ (g:Full x) (hs:jP (InN x.1.1) x.1.2) {i j:Nat} (hi:i<x.1.2.length) (hj:j<x.1.2.length) {u w:Int} (h1:zV (tg x.1.2 i) u) (h2:zV (tg x.1.2 j) w):zDB x j=zDB x i↔VC x.1.2 u w:=by
 rw [<- zY3 g hs hi hj h1 h2,<- zDv g hi hj];exact ⟨fun e=>e.symm,fun e=>e.symm⟩
theorem zPl (g:Full x) (hs:jP (InN x.1.1) x.1.2) {v:Int} (hv:InN x.1.1 v):(yL x v / 3).toNat<x.1.2.length/\zV (tg x.1.2 (yL x v / 3).toNat) v:=by
 obtain ⟨k1,k2⟩:=g.vtx v hv.1 hv.2;have:=zBI k1;rw [k2] at this;exact this
theorem zIJ (g:Full x) (hs:jP (InN x.1.1) x.1.2) {i:Nat} (hi:i<x.1.2.length) {u v:Int} (h1:zV (tg x.1.2 i) u) (hv:InN x.1.1 v):zL0 x v=zDB x i↔VC x.1.2 u v:=by
 obtain ⟨k1,k2⟩:=zPl g hs hv;exact zCQ g hs hi k1 h1 k2
open Classical in
theorem z0p (g:Full x) (hs:jP (InN x.1.1) x.1.2) {i:Nat} (hi:i<x.1.2.length) {u:Int} (h1:zV (tg x.1.2 i) u):nV x (zDB x i)=clV x.1.2 (vsX x) u:=by
 unfold nV clV vsX;rw [List.countP_map];refine List.countP_congr fun v hv=> ?_;have hr:=zW.1 hv;show decide (zL0 x v=zDB x i)=true↔decide (VC x.1.2 u v)=true;rw [zF,zF];exact zIJ g hs hi h1 ⟨by omega,by omega⟩
theorem z0U (l:List P3):(List.range l.length).map (tg l)=l:=zJb (0,0,0) l
open Classical in
theorem z1K (g:Full x) (hs:jP (InN x.1.1) x.1.2) {i:Nat} (hi:i<x.1.2.length) {u:Int} (h1:zV (tg x.1.2 i) u):nF x (zDB x i)=clF x.1.2 u:=by
 unfold clF;have e:=List.countP_map (p:=fun t=>decide (inC x.1.2 u t)) (f:=tg x.1.2) (l:=List.range x.1.2.length);rw [z0U] at e;rw [e];refine List.countP_congr fun j hj=> ?_;have hr:=zW.1 hj;show decide (zDB x j=zDB x i)=true↔decide (inC x.1.2 u (tg x.1.2 j))=true;rw [zF,zF];constructor
 ·intro k;exact ⟨_,.inl rfl,(zCQ g hs hi hr h1 (.inl rfl)).1 k⟩
 ·rintro ⟨v,hv,k⟩;exact (zCQ g hs hi hr h1 hv).2 k
theorem zUG (g:Full x) {w u:Int} :bE x w u↔bL x.1.2 w u:=by
 rw [zMh g,zDS,zDS];rfl
theorem zPm (g:Full x) {L:List Int} (h:zEs x L):z1m x.1.2 L:=by
 have nxt: ∀ {u:Int},u∈L->∃ i,i<L.length/\L.getD i 0=u:=fun hu=>zLZ hu;refine ⟨fun e=> ?_,h.nd,fun u hu=> ?_,fun u hu w hw=> ?_,fun Q ⟨u,hu,q⟩ hs v hv=> ?_⟩
 ·have:=h.ne;rw [e] at this;exact absurd this (by decide)
 ·obtain ⟨i,hi,e⟩:=nxt hu;exact ⟨_,(zUG g).1 (by rw [<- e];exact h.cyc i hi)⟩
 ·obtain ⟨i,hi,e⟩:=nxt hu;have:=h.cyc i hi;rw [e] at this;rw [zN6 g ((zUG g).2 hw) this];exact zZT (Nat.mod_lt _ h.ne)
 ·obtain ⟨i,hi,e⟩:=nxt hu;obtain ⟨j,hj,e2⟩:=nxt hv
  have key: ∀ d,Q (L.getD ((i+d) % L.length) 0):=fun d=>by
   induction d with
   | zero=>rw [zBX,Nat.mod_eq_of_lt hi,e];exact q
   | succ d ih =>
     have hm:=Nat.mod_lt (i+d) h.ne;have:=hs _ _ ((zUG g).1 (h.cyc _ hm)) ih;rwa [Nat.mod_add_mod,zAP] at this
  have:=key (j+L.length - i);rw [show i+(j+L.length - i)=j+L.length by omega,Nat.add_mod_right,Nat.mod_eq_of_lt hj,e2] at this;exact this
theorem zUD (g:Full x):zG2 x.1.2 (zAC x):=by
 have h:=zEJ g;refine ⟨fun L hL=>zPm g (h.ok L hL),h.nd,fun u ⟨w,hw⟩=> ?_⟩;exact (zJF g).2 ⟨w,(zUG g).2 hw⟩
open Classical in
theorem z1D (g:Full x) (hs:jP (InN x.1.1) x.1.2) {i:Nat} (hi:i<x.1.2.length) {u:Int} (h1:zV (tg x.1.2 i) u):nL x (zDB x i)=clL x.1.2 (zAC x) u:=by
 unfold nL clL;refine List.countP_congr fun L hL=> ?_;rw [zF,zF];have ok:=(zEJ g).ok L hL;have h0:L.getD 0 0∈L:=zZT ok.ne
 have hin: ∀ {v:Int},v∈L->InN x.1.1 v:=fun hv=>by
  obtain ⟨w,hw⟩:=ok.bord hv;exact (zOe g hw).2.1
 rw [zIJ g hs hi h1 (hin h0)];constructor
 ·exact fun k=>⟨_,h0,k⟩
 ·rintro ⟨v,hv,k⟩;refine k.trans ?_;have hq:=zPm g ok
  exact (hq.ind (fun w=>VC x.1.2 v w) ⟨v,hv,.refl v⟩ (fun p w hb kp=>by
   obtain ⟨⟨t,ht,d⟩,_⟩:=hb
   exact kp.trans (.tri ht (y9 d).2 (y9 d).1)) _ h0)
open Classical in
theorem z1X (g:Full x) (hs:jP (InN x.1.1) x.1.2) {i:Nat} (hi:i<x.1.2.length) {u:Int} (h1:zV (tg x.1.2 i) u):nB x (zDB x i)=clB x.1.2 (zAC x) u:=by
 unfold nB clB;rw [List.countP_eq_length_filter,List.countP_eq_length_filter]
 have hb: ∀ {c:Nat},c∈(List.range (3*x.1.2.length)).filter (fun (c:Nat)=>decide (zAY x c<0)&&decide (zDB x (c / 3)=zDB x i))->zAX x (c:Int)=true/\zAY x c<0/\zDB x (c / 3)=zDB x i:=fun {c} hc=>by
  obtain ⟨k1,k2⟩:=yR.1 hc;rw [zA,zF,zF] at k2;have:=zW.1 k1;exact ⟨z6.2 ⟨by omega,by omega⟩,k2⟩
 rw [<- z2 (f:=fun (c:Nat)=>(qX x c).2)];refine zTU ?_ ((zEJ g).nd.sublist List.filter_sublist) fun v=> ?_
 ·refine List.Pairwise.map _ (fun c d h=>h) ((List.nodup_range.sublist List.filter_sublist).imp_of_mem fun {c d} hc hd ne e=>ne ?_);obtain ⟨c1,c2,_⟩:=hb hc;obtain ⟨d1,d2,_⟩:=hb hd;have e2:(qX x c).2=(qX x d).2:=e;have b1:bE x (qX x c).1 (qX x c).2:=⟨c,c1,c2,rfl⟩;have b2:bE x (qX x d).1 (qX x d).2:=⟨d,d1,d2,rfl⟩;rw [<- e2] at b2;have e1:=zN6 g b1 b2;have:=g.facing c1;rw [show qX x c=qX x d from Prod.ext e1 e2,g.facing d1] at this
  omega
 ·rw [zS,yR,zF];constructor
  ·rintro ⟨c,hc,rfl⟩;obtain ⟨c1,c2,c3⟩:=hb hc;have hcl:=(z6.1 c1);refine ⟨(zJF g).2 ⟨_,⟨c,c1,c2,rfl⟩⟩,?_⟩;have hk:=zDj c1;have ec:((c:Int) / 3).toNat=c / 3:=by omega
   rw [ec] at hk;exact (zCQ g hs hi hk.1 h1 (y9 hk.2).2).1 c3
  ·rintro ⟨hv,k⟩;obtain ⟨w,c,c1,c2,c3⟩:=(zJF g).1 hv;have hcl:=(z6.1 c1);have hk:=zDj c1;rw [c3] at hk;refine ⟨c.toNat,yR.2 ⟨zW.2 (by omega),?_⟩,?_⟩
   ·rw [zA,zF,zF,show ((c.toNat:Nat):Int)=c by omega];refine ⟨c2,?_⟩;have ec:(c / 3).toNat=c.toNat / 3:=by omega
    rw [<- ec];exact (zCQ g hs hi hk.1 h1 (y9 hk.2).2).2 k
   ·show (qX x ((c.toNat:Nat):Int)).2=v;rw [show ((c.toNat:Nat):Int)=c by omega,c3]
end
end S1
namespace S1
section
variable {l:List P3}
open Classical in
theorem zSY {Vs:List Int} {u w:Int} (h:VC l u w):clV l Vs u=clV l Vs w:=by
 unfold clV;exact List.countP_congr fun v _=>by rw [zF,zF];exact ⟨fun k=>h.symm.trans k,fun k=>h.trans k⟩
open Classical in
theorem zUs {u w:Int} (h:VC l u w):clF l u=clF l w:=by
 unfold clF
 exact List.countP_congr fun t _=>by
  rw [zF,zF];exact ⟨fun ⟨v,hv,k⟩=>⟨v,hv,h.symm.trans k⟩,fun ⟨v,hv,k⟩=>⟨v,hv,h.trans k⟩⟩
open Classical in
theorem zU1 {Ls:List (List Int)} {u w:Int} (h:VC l u w):clB l Ls u=clB l Ls w:=by
 unfold clB;exact List.countP_congr fun v _=>by rw [zF,zF];exact ⟨fun k=>h.symm.trans k,fun k=>h.trans k⟩
open Classical in
theorem zS7 {Ls:List (List Int)} {u w:Int} (h:VC l u w):clL l Ls u=clL l Ls w:=by
 unfold clL
 exact List.countP_congr fun L _=>by
  rw [zF,zF];exact ⟨fun ⟨v,hv,k⟩=>⟨v,hv,h.symm.trans k⟩,fun ⟨v,hv,k⟩=>⟨v,hv,h.trans k⟩⟩
open Classical in
theorem zVk {Vs Vs':List Int} (h:Vs.Perm Vs') (u:Int):clV l Vs u=clV l Vs' u:=h.countP_eq _
theorem zXD {Ls Ls':List (List Int)} (h:zG2 l Ls) (h':zG2 l Ls'):Ls.flatten.Perm Ls'.flatten :=
 (List.perm_ext_iff_of_nodup h.nd h'.nd).2 fun u=>by rw [zCm h,zCm h']
open Classical in
theorem zWf {Ls Ls':List (List Int)} (h:zG2 l Ls) (h':zG2 l Ls') (u:Int):clB l Ls u=clB l Ls' u:=(zXD h h').countP_eq _
theorem zQL {Ls Ls':List (List Int)} (h:zG2 l Ls) (h':zG2 l Ls') {L L':List Int} (hL:L∈Ls) (hL':L'∈Ls') {v:Int} (h1:v∈L) (h2:v∈L'): ∀ u,u∈L↔u∈L':=by
 have key: ∀ {Ls Ls':List (List Int)} (_:zG2 l Ls) (_:zG2 l Ls') {L L':List Int} (_:L∈Ls) (_:L'∈Ls') (_:v∈L) (_:v∈L'),∀ u∈L,u∈L':=fun {_ _} h h' {_ _} hL hL' h1 h2 =>
  (h.ok _ hL).ind _ ⟨v,h1,h2⟩ fun u w hb k=>(h'.ok _ hL').clo u k w hb
 exact fun u=>⟨key h h' hL hL' h1 h2 u,key h' h hL' hL h2 h1 u⟩
open Classical in
theorem zWE {Ls Ls':List (List Int)} (h:zG2 l Ls) (h':zG2 l Ls') (u:Int):clL l Ls u=clL l Ls' u:=by
 have ex: ∀ {Ls Ls':List (List Int)} (_:zG2 l Ls) (_:zG2 l Ls'),∀ L∈Ls,∃ L'∈Ls',∃ v,v∈L/\v∈L':=fun h h' L hL=>by
  obtain ⟨v,hv⟩:=List.exists_mem_of_ne_nil L (h.ok L hL).ne;obtain ⟨w,hw⟩:=(h.ok L hL).brd v hv;obtain ⟨L',hL',hv'⟩:=List.mem_flatten.1 (h'.all v ⟨w,hw⟩);exact ⟨L',hL',v,hv,hv'⟩
 have pw: ∀ {Ls Ls':List (List Int)} (_:zG2 l Ls) (_:zG2 l Ls'),Ls.Pairwise fun L M=> ∀ L'∈Ls',(∃ v,v∈L/\v∈L')->(∃ v,v∈M/\v∈L')->False:=fun {Ls Ls'} h h'=>by
  have hp:=(List.pairwise_flatten.1 h.nd).2;refine hp.imp_of_mem fun {L M} hL hM hd L' hL' ⟨v,v1,v2⟩ ⟨w,w1,w2⟩=> ?_;have m1:=(zQL h h' hL hL' v1 v2 w).2 w2;exact hd w m1 w w1 rfl
 have hE: ∀ (L L':List Int),(L∈Ls/\L'∈Ls'/\∃ v,v∈L/\v∈L')->decide (∃ v∈L,VC l u v)=decide (∃ v∈L',VC l u v):=fun L L' ⟨a,b,v,v1,v2⟩=>by
  have hm:=zQL h h' a b v1 v2;refine decide_eq_decide.2 ⟨fun ⟨w,hw,k⟩=>⟨w,(hm w).1 hw,k⟩,fun ⟨w,hw,k⟩=>⟨w,(hm w).2 hw,k⟩⟩
 have hm:=zJA (E:=fun L L'=>L∈Ls/\L'∈Ls'/\∃ v,v∈L/\v∈L') hE (A:=Ls) (B:=Ls')
  (fun L hL=>by
    obtain ⟨L',hL',v⟩:=ex h h' L hL
    exact ⟨L',hL',hL,hL',v⟩)
  (fun L' hL'=>by
    obtain ⟨L,hL,v,v1,v2⟩:=ex h' h L' hL'
    exact ⟨L,hL,hL,hL',v,v2,v1⟩)
  ((pw h h').imp fun k L' hL' a b=>k L' hL' a.2.2 b.2.2)
  ((pw h' h).imp fun k L hL a b=>k L hL (let ⟨v,p,q⟩:=a.2.2;⟨v,q,p⟩) (let ⟨v,p,q⟩:=b.2.2;⟨v,q,p⟩))
 have e:=hm.countP_eq (fun b=>b);rw [List.countP_map,List.countP_map] at e;exact e
end
section
variable {x y:zX.T}
def nSh (x:zX.T):Nat:=(ofL x x.1.2.length).2.toNat
theorem zL7 (g:Full x): ∀ i,i<=x.1.2.length->∀ s:Int,0<=s->s<(ofL x i).2->∃ t,t<x.1.2.length/\lb (ofL x i).1 t=s
 | 0,_,s,h0,h1=>by
   have:s<0:=h1;omega
 | i + 1,hi,s,h0,h1=>by
   obtain ⟨k1,k2,k3⟩:=zK1 g i (by omega);have e:ofL x (i+1)=ofI x (ofL x i) i:=rfl;rw [e] at h1 ⊢;unfold ofI at h1 ⊢;split at h1
   ·rename_i hg;rw [if_pos hg];exact zL7 g i (by omega) s h0 h1
   ·rename_i hg;rw [if_neg hg];obtain ⟨_,m2,m3,_⟩:=zPO g k2 k1 (by omega) hg;have h1:s<(ofL x i).2+1:=h1
    by_cases es:s=(ofL x i).2
    ·exact ⟨i,by omega,by rw [es];exact m2⟩
    ·obtain ⟨t,ht,et⟩:=zL7 g i (by omega) s h0 (by omega);exact ⟨t,ht,by rw [<- et];exact m3 t ht (by omega)⟩
theorem zKa (g:Full x) {s:Nat} (h:s<nSh x): ∃ t,t<x.1.2.length/\zDB x t=s:=by
 unfold nSh at h;exact zL7 g _ (zI _) s (by omega) (by omega)
theorem zFT (g:Full x) {t:Nat} (h:t<x.1.2.length):0<=zDB x t/\zDB x t<nSh x:=by
 obtain ⟨k1,k2,k3⟩:=zK1 g _ (zI x.1.2.length);have a:=k3 t h;have b:=k1.lt t h;unfold nSh;show 0<=lb (ofL x x.1.2.length).1 t/\lb (ofL x x.1.2.length).1 t<_;omega
structure zXK (x y:zX.T) (r:Int->Int):Prop where
 rng: ∀ u,InN x.1.1 u->InN y.1.1 (r u)
 vc: ∀ u w,InN x.1.1 u->InN x.1.1 w->(VC y.1.2 (r u) (r w)↔VC x.1.2 u w)
 sur: ∀ w,InN y.1.1 w->∃ u,InN x.1.1 u/\VC y.1.2 (r u) w
structure z0J (x y:zX.T) (r:Int->Int) (s t:Nat) (i j:Nat) (u w:Int):Prop where
 hi:i<x.1.2.length
 hj:j<y.1.2.length
 li:zDB x i=s
 lj:zDB y j=t
 hu:zV (tg x.1.2 i) u
 hw:zV (tg y.1.2 j) w
 vc:VC y.1.2 (r u) w
end
end S1
namespace S1
def zWI (a b v:Int):Int:=dn a (ph a b v)
section
variable {x:zX.T} {a b:Int}
theorem zKO (g:Full x) (hs:jP (InN x.1.1) x.1.2) (hab:a≠b) (hn: ∃ t∈x.1.2,zV t a/\zV t b):((x.1.2.filter (both a b)).length=2/\¬ (bL x.1.2 a b\/bL x.1.2 b a))\/((x.1.2.filter (both a b)).length=1/\(bL x.1.2 a b\/bL x.1.2 b a)):=by
 have hk:=zHi g hs ((zCP g hab).2 hn);rw [<- hk];have e1:qM x (a,b)>=0↔∃ t∈x.1.2,dE t a b:=by rw [zBz g,zDS]
 have e2:qM x (b,a)>=0↔∃ t∈x.1.2,dE t b a:=by rw [zBz g,zDS]
 have hor:(∃ t∈x.1.2,dE t a b)\/∃ t∈x.1.2,dE t b a:=by
  obtain ⟨t,ht,h1,h2⟩:=hn;rcases zJn hab h1 h2 with k|k
  ·exact .inl ⟨t,ht,k⟩
  ·exact .inr ⟨t,ht,k⟩
 unfold zDm bL
 by_cases k1: ∃ t∈x.1.2,dE t a b
 ·by_cases k2: ∃ t∈x.1.2,dE t b a
  ·rw [if_pos (e1.2 k1),if_pos (e2.2 k2)];exact .inl ⟨rfl,fun q=>q.elim (fun q=>q.2 k2) fun q=>q.2 k1⟩
  ·rw [if_pos (e1.2 k1),if_neg fun q=>k2 (e2.1 q)];exact .inr ⟨rfl,.inl ⟨k1,k2⟩⟩
 ·have k2:=hor.resolve_left k1;rw [if_neg fun q=>k1 (e1.1 q),if_pos (e2.2 k2)];exact .inr ⟨rfl,.inr ⟨k2,k1⟩⟩
end
section
variable {s:Int×List P3} {a b:Int}
structure z0R (s:Int×List P3) (a b:Int):Prop where
 gx:Full (jO s)
 mx:jP (InN (jO s).1.1) (jO s).1.2
 ex:(jO s).1=s
 gy:Full (jO (zDE s a b))
 my:jP (InN (jO (zDE s a b)).1.1) (jO (zDE s a b)).1.2
 ey:(jO (zDE s a b)).1=zDE s a b
 fr:zHY s.2 a b
 ia:InN s.1 a
 ib:InN s.1 b
 mc:jP (fun v=>InN s.1 v/\v≠a) (zDJ a b s.2)
 br:zQl s.2 a b
theorem z2C (c:z0R s a b) {u:Int} (h:InN s.1 u):InN s.1 (ph a b u)/\ph a b u≠a:=by
 by_cases e:u=a
 ·rw [e,zXz];exact ⟨c.ib,c.fr.ne.symm⟩
 ·rw [zNS e];exact ⟨h,e⟩
theorem dnI: ∀ v w,(InN s.1 v/\v≠a)->(InN s.1 w/\w≠a)->dn a v=dn a w->v=w:=fun v w hv hw e=>by
 have h1:=hv.2;have h2:=hw.2;unfold dn at e;split at e<;>split at e<;>omega
theorem z0n (c:z0R s a b):(vsX (jO (zDE s a b))).Perm (((vsX (jO s)).filter fun v=>decide (v≠a)).map (dn a)):=by
 have e1:(jO s).1.1=s.1:=by rw [c.ex]
 have e3:(jO (zDE s a b)).1.1=s.1 - 1:=by rw [c.ey];rfl
 have ia:=c.ia;unfold InN at ia
 have nd: ∀ x:zX.T,(vsX x).Nodup:=fun x=>by
  unfold vsX;exact List.Pairwise.map _ (fun i j h e=>h (Int.ofNat.inj e)) List.nodup_range
 have mem: ∀ (x:zX.T) (v:Int),v∈vsX x↔0<=v/\v<x.1.1:=fun x v=>by
  unfold vsX;rw [zS];constructor
  ·rintro ⟨i,hi,rfl⟩;have:=zW.1 hi;omega
  ·intro h;exact ⟨v.toNat,zW.2 (by omega),by omega⟩
 refine (List.perm_ext_iff_of_nodup (nd _) ?_).2 fun v=> ?_
 ·refine List.Pairwise.map _ (fun v w h=>h) (((nd _).sublist List.filter_sublist).imp_of_mem fun {v w} hv hw ne e=>ne ?_);have h1:=(yR.1 hv).2;have h2:=(yR.1 hw).2;rw [zF] at h1 h2;unfold dn at e;split at e<;>split at e<;>omega
 ·rw [mem,e3,zS];constructor
  ·intro h
   by_cases q:v<a
   ·refine ⟨v,yR.2 ⟨(mem _ _).2 (by rw [e1];omega),by rw [zF];omega⟩,?_⟩;unfold dn;rw [if_neg (by omega)]
   ·refine ⟨v+1,yR.2 ⟨(mem _ _).2 (by rw [e1];omega),by rw [zF];omega⟩,?_⟩;unfold dn;rw [if_pos (by omega)];omega
  ·rintro ⟨w,hw,rfl⟩;obtain ⟨h1,h2⟩:=yR.1 hw;rw [zF] at h2;have:=(mem _ _).1 h1;rw [e1] at this;unfold dn;split<;>omega
open Classical in
theorem zVR (hs:zJh s) (c:z0R s a b) {p q i j:Nat} {u w:Int} (m:z0J (jO s) (jO (zDE s a b)) (zWI a b) p q i j u w) :
 nV (jO (zDE s a b)) q+(if VC s.2 u a then 1 else 0)=nV (jO s) p/\
 nF (jO (zDE s a b)) q+(if VC s.2 u a then (s.2.filter (both a b)).length else 0)=nF (jO s) p/\
 nB (jO (zDE s a b)) q+(if VC s.2 u a then 2 - (s.2.filter (both a b)).length else 0)=nB (jO s) p/\
 nL (jO (zDE s a b)) q=nL (jO s) p:=by
 have hm:=zBd hs;have e1:(jO s).1.1=s.1:=by rw [c.ex]
 have e2:(jO s).1.2=s.2:=by rw [c.ex]
 have e4:(jO (zDE s a b)).1.2=(zDJ a b s.2).map (zHA (dn a)):=by rw [c.ey];rfl
 have hlx:=zUD c.gx;rw [e2] at hlx;have hly:=zUD c.gy;rw [e4] at hly;have hlc:=zZj hm c.fr c.br hlx;have hlm:=zYj c.mc dnI hlc;have hu0:InN s.1 u:=by rw [<- e1];exact c.mx.ent _ (qU m.hi) _ m.hu
 have hu:=z2C c hu0
 have hia:a∈vsX (jO s):=by
  have:=c.ia;unfold InN at this;unfold vsX;rw [zS];exact ⟨a.toNat,zW.2 (by rw [e1];omega),by omega⟩
 have ndx:(vsX (jO s)).Nodup:=by
  unfold vsX;exact List.Pairwise.map _ (fun i j h e=>h (Int.ofNat.inj e)) List.nodup_range
 obtain ⟨n1,n2,n3,n4⟩:=z1R c.mc dnI (Vs:=(vsX (jO s)).filter fun v=>decide (v≠a)) (fun v hv=>by
  obtain ⟨h1,h2⟩:=yR.1 hv;rw [zF] at h2;refine ⟨?_,h2⟩;unfold vsX at h1;obtain ⟨k,hk,rfl⟩:=zS.1 h1;have:=zW.1 hk;rw [e1] at this
  exact ⟨by omega,by omega⟩) hlc hu
 have hvc:VC ((zDJ a b s.2).map (zHA (dn a))) w (dn a (ph a b u)):=by
  have:=m.vc.symm;rw [e4] at this;exact this
 have rx1:=z0p c.gx c.mx m.hi m.hu;have rx2:=z1K c.gx c.mx m.hi m.hu;have rx3:=z1X c.gx c.mx m.hi m.hu;have rx4:=z1D c.gx c.mx m.hi m.hu;have ry1:=z0p c.gy c.my m.hj m.hw;have ry2:=z1K c.gy c.my m.hj m.hw;have ry3:=z1X c.gy c.my m.hj m.hw;have ry4:=z1D c.gy c.my m.hj m.hw;rw [m.li,e2] at rx1 rx2 rx3 rx4;rw [m.lj,e4] at ry1 ry2 ry3 ry4;rw [zVk (z0n c),zSY hvc,n1] at ry1;rw [zUs hvc,n2] at ry2;rw [zWf hly hlm,zU1 hvc,n3] at ry3
 rw [zWE hly hlm,zS7 hvc,n4] at ry4;rw [rx1,rx2,rx3,rx4,ry1,ry2,ry3,ry4];refine ⟨zZ5 hm c.fr ndx hia u,zYL hm c.fr u,?_,zY2 hm c.fr c.br hlx u⟩;rw [<- zZI hm c.fr hlx u]
 congr 1
 have hfc:=zKO (x:=jO s) (a:=a) (b:=b) c.gx c.mx c.fr.ne (by rw [e2];exact c.fr.near);rw [e2] at hfc
 have hbb:(a∈(zAC (jO s)).flatten/\b∈(zAC (jO s)).flatten)↔(bL s.2 a b\/bL s.2 b a):=by
  rw [zCm hlx,zCm hlx];constructor
  ·exact fun ⟨h1,h2⟩=>c.br h1 h2
  ·have nxt: ∀ {p q:Int},bL s.2 q p->∃ z,bL s.2 z q:=fun {p q} h=>by
    obtain ⟨L,hL,hp⟩:=List.mem_flatten.1 (hlx.all p ⟨q,h⟩);exact (hlx.ok L hL).brd q ((hlx.ok L hL).clo p hp q h)
   rintro (h|h)
   ·exact ⟨nxt h,a,h⟩
   ·exact ⟨⟨b,h⟩,nxt h⟩
 by_cases v:VC s.2 u a
 ·rcases hfc with ⟨h2,hno⟩|⟨h1,hy⟩
  ·rw [if_pos v,if_neg fun k=>hno (hbb.1 k.1),h2]
  ·rw [if_pos v,if_pos ⟨hbb.2 hy,v⟩,h1]
 ·rw [if_neg v,if_neg fun k=>v k.2]
end
structure GN where
 V:Int
 E:Int
 F:Int
 B:Int
 Eu:Int
 Ge:Int
def z3N (V F T L:Nat):GN:=⟨V,((3*F+T) / 2:Nat),F,L,(V:Int) - ((3*F+T) / 2:Nat)+F,(2 - (L:Int) - ((V:Int) - ((3*F+T) / 2:Nat)+F)).tdiv 2⟩
def gnT (x:zX.T) (s:Nat):GN:=z3N (nV x s) (nF x s) (nB x s) (nL x s)
section
variable {s:Int×List P3} {a b:Int}
open Classical in
theorem zJp (hs:zJh s) (c:z0R s a b) {p q i j:Nat} {u w:Int} (m:z0J (jO s) (jO (zDE s a b)) (zWI a b) p q i j u w) :
 (gnT (jO (zDE s a b)) q).V=(gnT (jO s) p).V - (if VC s.2 u a then 1 else 0)/\
 (gnT (jO (zDE s a b)) q).E=(gnT (jO s) p).E - (if VC s.2 u a then (s.2.filter (both a b)).length+1 else 0:Nat)/\
 (gnT (jO (zDE s a b)) q).F=(gnT (jO s) p).F - (if VC s.2 u a then (s.2.filter (both a b)).length else 0:Nat)/\
 (gnT (jO (zDE s a b)) q).B=(gnT (jO s) p).B/\(gnT (jO (zDE s a b)) q).Eu=(gnT (jO s) p).Eu/\(gnT (jO (zDE s a b)) q).Ge=(gnT (jO s) p).Ge:=by
 obtain ⟨h1,h2,h3,h4⟩:=zVR hs c m;have e2:(jO s).1.2=s.2:=by rw [c.ex]
 have hfc:=zKO (x:=jO s) (a:=a) (b:=b) c.gx c.mx c.fr.ne (by rw [e2];exact c.fr.near);rw [e2] at hfc
 have hf:(s.2.filter (both a b)).length=1\/(s.2.filter (both a b)).length=2:=by
  rcases hfc with k|k
  ·exact .inr k.1
  ·exact .inl k.1
 generalize (s.2.filter (both a b)).length=fc at *;unfold gnT z3N;dsimp only;rw [h4]
 by_cases hv:VC s.2 u a
 ·simp only [if_pos hv] at *
  have e:(3*nF (jO (zDE s a b)) q+nB (jO (zDE s a b)) q) / 2+(fc+1)=(3*nF (jO s) p+nB (jO s) p) / 2:=by
   rcases hf with k|k<;>subst k<;>omega
  have eu:((nV (jO (zDE s a b)) q:Nat):Int) - ((3*nF (jO (zDE s a b)) q+nB (jO (zDE s a b)) q) / 2:Nat)+(nF (jO (zDE s a b)) q:Nat)=((nV (jO s) p:Nat):Int) - ((3*nF (jO s) p+nB (jO s) p) / 2:Nat)+(nF (jO s) p:Nat):=by omega
  refine ⟨by omega,by omega,by omega,by first|rfl|trivial,eu,by rw [eu]⟩
 ·simp only [if_neg hv,zBX] at *;rw [h1,h2,h3];refine ⟨by omega,by omega,by omega,by first|rfl|trivial,by first|rfl|trivial,by first|rfl|trivial⟩
end
end S1
namespace S1
def zCl:List Int->Int
 | []=>0
 | a::r=>a+zCl r
section
variable {s:Int×List P3} {a b:Int}
end
section
variable {x y:zX.T}
theorem z4n (g:Full x): ∀ i,i<=x.1.2.length->(∀ s:Int,0<=s->s<(ofL x i).2->∃ t,t<i/\lb (ofL x i).1 t=s)/\∀ t,t<x.1.2.length->0<=lb (ofL x i).1 t->∀ s:Int,0<=s->s<lb (ofL x i).1 t->∃ t',t'<t/\lb (ofL x i).1 t'=s
 | 0,_=>by
   refine ⟨fun s h0 h1=> ?_,fun t ht h0=> ?_⟩
   ·have:s<0:=h1;omega
   ·have:lb (ofL x 0).1 t= -1:=by
     show (List.replicate x.1.2.length (-1:Int)).getD t 0= -1;rw [gdE,yU,if_pos ht];rfl
    omega
 | i + 1,hi=>by
   obtain ⟨k1,k2,k3⟩:=zK1 g i (by omega);obtain ⟨f1,f2⟩:=z4n g i (by omega);show (∀ s:Int,0<=s->s<(ofI x (ofL x i) i).2->∃ t,t<i+1/\lb (ofI x (ofL x i) i).1 t=s)/\∀ t,t<x.1.2.length->0<=lb (ofI x (ofL x i) i).1 t->∀ s:Int,0<=s->s<lb (ofI x (ofL x i) i).1 t->∃ t',t'<t/\lb (ofI x (ofL x i) i).1 t'=s;unfold ofI;split
   ·refine ⟨fun s h0 h1=> ?_,f2⟩;obtain ⟨t,ht,e⟩:=f1 s h0 h1;exact ⟨t,by omega,e⟩
   ·rename_i hg;obtain ⟨_,m2,m3,m4⟩:=zPO g k2 k1 (by omega) hg
    have keep: ∀ {s:Int} {t:Nat},t<i->lb (ofL x i).1 t=s->0<=s->lb (bfs x (ofL x i).2 10000 0 ((ofL x i).1.set i (ofL x i).2,[(i:Int)])).1 t=s:=fun {s t} ht e h0=>by
     rw [<- e];exact m3 t (by omega) (by omega)
    refine ⟨fun s h0 h1=> ?_,fun t ht h0 s hs0 hs1=> ?_⟩
    ·have h1:s<(ofL x i).2+1:=h1
     by_cases es:s=(ofL x i).2
     ·exact ⟨i,by omega,by rw [es];exact m2⟩
     ·obtain ⟨t,ht,e⟩:=f1 s h0 (by omega);exact ⟨t,by omega,keep ht e h0⟩
    ·rcases m4 t ht with e|⟨e,hneg⟩
     ·have e':lb (bfs x (ofL x i).2 10000 0 ((ofL x i).1.set i (ofL x i).2,[(i:Int)])).1 t=lb (ofL x i).1 t:=e;have h0':0<=lb (ofL x i).1 t:=by rw [<- e'];exact h0
      have hs1':s<lb (ofL x i).1 t:=by rw [<- e'];exact hs1
      obtain ⟨t',ht',e2⟩:=f2 t ht h0' s hs0 hs1';refine ⟨t',ht',?_⟩;show lb (bfs x (ofL x i).2 10000 0 ((ofL x i).1.set i (ofL x i).2,[(i:Int)])).1 t'=s;rw [<- e2];exact m3 t' (by omega) (by omega)
     ·have e':lb (bfs x (ofL x i).2 10000 0 ((ofL x i).1.set i (ofL x i).2,[(i:Int)])).1 t=(ofL x i).2:=e;have hs1':s<(ofL x i).2:=by rw [<- e'];exact hs1
      have hti:i<=t:=by
       apply yE;intro hlt;have:=k3 t (by omega);omega
      obtain ⟨t',ht',e2⟩:=f1 s hs0 hs1';exact ⟨t',by omega,keep ht' e2 hs0⟩
theorem z6K (g:Full x) {t:Nat} (ht:t<x.1.2.length) {s:Int} (h0:0<=s) (h1:s<zDB x t): ∃ t',t'<t/\zDB x t'=s :=
 (z4n g _ (zI _)).2 t ht (zFT g ht).1 s h0 h1
theorem z6X (g:Full x) (g':Full y) {m:Nat} (hx:m<=x.1.2.length) (hy:m<=y.1.2.length) (h: ∀ i j,i<m->j<m->(zDB x i=zDB x j↔zDB y i=zDB y j)): ∀ t,t<m->zDB x t=zDB y t:=by
 have half: ∀ {x y:zX.T} (_:Full x) (_:Full y) (_:m<=x.1.2.length) (_:m<=y.1.2.length),(∀ i j,i<m->j<m->(zDB x i=zDB x j↔zDB y i=zDB y j))->∀ t,t<m->(∀ t',t'<t->zDB x t'=zDB y t')->¬ zDB x t<zDB y t:=fun {x y} g g' hx hy h t ht ih hlt=>by
  have r:=zFT g (t:=t) (by omega);obtain ⟨t',ht',e⟩:=z6K g' (t:=t) (by omega) r.1 hlt;rw [<- ih t' ht'] at e;have:=(h t' t (by omega) ht).1 e;rw [<- ih t' ht',e] at this;omega
 intro t
 induction t using Nat.strongRecOn with
 | ind t ih =>
   intro ht;have a:=half g g' hx hy h t ht fun t' ht'=>ih t' ht' (by omega);have b:=half g' g hy hx (fun i j hi hj=>(h i j hi hj).symm) t ht fun t' ht'=>(ih t' ht' (by omega)).symm;omega
end
end S1
namespace S1
def cntF (l:List Int):Nat->Int
 | 0=>0
 | i+1=>max (cntF l i) (l.getD i 0+1)
def zTN (l:List Int):Spec Nat where
 inv i:=i<=l.length
 live i:=[(9,.s (.int .i64 i)),(3,.s (.int .i64 (cntF l i)))]
 keep:=[0,7,8]
 heap _:=[]
 keepH:=[]
 mu i:=l.length - i
theorem z0g (l:List Int) (i:Nat):cntF l (i+1)=max (cntF l i) (l.getD i 0+1):=rfl
theorem zHN {x:zX.T} (g:Good x):(ofR x).length=x.1.2.length:=(zJa g _ (zI _)).1
theorem zRU {x:zX.T} (g:Good x):nSh x<=x.1.2.length:=by
 have:=(zJa g _ (zI _)).2;unfold nSh;omega
theorem z1J {x:zX.T} (g:Full x) {i:Nat} (h:i<(ofR x).length):0<=(ofR x).getD i 0/\(ofR x).getD i 0<=8192:=by
 rw [zHN g.toGood] at h;have r:0<=(ofR x).getD i 0/\(ofR x).getD i 0<nSh x:=zFT g h;have:=zRU g.toGood;have:=g.fit.2.2.1;omega
attribute [local irreducible] cntF ofR
theorem zVW (x:zX.T) (g:Full x):zB7 ⟨tyL,[(39,zQu)],[]⟩ Try.f20 [(ETy.pt zX).av (some x)] (fun r=>r= .s (.int .i64 (cntF (ofR x) (ofR x).length))):=by
 repeat' (conv=>whnf
          first|done|refine qy ?_|refine qG fun _=> ?_|refine qw (fun _=> ?_) (fun _=> ?_)|apply qt|refine qi (fun _=> ?_) (fun _=> ?_)|(refine j6 3 rfl (zTN (ofR x)) (0) ?_ ?_ ?_ fun i hi=> ?_)|with_reducible refine jX (zTN _) (i+1) ?_ ?_ ?_ ?_|refine qu ?_|refine qv ?_ ?_|exact zT)
 all_goals try first|refine qz ?_|apply qz5
 all_goals try simp only [qn0,yC,yA,ETy.dflt,Int.reduceToNat,Int.reduceAdd,Int.reduceSub,Int.reduceNeg,Nat.reduceAdd,zTN] at *
 all_goals try (refine qh ?_;omega)
 all_goals try exact z0g _ _
 all_goals try (unfold cntF;rfl)
 all_goals try exact qh g.toGood
 all_goals try
  have ei:i=(ofR x).length:=by omega
  subst ei;rfl
 have hl:=z1J g (i:=i) (by omega);refine qh ?_;unfold zAL;omega
attribute [local semireducible] cntF ofR
theorem zY7 {x:zX.T} (g:Full x):cntF (ofR x) (ofR x).length=nSh x:=by
 have hlen:=zHN g.toGood
 have h1: ∀ i,i<=x.1.2.length->cntF (ofR x) i<=nSh x/\∀ j,j<i->zDB x j+1<=cntF (ofR x) i:=fun i=>by
  induction i with
  | zero=>exact fun _=>⟨by show (0:Int)<=_;omega,fun j hj=>absurd hj (Nat.not_lt_zero _)⟩
  | succ i ih =>
    intro hi;obtain ⟨a,b⟩:=ih (by omega);have r:=zFT g (t:=i) (by omega);have e:cntF (ofR x) (i+1)=max (cntF (ofR x) i) (zDB x i+1):=rfl;rw [e];refine ⟨by omega,fun j hj=> ?_⟩
    by_cases q:j=i
    ·subst q;omega
    ·have:=b j (by omega);omega
 rw [hlen];obtain ⟨a,b⟩:=h1 _ (zI _)
 by_cases h0:nSh x=0
 ·have:(0:Int)<=cntF (ofR x) x.1.2.length:=by
   have: ∀ i,(0:Int)<=cntF (ofR x) i:=fun i=>by
    induction i with
    | zero=>exact Int.le_refl 0
    | succ i ih=>show (0:Int)<=max (cntF (ofR x) i) _;omega
   exact this _
  omega
 ·obtain ⟨t,ht,et⟩:=zKa g (s:=nSh x - 1) (by omega);have:=b t ht;omega
def zSL:List AV->Option Res:=zO8 zX (fun x=>some (none,some (Full x),.s (.int .i64 (nSh x))))
theorem zWB:zAI prog 20 zSL:=mkR (zE7 fun x r h=>by
 cases h
 exact fb (fn:=[(39,zQu)]) ⟨zNu,trivial⟩ func20 fun _ h=>by rw [<- zY7 h];exact zVW x h) func20
end S1
