/- A part of the proofs of the laws. -/
import Derived.Test.YtlhoihabllompaaGreatT0toVmInl
import Derived.Test.YtlhoihabllompaaGreatT5toT22
set_option linter.unusedSimpArgs false
set_option linter.unusedVariables false
set_option maxHeartbeats 8000000
set_option maxRecDepth 100000
open Go.Proofs.Tryz
open Go Go.Vm Go.Proofs
namespace S1
theorem zV9: ∀ (ks l:List Int),ks.Nodup->(∀ x∈ks,x∈l)->l.length<=ks.length->∀ x∈l,x∈ks
 | [],l,_,_,hl,x,hx=>by
   have:l=[]:=zbh.1 (Nat.le_zero.1 hl);subst this;cases hx
 | a::r,l,hd,hs,hl,x,hx=>by
   have hd:=zbG.1 hd;have ha:=hs a (zY ..);have hle:(l.erase a).length=l.length - 1:=List.length_erase_of_mem ha;have ih:=zV9 r (l.erase a) hd.2 (fun y hy=>(List.mem_erase_of_ne (fun e=>hd.1 (by rw [<- e];exact hy))).2 (hs y (zQ _ hy))) (by rw [hle];simp only [yA] at hl;omega)
   by_cases e:x=a
   ·rw [e];exact zY ..
   ·exact zQ _ (ih x ((List.mem_erase_of_ne e).2 hx))
theorem zYq (t:P3) {k:Nat} (h:k<3):(trl t).getD k 0∈trl t:=jB (by simpa [trl] using h)
def z40 (l:List P3) (v:Int) (tris:List Int) (m:zC5):Prop:= ∀ w,∀ x∈zAy m w,x∈tris/\w∈trl (tri l x)/\w≠v
theorem z6G {l:List P3} {v i:Int} {tris:List Int} {m:zC5} {k:Nat} (hi:i∈tris) (hk:k<3) (h:z40 l v tris m):z40 l v tris (enW v i (tri l i) m k):=by
 intro w x hx;unfold enW at hx;split at hx
 ·exact h w x hx
 ·rename_i hn;rw [zEY] at hx;split at hx
  ·rename_i e;subst e;rw [yD,zF] at hx;rcases hx with hx|hx
   ·exact h _ x hx
   ·rw [hx];exact ⟨hi,zYq _ hk,hn⟩
  ·exact h w x hx
theorem z2g (l:List P3) (v:Int) (tris:List Int):z40 l v tris (enA l v tris tris.length) :=
 qX (n:=tris.length) (fun _ (m:zC5)=>z40 l v tris m) (fun w x hx=>by simp [zAy,jS] at hx) (fun j m hj h =>
  qX (n:=3) (fun _ (m:zC5)=>z40 l v tris m) h (fun k m hk h=>z6G (jB hj) hk h) 3 (zI _)) _ (zI _)
def zE3 (m:ReM):List Int:=m.map Prod.fst
theorem zIm (k:Int): ∀ m:ReM,(∀ x,x∈zE3 (zAB (.int .i64) m k true)->x=k\/x∈zE3 m)/\((zE3 m).Nodup->(zE3 (zAB (.int .i64) m k true)).Nodup)
 | []=>⟨fun x h=>by simpa [zE3,zAB] using h,fun _=>by simp [zE3,zAB]⟩
 | (a, b)::r=>by
   obtain ⟨h1,h2⟩:=zIm k r;simp only [zAB];split
   ·rename_i e;refine ⟨fun x h=> ?_,fun h=> ?_⟩
    ·exact .inr h
    ·exact h
   ·rename_i e _;refine ⟨fun x h=> ?_,fun h=> ?_⟩
    ·rcases zT.1 h with h|h
     ·exact .inr (by rw [h];exact zY ..)
     ·rcases h1 x h with h|h
      ·exact .inl h
      ·exact .inr (zQ _ h)
    ·have h:=zbG.1 h;refine zbG.2 ⟨fun hm=> ?_,h2 h.2⟩;rcases h1 a hm with hm|hm
     ·exact e hm
     ·exact h.1 hm
structure z2R (tris:List Int) (Q:Int->Prop) (S:TgS):Prop where
 q: ∀ x∈S.2.1,x∈tris/\Q x
 k: ∀ x∈zE3 S.2.2,x∈tris/\Q x
 nd:(zE3 S.2.2).Nodup
theorem z6I {tris av:List Int} {Q:Int->Prop} {S:TgS} {j:Nat} (h:z2R tris Q S) (ha:av.getD j 0∈tris/\Q (av.getD j 0)):z2R tris Q (vis av S j):=by
 unfold vis;split
 ·exact h
 ·refine ⟨fun x hx=> ?_,fun x hx=> ?_,(zIm _ _).2 h.nd⟩
  ·rcases yD.1 hx with hx|hx
   ·exact h.q x (zb1 hx)
   ·rw [zF.1 hx];exact ha
  ·rcases (zIm _ _).1 x hx with hx|hx
   ·rw [hx];exact ha
   ·exact h.k x hx
theorem z7Y {l:List P3} {v i:Int} {tris:List Int} {Q:Int->Prop} {E:zC5} (hE:z40 l v tris E) (hc: ∀ i∈tris,∀ j∈tris,(∃ w,w≠v/\w∈trl (tri l i)/\w∈trl (tri l j))->Q i->Q j)
 (hi:i∈tris/\Q i) {S:TgS} (h:z2R tris Q S):z2R tris Q (qA (tgW E v (tri l i)) S 3) :=
 qX (n:=3) (fun _ (S:TgS)=>z2R tris Q S) h (fun k S hk h=>by
  unfold tgW;split
  ·exact h
  ·rename_i hn
   exact qX (n:=(zAy E ((trl (tri l i)).getD k 0)).length) (fun _ (S:TgS)=>z2R tris Q S) h (fun j S hj h=>by
    have:=hE _ _ (jB hj)
    exact z6I h ⟨this.1,hc i hi.1 _ this.1 ⟨_,this.2.2,zYq _ hk,this.2.1⟩ hi.2⟩) _ (zI _)) 3 (zI _)
theorem z2q {l:List P3} {v x0:Int} {tris:List Int} {Q:Int->Prop} {E:zC5} (hE:z40 l v tris E) (hc: ∀ i∈tris,∀ j∈tris,(∃ w,w≠v/\w∈trl (tri l i)/\w∈trl (tri l j))->Q i->Q j)
 (h0:x0∈tris/\Q x0) (r:Nat):z2R tris Q (tgS E l v x0 r) :=
 qX (n:=r) (fun _ (S:TgS)=>z2R tris Q S) ⟨fun x hx=>by rw [zF.1 hx];exact h0,fun x hx=>by rw [zF.1 hx];exact h0,(by show [x0].Nodup;exact zbG.2 ⟨by simp,zbS⟩)⟩ (fun j S _ h=>by
  unfold tgR;split
  ·rename_i hs;exact z7Y hE hc (h.q _ (jB hs)) (S:=(S.1+1,S.2.1,S.2.2)) ⟨h.q,h.k,h.nd⟩
  ·exact h) r (zI _)
theorem z3N {l:List P3} {v:Int} {tris:List Int} (ht:tris≠[]) (h:zT2 l v tris=true) (Q:Int->Prop) (h0:Q (tris.getD 0 0))
 (hc: ∀ i∈tris,∀ j∈tris,(∃ w,w≠v/\w∈trl (tri l i)/\w∈trl (tri l j))->Q i->Q j): ∀ i∈tris,Q i:=by
 have hm:tris.getD 0 0∈tris:=jB (zbl.2 ht);have k:=z2q (x0:=tris.getD 0 0) (z2g l v tris) hc ⟨hm,h0⟩ (2*tris.length+2);unfold zT2 at h;have h:=eq_of_beq h;intro i hi;refine (k.k i (zV9 _ tris k.nd (fun x hx=>(k.k x hx).1) ?_ i hi)).2;unfold zE3;rw [yV];omega
end S1
namespace S1
theorem zPk {s:List (List Int)} {w:Int} {j v:Nat} {x:Int} (hw:0<=w) (hv:v<s.length):x∈(atP s w j).getD v []↔x∈s.getD v []\/(x=j/\w=v):=by
 rw [zBd];split
 ·rename_i h;rw [yD,zF];have:w=v:=by omega
  simp [this]
 ·rename_i h;have: ¬ w=v:=fun e=>h ⟨by omega,hv⟩;simp [this]
theorem zLO {n:Nat} {l:List P3} (hl: ∀ j,j<l.length->0<=(l.getD j (0,0,0)).1/\0<=(l.getD j (0,0,0)).2.1/\0<=(l.getD j (0,0,0)).2.2) {v:Nat} (hv:v<n) :
 ∀ i,i<=l.length->∀ x:Int,x∈(atF n l i).getD v []↔∃ j:Nat,j<i/\x=j/\z8 (l.getD j (0,0,0)) v
 | 0,_,x=>by
   have e:(atF n l 0).getD v []=[]:=by
    show (List.replicate n ([]:List Int)).getD v []=[];rw [gdE,zbI];split<;>rfl
   rw [e];exact ⟨fun h=>(by cases h),fun ⟨j,h,_⟩=>(by omega)⟩
 | i + 1,hi,x=>by
   have ih:=zLO hl hv i (by omega) x;have hlen:(atF n l i).length=n:=(zSL n l i).1;obtain ⟨h1,h2,h3⟩:=hl i (by omega);show x∈(at3 (atF n l i) (l.getD i (0,0,0)) i).getD v []↔_;unfold at3;rw [zPk h3 (by rw [zF8,zF8,hlen];exact hv),zPk h2 (by rw [zF8,hlen];exact hv),zPk h1 (by rw [hlen];exact hv),ih];constructor
   ·rintro (((⟨j,a,b,c⟩|⟨b,c⟩)|⟨b,c⟩)|⟨b,c⟩)
    ·exact ⟨j,by omega,b,c⟩
    ·exact ⟨i,by omega,b,.inl c⟩
    ·exact ⟨i,by omega,b,.inr (.inl c)⟩
    ·exact ⟨i,by omega,b,.inr (.inr c)⟩
   ·rintro ⟨j,a,b,c⟩
    by_cases e:j=i
    ·subst e;rcases c with c|c|c
     ·exact .inl (.inl (.inr ⟨b,c⟩))
     ·exact .inl (.inr ⟨b,c⟩)
     ·exact .inr ⟨b,c⟩
    ·exact .inl (.inl (.inl ⟨j,by omega,b,c⟩))
theorem zPs {t:P3} {v:Int} :v∈trl t↔z8 t v:=by
 simp only [trl,z8,zT,zbe,or_false];constructor
 ·rintro (h|h|h)
  ·exact .inl h.symm
  ·exact .inr (.inl h.symm)
  ·exact .inr (.inr h.symm)
 ·rintro (h|h|h)
  ·exact .inl h.symm
  ·exact .inr (.inl h.symm)
  ·exact .inr (.inr h.symm)
theorem zXX {n:Int} {l:List P3} (hp:zXw (n,l)=[]) (hl: ∀ j,j<l.length->0<=(l.getD j (0,0,0)).1/\0<=(l.getD j (0,0,0)).2.1/\0<=(l.getD j (0,0,0)).2.2) {v:Nat} (hv:(v:Int)<n) (Q:Nat->Prop)
 (hc: ∀ i j:Nat,i<l.length->j<l.length->z8 (l.getD i (0,0,0)) v->z8 (l.getD j (0,0,0)) v->(∃ w:Int,w≠v/\z8 (l.getD i (0,0,0)) w/\z8 (l.getD j (0,0,0)) w)->Q i->Q j)
 {a:Nat} (ha:a<l.length) (hva:z8 (l.getD a (0,0,0)) v) (hQ:Q a): ∀ i,i<l.length->z8 (l.getD i (0,0,0)) v->Q i:=by
 have hvn:v<n.toNat:=by omega
 have hm:=zLO (n:=n.toNat) hl hvn l.length (zI _)
 have htog:zT2 l v ((atF n.toNat l l.length).getD v [])=true:=by
  have:=zbO.1 hp v (zV.2 hvn);unfold piG at this;split at this
  ·assumption
  ·cases this
 have hne:(atF n.toNat l l.length).getD v []≠[]:=zOL n.toNat l hvn l.length ⟨a,ha,hva⟩;have tri_nat: ∀ j:Nat,tri l (j:Int)=l.getD j (0,0,0):=fun j=>rfl
 have key: ∀ R:Nat->Prop,(∀ i j:Nat,i<l.length->j<l.length->z8 (l.getD i (0,0,0)) v->z8 (l.getD j (0,0,0)) v->(∃ w:Int,w≠v/\z8 (l.getD i (0,0,0)) w/\z8 (l.getD j (0,0,0)) w)->R i->R j)->
  (∀ x,((atF n.toNat l l.length).getD v []).getD 0 0=((x:Nat):Int)->R x)->∀ i,i<l.length->z8 (l.getD i (0,0,0)) v->R i:=fun R hR h0 i hi hvi=>by
  have:=z3N hne htog (fun y=> ∀ j:Nat,y=j->R j) h0 (fun y hy z hz ⟨w,h1,h2,h3⟩ hQy j e=>by
   obtain ⟨a,ha1,ha2,ha3⟩:=(hm y).1 hy;obtain ⟨b,hb1,hb2,hb3⟩:=(hm z).1 hz;have:b=j:=by omega
   subst this;subst ha2;subst hb2;rw [tri_nat,zPs] at h2 h3
   exact hR a b ha1 hb1 ha3 hb3 ⟨w,h1,h2,h3⟩ (hQy a rfl)) i ((hm i).2 ⟨i,hi,rfl,hvi⟩)
  exact this i rfl
 have hz:=(hm _).1 (jB (j:=0) (zbl.2 hne));obtain ⟨z,hz1,hz2,hz3⟩:=hz
 by_cases hQz:Q z
 ·exact key Q hc fun x e=>by
   have:x=z:=by omega
   rw [this];exact hQz
 ·have:=key (fun i=> ¬ Q i) (fun i j hi hj h1 h2 ⟨w,h3,h4,h5⟩ hn hq=>hn (hc j i hj hi h2 h1 ⟨w,h3,h5,h4⟩ hq)) (fun x e=>by
   have:x=z:=by omega
   rw [this];exact hQz) a ha hva
  exact absurd hQ this
end S1
namespace S1
theorem zSS (x:Int×List P3): ∀ i,i<=3*x.2.length->∀ c:Int,3*(x.2.length:Int) - i<=c->c<3*(x.2.length:Int)->∃ d,jS .arr2 (zHA x i).1 (jR (x,[],[]) c)=some d
 | 0,_,c,h1,h2=>by omega
 | i +1,hi,c,h1,h2=>by
   show ∃ d,jS .arr2 (zAB .arr2 (zHA x i).1 (jR (x,[],[]) (3*x.2.length - 1 - i)) (3*x.2.length - 1 - i)) _=some d
   by_cases e:jR (x,[],[]) (3*x.2.length - 1 - i)=jR (x,[],[]) c
   ·rw [e,zAT];exact ⟨_,rfl⟩
   ·rw [zA4 _ e];refine zSS x i (by omega) c ?_ h2;have:c≠3*(x.2.length:Int) - 1 - i:=fun k=>e (by rw [k]);omega
theorem zXt (x:Int×List P3) (hx: ∀ c,0<=yS (x,[],[]) c\/¬ (0<=c/\c<3*(x.2.length:Int))) {v:Nat} (hv:v<x.1.toNat): ∀ i,i<=3*x.2.length->(∃ c:Int,3*(x.2.length:Int) - i<=c/\c<3*(x.2.length:Int)/\yS (x,[],[]) c=v)->
 0<=(zHA x i).2.getD v 0/\(zHA x i).2.getD v 0<3*(x.2.length:Int)/\yS (x,[],[]) ((zHA x i).2.getD v 0)=v
 | 0,_,⟨c,h1,h2,_⟩=>by omega
 | i + 1,hi,⟨c,h1,h2,h3⟩=>by
   show 0<=((zHA x i).2.set (yS (x,[],[]) (3*x.2.length - 1 - i)).toNat (3*x.2.length - 1 - i)).getD v 0/\((zHA x i).2.set (yS (x,[],[]) (3*x.2.length - 1 - i)).toNat (3*x.2.length - 1 - i)).getD v 0<_/\yS (x,[],[]) (((zHA x i).2.set (yS (x,[],[]) (3*x.2.length - 1 - i)).toNat (3*x.2.length - 1 - i)).getD v 0)=v;rw [gdE,zbQ]
   by_cases e:(yS (x,[],[]) (3*x.2.length - 1 - i)).toNat=v
   ·rw [if_pos e,if_pos (by rw [zGZ];omega)];have:=hx (3*x.2.length - 1 - i);refine ⟨?_,?_,?_⟩
    ·show 0<=3*(x.2.length:Int) - 1 - i;omega
    ·show 3*(x.2.length:Int) - 1 - i<_;omega
    ·show yS (x,[],[]) (3*x.2.length - 1 - i)=v;rcases this with h|h<;>omega
   ·rw [if_neg e,<- gdE];refine zXt x hx hv i (by omega) ⟨c,?_,h2,h3⟩;have:c≠3*(x.2.length:Int) - 1 - i:=fun k=>e (by rw [<- k,h3];rfl);omega
theorem zYd {s:List Bool} {t:P3} {v:Nat} (h:(zNQ s t).getD v false=true):s.getD v false=true\/t.1.toNat=v\/t.2.1.toNat=v\/t.2.2.toNat=v:=by
 unfold zNQ at h
 by_cases h1:t.1.toNat=v
 ·exact .inr (.inl h1)
 by_cases h2:t.2.1.toNat=v
 ·exact .inr (.inr (.inl h2))
 by_cases h3:t.2.2.toNat=v
 ·exact .inr (.inr (.inr h3))
 simp only [gdE,zbQ,h1,h2,h3,if_false] at h;rw [gdE];exact .inl h
theorem zLD {n:Nat} {l:List P3} {v:Nat} : ∀ i,(zC8 n l i).getD v false=true->∃ j,j<i/\((l.getD j (0,0,0)).1.toNat=v\/(l.getD j (0,0,0)).2.1.toNat=v\/(l.getD j (0,0,0)).2.2.toNat=v)
 | 0,h=>by
   have h:(List.replicate n false).getD v false=true:=h;rw [gdE,zbI] at h;split at h<;>cases h
 | i +1,h=>by
   rcases zYd (s:=zC8 n l i) h with h|h
   ·obtain ⟨j,a,b⟩:=zLD i h;exact ⟨j,by omega,b⟩
   ·exact ⟨i,by omega,h⟩
theorem zK4 {s:Int×List P3} (h:zMc s): ∀ j,j<s.2.length->0<=(s.2.getD j (0,0,0)).1/\0<=(s.2.getD j (0,0,0)).2.1/\0<=(s.2.getD j (0,0,0)).2.2:=fun j hj=>by
 have:=zAH (h.2.2.2 j hj);omega
structure Full (x:yI.T):Prop extends Good x where
 tot: ∀ c,j6 x c=true->jS .arr2 x.2.1 (jR x c)=some c
 vtx: ∀ v:Int,0<=v->v<x.1.1->j6 x (yY x v)=true/\yS x (yY x v)=v
 pin: ∀ v:Nat,(v:Int)<x.1.1->∀ Q:Nat->Prop,
  (∀ i j:Nat,i<x.1.2.length->j<x.1.2.length->z8 (x.1.2.getD i (0,0,0)) v->z8 (x.1.2.getD j (0,0,0)) v->(∃ w:Int,w≠v/\z8 (x.1.2.getD i (0,0,0)) w/\z8 (x.1.2.getD j (0,0,0)) w)->Q i->Q j)->
  ∀ a,a<x.1.2.length->z8 (x.1.2.getD a (0,0,0)) v->Q a->∀ i,i<x.1.2.length->z8 (x.1.2.getD i (0,0,0)) v->Q i
theorem zJ7 {x:yI.T} {j:Nat} {v:Int} (hj:j<x.1.2.length) (h:z8 (x.1.2.getD j (0,0,0)) v): ∃ c,j6 x c=true/\(c / 3).toNat=j/\yS x c=v:=by
 have key: ∀ k:Int,0<=k->k<3->p3 (x.1.2.getD j (0,0,0)) k=v->∃ c,j6 x c=true/\(c / 3).toNat=j/\yS x c=v:=fun k h1 h2 e=>by
  have hc:0<=3*(j:Int)+k/\3*(j:Int)+k<3*(x.1.2.length:Int):=by omega
  refine ⟨3*j+k,yH.2 hc,by omega,?_⟩;rw [zDY hc.1 hc.2,show ((3*(j:Int)+k) / 3).toNat=j by omega,show (3*(j:Int)+k) % 3=k by omega];exact e
 rcases h with h|h|h
 ·exact key 0 (by omega) (by omega) h
 ·exact key 1 (by omega) (by omega) h
 ·exact key 2 (by omega) (by omega) h
theorem zAw {x:yI.T} {c:Int} (h:j6 x c=true):(c / 3).toNat<x.1.2.length/\z8 (x.1.2.getD (c / 3).toNat (0,0,0)) (yS x c):=by
 have hc:=yH.1 h;refine ⟨by omega,?_⟩;rw [zDY hc.1 hc.2];have:c % 3=0\/c % 3=1\/c % 3=2:=by omega
 rcases this with e|e|e<;>rw [e]
 ·exact .inl rfl
 ·exact .inr (.inl rfl)
 ·exact .inr (.inr rfl)
theorem zSF {s:Int×List P3} (h:(zJr s).1=0):Full (zAa s):=by
 have hc:=zX8 h;have g:=zZN hc;have hw:=zEs (zM5 h);refine {g with tot:=fun c hc=> ?_,vtx:=fun v h1 h2=> ?_,pin:=fun v hv Q hQ a ha1 ha2 ha3=> ?_}
 ·have i0:=yH.1 hc;have i0:0<=c/\c<3*(s.2.length:Int):=i0;obtain ⟨d,hd⟩:=zSS s _ (zI _) c (by omega) i0.2;have hd:jS .arr2 (zAa s).2.1 (jR (zAa s) c)=some d:=hd;obtain ⟨k1,k2⟩:=g.map _ _ hd;rw [hd,g.uniq _ _ k1 hc k2]
 ·have hl:zH3 s=[]:=hw _ (by simp);have h2:v<s.1:=h2;have hv:v.toNat<s.1.toNat:=by omega
  have:=zbO.1 hl v.toNat (zV.2 hv);unfold loG at this;split at this
  case isFalse=>cases this
  rename_i ht;obtain ⟨j,hj,e⟩:=zLD _ ht;have nn:=zK4 hc.fit j hj
  obtain ⟨c,c1,c2,c3⟩:=zJ7 (x:=zAa s) (v:=v) hj (by
   show (s.2.getD j (0,0,0)).1=v\/(s.2.getD j (0,0,0)).2.1=v\/(s.2.getD j (0,0,0)).2.2=v
   omega)
  have c1:=yH.1 c1;have c1:0<=c/\c<3*(s.2.length:Int):=c1
  have hat:=zXt s (fun c=>by
   by_cases h:0<=c/\c<3*(s.2.length:Int)
   ·exact .inl (zBA (x:=(s,[],[])) hc.fit (yH.2 h)).1
   ·exact .inr h) hv _ (zI _) ⟨c,by omega,c1.2,by have:yS (s,[],[]) c=v:=c3;omega⟩
  have e:yY (zAa s) v=(zHA s (3*s.2.length)).2.getD v.toNat 0:=by
   unfold yY;rw [if_pos (by show 0<=v/\v<((zHA s _).2.length:Int);rw [zGZ];omega)];rfl
  rw [e];refine ⟨yH.2 ⟨hat.1,hat.2.1⟩,?_⟩;have:=hat.2.2;show yS (s,[],[]) _=v;omega
 ·exact zXX (n:=s.1) (l:=s.2) (hw (zXw s) (by simp)) (zK4 hc.fit) hv Q hQ ha1 ha2 ha3
section
variable {x:yI.T} {c d:Int}
theorem np (h:j6 x c=true):qY x (qV x c)=c/\qV x (qY x c)=c/\qY x (qY x c)=qV x c/\qV x (qV x c)=qY x c:=by
 have h1:=zAF h;rw [zAg h1.1,zAg h1.2,zBP h1.1,zBP h1.2,zAg h,zBP h];unfold trn;omega
theorem zNf (h:j6 x c=true):jR x (qY x c)=(yS x (qV x c),yS x c):=by
 unfold jR;rw [(np h).2.2.1,(np h).2.1]
theorem zOA (h:j6 x c=true):jR x (qV x c)=(yS x c,yS x (qY x c)):=by
 unfold jR;rw [(np h).1,(np h).2.2.2]
theorem Good.ne (g:Good x) (h:j6 x c=true):yS x c≠yS x (qY x c)/\yS x c≠yS x (qV x c)/\yS x (qY x c)≠yS x (qV x c):=by
 have h1:=g.ends _ (zAF h).1;have h2:=g.ends _ (zAF h).2;have h3:=g.ends _ h;rw [zNf h] at h1;rw [zOA h] at h2;exact ⟨h2,fun e=>h1 e.symm,h3⟩
theorem Good.same (g:Good x) (hc:j6 x c=true) (hd:j6 x d=true) (h1:yS x c=yS x d) (h2:yS x (qY x c)=yS x (qY x d)):c=d:=by
 have:=g.uniq _ _ (zAF hc).2 (zAF hd).2 (by rw [zOA hc,zOA hd,h1,h2]);rw [<- (np hc).1,<- (np hd).1,this]
theorem Good.sameP (g:Good x) (hc:j6 x c=true) (hd:j6 x d=true) (h1:yS x c=yS x d) (h2:yS x (qV x c)=yS x (qV x d)):c=d:=by
 have:=g.uniq _ _ (zAF hc).1 (zAF hd).1 (by rw [zNf hc,zNf hd,h1,h2]);rw [<- (np hc).2.1,<- (np hd).2.1,this]
theorem Good.after_v (g:Good x) (h:0<=yO x c):yS x (yO x c)=yS x c/\yS x (qY x (yO x c))=yS x (qV x c):=by
 obtain ⟨h1,h2,h3⟩:=g.after_has h;obtain ⟨k1,k2,k3⟩:=g.opp h3;rw [zNf h1] at k3;have e:yO x c=qY x (zAI x (qY x c)):=by unfold yO;rw [if_neg (by omega)]
 rw [e,(np k2).2.2.1];exact ⟨congrArg Prod.fst k3,congrArg Prod.snd k3⟩
theorem Good.before_v (g:Good x) (h:0<=yK x c):yS x (yK x c)=yS x c/\yS x (qV x (yK x c))=yS x (qY x c):=by
 obtain ⟨h1,h2,h3⟩:=g.before_has h;obtain ⟨k1,k2,k3⟩:=g.opp h3;rw [zOA h1] at k3;have e:yK x c=qV x (zAI x (qV x c)):=by unfold yK;rw [if_neg (by omega)]
 rw [e,(np k2).2.2.2];exact ⟨congrArg Prod.snd k3,congrArg Prod.fst k3⟩
theorem Full.facing (g:Full x) (h:j6 x d=true):qJ x (jR x d)=d:=by
 unfold qJ;rw [g.tot d h];rfl
theorem Full.opp_is (g:Full x) (hd:j6 x d=true) (h:jR x d=((jR x c).2,(jR x c).1)):zAI x c=d:=by
 unfold zAI;rw [<- h];exact g.facing hd
theorem Full.after_is (g:Full x) (hc:j6 x c=true) (hd:j6 x d=true) (h1:yS x d=yS x c) (h2:yS x (qY x d)=yS x (qV x c)):yO x c=d:=by
 have e:zAI x (qY x c)=qV x d:=g.opp_is (zAF hd).2 (by rw [zOA hd,zNf hc,h1,h2]);have:=yH.1 (zAF hd).2;unfold yO;rw [if_neg (by rw [e];omega),e,(np hd).1]
theorem Full.before_is (g:Full x) (hc:j6 x c=true) (hd:j6 x d=true) (h1:yS x d=yS x c) (h2:yS x (qV x d)=yS x (qY x c)):yK x c=d:=by
 have e:zAI x (qV x c)=qY x d:=g.opp_is (zAF hd).1 (by rw [zNf hd,zOA hc,h1,h2]);have:=yH.1 (zAF hd).1;unfold yK;rw [if_neg (by rw [e];omega),e,(np hd).2.1]
theorem Full.before_after (g:Full x) (h:0<=yO x c):yK x (yO x c)=c:=by
 obtain ⟨h1,h2,_⟩:=g.after_has h;have:=g.after_v h;exact g.before_is h2 h1 this.1.symm this.2.symm
theorem Full.after_before (g:Full x) (h:0<=yK x c):yO x (yK x c)=c:=by
 obtain ⟨h1,h2,_⟩:=g.before_has h;have:=g.before_v h;exact g.after_is h2 h1 this.1.symm this.2.symm
end
theorem zJ4 {x:yI.T} (g:Good x) {b:Int} : ∀ n k,k+n=30000->zT3 (yO x) b k->∀ y∈jW x b n (iter (yO x) b k),yO x y<0\/yO x y=b\/yO x y∈jW x b n (iter (yO x) b k)
 | 0,k,e,h,y,hy=>by have:=zAz g h;omega
 | n + 1,k,e,h,y,hy=>by
   unfold jW at hy ⊢
   by_cases h1:yO x (iter (yO x) b k)<0
   ·rw [if_pos h1] at hy;rw [zF.1 hy];exact .inl h1
   ·rw [if_neg h1] at hy ⊢
    by_cases h2:yO x (iter (yO x) b k)=b
    ·rw [if_pos h2] at hy;rw [zF.1 hy];exact .inr (.inl h2)
    ·rw [if_neg h2] at hy ⊢
     have hn:iter (yO x) b (k+1)∈jW x b n (iter (yO x) b (k+1)):=by
      obtain ⟨m,rfl⟩: ∃ m,n=m+1:=⟨n - 1,by have:=zAz g (h.succ h1 h2);omega⟩;unfold jW;exact zY ..
     rcases zT.1 hy with hy|hy
     ·rw [hy];exact .inr (.inr (zQ _ hn))
     ·rcases zJ4 g n (k+1) (by omega) (h.succ h1 h2) y hy with h|h|h
      ·exact .inl h
      ·exact .inr (.inl h)
      ·exact .inr (.inr (zQ _ h))
theorem zC2 {x:yI.T} {b:Int} (P:Int->Prop) (hs: ∀ c,P c->0<=yO x c->P (yO x c)): ∀ n c,P c->∀ y∈jW x b n c,P y
 | 0,c,_,y,hy=>by cases hy
 | n + 1,c,h,y,hy=>by
   unfold jW at hy;split at hy
   ·rw [zF.1 hy];exact h
   ·split at hy
    ·rw [zF.1 hy];exact h
    ·rcases zT.1 hy with hy|hy
     ·rw [hy];exact h
     ·exact zC2 P hs n _ (hs c h (by omega)) y hy
theorem zIw {x:yI.T} (g:Good x) {c0:Int} : ∀ n k,k+n=30000->zT3 (yK x) c0 k->∃ m,zT3 (yK x) c0 m/\
 ((zDL x c0 n (iter (yK x) c0 k)=(iter (yK x) c0 m,true)/\yK x (iter (yK x) c0 m)<0)\/(zDL x c0 n (iter (yK x) c0 k)=(c0,false)/\yK x (iter (yK x) c0 m)=c0))
 | 0,k,e,h=>by have:=zKS g h;omega
 | n + 1,k,e,h=>by
   unfold zDL
   by_cases h1:yK x (iter (yK x) c0 k)<0
   ·rw [if_pos h1];exact ⟨k,h,.inl ⟨rfl,h1⟩⟩
   ·rw [if_neg h1]
    by_cases h2:yK x (iter (yK x) c0 k)=c0
    ·rw [if_pos h2];exact ⟨k,h,.inr ⟨rfl,h2⟩⟩
    ·rw [if_neg h2];exact zIw g n (k+1) (by omega) (h.succ h1 h2)
theorem zJK {x:yI.T} {v:Int} :zBR x v=true↔0<=v/\v<x.1.1/\0<=yY x v:=by
 simp only [zBR,zC,zP]
theorem Full.there {x:yI.T} (g:Full x) {v:Int} (h0:0<=v) (h1:v<x.1.1):zBR x v=true :=
 zJK.2 ⟨h0,h1,(yH.1 (g.vtx v h0 h1).1).1⟩
theorem Full.around {x:yI.T} (g:Full x) {v:Int} (h0:0<=v) (h1:v<x.1.1) :
 ∃ b,(zAP x v).1=b/\yU (some x) v=jW x b 30000 b/\j6 x b=true/\yS x b=v/\b∈yU (some x) v/\(∀ y∈yU (some x) v,j6 x y=true/\yS x y=v)/\
 (∀ y∈yU (some x) v,0<=yO x y->yO x y∈yU (some x) v)/\(∀ y∈yU (some x) v,0<=yK x y->yK x y∈yU (some x) v)/\
 (((zAP x v).2=true/\yK x b<0)\/((zAP x v).2=false/\∀ y∈yU (some x) v,0<=yO x y)):=by
 obtain ⟨k1,k2⟩:=g.vtx v h0 h1;have e:=zEb (x:=x) h0 h1 (yH.1 k1).1;obtain ⟨m,hm,hend⟩:=zIw g.toGood (c0:=yY x v) 30000 0 (by omega) (fun j a b=>by omega);have hend:(zAP x v=(iter (yK x) (yY x v) m,true)/\yK x (iter (yK x) (yY x v) m)<0)\/(zAP x v=(yY x v,false)/\yK x (iter (yK x) (yY x v) m)=yY x v):=hend
 have itok: ∀ j,j<=m->j6 x (iter (yK x) (yY x v) j)=true/\yS x (iter (yK x) (yY x v) j)=v:=fun j=>by
  induction j with
  | zero=>exact fun _=>⟨k1,k2⟩
  | succ j ih =>
    intro hj;have hp:0<=yK x (iter (yK x) (yY x v) j):=(hm (j+1) (by omega) hj).1;exact ⟨(g.before_has hp).2.1,(g.before_v hp).1.trans (ih (by omega)).2⟩
 have hb:j6 x (zAP x v).1=true/\yS x (zAP x v).1=v:=by
  rcases hend with ⟨h,_⟩|⟨h,_⟩
  ·rw [h];exact itok m (zI _)
  ·rw [h];exact ⟨k1,k2⟩
 have hin:(zAP x v).1∈yU (some x) v:=by rw [e];unfold jW;exact zY ..
 have hall: ∀ y∈yU (some x) v,j6 x y=true/\yS x y=v:=by
  rw [e];exact zC2 _ (fun c hc ha=>⟨(g.after_has ha).2.1,(g.after_v ha).1.trans hc.2⟩) _ _ hb
 have haft: ∀ y∈yU (some x) v,0<=yO x y->yO x y∈yU (some x) v:=fun y hy ha=>by
  rw [e] at hy;rcases zJ4 g.toGood 30000 0 rfl (fun j a b=>by omega) y hy with h|h|h
  ·omega
  ·rw [h];exact hin
  ·rw [e];exact h
 have hcyc:(zAP x v).2=false->∀ y∈yU (some x) v,0<=yO x y/\∃ j,j<=m/\y=iter (yK x) (yY x v) j:=fun hf=>by
  rcases hend with ⟨h,_⟩|⟨h,hr⟩
  ·rw [h] at hf;cases hf
  ·have key: ∀ j,j<=m->0<=yO x (iter (yK x) (yY x v) j)/\∃ i,i<=m/\yO x (iter (yK x) (yY x v) j)=iter (yK x) (yY x v) i:=fun j hj=>by
    cases j with
    | zero =>
      have h0:0<=yY x v:=(yH.1 k1).1;have:=g.after_before (c:=iter (yK x) (yY x v) m) (by rw [hr];exact h0);rw [hr] at this;show 0<=yO x (yY x v)/\∃ i,i<=m/\yO x (yY x v)=_;rw [this];exact ⟨(yH.1 (itok m (zI _)).1).1,m,zI _,rfl⟩
    | succ j =>
      have hp:0<=yK x (iter (yK x) (yY x v) j):=(hm (j+1) (by omega) hj).1;have:yO x (iter (yK x) (yY x v) (j+1))=iter (yK x) (yY x v) j:=g.after_before hp;rw [this];exact ⟨(yH.1 (itok j (by omega)).1).1,j,by omega,rfl⟩
   have: ∀ y∈yU (some x) v,∃ j,j<=m/\y=iter (yK x) (yY x v) j:=by
    rw [e];refine zC2 _ (fun c ⟨j,hj,hc⟩ _=> ?_) _ _ ⟨0,by omega,by rw [h];rfl⟩;obtain ⟨_,i,hi,e⟩:=key j hj;exact ⟨i,hi,by rw [hc];exact e⟩
   intro y hy;obtain ⟨j,hj,ej⟩:=this y hy;exact ⟨by rw [ej];exact (key j hj).1,j,hj,ej⟩
 have hbef : ∀ y∈yU (some x) v,0<=yK x y->yK x y∈yU (some x) v:=by
  have hP : ∀ y∈yU (some x) v,(0<=yK x y->yK x y∈yU (some x) v):=by
   intro y hy
   have:y∈yU (some x) v/\(0<=yK x y->yK x y∈yU (some x) v):=by
    have hy2:=hy;rw [e] at hy2;refine zC2 (fun y=>y∈yU (some x) v/\(0<=yK x y->yK x y∈yU (some x) v)) (fun c ⟨hc,_⟩ ha=>⟨haft c hc ha,fun _=>by rw [g.before_after ha];exact hc⟩) _ _ ⟨hin,fun hp=> ?_⟩ y hy2;rcases hend with ⟨h,hn⟩|⟨h,hr⟩
    ·rw [h] at hp;exact absurd hp (by show ¬ 0<=yK x (iter (yK x) (yY x v) m);omega)
    ·-- the walk forward: some round its end is the first again
     have hc:=hcyc (by rw [h])
     have hz:yK x (yY x v)∈yU (some x) v:=by
      -- each iterate is in it
      have back: ∀ i j,j+i=m->iter (yK x) (yY x v) j∈yU (some x) v:=fun i=>by
       induction i with
       | zero =>
         intro j hj;have hj:j=m:=by omega
         subst hj;have h0:0<=yY x v:=(yH.1 k1).1;have e1:=g.after_before (c:=iter (yK x) (yY x v) j) (by rw [hr];exact h0);rw [hr] at e1;have:=haft (yY x v) (by rw [h] at hin;exact hin) (by rw [e1];exact (yH.1 (itok j (zI _)).1).1);rw [e1] at this;exact this
       | succ i ih =>
         intro j hj;have h2:=ih (j+1) (by omega);have hp:0<=yK x (iter (yK x) (yY x v) j):=(hm (j+1) (by omega) (by omega)).1;have e1:yO x (iter (yK x) (yY x v) (j+1))=iter (yK x) (yY x v) j:=g.after_before hp;have:=haft _ h2 (by rw [e1];exact (yH.1 (itok j (by omega)).1).1);rw [e1] at this;exact this
      by_cases hm0:m=0
      ·subst hm0;have hr:yK x (yY x v)=yY x v:=hr;rw [hr];rw [h] at hin;exact hin
      ·exact back (m - 1) 1 (by omega)
     rw [h];exact hz
   exact this.2
  exact hP
 refine ⟨_,rfl,e,hb.1,hb.2,hin,hall,haft,hbef,?_⟩;rcases hend with ⟨h,hn⟩|⟨h,hr⟩
 ·exact .inl ⟨by rw [h],by rw [h];exact hn⟩
 ·exact .inr ⟨by rw [h],fun y hy=>(hcyc (by rw [h]) y hy).1⟩
theorem Full.around_all {x:yI.T} (g:Full x) {c:Int} (hc:j6 x c=true):c∈yU (some x) (yS x c):=by
 have hv:=zBA g.fit hc;obtain ⟨b,_,_,hb1,hb2,hb3,hall,haft,hbef,_⟩:=g.around hv.1 hv.2;obtain ⟨v,hv2⟩: ∃ v:Nat,yS x c=v:=⟨(yS x c).toNat,by omega⟩;rw [hv2] at hall haft hbef hb2 hb3 ⊢;have hn:(v:Int)<x.1.1:=by omega
 have tb:=zAw hb1;have tc:=zAw hc;rw [hb2] at tb;rw [hv2] at tc
 have hQ:=g.pin v hn (fun i=> ∃ y∈yU (some x) v,(y / 3).toNat=i) (fun i j hi hj hvi hvj ⟨w,hw,hwi,hwj⟩ ⟨y,hy,ey⟩=>by
  obtain ⟨hy1,hy2⟩:=hall y hy;obtain ⟨d,d1,d2,d3⟩:=zJ7 hj hvj
  -- the other vertex, in both
  have two: ∀ {y:Int},j6 x y=true->yS x y=v->z8 (x.1.2.getD (y / 3).toNat (0,0,0)) w->w=yS x (qY x y)\/w=yS x (qV x y):=fun {y} h1 h2 h3=>by
   obtain ⟨a,a1,a2,a3⟩:=zJ7 (zAw h1).1 h3;have i1:=yH.1 h1;have i2:=yH.1 a1
   have:a=y\/a=qY x y\/a=qV x y:=by
    rw [zAg h1,zBP h1];unfold trn;omega
   rcases this with e|e|e
   ·subst e;exact absurd (a3.symm.trans h2) hw
   ·subst e;exact .inl a3.symm
   ·subst e;exact .inr a3.symm
  have wy:=two hy1 hy2 (by rw [ey];exact hwi);have wd:=two d1 d3 (by rw [d2];exact hwj);refine ⟨d,?_,d2⟩;have evd:yS x y=yS x d:=hy2.trans d3.symm;have nn:=(yH.1 d1).1;rcases wy with wy|wy<;>rcases wd with wd|wd
  ·rw [<- g.same hy1 d1 evd (wy.symm.trans wd)];exact hy
  ·have:=g.before_is hy1 d1 evd.symm (wd.symm.trans wy);have h2:=hbef y hy (by rw [this];exact nn);rw [this] at h2;exact h2
  ·have:=g.after_is hy1 d1 evd.symm (wd.symm.trans wy);have h2:=haft y hy (by rw [this];exact nn);rw [this] at h2;exact h2
  ·rw [<- g.sameP hy1 d1 evd (wy.symm.trans wd)];exact hy) _ tb.1 tb.2 ⟨b,hb3,rfl⟩ _ tc.1 tc.2
 obtain ⟨y,hy,ey⟩:=hQ;obtain ⟨hy1,hy2⟩:=hall y hy;have i1:=yH.1 hc;have i2:=yH.1 hy1
 have:y=c\/y=qY x c\/y=qV x c:=by
  rw [zAg hc,zBP hc];unfold trn;omega
 have hne:=g.ne hc;rcases this with e|e|e
 ·rw [<- e];exact hy
 ·rw [e] at hy2;exact absurd (hv2.trans hy2.symm) hne.1
 ·rw [e] at hy2;exact absurd (hv2.trans hy2.symm) hne.2.1
end S1
namespace S1
theorem zR8 {l:List Int} (h:l.Pairwise (·<=·)):zBY l=l:=by
 unfold zBY;exact List.mergeSort_of_pairwise (h.imp fun h=>by simpa using h)
theorem zG9 (l:List Int):(zBY l).Perm l:=by unfold zBY;exact List.mergeSort_perm _ _
theorem zHB (l:List Int):(zBY l).Pairwise (·<=·):=by
 have:=List.pairwise_mergeSort (le:=fun x y:Int=>decide (x<=y)) (fun a b c h1 h2=>by simp at *;omega) (fun a b=>by simp;omega) l;unfold zBY;exact this.imp fun h=>by simpa using h
theorem zMy {l m:List Int} (hp:l.Perm m) (h1:l.Pairwise (·<=·)) (h2:m.Pairwise (·<=·)):l=m :=
 hp.eq_of_pairwise (fun a b _ _ h1 h2=>by omega) h1 h2
def zSJ (a b c:Int):List Int:=if a<=b then (if b<=c then [a,b,c] else if a<=c then [a,c,b] else [c,a,b]) else (if a<=c then [b,a,c] else if b<=c then [b,c,a] else [c,b,a])
theorem z4e (a b c:Int):zBY [a,b,c]=zSJ a b c:=by
 refine zMy ((zG9 _).trans ?_) (zHB _) ?_
 ·unfold zSJ
  repeat' split
  ·exact .refl _
  ·exact .cons _ (.swap ..)
  ·exact (List.Perm.cons _ (.swap ..)).trans (.swap ..)
  ·exact .swap ..
  ·exact (List.Perm.swap ..).trans (.cons _ (.swap ..))
  ·exact ((List.Perm.swap ..).trans (.cons _ (.swap ..))).trans (.swap ..)
 ·unfold zSJ
  repeat' split
  all_goals simp;omega
def zP9 (t:P3):List P3:=[((zSJ t.1 t.2.1 t.2.2).getD 0 0,(zSJ t.1 t.2.1 t.2.2).getD 1 0,(zSJ t.1 t.2.1 t.2.2).getD 2 0)]
theorem zYH:zDm=zP9:=by
 funext t
 unfold zDm zP9 s3;rw [z4e]
def z4z (s:Int×List P3):List Wit:=zDI [jF s,dgL s.2 s.2.length,(prS qQ 3 s.2 s.2.length).2.2,(prS zP9 4 s.2 s.2.length).2.2,zH3 s,zXw s]
theorem z3y (s:Int×List P3):allR s=z4z s:=by unfold allR z4z;rw [zYH]
def z6W (s:Int×List P3):Wit:=(z4z s).headD (0,0,0)
theorem z4T (s:Int×List P3):zJr s=z6W s:=by unfold zJr z6W;rw [z3y]
end S1
namespace S1
abbrev tg (l:List P3) (i:Nat):P3:=l.getD i (0,0,0)
def dE (t:P3) (a b:Int):Prop:=(t.1=a/\t.2.1=b)\/(t.2.1=a/\t.2.2=b)\/(t.2.2=a/\t.1=b)
def dgn (t:P3):Prop:=t.1=t.2.1\/t.2.1=t.2.2\/t.2.2=t.1
def z6C (l:List P3) (v:Int):Prop:= ∀ Q:Nat->Prop,
    (∀ i j:Nat,i<l.length->j<l.length->z8 (tg l i) v->z8 (tg l j) v->(∃ w:Int,w≠v/\z8 (tg l i) w/\z8 (tg l j) w)->Q i->Q j)->
    ∀ a,a<l.length->z8 (tg l a) v->Q a->∀ i,i<l.length->z8 (tg l i) v->Q i
structure zBK (s:Int×List P3):Prop where
 fit:zMc s
 deg: ∀ i,i<s.2.length->¬ dgn (tg s.2 i)
 dif: ∀ i j,i<j->j<s.2.length->∀ a b,dE (tg s.2 i) a b->¬ dE (tg s.2 j) a b
 mir: ∀ i j,i<j->j<s.2.length->¬ (z8 (tg s.2 j) (tg s.2 i).1/\z8 (tg s.2 j) (tg s.2 i).2.1/\z8 (tg s.2 j) (tg s.2 i).2.2)
 use: ∀ v:Nat,(v:Int)<s.1->∃ j,j<s.2.length/\z8 (tg s.2 j) v
 pin: ∀ v:Nat,(v:Int)<s.1->z6C s.2 v
def keys (kp:P3->List P3) (l:List P3) (i:Nat):List P3:=(l.take i).flatMap kp
theorem zOg (kp:P3->List P3) {l:List P3} {i:Nat} (h:i<l.length):keys kp l (i+1)=keys kp l i++kp (tg l i):=by
 unfold keys tg;rw [yB h,List.flatMap_append,gdE,gE h];simp
structure KFw (pre:List P3) (s:zJQ×PS):Prop where
 seen:s.2.1=[]
 nd:pre.Nodup
 had: ∀ k∈pre,zAL s.1 k≠[]
theorem zZJ {kind:Int} {i m:Nat} {ks pre:List P3} {s:zJQ×PS} (h:s.2.2=[]->KFw pre s) (h2:(prK kind i ks s m).2.2=[]):s.2.2=[]/\KFw (pre++[ks.getD m (0,0,0)]) (prK kind i ks s m):=by
 have h3:=zIH h2;have h0:s.2.2=[]:=by rw [<- h3.1];exact h2
 have u:=h h0
 have he:zAL s.1 (ks.getD m (0,0,0))=[]:=by
  cases e:zAL s.1 (ks.getD m (0,0,0)) with
  | nil=>rfl
  | cons a r =>
    have:=h3.2 0 (by rw [e];simp);rw [u.seen] at this;cases this
 refine ⟨h0,(congrArg Prod.fst h3.1).trans u.seen,?_,fun k hk=> ?_⟩
 ·rw [List.nodup_append];refine ⟨u.nd,zbG.2 ⟨by simp,zbS⟩,fun a ha b hb e=> ?_⟩;rw [zF] at hb;subst hb;subst e;exact u.had _ ha he
 ·show zAL (zAB .arr3 s.1 (ks.getD m (0,0,0)) (zAL s.1 (ks.getD m (0,0,0))++[(i:Int)])) k≠[];rw [zDq];split
  ·simp
  ·rename_i hne;rcases yD.1 hk with hk|hk
   ·exact u.had k hk
   ·rw [zF] at hk;exact absurd hk.symm hne
theorem zOU {kind:Int} {i:Nat} {ks pre:List P3} {s:zJQ×PS} (h:s.2.2=[]->KFw pre s): ∀ m,m<=ks.length->(qA (prK kind i ks) s m).2.2=[]->KFw (pre++ks.take m) (qA (prK kind i ks) s m)
 | 0,_,h2=>by rw [List.take_zero,zbF];exact h h2
 | m+1,hm,h2=>by
   have:=(zZJ (kind:=kind) (i:=i) (m:=m) (ks:=ks) (fun h'=>zOU h m (by omega) h') h2).2;rw [zbu] at this;rw [yB (by omega)];rw [gdE,gE (by omega)] at this;exact this
theorem zU7 (kp:P3->List P3) (kind:Int) (l:List P3): ∀ i,i<=l.length->(prS kp kind l i).2.2=[]->KFw (keys kp l i) (prS kp kind l i)
 | 0,_,_=>⟨rfl,zbS,fun k h=>(by cases h)⟩
 | i+1,hi,h=>by
   have h:(qA (prK kind i (kp (tg l i))) (prS kp kind l i) (kp (tg l i)).length).2.2=[]:=h;have:=zOU (kind:=kind) (i:=i) (ks:=kp (tg l i)) (fun h'=>zU7 kp kind l i (by omega) h') _ (zI _) h;rw [zbK] at this;rw [zOg kp (by omega)];exact this
structure KBw (pre:List P3) (s:zJQ×PS):Prop where
 z:s.2=([],[])
 had: ∀ k,zAL s.1 k≠[]->k∈pre
theorem zNv {kind:Int} {i:Nat} {ks pre:List P3} {s:zJQ×PS} (h:KBw pre s) (hn:(pre++ks).Nodup): ∀ m,m<=ks.length->KBw (pre++ks.take m) (qA (prK kind i ks) s m)
 | 0,_=>by rw [List.take_zero,zbF];exact h
 | m + 1,hm=>by
   have ih:=zNv (kind:=kind) (i:=i) h hn m (by omega)
   have e1:ks.take (m+1)=ks.take m++[ks.getD m (0,0,0)]:=by
    rw [yB (by omega),gdE,gE (by omega)];rfl
   have hnew:ks.getD m (0,0,0)∉pre++ks.take m:=by
    have h2:(pre++ks.take (m+1)).Nodup:=by
     have:(pre++ks.take (m+1)).Sublist (pre++ks):=List.Sublist.append (List.Sublist.refl _) (List.take_sublist _ _);exact this.nodup hn
    rw [e1,<- zbu,List.nodup_append] at h2;exact fun hm=>h2.2.2 _ hm _ (zF.2 rfl) rfl
   have he:zAL (qA (prK kind i ks) s m).1 (ks.getD m (0,0,0))=[]:=by
    by_cases e:zAL (qA (prK kind i ks) s m).1 (ks.getD m (0,0,0))=[]
    ·exact e
    ·exact absurd (ih.had _ e) hnew
   refine ⟨?_,fun k hk=> ?_⟩
   ·show qA (prA kind i (zAL (qA (prK kind i ks) s m).1 (ks.getD m (0,0,0)))) (qA (prK kind i ks) s m).2 (zAL (qA (prK kind i ks) s m).1 (ks.getD m (0,0,0))).length=_;rw [he];exact ih.z
   ·have hk:zAL (zAB .arr3 (qA (prK kind i ks) s m).1 (ks.getD m (0,0,0)) (zAL (qA (prK kind i ks) s m).1 (ks.getD m (0,0,0))++[(i:Int)])) k≠[]:=hk;rw [zDq] at hk;rw [e1,<- zbu];split at hk
    ·rename_i e;subst e;exact zbg _ (zF.2 rfl)
    ·exact zb9 _ (ih.had k hk)
theorem zUK (kp:P3->List P3) (kind:Int) (l:List P3) (hn:(keys kp l l.length).Nodup): ∀ i,i<=l.length->KBw (keys kp l i) (prS kp kind l i)
 | 0,_=>⟨rfl,fun k h=>absurd rfl h⟩
 | i + 1,hi=>by
   have ih:=zUK kp kind l hn i (by omega)
   have hn2:(keys kp l (i+1)).Nodup:=by
    have:(keys kp l (i+1)).Sublist (keys kp l l.length):=by
     unfold keys;have e:l.flatMap kp=(l.take (i+1)).flatMap kp++(l.drop (i+1)).flatMap kp:=by rw [<- List.flatMap_append,jE]
     rw [zbK,e];exact List.sublist_append_left _ _
    exact this.nodup hn
   rw [zOg kp (by omega)] at hn2 ⊢;have:=zNv (kind:=kind) (i:=i) (ks:=kp (tg l i)) ih hn2 _ (zI _);rw [zbK] at this;exact this
theorem zUE (kp:P3->List P3) (kind:Int) (l:List P3):(prS kp kind l l.length).2.2=[]↔(l.flatMap kp).Nodup:=by
 have e:keys kp l l.length=l.flatMap kp:=by unfold keys;rw [zbK]
 constructor
 ·intro h;have:=(zU7 kp kind l _ (zI _) h).nd;rw [e] at this;exact this
 ·intro h;rw [<- e] at h;rw [(zUK kp kind l h _ (zI _)).z]
theorem zKN (kp:P3->List P3) (l:List P3):(l.flatMap kp).Nodup↔(∀ i,i<l.length->(kp (tg l i)).Nodup)/\∀ i j,i<j->j<l.length->∀ a∈kp (tg l i),a∉kp (tg l j):=by
 unfold List.Nodup;rw [List.pairwise_flatMap,List.pairwise_iff_getElem];have g: ∀ i (h:i<l.length),tg l i=l[i]:=fun i h=>by unfold tg;rw [gdE,gE h];rfl
 constructor
 ·rintro ⟨h1,h2⟩;refine ⟨fun i hi=>by rw [g i hi];exact h1 _ (yQ hi),fun i j hij hj a ha hb=> ?_⟩;rw [g i (by omega)] at ha;rw [g j hj] at hb;exact h2 i j (by omega) hj hij a ha a hb rfl
 ·rintro ⟨h1,h2⟩;refine ⟨fun t ht=> ?_,fun i j hi hj hij a ha b hb e=> ?_⟩
  ·obtain ⟨i,hi,e⟩:=yG.1 ht;have:=h1 i hi;rw [g i hi,e] at this;exact this
  ·subst e;have:=h2 i j hij hj a;rw [g i hi,g j hj] at this;exact this ha hb
theorem zEj (t:P3) (k:P3):k∈qQ t↔k.2.2=0/\dE t k.1 k.2.1:=by
 obtain ⟨a,b,c⟩:=k;simp only [qQ,dE,zT,zbe,or_false,zbs];constructor
 ·rintro (⟨h1,h2,h3⟩|⟨h1,h2,h3⟩|⟨h1,h2,h3⟩)
  ·exact ⟨h3,.inl ⟨h1.symm,h2.symm⟩⟩
  ·exact ⟨h3,.inr (.inl ⟨h1.symm,h2.symm⟩)⟩
  ·exact ⟨h3,.inr (.inr ⟨h1.symm,h2.symm⟩)⟩
 ·rintro ⟨h3,(⟨h1,h2⟩|⟨h1,h2⟩|⟨h1,h2⟩)⟩
  ·exact .inl ⟨h1.symm,h2.symm,h3⟩
  ·exact .inr (.inl ⟨h1.symm,h2.symm,h3⟩)
  ·exact .inr (.inr ⟨h1.symm,h2.symm,h3⟩)
theorem zNn {l:List P3} (hd: ∀ i,i<l.length->¬ dgn (tg l i)):(prS qQ 3 l l.length).2.2=[]↔∀ i j,i<j->j<l.length->∀ a b,dE (tg l i) a b->¬ dE (tg l j) a b:=by
 rw [zUE,zKN];constructor
 ·rintro ⟨_,h⟩ i j hij hj a b h1 h2;exact h i j hij hj (a,b,0) ((zEj _ _).2 ⟨rfl,h1⟩) ((zEj _ _).2 ⟨rfl,h2⟩)
 ·intro h;refine ⟨fun i hi=> ?_,fun i j hij hj k h1 h2=>h i j hij hj _ _ ((zEj _ _).1 h1).2 ((zEj _ _).1 h2).2⟩;have:=hd i hi;unfold dgn at this;simp only [qQ,zbG,zT,zbe,or_false,zbs,not_false_eq_true,zbS,and_true,true_and];refine ⟨?_,?_⟩<;>omega
theorem zZg {a b c d e f:Int} (h: ¬ (a=b\/b=c\/c=a)) (h': ¬ (d=e\/e=f\/f=d)):zSJ a b c=zSJ d e f↔((d=a\/e=a\/f=a)/\(d=b\/e=b\/f=b)/\(d=c\/e=c\/f=c)):=by
 unfold zSJ;constructor
 ·intro h
  repeat' split at h
  all_goals (simp only [List.cons.injEq,and_true] at h;omega)
 ·intro h
  repeat' split
  all_goals (simp only [List.cons.injEq,and_true];omega)
theorem zRD (a b c:Int):[(zSJ a b c).getD 0 0,(zSJ a b c).getD 1 0,(zSJ a b c).getD 2 0]=zSJ a b c:=by
 unfold zSJ
 repeat' split
 all_goals rfl
theorem zMs {t u:P3} (ht: ¬ dgn t) (hu: ¬ dgn u) {k:P3} (h:k∈zP9 t):k∈zP9 u↔(z8 u t.1/\z8 u t.2.1/\z8 u t.2.2):=by
 unfold zP9 at *;rw [zF] at h ⊢;unfold z8;rw [<- zZg ht hu,h];constructor
 ·intro e;rw [<- zRD t.1,<- zRD u.1];simp only [zbs] at e;rw [e.1,e.2.1,e.2.2]
 ·intro e;rw [e]
theorem zV6 {l:List P3} (hd: ∀ i,i<l.length->¬ dgn (tg l i)):(prS zDm 4 l l.length).2.2=[]↔∀ i j,i<j->j<l.length->¬ (z8 (tg l j) (tg l i).1/\z8 (tg l j) (tg l i).2.1/\z8 (tg l j) (tg l i).2.2):=by
 rw [zYH,zUE,zKN];constructor
 ·rintro ⟨_,h⟩ i j hij hj e;have hm:_∈zP9 (tg l i):=zF.2 rfl;exact h i j hij hj _ hm ((zMs (hd i (by omega)) (hd j hj) hm).2 e)
 ·intro h;refine ⟨fun i hi=>zbG.2 ⟨by simp,zbS⟩,fun i j hij hj k h1 h2=>h i j hij hj ((zMs (hd i (by omega)) (hd j hj) h1).1 h2)⟩
theorem zOE {s:List Bool} {t:P3} {v:Nat} (h:s.getD v false=true\/(v<s.length/\(t.1.toNat=v\/t.2.1.toNat=v\/t.2.2.toNat=v))):(zNQ s t).getD v false=true:=by
 unfold zNQ;simp only [gdE,zbQ,zbY];rcases h with h|⟨hl,h⟩
 ·rw [gdE] at h
  have hl:v<s.length:=by
   rcases Nat.lt_or_ge v s.length with h'|h'
   ·exact h'
   ·rw [zbr h'] at h;cases h
  rw [gE hl] at h
  repeat' split
  all_goals first|rfl|omega|(rw [gE hl];exact h)
 ·repeat' split
  all_goals first|rfl|omega
theorem zRj {n:Nat} {l:List P3} {v:Nat} (hv:v<n): ∀ i,(∃ j,j<i/\((tg l j).1.toNat=v\/(tg l j).2.1.toNat=v\/(tg l j).2.2.toNat=v))->(zC8 n l i).getD v false=true
 | 0,⟨j,hj,_⟩=>by omega
 | i+1,⟨j,hj,h⟩=>by
   show (zNQ (zC8 n l i) (tg l i)).getD v false=true
   by_cases e:j=i
   ·subst e;exact zOE (.inr ⟨by rw [zJv];exact hv,h⟩)
   ·exact zOE (.inl (zRj hv i ⟨j,by omega,h⟩))
theorem zRX {s:Int×List P3} (hf:zMc s):zH3 s=[]↔∀ v:Nat,(v:Int)<s.1->∃ j,j<s.2.length/\z8 (tg s.2 j) v:=by
 have nn:=zK4 hf;unfold zH3 loL;rw [zbO];constructor
 ·intro h v hv;have:=h v (zV.2 (by omega));unfold loG at this;split at this
  case isFalse=>cases this
  rename_i ht;obtain ⟨j,hj,e⟩:=zLD _ ht;have:=nn j hj;exact ⟨j,hj,by show (s.2.getD j (0,0,0)).1=v\/(s.2.getD j (0,0,0)).2.1=v\/(s.2.getD j (0,0,0)).2.2=v;omega⟩
 ·intro h v hv;have hv:=zV.1 hv;obtain ⟨j,hj,e⟩:=h v (by omega);have e:(s.2.getD j (0,0,0)).1=v\/(s.2.getD j (0,0,0)).2.1=v\/(s.2.getD j (0,0,0)).2.2=v:=e;unfold loG
  rw [if_pos (zRj hv _ ⟨j,hj,by
   show (s.2.getD j (0,0,0)).1.toNat=v\/(s.2.getD j (0,0,0)).2.1.toNat=v\/(s.2.getD j (0,0,0)).2.2.toNat=v
   omega⟩)]
theorem zRn {v i:Int} {t:P3} {m:zC5} {k:Nat} {w y:Int} (h:y∈zAy m w):y∈zAy (enW v i t m k) w:=by
 unfold enW;split
 ·exact h
 ·rw [zEY];split
  ·rename_i e;subst e;exact zb9 _ h
  ·exact h
theorem z3z {v i:Int} {t:P3} {m:zC5} {k:Nat} (h:(trl t).getD k 0≠v):i∈zAy (enW v i t m k) ((trl t).getD k 0):=by
 unfold enW;rw [if_neg h,zEY,if_pos rfl];exact zbg _ (zF.2 rfl)
theorem z1U {l:List P3} {v:Int} {tris:List Int} {m:zC5} {j:Nat} {w y:Int} (h:y∈zAy m w):y∈zAy (enT l v tris m j) w :=
 qX (n:=3) (fun _ (m:zC5)=>y∈zAy m w) h (fun _ _ _ h=>zRn h) 3 (zI _)
theorem zFr {S:Type} {f:S->Nat->S} {s:S} {P:S->Prop} {k:Nat} (hk: ∀ s,P (f s k)) (hs: ∀ s j,P s->P (f s j)): ∀ n,k<n->P (qA f s n)
 | n+1,h=>by
   by_cases e:k=n
   ·subst e;exact hk _
   ·exact hs _ _ (zFr hk hs n (by omega))
theorem z1p {t:P3} {w:Int} (h:w∈trl t): ∃ k,k<3/\(trl t).getD k 0=w:=by
 simp only [trl,zT,zbe,or_false] at h;rcases h with h|h|h
 ·exact ⟨0,by omega,h.symm⟩
 ·exact ⟨1,by omega,h.symm⟩
 ·exact ⟨2,by omega,h.symm⟩
theorem z3U {l:List P3} {v:Int} {tris:List Int} {y w:Int} (hy:y∈tris) (hw:w∈trl (tri l y)) (hn:w≠v):y∈zAy (enA l v tris tris.length) w:=by
 obtain ⟨j,hj,e⟩:=yG.1 hy;have e2:tris.getD j 0=y:=by rw [gdE,gE hj];exact e
 unfold enA;refine zFr (P:=fun m=>y∈zAy m w) (k:=j) (fun m=> ?_) (fun m i h=>z1U h) _ hj;obtain ⟨k,hk,ek⟩:=z1p hw;unfold enT;rw [e2];refine zFr (P:=fun m=>y∈zAy m w) (k:=k) (fun m=> ?_) (fun m i h=>zRn h) 3 hk;have:=z3z (v:=v) (i:=y) (t:=tri l y) (m:=m) (k:=k) (by rw [ek];exact hn);rw [ek] at this;exact this
def Reach (E:zC5) (l:List P3) (v:Int) (S:TgS) (x:Int):Prop:=x∈S.2.1.drop S.1\/∀ w∈trl (tri l x),w≠v->∀ y∈zAy E w,had S.2.2 y=true
theorem zT7 {av:List Int} {S:TgS} {j:Nat} {y:Int} (h:had S.2.2 y=true):had (vis av S j).2.2 y=true:=by
 unfold vis;split
 ·exact h
 ·show had (zAB (.int .i64) S.2.2 (av.getD j 0) true) y=true;rw [zFS];split
  ·rfl
  ·exact h
theorem z3S {av:List Int} {S:TgS} {j:Nat} :had (vis av S j).2.2 (av.getD j 0)=true:=by
 unfold vis;split
 ·assumption
 ·show had (zAB (.int .i64) S.2.2 (av.getD j 0) true) _=true;rw [zFS,if_pos rfl]
theorem z0c {av:List Int} {S:TgS} {j:Nat} {y:Int} (h:y∈S.2.1.drop S.1):y∈(vis av S j).2.1.drop (vis av S j).1:=by
 unfold vis;split
 ·exact h
 ·show y∈(S.2.1.drop S.1++[av.getD j 0]).drop 0;rw [zb6];exact zb9 _ h
theorem z1J {av:List Int} {S:TgS} {j:Nat} {y:Int} (h:had (vis av S j).2.2 y=true):had S.2.2 y=true\/y∈(vis av S j).2.1.drop (vis av S j).1:=by
 unfold vis at *;split at h
 ·exact .inl h
 ·rename_i hn;have h:had (zAB (.int .i64) S.2.2 (av.getD j 0) true) y=true:=h;rw [zFS] at h;rw [if_neg hn];split at h
  ·rename_i e;subst e;refine .inr ?_;show _∈(S.2.1.drop S.1++[av.getD j 0]).drop 0;rw [zb6];exact zbg _ (zF.2 rfl)
  ·exact .inl h
structure zHZ (S T:TgS):Prop where
 had: ∀ y,had S.2.2 y=true->had T.2.2 y=true
 wait: ∀ y,y∈S.2.1.drop S.1->y∈T.2.1.drop T.1
 new: ∀ y,S1.had T.2.2 y=true->S1.had S.2.2 y=true\/y∈T.2.1.drop T.1
theorem zHZ.refl (S:TgS):zHZ S S:=⟨fun _ h=>h,fun _ h=>h,fun _ h=> .inl h⟩
theorem zHZ.trans {S T U:TgS} (h:zHZ S T) (k:zHZ T U):zHZ S U :=
 ⟨fun y e=>k.had y (h.had y e),fun y e=>k.wait y (h.wait y e),fun y e=>by
   rcases k.new y e with e|e
   ·rcases h.new y e with e|e
    ·exact .inl e
    ·exact .inr (k.wait y e)
   ·exact .inr e⟩
theorem z1Y {av:List Int} {S:TgS} {j:Nat} :zHZ S (vis av S j):=⟨fun _ h=>zT7 h,fun _ h=>z0c h,fun _ h=>z1J h⟩
theorem zVa {av:List Int} {S:TgS} (n:Nat):zHZ S (qA (vis av) S n) :=
 qX (n:=n) (fun _ (T:TgS)=>zHZ S T) (.refl S) (fun _ _ _ h=>h.trans z1Y) n (zI _)
theorem zQx {E:zC5} {v:Int} {t:P3} {S:TgS} {k:Nat} :zHZ S (tgW E v t S k):=by
 unfold tgW;split
 ·exact .refl S
 ·exact zVa _
theorem zNR {E:zC5} {v:Int} {t:P3} {S:TgS} (n:Nat):zHZ S (qA (tgW E v t) S n) :=
 qX (n:=n) (fun _ (T:TgS)=>zHZ S T) (.refl S) (fun _ _ _ h=>h.trans zQx) n (zI _)
theorem z4k {E:zC5} {v:Int} {t:P3} {S:TgS} {k:Nat} (h:(trl t).getD k 0≠v) {y:Int} (hy:y∈zAy E ((trl t).getD k 0)):had (tgW E v t S k).2.2 y=true:=by
 unfold tgW;rw [if_neg h];obtain ⟨j,hj,e⟩:=yG.1 hy;have e2:(zAy E ((trl t).getD k 0)).getD j 0=y:=by rw [gdE,gE hj];exact e
 refine zFr (P:=fun S:TgS=>had S.2.2 y=true) (k:=j) (fun S=> ?_) (fun _ _ h=>zT7 h) _ hj;have:=z3S (av:=zAy E ((trl t).getD k 0)) (S:=S) (j:=j);rw [e2] at this;exact this
def RInv (E:zC5) (l:List P3) (v:Int) (S:TgS):Prop:= ∀ x,had S.2.2 x=true->Reach E l v S x
theorem z3B {E:zC5} {l:List P3} {v:Int} {S:TgS} {r:Nat} (h:RInv E l v S):RInv E l v (tgR E l v S r):=by
 unfold tgR;split
 case isFalse=>exact h
 rename_i hs;have g:=zNR (E:=E) (v:=v) (t:=tri l (S.2.1.getD S.1 0)) (S:=(S.1+1,S.2.1,S.2.2)) 3;intro x hx
 by_cases e:x=S.2.1.getD S.1 0
 ·subst e;refine .inr fun w hw hn y hy=> ?_;obtain ⟨k,hk,ek⟩:=z1p hw;refine zFr (P:=fun S:TgS=>had S.2.2 y=true) (k:=k) (fun S=> ?_) (fun S j h=>zQx.had y h) 3 hk;exact z4k (by rw [ek];exact hn) (by rw [ek];exact hy)
 ·rcases g.new x hx with hx|hx
  ·rcases h x hx with hw|hw
   ·left;refine g.wait x ?_;show x∈S.2.1.drop (S.1+1);rw [List.drop_eq_getElem_cons hs] at hw;rcases zT.1 hw with hw|hw
    ·exact absurd (by rw [hw,gdE,gE hs];rfl) e
    ·exact hw
   ·exact .inr fun w hw' hn y hy=>g.had y (hw w hw' hn y hy)
  ·exact .inl hx
theorem zU3 (E:zC5) (l:List P3) (v x0:Int): ∀ r,RInv E l v (tgS E l v x0 r)
 | 0=>fun x hx=>by
   have hx:had [(x0,true)] x=true:=hx;left;show x∈[x0].drop 0;rw [zb6,zF];have:had (zAB (.int .i64) ([]:ReM) x0 true) x=true:=hx;rw [zFS] at this;split at this
   ·rename_i e;exact e.symm
   ·cases this
 | r+1=>z3B (r:=r) (zU3 E l v x0 r)
theorem zQa {E:zC5} {l:List P3} {v x0:Int} {tris:List Int} {c:Nat} (hE:zVL tris c E) (hx:x0∈tris): ∀ r,(tgS E l v x0 r).1<(tgS E l v x0 r).2.1.length->meas tris (tgS E l v x0 r)+r<=tris.length+1
 | 0,_=>zI9
 | r +1,h=>by
   have hok:=(z2K hE (l:=l) (v:=v) hx r).1
   by_cases hs:(tgS E l v x0 r).1<(tgS E l v x0 r).2.1.length
   ·have ih:=zQa (l:=l) (v:=v) hE hx r hs;have:=(z2T (l:=l) (v:=v) (r:=r) hE hok).2.2 hs;have e:tgS E l v x0 (r+1)=tgR E l v (tgS E l v x0 r) r:=rfl;rw [e];omega
   ·rw [zL4 hs 1] at h;exact absurd h hs
theorem zQU: ∀ {m:ReM} {x:Int},had m x=true->x∈zE3 m
 | [],x,h=>by cases h
 | (a,b)::r,x,h=>by
   unfold had at h;simp only [jS] at h;unfold zE3;split at h
   ·rename_i e _;exact zT.2 (.inl e.symm)
   ·exact zQ _ (zQU h)
theorem zBx: ∀ (ks l:List Int),ks.Nodup->(∀ x∈ks,x∈l)->ks.length<=l.length
 | [],l,_,_=>zbH _
 | a::r,l,hd,hs=>by
   have hd:=zbG.1 hd;have ha:=hs a (zY ..);have ih:=zBx r (l.erase a) hd.2 (fun y hy=>(List.mem_erase_of_ne (fun e=>hd.1 (by rw [<- e];exact hy))).2 (hs y (zQ _ hy)));have hle:(l.erase a).length=l.length - 1:=List.length_erase_of_mem ha;have:=List.length_pos_of_mem ha;simp only [yA];omega
theorem z6X {l:List P3} {v:Int} {tris:List Int} (ht:tris≠[]) (hn:tris.Nodup)
 (hc: ∀ Q:Int->Prop,(∀ i∈tris,∀ j∈tris,(∃ w,w≠v/\w∈trl (tri l i)/\w∈trl (tri l j))->Q i->Q j)->Q (tris.getD 0 0)->∀ i∈tris,Q i):zT2 l v tris=true:=by
 have hm:tris.getD 0 0∈tris:=jB (zbl.2 ht);have hE:=zWE l v tris tris.length (zI _);have hin:=z2q (l:=l) (v:=v) (x0:=tris.getD 0 0) (z2g l v tris) (Q:=fun _=>True) (fun _ _ _ _ _ _=>trivial) ⟨hm,trivial⟩ (2*tris.length+2);have hR:=zU3 (enA l v tris tris.length) l v (tris.getD 0 0) (2*tris.length+2)
 have hstop: ¬ (tgS (enA l v tris tris.length) l v (tris.getD 0 0) (2*tris.length+2)).1<(tgS (enA l v tris tris.length) l v (tris.getD 0 0) (2*tris.length+2)).2.1.length:=fun h=>by
  have:=zQa (l:=l) (v:=v) hE hm _ h;omega
 have h0:had (tgS (enA l v tris tris.length) l v (tris.getD 0 0) (2*tris.length+2)).2.2 (tris.getD 0 0)=true :=
  qX (n:=2*tris.length+2) (fun _ (S:TgS)=>had S.2.2 (tris.getD 0 0)=true) (by
   show had (zAB (.int .i64) ([]:ReM) (tris.getD 0 0) true) _=true
   rw [zFS,if_pos rfl]) (fun j S _ h=>by
   unfold tgR;split
   ·exact (zNR 3).had _ h
   ·exact h) _ (zI _)
 unfold zT2;generalize tgS (enA l v tris tris.length) l v (tris.getD 0 0) (2*tris.length+2)=S at *
 have all:=hc (fun i=>had S.2.2 i=true) (fun i hi j hj ⟨w,h1,h2,h3⟩ hq=>by
  rcases hR i hq with h|h
  ·rw [zb7 (by omega)] at h;cases h
  ·exact h w h2 h1 j (z3U hj h3 h1)) h0
 have hk: ∀ x∈zE3 S.2.2,x∈tris:=fun x hx=>(hin.k x hx).1;have l1:=zBx _ _ hin.nd hk;have l2:=zBx tris (zE3 S.2.2) hn fun x hx=>zQU (all x hx);have e:(zE3 S.2.2).length=S.2.2.length:=by unfold zE3;rw [yV]
 rw [e] at l1 l2;have:S.2.2.length=tris.length:=by omega
 rw [this];exact beq_self_eq_true _
theorem zIr {s:List (List Int)} {w:Int} {j v:Nat} (h:(s.getD v []).Nodup/\∀ x∈s.getD v [],x<(j:Int)) (h2:w.toNat=v->∀ x∈s.getD v [],x≠(j:Int)):((atP s w j).getD v []).Nodup:=by
 rw [zBd];split
 ·rename_i e;rw [List.nodup_append];refine ⟨h.1,zbG.2 ⟨by simp,zbS⟩,fun a ha b hb=> ?_⟩;rw [zF] at hb;rw [hb];exact h2 e.1 a ha
 ·exact h.1
theorem zMt {n:Nat} {l:List P3} (hl: ∀ j,j<l.length->0<=(tg l j).1/\0<=(tg l j).2.1/\0<=(tg l j).2.2) (hd: ∀ i,i<l.length->¬ dgn (tg l i)) {v:Nat} (hv:v<n): ∀ i,i<=l.length->((atF n l i).getD v []).Nodup
 | 0,_=>by
   have e:(atF n l 0).getD v []=[]:=by
    show (List.replicate n ([]:List Int)).getD v []=[];rw [gdE,zbI];split<;>rfl
   rw [e];exact zbS
 | i + 1,hi=>by
   have ih:=zMt hl hd hv i (by omega);have hm:=zLO hl hv i (by omega)
   have hlt: ∀ x∈(atF n l i).getD v [],x<(i:Int):=fun x hx=>by
    obtain ⟨j,hj,e,_⟩:=(hm x).1 hx;omega
   obtain ⟨h1,h2,h3⟩:=hl i (by omega);have hdg:=hd i (by omega);unfold dgn at hdg;show ((at3 (atF n l i) (tg l i) i).getD v []).Nodup;unfold at3
   -- at most one of the three is v
   by_cases e1:(tg l i).1.toNat=v
   ·have k2: ¬ (tg l i).2.1.toNat=v:=by omega
    have k3: ¬ (tg l i).2.2.toNat=v:=by omega
    rw [zBd,if_neg (fun h=>k3 h.1),zBd,if_neg (fun h=>k2 h.1)];exact zIr ⟨ih,hlt⟩ fun _ x hx=>by have:=hlt x hx;omega
   ·by_cases e2:(tg l i).2.1.toNat=v
    ·have k3: ¬ (tg l i).2.2.toNat=v:=by omega
     rw [zBd,if_neg (fun h=>k3 h.1)];have e:(atP (atF n l i) (tg l i).1 i).getD v []=(atF n l i).getD v []:=by rw [zBd,if_neg (fun h=>e1 h.1)]
     exact zIr ⟨by rw [e];exact ih,by rw [e];exact hlt⟩ fun _ x hx=>by rw [e] at hx;have:=hlt x hx;omega
    ·have e:(atP (atP (atF n l i) (tg l i).1 i) (tg l i).2.1 i).getD v []=(atF n l i).getD v []:=by rw [zBd,if_neg (fun h=>e2 h.1),zBd,if_neg (fun h=>e1 h.1)]
     exact zIr ⟨by rw [e];exact ih,by rw [e];exact hlt⟩ fun _ x hx=>by rw [e] at hx;have:=hlt x hx;omega
theorem zUo {s:Int×List P3} (hf:zMc s) (hd: ∀ i,i<s.2.length->¬ dgn (tg s.2 i)) (hu: ∀ v:Nat,(v:Int)<s.1->∃ j,j<s.2.length/\z8 (tg s.2 j) v):zXw s=[]↔∀ v:Nat,(v:Int)<s.1->z6C s.2 v:=by
 constructor
 ·exact fun h v hv Q hQ a h1 h2 h3=>zXX (n:=s.1) (l:=s.2) h (zK4 hf) hv Q hQ h1 h2 h3
 ·intro h;refine zbO.2 fun v hv=> ?_;have hv:=zV.1 hv;unfold piG;rw [if_pos ?_];have hm:=zLO (n:=s.1.toNat) (l:=s.2) (zK4 hf) hv _ (zI _);refine z6X (zOL s.1.toNat s.2 hv _ (hu v (by omega))) (zMt (zK4 hf) hd hv _ (zI _)) fun Q hQ h0 i hi=> ?_;obtain ⟨j,hj,rfl,hjv⟩:=(hm i).1 hi;have hz:=(hm _).1 (jB (j:=0) (zbl.2 (zOL s.1.toNat s.2 hv _ (hu v (by omega)))));obtain ⟨z,hz1,hz2,hz3⟩:=hz;rw [hz2] at h0;refine h v (by omega) (fun k=>Q (k:Int)) (fun a b ha hb hav hbv ⟨w,hw,hwa,hwb⟩ hq=> ?_) z hz1 hz3 h0 j hj hjv
  exact hQ a ((hm a).2 ⟨a,ha,rfl,hav⟩) b ((hm b).2 ⟨b,hb,rfl,hbv⟩) ⟨w,hw,zPs.2 hwa,zPs.2 hwb⟩ hq
theorem zV7 {l:List P3} :dgL l l.length=[]↔∀ i,i<l.length->¬ dgn (tg l i):=by
 constructor
 ·exact fun h i hi=>z2v h hi
 ·intro h;refine zbO.2 fun i hi=> ?_;have:=h i (zV.1 hi);unfold dgn at this;unfold dgG;rw [if_neg ?_];intro e;unfold zMi at e;simp only [zbA,beq_iff_eq] at e;exact this e
theorem zUb {s:Int×List P3} :jF s=[]↔zMc s:=by
 obtain ⟨n,l⟩:=s;constructor
 ·intro h;exact zF5 (by rw [h];simp)
 ·intro h
  have hb:zHN (n,l)=false:=by
   have h1:0<=n:=h.1;have h2:n<=4096:=h.2.1;have h3:l.length<=8192:=h.2.2.1;unfold zHN;simp only [Bool.or_eq_false_iff,yM];omega
  unfold jF;rw [hb];refine zbO.2 fun i hi=> ?_;unfold z6D;rw [if_pos (h.2.2.2 i (zV.1 hi))]
theorem zWz (s:Int×List P3):allR s=[]↔(jF s=[]/\dgL s.2 s.2.length=[]/\(prS qQ 3 s.2 s.2.length).2.2=[]/\(prS zDm 4 s.2 s.2.length).2.2=[]/\zH3 s=[]/\zXw s=[]):=by
 constructor
 ·intro h;have h:=zEs h;exact ⟨h _ (by simp),h _ (by simp),h _ (by simp),h _ (by simp),h _ (by simp),h _ (by simp)⟩
 ·rintro ⟨h1,h2,h3,h4,h5,h6⟩;unfold allR;simp [zDI,h1,h2,h3,h4,h5,h6]
theorem zD9 (s:Int×List P3):(zJr s).1=0↔zBK s:=by
 constructor
 ·intro h;obtain ⟨h1,h2,h3,h4,h5,h6⟩:=(zWz s).1 (zM5 h);have hf:=zUb.1 h1;have hd:=zV7.1 h2;have hu:=(zRX hf).1 h5;exact ⟨hf,hd,(zNn hd).1 h3,(zV6 hd).1 h4,hu,(zUo hf hd hu).1 h6⟩
 ·intro h;have:allR s=[]:=(zWz s).2 ⟨zUb.2 h.fit,zV7.2 h.deg,(zNn h.deg).2 h.dif,(zV6 h.deg).2 h.mir,(zRX h.fit).2 h.use,(zUo h.fit h.deg h.use).2 h.pin⟩;unfold zJr;rw [this];rfl
end S1
namespace S1
theorem zLk {x:yI.T} (g:Good x) {a b:Int} (h:zAQ x a b=true):(0<=a/\a<x.1.1)/\(0<=b/\b<x.1.1):=by
 have key: ∀ {a b:Int},0<=qJ x (a,b)->(0<=a/\a<x.1.1)/\(0<=b/\b<x.1.1):=fun {a b} h=>by
  unfold qJ at h;cases e:jS .arr2 x.2.1 (a,b) with
  | none=>rw [e] at h;exact absurd h (by decide)
  | some c =>
    obtain ⟨h1,h2⟩:=g.map _ _ e;have e1:yS x (qY x c)=a:=congrArg Prod.fst h2;have e2:yS x (qV x c)=b:=congrArg Prod.snd h2;have k1:=zBA g.fit (zAF h1).1;have k2:=zBA g.fit (zAF h1).2;rw [e1] at k1;rw [e2] at k2;exact ⟨k1,k2⟩
 unfold zAQ at h;rw [zbA,zP,zP] at h;rcases h with h|h
 ·exact key h
 ·exact (key h).symm
theorem z0r {x:yI.T} {v:Int} (h: ¬ (0<=v/\v<x.1.1)):zCz x v=[]:=by
 have e:yU (some x) v=[]:=zEa fun k=>h ⟨k.1,k.2.1⟩;unfold zCz;rw [e];simp [lkO,zGG]
theorem zHj {s:Int×List P3} {x:yI.T} (h:zHP s=some x):x=zAa s/\Full x/\zBK s:=by
 unfold zHP at h;split at h
 ·rename_i hc;cases h;exact ⟨rfl,zSF hc,(zD9 s).1 hc⟩
 ·cases h
theorem zAu {s:Int×List P3} (h:zBK s):zHP s=some (zAa s)/\Full (zAa s)/\(zAa s).1=s:=by
 have hc:=(zD9 s).2 h;refine ⟨?_,zSF hc,rfl⟩;unfold zHP;rw [if_pos hc]
theorem zCg {x:yI.T} {b:Int} : ∀ n c,∀ y∈jW x b n c,yO x y<0->(jW x b n c).getD ((jW x b n c).length - 1) 0=y
 | 0,c,y,h,_=>by cases h
 | n + 1,c,y,h,ha=>by
   unfold jW at h ⊢
   by_cases h1:yO x c<0
   ·rw [if_pos h1] at h ⊢;rw [zF.1 h];rfl
   ·rw [if_neg h1] at h ⊢
    by_cases h2:yO x c=b
    ·rw [if_pos h2] at h ⊢;rw [zF.1 h];rfl
    ·rw [if_neg h2] at h ⊢;rcases zT.1 h with h|h
     ·subst h;exact absurd ha h1
     ·have ih:=zCg n _ y h ha;have hl:(jW x b n (yO x c)).length>=1:=List.length_pos_of_mem h;generalize jW x b n (yO x c)=L at *;rw [yA,show L.length+1 - 1=(L.length - 1)+1 by omega,List.getD_cons_succ];exact ih
theorem Full.link_mem {x:yI.T} (g:Full x) {a v:Int} (h0:0<=a) (h1:a<x.1.1):v∈zCz x a↔(∃ c∈yU (some x) a,yS x (qY x c)=v)\/(∃ c∈yU (some x) a,yO x c<0/\yS x (qV x c)=v):=by
 obtain ⟨b,_,eL,hb1,hb2,hb3,hall,_⟩:=g.around h0 h1;have hpos:(yU (some x) a).length>=1:=List.length_pos_of_mem hb3
 have hlast:zGG (yU (some x) a) (yU (some x) a).length=(yU (some x) a).getD ((yU (some x) a).length - 1) 0:=by
  unfold zGG;rw [if_neg (by omega)]
 have hin:(yU (some x) a).getD ((yU (some x) a).length - 1) 0∈yU (some x) a:=jB (by omega);unfold zCz;rw [yD]
 have e1:v∈lkO x (yU (some x) a) (yU (some x) a).length↔∃ c∈yU (some x) a,yS x (qY x c)=v:=by
  unfold lkO;rw [zbK,yC]
 rw [e1,hlast];refine or_congr_right ⟨fun h=> ?_,fun ⟨c,hc,ha,hv⟩=> ?_⟩
 ·split at h
  ·rename_i hc;exact ⟨_,hin,hc.2,(zF.1 h).symm⟩
  ·cases h
 ·have hc2:=hc;rw [eL] at hc2;have hl:=zCg _ _ c hc2 ha;rw [<- eL] at hl;rw [hl,if_pos ⟨(yH.1 (hall c hc).1).1,ha⟩,hv];exact zF.2 rfl
theorem zHf {x:yI.T} (g:Full x) {a v:Int} :zAQ x a v=true↔∃ d,j6 x d=true/\(jR x d=(a,v)\/jR x d=(v,a)):=by
 have key: ∀ {a v:Int},0<=qJ x (a,v)↔∃ d,j6 x d=true/\jR x d=(a,v):=fun {a v} =>by
  constructor
  ·intro h;unfold qJ at h;cases e:jS .arr2 x.2.1 (a,v) with
   | none=>rw [e] at h;exact absurd h (by decide)
   | some c=>exact ⟨c,g.map _ _ e⟩
  ·rintro ⟨d,h1,h2⟩;rw [<- h2,g.facing h1];exact (yH.1 h1).1
 unfold zAQ;rw [zbA,zP,zP,key,key];constructor
 ·rintro (⟨d,h1,h2⟩|⟨d,h1,h2⟩)
  ·exact ⟨d,h1,.inl h2⟩
  ·exact ⟨d,h1,.inr h2⟩
 ·rintro ⟨d,h1,(h2|h2)⟩
  ·exact .inl ⟨d,h1,h2⟩
  ·exact .inr ⟨d,h1,h2⟩
theorem Full.link_iff {x:yI.T} (g:Full x) {a v:Int} :v∈zCz x a↔zAQ x a v=true:=by
 by_cases ha:0<=a/\a<x.1.1
 case neg =>
  rw [z0r ha];refine ⟨fun h=>(by cases h),fun h=>absurd (zLk g.toGood h).1 ha⟩
 obtain ⟨b,_,eL,hb1,hb2,hb3,hall,haft,hbef,_⟩:=g.around ha.1 ha.2;rw [g.link_mem ha.1 ha.2,zHf g];constructor
 ·rintro (⟨c,hc,hv⟩|⟨c,hc,_,hv⟩)
  ·obtain ⟨k1,k2⟩:=hall c hc;exact ⟨_,(zAF k1).2,.inl (by rw [zOA k1,k2,hv])⟩
  ·obtain ⟨k1,k2⟩:=hall c hc;exact ⟨_,(zAF k1).1,.inr (by rw [zNf k1,k2,hv])⟩
 ·rintro ⟨d,h1,(h2|h2)⟩
  ·have e1:yS x (qY x d)=a:=congrArg Prod.fst h2;have e2:yS x (qV x d)=v:=congrArg Prod.snd h2;have hc:=g.around_all (zAF h1).1;rw [e1] at hc;exact .inl ⟨_,hc,by rw [(np h1).2.2.1];exact e2⟩
  ·have e1:yS x (qY x d)=v:=congrArg Prod.fst h2;have e2:yS x (qV x d)=a:=congrArg Prod.snd h2;have hc:=g.around_all (zAF h1).2;rw [e2] at hc;have hv:yS x (qV x (qV x d))=v:=by rw [(np h1).2.2.2];exact e1
   by_cases hs:yO x (qV x d)<0
   ·exact .inr ⟨_,hc,hs,hv⟩
   ·have hs:0<=yO x (qV x d):=by omega
    exact .inl ⟨_,haft _ hc hs,by rw [(g.after_v hs).2];exact hv⟩
theorem Full.opp_v {x:yI.T} (g:Full x) {c:Int} (h:0<=zAI x c):j6 x c=true/\j6 x (zAI x c)=true/\yS x (qY x (zAI x c))=yS x (qV x c)/\yS x (qV x (zAI x c))=yS x (qY x c):=by
 obtain ⟨h1,h2,h3⟩:=g.opp h;exact ⟨h1,h2,congrArg Prod.fst h3,congrArg Prod.snd h3⟩
theorem zf2 {x:yI.T} {c d:Int} (h1:j6 x c=true) (h2:d=c\/d=qY x c\/d=qV x c):z8 (x.1.2.getD (c / 3).toNat (0,0,0)) (yS x d):=by
 have hd:j6 x d=true/\(d / 3).toNat=(c / 3).toNat:=by
  have hc:=yH.1 h1;rcases h2 with e|e|e
  ·subst e;exact ⟨h1,rfl⟩
  ·subst e;exact ⟨(zAF h1).1,by rw [zAg h1];unfold trn;omega⟩
  ·subst e;exact ⟨(zAF h1).2,by rw [zBP h1];unfold trn;omega⟩
 rw [<- hd.2];exact (zAw hd.1).2
theorem z7v {x:yI.T} {c v:Int} (h1:j6 x c=true) (h:z8 (x.1.2.getD (c / 3).toNat (0,0,0)) v):v=yS x c\/v=yS x (qY x c)\/v=yS x (qV x c):=by
 obtain ⟨a,a1,a2,a3⟩:=zJ7 (zAw h1).1 h;have i1:=yH.1 h1;have i2:=yH.1 a1
 have:a=c\/a=qY x c\/a=qV x c:=by
  rw [zAg h1,zBP h1];unfold trn;omega
 rcases this with e|e|e
 ·subst e;exact .inl a3.symm
 ·subst e;exact .inr (.inl a3.symm)
 ·subst e;exact .inr (.inr a3.symm)
end S1
namespace Go.Vm
open Go.RowKit
def zQu (T:Tab) (SQ:zDE) (fn:Func) (args:List AV) (R:AV->List Ob->Prop):Prop :=
 match fn.body with
 | some c=>(St.init args).forceAll fun s=>qC T SQ c s (zS5 T fn R)
 | none=>False
section
variable {P:Program} {T:Tab} {SQ:zDE} {B B0:Base} {w w':World} {I τ:Sig} {M:yR} {st:St} {tmps:Array Value} {N:Nat} {a:Act}
theorem zPB {fn:Func} {st':St} {R:Ending->World->Prop}
 (hend: ∀ (B1:Base) (σ1:Sig) (β1:yR) (w':World),B1.w=w->zTG ⟨w,I,[]⟩ B1.sg->GG B1 σ1 β1 st' tmps w'->∃ v,(results fn tmps).run P w'= .ok v w'/\R (.returned v) w') (hag:Ag I w) :
 ∀ (Ds:List Nat) (B1:Base) (σ1:Sig) (β1:yR) (w':World),Ds.Nodup->(∀ D∈Ds,B1.sg D=some (.deferred (some []))/\w.heap.size<=D)->B1.w=w->zTG ⟨w,I,[]⟩ B1.sg->GG B1 σ1 β1 st' tmps w'->
   LeavesInM (FR none) 0 P fn tmps R (Ds.map mark) .returning w':=by
 intro Ds
 induction Ds with
 | cons D r ih =>
   intro B1 σ1 β1 w' hn hD hw hgr hg;obtain ⟨hn1,hn2⟩:=zbG.1 hn;obtain ⟨d1,d2⟩:=hD D (zY ..);rw [Base.relock B1 d1] at hg;obtain ⟨_,hl2,_⟩:=hg.locked rfl;have zDU: ∀ b,b≠D->(B1.sg.del D) b=B1.sg b:=fun b hb=>by unfold Sig.del;rw [if_neg hb]
   obtain ⟨hg2,_⟩:=hg.unlock rfl (by show B1.w.heap.size<=D;rw [hw];exact d2) (by show (B1.sg.del D) D=none;unfold Sig.del;rw [if_pos rfl]) (.deferred none);refine ⟨by simp,.inl ⟨D,_,rfl,run_takeDeferred hl2,ih {B1 with sg:=B1.sg.del D} _ _ _ hn2 (fun D' hD'=> ?_) hw ⟨fun b o e=> ?_,fun b hb=> ?_⟩ hg2⟩⟩
   ·obtain ⟨k1,k2⟩:=hD D' (zQ _ hD');exact ⟨by show (B1.sg.del D) D'=_;rw [zDU _ (fun e=>hn1 (e▸hD'))];exact k1,k2⟩
   ·have hb:b≠D:=fun hb=>by subst hb;have:=hag.lt e;omega
    show ∃ o',(B1.sg.del D) b=some o'/\_;rw [zDU b hb];exact hgr.1 b o e
   ·have hb:b<w.heap.size:=hb;show (B1.sg.del D) b=_;rw [zDU b (by omega)];exact hgr.2 b hb
 | nil =>
   intro B1 σ1 β1 w' _ _ hw hgr hg;exact hend B1 σ1 β1 w' hw hgr hg
theorem zTr (R:jM P T) (hSQ:zDb P SQ) {f:FuncId} {fn:Func} {c:Code} (hf:P.funcs[f]? =some fn) (hb:fn.body=some c) (hok:zAi fn.ntmps c=true)
 {args:List AV} (hl:args.length<=fn.ntmps) {q:Option Prop} {u:AV} {us:List Ob} (h:zBl args->Opt q->zQu T SQ fn args (fun v obs=>v=u/\obs=us)):zCv P f args (none,q,u,us):=by
 intro I vals w hag hv;refine ⟨trivial,fun hq=> ?_⟩;have hga:=zJA (N:=fn.ntmps) hag hv hl;have hk:=h (zCF hv) hq;simp only [zQu,hb,St.forceAll_eq] at hk;refine (callsIn_of_wp_marks (F:=Fence.wide) (n:=0) hf hb trivial ?_).calls (fun _ _ hd=>by cases hd);rw [<- FR.none];refine zOJ (B0:=⟨w,I,[]⟩) R hSQ c hok ⟨rfl,⟨Sig.le.refl _,fun _ _=>rfl⟩,[],rfl,zbS,fun D hD=>by cases hD⟩ hga hk fun e B1 st' a' w' hm hp h'=> ?_
 have fin:(match fn.results.toList.all (zGU T st')&&(nodupB (zAv (zAW T fn st').parts)&&zMZ st'.hp (zAv (zAW T fn st').parts)) with
  | true=>(zAW T fn st').mapAS (zTE (zAv (zAW T fn st').parts))=u/\zJj st'.hp (zAv (zAW T fn st').parts)=us
  | false=>False)->LeavesInM (FR none) 0 P fn a'.tmps (fun e w'=> ∃ v σ' β',e= .returned v/\I.le σ'/\Ag σ' w'/\
  (∀ b,b<w.heap.size->σ' b=I b)/\y6 σ' β' u v/\zBs σ' w.heap.size w' us β'/\Below w.heap.size w w') a'.defers .returning w':=by
  intro hu;split at hu
  case h_2=>exact hu.elim
  rename_i hallok;rw [zC,zC] at hallok;obtain ⟨hallok,hnd,hrows⟩:=hallok;obtain ⟨σ1,β1,hg⟩:=h'.gg;obtain ⟨Ds,e1,e2,e3⟩:=hm.ds;rw [h'.defers,e1];refine zPB (w:=w) (I:=I) (st':=st') (fun B1 σ1 β1 w' hw hgr hg=> ?_) hag Ds B1 σ1 β1 w' e2 e3 hm.w hm.grew hg;have hsl:I.le σ1:=Sig.le.trans hgr.1 hg.grew.1;have hsb: ∀ b,b<w.heap.size->σ1 b=I b:=fun b hb=>(hg.grew.2 b (by rw [hw];exact hb)).trans (hgr.2 b hb)
  have hbel:Below w.heap.size w w':=by have:=hg.bel;rw [hw] at this;exact this
  obtain ⟨vs,hrun,hall⟩:=zB5 (P:=P) (w:=w') (fn:=fn) (tmps:=a'.tmps) (Q:=fun r v=>y6 σ1 β1 (zEW T st' r) v) (fun r hr=>by
   have hro:=zJ.1 hallok r hr;cases r with
   | tmp t=>exact ⟨_,rfl,hg.env t⟩
   | cell a t =>
     simp only [zGU] at hro;simp only [zEW];have hx:=hg.env a;split at hro
     ·rename_i id i k hea;rw [hea] at hx;split at hro
      ·rename_i v hv;obtain ⟨p,_,hptr,_⟩:=hx;obtain ⟨_,hrun⟩:=zBf (w:=w') R.ty R.one hg.mem (t:=t) (hg.env a) (p:=none) (q:=none) (v:=v) (by rw [hea];exact hv);obtain ⟨val,h1,h2⟩:=hrun trivial;refine ⟨val,?_,h2⟩;rw [hptr] at h1 ⊢;rw [zBL] at h1;simp only [asAddr,zaz,zb4,zay];exact h1
      ·cases hro
     ·cases hro)
  refine ⟨_,hrun,_,σ1,(zAv (zAW T fn st').parts).map fun i=>(β1[i]?).getD none,rfl,hsl,hg.mem.ag,hsb,?_,?_,hbel⟩
  ·exact ((zG8 hall).mapAS fun a v ha=>y5.ren (ids:=zAv (zAW T fn st').parts) ha) |> fun h=>by rw [hu.1] at h;exact h
  ·have:=zFc (w:=w') hg.mem.ob (fun id ob p hi hp=>by have:=hg.sep id ob p hi hp;rw [hw] at this;exact this) _ hnd hrows;rw [hu.2] at this;exact this
 cases e with
 | normal=>simp only [zS5,AV.force_eq] at hp;exact fin hp
 | ret=>simp only [zS5,AV.force_eq] at hp;exact fin hp
 | _=>exact hp.elim
end
end Go.Vm
namespace S1
theorem z07 (x:yI.T) (v:Int) (g:Good x):zQu ⟨tyL,[(90,zFO),(121,zKt),(122,zLy),(130,zGS),(94,zC4)],[]⟩ z8P f142 [(ETy.pt yI).av (some x),y8.av v] (fun r obs=>r= .s (.own 0 0 (zCz x v).length)/\obs=[.row y8 3 (zCz x v)]):=by
 obtain ⟨hl,ha⟩:=zGo g v;have hd:=zY0 ha;have hL:=zW8 ha (yU (some x) v).length;have ho:=zYg x (yU (some x) v);have ho2:=ho _ (zI _)
 repeat' (conv=>whnf
          first|done|refine qy ?_|refine qG fun _=> ?_|refine qw (fun _=> ?_) (fun _=> ?_)|apply qt|refine qi (fun _=> ?_) (fun _=> ?_)|refine zB (yU (some x) v) (zA (yJ.out ?_) (zB (zPP x (yU (some x) v)) ?_))|(refine zA (fun X=> ?_) (fun X=> ?_))|(refine zA (zA ?_ (zA ?_ rfl)) (fun k hk=> ?_))|(refine zA ?_ (zA ?_ rfl))|refine qu ?_|refine qv ?_ ?_|exact zO)
 all_goals try first|refine qz ?_|apply qz5
 all_goals try simp only [qn0,z7,zX,ETy.dflt,Int.reduceToNat,Int.reduceAdd,Int.reduceSub,Int.reduceNeg,Nat.reduceAdd] at *
 ·exact qh ⟨rfl,some x,v,rfl,fun y e=>by cases e;exact g,rfl⟩
 ·exact qh (Int.le_trans (hd k) (by decide))
 ·exact qh (Int.le_trans (zMI g _) (by decide))
 ·have:=ho k (Nat.le_of_lt hk);refine qh ?_;omega
 ·rw [zRd _ _ _ hk,zN];exact jL.intro rfl
 ·exact zRd _ _ _ hk
 ·exact qh ⟨g,hL⟩
 ·exact qh (Int.le_trans hL (by decide))
 ·exact qh (Int.le_trans (zLz g _) (by decide))
 ·refine qh ?_;omega
 ·rename_i h1 h2;unfold zCz;rw [if_pos ⟨h1,h2⟩,zN];rfl
 ·rename_i h1 h2;unfold zCz;rw [if_pos ⟨h1,h2⟩]
 ·rename_i h1 h2;unfold zCz;rw [if_neg (fun e=>h2 e.2),zbF]
 ·rename_i h1 h2;unfold zCz;rw [if_neg (fun e=>h2 e.2),zbF]
 ·rename_i h1;unfold zCz;rw [if_neg (fun e=>h1 e.1),zbF]
 ·rename_i h1;unfold zCz;rw [if_neg (fun e=>h1 e.1),zbF]
theorem zWm (v:Int):zQu ⟨tyL,[(90,zFO),(121,zKt),(122,zLy),(130,zGS),(94,zC4)],[]⟩ z8P f142 [(ETy.pt yI).av none,y8.av v] (fun r obs=>r= .s (.own 0 0 0)/\obs=[.row y8 3 []]):=by
 repeat' (conv=>whnf
          first|done|refine qy ?_|refine qG fun _=> ?_|refine qw (fun _=> ?_) (fun _=> ?_)|apply qt|refine qi (fun _=> ?_) (fun _=> ?_)|refine zB [] (zA (yJ.out ?_) (zB z7i ?_))|(refine zA (fun X=> ?_) (fun X=> ?_))|(refine zA (zA ?_ (zA ?_ rfl)) (fun k hk=>absurd hk (Nat.not_lt_zero _)))|refine qu ?_|refine qv ?_ ?_|exact zO)
 all_goals try first|refine qz ?_|apply qz5
 all_goals try simp only [qn0,z7,zX,ETy.dflt,Int.reduceToNat,Int.reduceAdd,Int.reduceSub,Int.reduceNeg,Nat.reduceAdd] at *
 exact qh ⟨rfl,none,v,rfl,fun y e=>(by cases e),rfl⟩
def zXZ:List AV->Option zKQ:=zCr (.pt yI) y8 (fun o v=>some (none,some (∀ x,o=some x->Good x),.s (.own 0 0 (zBh o v).length),[.row y8 3 (zBh o v)]))
theorem z1E:zDM prog 142 zXZ:=zaw (zSK fun o v r h=>by
 cases h;cases o with
 | none=>exact zTr (yN (fn:=[(90,zFO),(121,zKt),(122,zLy),(130,zGS),(94,zC4)]) (fr:=[]) ⟨zI1,zLj,zLU,zHw,zEF,trivial⟩ trivial) z9Z func142 rfl (by kernel_rfl) (zU rfl) fun _ _=>zWm v
 | some x=>exact zTr (yN (fn:=[(90,zFO),(121,zKt),(122,zLy),(130,zGS),(94,zC4)]) (fr:=[]) ⟨zI1,zLj,zLU,zHw,zEF,trivial⟩ trivial) z9Z func142 rfl (by kernel_rfl) (zU rfl) fun _ h=>z07 x v (h x rfl)) func142
end S1
namespace S1
def z7r {ρ:Type} (e b c:ETy) (f:e.T->b.T->c.T->Option ρ):List AV->Option ρ :=
 zOw (.pt e) b c (fun o y z=>match o with|some x=>f x y z|none=>none)
theorem z1e {P:Program} {e b c:ETy} {f:e.T->b.T->c.T->Option Res} {n:FuncId} (h: ∀ x y z r,f x y z=some r->zCn P n [(ETy.pt e).av (some x),b.av y,c.av z] r): ∀ args r,z7r e b c f args=some r->zCn P n args r :=
 zDZ fun o y z r hr=>by cases o with|none=>cases hr|some x=>exact h x y z r hr
def zPC (v:Int):List Int->Nat->Int
 | [],_=> -1
 | a::r,i=>if v=a then (i:Int) else zPC v r (i+1)
def z37 (v:Int) (l:List Int):Spec Nat where
 inv x:=x<=l.length/\zPC v l 0=zPC v (l.drop x) x
 live x:=[(8,.s (.int .i64 x))]
 keep:=[0,1,7]
 heap _:=[]
 keepH:=[]
 mu x:=l.length - x
theorem zUF {fn} (l:List Int) (v:Int):zAG ⟨tyL,fn,[]⟩ f102 [(ETy.sl y8).av l,y8.av v] (fun r=>r= .s (.int .i64 (zPC v l 0))):=by
 repeat' (conv=>whnf
          first|done|refine qy ?_|refine qG fun _=> ?_|refine qw (fun _=> ?_) (fun _=> ?_)|apply qt|refine qi (fun _=> ?_) (fun _=> ?_)|(refine zaB 2 rfl (z37 v l) (0) ?_ ?_ ?_ fun x hx=> ?_)|with_reducible refine zaA (z37 _ _) (x+1) ?_ ?_ ?_ ?_|refine qu ?_|refine qv ?_ ?_|exact zO)
 all_goals try first|refine qz ?_|apply qz5
 all_goals try simp only [qn0,z7,zX,ETy.dflt,Int.reduceToNat,Int.reduceAdd,Int.reduceSub,Int.reduceNeg,Nat.reduceAdd,z37] at *
 ·exact qh ⟨zbH _,rfl⟩
 ·rename_i h1 h2;rw [hx.2,zBU 0 h1,zPC,if_pos h2]
 ·rename_i h1 h2;exact qh ⟨by omega,by rw [hx.2,zBU 0 h1,zPC,if_neg h2]⟩
 ·exact qh (by omega)
 ·rw [hx.2,zE9 (by assumption)];rfl
def zF6:List AV->Option Res:=zCr (.sl y8) y8 (fun l v=>some (none,none,.s (.int .i64 (zPC v l 0))))
theorem zJD:qM prog 102 zF6:=mkR (jD fun l v r h=>by cases h;exact fb (fn:=[]) trivial func102 fun _ _=>zUF l v) func102
def zDv (v:Int) (l:List Int):Bool:=decide (zPC v l 0>=0)
theorem zPD (l:List Int) (v:Int):zAG ⟨tyL,[(102,zF6)],[]⟩ f103 [(ETy.sl y8).av l,y8.av v] (fun r=>r= .s (.bool (zDv v l))):=by
 repeat' (conv=>whnf
          first|done|refine qy ?_|refine qG fun _=> ?_|refine qw (fun _=> ?_) (fun _=> ?_)|apply qt|refine qi (fun _=> ?_) (fun _=> ?_)|refine qu ?_|refine qv ?_ ?_|exact zO)
 all_goals try first|refine qz ?_|apply qz5
 all_goals try simp only [qn0,z7,zX,ETy.dflt,Int.reduceToNat,Int.reduceAdd,Int.reduceSub,Int.reduceNeg,Nat.reduceAdd,zDv] at *
def zAe:List AV->Option Res:=zCr (.sl y8) y8 (fun l v=>some (none,none,.s (.bool (zDv v l))))
theorem zCU:qM prog 103 zAe:=mkR (jD fun l v r h=>by cases h;exact fb (by exact ⟨zJD,trivial⟩) func103 fun _ _=>zPD l v) func103
def zDf (x:yI.T) (a b:Int):List Int:=(if qJ x (a,b)>=0 then [yS x (qJ x (a,b))] else [])++(if qJ x (b,a)>=0 then [yS x (qJ x (b,a))] else [])
theorem zWN {x:yI.T} (g:Good x) (e:Int×Int):qJ x e<=1000000000:=by
 unfold qJ;cases h:jS .arr2 x.2.1 e with
 | none=>decide
 | some c =>
   have:=yH.1 (g.map _ _ h).1;have:=g.fit.2.2.1;exact (show @LE.le Int _ c (1000000000:Int) by omega)
theorem zTW (x:yI.T) (a b:Int) (g:Good x):zAG ⟨tyL,[(78,zEC),(94,zC4)],[]⟩ f109 [(ETy.pt yI).av (some x),y8.av a,y8.av b] (fun v=>v= .s (.sl y8 (zDf x a b))):=by
 have e0:(((List.replicate 2 ((0:Int),(0:Int))).set 0 (a,b)).set 1 (b,a)).getD 0 (0,0)=(a,b):=rfl;have e1:(((List.replicate 2 ((0:Int),(0:Int))).set 0 (a,b)).set 1 (b,a)).getD 1 (0,0)=(b,a):=rfl
 repeat' (conv=>whnf
          first|done|refine qy ?_|refine qG fun _=> ?_|refine qw (fun _=> ?_) (fun _=> ?_)|apply qt|refine qi (fun _=> ?_) (fun _=> ?_)|(refine zdg 3 rfl ?_;refine Or.inl (zB (3) ?_))|refine qu ?_|refine qv ?_ ?_|exact zO)
 all_goals try first|refine qz ?_|apply qz5
 all_goals try simp only [qn0,z7,zX,ETy.dflt,Int.reduceToNat,Int.reduceAdd,Int.reduceSub,Int.reduceNeg,Nat.reduceAdd,e0,e1,zDf] at *
 all_goals first
  | exact qh (zWN g _)
  | exact qh (by decide)
  | (simp only [if_pos,if_neg, *,not_false_eq_true];rfl)
def zFw:List AV->Option Res:=z7r yI y8 y8 (fun x a b=>some (none,some (Good x),.s (.sl y8 (zDf x a b))))
theorem zKX:qM prog 109 zFw:=mkR (z1e fun x a b r h=>by cases h;exact fb (by exact ⟨zFi,zEF,trivial⟩) func109 fun _ h=>zTW x a b h) func109
end S1
namespace S1
abbrev OS:=List Int×List Int
def ofC (x:yI.T) (k:Int) (j:Nat) (s:OS) (c:Nat):OS :=
 if 0<=zAI x (3*s.2.getD j 0+c)/\s.1.getD (zAI x (3*s.2.getD j 0+c) / 3).toNat 0<0 then
  (s.1.set (zAI x (3*s.2.getD j 0+c) / 3).toNat k,s.2++[zAI x (3*s.2.getD j 0+c) / 3]) else s
def ofJ (x:yI.T) (k:Int) (s:OS) (j:Nat):OS:=qA (ofC x k j) s 3
def bfs (x:yI.T) (k:Int):Nat->Nat->OS->OS
 | 0,_,s=>s
 | f+1,j,s=>if j<s.2.length then bfs x k f (j+1) (ofJ x k s j) else s
def ofI (x:yI.T) (s:List Int×Int) (i:Nat):List Int×Int :=
 if s.1.getD i 0>=0 then s else ((bfs x s.2 10000 0 (s.1.set i s.2,[(i:Int)])).1,s.2+1)
def ofL (x:yI.T) (i:Nat):List Int×Int:=qA (ofI x) (List.replicate x.1.2.length (-1),0) i
def ofR (x:yI.T):List Int:=(ofL x x.1.2.length).1
def unm:List Int->Nat
 | []=>0
 | a::r=>(if a<0 then 1 else 0)+unm r
theorem z1s: ∀ l:List Int,unm l<=l.length
 | []=>zI _
 | a::r=>by have:=z1s r;simp only [unm,yA];split<;>omega
theorem zQH {k:Int} (hk:0<=k): ∀ (l:List Int) (i:Nat),i<l.length->l.getD i 0<0->unm (l.set i k)+1=unm l
 | a::r,0,_,h=>by
   have h:a<0:=h;simp only [List.set_cons_zero,unm];rw [if_pos h,if_neg (by omega)];omega
 | a::r,i+1,hi,h=>by
   have:=zQH hk r i (by simpa using hi) (by simpa using h);simp only [List.set_cons_succ,unm];omega
structure OOk (n:Nat) (s:OS):Prop where
 len:s.1.length=n
 td: ∀ j,j<s.2.length->0<=s.2.getD j 0/\s.2.getD j 0<n
 cnt:s.2.length+unm s.1<=n
theorem z2E {x:yI.T} (g:Good x) {d:Int} (h:0<=zAI x d):zAI x d<3*(x.1.2.length:Int):=(yH.1 (g.opp h).2.1).2
theorem z7X {x:yI.T} (g:Good x) {k:Int} (hk:0<=k) {j:Nat} {s:OS} (h:OOk x.1.2.length s) (c:Nat):OOk x.1.2.length (ofC x k j s c):=by
 unfold ofC;split
 ·rename_i hc;have hi:=z2E g hc.1;refine ⟨by rw [zbY];exact h.len,fun j' hj=> ?_,?_⟩
  ·by_cases e:j'<s.2.length
   ·have:=h.td j' e
    have e2:(s.2++[zAI x (3*s.2.getD j 0+c) / 3]).getD j' 0=s.2.getD j' 0:=by
     rw [gdE,zbD e,<- gdE]
    show 0<=(s.2++_).getD j' 0/\_;rw [e2];exact this
   ·have hj:j'<(s.2++[zAI x (3*s.2.getD j 0+c) / 3]).length:=hj;rw [zN,List.length_singleton] at hj;have e3:j'=s.2.length:=by omega
    subst e3
    have e2:(s.2++[zAI x (3*s.2.getD j 0+c) / 3]).getD s.2.length 0=zAI x (3*s.2.getD j 0+c) / 3:=by
     rw [gdE,zb8 (zI _)];simp
    show 0<=(s.2++_).getD s.2.length 0/\_;rw [e2];omega
  ·have:=zQH hk s.1 _ (by rw [h.len];omega) hc.2;have h3:=h.cnt;show (s.2++[_]).length+unm (s.1.set (zAI x (3*s.2.getD j 0+c) / 3).toNat k)<=x.1.2.length;rw [zN,List.length_singleton];omega
 ·exact h
theorem zPN {x:yI.T} (g:Good x) {k:Int} (hk:0<=k) {j:Nat} {s:OS} (h:OOk x.1.2.length s): ∀ c,OOk x.1.2.length (qA (ofC x k j) s c)
 | 0=>h
 | c+1=>z7X g hk (zPN g hk h c) c
theorem zVI {x:yI.T} (g:Good x) {k:Int} (hk:0<=k) {j:Nat} {s:OS} (h:OOk x.1.2.length s):OOk x.1.2.length (ofJ x k s j):=by
 unfold ofJ;exact zPN g hk h 3
theorem zUp {x:yI.T} (g:Good x) {k:Int} (hk:0<=k) {s:OS} (h:OOk x.1.2.length s): ∀ j,OOk x.1.2.length (qA (ofJ x k) s j)
 | 0=>h
 | j+1=>zVI g hk (zUp g hk h j)
theorem z2D {x:yI.T} (g:Good x) {k:Int} (hk:0<=k): ∀ (f j:Nat) {s:OS},OOk x.1.2.length s->OOk x.1.2.length (bfs x k f j s)
 | 0,_,_,h=>h
 | f+1,j,s,h=>by
   unfold bfs;split
   ·exact z2D g hk f (j+1) (zVI g hk h)
   ·exact h
theorem zM4 {n i:Nat} {l:List Int} {k:Int} (hk:0<=k) (hl:l.length=n) (hi:i<n) (h: ¬ l.getD i 0>=0):OOk n (l.set i k,[(i:Int)]):=by
 refine ⟨by rw [zbY];exact hl,fun j hj=> ?_,?_⟩
 ·have hj:j<1:=hj;have:j=0:=by omega
  subst this;show (0:Int)<=i/\(i:Int)<n;omega
 ·have:=zQH hk l i (by omega) (by omega);have h2:=z1s l;show 1+unm (l.set i k)<=n;omega
theorem zRG {x:yI.T} (g:Good x): ∀ i,i<=x.1.2.length->(ofL x i).1.length=x.1.2.length/\0<=(ofL x i).2/\(ofL x i).2<=i
 | 0,_=>⟨zbc,Int.le_refl 0,Int.le_refl 0⟩
 | i +1,hi=>by
   obtain ⟨h1,h2,h3⟩:=zRG g i (by omega);show (ofI x (ofL x i) i).1.length=_/\0<=(ofI x (ofL x i) i).2/\(ofI x (ofL x i) i).2<=_;unfold ofI;split
   ·exact ⟨h1,h2,by omega⟩
   ·rename_i hn;exact ⟨(z2D g h2 10000 0 (zM4 h2 h1 (by omega) hn)).len,by show 0<=(ofL x i).2+1;omega,by show (ofL x i).2+1<=_;omega⟩
theorem z8i {x:yI.T} {k:Int} {j c:Nat} {s:OS} (h1:zAI x (3*s.2.getD j 0+c)>=0) (h2:s.1.getD ((zAI x (3*s.2.getD j 0+c)).tdiv 3).toNat 0<0) :
 ofC x k j s c=(s.1.set ((zAI x (3*s.2.getD j 0+c)).tdiv 3).toNat k,s.2++[(zAI x (3*s.2.getD j 0+c)).tdiv 3]):=by
 rw [td3 h1] at *;unfold ofC;rw [if_pos ⟨h1,h2⟩]
theorem z8A {x:yI.T} {k:Int} {j c:Nat} {s:OS} (h1:zAI x (3*s.2.getD j 0+c)>=0) (h2: ¬ s.1.getD ((zAI x (3*s.2.getD j 0+c)).tdiv 3).toNat 0<0):ofC x k j s c=s:=by
 rw [td3 h1] at *;unfold ofC;rw [if_neg (fun e=>h2 e.2)]
theorem z67 {x:yI.T} {k:Int} {j c:Nat} {s:OS} (h1: ¬ zAI x (3*s.2.getD j 0+c)>=0):ofC x k j s c=s:=by
 unfold ofC;rw [if_neg (fun e=>h1 e.1)]
theorem z4u {x:yI.T} {k:Int} {j c:Nat} {s:OS} :s.2.length<=(ofC x k j s c).2.length:=by
 unfold ofC;split
 ·show _<=(s.2++[_]).length;rw [zN];omega
 ·exact zI _
theorem zQb {x:yI.T} {k:Int} {j:Nat} {s:OS} : ∀ c,s.2.length<=(qA (ofC x k j) s c).2.length
 | 0=>zI _
 | c+1=>zb0 (zQb c) z4u
theorem zVW (x:yI.T) (k:Int) (j:Nat) (s:OS) (c:Nat):qA (ofC x k j) s (c+1)=ofC x k j (qA (ofC x k j) s c) c:=rfl
theorem z6Y (x:yI.T) (k:Int) (s:OS) (j:Nat):qA (ofJ x k) s (j+1)=qA (ofC x k j) (qA (ofJ x k) s j) 3:=by
 rw [qA,ofJ]
theorem z7w {x:yI.T} {k:Int} {j:Nat} {s s0:OS} (hj:j<10000) (h:(j:Int)<s.2.length) (e:bfs x k 10000 0 s0=bfs x k (10000 - j) j s):bfs x k 10000 0 s0=bfs x k (10000 - (j+1)) (j+1) (ofJ x k s j):=by
 rw [e,show 10000 - j=(10000 - (j+1))+1 by omega,bfs,if_pos (by omega)]
theorem z4n {x:yI.T} {k:Int} {j:Nat} {s:OS} (h: ¬ (j:Int)<s.2.length): ∀ f,bfs x k f j s=s
 | 0=>rfl
 | f+1=>by rw [bfs,if_neg (by omega)]
theorem zRh {x:yI.T} {i:Nat} (h:(ofL x i).1.getD i 0>=0):ofL x (i+1)=ofL x i:=by
 show ofI x (ofL x i) i=_;unfold ofI;rw [if_pos h]
theorem z2f {x:yI.T} {i:Nat} (h: ¬ (ofL x i).1.getD i 0>=0):ofL x (i+1)=((bfs x (ofL x i).2 10000 0 ((ofL x i).1.set i (ofL x i).2,[(i:Int)])).1,(ofL x i).2+1):=by
 show ofI x (ofL x i) i=_;unfold ofI;rw [if_neg h]
theorem zR4 {α:Type} {a b:α} : ∀ (i n:Nat),i<n->List.replicate (i+1) a++List.replicate (n - (i+1)) b=(List.replicate i a++List.replicate (n - i) b).set i a
 | 0,n+1,_=>by simp [List.replicate_succ]
 | i+1,n+1,h=>by
   have:=zR4 (a:=a) (b:=b) i n (by omega);show a::(List.replicate (i+1) a++List.replicate (n+1 - (i+1+1)) b)=(a::(List.replicate i a++List.replicate (n+1 - (i+1)) b)).set (i+1) a;rw [List.set_cons_succ,show n+1 - (i+1+1)=n - (i+1) by omega,show n+1 - (i+1)=n - i by omega,this]
attribute [irreducible] ofC ofJ bfs ofI
def zX0 (n:Nat):Spec Nat where
 inv i:=i<=n
 live i:=[(16,.s (.int .i64 i))]
 keep:=[0,3,14,15]
 heap i:=[(1,.row y8 3 (List.replicate i (-1)++List.replicate (n - i) 0))]
 keepH:=[0]
 mu i:=n - i
def zXW (x:yI.T):Spec Nat where
 inv i:=i<=x.1.2.length
 live i:=[(25,.s (.int .i64 i)),(5,.s (.int .i64 (ofL x i).2))]
 keep:=[0,3,23,24]
 heap i:=[(1,.row y8 3 (ofL x i).1)]
 keepH:=[0]
 mu i:=x.1.2.length - i
def zVs (x:yI.T) (k:Int) (s:OS):Spec Nat where
 inv j:=j<=(qA (ofJ x k) s j).2.length/\bfs x k 10000 0 s=bfs x k (10000 - j) j (qA (ofJ x k) s j)
 live j:=[(8,.s (.int .i64 j)),(7,.s (.own 2 0 (qA (ofJ x k) s j).2.length))]
 keep:=[0,3,5,6,23,24,25]
 heap j:=[(1,.row y8 3 (qA (ofJ x k) s j).1),(2,.row y8 3 (qA (ofJ x k) s j).2)]
 keepH:=[0]
 mu j:=10000 - j
def zT5 (x:yI.T) (k:Int) (j:Nat) (s:OS):Spec Nat where
 inv c:=c<=3
 live c:=[(45,.s (.int .i64 c)),(7,.s (.own 2 0 (qA (ofC x k j) s c).2.length))]
 keep:=[0,3,5,6,8,23,24,25]
 heap c:=[(1,.row y8 3 (qA (ofC x k j) s c).1),(2,.row y8 3 (qA (ofC x k j) s c).2)]
 keepH:=[0]
 mu c:=3 - c
theorem z3F (x:yI.T) (g:Good x):zAG ⟨tyL,[(74,zB3),(37,zSa)],[]⟩ f145 [(ETy.pt yI).av (some x)] (fun v=>v= .s (.sl y8 (ofR x))):=by
 have hn:x.1.2.length<=8192:=g.fit.2.2.1
 repeat' (conv=>whnf
          first|done|refine qy ?_|refine qG fun _=> ?_|refine qw (fun _=> ?_) (fun _=> ?_)|apply qt|refine qi (fun _=> ?_) (fun _=> ?_)|(refine zaB 3 rfl (zX0 x.1.2.length) (0) ?_ ?_ ?_ fun i hi=> ?_)|with_reducible refine zaA (zX0 _) (i+1) ?_ ?_ ?_ ?_|(refine zaB 9 rfl (zXW x) (0) ?_ ?_ ?_ fun i hi=> ?_)|with_reducible refine zaA (zXW _) (i+1) ?_ ?_ ?_ ?_|(refine zaB 15 rfl (zVs x (ofL x i).2 ((ofL x i).1.set i (ofL x i).2,[(i:Int)])) (0) ?_ ?_ ?_ fun j hj=> ?_)|with_reducible refine zaA (zVs _ _ _) (j+1) ?_ ?_ ?_ ?_|(refine zaB 18 rfl (zT5 x (ofL x i).2 j (qA (ofJ x (ofL x i).2) ((ofL x i).1.set i (ofL x i).2,[(i:Int)]) j)) (0) ?_ ?_ ?_ fun c hc=> ?_)|with_reducible refine zaA (zT5 _ _ _ _) (c+1) ?_ ?_ ?_ ?_|refine qu ?_|refine qv ?_ ?_|exact zO)
 all_goals try first|refine qz ?_|apply qz5
 all_goals try simp only [qn0,z7,zX,ETy.dflt,Int.reduceToNat,Int.reduceAdd,Int.reduceSub,Int.reduceNeg,Nat.reduceAdd,zX0,zXW,zVs,zT5] at *
 all_goals try (refine qh ?_;omega)
 ·exact zR4 _ _ (by omega)
 ·have e:i=x.1.2.length:=by omega
  subst e;rw [zdl];simp only [List.replicate_zero,zbF];rfl
 ·rw [zRh (by assumption)]
 ·rw [zRh (by assumption)]
 all_goals try
  have hL:=zRG g i (by omega);have h0:=zM4 (n:=x.1.2.length) (i:=i) hL.2.1 hL.1 (by omega) (by assumption)
 ·exact qh ⟨zbH _,rfl⟩
 ·rfl
 all_goals try have hJ:=zUp g hL.2.1 h0 j
 all_goals try
  have hC:=zPN g hL.2.1 (j:=j) hJ c;have hlen:=zQb (x:=x) (k:=(ofL x i).2) (j:=j) (s:=qA (ofJ x (ofL x i).2) ((ofL x i).1.set i (ofL x i).2,[(i:Int)]) j) c;have hd:=hC.td j (by omega)
 all_goals try have hjc:=hJ.cnt
 all_goals try have hcc:=hC.cnt
 all_goals try (refine qh ?_;(try unfold yP);omega)
 all_goals try (exact qh (show @LE.le Int _ (3*(qA (ofC x (ofL x i).2 j) (qA (ofJ x (ofL x i).2) ((ofL x i).1.set i (ofL x i).2,[(i:Int)]) j) c).2.getD j 0+c) (1000000:Int) by omega))
 all_goals try (rw [zVW,z8i (by assumption) (by assumption)];first|done|exact zN)
 all_goals try (rw [zVW,z8A (by assumption) (by assumption)];done)
 all_goals try (rw [zVW,z67 (by assumption)];done)
 all_goals try (
  have:=z2E g ‹_›
  first
   | (refine yJ.intro ⟨by decide,?_⟩;rw [td3 (by assumption)];unfold yP;omega)
   | (refine qh ?_;rw [td3 (by assumption)];omega))
 all_goals try (
  have e:c=3:=by omega
  subst e
  first
   | (rw [z6Y];done)
   | exact qh ⟨by rw [z6Y];omega,z7w (by omega) (by assumption) hj.2⟩)
 ·rw [z2f (by assumption)]
 ·rw [z2f (by assumption),hj.2,z4n (by assumption)]
 ·have e:i=x.1.2.length:=by omega
  rw [e];unfold ofR;rw [zb6,zbT (by rw [(zRG g _ (zI _)).1];exact zI _)]
def z4a:List AV->Option Res:=zZY yI (fun x=>some (none,some (Good x),.s (.sl y8 (ofR x))))
theorem z4Y:qM prog 145 z4a:=mkR (zM0 fun x r h=>by cases h;exact fb (by exact ⟨zE5,zKP,trivial⟩) func145 fun _ h=>z3F x h) func145
end S1
namespace S1
def smC (x:yI.T) (i:Nat) (b:Bool) (c:Nat):Bool:=b|| decide (zAI x (3*i+c)<0)
def smI (x:yI.T) (l:List Int) (m:Int) (s:Int×Bool) (i:Nat):Int×Bool :=
 if l.getD i 0≠m then s else (s.1+1,qA (smC x i) s.2 3)
def smS (x:yI.T) (m:Int) (i:Nat):Int×Bool:=qA (smI x (ofR x) m) (0,false) i
def smM (x:yI.T) (v:Int):Int:=(ofR x).getD (yY x v / 3).toNat 0
def zB2 (x:yI.T) (v:Int):Bool:=decide ((smS x (smM x v) (ofR x).length).1=1)|| (decide ((smS x (smM x v) (ofR x).length).1=4)&& !(smS x (smM x v) (ofR x).length).2)
theorem zMO {x:yI.T} (g:Good x):(ofR x).length=x.1.2.length:=(zRG g _ (zI _)).1
theorem z6p (x:yI.T) (m:Int) (i:Nat):smS x m (i+1)=smI x (ofR x) m (smS x m i) i:=rfl
theorem zO3 {x:yI.T} {m:Int} {i:Nat} (h:(ofR x).getD i 0≠m):smS x m (i+1)=smS x m i:=by
 rw [z6p];unfold smI;rw [if_pos h]
theorem zIX {x:yI.T} {m:Int} {i:Nat} (h:(ofR x).getD i 0=m):smS x m (i+1)=((smS x m i).1+1,qA (smC x i) (smS x m i).2 3):=by
 rw [z6p];unfold smI;rw [if_neg (fun e=>e h)]
theorem z1l (x:yI.T) (m:Int): ∀ i,0<=(smS x m i).1/\(smS x m i).1<=i
 | 0=>⟨Int.le_refl 0,Int.le_refl 0⟩
 | i+1=>by
   have:=z1l x m i
   by_cases h:(ofR x).getD i 0=m
   ·rw [zIX h];show 0<=(smS x m i).1+1/\(smS x m i).1+1<=_;omega
   ·rw [zO3 h];omega
theorem z4Q (x:yI.T) (i:Nat) (b:Bool) (c:Nat):qA (smC x i) b (c+1)=(qA (smC x i) b c|| decide (zAI x (3*i+c)<0)):=rfl
def zU0 (x:yI.T) (m:Int):Spec Nat where
 inv i:=i<=(ofR x).length
 live i:=[(23,.s (.int .i64 i)),(7,.s (.int .i64 (smS x m i).1)),(8,.s (.bool (smS x m i).2))]
 keep:=[0,1,6,21,22]
 heap _:=[]
 keepH:=[]
 mu i:=(ofR x).length - i
def zWq (x:yI.T) (i:Nat) (b:Bool):Spec Nat where
 inv c:=c<=3
 live c:=[(11,.s (.int .i64 (3*i+c))),(8,.s (.bool (qA (smC x i) b c)))]
 keep:=[0,1,6,7,9,21,22,23]
 heap _:=[]
 keepH:=[]
 mu c:=3 - c
theorem zZV (x:yI.T) (v:Int) (h:Good x/\j6 x (yY x v)=true):zAG ⟨tyL,[(145,z4a),(124,zDw),(37,zSa)],[]⟩ f111 [(ETy.pt yI).av (some x),y8.av v] (fun r=>r= .s (.bool (zB2 x v))):=by
 have hn:x.1.2.length<=8192:=h.1.fit.2.2.1;have hl:=zMO h.1;have hc0:=yH.1 h.2;have hm:(ofR x).getD ((yY x v).tdiv 3).toNat 0=smM x v:=by rw [td3 hc0.1];rfl
 repeat' (conv=>whnf
          first|done|refine qy ?_|refine qG fun _=> ?_|refine qw (fun _=> ?_) (fun _=> ?_)|apply qt|refine qi (fun _=> ?_) (fun _=> ?_)|(refine zaB 5 rfl (zU0 x (smM x v)) (0) ?_ ?_ ?_ fun i hi=> ?_)|with_reducible refine zaA (zU0 _ _) (i+1) ?_ ?_ ?_ ?_|(refine zaB 10 rfl (zWq x i (smS x (smM x v) i).2) (0) ?_ ?_ ?_ fun c hc=> ?_)|with_reducible refine zaA (zWq _ _ _) (c+1) ?_ ?_ ?_ ?_|refine qu ?_|refine qv ?_ ?_|exact zO)
 all_goals try first|refine qz ?_|apply qz5
 all_goals try simp only [qn0,z7,zX,ETy.dflt,Int.reduceToNat,Int.reduceAdd,Int.reduceSub,Int.reduceNeg,Nat.reduceAdd,zU0,zWq] at *
 all_goals try (refine qh ?_;omega)
 all_goals try have hS:=z1l x (smM x v) i
 all_goals try rw [hm] at *
 ·exact qh h.1
 ·refine yJ.intro ⟨by decide,?_⟩;rw [td3 hc0.1];unfold yP;omega
 ·refine qh ?_;rw [td3 hc0.1,hl];omega
 ·rw [zO3 (by assumption)]
 ·rw [zO3 (by assumption)]
 ·refine qh ?_;unfold yP;omega
 ·rw [z4Q,show qA (smC x i) (smS x (smM x v) i).2 c=true by assumption];rfl
 ·exact qh (show @LE.le Int _ (3*(i:Int)+c) (1000000:Int) by omega)
 ·rw [z4Q,show qA (smC x i) (smS x (smM x v) i).2 c=false by assumption];rfl
 ·rw [zIX (by assumption)]
 ·rw [zIX (by assumption)];have e:c=3:=by omega
  rw [e]
 all_goals (
  have e:i=(ofR x).length:=by omega
  unfold zB2;rw [<- e])
 ·rename_i h1;rw [h1];rfl
 ·rename_i h1 h2;rw [h2];rfl
 ·rename_i h1 h2;rw [decide_eq_false h1,decide_eq_false h2];rfl
def zMv:List AV->Option Res:=zGX yI y8 (fun x v=>some (none,some (Good x/\j6 x (yY x v)=true),.s (.bool (zB2 x v))))
theorem zR1:qM prog 111 zMv:=mkR (zAs fun x v r h=>by cases h;exact fb (by exact ⟨z4Y,zGT,zKP,trivial⟩) func111 fun _ h=>zZV x v h) func111
end S1
namespace S1
def zGc (x:yI.T) (a b:Int):List Int:=if a=b then [] else zBY ((zCz x a).filter fun v=>zDv v (zCz x b))
def z8N (o:Option yI.T) (a b:Int):List Int:=onO o [] fun x=>zGc x a b
def z71:List AV->Option Res:=zOw (.pt yI) y8 y8 (fun o a b=>some (none,some (∀ x,o=some x->Good x),.s (.sl y8 (z8N o a b))))
def zTH (f:List Int):List Int->Bool
 | []=>true
 | v::r=>zDv v f&&zTH f r
def zDV (x:yI.T) (a b:Int):Int :=
 if !zAQ x a b then 1 else if (zDf x a b).length=2/\zAY x a=false/\zAY x b=false then 2
 else if zTH (zDf x a b) (zGc x a b)=false then 3 else if zB2 x a then 4 else 0
theorem zZD {x:yI.T} (g:Good x) {a b:Int} (h:zAQ x a b=true):j6 x (yY x a)=true/\j6 x (yY x b)=true:=by
 have key: ∀ {a b:Int},0<=qJ x (a,b)->j6 x (yY x a)=true/\j6 x (yY x b)=true:=fun {a b} h=>by
  unfold qJ at h;cases e:jS .arr2 x.2.1 (a,b) with
  | none=>rw [e] at h;exact absurd h (by decide)
  | some c =>
    obtain ⟨h1,h2⟩:=g.map _ _ e;have e1:yS x (qY x c)=a:=congrArg Prod.fst h2;have e2:yS x (qV x c)=b:=congrArg Prod.snd h2;have k1:=g.cor _ (zAF h1).1;have k2:=g.cor _ (zAF h1).2;rw [e1] at k1;rw [e2] at k2;exact ⟨k1,k2⟩
 unfold zAQ at h;rw [zbA,zP,zP] at h;rcases h with h|h
 ·exact key h
 ·exact (key h).symm
theorem z09 {α:Type} {x:yI.T} {d:α} {f:yI.T->α} :onO (some x) d f=f x:=rfl
theorem zXY {x:yI.T} {a b:Int} :z8N (some x) a b=zGc x a b:=rfl
attribute [local irreducible] zAQ zAY zDv zB2
def z3l (x:yI.T) (a b:Int):Spec Nat where
 inv i:=i<=(zGc x a b).length/\zTH (zDf x a b) (zGc x a b)=zTH (zDf x a b) ((zGc x a b).drop i)
 live i:=[(39,.s (.int .i64 i))]
 keep:=[0,1,2,7,37,38]
 heap _:=[]
 keepH:=[]
 mu i:=(zGc x a b).length - i
theorem z8C (x:yI.T) (a b:Int) (g:Good x):zAG ⟨tyL,[(55,zLo),(109,zFw),(46,zNZ),(110,z71),(103,zAe),(111,zMv)],[]⟩ f69 [(ETy.pt yI).av (some x),y8.av a,y8.av b] (fun r=>r= .s (.int .i64 (zDV x a b))):=by
 repeat' (conv=>whnf
          first|done|refine qy ?_|refine qG fun _=> ?_|refine qw (fun _=> ?_) (fun _=> ?_)|apply qt|refine qi (fun _=> ?_) (fun _=> ?_)|(refine zaB 7 rfl (z3l x a b) (0) ?_ ?_ ?_ fun i hi=> ?_)|with_reducible refine zaA (z3l _ _ _) (i+1) ?_ ?_ ?_ ?_|refine qu ?_|refine qv ?_ ?_|exact zO)
 all_goals try first|refine qz ?_|apply qz5
 all_goals try simp only [qn0,z7,zX,ETy.dflt,Int.reduceToNat,Int.reduceAdd,Int.reduceSub,Int.reduceNeg,Nat.reduceAdd,z3l,z09,zXY] at *
 all_goals try have hnear:zAQ x a b=true:=by assumption
 all_goals try have hlt:(i:Int)<((zGc x a b).length:Int):=by assumption
 all_goals try have hge: ¬ (i:Int)<((zGc x a b).length:Int):=by assumption
 all_goals try have hh:zDv ((zGc x a b).getD i 0) (zDf x a b)=true:=by assumption
 all_goals try have hf:zDv ((zGc x a b).getD i 0) (zDf x a b)=false:=by assumption
 all_goals try have hno:zAQ x a b=false:=by assumption
 all_goals first
  | exact qh (fun y e=>by cases e;exact g)
  | exact qh ⟨zbH _,rfl⟩
  | exact qh ⟨g,(zZD g hnear).1⟩
  | (refine yJ.intro ⟨by omega,?_⟩;rw [hi.2,zBU 0 hlt,zTH,hh];rfl)
  | exact qh (by omega)
  | (have hw:zTH (zDf x a b) (zGc x a b)=true:=by rw [hi.2,zE9 hge];rfl
     clear hi;unfold zDV;(try have hfl:(zDf x a b).length=2:=by omega);(try have hfn: ¬ (zDf x a b).length=2:=by omega);simp [*];done)
  | (have hw:zTH (zDf x a b) (zGc x a b)=false:=by rw [hi.2,zBU 0 hlt,zTH,hf];rfl
     clear hi;unfold zDV;(try have hfl:(zDf x a b).length=2:=by omega);(try have hfn: ¬ (zDf x a b).length=2:=by omega);simp [*];done)
  | (unfold zDV;(try have hfl:(zDf x a b).length=2:=by omega);simp [*];done)
  | skip
end S1
namespace S1
theorem z1f (v:Int) (l:List Int):zAG ⟨tyL,[(103,zAe)],[]⟩ f144 [y8.av v,(ETy.pt (.sl y8)).av (some l)] (fun r=>r= .s (.bool (!zDv v l))):=by
 repeat' (conv=>whnf
          first|done|refine qy ?_|refine qG fun _=> ?_|refine qw (fun _=> ?_) (fun _=> ?_)|apply qt|refine qi (fun _=> ?_) (fun _=> ?_)|refine qu ?_|refine qv ?_ ?_|exact zO)
 all_goals try first|refine qz ?_|apply qz5
 all_goals try simp only [qn0,z7,zX,ETy.dflt,Int.reduceToNat,Int.reduceAdd,Int.reduceSub,Int.reduceNeg,Nat.reduceAdd,zbU] at *
def zNz:List AV->Option Res:=zCr y8 (.pt (.sl y8)) (fun v o=>match o with|some l=>some (none,none,.s (.bool (!zDv v l)))|none=>none)
theorem zRu:qM prog 144 zNz:=mkR (jD fun v o r h=>by
 cases o with
 | none=>cases h
 | some l=>cases h;exact fb (fn:=[(103,zAe)]) ⟨zCU,trivial⟩ func144 fun _ _=>z1f v l) func144
attribute [local irreducible] zDv
def zQe (p:Int->Bool):List Int->Nat->Int
 | [],_=> -1
 | a::r,i=>if p a=true then (i:Int) else zQe p r (i+1)
def zVE (p:Int->Bool) (l:List Int):Spec Nat where
 inv x:=x<=l.length/\zQe p l 0=zQe p (l.drop x) x
 live x:=[(8,.s (.int .i64 x))]
 keep:=[0,1,7]
 heap _:=[]
 keepH:=[]
 mu x:=l.length - x
theorem z36 (l m:List Int):zAG ⟨tyL,[(144,zNz)],[]⟩ f171 [(ETy.sl y8).av l,.s (.clo 144 [⟨.sl y8,m⟩])] (fun r=>r= .s (.int .i64 (zQe (fun v=> !zDv v m) l 0))):=by
 repeat' (conv=>whnf
          first|done|refine qy ?_|refine qG fun _=> ?_|refine qw (fun _=> ?_) (fun _=> ?_)|apply qt|refine qi (fun _=> ?_) (fun _=> ?_)|(refine zaB 2 rfl (zVE (fun v=> !zDv v m) l) (0) ?_ ?_ ?_ fun x hx=> ?_)|with_reducible refine zaA (zVE _ _) (x+1) ?_ ?_ ?_ ?_|refine qu ?_|refine qv ?_ ?_|exact zO)
 all_goals try first|refine qz ?_|apply qz5
 all_goals try simp only [qn0,z7,zX,ETy.dflt,Int.reduceToNat,Int.reduceAdd,Int.reduceSub,Int.reduceNeg,Nat.reduceAdd,zVE] at *
 all_goals try (refine qh ?_;omega)
 ·exact qh ⟨zbH _,rfl⟩
 ·rename_i h1 h2;exact qh ⟨by omega,by rw [hx.2,zBU 0 h1,zQe,if_neg (by rw [h2];simp)]⟩
 ·rename_i h1 h2;rw [hx.2,zBU 0 h1,zQe,if_pos (by rw [h2];rfl)]
 ·rw [hx.2,zE9 (by assumption)];rfl
def z0x:List AV->Option Res
 | [.s (.sl (.int .i64) l),.s (.clo f [⟨.sl (.int .i64),m⟩])]=>match Nat.beq f 144 with
   | true=>some (none,none,.s (.int .i64 (zQe (fun v=> !zDv v m) l 0)))
   | false=>none
 | _=>none
theorem z5W:qM prog 171 z0x:=⟨fun args r h=>by
 unfold z0x at h;split at h
 case h_2=>cases h
 split at h
 case h_2=>cases h
 rename_i he;cases h;rw [zH he]
 exact fb (fn:=[(144,zNz)]) ⟨zRu,trivial⟩ func171 fun _ _=>z36 _ _,_,func171,by kernel_rfl,by kernel_rfl⟩
def z8l:List AV->St->(AV->St->Prop)->Prop:=zR3 ⟨tyL,[(144,zNz),(171,z0x)],[]⟩ f143
theorem z6K : zJM prog 143 z8l ∧ ∃ fn, Tryz.prog.funcs[143]? = some fn ∧ (fn.name == "runtime.NumGoroutine") = false ∧ fn.body.isNone = false :=
 ⟨zOG (yN (fn:=[(144,zNz),(171,z0x)]) (fr:=[]) ⟨zRu,z5W,trivial⟩ trivial) func143 rfl (by kernel_rfl),_,func143,by kernel_rfl,by kernel_rfl⟩
def zIE (p:Int->Bool) (xs:List Int):Spec (Nat×Nat×List Int) where
 inv x:=x.2.1<x.1/\x.1<=xs.length/\x.2.2.length=xs.length/\x.2.2.take x.2.1=(xs.take x.1).filter (fun v=> !p v)/\x.2.2.drop x.1=xs.drop x.1
 live x:=[(5,.s (.int .i64 x.2.1)),(6,.s (.int .i64 x.1))]
 keep:=[0,1]
 heap x:=[(3,.row y8 3 x.2.2)]
 keepH:=[0,4,5]
 mu x:=xs.length - x.1
theorem zY5 (o:Option yI.T) (a:Int) (hg: ∀ x,o=some x->Good x):(zBh o a).length<=40000:=by
 cases o with
 | none=>exact zbH _
 | some x =>
   have:=(zGo (hg x rfl) a).1;show (zCz x a).length<=40000;unfold zCz;rw [zN,zYg _ _ _ (zI _)];split
   ·simp only [List.length_singleton];omega
   ·simp only [List.length_nil];omega
theorem zXD (p:Int->Bool): ∀ (l:List Int) (i:Nat),(zQe p l i= -1/\l.filter (fun v=> !p v)=l)\/(∃ k:Nat,zQe p l i=((i+k:Nat):Int)/\k<l.length/\(l.take k).filter (fun v=> !p v)=l.take k/\p (l.getD k 0)=true)
 | [],i=> .inl ⟨rfl,rfl⟩
 | a ::r,i=>by
   unfold zQe;cases h:p a with
   | true=>exact .inr ⟨0,by simp,by simp,rfl,by simpa using h⟩
   | false =>
     rw [if_neg (by simp)];rcases zXD p r (i+1) with ⟨h1,h2⟩|⟨k,h1,h2,h3,h4⟩
     ·exact .inl ⟨h1,by rw [zbP (by simp [h]),h2]⟩
     ·exact .inr ⟨k+1,by rw [h1];congr 1;omega,by simp;omega,by rw [List.take_succ_cons,zbP (by simp [h]),h3],by simpa using h4⟩
theorem z1x {o:Option yI.T} {a b:Int} (h:a≠b):z8N o a b=zBY ((zBh o a).filter fun v=>zDv v (zBh o b)):=by
 cases o with
 | none=>show []=zBY [];exact (zbh.1 (zDQ [])).symm
 | some x=>show zGc x a b=_;unfold zGc;rw [if_neg h];rfl
theorem z02 {p:Int->Bool} {xs:List Int} {x:Nat×Nat×List Int} (h:(zIE p xs).inv x) (hlt:x.1<xs.length) (hp:p (x.2.2.getD x.1 0)=false):(zIE p xs).inv (x.1+1,x.2.1+1,x.2.2.set x.2.1 (x.2.2.getD x.1 0)):=by
 obtain ⟨h1,h2,h3,h4,h5⟩:=h
 have e:x.2.2.getD x.1 0=xs.getD x.1 0:=by
  have:=congrArg (fun l=>l.getD 0 0) h5;simpa [gdE] using this
 refine ⟨by show x.2.1+1<x.1+1;omega,by show x.1+1<=_;omega,by show (x.2.2.set _ _).length=_;rw [zbY];exact h3,?_,?_⟩
 ·show (x.2.2.set x.2.1 (x.2.2.getD x.1 0)).take (x.2.1+1)=(xs.take (x.1+1)).filter _;rw [yB (by rw [zbY];omega),List.take_set_of_le (zI _),h4,List.getElem_set_self,yB hlt,zbx];rw [e] at hp ⊢;rw [gdE,gE hlt] at hp ⊢;have hp:p xs[x.1]=false:=hp;rw [zbP (by rw [hp];rfl)];rfl
 ·show (x.2.2.set x.2.1 _).drop (x.1+1)=xs.drop (x.1+1);rw [List.drop_set_of_lt (by omega),<- zby,h5,zby]
theorem zZU {p:Int->Bool} {xs:List Int} {x:Nat×Nat×List Int} (h:(zIE p xs).inv x) (hlt:x.1<xs.length) (hp:p (x.2.2.getD x.1 0)=true):(zIE p xs).inv (x.1+1,x.2.1,x.2.2):=by
 obtain ⟨h1,h2,h3,h4,h5⟩:=h
 have e:x.2.2.getD x.1 0=xs.getD x.1 0:=by
  have:=congrArg (fun l=>l.getD 0 0) h5;simpa [gdE] using this
 refine ⟨by show x.2.1<x.1+1;omega,by show x.1+1<=_;omega,h3,?_,?_⟩
 ·show x.2.2.take x.2.1=(xs.take (x.1+1)).filter _;rw [h4,yB hlt,zbx];rw [e,gdE,gE hlt] at hp;have hp:p xs[x.1]=true:=hp;rw [zb3 (by rw [hp];simp)];simp
 ·show x.2.2.drop (x.1+1)=xs.drop (x.1+1);rw [<- zby,h5,zby]
theorem zVY (xs m:List Int):xs.filter (fun v=> !!zDv v m)=xs.filter fun v=>zDv v m:=by simp
theorem z78 (o:Option yI.T) (a b:Int) (hg: ∀ x,o=some x->Good x):zAG ⟨tyL,[],[(142,.res zXZ),(143,.run z8l),(75,.run zNS)]⟩ f110 [(ETy.pt yI).av o,y8.av a,y8.av b] (fun r=>r= .s (.sl y8 (z8N o a b))):=by
 have hlt:=zXD (fun v=> !zDv v (zBh o b)) (zBh o a) 0;have hlen:=zY5 o a hg
 repeat' (conv=>whnf
          first|done|refine qy ?_|refine qG fun _=> ?_|refine qw (fun _=> ?_) (fun _=> ?_)|apply qt|refine qi (fun _=> ?_) (fun _=> ?_)|(refine (fun (X:Array Value)=> ?_))|(refine zaB 5 rfl (zIE (fun v=> !zDv v (zBh o b)) (zBh o a)) (((zQe (fun v=> !zDv v (zBh o b)) (zBh o a) 0).toNat+1,(zQe (fun v=> !zDv v (zBh o b)) (zBh o a) 0).toNat,zBh o a)) ?_ ?_ ?_ fun x hx=> ?_)|with_reducible refine zaA (zIE _ _) ((x.1+1,if zDv (x.2.2.getD x.1 0) (zBh o b)=true then x.2.1+1 else x.2.1,if zDv (x.2.2.getD x.1 0) (zBh o b)=true then x.2.2.set x.2.1 (x.2.2.getD x.1 0) else x.2.2)) ?_ ?_ ?_ ?_|refine qu ?_|refine qv ?_ ?_|exact zO)
 all_goals try first|refine qz ?_|apply qz5
 all_goals try simp only [qn0,z7,zX,ETy.dflt,Int.reduceToNat,Int.reduceAdd,Int.reduceSub,Int.reduceNeg,Nat.reduceAdd,zIE] at *
 ·rename_i h;cases o with
  | none=>rfl
  | some x=>show []=zGc x a b;unfold zGc;rw [if_pos h]
 ·have hne:a≠b:=by assumption
  have hi:zQe (fun v=> !zDv v (zBh o b)) (zBh o a) 0= -1:=by assumption
  rcases hlt with ⟨_,hf⟩|⟨k,hk,_⟩
  ·rw [z1x hne,<- zVY (zBh o a) (zBh o b),hf];simp only [List.take_zero,zbq,zb6,List.drop_length,zbF];exact zbT (Nat.le_of_eq (zDQ _))
  ·rw [hk] at hi;omega
 all_goals
  have hne:a≠b:=by assumption
  have hi: ¬ zQe (fun v=> !zDv v (zBh o b)) (zBh o a) 0= -1:=by assumption
  obtain ⟨k,hk,hk2,hk3,hk4⟩:=hlt.resolve_left (fun e=>hi e.1)
 ·rw [hk];refine qh ?_;unfold yP;omega
 ·rw [hk];refine yJ.intro ⟨by show ((k:Nat):Int).toNat<((k:Nat):Int).toNat+1;omega,by show ((k:Nat):Int).toNat+1<=_;omega,zO,?_,zO⟩;rw [Int.toNat_natCast,yB hk2,zbx,hk3];rw [gdE,gE hk2] at hk4;have hk4:(!zDv (zBh o a)[k] (zBh o b))=true:=hk4;rw [zb3 (by rw [hk4];simp)];simp
 ·rw [hk];rfl
 ·rw [hk];rfl
 ·refine qh ?_;omega
 ·refine qh ?_;unfold yP;omega
 ·rename_i hq;rw [if_pos hq,if_pos hq];exact qh (z02 hx (by omega) (by rw [hq];rfl))
 ·rename_i hq;rw [if_pos hq];rfl
 ·rename_i hq;rw [if_pos hq]
 ·refine qh ?_;omega
 ·rename_i hq;rw [if_neg (by rw [hq];simp),if_neg (by rw [hq];simp)];exact qh (zZU hx (by omega) (by rw [hq];rfl))
 ·rename_i hq;rw [if_neg (by rw [hq];simp)]
 ·rename_i hq;rw [if_neg (by rw [hq];simp)]
 ·refine qh ?_;omega
 ·refine qh ?_;omega
 ·refine qh ?_;omega
 ·obtain ⟨h1,h2,h3,h4,h5⟩:=hx;have he:x.1=(zBh o a).length:=by omega
  rw [he,zbK] at h4;rw [z1x hne,<- zVY (zBh o a) (zBh o b),<- h4];have hl:(x.2.2.take x.2.1).length=x.2.1:=by rw [qZ];omega
  simp only [zb6,List.take_zero,zbq];have e2: ∀ z:List Int,List.take x.2.1 (x.2.2.take x.2.1++z)=x.2.2.take x.2.1:=fun z=>by rw [List.take_append_of_le_length (Nat.le_of_eq hl.symm),zbT (Nat.le_of_eq hl)]
  rw [e2,List.take_append_of_le_length (by rw [zDQ];omega),zbT (by rw [zDQ];omega)]
theorem z2X:qM prog 110 z71:=mkR (zDZ fun o a b r h=>by
 cases h
 exact fb (fn:=[]) trivial func110 (p2:=by exact ⟨z1E,z6K,zRK,trivial⟩) fun _ h=>z78 o a b h) func110
end S1
namespace S1
theorem z5e (a b:Int):zAG ⟨tyL,[(55,zLo),(109,zFw),(46,zNZ),(110,z71),(103,zAe),(111,zMv)],[]⟩ f69 [(ETy.pt yI).av none,y8.av a,y8.av b] (fun r=>r= .s (.int .i64 1)):=by
 repeat' (conv=>whnf
          first|done|refine qy ?_|refine qG fun _=> ?_|refine qw (fun _=> ?_) (fun _=> ?_)|apply qt|refine qi (fun _=> ?_) (fun _=> ?_)|refine qu ?_|refine qv ?_ ?_|exact zO)
 all_goals try first|refine qz ?_|apply qz5
 all_goals try simp only [qn0,z7,zX,ETy.dflt,Int.reduceToNat,Int.reduceAdd,Int.reduceSub,Int.reduceNeg,Nat.reduceAdd] at *
def z6E (o:Option yI.T) (a b:Int):Int:=onO o 1 fun x=>zDV x a b
def z4l:List AV->Option Res:=zOw (.pt yI) y8 y8 (fun o a b=>some (none,some (∀ x,o=some x->Good x),.s (.int .i64 (z6E o a b))))
theorem zXj:qM prog 69 z4l:=mkR (zDZ fun o a b r h=>by
 cases h;cases o with
 | none=>exact fb (fn:=[(55,zLo),(109,zFw),(46,zNZ),(110,z71),(103,zAe),(111,zMv)]) ⟨zLw,zKX,zQw,z2X,zCU,zR1,trivial⟩ func69 fun _ _=>z5e a b
 | some x=>exact fb (fn:=[(55,zLo),(109,zFw),(46,zNZ),(110,z71),(103,zAe),(111,zMv)]) ⟨zLw,zKX,zQw,z2X,zCU,zR1,trivial⟩ func69 fun _ h=>z8C x a b (h x rfl)) func69
theorem z7u (o:Option yI.T) (a b:Int) (hg: ∀ x,o=some x->Good x):zAG ⟨tyL,[(69,z4l)],[]⟩ Tryz.f27 [(ETy.pt yI).av o,y8.av a,y8.av b] (fun r=>r= .s (.bool (z6E o a b==0))):=by
 repeat' (conv=>whnf
          first|done|refine qy ?_|refine qG fun _=> ?_|refine qw (fun _=> ?_) (fun _=> ?_)|apply qt|refine qi (fun _=> ?_) (fun _=> ?_)|refine qu ?_|refine qv ?_ ?_|exact zO)
 all_goals try first|refine qz ?_|apply qz5
 all_goals try simp only [qn0,z7,zX,ETy.dflt,Int.reduceToNat,Int.reduceAdd,Int.reduceSub,Int.reduceNeg,Nat.reduceAdd] at *
 all_goals first|exact qh hg|skip
def z7M:List AV->Option Res:=zOw (.pt yI) y8 y8 (fun o a b=>some (none,some (∀ x,o=some x->Good x),.s (.bool (z6E o a b==0))))
theorem z26:qM prog 27 z7M:=mkR (zDZ fun o a b r h=>by cases h;exact fb (by exact ⟨zXj,trivial⟩) func27 fun _ h=>z7u o a b h) func27
end S1
namespace S1
theorem zCN {x:yI.T} (g:Good x) (a:Int):zAQ x a a=false:=by
 have key: ¬ 0<=qJ x (a,a):=fun h=>by
  unfold qJ at h;cases e:jS .arr2 x.2.1 (a,a) with
  | none=>rw [e] at h;exact absurd h (by decide)
  | some c =>
    obtain ⟨h1,h2⟩:=g.map _ _ e;exact g.ends c h1 (by rw [h2])
 unfold zAQ;rw [decide_eq_false key];rfl
theorem z4G {x:yI.T} {a b:Int} (h:zAQ x a b=false):zDV x a b=1:=by unfold zDV;rw [h];rfl
end S1
namespace S1
theorem zRP (v:Int): ∀ (l:List Int) (i:Nat),zPC v l i>=0↔v∈l
 | [],i=>⟨fun h=>by have h:(-1:Int)>=0:=h;omega,fun h=>(by cases h)⟩
 | a ::r,i=>by
   unfold zPC;split
   ·rename_i e;subst e;exact ⟨fun _=>zY ..,fun _=>by omega⟩
   ·rename_i e;rw [zRP v r,zT];exact ⟨.inr,fun h=>h.resolve_left e⟩
theorem zQo {v:Int} {l:List Int} :zDv v l=true↔v∈l:=by
 unfold zDv;rw [zP,zRP]
theorem zMf {x:yI.T} (g:Full x) {a b v:Int} :v∈zGc x a b↔a≠b/\zAQ x a v=true/\zAQ x b v=true:=by
 unfold zGc;split
 ·rename_i h;exact ⟨fun h=>(by cases h),fun h'=>absurd h h'.1⟩
 ·rename_i h;rw [(zG9 _).mem_iff,zb5,zQo,g.link_iff,g.link_iff];exact ⟨fun k=>⟨h,k⟩,fun k=>k.2⟩
theorem zRa {f l:List Int} :zTH f l=true↔∀ v∈l,v∈f:=by
 induction l with
 | nil=>exact ⟨fun _ v h=>(by cases h),fun _=>rfl⟩
 | cons a r ih =>
   unfold zTH;rw [zC,zQo,ih]
   exact ⟨fun ⟨h1,h2⟩ v hv=>by
    rcases zT.1 hv with e|hv
    ·rw [e];exact h1
    ·exact h2 v hv,fun h=>⟨h a (zY ..),fun v hv=>h v (zQ _ hv)⟩⟩
theorem z0l {x:yI.T} {a b:Int} (h:zDV x a b=0): ∀ v∈zGc x a b,v∈zDf x a b:=by
 unfold zDV at h
 repeat' split at h
 all_goals first
  | (exact absurd h (by decide))
  | skip
 rename_i hw _;exact zRa.1 (by cases e:zTH (zDf x a b) (zGc x a b) with|true=>rfl|false=>exact absurd e hw)
end S1
namespace S1
theorem zHI {x:yI.T} (g:Good x) {b:Int} : ∀ n k,k+n=30000->zT3 (yO x) b k->∃ y∈jW x b n (iter (yO x) b k),yO x y<0\/yO x y=b
 | 0,k,e,h=>by have:=zAz g h;omega
 | n + 1,k,e,h=>by
   unfold jW
   by_cases h1:yO x (iter (yO x) b k)<0
   ·rw [if_pos h1];exact ⟨_,zF.2 rfl,.inl h1⟩
   ·rw [if_neg h1]
    by_cases h2:yO x (iter (yO x) b k)=b
    ·rw [if_pos h2];exact ⟨_,zF.2 rfl,.inr h2⟩
    ·rw [if_neg h2];obtain ⟨y,hy,h3⟩:=zHI g n (k+1) (by omega) (h.succ h1 h2);exact ⟨y,zQ _ hy,h3⟩
section
variable {x:yI.T} {c d:Int}
theorem Full.last_one (g:Full x) (hc:j6 x c=true) (hd:j6 x d=true) (e:yS x c=yS x d) (h1:yO x c<0) (h2:yO x d<0):c=d:=by
 have hv:=zBA g.fit hc;obtain ⟨b,_,eL,_⟩:=g.around hv.1 hv.2;have k1:=g.around_all hc;have k2:=g.around_all hd;rw [<- e] at k2;rw [eL] at k1 k2;rw [<- zCg _ _ c k1 h1,<- zCg _ _ d k2 h2]
theorem Full.first_is (g:Full x) (hc:j6 x c=true) (h1:yK x c<0):(zAP x (yS x c)).1=c:=by
 have hv:=zBA g.fit hc;obtain ⟨b,eb,eL,_⟩:=g.around hv.1 hv.2;have k1:=g.around_all hc;rw [eL] at k1;have:=zC2 (x:=x) (b:=b) (fun y=>y=b\/0<=yK x y) (fun y _ ha=> .inr (by rw [g.before_after ha];exact (yH.1 (g.after_has ha).1).1)) _ _ (.inl rfl) c k1;rw [eb];rcases this with h|h
 ·exact h.symm
 ·omega
theorem Full.first_one (g:Full x) (hc:j6 x c=true) (hd:j6 x d=true) (e:yS x c=yS x d) (h1:yK x c<0) (h2:yK x d<0):c=d:=by
 rw [<- g.first_is hc h1,<- g.first_is hd h2,e]
theorem Full.last_of_first (g:Full x) (hc:j6 x c=true) (h1:yK x c<0): ∃ y,j6 x y=true/\yS x y=yS x c/\yO x y<0:=by
 have hv:=zBA g.fit hc;obtain ⟨b,eb,eL,_,_,_,hall,_⟩:=g.around hv.1 hv.2;obtain ⟨y,hy,h⟩:=zHI g.toGood (b:=b) 30000 0 rfl (fun j a b=>by omega);have hy:y∈yU (some x) (yS x c):=by rw [eL];exact hy
 obtain ⟨k1,k2⟩:=hall y hy;rcases h with h|h
 ·exact ⟨y,k1,k2,h⟩
 ·have hb:=g.first_is hc h1;rw [eb] at hb;rw [hb] at h;have:=g.before_after (c:=y) (by rw [h];exact (yH.1 hc).1);rw [h] at this;have:=(yH.1 k1).1;omega
end
def bE (x:yI.T) (w u:Int):Prop:= ∃ c,j6 x c=true/\zAI x c<0/\jR x c=(w,u)
section
variable {x:yI.T}
theorem zQL (g:Full x) {w u:Int} (h:bE x w u): ∃ d,j6 x d=true/\yS x d=u/\yO x d<0/\yS x (qV x d)=w:=by
 obtain ⟨c,h1,h2,h3⟩:=h;refine ⟨qV x c,(zAF h1).2,congrArg Prod.snd h3,?_,by rw [(np h1).2.2.2];exact congrArg Prod.fst h3⟩;unfold yO;rw [(np h1).1,if_pos h2];decide
theorem zLN (g:Full x) {w u:Int} (h:bE x w u): ∃ d,j6 x d=true/\yS x d=w/\yK x d<0/\yS x (qY x d)=u:=by
 obtain ⟨c,h1,h2,h3⟩:=h;refine ⟨qY x c,(zAF h1).1,congrArg Prod.fst h3,?_,by rw [(np h1).2.2.1];exact congrArg Prod.snd h3⟩;unfold yK;rw [(np h1).2.1,if_pos h2];decide
theorem zTz (g:Full x) {d:Int} (h:j6 x d=true) (ha:yO x d<0):bE x (yS x (qV x d)) (yS x d):=by
 refine ⟨qY x d,(zAF h).1,?_,zNf h⟩
 by_cases e:zAI x (qY x d)<0
 ·exact e
 ·unfold yO at ha;rw [if_neg e] at ha;have:=(yH.1 (zAF (g.opp (d:=qY x d) (by omega)).2.1).1).1;omega
theorem zZ6 (g:Full x) {d:Int} (h:j6 x d=true) (ha:yK x d<0):bE x (yS x d) (yS x (qY x d)):=by
 refine ⟨qV x d,(zAF h).2,?_,zOA h⟩
 by_cases e:zAI x (qV x d)<0
 ·exact e
 ·unfold yK at ha;rw [if_neg e] at ha;have:=(yH.1 (zAF (g.opp (d:=qV x d) (by omega)).2.1).2).1;omega
theorem zWo (g:Full x) {w w' u:Int} (h:bE x w u) (k:bE x w' u):w=w':=by
 obtain ⟨d,d1,d2,d3,d4⟩:=zQL g h;obtain ⟨e,e1,e2,e3,e4⟩:=zQL g k;rw [<- d4,<- e4,g.last_one d1 e1 (d2.trans e2.symm) d3 e3]
theorem zHi (g:Full x) {w u u':Int} (h:bE x w u) (k:bE x w u'):u=u':=by
 obtain ⟨d,d1,d2,d3,d4⟩:=zLN g h;obtain ⟨e,e1,e2,e3,e4⟩:=zLN g k;rw [<- d4,<- e4,g.first_one d1 e1 (d2.trans e2.symm) d3 e3]
theorem zCo (g:Full x) {w u:Int} (h:bE x w u): ∃ z,bE x z w:=by
 obtain ⟨d,d1,d2,d3,d4⟩:=zLN g h;obtain ⟨y,y1,y2,y3⟩:=g.last_of_first d1 d3;have:=zTz g y1 y3;rw [y2,d2] at this;exact ⟨_,this⟩
theorem zJf (g:Full x) {w u:Int} (h:bE x w u):(0<=w/\w<x.1.1)/\(0<=u/\u<x.1.1)/\w≠u:=by
 obtain ⟨c,h1,h2,h3⟩:=h;have e1:yS x (qY x c)=w:=congrArg Prod.fst h3;have e2:yS x (qV x c)=u:=congrArg Prod.snd h3;have k1:=zBA g.fit (zAF h1).1;have k2:=zBA g.fit (zAF h1).2;have k3:=(g.ne h1).2.2;rw [e1] at k1 k3;rw [e2] at k2 k3;exact ⟨k1,k2,k3⟩
end
end S1
namespace S1
def eE (l:List P3) (a b:Int):Prop:= ∃ i,i<l.length/\dE (tg l i) a b
theorem zFH {x:yI.T} {c:Int} (h:j6 x c=true):(c / 3).toNat<x.1.2.length/\dE (tg x.1.2 (c / 3).toNat) (jR x c).1 (jR x c).2:=by
 have hc:=yH.1 h;have h1:=yH.1 (zAF h).1;have h2:=yH.1 (zAF h).2;refine ⟨by omega,?_⟩;show dE _ (yS x (qY x c)) (yS x (qV x c));rw [zDY h1.1 h1.2,zDY h2.1 h2.2,zAg h,zBP h];have e1:(trn c 1 / 3).toNat=(c / 3).toNat:=by unfold trn;omega
 have e2:(trn c 2 / 3).toNat=(c / 3).toNat:=by unfold trn;omega
 rw [e1,e2];have:c % 3=0\/c % 3=1\/c % 3=2:=by omega
 rcases this with e|e|e
 ·rw [show trn c 1 % 3=1 by unfold trn;omega,show trn c 2 % 3=2 by unfold trn;omega];exact .inr (.inl ⟨rfl,rfl⟩)
 ·rw [show trn c 1 % 3=2 by unfold trn;omega,show trn c 2 % 3=0 by unfold trn;omega];exact .inr (.inr ⟨rfl,rfl⟩)
 ·rw [show trn c 1 % 3=0 by unfold trn;omega,show trn c 2 % 3=1 by unfold trn;omega];exact .inl ⟨rfl,rfl⟩
theorem zHH {x:yI.T} {j:Nat} {a b:Int} (hj:j<x.1.2.length) (h:dE (tg x.1.2 j) a b): ∃ c,j6 x c=true/\jR x c=(a,b)/\(c / 3).toNat=j:=by
 have key: ∀ k:Int,0<=k->k<3->p3 (tg x.1.2 j) ((k+1) % 3)=a->p3 (tg x.1.2 j) ((k+2) % 3)=b->∃ c,j6 x c=true/\jR x c=(a,b)/\(c / 3).toNat=j:=fun k h1 h2 ea eb=>by
  have hc:j6 x (3*(j:Int)+k)=true:=yH.2 (by omega);have k1:=yH.1 (zAF hc).1;have k2:=yH.1 (zAF hc).2;refine ⟨3*j+k,hc,?_,by omega⟩;show (yS x (qY x _),yS x (qV x _))=_;rw [zDY k1.1 k1.2,zDY k2.1 k2.2,zAg hc,zBP hc]
  rw [show (trn (3*(j:Int)+k) 1 / 3).toNat=j by unfold trn;omega,show (trn (3*(j:Int)+k) 2 / 3).toNat=j by unfold trn;omega,
   show trn (3*(j:Int)+k) 1 % 3=(k+1) % 3 by unfold trn;omega,show trn (3*(j:Int)+k) 2 % 3=(k+2) % 3 by unfold trn;omega,ea,eb]
 rcases h with h|h|h
 ·exact key 2 (by omega) (by omega) h.1 h.2
 ·exact key 0 (by omega) (by omega) h.1 h.2
 ·exact key 1 (by omega) (by omega) h.1 h.2
theorem zED {x:yI.T} {a b:Int} :eE x.1.2 a b↔∃ c,j6 x c=true/\jR x c=(a,b):=by
 constructor
 ·rintro ⟨i,hi,h⟩;obtain ⟨c,h1,h2,_⟩:=zHH hi h;exact ⟨c,h1,h2⟩
 ·rintro ⟨c,h1,h2⟩;have:=zFH h1;rw [h2] at this;exact ⟨_,this⟩
theorem zHJ {x:yI.T} (g:Full x) {w u:Int} :bE x w u↔eE x.1.2 w u/\¬ eE x.1.2 u w:=by
 rw [zED,zED];constructor
 ·rintro ⟨c,h1,h2,h3⟩;refine ⟨⟨c,h1,h3⟩,fun ⟨d,k1,k2⟩=> ?_⟩;have:=g.opp_is (c:=c) k1 (by rw [k2,h3]);have h4:=(yH.1 k1).1;omega
 ·rintro ⟨⟨c,h1,h3⟩,h⟩;refine ⟨c,h1,?_,h3⟩
  by_cases e:zAI x c<0
  ·exact e
  ·obtain ⟨k1,k2,k3,k4⟩:=g.opp_v (c:=c) (by omega);refine absurd ⟨zAI x c,k2,?_⟩ h;show (_,_)=_;rw [k3,k4];have e1:yS x (qY x c)=w:=congrArg Prod.fst h3;have e2:yS x (qV x c)=u:=congrArg Prod.snd h3;rw [e1,e2]
theorem zDx {x:yI.T} (g:Full x) {v:Int} :zAY x v=true↔(0<=v/\v<x.1.1)/\¬ ∃ w,bE x w v:=by
 unfold zAY;rw [zC,zbB];constructor
 ·rintro ⟨h1,h2⟩;have ht:=zJK.1 h1;refine ⟨⟨ht.1,ht.2.1⟩,fun ⟨w,hw⟩=> ?_⟩;obtain ⟨b,eb,eL,hb1,hb2,hb3,hall,_,_,hend⟩:=g.around ht.1 ht.2.1;obtain ⟨d,d1,d2,d3,_⟩:=zQL g hw;rcases hend with h|h
  ·rw [h.1] at h2;cases h2
  ·have:=h.2 d (by rw [<- d2];exact g.around_all d1);omega
 ·rintro ⟨⟨h0,h1⟩,h2⟩;refine ⟨g.there h0 h1,?_⟩;obtain ⟨b,eb,eL,hb1,hb2,hb3,hall,_,_,hend⟩:=g.around h0 h1;rcases hend with h|h
  ·have:=zZ6 g hb1 h.2;rw [hb2] at this;exact absurd (zCo g this) h2
  ·exact h.1
theorem zLt (f:Int->Int) (a:Int) (i:Nat): ∀ j,iter f (iter f a i) j=iter f a (i+j)
 | 0=>rfl
 | j+1=>congrArg f (zLt f a i j)
theorem exists_least {P:Nat->Prop} [DecidablePred P] {n:Nat} (h:P n): ∃ p,P p/\p<=n/\∀ j,j<p->¬ P j:=by
 induction n using Nat.strongRecOn with
 | _ n ih =>
   by_cases e: ∃ j,j<n/\P j
   ·obtain ⟨j,hj,hP⟩:=e;obtain ⟨p,h1,h2,h3⟩:=ih j hj hP;exact ⟨p,h1,by omega,h3⟩
   ·exact ⟨n,h,zI _,fun j hj hP=>e ⟨j,hj,hP⟩⟩
end S1
namespace S1
theorem zGs {α:Type} (d:α) (L:List α):(List.range L.length).map (fun i=>L.getD i d)=L:=by
 apply List.ext_getElem
 ·rw [yV,zAD]
 ·intro i h1 h2;rw [List.getElem_map,List.getElem_range,gdE,gE h2];rfl
theorem qI {l:List P3} {i:Nat} (h:i<l.length):tg l i∈l:=by
 unfold tg;rw [gdE,gE h];exact yQ h
theorem zAO {l:List P3} {t:P3} (h:t∈l): ∃ i,i<l.length/\tg l i=t:=by
 obtain ⟨i,hi,e⟩:=yG.1 h;exact ⟨i,hi,by unfold tg;rw [gdE,gE hi];exact e⟩
theorem zDh {l:List P3} {a b:Int} :eE l a b↔∃ t∈l,dE t a b:=by
 constructor
 ·rintro ⟨i,hi,h⟩;exact ⟨_,qI hi,h⟩
 ·rintro ⟨t,ht,h⟩;obtain ⟨i,hi,e⟩:=zAO ht;exact ⟨i,hi,by rw [e];exact h⟩
theorem jN {t:P3} {a b:Int} (h:dE t a b):z8 t a/\z8 t b:=by
 rcases h with ⟨h1,h2⟩|⟨h1,h2⟩|⟨h1,h2⟩
 ·exact ⟨.inl h1,.inr (.inl h2)⟩
 ·exact ⟨.inr (.inl h1),.inr (.inr h2)⟩
 ·exact ⟨.inr (.inr h1),.inl h2⟩
theorem zZG {s:Int×List P3} (h:zMc s) {i:Nat} (hi:i<s.2.length) {v:Int} (hv:z8 (tg s.2 i) v):0<=v/\v<s.1:=by
 have:=zAH (h.2.2.2 i hi);rcases hv with e|e|e<;>(rw [<- e];first|exact this.1|exact this.2.1|exact this.2.2)
end S1
namespace S1
theorem zc7 {fn} (c:Int) (h:0<=c/\c<=100000):zAG ⟨tyL,fn,[]⟩ f120 [y8.av c] (fun r=>r= .s (.int .i64 (trn c 1))):=by
 repeat' (conv=>whnf
          first|done|refine qy ?_|refine qG fun _=> ?_|refine qw (fun _=> ?_) (fun _=> ?_)|apply qt|refine qi (fun _=> ?_) (fun _=> ?_)|refine qu ?_|refine qv ?_ ?_|exact zO)
 all_goals try first|refine qz ?_|apply qz5
 all_goals try simp only [qn0,z7,zX,ETy.dflt,Int.reduceToNat,Int.reduceAdd,Int.reduceSub,Int.reduceNeg,Nat.reduceAdd] at *
 all_goals have e:=tm3 h.1
 all_goals try have e2:=tm3 (c:=c.tmod 3+1) (by omega)
 all_goals try (refine qh ?_;unfold yP;omega)
 all_goals (unfold trn;omega)
def zca:List AV->Option Res:=zEz y8 (fun (c:Int)=>some (none,some (0<=c/\c<=100000),.s (.int .i64 (trn c 1))))
theorem zcd:qM prog 120 zca:=mkR (zA1 fun c r h=>by cases h;exact fb (fn:=[]) trivial func120 fun _ h=>zc7 c h) func120
theorem zcl {fn} (c:Int) (h:0<=c/\c<=100000):zAG ⟨tyL,fn,[]⟩ f119 [y8.av c] (fun r=>r= .s (.int .i64 (trn c 2))):=by
 repeat' (conv=>whnf
          first|done|refine qy ?_|refine qG fun _=> ?_|refine qw (fun _=> ?_) (fun _=> ?_)|apply qt|refine qi (fun _=> ?_) (fun _=> ?_)|refine qu ?_|refine qv ?_ ?_|exact zO)
 all_goals try first|refine qz ?_|apply qz5
 all_goals try simp only [qn0,z7,zX,ETy.dflt,Int.reduceToNat,Int.reduceAdd,Int.reduceSub,Int.reduceNeg,Nat.reduceAdd] at *
 all_goals have e:=tm3 h.1
 all_goals try have e2:=tm3 (c:=c.tmod 3+2) (by omega)
 all_goals try (refine qh ?_;unfold yP;omega)
 all_goals (unfold trn;omega)
def zci:List AV->Option Res:=zEz y8 (fun (c:Int)=>some (none,some (0<=c/\c<=100000),.s (.int .i64 (trn c 2))))
theorem zcj:qM prog 119 zci:=mkR (zA1 fun c r h=>by cases h;exact fb (fn:=[]) trivial func119 fun _ h=>zcl c h) func119
def vI (l:List P3) (c:Int):Int:=p3 (tg l (c / 3).toNat) (c % 3)
theorem zdU {fn} (n:Int) (l:List P3) (c:Int) (h:(0<=c/\c<3*(l.length:Int))/\c<=100000):zAG ⟨tyL,fn,[]⟩ Tryz.f49 [qP.av (n,l),y8.av c] (fun r=>r= .s (.int .i64 (vI l c))):=by
 have e3:=td3 h.1.1;have m3:=tm3 h.1.1
 repeat' (conv=>whnf
          first|done|refine qy ?_|refine qG fun _=> ?_|refine qw (fun _=> ?_) (fun _=> ?_)|apply qt|refine qi (fun _=> ?_) (fun _=> ?_)|refine qu ?_|refine qv ?_ ?_|exact zO)
 all_goals try first|refine qz ?_|apply qz5
 all_goals try simp only [qn0,z7,zX,ETy.dflt,Int.reduceToNat,Int.reduceAdd,Int.reduceSub,Int.reduceNeg,Nat.reduceAdd] at *
 all_goals try rw [e3]
 all_goals try rw [m3]
 all_goals try (refine qh ?_;unfold yP;omega)
 all_goals try (refine qh ?_;omega)
 exact z7z _ _ (by omega) (by omega)
def zdb:List AV->Option Res:=zCr qP y8 (fun (s:Int×List P3) (c:Int)=>some (none,some ((0<=c/\c<3*(s.2.length:Int))/\c<=100000),.s (.int .i64 (vI s.2 c))))
theorem zd4:qM prog 49 zdb:=mkR (jD fun s c r h=>by cases h;exact fb (fn:=[]) trivial func49 fun _ h=>zdU s.1 s.2 c h) func49
def zcH (l:List P3) (a b:Int) (c:Nat):Bool:=decide (vI l (trn c 1)=a)&&decide (vI l (trn c 2)=b)
def zct (n:Nat) (p:Nat->Bool):Int:=match (List.range n).find? p with
 | some c=>c
 | none=> -1
theorem zcu {n k:Nat} {p:Nat->Bool} (hk:k<n) (h:p k=true) (hn: ∀ j,j<k->p j=false):zct n p=k:=by
 unfold zct;rw [List.find?_range_eq_some.2 ⟨h,zV.2 hk,fun j hj=>by rw [hn j hj];rfl⟩]
theorem zc2 {n:Nat} {p:Nat->Bool} (h: ∀ j,j<n->p j=false):zct n p= -1:=by
 unfold zct;rw [List.find?_eq_none.2 fun j hj=>by rw [h j (zV.1 hj)];decide]
theorem zdM {n:Nat} {p:Nat->Bool} :0<=zct n p↔∃ k,k<n/\p k=true:=by
 unfold zct;split
 ·rename_i c hc;exact ⟨fun _=>⟨c,zV.1 (List.mem_of_find?_eq_some hc),List.find?_some hc⟩,fun _=>by omega⟩
 ·rename_i hc;refine ⟨fun h=>by omega,fun ⟨k,hk,h⟩=> ?_⟩;have:=List.find?_eq_none.1 hc k (zV.2 hk);exact absurd h this
theorem zfH {n:Nat} {p:Nat->Bool} (h:0<=zct n p): ∃ k:Nat,zct n p=k/\k<n/\p k=true/\∀ j,j<k->p j=false:=by
 unfold zct at *;split at h
 ·rename_i c hc;obtain ⟨h1,h2,h3⟩:=List.find?_range_eq_some.1 hc;exact ⟨c,rfl,zV.1 h2,h1,fun j hj=>by have:=h3 j hj;simpa using this⟩
 ·omega
def zcb (l:List P3) (a b:Int):Int:=zct (3*l.length) (zcH l a b)
def zcq (l:List P3) (p:Nat->Bool):Spec Nat where
 inv c:=c<=3*l.length/\∀ d,d<c->p d=false
 live c:=[(7,.s (.int .i64 c))]
 keep:=[1,2,3]
 heap _:=[]
 keepH:=[0]
 mu c:=3*l.length - c
theorem zdQ {l:List P3} {a b:Int} {c:Nat} (h:vI l (trn c 1)≠a):zcH l a b c=false:=by unfold zcH;rw [decide_eq_false h];rfl
theorem zdK {l:List P3} {a b:Int} {c:Nat} (h:vI l (trn c 2)≠b):zcH l a b c=false:=by unfold zcH;rw [decide_eq_false h,Bool.and_false]
theorem zdO {l:List P3} {a b:Int} {c:Nat} (h:vI l (trn c 1)=a) (h2:vI l (trn c 2)=b):zcH l a b c=true:=by unfold zcH;rw [decide_eq_true h,decide_eq_true h2];rfl
theorem zd3 {p:Nat->Bool} {c:Nat} (h: ∀ d,d<c->p d=false) (k:p c=false): ∀ d,d<c+1->p d=false:=fun d hd=>by
 by_cases e:d=c
 ·rw [e];exact k
 ·exact h d (by omega)
attribute [local irreducible] trn vI
theorem zcv (n:Int) (l:List P3) (a b:Int) (h:l.length<=30000):zAG ⟨tyL,[(120,zca),(119,zci),(49,zdb)],[]⟩ f96 [qP.av (n,l),y8.av a,y8.av b] (fun r=>r= .s (.int .i64 (zcb l a b))):=by
 repeat' (conv=>whnf
          first|done|refine qy ?_|refine qG fun _=> ?_|refine qw (fun _=> ?_) (fun _=> ?_)|apply qt|refine qi (fun _=> ?_) (fun _=> ?_)|(refine zaB 2 rfl (zcq l (zcH l a b)) (0) ?_ ?_ ?_ fun c hc=> ?_)|with_reducible refine zaA (zcq _ _) (c+1) ?_ ?_ ?_ ?_|refine qu ?_|refine qv ?_ ?_|exact zO)
 all_goals try first|refine qz ?_|apply qz5
 all_goals try simp only [qn0,z7,zX,ETy.dflt,Int.reduceToNat,Int.reduceAdd,Int.reduceSub,Int.reduceNeg,Nat.reduceAdd,zcq] at *
 all_goals try exact qh ⟨zbH _,fun d hd=>absurd hd (Nat.not_lt_zero _)⟩
 all_goals try (refine qh ?_;unfold yP;omega)
 all_goals try (refine qh ?_;omega)
 all_goals try
  have hc3:(c:Int)<3*(l.length:Int):=by assumption
  have h1:=z2s (b:=1) (L:=l.length) (c:=(c:Int)) (by omega);have h2:=z2s (b:=2) (L:=l.length) (c:=(c:Int)) (by omega)
  first
  | exact qh ⟨h1,by omega⟩
  | exact qh ⟨h2,by omega⟩
 all_goals try
  have h2:vI l (trn (c:Int) 2)=b:=by assumption
  have h1:vI l (trn (c:Int) 1)=a:=by assumption
  exact (zcu (by omega) (zdO h1 h2) hc.2).symm
 all_goals try first
  | exact qh ⟨by omega,zd3 hc.2 (zdQ (by assumption))⟩
  | exact qh ⟨by omega,zd3 hc.2 (zdK (by assumption))⟩
 all_goals exact (zc2 fun j hj=>hc.2 j (by omega)).symm
def zdD:List AV->Option Res:=zOw qP y8 y8 (fun (s:Int×List P3) (a b:Int)=>some (none,some (s.2.length<=30000),.s (.int .i64 (zcb s.2 a b))))
theorem zcx:qM prog 96 zdD:=mkR (zDZ fun s a b r h=>by cases h;exact fb (by exact ⟨zcd,zcj,zd4,trivial⟩) func96 fun _ h=>zcv s.1 s.2 a b h) func96
def zda (l:List P3) (c:Int):Int:=zcb l (vI l (trn c 2)) (vI l (trn c 1))
attribute [local irreducible] zcb
theorem zfV (n:Int) (l:List P3) (c:Int) (h:(0<=c/\c<3*(l.length:Int))/\l.length<=30000):zAG ⟨tyL,[(120,zca),(119,zci),(49,zdb),(96,zdD)],[]⟩ f76 [qP.av (n,l),y8.av c] (fun r=>r= .s (.int .i64 (zda l c))):=by
 have h1:=z2s (b:=1) (L:=l.length) h.1;have h2:=z2s (b:=2) (L:=l.length) h.1
 repeat' (conv=>whnf
          first|done|refine qy ?_|refine qG fun _=> ?_|refine qw (fun _=> ?_) (fun _=> ?_)|apply qt|refine qi (fun _=> ?_) (fun _=> ?_)|refine qu ?_|refine qv ?_ ?_|exact zO)
 all_goals try first|refine qz ?_|apply qz5
 all_goals try simp only [qn0,z7,zX,ETy.dflt,Int.reduceToNat,Int.reduceAdd,Int.reduceSub,Int.reduceNeg,Nat.reduceAdd] at *
 all_goals try first
  | exact qh h.2
  | exact qh ⟨h1,by omega⟩
  | exact qh ⟨h2,by omega⟩
  | (refine qh ?_;omega)
 all_goals rfl
def zf3:List AV->Option Res:=zCr qP y8 (fun (s:Int×List P3) (c:Int)=>some (none,some ((0<=c/\c<3*(s.2.length:Int))/\s.2.length<=30000),.s (.int .i64 (zda s.2 c))))
theorem zfW:qM prog 76 zf3:=mkR (jD fun s c r h=>by cases h;exact fb (by exact ⟨zcd,zcj,zd4,zcx,trivial⟩) func76 fun _ h=>zfV s.1 s.2 c h) func76
def zcV (l:List P3) (a b:Int):Bool:=decide (zcb l a b>=0)|| decide (zcb l b a>=0)
theorem zcm (n:Int) (l:List P3) (a b:Int) (h:l.length<=30000):zAG ⟨tyL,[(96,zdD)],[]⟩ f71 [qP.av (n,l),y8.av a,y8.av b] (fun r=>r= .s (.bool (zcV l a b))):=by
 repeat' (conv=>whnf
          first|done|refine qy ?_|refine qG fun _=> ?_|refine qw (fun _=> ?_) (fun _=> ?_)|apply qt|refine qi (fun _=> ?_) (fun _=> ?_)|refine qu ?_|refine qv ?_ ?_|exact zO)
 all_goals try first|refine qz ?_|apply qz5
 all_goals try simp only [qn0,z7,zX,ETy.dflt,Int.reduceToNat,Int.reduceAdd,Int.reduceSub,Int.reduceNeg,Nat.reduceAdd,zcV] at *
 all_goals try exact qh h
 ·rw [decide_eq_true (show zcb l a b>=0 by assumption)];rfl
 ·rw [decide_eq_false (show ¬ zcb l a b>=0 by assumption)];rfl
def zce:List AV->Option Res:=zOw qP y8 y8 (fun (s:Int×List P3) (a b:Int)=>some (none,some (s.2.length<=30000),.s (.bool (zcV s.2 a b))))
theorem zc9:qM prog 71 zce:=mkR (zDZ fun s a b r h=>by cases h;exact fb (by exact ⟨zcx,trivial⟩) func71 fun _ h=>zcm s.1 s.2 a b h) func71
def zdc (l:List P3) (v:Int) (c:Nat):Bool:=decide (vI l (trn c 2)=v)&&decide (zda l c<0)
def zde (l:List P3) (v:Int):Int:=if 0<=zct (3*l.length) (zdc l v) then vI l (trn (zct (3*l.length) (zdc l v)) 1) else -1
def ze3 (l:List P3) (v:Int):Spec Nat where
 inv c:=c<=3*l.length/\∀ d,d<c->zdc l v d=false
 live c:=[(5,.s (.int .i64 c))]
 keep:=[1,2]
 heap _:=[]
 keepH:=[0]
 mu c:=3*l.length - c
attribute [local irreducible] zda
theorem zf0 (n:Int) (l:List P3) (v:Int) (h:l.length<=30000):zAG ⟨tyL,[(120,zca),(119,zci),(49,zdb),(76,zf3)],[]⟩ f98 [qP.av (n,l),y8.av v] (fun r=>r= .s (.int .i64 (zde l v))):=by
 repeat' (conv=>whnf
          first|done|refine qy ?_|refine qG fun _=> ?_|refine qw (fun _=> ?_) (fun _=> ?_)|apply qt|refine qi (fun _=> ?_) (fun _=> ?_)|(refine zaB 2 rfl (ze3 l v) (0) ?_ ?_ ?_ fun c hc=> ?_)|with_reducible refine zaA (ze3 _ _) (c+1) ?_ ?_ ?_ ?_|refine qu ?_|refine qv ?_ ?_|exact zO)
 all_goals try first|refine qz ?_|apply qz5
 all_goals try simp only [qn0,z7,zX,ETy.dflt,Int.reduceToNat,Int.reduceAdd,Int.reduceSub,Int.reduceNeg,Nat.reduceAdd,ze3] at *
 all_goals try exact qh ⟨zbH _,fun d hd=>absurd hd (Nat.not_lt_zero _)⟩
 all_goals try (refine qh ?_;unfold yP;omega)
 all_goals try (refine qh ?_;omega)
 all_goals try
  have hc3:(c:Int)<3*(l.length:Int):=by assumption
  have h1:=z2s (b:=1) (L:=l.length) (c:=(c:Int)) (by omega);have h2:=z2s (b:=2) (L:=l.length) (c:=(c:Int)) (by omega)
  first
  | exact qh ⟨h1,by omega⟩
  | exact qh ⟨h2,by omega⟩
  | exact qh ⟨⟨by omega,hc3⟩,h⟩
 all_goals try
  have k2:zda l (c:Int)<0:=by assumption
  have k1:vI l (trn (c:Int) 2)=v:=by assumption
  have e:zct (3*l.length) (zdc l v)=c:=zcu (by omega) (by unfold zdc;rw [decide_eq_true k1,decide_eq_true k2];rfl) hc.2;unfold zde;rw [if_pos (by rw [e];omega),e]
 all_goals try first
  | exact qh ⟨by omega,zd3 hc.2 (by unfold zdc;rw [decide_eq_false (show ¬ vI l (trn (c:Int) 2)=v by assumption)];rfl)⟩
  | exact qh ⟨by omega,zd3 hc.2 (by unfold zdc;rw [decide_eq_false (show ¬ zda l (c:Int)<0 by assumption),Bool.and_false])⟩
 all_goals
  have e:zct (3*l.length) (zdc l v)= -1:=zc2 fun j hj=>hc.2 j (by omega);unfold zde;rw [e,if_neg (by decide)]
def ze7:List AV->Option Res:=zCr qP y8 (fun (s:Int×List P3) (v:Int)=>some (none,some (s.2.length<=30000),.s (.int .i64 (zde s.2 v))))
theorem zeB:qM prog 98 ze7:=mkR (jD fun s v r h=>by cases h;exact fb (by exact ⟨zcd,zcj,zd4,zfW,trivial⟩) func98 fun _ h=>zf0 s.1 s.2 v h) func98
attribute [local irreducible] zde
def zdm (l:List P3) (v:Int):Bool:=decide (zde l v>=0)
theorem zfT (n:Int) (l:List P3) (v:Int) (h:l.length<=30000):zAG ⟨tyL,[(98,ze7)],[]⟩ f95 [qP.av (n,l),y8.av v] (fun r=>r= .s (.bool (zdm l v))):=by
 repeat' (conv=>whnf
          first|done|refine qy ?_|refine qG fun _=> ?_|refine qw (fun _=> ?_) (fun _=> ?_)|apply qt|refine qi (fun _=> ?_) (fun _=> ?_)|refine qu ?_|refine qv ?_ ?_|exact zO)
 all_goals try first|refine qz ?_|apply qz5
 all_goals try simp only [qn0,z7,zX,ETy.dflt,Int.reduceToNat,Int.reduceAdd,Int.reduceSub,Int.reduceNeg,Nat.reduceAdd,zdm] at *
 all_goals try exact qh h
 all_goals rfl
def zei:List AV->Option Res:=zCr qP y8 (fun (s:Int×List P3) (v:Int)=>some (none,some (s.2.length<=30000),.s (.bool (zdm s.2 v))))
theorem zfX:qM prog 95 zei:=mkR (jD fun s v r h=>by cases h;exact fb (by exact ⟨zeB,trivial⟩) func95 fun _ h=>zfT s.1 s.2 v h) func95
attribute [local irreducible] zcV
def zdI (l:List P3) (e:Int×Int):Bool:=decide (e.1≠e.2)&&zcV l e.1 e.2
theorem zcf (n:Int) (l:List P3) (a b:Int) (h:l.length<=30000):zAG ⟨tyL,[(71,zce)],[]⟩ f30 [qP.av (n,l),ETy.arr2.av (a,b)] (fun r=>r= .s (.bool (zdI l (a,b)))):=by
 repeat' (conv=>whnf
          first|done|refine qy ?_|refine qG fun _=> ?_|refine qw (fun _=> ?_) (fun _=> ?_)|apply qt|refine qi (fun _=> ?_) (fun _=> ?_)|refine qu ?_|refine qv ?_ ?_|exact zO)
 all_goals try first|refine qz ?_|apply qz5
 all_goals try simp only [qn0,z7,zX,ETy.dflt,Int.reduceToNat,Int.reduceAdd,Int.reduceSub,Int.reduceNeg,Nat.reduceAdd,zdI] at *
 all_goals try exact qh h
 ·rw [decide_eq_true (show a≠b by assumption)];rfl
 ·rw [decide_eq_false (show ¬ a≠b from fun k=>k (by assumption))];rfl
def zcR:List AV->Option Res:=zCr qP .arr2 (fun (s:Int×List P3) (e:Int×Int)=>some (none,some (s.2.length<=30000),.s (.bool (zdI s.2 e))))
theorem zc5:qM prog 30 zcR:=mkR (jD fun s e r h=>by cases h;exact fb (by exact ⟨zc9,trivial⟩) func30 fun _ h=>zcf s.1 s.2 e.1 e.2 h) func30
theorem zdW (l:List P3) (i k:Nat) (hk:k<3):vI l (3*(i:Int)+k)=p3 (tg l i) k:=by
 unfold vI;rw [show (3*(i:Int)+k) / 3=i by omega,show (3*(i:Int)+k) % 3=k by omega];rfl
theorem zdC {l:List P3} {a b:Int} :0<=zcb l a b↔∃ t∈l,dE t a b:=by
 rw [show zcb l a b=zct (3*l.length) (zcH l a b) by unfold zcb;rfl,zdM]
 have key: ∀ i k:Nat,k<3->(zcH l a b (3*i+k)=true↔p3 (tg l i) ((k+1) % 3:Nat)=a/\p3 (tg l i) ((k+2) % 3:Nat)=b):=fun i k hk=>by
  have e1:trn ((3*i+k:Nat):Int) 1=3*(i:Int)+((k+1) % 3:Nat):=by unfold trn;omega
  have e2:trn ((3*i+k:Nat):Int) 2=3*(i:Int)+((k+2) % 3:Nat):=by unfold trn;omega
  unfold zcH;rw [e1,e2,zdW l i _ (by omega),zdW l i _ (by omega),zC,zP,zP]
 constructor
 ·rintro ⟨c,hc,h⟩;have e:c=3*(c / 3)+c % 3:=by omega
  rw [e] at h;obtain ⟨h1,h2⟩:=(key (c / 3) (c % 3) (by omega)).1 h;refine ⟨tg l (c / 3),qI (by omega),?_⟩;have hm:c % 3=0\/c % 3=1\/c % 3=2:=by omega
  rcases hm with q|q|q<;>rw [q] at h1 h2
  ·exact .inr (.inl ⟨h1,h2⟩)
  ·exact .inr (.inr ⟨h1,h2⟩)
  ·exact .inl ⟨h1,h2⟩
 ·rintro ⟨t,ht,hd⟩;obtain ⟨i,hi,rfl⟩:=zAO ht;rcases hd with ⟨h1,h2⟩|⟨h1,h2⟩|⟨h1,h2⟩
  ·exact ⟨3*i+2,by omega,(key i 2 (by omega)).2 ⟨h1,h2⟩⟩
  ·exact ⟨3*i+0,by omega,(key i 0 (by omega)).2 ⟨h1,h2⟩⟩
  ·exact ⟨3*i+1,by omega,(key i 1 (by omega)).2 ⟨h1,h2⟩⟩
end S1
namespace S1
def z8I (l:List P3) (v:Int):Prop:= ∀ Q:P3->Prop,
    (∀ t∈l,∀ u∈l,z8 t v->z8 u v->(∃ w:Int,w≠v/\z8 t w/\z8 u w)->Q t->Q u)->
    ∀ t∈l,z8 t v->Q t->∀ u∈l,z8 u v->Q u
structure jV (V:Int->Prop) (l:List P3):Prop where
 nd:l.Nodup
 ent: ∀ t∈l,∀ v,z8 t v->V v
 deg: ∀ t∈l,¬ dgn t
 dif: ∀ t∈l,∀ u∈l,t≠u->∀ a b,dE t a b->¬ dE u a b
 mir: ∀ t∈l,∀ u∈l,t≠u->¬ (z8 u t.1/\z8 u t.2.1/\z8 u t.2.2)
 use: ∀ v,V v->∃ t∈l,z8 t v
 pin: ∀ v,V v->z8I l v
instance (t:P3) (v:Int):Decidable (z8 t v):=inferInstanceAs (Decidable (t.1=v\/t.2.1=v\/t.2.2=v))
theorem z2B {t:P3} {a b r:Int} (hab:a≠b) (har:a≠r) (hbr:b≠r) (h1:z8 t a) (h2:z8 t b) (h3:z8 t r) :
 (dE t a b/\dE t b r/\dE t r a)\/(dE t b a/\dE t a r/\dE t r b):=by
 obtain ⟨x,y,z⟩:=t;unfold z8 at h1 h2 h3;unfold dE;simp only at *;rcases h1 with e1|e1|e1<;>rcases h2 with e2|e2|e2<;>rcases h3 with e3|e3|e3<;>first|(exfalso;omega)|(subst e1 e2 e3;simp)
theorem zH6 {t:P3} (hd: ¬ dgn t) {a b:Int} (hab:a≠b) (h1:z8 t a) (h2:z8 t b): ∃ r,r≠a/\r≠b/\z8 t r/\∀ w,z8 t w->w=a\/w=b\/w=r:=by
 obtain ⟨x,y,z⟩:=t;unfold dgn at hd;unfold z8 at h1 h2;simp only at *;rcases h1 with e1|e1|e1<;>rcases h2 with e2|e2|e2
 ·omega
 ·exact ⟨z,by omega,by omega,.inr (.inr rfl),fun w hw=>by unfold z8 at hw;simp only at hw;omega⟩
 ·exact ⟨y,by omega,by omega,.inr (.inl rfl),fun w hw=>by unfold z8 at hw;simp only at hw;omega⟩
 ·exact ⟨z,by omega,by omega,.inr (.inr rfl),fun w hw=>by unfold z8 at hw;simp only at hw;omega⟩
 ·omega
 ·exact ⟨x,by omega,by omega,.inl rfl,fun w hw=>by unfold z8 at hw;simp only at hw;omega⟩
 ·exact ⟨y,by omega,by omega,.inr (.inl rfl),fun w hw=>by unfold z8 at hw;simp only at hw;omega⟩
 ·exact ⟨x,by omega,by omega,.inl rfl,fun w hw=>by unfold z8 at hw;simp only at hw;omega⟩
 ·omega
theorem zNw {t:P3} (hd: ¬ dgn t) {a b:Int} (h:dE t a b):a≠b:=by
 unfold dgn at hd;unfold dE at h;omega
theorem zRY {t:P3} {v:Int} (h:z8 t v): ∃ w,dE t v w:=by
 rcases h with e|e|e
 ·exact ⟨_,.inl ⟨e,rfl⟩⟩
 ·exact ⟨_,.inr (.inl ⟨e,rfl⟩)⟩
 ·exact ⟨_,.inr (.inr ⟨e,rfl⟩)⟩
theorem jV.same {V:Int->Prop} {l:List P3} (h:jV V l) {t u:P3} (ht:t∈l) (hu:u∈l) {a b r:Int} (hab:a≠b) (har:a≠r) (hbr:b≠r) (h1:z8 t a) (h2:z8 t b) (h3:z8 t r) (k1:z8 u a) (k2:z8 u b) (k3:z8 u r):t=u:=by
 apply yF;intro hne;obtain ⟨r',e1,e2,e3,e4⟩:=zH6 (h.deg t ht) hab h1 h2
 have er:r=r':=by
  rcases e4 r h3 with e|e|e
  ·exact absurd e.symm har
  ·exact absurd e.symm hbr
  ·exact e
 subst er
 have key: ∀ w,z8 t w->z8 u w:=fun w hw=>by
  rcases e4 w hw with e|e|e<;>(subst e;assumption)
 exact h.mir t ht u hu hne ⟨key _ (.inl rfl),key _ (.inr (.inl rfl)),key _ (.inr (.inr rfl))⟩
def ph (a b v:Int):Int:=if v=a then b else v
def phT (a b:Int) (t:P3):P3:=(ph a b t.1,ph a b t.2.1,ph a b t.2.2)
def both (a b:Int) (t:P3):Bool:=decide (z8 t a/\z8 t b)
def zIZ (a b:Int) (l:List P3):List P3:=(l.filter fun t=> !both a b t).map (phT a b)
theorem zIz {a b:Int} {t:P3} {v:Int} (h:z8 t v):z8 (phT a b t) (ph a b v):=by
 rcases h with e|e|e
 ·exact .inl (by show ph a b t.1=_;rw [e])
 ·exact .inr (.inl (by show ph a b t.2.1=_;rw [e]))
 ·exact .inr (.inr (by show ph a b t.2.2=_;rw [e]))
theorem zML {a b:Int} {t:P3} {v:Int} (h:z8 (phT a b t) v): ∃ w,z8 t w/\ph a b w=v:=by
 rcases h with e|e|e
 ·exact ⟨_,.inl rfl,e⟩
 ·exact ⟨_,.inr (.inl rfl),e⟩
 ·exact ⟨_,.inr (.inr rfl),e⟩
theorem z1v {a b:Int} {t:P3} {p q:Int} (h:dE (phT a b t) p q): ∃ p0 q0,dE t p0 q0/\ph a b p0=p/\ph a b q0=q:=by
 rcases h with ⟨e1,e2⟩|⟨e1,e2⟩|⟨e1,e2⟩
 ·exact ⟨_,_,.inl ⟨rfl,rfl⟩,e1,e2⟩
 ·exact ⟨_,_,.inr (.inl ⟨rfl,rfl⟩),e1,e2⟩
 ·exact ⟨_,_,.inr (.inr ⟨rfl,rfl⟩),e1,e2⟩
theorem z2m (a b:Int):ph a b a=b:=if_pos rfl
theorem zLT {a b v:Int} (h:v≠a):ph a b v=v:=if_neg h
theorem zXf {a b v w:Int} (h:ph a b v=ph a b w):v=w\/(v=a/\w=b)\/(v=b/\w=a):=by
 unfold ph at h;split at h<;>split at h<;>omega
theorem zLG {a b:Int} {u:P3} :(!both a b u)=true↔¬ (z8 u a/\z8 u b):=by
 unfold both;rw [zbB,yM]
theorem zA9 {a b:Int} {l:List P3} {t:P3} :t∈zIZ a b l↔∃ u∈l,¬ (z8 u a/\z8 u b)/\phT a b u=t:=by
 unfold zIZ both;rw [yC];constructor
 ·rintro ⟨u,hu,e⟩;obtain ⟨h1,h2⟩:=zb5.1 hu;exact ⟨u,h1,zLG.1 h2,e⟩
 ·rintro ⟨u,h1,h2,e⟩;exact ⟨u,zb5.2 ⟨h1,zLG.2 h2⟩,e⟩
structure zT1 (l:List P3) (a b:Int):Prop where
 ne:a≠b
 near: ∃ t∈l,z8 t a/\z8 t b
 com: ∀ v,v≠a->v≠b->(∃ t∈l,z8 t a/\z8 t v)->(∃ u∈l,z8 u b/\z8 u v)->∃ t∈l,z8 t a/\z8 t b/\z8 t v
 lone: ∀ t∈l,z8 t a->z8 t b->∀ v,v≠a->v≠b->z8 t v->∃ u∈l,u≠t/\z8 u v/\(z8 u a\/z8 u b)
 tetra: ∀ p q,p≠q->p≠a->p≠b->q≠a->q≠b->(∃ t∈l,z8 t a/\z8 t p/\z8 t q)->(∃ t∈l,z8 t b/\z8 t p/\z8 t q)->(∃ t∈l,z8 t a/\z8 t b/\z8 t p)->(∃ t∈l,z8 t a/\z8 t b/\z8 t q)->False
 turn: ∀ t∈l,∀ u∈l,t≠u->z8 t a->z8 t b->z8 u a->z8 u b->∃ c,(c=a\/c=b)/\
  ∀ Q:P3->Prop,(∀ s∈l,∀ r∈l,z8 s c->z8 r c->(∃ w:Int,w≠a/\w≠b/\z8 s w/\z8 r w)->Q s->Q r)->Q t->Q u
section
variable {V:Int->Prop} {l:List P3} {a b:Int}
theorem zUr (h:jV V l) (f:zT1 l a b) {t u:P3} (ht:t∈l) (hu:u∈l) (hne:t≠u) (dt: ¬ (z8 t a/\z8 t b)) (du: ¬ (z8 u a/\z8 u b)) {p q:Int} (h1:dE (phT a b t) p q) (h2:dE (phT a b u) p q):False:=by
 obtain ⟨p0,q0,d0,ep0,eq0⟩:=z1v h1;obtain ⟨p1,q1,d1,ep1,eq1⟩:=z1v h2;have n0:=zNw (h.deg t ht) d0;have n1:=zNw (h.deg u hu) d1;have v0:=jN d0;have v1:=jN d1
 -- one end is drawn
 have key: ∀ {x y:P3},x∈l->y∈l->¬ (z8 x a/\z8 x b)->¬ (z8 y a/\z8 y b)->∀ r,r≠a->r≠b->((dE x a r/\dE y b r)\/(dE x r a/\dE y r b))->False:=fun {x y} hx hy dx dy r ra rb hh=>by
  have hxa:z8 x a/\z8 x r:=by rcases hh with k|k;exact jN k.1;exact (jN k.1).symm
  have hyb:z8 y b/\z8 y r:=by rcases hh with k|k;exact jN k.2;exact (jN k.2).symm
  obtain ⟨w,hw,wa,wb,wr⟩:=f.com r ra rb ⟨x,hx,hxa⟩ ⟨y,hy,hyb⟩;have hwx:w≠x:=fun e=>dx (by rw [<- e];exact ⟨wa,wb⟩);have hwy:w≠y:=fun e=>dy (by rw [<- e];exact ⟨wa,wb⟩);rcases z2B f.ne ra.symm rb.symm wa wb wr with ⟨o1,o2,o3⟩|⟨o1,o2,o3⟩
  ·rcases hh with k|k
   ·exact h.dif w hw y hy hwy _ _ o2 k.2
   ·exact h.dif w hw x hx hwx _ _ o3 k.1
  ·rcases hh with k|k
   ·exact h.dif w hw x hx hwx _ _ o2 k.1
   ·exact h.dif w hw y hy hwy _ _ o3 k.2
 have nab: ∀ {x:P3} {v w:Int},¬ (z8 x a/\z8 x b)->z8 x v->z8 x w->v≠w->(v=a\/v=b)->w≠a/\w≠b:=fun {x v w} dx hv hw hvw e=>by
  refine ⟨fun ew=> ?_,fun ew=> ?_⟩
  ·rcases e with e|e
   ·exact hvw (e.trans ew.symm)
   ·exact dx ⟨by rw [<- ew];exact hw,by rw [<- e];exact hv⟩
  ·rcases e with e|e
   ·exact dx ⟨by rw [<- e];exact hv,by rw [<- ew];exact hw⟩
   ·exact hvw (e.trans ew.symm)
 rcases zXf (ep0.trans ep1.symm) with e|⟨e1,e2⟩|⟨e1,e2⟩
 ·rcases zXf (eq0.trans eq1.symm) with e'|⟨e1,e2⟩|⟨e1,e2⟩
  ·subst e;subst e';exact h.dif t ht u hu hne _ _ d0 d1
  ·subst e;subst e1;subst e2;have:=nab dt v0.2 v0.1 n0.symm (.inl rfl);exact key ht hu dt du p0 this.1 this.2 (.inr ⟨d0,d1⟩)
  ·subst e;subst e1;subst e2;have:=nab dt v0.2 v0.1 n0.symm (.inr rfl);exact key hu ht du dt p0 this.1 this.2 (.inr ⟨d1,d0⟩)
 ·subst e1;subst e2;have k:=nab dt v0.1 v0.2 n0 (.inl rfl);have k2:=nab du v1.1 v1.2 n1 (.inr rfl)
  have e':q0=q1:=by
   rcases zXf (eq0.trans eq1.symm) with e'|⟨e1,e2⟩|⟨e1,e2⟩
   ·exact e'
   ·exact absurd e1 k.1
   ·exact absurd e1 k.2
  subst e';exact key ht hu dt du q0 k.1 k.2 (.inl ⟨d0,d1⟩)
 ·subst e1;subst e2;have k:=nab dt v0.1 v0.2 n0 (.inr rfl)
  have e':q0=q1:=by
   rcases zXf (eq0.trans eq1.symm) with e'|⟨e1,e2⟩|⟨e1,e2⟩
   ·exact e'
   ·exact absurd e1 k.1
   ·exact absurd e1 k.2
  subst e';exact key hu ht du dt q0 k.1 k.2 (.inl ⟨d1,d0⟩)
theorem zUT (h:jV V l) (f:zT1 l a b) {t:P3} (ht:t∈l) (dt: ¬ (z8 t a/\z8 t b)): ¬ dgn (phT a b t):=by
 have hd:=h.deg t ht
 have key: ∀ {v w:Int},z8 t v->z8 t w->v≠w->ph a b v≠ph a b w:=fun {v w} hv hw hvw e=>by
  rcases zXf e with e|⟨e1,e2⟩|⟨e1,e2⟩
  ·exact hvw e
  ·exact dt ⟨by rw [<- e1];exact hv,by rw [<- e2];exact hw⟩
  ·exact dt ⟨by rw [<- e2];exact hw,by rw [<- e1];exact hv⟩
 rintro (e|e|e)
 ·exact key (.inl rfl) (.inr (.inl rfl)) (fun k=>hd (.inl k)) e
 ·exact key (.inr (.inl rfl)) (.inr (.inr rfl)) (fun k=>hd (.inr (.inl k))) e
 ·exact key (.inr (.inr rfl)) (.inl rfl) (fun k=>hd (.inr (.inr k))) e
theorem zJk (f:zT1 l a b) {t:P3} :z8 (phT a b t) b↔z8 t a\/z8 t b:=by
 constructor
 ·intro h;obtain ⟨w,hw,e⟩:=zML h
  by_cases ea:w=a
  ·exact .inl (by rw [<- ea];exact hw)
  ·rw [zLT ea] at e;exact .inr (by rw [<- e];exact hw)
 ·rintro (h|h)
  ·have:=zIz (a:=a) (b:=b) h;rwa [z2m] at this
  ·have:=zIz (a:=a) (b:=b) h;rwa [zLT f.ne.symm] at this
theorem zCp {t:P3} {v:Int} (h1:v≠a) (h2:v≠b):z8 (phT a b t) v↔z8 t v:=by
 constructor
 ·intro h;obtain ⟨w,hw,e⟩:=zML h
  by_cases ea:w=a
  ·rw [ea,z2m] at e;exact absurd e.symm h2
  ·rw [zLT ea] at e;rw [<- e];exact hw
 ·intro h;have:=zIz (a:=a) (b:=b) h;rwa [zLT h1] at this
theorem z5t (f:zT1 l a b) {t:P3} : ¬ z8 (phT a b t) a:=fun h=>by
 obtain ⟨w,hw,e⟩:=zML h
 by_cases ea:w=a
 ·rw [ea,z2m] at e;exact f.ne e.symm
 ·rw [zLT ea] at e;exact ea e
theorem zTa (h:jV V l) (f:zT1 l a b) {t:P3} (ht:t∈l) (ha:z8 t a) (hb:z8 t b) {v:Int} (va:v≠a) (vb:v≠b) (hv:z8 t v): ∃ u∈l,¬ (z8 u a/\z8 u b)/\z8 u v/\(z8 u a\/z8 u b):=by
 obtain ⟨u,hu,hne,k1,k2⟩:=f.lone t ht ha hb v va vb hv;refine ⟨u,hu,fun hab=>hne ?_,k1,k2⟩;exact h.same hu ht f.ne va.symm vb.symm hab.1 hab.2 k1 ha hb hv
theorem z4y (h:jV V l) (f:zT1 l a b) {v:Int} (hV:V v) (va:v≠a) (vb:v≠b):z8I (zIZ a b l) v:=by
 intro Q hQ t' ht' hv' hq u' hu' hw';obtain ⟨t,ht,dt,rfl⟩:=zA9.1 ht';obtain ⟨u,hu,du,rfl⟩:=zA9.1 hu';rw [zCp va vb] at hv' hw'
 let H:P3->Prop:=fun s=>(¬ (z8 s a/\z8 s b)/\Q (phT a b s))\/((z8 s a/\z8 s b)/\∃ r∈l,¬ (z8 r a/\z8 r b)/\z8 r v/\(z8 r a\/z8 r b)/\Q (phT a b r))
 have inn: ∀ {s:P3},s∈l->¬ (z8 s a/\z8 s b)->phT a b s∈zIZ a b l:=fun hs ds=>zA9.2 ⟨_,hs,ds,rfl⟩
 have toQ: ∀ {s r:P3},s∈l->r∈l->¬ (z8 s a/\z8 s b)->¬ (z8 r a/\z8 r b)->z8 s v->z8 r v->(∃ w,w≠v/\z8 (phT a b s) w/\z8 (phT a b r) w)->Q (phT a b s)->Q (phT a b r):=fun {s r} hs hr ds dr sv rv hh =>
  hQ _ (inn hs ds) _ (inn hr dr) ((zCp va vb).2 sv) ((zCp va vb).2 rv) hh
 have hH : H u:=by
  refine h.pin v hV H (fun s hs r hr sv rv ⟨w,wv,sw,rw'⟩ k=> ?_) t ht hv' (.inl ⟨dt,hq⟩) u hu hw'
  by_cases ds:z8 s a/\z8 s b
  ·-- s goes
   have k: ∃ r∈l,¬ (z8 r a/\z8 r b)/\z8 r v/\(z8 r a\/z8 r b)/\Q (phT a b r):=by
    rcases k with k|k
    ·exact absurd ds k.1
    ·exact k.2
   by_cases dr:z8 r a/\z8 r b
   ·exact .inr ⟨dr,k⟩
   ·obtain ⟨r0,h0,d0,v0,e0,q0⟩:=k
    have hwab:w=a\/w=b:=by
     obtain ⟨z,z1,z2,z3,z4⟩:=zH6 (h.deg s hs) f.ne ds.1 ds.2
     have ev:v=z:=by
      rcases z4 v sv with e|e|e
      ·exact absurd e va
      ·exact absurd e vb
      ·exact e
     rcases z4 w sw with e|e|e
     ·exact .inl e
     ·exact .inr e
     ·exact absurd (e.trans ev.symm) wv
    refine .inl ⟨dr,toQ h0 hr d0 dr v0 rv ⟨b,vb.symm,(zJk f).2 e0,(zJk f).2 ?_⟩ q0⟩;rcases hwab with e|e
    ·exact .inl (by rw [<- e];exact rw')
    ·exact .inr (by rw [<- e];exact rw')
  ·have k:Q (phT a b s):=by
    rcases k with k|k
    ·exact k.2
    ·exact absurd k.1 ds
   by_cases dr:z8 r a/\z8 r b
   ·refine .inr ⟨dr,s,hs,ds,sv,?_,k⟩;obtain ⟨z,z1,z2,z3,z4⟩:=zH6 (h.deg r hr) f.ne dr.1 dr.2
    have ev:v=z:=by
     rcases z4 v rv with e|e|e
     ·exact absurd e va
     ·exact absurd e vb
     ·exact e
    rcases z4 w rw' with e|e|e
    ·exact .inl (by rw [<- e];exact sw)
    ·exact .inr (by rw [<- e];exact sw)
    ·exact absurd (e.trans ev.symm) wv
   ·refine .inl ⟨dr,toQ hs hr ds dr sv rv ⟨ph a b w,fun e=> ?_,zIz sw,zIz rw'⟩ k⟩
    by_cases ew:w=a
    ·rw [ew,z2m] at e;exact vb e.symm
    ·rw [zLT ew] at e;exact wv e
 rcases hH with k|k
 ·exact k.2
 ·exact absurd k.1 du
theorem zWP (h:jV V l) (f:zT1 l a b) (hVa:V a) (hVb:V b):z8I (zIZ a b l) b:=by
 intro Q hQ t' ht' hv' hq u' hu' hw';obtain ⟨t,ht,dt,rfl⟩:=zA9.1 ht';obtain ⟨u,hu,du,rfl⟩:=zA9.1 hu';rw [zJk f] at hv' hw';have inn: ∀ {s:P3},s∈l->¬ (z8 s a/\z8 s b)->phT a b s∈zIZ a b l:=fun hs ds=>zA9.2 ⟨_,hs,ds,rfl⟩
 let S:Int->Prop:=fun p=> ∃ r∈l,¬ (z8 r a/\z8 r b)/\(z8 r a\/z8 r b)/\z8 r p/\Q (phT a b r)
 have toQ: ∀ {s r:P3} {w:Int},s∈l->r∈l->¬ (z8 s a/\z8 s b)->¬ (z8 r a/\z8 r b)->(z8 s a\/z8 s b)->(z8 r a\/z8 r b)->w≠a->w≠b->z8 s w->z8 r w->Q (phT a b s)->Q (phT a b r):=fun {s r w} hs hr ds dr sv rv wa wb sw rw' =>
  hQ _ (inn hs ds) _ (inn hr dr) ((zJk f).2 sv) ((zJk f).2 rv) ⟨w,wb,(zCp wa wb).2 sw,(zCp wa wb).2 rw'⟩
 let H:P3->Prop:=fun s=>(¬ (z8 s a/\z8 s b)/\Q (phT a b s))\/((z8 s a/\z8 s b)/\∃ p,p≠a/\p≠b/\z8 s p/\S p)
 -- through what isn't the edge itself
 have thr: ∀ c,(c=a\/c=b)->∀ s∈l,∀ r∈l,z8 s c->z8 r c->(∃ w:Int,w≠a/\w≠b/\z8 s w/\z8 r w)->H s->H r:=by
  rintro c hc s hs r hr sc rc ⟨w,wa,wb,sw,rw'⟩ k
  have ab: ∀ {x:P3},z8 x c->z8 x a\/z8 x b:=fun hx=>by
   rcases hc with e|e
   ·exact .inl (by rw [<- e];exact hx)
   ·exact .inr (by rw [<- e];exact hx)
  by_cases ds:z8 s a/\z8 s b
  ·have k:S w:=by
    rcases k with k|⟨_,p,pa,pb,sp,k⟩
    ·exact absurd ds k.1
    ·obtain ⟨z,z1,z2,z3,z4⟩:=zH6 (h.deg s hs) f.ne ds.1 ds.2;have e1:w=z:=by rcases z4 w sw with e|e|e;exact absurd e wa;exact absurd e wb;exact e
     have e2:p=z:=by rcases z4 p sp with e|e|e;exact absurd e pa;exact absurd e pb;exact e
     rw [e1,<- e2];exact k
   by_cases dr:z8 r a/\z8 r b
   ·exact .inr ⟨dr,w,wa,wb,rw',k⟩
   ·obtain ⟨r0,h0,d0,e0,w0,q0⟩:=k;exact .inl ⟨dr,toQ h0 hr d0 dr e0 (ab rc) wa wb w0 rw' q0⟩
  ·have k:Q (phT a b s):=by
    rcases k with k|k
    ·exact k.2
    ·exact absurd k.1 ds
   by_cases dr:z8 r a/\z8 r b
   ·exact .inr ⟨dr,w,wa,wb,rw',s,hs,ds,ab sc,sw,k⟩
   ·exact .inl ⟨dr,toQ hs hr ds dr (ab sc) (ab rc) wa wb sw rw' k⟩
 have drop: ∀ s∈l,∀ r∈l,(z8 s a/\z8 s b)->(z8 r a/\z8 r b)->H s->H r:=fun s hs r hr ds dr k=>by
  by_cases e:s=r
  ·rw [<- e];exact k
  ·obtain ⟨c,hc,hh⟩:=f.turn s hs r hr e ds.1 ds.2 dr.1 dr.2;exact hh H (thr c hc) k
 have all: ∀ c,(c=a\/c=b)->∀ s∈l,z8 s c->H s->∀ r∈l,z8 r c->H r:=fun c hc=>by
  refine h.pin c (by rcases hc with e|e<;>(rw [e];assumption)) H fun s hs r hr sc rc ⟨w,wc,sw,rw'⟩ k=> ?_
  by_cases wab:w=a\/w=b
  ·have two: ∀ {x:P3},z8 x c->z8 x w->z8 x a/\z8 x b:=fun {x} h1 h2=>by
    rcases hc with e|e<;>rcases wab with e'|e'
    ·exact absurd (e'.trans e.symm) wc
    ·exact ⟨by rw [<- e];exact h1,by rw [<- e'];exact h2⟩
    ·exact ⟨by rw [<- e'];exact h2,by rw [<- e];exact h1⟩
    ·exact absurd (e'.trans e.symm) wc
   exact drop s hs r hr (two sc sw) (two rc rw') k
  ·exact thr c hc s hs r hr sc rc ⟨w,fun e=>wab (.inl e),fun e=>wab (.inr e),sw,rw'⟩ k
 obtain ⟨t0,h0,a0,b0⟩:=f.near;have k0:H t:= .inl ⟨dt,hq⟩
 have kt0:H t0:=by
  rcases hv' with e|e
  ·exact all a (.inl rfl) t ht e k0 t0 h0 a0
  ·exact all b (.inr rfl) t ht e k0 t0 h0 b0
 have ku:H u:=by
  rcases hw' with e|e
  ·exact all a (.inl rfl) t0 h0 a0 kt0 u hu e
  ·exact all b (.inr rfl) t0 h0 b0 kt0 u hu e
 rcases ku with k|k
 ·exact k.2
 ·exact absurd k.1 du
theorem zHx (h:jV V l) (f:zT1 l a b) (hVa:V a) (hVb:V b):jV (fun v=>V v/\v≠a) (zIZ a b l):=by
 refine ⟨?_,fun t' ht' v hv=> ?_,fun t' ht'=> ?_,fun t' ht' u' hu' hne p q h1 h2=> ?_,fun t' ht' u' hu' hne hh=> ?_,fun v hv=> ?_,fun v hv=> ?_⟩
 ·unfold zIZ;refine List.Pairwise.map _ (fun t u hh=> ?_) ((h.nd.sublist List.filter_sublist).imp_of_mem (S:=fun t u=>t≠u/\(t∈l/\¬ (z8 t a/\z8 t b))/\u∈l/\¬ (z8 u a/\z8 u b)) fun ht hu hn=> ?_)
  ·obtain ⟨hn,⟨ht,dt⟩,hu,du⟩:=hh;intro e;obtain ⟨w,hw⟩:=zRY (t:=phT a b t) (.inl rfl);exact zUr h f ht hu hn dt du hw (by rw [<- e];exact hw)
  ·obtain ⟨t1,t2⟩:=zb5.1 ht;obtain ⟨u1,u2⟩:=zb5.1 hu;exact ⟨hn,⟨t1,zLG.1 t2⟩,u1,zLG.1 u2⟩
 ·obtain ⟨t,ht,dt,rfl⟩:=zA9.1 ht';have va:v≠a:=fun e=>by rw [e] at hv;exact z5t f hv
  refine ⟨?_,va⟩
  by_cases vb:v=b
  ·rw [vb];exact hVb
  ·exact h.ent t ht v ((zCp va vb).1 hv)
 ·obtain ⟨t,ht,dt,rfl⟩:=zA9.1 ht';exact zUT h f ht dt
 ·obtain ⟨t,ht,dt,rfl⟩:=zA9.1 ht';obtain ⟨u,hu,du,rfl⟩:=zA9.1 hu';exact zUr h f ht hu (fun e=>hne (by rw [e])) dt du h1 h2
 ·obtain ⟨t,ht,dt,rfl⟩:=zA9.1 ht';obtain ⟨u,hu,du,rfl⟩:=zA9.1 hu';have htu:t≠u:=fun e=>hne (by rw [e]);have hdt:=zUT h f ht dt
  have all: ∀ w,z8 (phT a b t) w->z8 (phT a b u) w:=fun w hw=>by
   rcases hw with e|e|e<;>rw [<- e]
   ·exact hh.1
   ·exact hh.2.1
   ·exact hh.2.2
  by_cases hb:z8 (phT a b t) b
  ·-- x, p, q
   obtain ⟨w0,hw0⟩:=zRY hb;have wv:=jN hw0;have wne:=zNw hdt hw0;obtain ⟨q,q1,q2,q3,_⟩:=zH6 hdt wne hb wv.2;have w0a:w0≠a:=fun e=>by have k:=wv.2;rw [e] at k;exact z5t f k
   have qa:q≠a:=fun e=>by rw [e] at q3;exact z5t f q3
   have tp:=(zCp (a:=a) (b:=b) w0a wne.symm).1 wv.2;have tq:=(zCp (a:=a) (b:=b) qa q1).1 q3;have up:=(zCp (a:=a) (b:=b) w0a wne.symm).1 (all _ wv.2);have uq:=(zCp (a:=a) (b:=b) qa q1).1 (all _ q3);have tx:=(zJk f).1 hb;have ux:=(zJk f).1 (all _ hb)
   have fin: ∀ {x y:P3},x∈l->y∈l->z8 x a->z8 y b->z8 x w0->z8 x q->z8 y w0->z8 y q->False:=fun {x y} hx hy xa yb xp xq yp yq =>
    f.tetra w0 q q2.symm w0a wne.symm qa q1 ⟨x,hx,xa,xp,xq⟩ ⟨y,hy,yb,yp,yq⟩ (f.com w0 w0a wne.symm ⟨x,hx,xa,xp⟩ ⟨y,hy,yb,yp⟩) (f.com q qa q1 ⟨x,hx,xa,xq⟩ ⟨y,hy,yb,yq⟩)
   rcases tx with e|e<;>rcases ux with e'|e'
   ·exact htu (h.same ht hu w0a.symm qa.symm q2.symm e tp tq e' up uq)
   ·exact fin ht hu e e' tp tq up uq
   ·exact fin hu ht e' e up uq tp tq
   ·exact htu (h.same ht hu wne q1.symm q2.symm e tp tq e' up uq)
  ·have nb: ∀ w,z8 t w->w≠a/\w≠b:=fun w hw=>⟨fun e=>hb ((zJk f).2 (.inl (by rw [<- e];exact hw))),fun e=>hb ((zJk f).2 (.inr (by rw [<- e];exact hw)))⟩
   have key: ∀ w,z8 t w->z8 u w:=fun w hw=>by
    obtain ⟨wa,wb⟩:=nb w hw;exact (zCp wa wb).1 (all w ((zCp wa wb).2 hw))
   exact h.mir t ht u hu htu ⟨key _ (.inl rfl),key _ (.inr (.inl rfl)),key _ (.inr (.inr rfl))⟩
 ·obtain ⟨hV,va⟩:=hv
  by_cases vb:v=b
  ·subst vb;obtain ⟨t0,h0,a0,b0⟩:=f.near;obtain ⟨z,z1,z2,z3,_⟩:=zH6 (h.deg t0 h0) f.ne a0 b0;obtain ⟨u,hu,du,_,k⟩:=zTa h f h0 a0 b0 z1 z2 z3;exact ⟨_,zA9.2 ⟨u,hu,du,rfl⟩,(zJk f).2 k⟩
  ·obtain ⟨t,ht,tv⟩:=h.use v hV
   by_cases dt:z8 t a/\z8 t b
   ·obtain ⟨u,hu,du,uv,_⟩:=zTa h f ht dt.1 dt.2 va vb tv;exact ⟨_,zA9.2 ⟨u,hu,du,rfl⟩,(zCp va vb).2 uv⟩
   ·exact ⟨_,zA9.2 ⟨t,ht,dt,rfl⟩,(zCp va vb).2 tv⟩
 ·obtain ⟨hV,va⟩:=hv
  by_cases vb:v=b
  ·subst vb;exact zWP h f hVa hVb
  ·exact z4y h f hV va vb
end
end S1
namespace S1
inductive zJ5 (A:Nat->Nat->Prop):Nat->Nat->Prop
 | refl (t:Nat):zJ5 A t t
 | step {t u w:Nat} :zJ5 A t u->A u w->zJ5 A t w
theorem zJ5.trans {A:Nat->Nat->Prop} {t u w:Nat} (h:zJ5 A t u) (k:zJ5 A u w):zJ5 A t w:=by
 induction k with
 | refl=>exact h
 | step _ a ih=>exact .step ih a
theorem zJ5.symm {A:Nat->Nat->Prop} (hs: ∀ t u,A t u->A u t) {t u:Nat} (h:zJ5 A t u):zJ5 A u t:=by
 induction h with
 | refl=>exact .refl _
 | step _ a ih=>exact zJ5.trans (.step (.refl _) (hs _ _ a)) ih
theorem zJ5.mono {A B:Nat->Nat->Prop} (h: ∀ t u,A t u->B t u) {t u:Nat} (k:zJ5 A t u):zJ5 B t u:=by
 induction k with
 | refl=>exact .refl _
 | step _ a ih=>exact .step ih (h _ _ a)
def Adj (x:yI.T) (i j:Nat):Prop:= ∃ c,j6 x c=true/\(c / 3).toNat=i/\0<=zAI x c/\(zAI x c / 3).toNat=j
theorem Full.opp_opp {x:yI.T} (g:Full x) {c:Int} (h:0<=zAI x c):zAI x (zAI x c)=c:=by
 obtain ⟨h1,h2,h3⟩:=g.opp h;exact g.opp_is h1 (by rw [h3])
theorem Full.adj_symm {x:yI.T} (g:Full x) {i j:Nat} (h:Adj x i j):Adj x j i:=by
 obtain ⟨c,h1,h2,h3,h4⟩:=h;exact ⟨zAI x c,(g.opp h3).2.1,h4,by rw [g.opp_opp h3];exact (yH.1 h1).1,by rw [g.opp_opp h3];exact h2⟩
theorem zNu {x:yI.T} (g:Good x) {i j:Nat} (h:Adj x i j):i<x.1.2.length/\j<x.1.2.length:=by
 obtain ⟨c,h1,h2,h3,h4⟩:=h;exact ⟨by rw [<- h2];exact (zAw h1).1,by rw [<- h4];exact (zAw (g.opp h3).2.1).1⟩
abbrev lb (l:List Int) (t:Nat):Int:=l.getD t 0
theorem zHF {l:List Int} {i t:Nat} {k:Int} (hi:i<l.length):lb (l.set i k) t=if i=t then k else lb l t:=by
 unfold lb;rw [gdE,zbQ,gdE];split
 ·rfl
 ·rfl
structure Lab (x:yI.T) (out:List Int) (n:Int):Prop where
 len:out.length=x.1.2.length
 lt: ∀ t,t<x.1.2.length->lb out t<n
 clo: ∀ t u,Adj x t u->0<=lb out t->lb out u=lb out t
 con: ∀ t u,t<x.1.2.length->u<x.1.2.length->0<=lb out t->lb out t=lb out u->zJ5 (Adj x) t u
structure Bf (x:yI.T) (o0:List Int) (n:Int) (f:Nat) (s:OS):Prop where
 len:s.1.length=x.1.2.length
 old: ∀ t,t<x.1.2.length->lb s.1 t=lb o0 t\/(lb s.1 t=n/\lb o0 t<0)
 q: ∀ t,t<x.1.2.length->lb s.1 t=n->(t:Int)∈s.2
 qn: ∀ t∈s.2,0<=t/\t.toNat<x.1.2.length/\lb s.1 t.toNat=n
 con: ∀ t∈s.2,zJ5 (Adj x) f t.toNat
theorem z57 {x:yI.T} (g:Full x) {o0:List Int} {n:Int} {f:Nat} (hn:0<=n) (ho: ∀ t,t<x.1.2.length->lb o0 t<n) {j:Nat} {s:OS} (h:Bf x o0 n f s) (hj:j<s.2.length) (c:Nat) (hc:c<3) :
 Bf x o0 n f (ofC x n j s c)/\(ofC x n j s c).2.getD j 0=s.2.getD j 0/\(∀ t,t<x.1.2.length->0<=lb s.1 t->lb (ofC x n j s c).1 t=lb s.1 t)/\(s.2.length<=(ofC x n j s c).2.length)/\
 (0<=zAI x (3*s.2.getD j 0+c)->0<=lb (ofC x n j s c).1 (zAI x (3*s.2.getD j 0+c) / 3).toNat)/\(∀ i,i<s.2.length->(ofC x n j s c).2.getD i 0=s.2.getD i 0):=by
 unfold ofC;split
 ·rename_i hh;obtain ⟨h1,h2⟩:=hh;obtain ⟨k1,k2,_⟩:=g.opp h1;have hm:s.2.getD j 0∈s.2:=jB hj;obtain ⟨q1,q2,q3⟩:=h.qn _ hm;have hu:=zAw k2;have ho':=yH.1 k2;have hu1:=hu.1
  have happ: ∀ i,i<s.2.length->(s.2++[zAI x (3*s.2.getD j 0+c) / 3]).getD i 0=s.2.getD i 0:=fun i hi=>by
   rw [gdE,zbD hi,<- gdE]
  have hadj:Adj x (s.2.getD j 0).toNat (zAI x (3*s.2.getD j 0+c) / 3).toNat:=⟨_,k1,by omega,h1,rfl⟩;refine ⟨⟨by show (s.1.set _ _).length=_;rw [zbY];exact h.len,fun t ht=> ?_,fun t ht e=> ?_,fun t ht=> ?_,fun t ht=> ?_⟩,happ j hj,fun t ht h0=> ?_,by show _<=(s.2++[_]).length;rw [zN];omega,fun _=> ?_,happ⟩
  ·show lb (s.1.set _ n) t=_\/(lb (s.1.set _ n) t=_/\_);rw [zHF (by rw [h.len];exact hu1)];split
   ·rename_i e;refine .inr ⟨rfl,?_⟩;rcases h.old t ht with e2|e2
    ·rw [<- e2,<- e];exact h2
    ·exact e2.2
   ·exact h.old t ht
  ·have e:lb (s.1.set (zAI x (3*s.2.getD j 0+c) / 3).toNat n) t=n:=e;show (t:Int)∈s.2++[_];rw [zHF (by rw [h.len];exact hu1)] at e;split at e
   ·rename_i e2;exact zbg _ (zF.2 (by omega))
   ·exact zb9 _ (h.q t ht e)
  ·have ht:t∈s.2++[_]:=ht;show 0<=t/\t.toNat<_/\lb (s.1.set _ n) t.toNat=n;rw [zHF (by rw [h.len];exact hu1)];rcases yD.1 ht with ht|ht
   ·obtain ⟨a,b,d⟩:=h.qn t ht;refine ⟨a,b,?_⟩;split
    ·rfl
    ·exact d
   ·rw [zF] at ht;refine ⟨by omega,by rw [ht];exact hu1,?_⟩;rw [if_pos (by rw [ht])]
  ·have ht:t∈s.2++[_]:=ht;rcases yD.1 ht with ht|ht
   ·exact h.con t ht
   ·rw [zF.1 ht];exact .step (h.con _ hm) hadj
  ·show lb (s.1.set _ n) t=_;rw [zHF (by rw [h.len];exact hu1),if_neg (fun e=>by rw [<- e] at h0;have:lb s.1 (zAI x (3*s.2.getD j 0+c) / 3).toNat<0:=h2;omega)]
  ·show 0<=lb (s.1.set _ n) _;rw [zHF (by rw [h.len];exact hu1),if_pos rfl];exact hn
 ·rename_i hh
  exact ⟨h,rfl,fun _ _ _=>rfl,zI _,fun h0=>by
   by_cases e:s.1.getD (zAI x (3*s.2.getD j 0+c) / 3).toNat 0<0
   ·exact absurd ⟨h0,e⟩ hh
   ·show 0<=s.1.getD _ 0;omega,fun _ _=>rfl⟩
def Seen (x:yI.T) (s:OS) (j:Nat):Prop:= ∀ i,i<j->∀ u,Adj x (s.2.getD i 0).toNat u->0<=lb s.1 u
theorem z9w {x:yI.T} (g:Full x) {o0:List Int} {n:Int} {f:Nat} (hn:0<=n) (ho: ∀ t,t<x.1.2.length->lb o0 t<n) {j:Nat} {s:OS} (h:Bf x o0 n f s) (hj:j<s.2.length) (hs:Seen x s j) :
 Bf x o0 n f (ofJ x n s j)/\Seen x (ofJ x n s j) (j+1)/\s.2.length<=(ofJ x n s j).2.length:=by
 have key: ∀ c,c<=3->Bf x o0 n f (qA (ofC x n j) s c)/\(qA (ofC x n j) s c).2.getD j 0=s.2.getD j 0/\(∀ t,t<x.1.2.length->0<=lb s.1 t->0<=lb (qA (ofC x n j) s c).1 t)/\s.2.length<=(qA (ofC x n j) s c).2.length/\
  (∀ d:Nat,d<c->0<=zAI x (3*s.2.getD j 0+d)->0<=lb (qA (ofC x n j) s c).1 (zAI x (3*s.2.getD j 0+d) / 3).toNat)/\(∀ i,i<s.2.length->(qA (ofC x n j) s c).2.getD i 0=s.2.getD i 0):=by
  intro c
  induction c with
  | zero=>exact fun _=>⟨h,rfl,fun _ _ h=>h,zI _,fun d hd=>by omega,fun _ _=>rfl⟩
  | succ c ih =>
    intro hc;obtain ⟨i1,i2,i3,i4,i5,i6⟩:=ih (by omega);obtain ⟨b1,b2,b3,b4,b5,b6⟩:=z57 g hn ho (j:=j) i1 (Nat.lt_of_lt_of_le hj i4) c (by omega);rw [zVW];rw [i2] at b2 b5;refine ⟨b1,b2,fun t ht h0=> ?_,by omega,fun d hd h0=> ?_,fun i hi=>by rw [b6 i (by omega),i6 i hi]⟩
    ·have:=i3 t ht h0;rw [b3 t ht this];exact this
    ·have hlt:=(zAw (g.opp h0).2.1).1
     by_cases e:d=c
     ·subst e;exact b5 h0
     ·have:=i5 d (by omega) h0;rw [b3 _ hlt this];exact this
 obtain ⟨i1,i2,i3,i4,i5,i6⟩:=key 3 (zI _);unfold ofJ;refine ⟨i1,fun i hi u hu=> ?_,i4⟩;rw [i6 i (by omega)] at hu
 by_cases e:i=j
 ·subst e;obtain ⟨c,c1,c2,c3,c4⟩:=hu;have hq:=h.qn _ (jB hj);have hc:=yH.1 c1;have e:c=3*s.2.getD i 0+((c % 3).toNat:Nat):=by omega
  rw [<- c4,e];exact i5 (c % 3).toNat (by omega) (by rw [<- e];exact c3)
 ·exact i3 u (zNu g.toGood hu).2 (hs i (by omega) u hu)
theorem z2J {x:yI.T} (g:Full x) {o0:List Int} {n:Int} {f:Nat} (hn:0<=n) (ho: ∀ t,t<x.1.2.length->lb o0 t<n): ∀ (k j:Nat) {s:OS},Bf x o0 n f s->OOk x.1.2.length s->j<=s.2.length->Seen x s j->x.1.2.length<k+j->
 Bf x o0 n f (bfs x n k j s)/\Seen x (bfs x n k j s) (bfs x n k j s).2.length
 | 0,j,s,h,ok,hj,hs,hk=>by
   have:=ok.cnt;omega
 | k +1,j,s,h,ok,hj,hs,hk=>by
   unfold bfs;split
   ·rename_i hlt;obtain ⟨b1,b2,b3⟩:=z9w g hn ho h hlt hs;exact z2J g hn ho k (j+1) b1 (zVI g.toGood hn ok) (by omega) b2 (by omega)
   ·have e:s.2.length=j:=by omega
    exact ⟨h,by rw [e];exact hs⟩
theorem zZj {x:yI.T} (g:Full x) {out:List Int} {n:Int} (hn:0<=n) (h:Lab x out n) {i:Nat} (hi:i<x.1.2.length) (hl: ¬ lb out i>=0) :
 Lab x (bfs x n 10000 0 (out.set i n,[(i:Int)])).1 (n+1)/\lb (bfs x n 10000 0 (out.set i n,[(i:Int)])).1 i=n/\(∀ t,t<x.1.2.length->0<=lb out t->lb (bfs x n 10000 0 (out.set i n,[(i:Int)])).1 t=lb out t)/\
 ∀ t,t<x.1.2.length->lb (bfs x n 10000 0 (out.set i n,[(i:Int)])).1 t=lb out t\/(lb (bfs x n 10000 0 (out.set i n,[(i:Int)])).1 t=n/\lb out t<0):=by
 have hlen:x.1.2.length<=8192:=g.fit.2.2.1
 have h0:Bf x out n i (out.set i n,[(i:Int)]):=by
  refine ⟨by rw [zbY];exact h.len,fun t ht=> ?_,fun t ht e=> ?_,fun t ht=> ?_,fun t ht=> ?_⟩
  ·show lb (out.set i n) t=_\/(lb (out.set i n) t=n/\_);rw [zHF (by rw [h.len];exact hi)];split
   ·rename_i e;subst e;exact .inr ⟨rfl,by omega⟩
   ·exact .inl rfl
  ·have e:lb (out.set i n) t=n:=e;rw [zHF (by rw [h.len];exact hi)] at e;split at e
   ·rename_i e2;exact zF.2 (by omega)
   ·have:=h.lt t ht;omega
  ·rw [zF.1 ht];refine ⟨by omega,by omega,?_⟩;show lb (out.set i n) _=n;rw [zHF (by rw [h.len];exact hi),if_pos (by omega)]
  ·rw [zF.1 ht];exact .refl _
 obtain ⟨b,hs⟩:=z2J g hn h.lt 10000 0 h0 (zM4 hn h.len hi hl) (zbH _) (fun i hi=>by omega) (by omega)
 have hin : (i:Int)∈(bfs x n 10000 0 (out.set i n,[(i:Int)])).2:=by
  have key: ∀ (k j:Nat) (s:OS),(i:Int)∈s.2->(i:Int)∈(bfs x n k j s).2:=fun k=>by
   induction k with
   | zero=>exact fun j s h=>(by unfold bfs;exact h)
   | succ k ih =>
     intro j s hm;unfold bfs;split
     ·refine ih _ _ ?_
      have: ∀ c,(i:Int)∈(qA (ofC x n j) s c).2:=fun c=>by
       induction c with
       | zero=>exact hm
       | succ c ih2 =>
         rw [zVW];generalize qA (ofC x n j) s c=S at ih2;unfold ofC;split
         ·exact zb9 _ ih2
         ·exact ih2
      unfold ofJ;exact this 3
     ·exact hm
  exact key _ _ _ (zF.2 rfl)
 generalize bfs x n 10000 0 (out.set i n,[(i:Int)])=s at *
 have hold: ∀ t,t<x.1.2.length->0<=lb out t->lb s.1 t=lb out t:=fun t ht h0=>by
  rcases b.old t ht with e|e
  ·exact e
  ·omega
 refine ⟨⟨b.len,fun t ht=> ?_,fun t u ha h0=> ?_,fun t u ht hu h0 e=> ?_⟩,(b.qn _ hin).2.2,hold,b.old⟩
 ·rcases b.old t ht with e|e
  ·rw [e];have:=h.lt t ht;omega
  ·rw [e.1];omega
 ·obtain ⟨ht,hu⟩:=zNu g.toGood ha;rcases b.old t ht with e|e
  ·rw [e] at h0 ⊢;have k:=h.clo t u ha h0;rw [hold u hu (by rw [k];exact h0)];exact k
  ·obtain ⟨idx,hidx,e2⟩:=yG.1 (b.q t ht e.1);have hsu:0<=lb s.1 u:=hs idx hidx u (by rw [gdE,gE hidx];show Adj x (s.2[idx]).toNat u;rw [e2];exact ha);rcases b.old u hu with k|k
   ·rw [k] at hsu;have:=h.clo u t (g.adj_symm ha) hsu;omega
   ·rw [k.1,e.1]
 ·rcases b.old t ht with k|k
  ·rw [k] at h0 e;rcases b.old u hu with k2|k2
   ·rw [k2] at e;exact h.con t u ht hu h0 e
   ·have:=h.lt t ht;omega
  ·rw [k.1] at e;have c1:=b.con _ (b.q t ht k.1);have c2:=b.con _ (b.q u hu e.symm);exact zJ5.trans (c1.symm fun _ _=>g.adj_symm) c2
theorem zYG {x:yI.T} (g:Full x): ∀ i,i<=x.1.2.length->Lab x (ofL x i).1 (ofL x i).2/\0<=(ofL x i).2/\∀ t,t<i->0<=lb (ofL x i).1 t
 | 0,_=>by
   have e: ∀ t,t<x.1.2.length->lb (ofL x 0).1 t= -1:=fun t ht=>by
    show (List.replicate x.1.2.length (-1:Int)).getD t 0= -1;rw [gdE,zbI,if_pos ht];rfl
   refine ⟨⟨zbc,fun t ht=> ?_,fun t u ha h0=> ?_,fun t u ht hu h0=> ?_⟩,Int.le_refl 0,fun t ht=>by omega⟩
   ·rw [e t ht];show (-1:Int)<0;decide
   ·rw [e t (zNu g.toGood ha).1] at h0;omega
   ·rw [e t ht] at h0;omega
 | i + 1,hi=>by
   obtain ⟨h1,h2,h3⟩:=zYG g i (by omega);show Lab x (ofI x (ofL x i) i).1 (ofI x (ofL x i) i).2/\0<=(ofI x (ofL x i) i).2/\∀ t,t<i+1->0<=lb (ofI x (ofL x i) i).1 t;unfold ofI;split
   ·rename_i h;refine ⟨h1,h2,fun t ht=> ?_⟩
    by_cases e:t=i
    ·subst e;exact h
    ·exact h3 t (by omega)
   ·rename_i h;obtain ⟨k1,k2,k3,_⟩:=zZj g h2 h1 (by omega) h;refine ⟨k1,by show 0<=(ofL x i).2+1;omega,fun t ht=> ?_⟩
    by_cases e:t=i
    ·subst e;show 0<=lb (bfs x _ _ _ _).1 t;rw [k2];exact h2
    ·show 0<=lb (bfs x _ _ _ _).1 t;rw [k3 t (by omega) (h3 t (by omega))];exact h3 t (by omega)
theorem zGP {x:yI.T} (g:Full x) {t u:Nat} (ht:t<x.1.2.length) (hu:u<x.1.2.length):(ofR x).getD t 0=(ofR x).getD u 0↔zJ5 (Adj x) t u:=by
 obtain ⟨h1,h2,h3⟩:=zYG g x.1.2.length (zI _);constructor
 ·exact fun e=>h1.con t u ht hu (h3 t ht) e
 ·intro h;clear hu
  induction h with
  | refl=>rfl
  | step _ a ih =>
    have hb:=(zNu g.toGood a).1;rw [ih];exact (h1.clo _ _ a (h3 _ hb)).symm
end S1
