/- A part of the proofs of the laws. -/
import Derived.Test.YtbfghjbhfgbdnaaT0toVmInl
import Derived.Test.YtbfghjbhfgbdnaaT5toT22
set_option linter.unusedSimpArgs false
set_option linter.unusedVariables false
set_option maxHeartbeats 8000000
set_option maxRecDepth 100000
open Go.Proofs.Try
open Go Go.Vm Go.Proofs
namespace S1
theorem zTJ: ∀ (ks l:List Int),ks.Nodup->(∀ x∈ks,x∈l)->l.length<=ks.length->∀ x∈l,x∈ks
 | [],l,_,_,hl,x,hx=>by
   have:l=[]:=zDD.1 (Nat.le_zero.1 hl);subst this;cases hx
 | a::r,l,hd,hs,hl,x,hx=>by
   have hd:=yQ.1 hd;have ha:=hs a (zQ ..);have hle:(l.erase a).length=l.length - 1:=List.length_erase_of_mem ha;have ih:=zTJ r (l.erase a) hd.2 (fun y hy=>(List.mem_erase_of_ne (fun e=>hd.1 (by rw [<- e];exact hy))).2 (hs y (zM _ hy))) (by rw [hle];simp only [zZ] at hl;omega)
   by_cases e:x=a
   ·rw [e];exact zQ ..
   ·exact zM _ (ih x ((List.mem_erase_of_ne e).2 hx))
theorem zTH (t:P3) {k:Nat} (h:k<3):(trl t).getD k 0∈trl t:=zA5 (by simpa [trl] using h)
def zXw (l:List P3) (v:Int) (tris:List Int) (m:zCj):Prop:= ∀ w,∀ x∈zBL m w,x∈tris/\w∈trl (tri l x)/\w≠v
theorem z1e {l:List P3} {v i:Int} {tris:List Int} {m:zCj} {k:Nat} (hi:i∈tris) (hk:k<3) (h:zXw l v tris m):zXw l v tris (enW v i (tri l i) m k):=by
 intro w x hx;unfold enW at hx;split at hx
 ·exact h w x hx
 ·rename_i hn;rw [zEN] at hx;split at hx
  ·rename_i e;subst e;rw [zY,zD] at hx;rcases hx with hx|hx
   ·exact h _ x hx
   ·rw [hx];exact ⟨hi,zTH _ hk,hn⟩
  ·exact h w x hx
theorem zXT (l:List P3) (v:Int) (tris:List Int):zXw l v tris (enA l v tris tris.length) :=
 zAK (n:=tris.length) (fun _ (m:zCj)=>zXw l v tris m) (fun w x hx=>by simp [zBL,zA3] at hx) (fun j m hj h =>
  zAK (n:=3) (fun _ (m:zCj)=>zXw l v tris m) h (fun k m hk h=>z1e (zA5 hj) hk h) 3 (zI _)) _ (zI _)
def zFR (m:ReM):List Int:=m.map Prod.fst
theorem zIV (k:Int): ∀ m:ReM,(∀ x,x∈zFR (zAg (.int .i64) m k true)->x=k\/x∈zFR m)/\((zFR m).Nodup->(zFR (zAg (.int .i64) m k true)).Nodup)
 | []=>⟨fun x h=>by simpa [zFR,zAg] using h,fun _=>by simp [zFR,zAg]⟩
 | (a, b)::r=>by
   obtain ⟨h1,h2⟩:=zIV k r;simp only [zAg];split
   ·rename_i e;refine ⟨fun x h=> ?_,fun h=> ?_⟩
    ·exact .inr h
    ·exact h
   ·rename_i e _;refine ⟨fun x h=> ?_,fun h=> ?_⟩
    ·rcases zP.1 h with h|h
     ·exact .inr (by rw [h];exact zQ ..)
     ·rcases h1 x h with h|h
      ·exact .inl h
      ·exact .inr (zM _ h)
    ·have h:=yQ.1 h;refine yQ.2 ⟨fun hm=> ?_,h2 h.2⟩;rcases h1 a hm with hm|hm
     ·exact e hm
     ·exact h.1 hm
structure zX2 (tris:List Int) (Q:Int->Prop) (S:TgS):Prop where
 q: ∀ x∈S.2.1,x∈tris/\Q x
 k: ∀ x∈zFR S.2.2,x∈tris/\Q x
 nd:(zFR S.2.2).Nodup
theorem z1M {tris av:List Int} {Q:Int->Prop} {S:TgS} {j:Nat} (h:zX2 tris Q S) (ha:av.getD j 0∈tris/\Q (av.getD j 0)):zX2 tris Q (vis av S j):=by
 unfold vis;split
 ·exact h
 ·refine ⟨fun x hx=> ?_,fun x hx=> ?_,(zIV _ _).2 h.nd⟩
  ·rcases zY.1 hx with hx|hx
   ·exact h.q x (zAE hx)
   ·rw [zD.1 hx];exact ha
  ·rcases (zIV _ _).1 x hx with hx|hx
   ·rw [hx];exact ha
   ·exact h.k x hx
theorem z0m {l:List P3} {v i:Int} {tris:List Int} {Q:Int->Prop} {E:zCj} (hE:zXw l v tris E) (hc: ∀ i∈tris,∀ j∈tris,(∃ w,w≠v/\w∈trl (tri l i)/\w∈trl (tri l j))->Q i->Q j)
 (hi:i∈tris/\Q i) {S:TgS} (h:zX2 tris Q S):zX2 tris Q (jE (tgW E v (tri l i)) S 3) :=
 zAK (n:=3) (fun _ (S:TgS)=>zX2 tris Q S) h (fun k S hk h=>by
  unfold tgW;split
  ·exact h
  ·rename_i hn
   exact zAK (n:=(zBL E ((trl (tri l i)).getD k 0)).length) (fun _ (S:TgS)=>zX2 tris Q S) h (fun j S hj h=>by
    have:=hE _ _ (zA5 hj)
    exact z1M h ⟨this.1,hc i hi.1 _ this.1 ⟨_,this.2.2,zTH _ hk,this.2.1⟩ hi.2⟩) _ (zI _)) 3 (zI _)
theorem zXL {l:List P3} {v x0:Int} {tris:List Int} {Q:Int->Prop} {E:zCj} (hE:zXw l v tris E) (hc: ∀ i∈tris,∀ j∈tris,(∃ w,w≠v/\w∈trl (tri l i)/\w∈trl (tri l j))->Q i->Q j)
 (h0:x0∈tris/\Q x0) (r:Nat):zX2 tris Q (tgS E l v x0 r) :=
 zAK (n:=r) (fun _ (S:TgS)=>zX2 tris Q S) ⟨fun x hx=>by rw [zD.1 hx];exact h0,fun x hx=>by rw [zD.1 hx];exact h0,(by show [x0].Nodup;exact yQ.2 ⟨by simp,qW⟩)⟩ (fun j S _ h=>by
  unfold tgR;split
  ·rename_i hs;exact z0m hE hc (h.q _ (zA5 hs)) (S:=(S.1+1,S.2.1,S.2.2)) ⟨h.q,h.k,h.nd⟩
  ·exact h) r (zI _)
theorem zZk {l:List P3} {v:Int} {tris:List Int} (ht:tris≠[]) (h:zRI l v tris=true) (Q:Int->Prop) (h0:Q (tris.getD 0 0))
 (hc: ∀ i∈tris,∀ j∈tris,(∃ w,w≠v/\w∈trl (tri l i)/\w∈trl (tri l j))->Q i->Q j): ∀ i∈tris,Q i:=by
 have hm:tris.getD 0 0∈tris:=zA5 (zAR.2 ht);have k:=zXL (x0:=tris.getD 0 0) (zXT l v tris) hc ⟨hm,h0⟩ (2*tris.length+2);unfold zRI at h;have h:=eq_of_beq h;intro i hi;refine (k.k i (zTJ _ tris k.nd (fun x hx=>(k.k x hx).1) ?_ i hi)).2;unfold zFR;rw [z2];omega
end S1
namespace S1
theorem zOg {s:List (List Int)} {w:Int} {j v:Nat} {x:Int} (hw:0<=w) (hv:v<s.length):x∈(atP s w j).getD v []↔x∈s.getD v []\/(x=j/\w=v):=by
 rw [zBq];split
 ·rename_i h;rw [zY,zD];have:w=v:=by omega
  simp [this]
 ·rename_i h;have: ¬ w=v:=fun e=>h ⟨by omega,hv⟩;simp [this]
theorem zKR {n:Nat} {l:List P3} (hl: ∀ j,j<l.length->0<=(l.getD j (0,0,0)).1/\0<=(l.getD j (0,0,0)).2.1/\0<=(l.getD j (0,0,0)).2.2) {v:Nat} (hv:v<n) :
 ∀ i,i<=l.length->∀ x:Int,x∈(atF n l i).getD v []↔∃ j:Nat,j<i/\x=j/\zV (l.getD j (0,0,0)) v
 | 0,_,x=>by
   have e:(atF n l 0).getD v []=[]:=by
    show (List.replicate n ([]:List Int)).getD v []=[];rw [gdE,yU];split<;>rfl
   rw [e];exact ⟨fun h=>(by cases h),fun ⟨j,h,_⟩=>(by omega)⟩
 | i + 1,hi,x=>by
   have ih:=zKR hl hv i (by omega) x;have hlen:(atF n l i).length=n:=(zP8 n l i).1;obtain ⟨h1,h2,h3⟩:=hl i (by omega);show x∈(at3 (atF n l i) (l.getD i (0,0,0)) i).getD v []↔_;unfold at3;rw [zOg h3 (by rw [zFH,zFH,hlen];exact hv),zOg h2 (by rw [zFH,hlen];exact hv),zOg h1 (by rw [hlen];exact hv),ih];constructor
   ·rintro (((⟨j,a,b,c⟩|⟨b,c⟩)|⟨b,c⟩)|⟨b,c⟩)
    ·exact ⟨j,by omega,b,c⟩
    ·exact ⟨i,by omega,b,.inl c⟩
    ·exact ⟨i,by omega,b,.inr (.inl c)⟩
    ·exact ⟨i,by omega,b,.inr (.inr c)⟩
   ·rintro ⟨j,a,b,c⟩
    by_cases e:j=i
    ·subst e;rcases c with c|c|c
     ·exact .inl (.inl (.inr ⟨b,c⟩))
     ·exact .inl (.inr ⟨b,c⟩)
     ·exact .inr ⟨b,c⟩
    ·exact .inl (.inl (.inl ⟨j,by omega,b,c⟩))
theorem zNW {t:P3} {v:Int} :v∈trl t↔zV t v:=by
 simp only [trl,zV,zP,zAO,or_false];constructor
 ·rintro (h|h|h)
  ·exact .inl h.symm
  ·exact .inr (.inl h.symm)
  ·exact .inr (.inr h.symm)
 ·rintro (h|h|h)
  ·exact .inl h.symm
  ·exact .inr (.inl h.symm)
  ·exact .inr (.inr h.symm)
theorem zSt {n:Int} {l:List P3} (hp:zSe (n,l)=[]) (hl: ∀ j,j<l.length->0<=(l.getD j (0,0,0)).1/\0<=(l.getD j (0,0,0)).2.1/\0<=(l.getD j (0,0,0)).2.2) {v:Nat} (hv:(v:Int)<n) (Q:Nat->Prop)
 (hc: ∀ i j:Nat,i<l.length->j<l.length->zV (l.getD i (0,0,0)) v->zV (l.getD j (0,0,0)) v->(∃ w:Int,w≠v/\zV (l.getD i (0,0,0)) w/\zV (l.getD j (0,0,0)) w)->Q i->Q j)
 {a:Nat} (ha:a<l.length) (hva:zV (l.getD a (0,0,0)) v) (hQ:Q a): ∀ i,i<l.length->zV (l.getD i (0,0,0)) v->Q i:=by
 have hvn:v<n.toNat:=by omega
 have hm:=zKR (n:=n.toNat) hl hvn l.length (zI _)
 have htog:zRI l v ((atF n.toNat l l.length).getD v [])=true:=by
  have:=jC.1 hp v (zW.2 hvn);unfold piG at this;split at this
  ·assumption
  ·cases this
 have hne:(atF n.toNat l l.length).getD v []≠[]:=zMr n.toNat l hvn l.length ⟨a,ha,hva⟩;have tri_nat: ∀ j:Nat,tri l (j:Int)=l.getD j (0,0,0):=fun j=>rfl
 have key: ∀ R:Nat->Prop,(∀ i j:Nat,i<l.length->j<l.length->zV (l.getD i (0,0,0)) v->zV (l.getD j (0,0,0)) v->(∃ w:Int,w≠v/\zV (l.getD i (0,0,0)) w/\zV (l.getD j (0,0,0)) w)->R i->R j)->
  (∀ x,((atF n.toNat l l.length).getD v []).getD 0 0=((x:Nat):Int)->R x)->∀ i,i<l.length->zV (l.getD i (0,0,0)) v->R i:=fun R hR h0 i hi hvi=>by
  have:=zZk hne htog (fun y=> ∀ j:Nat,y=j->R j) h0 (fun y hy z hz ⟨w,h1,h2,h3⟩ hQy j e=>by
   obtain ⟨a,ha1,ha2,ha3⟩:=(hm y).1 hy;obtain ⟨b,hb1,hb2,hb3⟩:=(hm z).1 hz;have:b=j:=by omega
   subst this;subst ha2;subst hb2;rw [tri_nat,zNW] at h2 h3
   exact hR a b ha1 hb1 ha3 hb3 ⟨w,h1,h2,h3⟩ (hQy a rfl)) i ((hm i).2 ⟨i,hi,rfl,hvi⟩)
  exact this i rfl
 have hz:=(hm _).1 (zA5 (j:=0) (zAR.2 hne));obtain ⟨z,hz1,hz2,hz3⟩:=hz
 by_cases hQz:Q z
 ·exact key Q hc fun x e=>by
   have:x=z:=by omega
   rw [this];exact hQz
 ·have:=key (fun i=> ¬ Q i) (fun i j hi hj h1 h2 ⟨w,h3,h4,h5⟩ hn hq=>hn (hc j i hj hi h2 h1 ⟨w,h3,h5,h4⟩ hq)) (fun x e=>by
   have:x=z:=by omega
   rw [this];exact hQz) a ha hva
  exact absurd hQ this
end S1
namespace S1
theorem zPc (x:Int×List P3): ∀ i,i<=3*x.2.length->∀ c:Int,3*(x.2.length:Int) - i<=c->c<3*(x.2.length:Int)->∃ d,zA3 .arr2 (zGq x i).1 (qX (x,[],[]) c)=some d
 | 0,_,c,h1,h2=>by omega
 | i +1,hi,c,h1,h2=>by
   show ∃ d,zA3 .arr2 (zAg .arr2 (zGq x i).1 (qX (x,[],[]) (3*x.2.length - 1 - i)) (3*x.2.length - 1 - i)) _=some d
   by_cases e:qX (x,[],[]) (3*x.2.length - 1 - i)=qX (x,[],[]) c
   ·rw [e,zAz];exact ⟨_,rfl⟩
   ·rw [zB4 _ e];refine zPc x i (by omega) c ?_ h2;have:c≠3*(x.2.length:Int) - 1 - i:=fun k=>e (by rw [k]);omega
theorem zUj (x:Int×List P3) (hx: ∀ c,0<=yM (x,[],[]) c\/¬ (0<=c/\c<3*(x.2.length:Int))) {v:Nat} (hv:v<x.1.toNat): ∀ i,i<=3*x.2.length->(∃ c:Int,3*(x.2.length:Int) - i<=c/\c<3*(x.2.length:Int)/\yM (x,[],[]) c=v)->
 0<=(zGq x i).2.getD v 0/\(zGq x i).2.getD v 0<3*(x.2.length:Int)/\yM (x,[],[]) ((zGq x i).2.getD v 0)=v
 | 0,_,⟨c,h1,h2,_⟩=>by omega
 | i + 1,hi,⟨c,h1,h2,h3⟩=>by
   show 0<=((zGq x i).2.set (yM (x,[],[]) (3*x.2.length - 1 - i)).toNat (3*x.2.length - 1 - i)).getD v 0/\((zGq x i).2.set (yM (x,[],[]) (3*x.2.length - 1 - i)).toNat (3*x.2.length - 1 - i)).getD v 0<_/\yM (x,[],[]) (((zGq x i).2.set (yM (x,[],[]) (3*x.2.length - 1 - i)).toNat (3*x.2.length - 1 - i)).getD v 0)=v;rw [gdE,qI]
   by_cases e:(yM (x,[],[]) (3*x.2.length - 1 - i)).toNat=v
   ·rw [if_pos e,if_pos (by rw [zGJ];omega)];have:=hx (3*x.2.length - 1 - i);refine ⟨?_,?_,?_⟩
    ·show 0<=3*(x.2.length:Int) - 1 - i;omega
    ·show 3*(x.2.length:Int) - 1 - i<_;omega
    ·show yM (x,[],[]) (3*x.2.length - 1 - i)=v;rcases this with h|h<;>omega
   ·rw [if_neg e,<- gdE];refine zUj x hx hv i (by omega) ⟨c,?_,h2,h3⟩;have:c≠3*(x.2.length:Int) - 1 - i:=fun k=>e (by rw [<- k,h3];rfl);omega
theorem zUl {s:List Bool} {t:P3} {v:Nat} (h:(zLw s t).getD v false=true):s.getD v false=true\/t.1.toNat=v\/t.2.1.toNat=v\/t.2.2.toNat=v:=by
 unfold zLw at h
 by_cases h1:t.1.toNat=v
 ·exact .inr (.inl h1)
 by_cases h2:t.2.1.toNat=v
 ·exact .inr (.inr (.inl h2))
 by_cases h3:t.2.2.toNat=v
 ·exact .inr (.inr (.inr h3))
 simp only [gdE,qI,h1,h2,h3,if_false] at h;rw [gdE];exact .inl h
theorem zLY {n:Nat} {l:List P3} {v:Nat} : ∀ i,(zCq n l i).getD v false=true->∃ j,j<i/\((l.getD j (0,0,0)).1.toNat=v\/(l.getD j (0,0,0)).2.1.toNat=v\/(l.getD j (0,0,0)).2.2.toNat=v)
 | 0,h=>by
   have h:(List.replicate n false).getD v false=true:=h;rw [gdE,yU] at h;split at h<;>cases h
 | i +1,h=>by
   rcases zUl (s:=zCq n l i) h with h|h
   ·obtain ⟨j,a,b⟩:=zLY i h;exact ⟨j,by omega,b⟩
   ·exact ⟨i,by omega,h⟩
theorem zKE {s:Int×List P3} (h:zLo s): ∀ j,j<s.2.length->0<=(s.2.getD j (0,0,0)).1/\0<=(s.2.getD j (0,0,0)).2.1/\0<=(s.2.getD j (0,0,0)).2.2:=fun j hj=>by
 have:=zBF (h.2.2.2 j hj);omega
structure Full (x:zX.T):Prop extends Good x where
 tot: ∀ c,zAX x c=true->zA3 .arr2 x.2.1 (qX x c)=some c
 vtx: ∀ v:Int,0<=v->v<x.1.1->zAX x (yL x v)=true/\yM x (yL x v)=v
 pin: ∀ v:Nat,(v:Int)<x.1.1->∀ Q:Nat->Prop,
  (∀ i j:Nat,i<x.1.2.length->j<x.1.2.length->zV (x.1.2.getD i (0,0,0)) v->zV (x.1.2.getD j (0,0,0)) v->(∃ w:Int,w≠v/\zV (x.1.2.getD i (0,0,0)) w/\zV (x.1.2.getD j (0,0,0)) w)->Q i->Q j)->
  ∀ a,a<x.1.2.length->zV (x.1.2.getD a (0,0,0)) v->Q a->∀ i,i<x.1.2.length->zV (x.1.2.getD i (0,0,0)) v->Q i
theorem zLF {x:zX.T} {j:Nat} {v:Int} (hj:j<x.1.2.length) (h:zV (x.1.2.getD j (0,0,0)) v): ∃ c,zAX x c=true/\(c / 3).toNat=j/\yM x c=v:=by
 have key: ∀ k:Int,0<=k->k<3->p3 (x.1.2.getD j (0,0,0)) k=v->∃ c,zAX x c=true/\(c / 3).toNat=j/\yM x c=v:=fun k h1 h2 e=>by
  have hc:0<=3*(j:Int)+k/\3*(j:Int)+k<3*(x.1.2.length:Int):=by omega
  refine ⟨3*j+k,z6.2 hc,by omega,?_⟩;rw [zD2 hc.1 hc.2,show ((3*(j:Int)+k) / 3).toNat=j by omega,show (3*(j:Int)+k) % 3=k by omega];exact e
 rcases h with h|h|h
 ·exact key 0 (by omega) (by omega) h
 ·exact key 1 (by omega) (by omega) h
 ·exact key 2 (by omega) (by omega) h
theorem zBI {x:zX.T} {c:Int} (h:zAX x c=true):(c / 3).toNat<x.1.2.length/\zV (x.1.2.getD (c / 3).toNat (0,0,0)) (yM x c):=by
 have hc:=z6.1 h;refine ⟨by omega,?_⟩;rw [zD2 hc.1 hc.2];have:c % 3=0\/c % 3=1\/c % 3=2:=by omega
 rcases this with e|e|e<;>rw [e]
 ·exact .inl rfl
 ·exact .inr (.inl rfl)
 ·exact .inr (.inr rfl)
theorem zQJ {s:Int×List P3} (h:(zL5 s).1=0):Full (jO s):=by
 have hc:=zOW h;have g:=zPs hc;have hw:=zE4 (zL9 h);refine {g with tot:=fun c hc=> ?_,vtx:=fun v h1 h2=> ?_,pin:=fun v hv Q hQ a ha1 ha2 ha3=> ?_}
 ·have i0:=z6.1 hc;have i0:0<=c/\c<3*(s.2.length:Int):=i0;obtain ⟨d,hd⟩:=zPc s _ (zI _) c (by omega) i0.2;have hd:zA3 .arr2 (jO s).2.1 (qX (jO s) c)=some d:=hd;obtain ⟨k1,k2⟩:=g.map _ _ hd;rw [hd,g.uniq _ _ k1 hc k2]
 ·have hl:zHL s=[]:=hw _ (by simp);have h2:v<s.1:=h2;have hv:v.toNat<s.1.toNat:=by omega
  have:=jC.1 hl v.toNat (zW.2 hv);unfold loG at this;split at this
  case isFalse=>cases this
  rename_i ht;obtain ⟨j,hj,e⟩:=zLY _ ht;have nn:=zKE hc.fit j hj
  obtain ⟨c,c1,c2,c3⟩:=zLF (x:=jO s) (v:=v) hj (by
   show (s.2.getD j (0,0,0)).1=v\/(s.2.getD j (0,0,0)).2.1=v\/(s.2.getD j (0,0,0)).2.2=v
   omega)
  have c1:=z6.1 c1;have c1:0<=c/\c<3*(s.2.length:Int):=c1
  have hat:=zUj s (fun c=>by
   by_cases h:0<=c/\c<3*(s.2.length:Int)
   ·exact .inl (zAn (x:=(s,[],[])) hc.fit (z6.2 h)).1
   ·exact .inr h) hv _ (zI _) ⟨c,by omega,c1.2,by have:yM (s,[],[]) c=v:=c3;omega⟩
  have e:yL (jO s) v=(zGq s (3*s.2.length)).2.getD v.toNat 0:=by
   unfold yL;rw [if_pos (by show 0<=v/\v<((zGq s _).2.length:Int);rw [zGJ];omega)];rfl
  rw [e];refine ⟨z6.2 ⟨hat.1,hat.2.1⟩,?_⟩;have:=hat.2.2;show yM (s,[],[]) _=v;omega
 ·exact zSt (n:=s.1) (l:=s.2) (hw (zSe s) (by simp)) (zKE hc.fit) hv Q hQ ha1 ha2 ha3
section
variable {x:zX.T} {c d:Int}
theorem np (h:zAX x c=true):jD x (jA x c)=c/\jA x (jD x c)=c/\jD x (jD x c)=jA x c/\jA x (jA x c)=jD x c:=by
 have h1:=zA2 h;rw [zAw h1.1,zAw h1.2,zBe h1.1,zBe h1.2,zAw h,zBe h];unfold trn;omega
theorem zMX (h:zAX x c=true):qX x (jD x c)=(yM x (jA x c),yM x c):=by
 unfold qX;rw [(np h).2.2.1,(np h).2.1]
theorem zMC (h:zAX x c=true):qX x (jA x c)=(yM x c,yM x (jD x c)):=by
 unfold qX;rw [(np h).1,(np h).2.2.2]
theorem Good.ne (g:Good x) (h:zAX x c=true):yM x c≠yM x (jD x c)/\yM x c≠yM x (jA x c)/\yM x (jD x c)≠yM x (jA x c):=by
 have h1:=g.ends _ (zA2 h).1;have h2:=g.ends _ (zA2 h).2;have h3:=g.ends _ h;rw [zMX h] at h1;rw [zMC h] at h2;exact ⟨h2,fun e=>h1 e.symm,h3⟩
theorem Good.same (g:Good x) (hc:zAX x c=true) (hd:zAX x d=true) (h1:yM x c=yM x d) (h2:yM x (jD x c)=yM x (jD x d)):c=d:=by
 have:=g.uniq _ _ (zA2 hc).2 (zA2 hd).2 (by rw [zMC hc,zMC hd,h1,h2]);rw [<- (np hc).1,<- (np hd).1,this]
theorem Good.sameP (g:Good x) (hc:zAX x c=true) (hd:zAX x d=true) (h1:yM x c=yM x d) (h2:yM x (jA x c)=yM x (jA x d)):c=d:=by
 have:=g.uniq _ _ (zA2 hc).1 (zA2 hd).1 (by rw [zMX hc,zMX hd,h1,h2]);rw [<- (np hc).2.1,<- (np hd).2.1,this]
theorem Good.after_v (g:Good x) (h:0<=yI x c):yM x (yI x c)=yM x c/\yM x (jD x (yI x c))=yM x (jA x c):=by
 obtain ⟨h1,h2,h3⟩:=g.after_has h;obtain ⟨k1,k2,k3⟩:=g.opp h3;rw [zMX h1] at k3;have e:yI x c=jD x (zAY x (jD x c)):=by unfold yI;rw [if_neg (by omega)]
 rw [e,(np k2).2.2.1];exact ⟨congrArg Prod.fst k3,congrArg Prod.snd k3⟩
theorem Good.before_v (g:Good x) (h:0<=z8 x c):yM x (z8 x c)=yM x c/\yM x (jA x (z8 x c))=yM x (jD x c):=by
 obtain ⟨h1,h2,h3⟩:=g.before_has h;obtain ⟨k1,k2,k3⟩:=g.opp h3;rw [zMC h1] at k3;have e:z8 x c=jA x (zAY x (jA x c)):=by unfold z8;rw [if_neg (by omega)]
 rw [e,(np k2).2.2.2];exact ⟨congrArg Prod.snd k3,congrArg Prod.fst k3⟩
theorem Full.facing (g:Full x) (h:zAX x d=true):qM x (qX x d)=d:=by
 unfold qM;rw [g.tot d h];rfl
theorem Full.opp_is (g:Full x) (hd:zAX x d=true) (h:qX x d=((qX x c).2,(qX x c).1)):zAY x c=d:=by
 unfold zAY;rw [<- h];exact g.facing hd
theorem Full.after_is (g:Full x) (hc:zAX x c=true) (hd:zAX x d=true) (h1:yM x d=yM x c) (h2:yM x (jD x d)=yM x (jA x c)):yI x c=d:=by
 have e:zAY x (jD x c)=jA x d:=g.opp_is (zA2 hd).2 (by rw [zMC hd,zMX hc,h1,h2]);have:=z6.1 (zA2 hd).2;unfold yI;rw [if_neg (by rw [e];omega),e,(np hd).1]
theorem Full.before_is (g:Full x) (hc:zAX x c=true) (hd:zAX x d=true) (h1:yM x d=yM x c) (h2:yM x (jA x d)=yM x (jD x c)):z8 x c=d:=by
 have e:zAY x (jA x c)=jD x d:=g.opp_is (zA2 hd).1 (by rw [zMX hd,zMC hc,h1,h2]);have:=z6.1 (zA2 hd).1;unfold z8;rw [if_neg (by rw [e];omega),e,(np hd).2.1]
theorem Full.before_after (g:Full x) (h:0<=yI x c):z8 x (yI x c)=c:=by
 obtain ⟨h1,h2,_⟩:=g.after_has h;have:=g.after_v h;exact g.before_is h2 h1 this.1.symm this.2.symm
theorem Full.after_before (g:Full x) (h:0<=z8 x c):yI x (z8 x c)=c:=by
 obtain ⟨h1,h2,_⟩:=g.before_has h;have:=g.before_v h;exact g.after_is h2 h1 this.1.symm this.2.symm
end
theorem zHj {x:zX.T} (g:Good x) {b:Int} : ∀ n k,k+n=30000->zRF (yI x) b k->∀ y∈zAA x b n (iter (yI x) b k),yI x y<0\/yI x y=b\/yI x y∈zAA x b n (iter (yI x) b k)
 | 0,k,e,h,y,hy=>by have:=zBT g h;omega
 | n + 1,k,e,h,y,hy=>by
   unfold zAA at hy ⊢
   by_cases h1:yI x (iter (yI x) b k)<0
   ·rw [if_pos h1] at hy;rw [zD.1 hy];exact .inl h1
   ·rw [if_neg h1] at hy ⊢
    by_cases h2:yI x (iter (yI x) b k)=b
    ·rw [if_pos h2] at hy;rw [zD.1 hy];exact .inr (.inl h2)
    ·rw [if_neg h2] at hy ⊢
     have hn:iter (yI x) b (k+1)∈zAA x b n (iter (yI x) b (k+1)):=by
      obtain ⟨m,rfl⟩: ∃ m,n=m+1:=⟨n - 1,by have:=zBT g (h.succ h1 h2);omega⟩;unfold zAA;exact zQ ..
     rcases zP.1 hy with hy|hy
     ·rw [hy];exact .inr (.inr (zM _ hn))
     ·rcases zHj g n (k+1) (by omega) (h.succ h1 h2) y hy with h|h|h
      ·exact .inl h
      ·exact .inr (.inl h)
      ·exact .inr (.inr (zM _ h))
theorem zCe {x:zX.T} {b:Int} (P:Int->Prop) (hs: ∀ c,P c->0<=yI x c->P (yI x c)): ∀ n c,P c->∀ y∈zAA x b n c,P y
 | 0,c,_,y,hy=>by cases hy
 | n + 1,c,h,y,hy=>by
   unfold zAA at hy;split at hy
   ·rw [zD.1 hy];exact h
   ·split at hy
    ·rw [zD.1 hy];exact h
    ·rcases zP.1 hy with hy|hy
     ·rw [hy];exact h
     ·exact zCe P hs n _ (hs c h (by omega)) y hy
theorem zHn {x:zX.T} (g:Good x) {c0:Int} : ∀ n k,k+n=30000->zRF (z8 x) c0 k->∃ m,zRF (z8 x) c0 m/\
 ((zDH x c0 n (iter (z8 x) c0 k)=(iter (z8 x) c0 m,true)/\z8 x (iter (z8 x) c0 m)<0)\/(zDH x c0 n (iter (z8 x) c0 k)=(c0,false)/\z8 x (iter (z8 x) c0 m)=c0))
 | 0,k,e,h=>by have:=zJv g h;omega
 | n + 1,k,e,h=>by
   unfold zDH
   by_cases h1:z8 x (iter (z8 x) c0 k)<0
   ·rw [if_pos h1];exact ⟨k,h,.inl ⟨rfl,h1⟩⟩
   ·rw [if_neg h1]
    by_cases h2:z8 x (iter (z8 x) c0 k)=c0
    ·rw [if_pos h2];exact ⟨k,h,.inr ⟨rfl,h2⟩⟩
    ·rw [if_neg h2];exact zHn g n (k+1) (by omega) (h.succ h1 h2)
theorem zMf {x:zX.T} {v:Int} :zCD x v=true↔0<=v/\v<x.1.1/\0<=yL x v:=by
 simp only [zCD,zA,zF]
theorem Full.there {x:zX.T} (g:Full x) {v:Int} (h0:0<=v) (h1:v<x.1.1):zCD x v=true :=
 zMf.2 ⟨h0,h1,(z6.1 (g.vtx v h0 h1).1).1⟩
theorem Full.around {x:zX.T} (g:Full x) {v:Int} (h0:0<=v) (h1:v<x.1.1) :
 ∃ b,(zAc x v).1=b/\yZ (some x) v=zAA x b 30000 b/\zAX x b=true/\yM x b=v/\b∈yZ (some x) v/\(∀ y∈yZ (some x) v,zAX x y=true/\yM x y=v)/\
 (∀ y∈yZ (some x) v,0<=yI x y->yI x y∈yZ (some x) v)/\(∀ y∈yZ (some x) v,0<=z8 x y->z8 x y∈yZ (some x) v)/\
 (((zAc x v).2=true/\z8 x b<0)\/((zAc x v).2=false/\∀ y∈yZ (some x) v,0<=yI x y)):=by
 obtain ⟨k1,k2⟩:=g.vtx v h0 h1;have e:=zE3 (x:=x) h0 h1 (z6.1 k1).1;obtain ⟨m,hm,hend⟩:=zHn g.toGood (c0:=yL x v) 30000 0 (by omega) (fun j a b=>by omega);have hend:(zAc x v=(iter (z8 x) (yL x v) m,true)/\z8 x (iter (z8 x) (yL x v) m)<0)\/(zAc x v=(yL x v,false)/\z8 x (iter (z8 x) (yL x v) m)=yL x v):=hend
 have itok: ∀ j,j<=m->zAX x (iter (z8 x) (yL x v) j)=true/\yM x (iter (z8 x) (yL x v) j)=v:=fun j=>by
  induction j with
  | zero=>exact fun _=>⟨k1,k2⟩
  | succ j ih =>
    intro hj;have hp:0<=z8 x (iter (z8 x) (yL x v) j):=(hm (j+1) (by omega) hj).1;exact ⟨(g.before_has hp).2.1,(g.before_v hp).1.trans (ih (by omega)).2⟩
 have hb:zAX x (zAc x v).1=true/\yM x (zAc x v).1=v:=by
  rcases hend with ⟨h,_⟩|⟨h,_⟩
  ·rw [h];exact itok m (zI _)
  ·rw [h];exact ⟨k1,k2⟩
 have hin:(zAc x v).1∈yZ (some x) v:=by rw [e];unfold zAA;exact zQ ..
 have hall: ∀ y∈yZ (some x) v,zAX x y=true/\yM x y=v:=by
  rw [e];exact zCe _ (fun c hc ha=>⟨(g.after_has ha).2.1,(g.after_v ha).1.trans hc.2⟩) _ _ hb
 have haft: ∀ y∈yZ (some x) v,0<=yI x y->yI x y∈yZ (some x) v:=fun y hy ha=>by
  rw [e] at hy;rcases zHj g.toGood 30000 0 rfl (fun j a b=>by omega) y hy with h|h|h
  ·omega
  ·rw [h];exact hin
  ·rw [e];exact h
 have hcyc:(zAc x v).2=false->∀ y∈yZ (some x) v,0<=yI x y/\∃ j,j<=m/\y=iter (z8 x) (yL x v) j:=fun hf=>by
  rcases hend with ⟨h,_⟩|⟨h,hr⟩
  ·rw [h] at hf;cases hf
  ·have key: ∀ j,j<=m->0<=yI x (iter (z8 x) (yL x v) j)/\∃ i,i<=m/\yI x (iter (z8 x) (yL x v) j)=iter (z8 x) (yL x v) i:=fun j hj=>by
    cases j with
    | zero =>
      have h0:0<=yL x v:=(z6.1 k1).1;have:=g.after_before (c:=iter (z8 x) (yL x v) m) (by rw [hr];exact h0);rw [hr] at this;show 0<=yI x (yL x v)/\∃ i,i<=m/\yI x (yL x v)=_;rw [this];exact ⟨(z6.1 (itok m (zI _)).1).1,m,zI _,rfl⟩
    | succ j =>
      have hp:0<=z8 x (iter (z8 x) (yL x v) j):=(hm (j+1) (by omega) hj).1;have:yI x (iter (z8 x) (yL x v) (j+1))=iter (z8 x) (yL x v) j:=g.after_before hp;rw [this];exact ⟨(z6.1 (itok j (by omega)).1).1,j,by omega,rfl⟩
   have: ∀ y∈yZ (some x) v,∃ j,j<=m/\y=iter (z8 x) (yL x v) j:=by
    rw [e];refine zCe _ (fun c ⟨j,hj,hc⟩ _=> ?_) _ _ ⟨0,by omega,by rw [h];rfl⟩;obtain ⟨_,i,hi,e⟩:=key j hj;exact ⟨i,hi,by rw [hc];exact e⟩
   intro y hy;obtain ⟨j,hj,ej⟩:=this y hy;exact ⟨by rw [ej];exact (key j hj).1,j,hj,ej⟩
 have hbef : ∀ y∈yZ (some x) v,0<=z8 x y->z8 x y∈yZ (some x) v:=by
  have hP : ∀ y∈yZ (some x) v,(0<=z8 x y->z8 x y∈yZ (some x) v):=by
   intro y hy
   have:y∈yZ (some x) v/\(0<=z8 x y->z8 x y∈yZ (some x) v):=by
    have hy2:=hy;rw [e] at hy2;refine zCe (fun y=>y∈yZ (some x) v/\(0<=z8 x y->z8 x y∈yZ (some x) v)) (fun c ⟨hc,_⟩ ha=>⟨haft c hc ha,fun _=>by rw [g.before_after ha];exact hc⟩) _ _ ⟨hin,fun hp=> ?_⟩ y hy2;rcases hend with ⟨h,hn⟩|⟨h,hr⟩
    ·rw [h] at hp;exact absurd hp (by show ¬ 0<=z8 x (iter (z8 x) (yL x v) m);omega)
    ·-- the walk forward: some round its end is the first again
     have hc:=hcyc (by rw [h])
     have hz:z8 x (yL x v)∈yZ (some x) v:=by
      -- each iterate is in it
      have back: ∀ i j,j+i=m->iter (z8 x) (yL x v) j∈yZ (some x) v:=fun i=>by
       induction i with
       | zero =>
         intro j hj;have hj:j=m:=by omega
         subst hj;have h0:0<=yL x v:=(z6.1 k1).1;have e1:=g.after_before (c:=iter (z8 x) (yL x v) j) (by rw [hr];exact h0);rw [hr] at e1;have:=haft (yL x v) (by rw [h] at hin;exact hin) (by rw [e1];exact (z6.1 (itok j (zI _)).1).1);rw [e1] at this;exact this
       | succ i ih =>
         intro j hj;have h2:=ih (j+1) (by omega);have hp:0<=z8 x (iter (z8 x) (yL x v) j):=(hm (j+1) (by omega) (by omega)).1;have e1:yI x (iter (z8 x) (yL x v) (j+1))=iter (z8 x) (yL x v) j:=g.after_before hp;have:=haft _ h2 (by rw [e1];exact (z6.1 (itok j (by omega)).1).1);rw [e1] at this;exact this
      by_cases hm0:m=0
      ·subst hm0;have hr:z8 x (yL x v)=yL x v:=hr;rw [hr];rw [h] at hin;exact hin
      ·exact back (m - 1) 1 (by omega)
     rw [h];exact hz
   exact this.2
  exact hP
 refine ⟨_,rfl,e,hb.1,hb.2,hin,hall,haft,hbef,?_⟩;rcases hend with ⟨h,hn⟩|⟨h,hr⟩
 ·exact .inl ⟨by rw [h],by rw [h];exact hn⟩
 ·exact .inr ⟨by rw [h],fun y hy=>(hcyc (by rw [h]) y hy).1⟩
theorem Full.around_all {x:zX.T} (g:Full x) {c:Int} (hc:zAX x c=true):c∈yZ (some x) (yM x c):=by
 have hv:=zAn g.fit hc;obtain ⟨b,_,_,hb1,hb2,hb3,hall,haft,hbef,_⟩:=g.around hv.1 hv.2;obtain ⟨v,hv2⟩: ∃ v:Nat,yM x c=v:=⟨(yM x c).toNat,by omega⟩;rw [hv2] at hall haft hbef hb2 hb3 ⊢;have hn:(v:Int)<x.1.1:=by omega
 have tb:=zBI hb1;have tc:=zBI hc;rw [hb2] at tb;rw [hv2] at tc
 have hQ:=g.pin v hn (fun i=> ∃ y∈yZ (some x) v,(y / 3).toNat=i) (fun i j hi hj hvi hvj ⟨w,hw,hwi,hwj⟩ ⟨y,hy,ey⟩=>by
  obtain ⟨hy1,hy2⟩:=hall y hy;obtain ⟨d,d1,d2,d3⟩:=zLF hj hvj
  -- the other vertex, in both
  have two: ∀ {y:Int},zAX x y=true->yM x y=v->zV (x.1.2.getD (y / 3).toNat (0,0,0)) w->w=yM x (jD x y)\/w=yM x (jA x y):=fun {y} h1 h2 h3=>by
   obtain ⟨a,a1,a2,a3⟩:=zLF (zBI h1).1 h3;have i1:=z6.1 h1;have i2:=z6.1 a1
   have:a=y\/a=jD x y\/a=jA x y:=by
    rw [zAw h1,zBe h1];unfold trn;omega
   rcases this with e|e|e
   ·subst e;exact absurd (a3.symm.trans h2) hw
   ·subst e;exact .inl a3.symm
   ·subst e;exact .inr a3.symm
  have wy:=two hy1 hy2 (by rw [ey];exact hwi);have wd:=two d1 d3 (by rw [d2];exact hwj);refine ⟨d,?_,d2⟩;have evd:yM x y=yM x d:=hy2.trans d3.symm;have nn:=(z6.1 d1).1;rcases wy with wy|wy<;>rcases wd with wd|wd
  ·rw [<- g.same hy1 d1 evd (wy.symm.trans wd)];exact hy
  ·have:=g.before_is hy1 d1 evd.symm (wd.symm.trans wy);have h2:=hbef y hy (by rw [this];exact nn);rw [this] at h2;exact h2
  ·have:=g.after_is hy1 d1 evd.symm (wd.symm.trans wy);have h2:=haft y hy (by rw [this];exact nn);rw [this] at h2;exact h2
  ·rw [<- g.sameP hy1 d1 evd (wy.symm.trans wd)];exact hy) _ tb.1 tb.2 ⟨b,hb3,rfl⟩ _ tc.1 tc.2
 obtain ⟨y,hy,ey⟩:=hQ;obtain ⟨hy1,hy2⟩:=hall y hy;have i1:=z6.1 hc;have i2:=z6.1 hy1
 have:y=c\/y=jD x c\/y=jA x c:=by
  rw [zAw hc,zBe hc];unfold trn;omega
 have hne:=g.ne hc;rcases this with e|e|e
 ·rw [<- e];exact hy
 ·rw [e] at hy2;exact absurd (hv2.trans hy2.symm) hne.1
 ·rw [e] at hy2;exact absurd (hv2.trans hy2.symm) hne.2.1
end S1
namespace S1
theorem zPD {l:List Int} (h:l.Pairwise (·<=·)):zBg l=l:=by
 unfold zBg;exact List.mergeSort_of_pairwise (h.imp fun h=>by simpa using h)
theorem zG1 (l:List Int):(zBg l).Perm l:=by unfold zBg;exact List.mergeSort_perm _ _
theorem zGz (l:List Int):(zBg l).Pairwise (·<=·):=by
 have:=List.pairwise_mergeSort (le:=fun x y:Int=>decide (x<=y)) (fun a b c h1 h2=>by simp at *;omega) (fun a b=>by simp;omega) l;unfold zBg;exact this.imp fun h=>by simpa using h
theorem zM1 {l m:List Int} (hp:l.Perm m) (h1:l.Pairwise (·<=·)) (h2:m.Pairwise (·<=·)):l=m :=
 hp.eq_of_pairwise (fun a b _ _ h1 h2=>by omega) h1 h2
def zQD (a b c:Int):List Int:=if a<=b then (if b<=c then [a,b,c] else if a<=c then [a,c,b] else [c,a,b]) else (if a<=c then [b,a,c] else if b<=c then [b,c,a] else [c,b,a])
theorem zZw (a b c:Int):zBg [a,b,c]=zQD a b c:=by
 refine zM1 ((zG1 _).trans ?_) (zGz _) ?_
 ·unfold zQD
  repeat' split
  ·exact .refl _
  ·exact .cons _ (.swap ..)
  ·exact (List.Perm.cons _ (.swap ..)).trans (.swap ..)
  ·exact .swap ..
  ·exact (List.Perm.swap ..).trans (.cons _ (.swap ..))
  ·exact ((List.Perm.swap ..).trans (.cons _ (.swap ..))).trans (.swap ..)
 ·unfold zQD
  repeat' split
  all_goals simp;omega
def zN1 (t:P3):List P3:=[((zQD t.1 t.2.1 t.2.2).getD 0 0,(zQD t.1 t.2.1 t.2.2).getD 1 0,(zQD t.1 t.2.1 t.2.2).getD 2 0)]
theorem zTG:zDo=zN1:=by
 funext t
 unfold zDo zN1 s3;rw [zZw]
def zXx (s:Int×List P3):List Wit:=zDG [zBk s,dgL s.2 s.2.length,(prS qV 3 s.2 s.2.length).2.2,(prS zN1 4 s.2 s.2.length).2.2,zHL s,zSe s]
theorem zYd (s:Int×List P3):allR s=zXx s:=by unfold allR zXx;rw [zTG]
def zRW (s:Int×List P3):Wit:=(zXx s).headD (0,0,0)
theorem zZV (s:Int×List P3):zL5 s=zRW s:=by unfold zL5 zRW;rw [zYd]
theorem zIg {s:Int×List P3} (h:(zRW s).1=0):zF0 s=some (jO s):=by unfold zF0;rw [if_pos (by rw [zZV];exact h)]
end S1
namespace S1
abbrev tg (l:List P3) (i:Nat):P3:=l.getD i (0,0,0)
def dE (t:P3) (a b:Int):Prop:=(t.1=a/\t.2.1=b)\/(t.2.1=a/\t.2.2=b)\/(t.2.2=a/\t.1=b)
def dgn (t:P3):Prop:=t.1=t.2.1\/t.2.1=t.2.2\/t.2.2=t.1
def z2J (l:List P3) (v:Int):Prop:= ∀ Q:Nat->Prop,
    (∀ i j:Nat,i<l.length->j<l.length->zV (tg l i) v->zV (tg l j) v->(∃ w:Int,w≠v/\zV (tg l i) w/\zV (tg l j) w)->Q i->Q j)->
    ∀ a,a<l.length->zV (tg l a) v->Q a->∀ i,i<l.length->zV (tg l i) v->Q i
structure zJh (s:Int×List P3):Prop where
 fit:zLo s
 deg: ∀ i,i<s.2.length->¬ dgn (tg s.2 i)
 dif: ∀ i j,i<j->j<s.2.length->∀ a b,dE (tg s.2 i) a b->¬ dE (tg s.2 j) a b
 mir: ∀ i j,i<j->j<s.2.length->¬ (zV (tg s.2 j) (tg s.2 i).1/\zV (tg s.2 j) (tg s.2 i).2.1/\zV (tg s.2 j) (tg s.2 i).2.2)
 use: ∀ v:Nat,(v:Int)<s.1->∃ j,j<s.2.length/\zV (tg s.2 j) v
 pin: ∀ v:Nat,(v:Int)<s.1->z2J s.2 v
def keys (kp:P3->List P3) (l:List P3) (i:Nat):List P3:=(l.take i).flatMap kp
theorem zMj (kp:P3->List P3) {l:List P3} {i:Nat} (h:i<l.length):keys kp l (i+1)=keys kp l i++kp (tg l i):=by
 unfold keys tg;rw [yJ h,List.flatMap_append,gdE,gE h];simp
structure KFw (pre:List P3) (s:zHu×PS):Prop where
 seen:s.2.1=[]
 nd:pre.Nodup
 had: ∀ k∈pre,zAb s.1 k≠[]
theorem zWd {kind:Int} {i m:Nat} {ks pre:List P3} {s:zHu×PS} (h:s.2.2=[]->KFw pre s) (h2:(prK kind i ks s m).2.2=[]):s.2.2=[]/\KFw (pre++[ks.getD m (0,0,0)]) (prK kind i ks s m):=by
 have h3:=zI9 h2;have h0:s.2.2=[]:=by rw [<- h3.1];exact h2
 have u:=h h0
 have he:zAb s.1 (ks.getD m (0,0,0))=[]:=by
  cases e:zAb s.1 (ks.getD m (0,0,0)) with
  | nil=>rfl
  | cons a r =>
    have:=h3.2 0 (by rw [e];simp);rw [u.seen] at this;cases this
 refine ⟨h0,(congrArg Prod.fst h3.1).trans u.seen,?_,fun k hk=> ?_⟩
 ·rw [List.nodup_append];refine ⟨u.nd,yQ.2 ⟨by simp,qW⟩,fun a ha b hb e=> ?_⟩;rw [zD] at hb;subst hb;subst e;exact u.had _ ha he
 ·show zAb (zAg .arr3 s.1 (ks.getD m (0,0,0)) (zAb s.1 (ks.getD m (0,0,0))++[(i:Int)])) k≠[];rw [zEK];split
  ·simp
  ·rename_i hne;rcases zY.1 hk with hk|hk
   ·exact u.had k hk
   ·rw [zD] at hk;exact absurd hk.symm hne
theorem zLj {kind:Int} {i:Nat} {ks pre:List P3} {s:zHu×PS} (h:s.2.2=[]->KFw pre s): ∀ m,m<=ks.length->(jE (prK kind i ks) s m).2.2=[]->KFw (pre++ks.take m) (jE (prK kind i ks) s m)
 | 0,_,h2=>by rw [List.take_zero,yW];exact h h2
 | m+1,hm,h2=>by
   have:=(zWd (kind:=kind) (i:=i) (m:=m) (ks:=ks) (fun h'=>zLj h m (by omega) h') h2).2;rw [zHR] at this;rw [yJ (by omega)];rw [gdE,gE (by omega)] at this;exact this
theorem zT5 (kp:P3->List P3) (kind:Int) (l:List P3): ∀ i,i<=l.length->(prS kp kind l i).2.2=[]->KFw (keys kp l i) (prS kp kind l i)
 | 0,_,_=>⟨rfl,qW,fun k h=>(by cases h)⟩
 | i+1,hi,h=>by
   have h:(jE (prK kind i (kp (tg l i))) (prS kp kind l i) (kp (tg l i)).length).2.2=[]:=h;have:=zLj (kind:=kind) (i:=i) (ks:=kp (tg l i)) (fun h'=>zT5 kp kind l i (by omega) h') _ (zI _) h;rw [qJ] at this;rw [zMj kp (by omega)];exact this
structure KBw (pre:List P3) (s:zHu×PS):Prop where
 z:s.2=([],[])
 had: ∀ k,zAb s.1 k≠[]->k∈pre
theorem zMN {kind:Int} {i:Nat} {ks pre:List P3} {s:zHu×PS} (h:KBw pre s) (hn:(pre++ks).Nodup): ∀ m,m<=ks.length->KBw (pre++ks.take m) (jE (prK kind i ks) s m)
 | 0,_=>by rw [List.take_zero,yW];exact h
 | m + 1,hm=>by
   have ih:=zMN (kind:=kind) (i:=i) h hn m (by omega)
   have e1:ks.take (m+1)=ks.take m++[ks.getD m (0,0,0)]:=by
    rw [yJ (by omega),gdE,gE (by omega)];rfl
   have hnew:ks.getD m (0,0,0)∉pre++ks.take m:=by
    have h2:(pre++ks.take (m+1)).Nodup:=by
     have:(pre++ks.take (m+1)).Sublist (pre++ks):=List.Sublist.append (List.Sublist.refl _) (List.take_sublist _ _);exact this.nodup hn
    rw [e1,<- zHR,List.nodup_append] at h2;exact fun hm=>h2.2.2 _ hm _ (zD.2 rfl) rfl
   have he:zAb (jE (prK kind i ks) s m).1 (ks.getD m (0,0,0))=[]:=by
    by_cases e:zAb (jE (prK kind i ks) s m).1 (ks.getD m (0,0,0))=[]
    ·exact e
    ·exact absurd (ih.had _ e) hnew
   refine ⟨?_,fun k hk=> ?_⟩
   ·show jE (prA kind i (zAb (jE (prK kind i ks) s m).1 (ks.getD m (0,0,0)))) (jE (prK kind i ks) s m).2 (zAb (jE (prK kind i ks) s m).1 (ks.getD m (0,0,0))).length=_;rw [he];exact ih.z
   ·have hk:zAb (zAg .arr3 (jE (prK kind i ks) s m).1 (ks.getD m (0,0,0)) (zAb (jE (prK kind i ks) s m).1 (ks.getD m (0,0,0))++[(i:Int)])) k≠[]:=hk;rw [zEK] at hk;rw [e1,<- zHR];split at hk
    ·rename_i e;subst e;exact zA7 _ (zD.2 rfl)
    ·exact zAF _ (ih.had k hk)
theorem zUb (kp:P3->List P3) (kind:Int) (l:List P3) (hn:(keys kp l l.length).Nodup): ∀ i,i<=l.length->KBw (keys kp l i) (prS kp kind l i)
 | 0,_=>⟨rfl,fun k h=>absurd rfl h⟩
 | i + 1,hi=>by
   have ih:=zUb kp kind l hn i (by omega)
   have hn2:(keys kp l (i+1)).Nodup:=by
    have:(keys kp l (i+1)).Sublist (keys kp l l.length):=by
     unfold keys;have e:l.flatMap kp=(l.take (i+1)).flatMap kp++(l.drop (i+1)).flatMap kp:=by rw [<- List.flatMap_append,zAU]
     rw [qJ,e];exact List.sublist_append_left _ _
    exact this.nodup hn
   rw [zMj kp (by omega)] at hn2 ⊢;have:=zMN (kind:=kind) (i:=i) (ks:=kp (tg l i)) ih hn2 _ (zI _);rw [qJ] at this;exact this
theorem zUQ (kp:P3->List P3) (kind:Int) (l:List P3):(prS kp kind l l.length).2.2=[]↔(l.flatMap kp).Nodup:=by
 have e:keys kp l l.length=l.flatMap kp:=by unfold keys;rw [qJ]
 constructor
 ·intro h;have:=(zT5 kp kind l _ (zI _) h).nd;rw [e] at this;exact this
 ·intro h;rw [<- e] at h;rw [(zUb kp kind l h _ (zI _)).z]
theorem zJg (kp:P3->List P3) (l:List P3):(l.flatMap kp).Nodup↔(∀ i,i<l.length->(kp (tg l i)).Nodup)/\∀ i j,i<j->j<l.length->∀ a∈kp (tg l i),a∉kp (tg l j):=by
 unfold List.Nodup;rw [List.pairwise_flatMap,List.pairwise_iff_getElem];have g: ∀ i (h:i<l.length),tg l i=l[i]:=fun i h=>by unfold tg;rw [gdE,gE h];rfl
 constructor
 ·rintro ⟨h1,h2⟩;refine ⟨fun i hi=>by rw [g i hi];exact h1 _ (y6 hi),fun i j hij hj a ha hb=> ?_⟩;rw [g i (by omega)] at ha;rw [g j hj] at hb;exact h2 i j (by omega) hj hij a ha a hb rfl
 ·rintro ⟨h1,h2⟩;refine ⟨fun t ht=> ?_,fun i j hi hj hij a ha b hb e=> ?_⟩
  ·obtain ⟨i,hi,e⟩:=yG.1 ht;have:=h1 i hi;rw [g i hi,e] at this;exact this
  ·subst e;have:=h2 i j hij hj a;rw [g i hi,g j hj] at this;exact this ha hb
theorem zEl (t:P3) (k:P3):k∈qV t↔k.2.2=0/\dE t k.1 k.2.1:=by
 obtain ⟨a,b,c⟩:=k;simp only [qV,dE,zP,zAO,or_false,zB1];constructor
 ·rintro (⟨h1,h2,h3⟩|⟨h1,h2,h3⟩|⟨h1,h2,h3⟩)
  ·exact ⟨h3,.inl ⟨h1.symm,h2.symm⟩⟩
  ·exact ⟨h3,.inr (.inl ⟨h1.symm,h2.symm⟩)⟩
  ·exact ⟨h3,.inr (.inr ⟨h1.symm,h2.symm⟩)⟩
 ·rintro ⟨h3,(⟨h1,h2⟩|⟨h1,h2⟩|⟨h1,h2⟩)⟩
  ·exact .inl ⟨h1.symm,h2.symm,h3⟩
  ·exact .inr (.inl ⟨h1.symm,h2.symm,h3⟩)
  ·exact .inr (.inr ⟨h1.symm,h2.symm,h3⟩)
theorem zMt {l:List P3} (hd: ∀ i,i<l.length->¬ dgn (tg l i)):(prS qV 3 l l.length).2.2=[]↔∀ i j,i<j->j<l.length->∀ a b,dE (tg l i) a b->¬ dE (tg l j) a b:=by
 rw [zUQ,zJg];constructor
 ·rintro ⟨_,h⟩ i j hij hj a b h1 h2;exact h i j hij hj (a,b,0) ((zEl _ _).2 ⟨rfl,h1⟩) ((zEl _ _).2 ⟨rfl,h2⟩)
 ·intro h;refine ⟨fun i hi=> ?_,fun i j hij hj k h1 h2=>h i j hij hj _ _ ((zEl _ _).1 h1).2 ((zEl _ _).1 h2).2⟩;have:=hd i hi;unfold dgn at this;simp only [qV,yQ,zP,zAO,or_false,zB1,not_false_eq_true,qW,and_true,true_and];refine ⟨?_,?_⟩<;>omega
theorem zWO {a b c d e f:Int} (h: ¬ (a=b\/b=c\/c=a)) (h': ¬ (d=e\/e=f\/f=d)):zQD a b c=zQD d e f↔((d=a\/e=a\/f=a)/\(d=b\/e=b\/f=b)/\(d=c\/e=c\/f=c)):=by
 unfold zQD;constructor
 ·intro h
  repeat' split at h
  all_goals (simp only [List.cons.injEq,and_true] at h;omega)
 ·intro h
  repeat' split
  all_goals (simp only [List.cons.injEq,and_true];omega)
theorem zOo (a b c:Int):[(zQD a b c).getD 0 0,(zQD a b c).getD 1 0,(zQD a b c).getD 2 0]=zQD a b c:=by
 unfold zQD
 repeat' split
 all_goals rfl
theorem zM9 {t u:P3} (ht: ¬ dgn t) (hu: ¬ dgn u) {k:P3} (h:k∈zN1 t):k∈zN1 u↔(zV u t.1/\zV u t.2.1/\zV u t.2.2):=by
 unfold zN1 at *;rw [zD] at h ⊢;unfold zV;rw [<- zWO ht hu,h];constructor
 ·intro e;rw [<- zOo t.1,<- zOo u.1];simp only [zB1] at e;rw [e.1,e.2.1,e.2.2]
 ·intro e;rw [e]
theorem zUm {l:List P3} (hd: ∀ i,i<l.length->¬ dgn (tg l i)):(prS zDo 4 l l.length).2.2=[]↔∀ i j,i<j->j<l.length->¬ (zV (tg l j) (tg l i).1/\zV (tg l j) (tg l i).2.1/\zV (tg l j) (tg l i).2.2):=by
 rw [zTG,zUQ,zJg];constructor
 ·rintro ⟨_,h⟩ i j hij hj e;have hm:_∈zN1 (tg l i):=zD.2 rfl;exact h i j hij hj _ hm ((zM9 (hd i (by omega)) (hd j hj) hm).2 e)
 ·intro h;refine ⟨fun i hi=>yQ.2 ⟨by simp,qW⟩,fun i j hij hj k h1 h2=>h i j hij hj ((zM9 (hd i (by omega)) (hd j hj) h1).1 h2)⟩
theorem zMB {s:List Bool} {t:P3} {v:Nat} (h:s.getD v false=true\/(v<s.length/\(t.1.toNat=v\/t.2.1.toNat=v\/t.2.2.toNat=v))):(zLw s t).getD v false=true:=by
 unfold zLw;simp only [gdE,qI,qZ];rcases h with h|⟨hl,h⟩
 ·rw [gdE] at h
  have hl:v<s.length:=by
   rcases Nat.lt_or_ge v s.length with h'|h'
   ·exact h'
   ·rw [zBx h'] at h;cases h
  rw [gE hl] at h
  repeat' split
  all_goals first|rfl|omega|(rw [gE hl];exact h)
 ·repeat' split
  all_goals first|rfl|omega
theorem zPe {n:Nat} {l:List P3} {v:Nat} (hv:v<n): ∀ i,(∃ j,j<i/\((tg l j).1.toNat=v\/(tg l j).2.1.toNat=v\/(tg l j).2.2.toNat=v))->(zCq n l i).getD v false=true
 | 0,⟨j,hj,_⟩=>by omega
 | i+1,⟨j,hj,h⟩=>by
   show (zLw (zCq n l i) (tg l i)).getD v false=true
   by_cases e:j=i
   ·subst e;exact zMB (.inr ⟨by rw [zKF];exact hv,h⟩)
   ·exact zMB (.inl (zPe hv i ⟨j,by omega,h⟩))
theorem zP7 {s:Int×List P3} (hf:zLo s):zHL s=[]↔∀ v:Nat,(v:Int)<s.1->∃ j,j<s.2.length/\zV (tg s.2 j) v:=by
 have nn:=zKE hf;unfold zHL loL;rw [jC];constructor
 ·intro h v hv;have:=h v (zW.2 (by omega));unfold loG at this;split at this
  case isFalse=>cases this
  rename_i ht;obtain ⟨j,hj,e⟩:=zLY _ ht;have:=nn j hj;exact ⟨j,hj,by show (s.2.getD j (0,0,0)).1=v\/(s.2.getD j (0,0,0)).2.1=v\/(s.2.getD j (0,0,0)).2.2=v;omega⟩
 ·intro h v hv;have hv:=zW.1 hv;obtain ⟨j,hj,e⟩:=h v (by omega);have e:(s.2.getD j (0,0,0)).1=v\/(s.2.getD j (0,0,0)).2.1=v\/(s.2.getD j (0,0,0)).2.2=v:=e;unfold loG
  rw [if_pos (zPe hv _ ⟨j,hj,by
   show (s.2.getD j (0,0,0)).1.toNat=v\/(s.2.getD j (0,0,0)).2.1.toNat=v\/(s.2.getD j (0,0,0)).2.2.toNat=v
   omega⟩)]
theorem zQG {v i:Int} {t:P3} {m:zCj} {k:Nat} {w y:Int} (h:y∈zBL m w):y∈zBL (enW v i t m k) w:=by
 unfold enW;split
 ·exact h
 ·rw [zEN];split
  ·rename_i e;subst e;exact zAF _ h
  ·exact h
theorem zYb {v i:Int} {t:P3} {m:zCj} {k:Nat} (h:(trl t).getD k 0≠v):i∈zBL (enW v i t m k) ((trl t).getD k 0):=by
 unfold enW;rw [if_neg h,zEN,if_pos rfl];exact zA7 _ (zD.2 rfl)
theorem zWR {l:List P3} {v:Int} {tris:List Int} {m:zCj} {j:Nat} {w y:Int} (h:y∈zBL m w):y∈zBL (enT l v tris m j) w :=
 zAK (n:=3) (fun _ (m:zCj)=>y∈zBL m w) h (fun _ _ _ h=>zQG h) 3 (zI _)
theorem zGE {S:Type} {f:S->Nat->S} {s:S} {P:S->Prop} {k:Nat} (hk: ∀ s,P (f s k)) (hs: ∀ s j,P s->P (f s j)): ∀ n,k<n->P (jE f s n)
 | n+1,h=>by
   by_cases e:k=n
   ·subst e;exact hk _
   ·exact hs _ _ (zGE hk hs n (by omega))
theorem zXq {t:P3} {w:Int} (h:w∈trl t): ∃ k,k<3/\(trl t).getD k 0=w:=by
 simp only [trl,zP,zAO,or_false] at h;rcases h with h|h|h
 ·exact ⟨0,by omega,h.symm⟩
 ·exact ⟨1,by omega,h.symm⟩
 ·exact ⟨2,by omega,h.symm⟩
theorem zXy {l:List P3} {v:Int} {tris:List Int} {y w:Int} (hy:y∈tris) (hw:w∈trl (tri l y)) (hn:w≠v):y∈zBL (enA l v tris tris.length) w:=by
 obtain ⟨j,hj,e⟩:=yG.1 hy;have e2:tris.getD j 0=y:=by rw [gdE,gE hj];exact e
 unfold enA;refine zGE (P:=fun m=>y∈zBL m w) (k:=j) (fun m=> ?_) (fun m i h=>zWR h) _ hj;obtain ⟨k,hk,ek⟩:=zXq hw;unfold enT;rw [e2];refine zGE (P:=fun m=>y∈zBL m w) (k:=k) (fun m=> ?_) (fun m i h=>zQG h) 3 hk;have:=zYb (v:=v) (i:=y) (t:=tri l y) (m:=m) (k:=k) (by rw [ek];exact hn);rw [ek] at this;exact this
def Reach (E:zCj) (l:List P3) (v:Int) (S:TgS) (x:Int):Prop:=x∈S.2.1.drop S.1\/∀ w∈trl (tri l x),w≠v->∀ y∈zBL E w,had S.2.2 y=true
theorem zSo {av:List Int} {S:TgS} {j:Nat} {y:Int} (h:had S.2.2 y=true):had (vis av S j).2.2 y=true:=by
 unfold vis;split
 ·exact h
 ·show had (zAg (.int .i64) S.2.2 (av.getD j 0) true) y=true;rw [zFW];split
  ·rfl
  ·exact h
theorem zYr {av:List Int} {S:TgS} {j:Nat} :had (vis av S j).2.2 (av.getD j 0)=true:=by
 unfold vis;split
 ·assumption
 ·show had (zAg (.int .i64) S.2.2 (av.getD j 0) true) _=true;rw [zFW,if_pos rfl]
theorem zXA {av:List Int} {S:TgS} {j:Nat} {y:Int} (h:y∈S.2.1.drop S.1):y∈(vis av S j).2.1.drop (vis av S j).1:=by
 unfold vis;split
 ·exact h
 ·show y∈(S.2.1.drop S.1++[av.getD j 0]).drop 0;rw [j5];exact zAF _ h
theorem zWz {av:List Int} {S:TgS} {j:Nat} {y:Int} (h:had (vis av S j).2.2 y=true):had S.2.2 y=true\/y∈(vis av S j).2.1.drop (vis av S j).1:=by
 unfold vis at *;split at h
 ·exact .inl h
 ·rename_i hn;have h:had (zAg (.int .i64) S.2.2 (av.getD j 0) true) y=true:=h;rw [zFW] at h;rw [if_neg hn];split at h
  ·rename_i e;subst e;refine .inr ?_;show _∈(S.2.1.drop S.1++[av.getD j 0]).drop 0;rw [j5];exact zA7 _ (zD.2 rfl)
  ·exact .inl h
structure zHQ (S T:TgS):Prop where
 had: ∀ y,had S.2.2 y=true->had T.2.2 y=true
 wait: ∀ y,y∈S.2.1.drop S.1->y∈T.2.1.drop T.1
 new: ∀ y,S1.had T.2.2 y=true->S1.had S.2.2 y=true\/y∈T.2.1.drop T.1
theorem zHQ.refl (S:TgS):zHQ S S:=⟨fun _ h=>h,fun _ h=>h,fun _ h=> .inl h⟩
theorem zHQ.trans {S T U:TgS} (h:zHQ S T) (k:zHQ T U):zHQ S U :=
 ⟨fun y e=>k.had y (h.had y e),fun y e=>k.wait y (h.wait y e),fun y e=>by
   rcases k.new y e with e|e
   ·rcases h.new y e with e|e
    ·exact .inl e
    ·exact .inr (k.wait y e)
   ·exact .inr e⟩
theorem zVO {av:List Int} {S:TgS} {j:Nat} :zHQ S (vis av S j):=⟨fun _ h=>zSo h,fun _ h=>zXA h,fun _ h=>zWz h⟩
theorem zSu {av:List Int} {S:TgS} (n:Nat):zHQ S (jE (vis av) S n) :=
 zAK (n:=n) (fun _ (T:TgS)=>zHQ S T) (.refl S) (fun _ _ _ h=>h.trans zVO) n (zI _)
theorem zQC {E:zCj} {v:Int} {t:P3} {S:TgS} {k:Nat} :zHQ S (tgW E v t S k):=by
 unfold tgW;split
 ·exact .refl S
 ·exact zSu _
theorem zLy {E:zCj} {v:Int} {t:P3} {S:TgS} (n:Nat):zHQ S (jE (tgW E v t) S n) :=
 zAK (n:=n) (fun _ (T:TgS)=>zHQ S T) (.refl S) (fun _ _ _ h=>h.trans zQC) n (zI _)
theorem zZy {E:zCj} {v:Int} {t:P3} {S:TgS} {k:Nat} (h:(trl t).getD k 0≠v) {y:Int} (hy:y∈zBL E ((trl t).getD k 0)):had (tgW E v t S k).2.2 y=true:=by
 unfold tgW;rw [if_neg h];obtain ⟨j,hj,e⟩:=yG.1 hy;have e2:(zBL E ((trl t).getD k 0)).getD j 0=y:=by rw [gdE,gE hj];exact e
 refine zGE (P:=fun S:TgS=>had S.2.2 y=true) (k:=j) (fun S=> ?_) (fun _ _ h=>zSo h) _ hj;have:=zYr (av:=zBL E ((trl t).getD k 0)) (S:=S) (j:=j);rw [e2] at this;exact this
def RInv (E:zCj) (l:List P3) (v:Int) (S:TgS):Prop:= ∀ x,had S.2.2 x=true->Reach E l v S x
theorem zYo {E:zCj} {l:List P3} {v:Int} {S:TgS} {r:Nat} (h:RInv E l v S):RInv E l v (tgR E l v S r):=by
 unfold tgR;split
 case isFalse=>exact h
 rename_i hs;have g:=zLy (E:=E) (v:=v) (t:=tri l (S.2.1.getD S.1 0)) (S:=(S.1+1,S.2.1,S.2.2)) 3;intro x hx
 by_cases e:x=S.2.1.getD S.1 0
 ·subst e;refine .inr fun w hw hn y hy=> ?_;obtain ⟨k,hk,ek⟩:=zXq hw;refine zGE (P:=fun S:TgS=>had S.2.2 y=true) (k:=k) (fun S=> ?_) (fun S j h=>zQC.had y h) 3 hk;exact zZy (by rw [ek];exact hn) (by rw [ek];exact hy)
 ·rcases g.new x hx with hx|hx
  ·rcases h x hx with hw|hw
   ·left;refine g.wait x ?_;show x∈S.2.1.drop (S.1+1);rw [List.drop_eq_getElem_cons hs] at hw;rcases zP.1 hw with hw|hw
    ·exact absurd (by rw [hw,gdE,gE hs];rfl) e
    ·exact hw
   ·exact .inr fun w hw' hn y hy=>g.had y (hw w hw' hn y hy)
  ·exact .inl hx
theorem zR8 (E:zCj) (l:List P3) (v x0:Int): ∀ r,RInv E l v (tgS E l v x0 r)
 | 0=>fun x hx=>by
   have hx:had [(x0,true)] x=true:=hx;left;show x∈[x0].drop 0;rw [j5,zD];have:had (zAg (.int .i64) ([]:ReM) x0 true) x=true:=hx;rw [zFW] at this;split at this
   ·rename_i e;exact e.symm
   ·cases this
 | r+1=>zYo (r:=r) (zR8 E l v x0 r)
theorem zPj {E:zCj} {l:List P3} {v x0:Int} {tris:List Int} {c:Nat} (hE:zSi tris c E) (hx:x0∈tris): ∀ r,(tgS E l v x0 r).1<(tgS E l v x0 r).2.1.length->meas tris (tgS E l v x0 r)+r<=tris.length+1
 | 0,_=>zIT
 | r +1,h=>by
   have hok:=(zXs hE (l:=l) (v:=v) hx r).1
   by_cases hs:(tgS E l v x0 r).1<(tgS E l v x0 r).2.1.length
   ·have ih:=zPj (l:=l) (v:=v) hE hx r hs;have:=(zXl (l:=l) (v:=v) (r:=r) hE hok).2.2 hs;have e:tgS E l v x0 (r+1)=tgR E l v (tgS E l v x0 r) r:=rfl;rw [e];omega
   ·rw [zKm hs 1] at h;exact absurd h hs
theorem zSs: ∀ {m:ReM} {x:Int},had m x=true->x∈zFR m
 | [],x,h=>by cases h
 | (a,b)::r,x,h=>by
   unfold had at h;simp only [zA3] at h;unfold zFR;split at h
   ·rename_i e _;exact zP.2 (.inl e.symm)
   ·exact zM _ (zSs h)
theorem zG7: ∀ (ks l:List Int),ks.Nodup->(∀ x∈ks,x∈l)->ks.length<=l.length
 | [],l,_,_=>jB _
 | a::r,l,hd,hs=>by
   have hd:=yQ.1 hd;have ha:=hs a (zQ ..);have ih:=zG7 r (l.erase a) hd.2 (fun y hy=>(List.mem_erase_of_ne (fun e=>hd.1 (by rw [<- e];exact hy))).2 (hs y (zM _ hy)));have hle:(l.erase a).length=l.length - 1:=List.length_erase_of_mem ha;have:=List.length_pos_of_mem ha;simp only [zZ];omega
theorem z0Z {l:List P3} {v:Int} {tris:List Int} (ht:tris≠[]) (hn:tris.Nodup)
 (hc: ∀ Q:Int->Prop,(∀ i∈tris,∀ j∈tris,(∃ w,w≠v/\w∈trl (tri l i)/\w∈trl (tri l j))->Q i->Q j)->Q (tris.getD 0 0)->∀ i∈tris,Q i):zRI l v tris=true:=by
 have hm:tris.getD 0 0∈tris:=zA5 (zAR.2 ht);have hE:=zS1 l v tris tris.length (zI _);have hin:=zXL (l:=l) (v:=v) (x0:=tris.getD 0 0) (zXT l v tris) (Q:=fun _=>True) (fun _ _ _ _ _ _=>trivial) ⟨hm,trivial⟩ (2*tris.length+2);have hR:=zR8 (enA l v tris tris.length) l v (tris.getD 0 0) (2*tris.length+2)
 have hstop: ¬ (tgS (enA l v tris tris.length) l v (tris.getD 0 0) (2*tris.length+2)).1<(tgS (enA l v tris tris.length) l v (tris.getD 0 0) (2*tris.length+2)).2.1.length:=fun h=>by
  have:=zPj (l:=l) (v:=v) hE hm _ h;omega
 have h0:had (tgS (enA l v tris tris.length) l v (tris.getD 0 0) (2*tris.length+2)).2.2 (tris.getD 0 0)=true :=
  zAK (n:=2*tris.length+2) (fun _ (S:TgS)=>had S.2.2 (tris.getD 0 0)=true) (by
   show had (zAg (.int .i64) ([]:ReM) (tris.getD 0 0) true) _=true
   rw [zFW,if_pos rfl]) (fun j S _ h=>by
   unfold tgR;split
   ·exact (zLy 3).had _ h
   ·exact h) _ (zI _)
 unfold zRI;generalize tgS (enA l v tris tris.length) l v (tris.getD 0 0) (2*tris.length+2)=S at *
 have all:=hc (fun i=>had S.2.2 i=true) (fun i hi j hj ⟨w,h1,h2,h3⟩ hq=>by
  rcases hR i hq with h|h
  ·rw [jS (by omega)] at h;cases h
  ·exact h w h2 h1 j (zXy hj h3 h1)) h0
 have hk: ∀ x∈zFR S.2.2,x∈tris:=fun x hx=>(hin.k x hx).1;have l1:=zG7 _ _ hin.nd hk;have l2:=zG7 tris (zFR S.2.2) hn fun x hx=>zSs (all x hx);have e:(zFR S.2.2).length=S.2.2.length:=by unfold zFR;rw [z2]
 rw [e] at l1 l2;have:S.2.2.length=tris.length:=by omega
 rw [this];exact beq_self_eq_true _
theorem zIB {s:List (List Int)} {w:Int} {j v:Nat} (h:(s.getD v []).Nodup/\∀ x∈s.getD v [],x<(j:Int)) (h2:w.toNat=v->∀ x∈s.getD v [],x≠(j:Int)):((atP s w j).getD v []).Nodup:=by
 rw [zBq];split
 ·rename_i e;rw [List.nodup_append];refine ⟨h.1,yQ.2 ⟨by simp,qW⟩,fun a ha b hb=> ?_⟩;rw [zD] at hb;rw [hb];exact h2 e.1 a ha
 ·exact h.1
theorem zLs {n:Nat} {l:List P3} (hl: ∀ j,j<l.length->0<=(tg l j).1/\0<=(tg l j).2.1/\0<=(tg l j).2.2) (hd: ∀ i,i<l.length->¬ dgn (tg l i)) {v:Nat} (hv:v<n): ∀ i,i<=l.length->((atF n l i).getD v []).Nodup
 | 0,_=>by
   have e:(atF n l 0).getD v []=[]:=by
    show (List.replicate n ([]:List Int)).getD v []=[];rw [gdE,yU];split<;>rfl
   rw [e];exact qW
 | i + 1,hi=>by
   have ih:=zLs hl hd hv i (by omega);have hm:=zKR hl hv i (by omega)
   have hlt: ∀ x∈(atF n l i).getD v [],x<(i:Int):=fun x hx=>by
    obtain ⟨j,hj,e,_⟩:=(hm x).1 hx;omega
   obtain ⟨h1,h2,h3⟩:=hl i (by omega);have hdg:=hd i (by omega);unfold dgn at hdg;show ((at3 (atF n l i) (tg l i) i).getD v []).Nodup;unfold at3
   -- at most one of the three is v
   by_cases e1:(tg l i).1.toNat=v
   ·have k2: ¬ (tg l i).2.1.toNat=v:=by omega
    have k3: ¬ (tg l i).2.2.toNat=v:=by omega
    rw [zBq,if_neg (fun h=>k3 h.1),zBq,if_neg (fun h=>k2 h.1)];exact zIB ⟨ih,hlt⟩ fun _ x hx=>by have:=hlt x hx;omega
   ·by_cases e2:(tg l i).2.1.toNat=v
    ·have k3: ¬ (tg l i).2.2.toNat=v:=by omega
     rw [zBq,if_neg (fun h=>k3 h.1)];have e:(atP (atF n l i) (tg l i).1 i).getD v []=(atF n l i).getD v []:=by rw [zBq,if_neg (fun h=>e1 h.1)]
     exact zIB ⟨by rw [e];exact ih,by rw [e];exact hlt⟩ fun _ x hx=>by rw [e] at hx;have:=hlt x hx;omega
    ·have e:(atP (atP (atF n l i) (tg l i).1 i) (tg l i).2.1 i).getD v []=(atF n l i).getD v []:=by rw [zBq,if_neg (fun h=>e2 h.1),zBq,if_neg (fun h=>e1 h.1)]
     exact zIB ⟨by rw [e];exact ih,by rw [e];exact hlt⟩ fun _ x hx=>by rw [e] at hx;have:=hlt x hx;omega
theorem zUe {s:Int×List P3} (hf:zLo s) (hd: ∀ i,i<s.2.length->¬ dgn (tg s.2 i)) (hu: ∀ v:Nat,(v:Int)<s.1->∃ j,j<s.2.length/\zV (tg s.2 j) v):zSe s=[]↔∀ v:Nat,(v:Int)<s.1->z2J s.2 v:=by
 constructor
 ·exact fun h v hv Q hQ a h1 h2 h3=>zSt (n:=s.1) (l:=s.2) h (zKE hf) hv Q hQ h1 h2 h3
 ·intro h;refine jC.2 fun v hv=> ?_;have hv:=zW.1 hv;unfold piG;rw [if_pos ?_];have hm:=zKR (n:=s.1.toNat) (l:=s.2) (zKE hf) hv _ (zI _);refine z0Z (zMr s.1.toNat s.2 hv _ (hu v (by omega))) (zLs (zKE hf) hd hv _ (zI _)) fun Q hQ h0 i hi=> ?_;obtain ⟨j,hj,rfl,hjv⟩:=(hm i).1 hi;have hz:=(hm _).1 (zA5 (j:=0) (zAR.2 (zMr s.1.toNat s.2 hv _ (hu v (by omega)))));obtain ⟨z,hz1,hz2,hz3⟩:=hz;rw [hz2] at h0;refine h v (by omega) (fun k=>Q (k:Int)) (fun a b ha hb hav hbv ⟨w,hw,hwa,hwb⟩ hq=> ?_) z hz1 hz3 h0 j hj hjv
  exact hQ a ((hm a).2 ⟨a,ha,rfl,hav⟩) b ((hm b).2 ⟨b,hb,rfl,hbv⟩) ⟨w,hw,zNW.2 hwa,zNW.2 hwb⟩ hq
theorem zTn {l:List P3} :dgL l l.length=[]↔∀ i,i<l.length->¬ dgn (tg l i):=by
 constructor
 ·exact fun h i hi=>zXh h hi
 ·intro h;refine jC.2 fun i hi=> ?_;have:=h i (zW.1 hi);unfold dgn at this;unfold dgG;rw [if_neg ?_];intro e;unfold zXP at e;simp only [yO,beq_iff_eq] at e;exact this e
theorem zTc {s:Int×List P3} :zBk s=[]↔zLo s:=by
 obtain ⟨n,l⟩:=s;constructor
 ·intro h;exact zFS (by rw [h];simp)
 ·intro h
  have hb:zV3 (n,l)=false:=by
   have h1:0<=n:=h.1;have h2:n<=4096:=h.2.1;have h3:l.length<=8192:=h.2.2.1;unfold zV3;simp only [Bool.or_eq_false_iff,zB0];omega
  unfold zBk;rw [hb];refine jC.2 fun i hi=> ?_;unfold z0P;rw [if_pos (h.2.2.2 i (zW.1 hi))]
theorem zSd (s:Int×List P3):allR s=[]↔(zBk s=[]/\dgL s.2 s.2.length=[]/\(prS qV 3 s.2 s.2.length).2.2=[]/\(prS zDo 4 s.2 s.2.length).2.2=[]/\zHL s=[]/\zSe s=[]):=by
 constructor
 ·intro h;have h:=zE4 h;exact ⟨h _ (by simp),h _ (by simp),h _ (by simp),h _ (by simp),h _ (by simp),h _ (by simp)⟩
 ·rintro ⟨h1,h2,h3,h4,h5,h6⟩;unfold allR;simp [zDG,h1,h2,h3,h4,h5,h6]
theorem zPp (s:Int×List P3):(zL5 s).1=0↔zJh s:=by
 constructor
 ·intro h;obtain ⟨h1,h2,h3,h4,h5,h6⟩:=(zSd s).1 (zL9 h);have hf:=zTc.1 h1;have hd:=zTn.1 h2;have hu:=(zP7 hf).1 h5;exact ⟨hf,hd,(zMt hd).1 h3,(zUm hd).1 h4,hu,(zUe hf hd hu).1 h6⟩
 ·intro h;have:allR s=[]:=(zSd s).2 ⟨zTc.2 h.fit,zTn.2 h.deg,(zMt h.deg).2 h.dif,(zUm h.deg).2 h.mir,(zP7 h.fit).2 h.use,(zUe h.fit h.deg h.use).2 h.pin⟩;unfold zL5;rw [this];rfl
end S1
namespace S1
theorem zUk {x:zX.T} (g:Good x) {a b:Int} (h:zBh x a b=true):(0<=a/\a<x.1.1)/\(0<=b/\b<x.1.1):=by
 have key: ∀ {a b:Int},0<=qM x (a,b)->(0<=a/\a<x.1.1)/\(0<=b/\b<x.1.1):=fun {a b} h=>by
  unfold qM at h;cases e:zA3 .arr2 x.2.1 (a,b) with
  | none=>rw [e] at h;exact absurd h (by decide)
  | some c =>
    obtain ⟨h1,h2⟩:=g.map _ _ e;have e1:yM x (jD x c)=a:=congrArg Prod.fst h2;have e2:yM x (jA x c)=b:=congrArg Prod.snd h2;have k1:=zAn g.fit (zA2 h1).1;have k2:=zAn g.fit (zA2 h1).2;rw [e1] at k1;rw [e2] at k2;exact ⟨k1,k2⟩
 unfold zBh at h;rw [yO,zF,zF] at h;rcases h with h|h
 ·exact key h
 ·exact (key h).symm
theorem zVJ {x:zX.T} {v:Int} (h: ¬ (0<=v/\v<x.1.1)):zDV x v=[]:=by
 have e:yZ (some x) v=[]:=zEj fun k=>h ⟨k.1,k.2.1⟩;unfold zDV;rw [e];simp [lkO,zFv]
theorem zQF {s:Int×List P3} {x:zX.T} (h:zF0 s=some x):x=jO s/\Full x/\zJh s:=by
 unfold zF0 at h;split at h
 ·rename_i hc;cases h;exact ⟨rfl,zQJ hc,(zPp s).1 hc⟩
 ·cases h
theorem zJm {s:Int×List P3} (h:zJh s):zF0 s=some (jO s)/\Full (jO s)/\(jO s).1=s:=by
 have hc:=(zPp s).2 h;refine ⟨?_,zQJ hc,rfl⟩;unfold zF0;rw [if_pos hc]
theorem zCs {x:zX.T} {b:Int} : ∀ n c,∀ y∈zAA x b n c,yI x y<0->(zAA x b n c).getD ((zAA x b n c).length - 1) 0=y
 | 0,c,y,h,_=>by cases h
 | n + 1,c,y,h,ha=>by
   unfold zAA at h ⊢
   by_cases h1:yI x c<0
   ·rw [if_pos h1] at h ⊢;rw [zD.1 h];rfl
   ·rw [if_neg h1] at h ⊢
    by_cases h2:yI x c=b
    ·rw [if_pos h2] at h ⊢;rw [zD.1 h];rfl
    ·rw [if_neg h2] at h ⊢;rcases zP.1 h with h|h
     ·subst h;exact absurd ha h1
     ·have ih:=zCs n _ y h ha;have hl:(zAA x b n (yI x c)).length>=1:=List.length_pos_of_mem h;generalize zAA x b n (yI x c)=L at *;rw [zZ,show L.length+1 - 1=(L.length - 1)+1 by omega,List.getD_cons_succ];exact ih
theorem Full.link_mem {x:zX.T} (g:Full x) {a v:Int} (h0:0<=a) (h1:a<x.1.1):v∈zDV x a↔(∃ c∈yZ (some x) a,yM x (jD x c)=v)\/(∃ c∈yZ (some x) a,yI x c<0/\yM x (jA x c)=v):=by
 obtain ⟨b,_,eL,hb1,hb2,hb3,hall,_⟩:=g.around h0 h1;have hpos:(yZ (some x) a).length>=1:=List.length_pos_of_mem hb3
 have hlast:zFv (yZ (some x) a) (yZ (some x) a).length=(yZ (some x) a).getD ((yZ (some x) a).length - 1) 0:=by
  unfold zFv;rw [if_neg (by omega)]
 have hin:(yZ (some x) a).getD ((yZ (some x) a).length - 1) 0∈yZ (some x) a:=zA5 (by omega);unfold zDV;rw [zY]
 have e1:v∈lkO x (yZ (some x) a) (yZ (some x) a).length↔∃ c∈yZ (some x) a,yM x (jD x c)=v:=by
  unfold lkO;rw [qJ,zS]
 rw [e1,hlast];refine or_congr_right ⟨fun h=> ?_,fun ⟨c,hc,ha,hv⟩=> ?_⟩
 ·split at h
  ·rename_i hc;exact ⟨_,hin,hc.2,(zD.1 h).symm⟩
  ·cases h
 ·have hc2:=hc;rw [eL] at hc2;have hl:=zCs _ _ c hc2 ha;rw [<- eL] at hl;rw [hl,if_pos ⟨(z6.1 (hall c hc).1).1,ha⟩,hv];exact zD.2 rfl
theorem zHW {x:zX.T} (g:Full x) {a v:Int} :zBh x a v=true↔∃ d,zAX x d=true/\(qX x d=(a,v)\/qX x d=(v,a)):=by
 have key: ∀ {a v:Int},0<=qM x (a,v)↔∃ d,zAX x d=true/\qX x d=(a,v):=fun {a v} =>by
  constructor
  ·intro h;unfold qM at h;cases e:zA3 .arr2 x.2.1 (a,v) with
   | none=>rw [e] at h;exact absurd h (by decide)
   | some c=>exact ⟨c,g.map _ _ e⟩
  ·rintro ⟨d,h1,h2⟩;rw [<- h2,g.facing h1];exact (z6.1 h1).1
 unfold zBh;rw [yO,zF,zF,key,key];constructor
 ·rintro (⟨d,h1,h2⟩|⟨d,h1,h2⟩)
  ·exact ⟨d,h1,.inl h2⟩
  ·exact ⟨d,h1,.inr h2⟩
 ·rintro ⟨d,h1,(h2|h2)⟩
  ·exact .inl ⟨d,h1,h2⟩
  ·exact .inr ⟨d,h1,h2⟩
theorem Full.link_iff {x:zX.T} (g:Full x) {a v:Int} :v∈zDV x a↔zBh x a v=true:=by
 by_cases ha:0<=a/\a<x.1.1
 case neg =>
  rw [zVJ ha];refine ⟨fun h=>(by cases h),fun h=>absurd (zUk g.toGood h).1 ha⟩
 obtain ⟨b,_,eL,hb1,hb2,hb3,hall,haft,hbef,_⟩:=g.around ha.1 ha.2;rw [g.link_mem ha.1 ha.2,zHW g];constructor
 ·rintro (⟨c,hc,hv⟩|⟨c,hc,_,hv⟩)
  ·obtain ⟨k1,k2⟩:=hall c hc;exact ⟨_,(zA2 k1).2,.inl (by rw [zMC k1,k2,hv])⟩
  ·obtain ⟨k1,k2⟩:=hall c hc;exact ⟨_,(zA2 k1).1,.inr (by rw [zMX k1,k2,hv])⟩
 ·rintro ⟨d,h1,(h2|h2)⟩
  ·have e1:yM x (jD x d)=a:=congrArg Prod.fst h2;have e2:yM x (jA x d)=v:=congrArg Prod.snd h2;have hc:=g.around_all (zA2 h1).1;rw [e1] at hc;exact .inl ⟨_,hc,by rw [(np h1).2.2.1];exact e2⟩
  ·have e1:yM x (jD x d)=v:=congrArg Prod.fst h2;have e2:yM x (jA x d)=a:=congrArg Prod.snd h2;have hc:=g.around_all (zA2 h1).2;rw [e2] at hc;have hv:yM x (jA x (jA x d))=v:=by rw [(np h1).2.2.2];exact e1
   by_cases hs:yI x (jA x d)<0
   ·exact .inr ⟨_,hc,hs,hv⟩
   ·have hs:0<=yI x (jA x d):=by omega
    exact .inl ⟨_,haft _ hc hs,by rw [(g.after_v hs).2];exact hv⟩
theorem Full.opp_v {x:zX.T} (g:Full x) {c:Int} (h:0<=zAY x c):zAX x c=true/\zAX x (zAY x c)=true/\yM x (jD x (zAY x c))=yM x (jA x c)/\yM x (jA x (zAY x c))=yM x (jD x c):=by
 obtain ⟨h1,h2,h3⟩:=g.opp h;exact ⟨h1,h2,congrArg Prod.fst h3,congrArg Prod.snd h3⟩
end S1
namespace Go.Vm
open Go.RowKit
section
variable {P:Program} {T:Tab} {SQ:zHD} {B B0:Base} {w w':World} {I τ:Sig} {M:yN} {st:St} {tmps:Array Value} {N:Nat} {a:Act}
end
end Go.Vm
namespace S1
def zVD (x:zX.T) (c:Nat):Option (Int×Int):=if zAY x c<0 then some (qX x c) else none
def zRJ (x:zX.T):List (Int×Int):=(List.range (3*x.1.2.length)).filterMap (zVD x)
def z1a (o:Option zX.T):List (Int×Int):=onO o [] zRJ
def zTr (x:zX.T):Spec Nat where
 inv k:=k<=3*x.1.2.length
 live k:=[(10,.s (.int .i64 k)),(3,.s (.own 1 0 ((List.range k).filterMap (zVD x)).length))]
 keep:=[0,9]
 heap k:=[(1,.row .arr2 29 ((List.range k).filterMap (zVD x)))]
 keepH:=[0]
 mu k:=3*x.1.2.length - k
theorem zVI (x:zX.T) (g:Good x):zB7 ⟨tyL,[(35,zCX),(13,zNh),(8,zHJ)],[]⟩ f18 [(ETy.pt zX).av (some x)] (fun r=>r= .s (.sl .arr2 (zRJ x))):=by
 have hl:x.1.2.length<=8192:=g.fit.2.2.1
 repeat' (conv=>whnf
          first|done|refine qy ?_|refine qG fun _=> ?_|refine qw (fun _=> ?_) (fun _=> ?_)|apply qt|refine qi (fun _=> ?_) (fun _=> ?_)|(refine j6 5 rfl (zTr x) (0) ?_ ?_ ?_ fun k hk=> ?_)|with_reducible refine jX (zTr _) (k+1) ?_ ?_ ?_ ?_|refine qu ?_|refine qv ?_ ?_|exact zT)
 all_goals try first|refine qz ?_|apply qz5
 all_goals try simp only [qn0,yC,yA,ETy.dflt,Int.reduceToNat,Int.reduceAdd,Int.reduceSub,Int.reduceNeg,Nat.reduceAdd,zTr] at *
 all_goals try first|(refine qh ?_;omega)|(refine qh ?_;have:=zJd (zVD x) k;omega)
 ·exact qh (show (k:Int)<=1000000 by omega)
 ·exact qh (show (k:Int)<=1000000 by omega)
 ·rename_i h;rw [zBr,zVD,if_pos h,z7];rfl
 ·rename_i h;rw [zBr];conv=>lhs;rhs;rw [zVD,if_pos h]
  rfl
 ·rename_i h;rw [zBr];conv=>lhs;rhs;rhs;rw [zVD,if_neg h]
  simp
 ·rename_i h;rw [zBr];conv=>lhs;rhs;rw [zVD,if_neg h]
  simp
 ·have e:k=3*x.1.2.length:=by omega
  rw [e];rfl
theorem zU7:zB7 ⟨tyL,[(35,zCX),(13,zNh),(8,zHJ)],[]⟩ f18 [(ETy.pt zX).av none] (fun r=>r= .s (.sl .arr2 [])):=by
 repeat' (conv=>whnf
          first|done|refine qy ?_|refine qG fun _=> ?_|refine qw (fun _=> ?_) (fun _=> ?_)|apply qt|refine qi (fun _=> ?_) (fun _=> ?_)|refine qu ?_|refine qv ?_ ?_|exact zT)
 all_goals try first|refine qz ?_|apply qz5
 all_goals try simp only [qn0,yC,yA,ETy.dflt,Int.reduceToNat,Int.reduceAdd,Int.reduceSub,Int.reduceNeg,Nat.reduceAdd] at *
 rfl
def zXf:List AV->Option Res:=zGM (.pt zX) (fun o=>some (none,some (∀ x,o=some x->Good x),.s (.sl .arr2 (z1a o))))
theorem zVN:zAI prog 18 zXf:=mkR (zBJ fun o r h=>by
 cases h;cases o with
 | none=>exact fb (fn:=[(35,zCX),(13,zNh),(8,zHJ)]) ⟨zEF,zFb,zGR,trivial⟩ func18 fun _ _=>zU7
 | some x=>exact fb (fn:=[(35,zCX),(13,zNh),(8,zHJ)]) ⟨zEF,zFb,zGR,trivial⟩ func18 fun _ h=>zVI x (h x rfl)) func18
abbrev NxM:=List ((ETy.int .i64).T×(ETy.int .i64).T)
def z0E (es:List (Int×Int)) (k:Nat):NxM:=jE (fun m j=>zAg (.int .i64) m (es.getD j (0,0)).2 (es.getD j (0,0)).1) [] k
def zCA (o:Option zX.T):NxM:=z0E (z1a o) (z1a o).length
def zS4 (es:List (Int×Int)):Spec Nat where
 inv k:=k<=es.length
 live k:=[(10,.s (.int .i64 k))]
 keep:=[3,8,9]
 heap k:=[(0,.map jF jF (z0E es k))]
 keepH:=[]
 mu k:=es.length - k
theorem zRq (o:Option zX.T) (hg: ∀ x,o=some x->Good x):zB7 ⟨tyL,[(18,zXf)],[]⟩ f65 [(ETy.pt zX).av o] (fun r=>r= .s (.mp jF jF (zCA o))):=by
 repeat' (conv=>whnf
          first|done|refine qy ?_|refine qG fun _=> ?_|refine qw (fun _=> ?_) (fun _=> ?_)|apply qt|refine qi (fun _=> ?_) (fun _=> ?_)|(refine j6 3 rfl (zS4 (z1a o)) (0) ?_ ?_ ?_ fun k hk=> ?_)|with_reducible refine jX (zS4 _) (k+1) ?_ ?_ ?_ ?_|refine qu ?_|refine qv ?_ ?_|exact zT)
 all_goals try first|refine qz ?_|apply qz5
 all_goals try simp only [qn0,yC,yA,ETy.dflt,Int.reduceToNat,Int.reduceAdd,Int.reduceSub,Int.reduceNeg,Nat.reduceAdd,zS4] at *
 all_goals try (refine qh ?_;omega)
 ·have e:k=(z1a o).length:=by omega
  rw [e];exact jJ.intro rfl
def zJC:List AV->Option Res:=zGM (.pt zX) (fun o=>some (none,some (∀ x,o=some x->Good x),.s (.mp jF jF (zCA o))))
theorem zM3:zAI prog 65 zJC:=mkR (zBJ fun o r h=>by cases h;exact fb (by exact ⟨zVN,trivial⟩) func65 fun _ h=>zRq o h) func65
theorem zZd {fn} (o:Option zX.T) (v:Int):zB7 ⟨tyL,fn,[]⟩ f38 [(ETy.pt zX).av o,jF.av v] (fun r=>r= .s (.clo 64 [⟨.pt zX,o⟩,⟨jF,v⟩])):=by
 repeat' (conv=>whnf
          first|done|refine qy ?_|refine qG fun _=> ?_|refine qw (fun _=> ?_) (fun _=> ?_)|apply qt|refine qi (fun _=> ?_) (fun _=> ?_)|refine qu ?_|refine qv ?_ ?_|exact zT)
 all_goals try first|refine qz ?_|apply qz5
 all_goals try simp only [qn0,yC,yA,ETy.dflt,Int.reduceToNat,Int.reduceAdd,Int.reduceSub,Int.reduceNeg,Nat.reduceAdd] at *
def zU2:List AV->Option Res:=zNH (.pt zX) jF (fun o v=>some (none,none,.s (.clo 64 [⟨.pt zX,o⟩,⟨jF,v⟩])))
theorem zSE:zAI prog 38 zU2:=mkR (zCh fun o v r h=>by cases h;exact fb (fn:=[]) trivial func38 fun _ _=>zZd o v) func38
def nxt (m:NxM) (u:Int):Int:=(zA3 jF m u).getD 0
def zD9 (m:NxM) (v:Int):Nat->Int->List Int
 | 0,_=>[]
 | n+1,u=>if u=v then [] else u::zD9 m v n (nxt m u)
def zAm (o:Option zX.T) (v:Int):List Int:=if (zA3 jF (zCA o) v).isSome then v::zD9 (zCA o) v 10000 (nxt (zCA o) v) else []
end S1
namespace S1
end S1
namespace S1
def zVG (v:Int):List Int->Nat->Int
 | [],_=> -1
 | a::r,i=>if v=a then (i:Int) else zVG v r (i+1)
def zFp (v:Int) (l:List Int):Bool:=decide (zVG v l 0>=0)
end S1
namespace S1
abbrev OS:=List Int×List Int
def ofC (x:zX.T) (k:Int) (j:Nat) (s:OS) (c:Nat):OS :=
 if 0<=zAY x (3*s.2.getD j 0+c)/\s.1.getD (zAY x (3*s.2.getD j 0+c) / 3).toNat 0<0 then
  (s.1.set (zAY x (3*s.2.getD j 0+c) / 3).toNat k,s.2++[zAY x (3*s.2.getD j 0+c) / 3]) else s
def ofJ (x:zX.T) (k:Int) (s:OS) (j:Nat):OS:=jE (ofC x k j) s 3
def bfs (x:zX.T) (k:Int):Nat->Nat->OS->OS
 | 0,_,s=>s
 | f+1,j,s=>if j<s.2.length then bfs x k f (j+1) (ofJ x k s j) else s
def ofI (x:zX.T) (s:List Int×Int) (i:Nat):List Int×Int :=
 if s.1.getD i 0>=0 then s else ((bfs x s.2 10000 0 (s.1.set i s.2,[(i:Int)])).1,s.2+1)
def ofL (x:zX.T) (i:Nat):List Int×Int:=jE (ofI x) (List.replicate x.1.2.length (-1),0) i
def ofR (x:zX.T):List Int:=(ofL x x.1.2.length).1
attribute [irreducible] ofC ofJ bfs ofI
end S1
namespace S1
def smC (x:zX.T) (i:Nat) (b:Bool) (c:Nat):Bool:=b|| decide (zAY x (3*i+c)<0)
def smI (x:zX.T) (l:List Int) (m:Int) (s:Int×Bool) (i:Nat):Int×Bool :=
 if l.getD i 0≠m then s else (s.1+1,jE (smC x i) s.2 3)
def smS (x:zX.T) (m:Int) (i:Nat):Int×Bool:=jE (smI x (ofR x) m) (0,false) i
def smM (x:zX.T) (v:Int):Int:=(ofR x).getD (yL x v / 3).toNat 0
def zBi (x:zX.T) (v:Int):Bool:=decide ((smS x (smM x v) (ofR x).length).1=1)|| (decide ((smS x (smM x v) (ofR x).length).1=4)&& !(smS x (smM x v) (ofR x).length).2)
end S1
namespace S1
attribute [local irreducible] zBh zAq zFp zBi
end S1
namespace S1
attribute [local irreducible] zFp
end S1
namespace S1
end S1
namespace S1
end S1
namespace S1
end S1
namespace S1
theorem zGs {x:zX.T} (g:Good x) {b:Int} : ∀ n k,k+n=30000->zRF (yI x) b k->∃ y∈zAA x b n (iter (yI x) b k),yI x y<0\/yI x y=b
 | 0,k,e,h=>by have:=zBT g h;omega
 | n + 1,k,e,h=>by
   unfold zAA
   by_cases h1:yI x (iter (yI x) b k)<0
   ·rw [if_pos h1];exact ⟨_,zD.2 rfl,.inl h1⟩
   ·rw [if_neg h1]
    by_cases h2:yI x (iter (yI x) b k)=b
    ·rw [if_pos h2];exact ⟨_,zD.2 rfl,.inr h2⟩
    ·rw [if_neg h2];obtain ⟨y,hy,h3⟩:=zGs g n (k+1) (by omega) (h.succ h1 h2);exact ⟨y,zM _ hy,h3⟩
section
variable {x:zX.T} {c d:Int}
theorem Full.last_one (g:Full x) (hc:zAX x c=true) (hd:zAX x d=true) (e:yM x c=yM x d) (h1:yI x c<0) (h2:yI x d<0):c=d:=by
 have hv:=zAn g.fit hc;obtain ⟨b,_,eL,_⟩:=g.around hv.1 hv.2;have k1:=g.around_all hc;have k2:=g.around_all hd;rw [<- e] at k2;rw [eL] at k1 k2;rw [<- zCs _ _ c k1 h1,<- zCs _ _ d k2 h2]
theorem Full.first_is (g:Full x) (hc:zAX x c=true) (h1:z8 x c<0):(zAc x (yM x c)).1=c:=by
 have hv:=zAn g.fit hc;obtain ⟨b,eb,eL,_⟩:=g.around hv.1 hv.2;have k1:=g.around_all hc;rw [eL] at k1;have:=zCe (x:=x) (b:=b) (fun y=>y=b\/0<=z8 x y) (fun y _ ha=> .inr (by rw [g.before_after ha];exact (z6.1 (g.after_has ha).1).1)) _ _ (.inl rfl) c k1;rw [eb];rcases this with h|h
 ·exact h.symm
 ·omega
theorem Full.first_one (g:Full x) (hc:zAX x c=true) (hd:zAX x d=true) (e:yM x c=yM x d) (h1:z8 x c<0) (h2:z8 x d<0):c=d:=by
 rw [<- g.first_is hc h1,<- g.first_is hd h2,e]
theorem Full.last_of_first (g:Full x) (hc:zAX x c=true) (h1:z8 x c<0): ∃ y,zAX x y=true/\yM x y=yM x c/\yI x y<0:=by
 have hv:=zAn g.fit hc;obtain ⟨b,eb,eL,_,_,_,hall,_⟩:=g.around hv.1 hv.2;obtain ⟨y,hy,h⟩:=zGs g.toGood (b:=b) 30000 0 rfl (fun j a b=>by omega);have hy:y∈yZ (some x) (yM x c):=by rw [eL];exact hy
 obtain ⟨k1,k2⟩:=hall y hy;rcases h with h|h
 ·exact ⟨y,k1,k2,h⟩
 ·have hb:=g.first_is hc h1;rw [eb] at hb;rw [hb] at h;have:=g.before_after (c:=y) (by rw [h];exact (z6.1 hc).1);rw [h] at this;have:=(z6.1 k1).1;omega
theorem Full.first_of_last (g:Full x) (hc:zAX x c=true) (h1:yI x c<0): ∃ y,zAX x y=true/\yM x y=yM x c/\z8 x y<0:=by
 have hv:=zAn g.fit hc;obtain ⟨b,eb,eL,hb1,hb2,_,_,_,_,hend⟩:=g.around hv.1 hv.2;rcases hend with h|h
 ·exact ⟨b,hb1,hb2,h.2⟩
 ·have:=h.2 c (g.around_all hc);omega
end
def bE (x:zX.T) (w u:Int):Prop:= ∃ c,zAX x c=true/\zAY x c<0/\qX x c=(w,u)
section
variable {x:zX.T}
theorem zOU (g:Full x) {w u:Int} (h:bE x w u): ∃ d,zAX x d=true/\yM x d=u/\yI x d<0/\yM x (jA x d)=w:=by
 obtain ⟨c,h1,h2,h3⟩:=h;refine ⟨jA x c,(zA2 h1).2,congrArg Prod.snd h3,?_,by rw [(np h1).2.2.2];exact congrArg Prod.fst h3⟩;unfold yI;rw [(np h1).1,if_pos h2];decide
theorem zKw (g:Full x) {w u:Int} (h:bE x w u): ∃ d,zAX x d=true/\yM x d=w/\z8 x d<0/\yM x (jD x d)=u:=by
 obtain ⟨c,h1,h2,h3⟩:=h;refine ⟨jD x c,(zA2 h1).1,congrArg Prod.fst h3,?_,by rw [(np h1).2.2.1];exact congrArg Prod.snd h3⟩;unfold z8;rw [(np h1).2.1,if_pos h2];decide
theorem zUa (g:Full x) {d:Int} (h:zAX x d=true) (ha:yI x d<0):bE x (yM x (jA x d)) (yM x d):=by
 refine ⟨jD x d,(zA2 h).1,?_,zMX h⟩
 by_cases e:zAY x (jD x d)<0
 ·exact e
 ·unfold yI at ha;rw [if_neg e] at ha;have:=(z6.1 (zA2 (g.opp (d:=jD x d) (by omega)).2.1).1).1;omega
theorem zVZ (g:Full x) {d:Int} (h:zAX x d=true) (ha:z8 x d<0):bE x (yM x d) (yM x (jD x d)):=by
 refine ⟨jA x d,(zA2 h).2,?_,zMC h⟩
 by_cases e:zAY x (jA x d)<0
 ·exact e
 ·unfold z8 at ha;rw [if_neg e] at ha;have:=(z6.1 (zA2 (g.opp (d:=jA x d) (by omega)).2.1).2).1;omega
theorem zN6 (g:Full x) {w w' u:Int} (h:bE x w u) (k:bE x w' u):w=w':=by
 obtain ⟨d,d1,d2,d3,d4⟩:=zOU g h;obtain ⟨e,e1,e2,e3,e4⟩:=zOU g k;rw [<- d4,<- e4,g.last_one d1 e1 (d2.trans e2.symm) d3 e3]
theorem zP2 (g:Full x) {w u u':Int} (h:bE x w u) (k:bE x w u'):u=u':=by
 obtain ⟨d,d1,d2,d3,d4⟩:=zKw g h;obtain ⟨e,e1,e2,e3,e4⟩:=zKw g k;rw [<- d4,<- e4,g.first_one d1 e1 (d2.trans e2.symm) d3 e3]
theorem zFL (g:Full x) {w u:Int} (h:bE x w u): ∃ z,bE x z w:=by
 obtain ⟨d,d1,d2,d3,d4⟩:=zKw g h;obtain ⟨y,y1,y2,y3⟩:=g.last_of_first d1 d3;have:=zUa g y1 y3;rw [y2,d2] at this;exact ⟨_,this⟩
theorem z7C (g:Full x) {w u:Int} (h:bE x w u): ∃ z,bE x u z:=by
 obtain ⟨d,d1,d2,d3,d4⟩:=zOU g h;obtain ⟨y,y1,y2,y3⟩:=g.first_of_last d1 d3;have:=zVZ g y1 y3;rw [y2,d2] at this;exact ⟨_,this⟩
theorem zOe (g:Full x) {w u:Int} (h:bE x w u):(0<=w/\w<x.1.1)/\(0<=u/\u<x.1.1)/\w≠u:=by
 obtain ⟨c,h1,h2,h3⟩:=h;have e1:yM x (jD x c)=w:=congrArg Prod.fst h3;have e2:yM x (jA x c)=u:=congrArg Prod.snd h3;have k1:=zAn g.fit (zA2 h1).1;have k2:=zAn g.fit (zA2 h1).2;have k3:=(g.ne h1).2.2;rw [e1] at k1 k3;rw [e2] at k2 k3;exact ⟨k1,k2,k3⟩
end
end S1
namespace S1
section
variable {x:zX.T}
theorem zPY {e:Int×Int} :e∈zRJ x↔bE x e.1 e.2:=by
 unfold zRJ;rw [List.mem_filterMap];constructor
 ·rintro ⟨c,hc,h⟩;have hc:=zW.1 hc;unfold zVD at h;split at h
  ·rename_i ho;cases h;exact ⟨c,z6.2 ⟨by omega,by omega⟩,ho,rfl⟩
  ·cases h
 ·rintro ⟨c,h1,h2,h3⟩;have hc:=z6.1 h1;have e1:((c.toNat:Nat):Int)=c:=by omega
  refine ⟨c.toNat,zW.2 (by omega),?_⟩;unfold zVD;rw [e1,if_pos h2,h3]
end
theorem zPP (es:List (Int×Int)) (u:Int): ∀ k,(∀ w,zA3 jF (z0E es k) u=some w->∃ j,j<k/\es.getD j (0,0)=(w,u))/\((∃ j,j<k/\(es.getD j (0,0)).2=u)->(zA3 jF (z0E es k) u).isSome=true)
 | 0=>⟨fun w h=>(by cases h),fun ⟨j,h,_⟩=>by omega⟩
 | k + 1=>by
   obtain ⟨h1,h2⟩:=zPP es u k;have e:z0E es (k+1)=zAg jF (z0E es k) (es.getD k (0,0)).2 (es.getD k (0,0)).1:=rfl;rw [e]
   by_cases he:(es.getD k (0,0)).2=u
   ·rw [he,zAz];exact ⟨fun w hw=>⟨k,by omega,by injection hw with hw;exact Prod.ext hw he⟩,fun _=>rfl⟩
   ·rw [zB4 _ he];refine ⟨fun w hw=> ?_,fun ⟨j,hj,hju⟩=>h2 ⟨j,?_,hju⟩⟩
    ·obtain ⟨j,hj,e⟩:=h1 w hw;exact ⟨j,by omega,e⟩
    ·by_cases e:j=k
     ·subst e;exact absurd hju he
     ·omega
theorem zFD {x:zX.T} (g:Full x) {w u:Int} :zA3 jF (zCA (some x)) u=some w↔bE x w u:=by
 obtain ⟨h1,h2⟩:=zPP (zRJ x) u (zRJ x).length
 have mem: ∀ j,j<(zRJ x).length->(zRJ x).getD j (0,0)∈zRJ x:=fun j hj=>by
  rw [gdE,gE hj];exact y6 hj
 have fw: ∀ w,zA3 jF (zCA (some x)) u=some w->bE x w u:=fun w h=>by
  obtain ⟨j,hj,e⟩:=h1 w h;have:=zPY.1 (mem j hj);rw [e] at this;exact this
 refine ⟨fw w,fun h=> ?_⟩;obtain ⟨j,hj,e⟩:=yG.1 ((zPY (x:=x) (e:=(w,u))).2 h);have:=h2 ⟨j,hj,by rw [gdE,gE hj];show ((zRJ x)[j]).2=u;rw [e]⟩;have e3:zCA (some x)=z0E (zRJ x) (zRJ x).length:=rfl;rw [<- e3] at this;cases h4:zA3 jF (zCA (some x)) u with
 | none=>rw [h4] at this;cases this
 | some w'=>rw [zN6 g h (fw w' h4)]
theorem zGD {x:zX.T} (g:Full x) {w u:Int} (h:bE x w u):nxt (zCA (some x)) u=w:=by
 unfold nxt;rw [(zFD g).2 h];rfl
theorem zPq {x:zX.T} (g:Full x) {v:Int} (hv: ∃ w,bE x w v) {k:Nat} (h: ∀ j,1<=j->j<=k->iter (nxt (zCA (some x))) v j≠v):k<=4096:=by
 have key: ∀ j,∃ w,bE x w (iter (nxt (zCA (some x))) v j):=fun j=>by
  induction j with
  | zero=>exact hv
  | succ j ih =>
    obtain ⟨w,hw⟩:=ih;show ∃ w,bE x w (nxt (zCA (some x)) (iter (nxt (zCA (some x))) v j));rw [zGD g hw];exact zFL g hw
 let f:Int->Int:=fun u=>(zA3 jF (zCA (some x)) u).getD (-1)
 have hf: ∀ j,iter f v j=iter (nxt (zCA (some x))) v j:=fun j=>by
  induction j with
  | zero=>rfl
  | succ j ih =>
    obtain ⟨w,hw⟩:=key j;show f (iter f v j)=nxt _ _;rw [ih,zGD g hw];show (zA3 jF (zCA (some x)) _).getD (-1)=w;rw [(zFD g).2 hw];rfl
 have fsome: ∀ c,0<=f c->bE x (f c) c:=fun c hc=>by
  cases e:zA3 jF (zCA (some x)) c with
  | none => have:f c= -1:=by show (zA3 jF (zCA (some x)) c).getD (-1)= -1;rw [e];rfl
            omega
  | some w =>
    have:f c=w:=by show (zA3 jF (zCA (some x)) c).getD (-1)=w;rw [e];rfl
    rw [this];exact (zFD g).1 e
 have hn:=g.fit
 have:=pig (f:=f) (L:=x.1.1.toNat) (c:=v) (k:=k) (fun c hc=>by have:=(zOe g (fsome c hc)).1;omega) (fun a b ha e=>by
  have k1:=fsome a ha;have k2:=fsome b (by omega);rw [<- e] at k2
  exact zP2 g k1 k2) (fun j h1 h2=>by
  rw [hf];obtain ⟨w,hw⟩:=key j
  exact ⟨(zOe g hw).2.1.1,h j h1 h2⟩)
 have h1:x.1.1<=4096:=hn.2.1;have h2:x.1.1.toNat<=4096:=Int.toNat_le_toNat h1;exact qT this h2
theorem zH2 {x:zX.T} (g:Full x) {v:Int} (hv: ∃ w,bE x w v): ∀ j,∃ w,bE x w (iter (nxt (zCA (some x))) v j)
 | 0=>hv
 | j+1=>by
   obtain ⟨w,hw⟩:=zH2 g hv j;show ∃ w,bE x w (nxt (zCA (some x)) (iter (nxt (zCA (some x))) v j));rw [zGD g hw];exact zFL g hw
end S1
namespace S1
theorem zEe {m:NxM} {v u:Int} {k:Nat} (h:k<=4096):zD9 m v (10000 - k) u=if u=v then [] else u::zD9 m v (10000 - (k+1)) (nxt m u):=by
 rw [show 10000 - k=(10000 - (k+1))+1 by omega];rfl
def zTz (m:NxM) (v:Int):Spec Nat where
 inv k:=(∀ j,1<=j->j<=k->iter (nxt m) v j≠v)/\(zD9 m v 10000 (nxt m v)).drop k=zD9 m v (10000 - k) (iter (nxt m) v (k+1))
 live k:=[(5,.s (.int .i64 (iter (nxt m) v (k+1))))]
 keep:=[0,1,2,4]
 heap _:=[]
 keepH:=[]
 mu k:=10000 - k
theorem zWP (x:zX.T) (v:Int) (g:Full x):zRE ⟨tyL,[(65,zJC)],[]⟩ f64 [⟨.pt zX,some x⟩,⟨jF,v⟩] (zAm (some x) v):=by
 repeat' (conv=>whnf
          first|done|refine qy ?_|refine qG fun _=> ?_|refine qw (fun _=> ?_) (fun _=> ?_)|apply qt|refine qi (fun _=> ?_) (fun _=> ?_)|refine (fun (l:Nat)=> ?_)|refine y5 Nat (y5 (zTz (zCA (some x)) v) (y5 (fun k=>v::(zD9 (zCA (some x)) v 10000 (nxt (zCA (some x)) v)).take k) (yH (y5 0 (yH (jQ.out ?_) (yH (zBp.out ?_) (yH ?_ (yH ?_ rfl))))) (fun k hk=> ?_))))|((with_reducible show (∃ y,And (Spec.inv (zTz _ _) y) _));refine y5 (k+1) (yH (jQ.out ?_) (yH (zBp.out ?_) (yH (yH ?_ (yH ?_ rfl)) (jQ.out ?_)))))|refine yH (jQ.out (p:=(_++[_]) <+: _) ?_) ?_|refine zBp.out ?_|refine qu ?_|refine qv ?_ ?_|exact zT)
 all_goals try first|refine qz ?_|apply qz5
 all_goals try simp only [qn0,yC,yA,ETy.dflt,Int.reduceToNat,Int.reduceAdd,Int.reduceSub,Int.reduceNeg,Nat.reduceAdd,zTz] at *
 ·exact qh (fun y h=>by cases h;exact g.toGood)
 all_goals try
  have hsome:(zA3 jF (zCA (some x)) v).isSome=true:=by assumption
 all_goals try
  have hw: ∃ w,bE x w v:=by
   cases e:zA3 jF (zCA (some x)) v with
   | none=>rw [e] at hsome;cases hsome
   | some w=>exact ⟨w,(zFD g).1 e⟩
 all_goals try have hL:zAm (some x) v=v::zD9 (zCA (some x)) v 10000 (nxt (zCA (some x)) v):=by unfold zAm;rw [if_pos hsome]
 ·rw [hL];exact qh ⟨_,rfl⟩
 ·exact qh ⟨fun j a b=>by omega,rfl⟩
 ·exact zBp.intro rfl
 all_goals try have h24:=zPq g hw hk.1
 ·have hne:iter (nxt (zCA (some x))) v (k+1)≠v:=by assumption
  rw [hL];have:=hk.2;rw [zEe h24,if_neg hne] at this;exact qh (zOy (L:=v::zD9 (zCA (some x)) v 10000 (nxt (zCA (some x)) v)) (k:=k+1) this)
 ·have hne:iter (nxt (zCA (some x))) v (k+1)≠v:=by assumption
  have:=hk.2;rw [zEe h24,if_neg hne] at this;refine jQ.intro ⟨fun j a b=> ?_,(zDW this).2⟩
  by_cases e:j=k+1
  ·subst e;exact hne
  ·exact hk.1 j a (by omega)
 ·have hne:iter (nxt (zCA (some x))) v (k+1)≠v:=by assumption
  have:=hk.2;rw [zEe h24,if_neg hne] at this;exact zBp.intro (by rw [(zDW this).1];rfl)
 ·refine qh ?_;omega
 ·have he:iter (nxt (zCA (some x))) v (k+1)=v:=by assumption
  have:=hk.2;rw [zEe h24,if_pos he] at this;rw [hL];refine zBp.intro ?_;have h2:=zAU k (zD9 (zCA (some x)) v 10000 (nxt (zCA (some x)) v));rw [this,yW] at h2;rw [h2]
 ·rename_i hn;refine zBp.intro ?_;unfold zAm;have hn:(zA3 jF (zCA (some x)) v).isSome=false:=hn;rw [if_neg (by rw [hn];simp)]
theorem zTt (v:Int):zRE ⟨tyL,[(65,zJC)],[]⟩ f64 [⟨.pt zX,none⟩,⟨jF,v⟩] (zAm none v):=by
 repeat' (conv=>whnf
          first|done|refine qy ?_|refine qG fun _=> ?_|refine qw (fun _=> ?_) (fun _=> ?_)|apply qt|refine qi (fun _=> ?_) (fun _=> ?_)|refine (fun (l:Nat)=> ?_)|refine zBp.out ?_|refine qu ?_|refine qv ?_ ?_|exact zT)
 all_goals try first|refine qz ?_|apply qz5
 all_goals try simp only [qn0,yC,yA,ETy.dflt,Int.reduceToNat,Int.reduceAdd,Int.reduceSub,Int.reduceNeg,Nat.reduceAdd] at *
 ·exact qh (fun y h=>by cases h)
 ·exact zBp.intro rfl
theorem zPN {x:zX.T} (g:Full x) {v:Int} : ∀ n u,(∃ w,bE x w u)->∀ a∈zD9 (zCA (some x)) v n u,0<=a/\a<x.1.1
 | 0,u,_,a,h=>by cases h
 | n + 1,u,⟨w,hw⟩,a,h=>by
   unfold zD9 at h;split at h
   ·cases h
   ·rcases zP.1 h with e|h
    ·rw [e];exact (zOe g hw).2.1
    ·rw [zGD g hw] at h;exact zPN g n w (zFL g hw) a h
theorem zVb {x:zX.T} (g:Full x) {v:Int} : ∀ a∈zAm (some x) v,0<=a/\a<x.1.1:=fun a h=>by
 unfold zAm at h;split at h
 ·rename_i hs
  obtain ⟨w,hw⟩: ∃ w,bE x w v:=by
   cases e:zA3 jF (zCA (some x)) v with
   | none=>rw [e] at hs;cases hs
   | some w=>exact ⟨w,(zFD g).1 e⟩
  rcases zP.1 h with e|h
  ·rw [e];exact (zOe g hw).2.1
  ·rw [zGD g hw] at h;exact zPN g _ w (zFL g hw) a h
 ·cases h
theorem zVq {x:zX.T} (g:Full x) (v:Int): ∀ a∈zAm (some x) v,InK .i64 a:=fun a h=>by
 have h1:=zVb g a h;have h2:x.1.1<=4096:=g.fit.2.1;have h3:a<=4096:=Int.le_trans (Int.le_of_lt h1.2) h2;exact InK.i64.2 (by unfold zAL;omega)
def z1y:zHD:=fun f ps L=>f=64/\∃ (o:Option zX.T) (v:Int),ps=[⟨.pt zX,o⟩,⟨jF,v⟩]/\(∀ x,o=some x->Full x)/\L=zAm o v
theorem zT6:zFw prog z1y:=fun f ps L h=>by
 obtain ⟨rfl,o,v,rfl,hg,rfl⟩:=h;cases o with
 | none=>exact seq_ok (zCw (fn:=[(65,zJC)]) (fr:=[]) ⟨zM3,trivial⟩ trivial) func64 rfl (by kernel_rfl) rfl (by kernel_rfl) (zU rfl) (fun a h=>by cases h) fun _=>zTt v
 | some x=>exact seq_ok (zCw (fn:=[(65,zJC)]) (fr:=[]) ⟨zM3,trivial⟩ trivial) func64 rfl (by kernel_rfl) rfl (by kernel_rfl) (zU rfl) (zVq (hg x rfl) v) fun _=>zWP x v (hg x rfl)
theorem zRQ {o:Option zX.T} {v:Int} :(zAm o v).length<=10001:=by
 have key: ∀ n u,(zD9 (zCA o) v n u).length<=n:=fun n=>by
  induction n with
  | zero=>exact fun u=>zI _
  | succ n ih =>
    intro u;unfold zD9;split
    ·exact jB _
    ·have:=ih (nxt (zCA o) u);rw [zZ];omega
 unfold zAm;split
 ·have:=key 10000 (nxt (zCA o) v);rw [zZ];omega
 ·exact jB _
def zXb (L:List Int):Spec Nat where
 inv _:=True
 live _:=[]
 keep:=[1,2,4]
 heap k:=[(0,.flat 43 [.own 2 0 k]),(2,.row jF 3 (L.take k))]
 keepH:=[1,3]
 mu _:=0
theorem z0t (o:Option zX.T) (v:Int) (hg: ∀ x,o=some x->Full x):zSX ⟨tyL,[],[]⟩ z1y f63 [.s (.val (.slice none 0 0)),.s (.clo 64 [⟨.pt zX,o⟩,⟨jF,v⟩])] (fun r=>r= .s (.sl jF (zAm o v))):=by
 have hlen:=zRQ (o:=o) (v:=v)
 repeat' (conv=>whnf
          first|done|refine qy ?_|refine qG fun _=> ?_|refine qw (fun _=> ?_) (fun _=> ?_)|apply qt|refine qi (fun _=> ?_) (fun _=> ?_)|refine y5 (zAm o v) (yH (jQ.out ?_) (y5 (zXb (zAm o v)) ?_))|(refine yH (fun X=> ?_) (fun X=> ?_))|(refine yH (yH ?_ (yH ?_ rfl)) (fun k hk=> ?_))|(refine yH ?_ (yH ?_ rfl))|refine qu ?_|refine qv ?_ ?_|exact zT)
 all_goals try first|refine qz ?_|apply qz5
 all_goals try simp only [qn0,yC,yA,ETy.dflt,Int.reduceToNat,Int.reduceAdd,Int.reduceSub,Int.reduceNeg,Nat.reduceAdd,zXb] at *
 ·exact qh ⟨rfl,o,v,rfl,hg,rfl⟩
 ·refine qh ?_;omega
 ·rw [j5,List.take_take,Nat.min_self,yJ hk,gdE,gE hk];rfl
 ·rw [j5,qJ,qJ]
def zYV (f:List AV):Option ((Option zX.T)×Int) :=
 match f with
 | [.s (.clo f [⟨.pt (.pair (.pair (.int .i64) (.sl .arr3)) (.pair (.mp .arr2 (.int .i64)) (.sl (.int .i64)))),o⟩,⟨.int .i64,v⟩])]=>match Nat.beq f 64 with
   | true=>some (o,v)
   | false=>none
 | _=>none
theorem zOl {l:List AV} {o:Option zX.T} {v:Int} (h:zYV l=some (o,v)):l=[.s (.clo 64 [⟨.pt zX,o⟩,⟨jF,v⟩])]:=by
 unfold zYV at h;split at h
 ·split at h
  ·rename_i e;cases h;rw [zC e]
  ·cases h
 ·cases h
def zLL (f:List AV):Option Res:=match zYV f with
 | some (o,v)=>some (none,some (∀ x,o=some x->Full x),.s (.sl jF (zAm o v)))
 | none=>none
def z1x:List AV->Option Res
 | .s (.val (.slice none 0 0))::f=>zLL f
 | _=>none
theorem z0v:zAI prog 63 z1x:=⟨fun args r h=>by
 unfold z1x at h;split at h
 case h_2=>cases h
 unfold zLL at h;split at h
 case h_2=>cases h
 rename_i he;rw [zOl he];cases h
 exact zUN (zCw (fn:=[]) (fr:=[]) trivial trivial) zT6 func63 rfl (by kernel_rfl) (zU rfl) fun _ h=>z0t _ _ h,_,func63,by kernel_rfl,by kernel_rfl⟩
theorem z0a (o:Option zX.T) (v:Int) (hg: ∀ x,o=some x->Full x):zB7 ⟨tyL,[(63,z1x)],[]⟩ f37 [.s (.clo 64 [⟨.pt zX,o⟩,⟨jF,v⟩])] (fun r=>r= .s (.sl jF (zAm o v))):=by
 repeat' (conv=>whnf
          first|done|refine qy ?_|refine qG fun _=> ?_|refine qw (fun _=> ?_) (fun _=> ?_)|apply qt|refine qi (fun _=> ?_) (fun _=> ?_)|refine qu ?_|refine qv ?_ ?_|exact zT)
 all_goals try first|refine qz ?_|apply qz5
 all_goals try simp only [qn0,yC,yA,ETy.dflt,Int.reduceToNat,Int.reduceAdd,Int.reduceSub,Int.reduceNeg,Nat.reduceAdd] at *
 all_goals exact qh hg
def z0N:List AV->Option Res:=zLL
theorem zXe:zAI prog 37 z0N:=⟨fun args r h=>by
 unfold z0N zLL at h;split at h
 case h_2=>cases h
 rename_i he;rw [zOl he];cases h
 exact fb (fn:=[(63,z1x)]) ⟨z0v,trivial⟩ func37 fun _ h=>z0a _ _ h,_,func37,by kernel_rfl,by kernel_rfl⟩
abbrev LpS:=ReM×List (List Int)
def lpI (x:zX.T) (s:LpS) (v:Nat):LpS :=
 if had s.1 v=true then s else ((zAm (some x) v).foldl (fun m u=>zAg (.int .i64) m u true) s.1,if (zAm (some x) v).length>0 then s.2++[zAm (some x) v] else s.2)
def lpS (x:zX.T) (i:Nat):LpS:=jE (lpI x) ([],[]) i
def zAC (x:zX.T):List (List Int):=(lpS x x.1.1.toNat).2
def z1F (o:Option zX.T):List (List Int):=onO o [] zAC
def zTq (x:zX.T):Spec Nat where
 inv k:=(k:Int)<=x.1.1
 live k:=[(13,.s (.int .i64 k)),(3,.s (.own 1 0 (lpS x k).2.length))]
 keep:=[0,2,4,12]
 heap k:=[(1,.row (.sl jF) 43 (lpS x k).2),(2,.map jF .bool (lpS x k).1)]
 keepH:=[0,3]
 mu k:=x.1.1.toNat - k
theorem zZ7 {x:zX.T} {k:Nat} (h:had (lpS x k).1 k=true):lpS x (k+1)=lpS x k:=by
 show lpI x (lpS x k) k=_;unfold lpI;rw [if_pos h]
theorem zMS {x:zX.T} {k:Nat} (h:had (lpS x k).1 k=false):lpS x (k+1)=((zAm (some x) k).foldl (fun m u=>zAg (.int .i64) m u true) (lpS x k).1,if (zAm (some x) k).length>0 then (lpS x k).2++[zAm (some x) k] else (lpS x k).2):=by
 show lpI x (lpS x k) k=_;unfold lpI;rw [if_neg (by rw [h];simp)]
theorem zLX (x:zX.T): ∀ k,(lpS x k).2.length<=k
 | 0=>zI _
 | k +1=>by
   have ih:=zLX x k;cases h:had (lpS x k).1 k with
   | true=>rw [zZ7 h];omega
   | false =>
     rw [zMS h];show (if _ then _ else _:List (List Int)).length<=_;split
     ·rw [z7,List.length_singleton];omega
     ·omega
def z3M (m:ReM) (l:List Int):ReM:=l.foldl (fun m u=>zAg (.int .i64) m u true) m
def zXY (m:ReM) (L:List Int):Spec Nat where
 inv _:=True
 live _:=[]
 keep:=[0,2,3,4,5,6,12,13]
 heap k:=[(2,.map jF .bool (z3M m (L.take k)))]
 keepH:=[0,1,3,4]
 mu _:=0
theorem zWw (x:zX.T) (g:Full x):zSX ⟨tyL,[(36,zBR),(38,zU2),(37,z0N)],[]⟩ z1y f19 [(ETy.pt zX).av (some x)] (fun r=>r= .s (.sl (.sl jF) (zAC x))):=by
 repeat' (conv=>whnf
          first|done|refine qy ?_|refine qG fun _=> ?_|refine qw (fun _=> ?_) (fun _=> ?_)|apply qt|refine qi (fun _=> ?_) (fun _=> ?_)|refine y5 (Nat) (y5 (zTq x) (yH (y5 (0) (yH (jQ.out ?_) (yH ?_ (yH ?_ rfl)))) (fun k hk=> ?_)))|with_reducible refine jX (zTq _) (k+1) ?_ ?_ ?_ ?_|refine y5 (zAm (some x) k) (yH (jQ.out ?_) (y5 (zXY (lpS x k).1 (zAm (some x) k)) ?_))|(refine yH (fun X=> ?_) (fun X=> ?_))|(refine yH (yH ?_ (yH ?_ rfl)) (fun j hj=> ?_))|(refine yH ?_ (yH ?_ rfl))|refine qu ?_|refine qv ?_ ?_|exact zT)
 all_goals try first|refine qz ?_|apply qz5
 all_goals try simp only [qn0,yC,yA,ETy.dflt,Int.reduceToNat,Int.reduceAdd,Int.reduceSub,Int.reduceNeg,Nat.reduceAdd,zTq,zXY] at *
 all_goals have hn: @LE.le Int _ x.1.1 4096:=g.fit.2.1
 all_goals have h0: @LE.le Int _ 0 x.1.1:=g.fit.1
 all_goals try (refine qh ?_;first|omega|(unfold zAL;omega))
 all_goals try have hlen:=zLX x k
 all_goals try
  have ht:had (lpS x k).1 k=true:=by assumption
  have e:=zZ7 ht
  (first|(rw [e];done)|(rw [e]))
 all_goals try have hf:had (lpS x k).1 k=false:=by assumption
 ·exact qh (fun y h=>by cases h;exact g)
 ·exact qh ⟨rfl,some x,k,rfl,fun y h=>(by cases h;exact g),rfl⟩
 ·unfold z3M;rw [yJ hj,z3c,gdE,gE hj];rfl
 ·refine qh ?_;omega
 ·have hp:((zAm (some x) k).length:Int)>0:=by assumption
  rw [zMS hf,if_pos (by omega),z7];rfl
 ·have hp:((zAm (some x) k).length:Int)>0:=by assumption
  rw [zMS hf,if_pos (by omega)]
 ·rw [zMS hf,qJ];rfl
 ·have hp: ¬ ((zAm (some x) k).length:Int)>0:=by assumption
  rw [zMS hf,if_neg (by omega)]
 ·have hp: ¬ ((zAm (some x) k).length:Int)>0:=by assumption
  rw [zMS hf,if_neg (by omega)]
 ·rw [zMS hf,qJ];rfl
 ·have e:k=x.1.1.toNat:=by omega
  rw [e];rfl
theorem zUW:zSX ⟨tyL,[(36,zBR),(38,zU2),(37,z0N)],[]⟩ z1y f19 [(ETy.pt zX).av none] (fun r=>r= .s (.sl (.sl jF) [])):=by
 repeat' (conv=>whnf
          first|done|refine qy ?_|refine qG fun _=> ?_|refine qw (fun _=> ?_) (fun _=> ?_)|apply qt|refine qi (fun _=> ?_) (fun _=> ?_)|refine qu ?_|refine qv ?_ ?_|exact zT)
 all_goals try first|refine qz ?_|apply qz5
 all_goals try simp only [qn0,yC,yA,ETy.dflt,Int.reduceToNat,Int.reduceAdd,Int.reduceSub,Int.reduceNeg,Nat.reduceAdd] at *
 rfl
def zTF:List AV->Option Res:=zGM (.pt zX) (fun o=>some (none,some (∀ x,o=some x->Full x),.s (.sl (.sl jF) (z1F o))))
theorem zWi:zAI prog 19 zTF:=mkR (zBJ fun o r h=>by
 cases h;cases o with
 | none=>exact zUN (zCw (fn:=[(36,zBR),(38,zU2),(37,z0N)]) (fr:=[]) ⟨zC4,zSE,zXe,trivial⟩ trivial) zT6 func19 rfl (by kernel_rfl) (zU rfl) fun _ _=>zUW
 | some x=>exact zUN (zCw (fn:=[(36,zBR),(38,zU2),(37,z0N)]) (fr:=[]) ⟨zC4,zSE,zXe,trivial⟩ trivial) zT6 func19 rfl (by kernel_rfl) (zU rfl) fun _ h=>zWw x (h x rfl)) func19
end S1
namespace S1
def eE (l:List P3) (a b:Int):Prop:= ∃ i,i<l.length/\dE (tg l i) a b
theorem zDj {x:zX.T} {c:Int} (h:zAX x c=true):(c / 3).toNat<x.1.2.length/\dE (tg x.1.2 (c / 3).toNat) (qX x c).1 (qX x c).2:=by
 have hc:=z6.1 h;have h1:=z6.1 (zA2 h).1;have h2:=z6.1 (zA2 h).2;refine ⟨by omega,?_⟩;show dE _ (yM x (jD x c)) (yM x (jA x c));rw [zD2 h1.1 h1.2,zD2 h2.1 h2.2,zAw h,zBe h];have e1:(trn c 1 / 3).toNat=(c / 3).toNat:=by unfold trn;omega
 have e2:(trn c 2 / 3).toNat=(c / 3).toNat:=by unfold trn;omega
 rw [e1,e2];have:c % 3=0\/c % 3=1\/c % 3=2:=by omega
 rcases this with e|e|e
 ·rw [show trn c 1 % 3=1 by unfold trn;omega,show trn c 2 % 3=2 by unfold trn;omega];exact .inr (.inl ⟨rfl,rfl⟩)
 ·rw [show trn c 1 % 3=2 by unfold trn;omega,show trn c 2 % 3=0 by unfold trn;omega];exact .inr (.inr ⟨rfl,rfl⟩)
 ·rw [show trn c 1 % 3=0 by unfold trn;omega,show trn c 2 % 3=1 by unfold trn;omega];exact .inl ⟨rfl,rfl⟩
theorem zGp {x:zX.T} {j:Nat} {a b:Int} (hj:j<x.1.2.length) (h:dE (tg x.1.2 j) a b): ∃ c,zAX x c=true/\qX x c=(a,b)/\(c / 3).toNat=j:=by
 have key: ∀ k:Int,0<=k->k<3->p3 (tg x.1.2 j) ((k+1) % 3)=a->p3 (tg x.1.2 j) ((k+2) % 3)=b->∃ c,zAX x c=true/\qX x c=(a,b)/\(c / 3).toNat=j:=fun k h1 h2 ea eb=>by
  have hc:zAX x (3*(j:Int)+k)=true:=z6.2 (by omega);have k1:=z6.1 (zA2 hc).1;have k2:=z6.1 (zA2 hc).2;refine ⟨3*j+k,hc,?_,by omega⟩;show (yM x (jD x _),yM x (jA x _))=_;rw [zD2 k1.1 k1.2,zD2 k2.1 k2.2,zAw hc,zBe hc]
  rw [show (trn (3*(j:Int)+k) 1 / 3).toNat=j by unfold trn;omega,show (trn (3*(j:Int)+k) 2 / 3).toNat=j by unfold trn;omega,
   show trn (3*(j:Int)+k) 1 % 3=(k+1) % 3 by unfold trn;omega,show trn (3*(j:Int)+k) 2 % 3=(k+2) % 3 by unfold trn;omega,ea,eb]
 rcases h with h|h|h
 ·exact key 2 (by omega) (by omega) h.1 h.2
 ·exact key 0 (by omega) (by omega) h.1 h.2
 ·exact key 1 (by omega) (by omega) h.1 h.2
theorem zDr {x:zX.T} {a b:Int} :eE x.1.2 a b↔∃ c,zAX x c=true/\qX x c=(a,b):=by
 constructor
 ·rintro ⟨i,hi,h⟩;obtain ⟨c,h1,h2,_⟩:=zGp hi h;exact ⟨c,h1,h2⟩
 ·rintro ⟨c,h1,h2⟩;have:=zDj h1;rw [h2] at this;exact ⟨_,this⟩
theorem zMh {x:zX.T} (g:Full x) {w u:Int} :bE x w u↔eE x.1.2 w u/\¬ eE x.1.2 u w:=by
 rw [zDr,zDr];constructor
 ·rintro ⟨c,h1,h2,h3⟩;refine ⟨⟨c,h1,h3⟩,fun ⟨d,k1,k2⟩=> ?_⟩;have:=g.opp_is (c:=c) k1 (by rw [k2,h3]);have h4:=(z6.1 k1).1;omega
 ·rintro ⟨⟨c,h1,h3⟩,h⟩;refine ⟨c,h1,?_,h3⟩
  by_cases e:zAY x c<0
  ·exact e
  ·obtain ⟨k1,k2,k3,k4⟩:=g.opp_v (c:=c) (by omega);refine absurd ⟨zAY x c,k2,?_⟩ h;show (_,_)=_;rw [k3,k4];have e1:yM x (jD x c)=w:=congrArg Prod.fst h3;have e2:yM x (jA x c)=u:=congrArg Prod.snd h3;rw [e1,e2]
theorem zK6 (f:Int->Int) (a:Int) (i:Nat): ∀ j,iter f (iter f a i) j=iter f a (i+j)
 | 0=>rfl
 | j+1=>congrArg f (zK6 f a i j)
theorem exists_least {P:Nat->Prop} [DecidablePred P] {n:Nat} (h:P n): ∃ p,P p/\p<=n/\∀ j,j<p->¬ P j:=by
 induction n using Nat.strongRecOn with
 | _ n ih =>
   by_cases e: ∃ j,j<n/\P j
   ·obtain ⟨j,hj,hP⟩:=e;obtain ⟨p,h1,h2,h3⟩:=ih j hj hP;exact ⟨p,h1,by omega,h3⟩
   ·exact ⟨n,h,zI _,fun j hj hP=>e ⟨j,hj,hP⟩⟩
end S1
namespace S1
abbrev nx (x:zX.T) (u:Int):Int:=nxt (zCA (some x)) u
structure zEs (x:zX.T) (L:List Int):Prop where
 ne:0<L.length
 cyc: ∀ i,i<L.length->bE x (L.getD ((i+1) % L.length) 0) (L.getD i 0)
 nd:L.Nodup
theorem zNM (m:NxM) (v:Int) {p:Nat} (hp:iter (nxt m) v p=v) (hl: ∀ j,1<=j->j<p->iter (nxt m) v j≠v): ∀ (r k n:Nat),k+1+r=p->r<n->zD9 m v n (iter (nxt m) v (k+1))=(List.range r).map fun j=>iter (nxt m) v (k+1+j)
 | 0,k,n,h1,h2=>by
   obtain ⟨n,rfl⟩: ∃ n',n=n'+1:=⟨n - 1,by omega⟩;unfold zD9;rw [show k+1=p by omega,if_pos hp];rfl
 | r+1,k,n,h1,h2=>by
   obtain ⟨n,rfl⟩: ∃ n',n=n'+1:=⟨n - 1,by omega⟩;unfold zD9;rw [if_neg (hl (k+1) (by omega) (by omega))];have:=zNM m v hp hl r (k+1) n (by omega) (by omega);show _::zD9 m v n (iter (nxt m) v (k+1+1))=_;rw [this,List.range_succ_eq_map,jV,List.map_map]
   congr 1
   refine zAQ fun j _=> ?_;show _=iter (nxt m) v (k+1+(j+1));rw [show k+1+1+j=k+1+(j+1) by omega]
theorem z1Q {x:zX.T} (g:Full x) {u u':Int} (h: ∃ w,bE x w u) (h': ∃ w,bE x w u') (e:nx x u=nx x u'):u=u':=by
 obtain ⟨w,hw⟩:=h;obtain ⟨w',hw'⟩:=h';have e:nxt (zCA (some x)) u=nxt (zCA (some x)) u':=e;rw [zGD g hw,zGD g hw'] at e;subst e;exact zP2 g hw hw'
theorem zIO {x:zX.T} (g:Full x) {v:Int} (hv: ∃ w,bE x w v): ∀ i d,iter (nx x) v i=iter (nx x) v (i+d)->v=iter (nx x) v d
 | 0,d,h=>by rw [yK] at h;exact h
 | i+1,d,h=>by
   refine zIO g hv i d (z1Q g (zH2 g hv i) (zH2 g hv (i+d)) ?_);rw [show i+1+d=(i+d)+1 by omega] at h;exact h
theorem zN4 {x:zX.T} (g:Full x) {v:Int} (hv: ∃ w,bE x w v): ∃ p,0<p/\iter (nx x) v p=v/\(∀ j,1<=j->j<p->iter (nx x) v j≠v)/\zAm (some x) v=(List.range p).map fun j=>iter (nx x) v j:=by
 have hex: ∃ n,n<=4097/\(1<=n/\iter (nx x) v n=v):=by
  apply yE;intro h;have:=zPq g hv (k:=4097) fun j h1 h2 e=>h ⟨j,h2,h1,e⟩;omega
 obtain ⟨n,hn,h⟩:=hex;obtain ⟨p,⟨h1,h2⟩,h3,h4⟩:=exists_least (P:=fun n=>1<=n/\iter (nx x) v n=v) h;have hl: ∀ j,1<=j->j<p->iter (nx x) v j≠v:=fun j a b e=>h4 j b ⟨a,e⟩;refine ⟨p,h1,h2,hl,?_⟩;have:=zNM (zCA (some x)) v h2 hl (p - 1) 0 10000 (by omega) (by omega);obtain ⟨w,hw⟩:=hv;unfold zAm;rw [if_pos (by rw [(zFD g).2 hw];rfl)];have e:zD9 (zCA (some x)) v 10000 (nxt (zCA (some x)) v)=_:=this;rw [e];obtain ⟨q,rfl⟩: ∃ q,p=q+1:=⟨p - 1,by omega⟩
 rw [List.range_succ_eq_map,jV,List.map_map];refine congrArg (v:: ·) ?_;show (List.range (q+1 - 1)).map _=_;rw [Nat.add_sub_cancel];refine zAQ fun j _=> ?_;show iter _ v (0+1+j)=iter _ v (j+1);rw [show 0+1+j=j+1 by omega]
theorem zPV {f:Nat->Int} {p i:Nat} (h:i<p):((List.range p).map f).getD i 0=f i:=by
 rw [gdE,zAB,List.getElem?_range h];rfl
theorem zYz {x:zX.T} (g:Full x) {v:Int} (hv: ∃ w,bE x w v):zEs x (zAm (some x) v):=by
 obtain ⟨p,h1,h2,h3,e⟩:=zN4 g hv;rw [e];have hlen:((List.range p).map fun j=>iter (nx x) v j).length=p:=by rw [z2,zDg]
 refine ⟨by rw [hlen];exact h1,fun i hi=> ?_,?_⟩
 ·rw [hlen] at hi ⊢;rw [zPV hi,zPV (Nat.mod_lt _ h1)];obtain ⟨w,hw⟩:=zH2 g hv i
  have e1:iter (nx x) v ((i+1) % p)=nx x (iter (nx x) v i):=by
   by_cases hl:i+1<p
   ·rw [Nat.mod_eq_of_lt hl];rfl
   ·rw [show i+1=p by omega,Nat.mod_self];have:iter (nx x) v p=nx x (iter (nx x) v i):=by rw [show p=i+1 by omega];rfl
    rw [<- this,h2];rfl
  rw [e1];show bE x (nxt (zCA (some x)) (iter (nxt (zCA (some x))) v i)) _;rw [zGD g hw];exact hw
 ·have key: ∀ i j,i<j->j<p->iter (nx x) v i≠iter (nx x) v j:=fun i j h4 h5 e=>by
   have:=zIO g hv i (j - i) (by rw [e];congr 1;omega);exact h3 (j - i) (by omega) (by omega) this.symm
  refine List.Pairwise.map _ (fun i j h=> ?_) (List.nodup_range (n:=p) |>.imp_of_mem (S:=fun i j=>i≠j/\i<p/\j<p) fun hi hj hn=>⟨hn,zW.1 hi,zW.1 hj⟩);obtain ⟨hn,hi,hj⟩:=h;rcases Nat.lt_or_gt_of_ne hn with hlt|hgt
  ·exact key i j hlt hj
  ·exact (key j i hgt hi).symm
theorem zZA {x:zX.T} (g:Full x) {v:Int} (hv: ¬ ∃ w,bE x w v):zAm (some x) v=[]:=by
 unfold zAm;rw [if_neg];intro h;cases e:zA3 jF (zCA (some x)) v with
 | none=>rw [e] at h;cases h
 | some w=>exact hv ⟨w,(zFD g).1 e⟩
theorem zLZ {L:List Int} {u:Int} (h:u∈L): ∃ i,i<L.length/\L.getD i 0=u:=by
 obtain ⟨i,hi,e⟩:=yG.1 h;exact ⟨i,hi,by rw [gdE,gE hi];exact e⟩
section
variable {x:zX.T}
theorem zEs.bord {L:List Int} (h:zEs x L) {u:Int} (hu:u∈L): ∃ w,bE x w u:=by
 obtain ⟨i,hi,e⟩:=zLZ hu;have:=h.cyc i hi;rw [e] at this;exact ⟨_,this⟩
theorem zEs.next {L:List Int} (h:zEs x L) (g:Full x) {u:Int} (hu:u∈L):nx x u∈L:=by
 obtain ⟨i,hi,e⟩:=zLZ hu;have:=h.cyc i hi;rw [e] at this;show nxt (zCA (some x)) u∈L;rw [zGD g this];exact zA5 (Nat.mod_lt _ h.ne)
theorem zEs.iters {L:List Int} (h:zEs x L) (g:Full x) {u:Int} (hu:u∈L): ∀ k,iter (nx x) u k∈L
 | 0=>hu
 | k+1=>h.next g (h.iters g hu k)
theorem zUq (g:Full x) {v:Int} (hv: ∃ w,bE x w v) {L:List Int} (h:zEs x L) {u:Int} (h1:u∈zAm (some x) v) (h2:u∈L):v∈L:=by
 obtain ⟨p,p1,p2,p3,e⟩:=zN4 g hv;rw [e] at h1;obtain ⟨i,hi,rfl⟩:=zS.1 h1;have hi:=zW.1 hi;have:=h.iters g h2 (p - i);rw [zK6,show i+(p - i)=p by omega,p2] at this;exact this
theorem zSy (g:Full x) {v:Int} (hv: ∃ w,bE x w v):v∈zAm (some x) v:=by
 obtain ⟨p,p1,p2,p3,e⟩:=zN4 g hv;rw [e];exact zS.2 ⟨0,zW.2 p1,rfl⟩
theorem zV2 (l:List Int): ∀ (m:ReM) (v:Int),had (l.foldl (fun m u=>zAg (.int .i64) m u true) m) v=true↔had m v=true\/v∈l:=by
 induction l with
 | nil=>intro m v;simp
 | cons a r ih =>
   intro m v;rw [List.foldl_cons,ih]
   by_cases e:a=v
   ·subst e
    have:had (zAg (.int .i64) m a true) a=true:=by
     show (zA3 (.int .i64) (zAg (.int .i64) m a true) a).getD false=true;rw [zAz];rfl
    simp [this]
   ·have:had (zAg (.int .i64) m a true) v=had m v:=by
     show (zA3 (.int .i64) (zAg (.int .i64) m a true) v).getD false=_;rw [zB4 _ e];rfl
    rw [this,zP];constructor
    ·rintro (h|h)
     ·exact .inl h
     ·exact .inr (.inr h)
    ·rintro (h|h|h)
     ·exact .inl h
     ·exact absurd h.symm e
     ·exact .inr h
structure Lps (x:zX.T) (Ls:List (List Int)) (k:Int):Prop where
 ok: ∀ L∈Ls,zEs x L
 nd:Ls.flatten.Nodup
 all: ∀ u,0<=u->u<k->(∃ w,bE x w u)->u∈Ls.flatten
theorem zS3 (g:Full x): ∀ k,Lps x (lpS x k).2 k/\∀ u,had (lpS x k).1 u=true↔u∈(lpS x k).2.flatten
 | 0=>⟨⟨fun L h=>(by cases h),qW,fun u h1 h2 _=>by omega⟩,fun u=>⟨fun h=>(by cases h),fun h=>(by cases h)⟩⟩
 | k + 1 =>by
   obtain ⟨ih,ihm⟩:=zS3 g k;cases hh:had (lpS x k).1 k with
   | true =>
     rw [zZ7 hh];refine ⟨⟨ih.ok,ih.nd,fun u h1 h2 h3=> ?_⟩,ihm⟩
     by_cases e:u=k
     ·rw [e];exact (ihm k).1 hh
     ·exact ih.all u h1 (by omega) h3
   | false =>
     rw [zMS hh]
     by_cases hv: ∃ w,bE x w (k:Int)
     ·have hw:=zYz g hv;rw [if_pos hw.ne]
      have hdis: ∀ u∈zAm (some x) k,u∉(lpS x k).2.flatten:=fun u hu hf=>by
       obtain ⟨L,hL,huL⟩:=List.mem_flatten.1 hf;have:=zUq g hv (ih.ok L hL) hu huL;rw [(ihm k).2 (List.mem_flatten.2 ⟨L,hL,this⟩)] at hh;cases hh
      refine ⟨⟨fun L hL=> ?_,?_,fun u h1 h2 h3=> ?_⟩,fun u=> ?_⟩
      ·rcases zY.1 hL with hL|hL
       ·exact ih.ok L hL
       ·rw [zD] at hL;rw [hL];exact hw
      ·rw [List.flatten_append,List.nodup_append];refine ⟨ih.nd,by simpa using hw.nd,fun a ha b hb e=> ?_⟩;have hb:b∈zAm (some x) k:=by simpa using hb
       subst e;exact hdis a hb ha
      ·rw [List.flatten_append,zY]
       by_cases e:u=k
       ·rw [e];exact .inr (by simpa using zSy g hv)
       ·exact .inl (ih.all u h1 (by omega) h3)
      ·rw [List.flatten_append,zY,zV2,ihm u];simp
     ·rw [zZA g hv];rw [if_neg (by simp)];refine ⟨⟨ih.ok,ih.nd,fun u h1 h2 h3=> ?_⟩,ihm⟩
      by_cases e:u=k
      ·rw [e] at h3;exact absurd h3 hv
      ·exact ih.all u h1 (by omega) h3
theorem zEJ (g:Full x):Lps x (zAC x) x.1.1:=by
 have:=(zS3 g x.1.1.toNat).1;have h0:0<=x.1.1:=g.fit.1;rw [zA4 h0] at this;exact this
theorem zJF (g:Full x) {u:Int} :u∈(zAC x).flatten↔∃ w,bE x w u:=by
 have h:=zEJ g;constructor
 ·intro hu;obtain ⟨L,hL,huL⟩:=List.mem_flatten.1 hu;exact (h.ok L hL).bord huL
 ·rintro ⟨w,hw⟩;have:=zOe g hw;exact h.all u this.2.1.1 this.2.1.2 ⟨w,hw⟩
end
end S1
namespace S1
theorem zJb {α:Type} (d:α) (L:List α):(List.range L.length).map (fun i=>L.getD i d)=L:=by
 apply List.ext_getElem
 ·rw [z2,zDg]
 ·intro i h1 h2;rw [List.getElem_map,List.getElem_range,gdE,gE h2];rfl
theorem qU {l:List P3} {i:Nat} (h:i<l.length):tg l i∈l:=by
 unfold tg;rw [gdE,gE h];exact y6 h
theorem zAr {l:List P3} {t:P3} (h:t∈l): ∃ i,i<l.length/\tg l i=t:=by
 obtain ⟨i,hi,e⟩:=yG.1 h;exact ⟨i,hi,by unfold tg;rw [gdE,gE hi];exact e⟩
theorem z4J {l S:List P3} {i:Nat} (h:i<l.length):tg (l++S) i=tg l i:=by
 unfold tg;rw [gdE,gdE,yF h]
theorem z7R {l S:List P3} {i:Nat} (h:l.length<=i):tg (l++S) i=tg S (i - l.length):=by
 unfold tg;rw [gdE,gdE,qY h]
theorem zDS {l:List P3} {a b:Int} :eE l a b↔∃ t∈l,dE t a b:=by
 constructor
 ·rintro ⟨i,hi,h⟩;exact ⟨_,qU hi,h⟩
 ·rintro ⟨t,ht,h⟩;obtain ⟨i,hi,e⟩:=zAr ht;exact ⟨i,hi,by rw [e];exact h⟩
theorem z4H {l S:List P3} {a b:Int} :eE (l++S) a b↔eE l a b\/eE S a b:=by
 simp only [zDS,zY];constructor
 ·rintro ⟨t,ht|ht,h⟩
  ·exact .inl ⟨t,ht,h⟩
  ·exact .inr ⟨t,ht,h⟩
 ·rintro (⟨t,ht,h⟩|⟨t,ht,h⟩)
  ·exact ⟨t,.inl ht,h⟩
  ·exact ⟨t,.inr ht,h⟩
theorem y9 {t:P3} {a b:Int} (h:dE t a b):zV t a/\zV t b:=by
 rcases h with ⟨h1,h2⟩|⟨h1,h2⟩|⟨h1,h2⟩
 ·exact ⟨.inl h1,.inr (.inl h2)⟩
 ·exact ⟨.inr (.inl h1),.inr (.inr h2)⟩
 ·exact ⟨.inr (.inr h1),.inl h2⟩
theorem zWZ {s:Int×List P3} (h:zLo s) {i:Nat} (hi:i<s.2.length) {v:Int} (hv:zV (tg s.2 i) v):0<=v/\v<s.1:=by
 have:=zBF (h.2.2.2 i hi);rcases hv with e|e|e<;>(rw [<- e];first|exact this.1|exact this.2.1|exact this.2.2)
end S1
namespace S1
abbrev vN (x:zX.T):Int:=x.1.1
theorem z5I {x:zX.T} (g:Full x) {w u:Int} (h:bE x w u):(0<=w/\w<vN x)/\(0<=u/\u<vN x)/\w≠u:=zOe g h
theorem z8C {x:zX.T} (g:Full x):0<=vN x/\vN x<=4096:=⟨g.fit.1,g.fit.2.1⟩
def z4C (L:List Int) (z:Int) (m:Nat):List P3:=(List.range m).map fun i=>(L.getD i 0,L.getD ((i+1) % L.length) 0,z)
def z1 (n:Int) (Ls:List (List Int)) (k:Nat):List P3:=(List.range k).flatMap fun (j:Nat)=>z4C (Ls.getD j []) (n+(j:Int)) (Ls.getD j []).length
theorem z5Z (n:Int) (Ls:List (List Int)) (k:Nat):z1 n Ls (k+1)=z1 n Ls k++z4C (Ls.getD k []) (n+(k:Int)) (Ls.getD k []).length:=by
 unfold z1;rw [List.range_succ,List.flatMap_append];simp
theorem z5V (L:List Int) (z:Int) (m:Nat):z4C L z (m+1)=z4C L z m++[(L.getD m 0,L.getD ((m+1) % L.length) 0,z)]:=by
 unfold z4C;rw [List.range_succ,zA8];rfl
theorem z5q (L:List Int) (z:Int):(z4C L z L.length).map (·.1)=L:=by
 unfold z4C;rw [List.map_map];exact zJb 0 L
theorem z3o (n:Int) (Ls:List (List Int)):(z1 n Ls Ls.length).map (·.1)=Ls.flatten:=by
 unfold z1;rw [List.map_flatMap]
 have: ∀ k,(List.range k).flatMap (fun j=>(z4C (Ls.getD j []) (n+(j:Int)) (Ls.getD j []).length).map (·.1))=((List.range k).map fun j=>Ls.getD j []).flatten:=fun k=>by
  rw [<- List.flatMap_def]
  congr 1
  funext j
  exact z5q _ _
 rw [this,zJb]
theorem z3i {n:Int} {Ls:List (List Int)} {k:Nat} {t:P3} :t∈z1 n Ls k↔∃ j i:Nat,j<k/\i<(Ls.getD j []).length/\t=((Ls.getD j []).getD i 0,(Ls.getD j []).getD ((i+1) % (Ls.getD j []).length) 0,n+(j:Int)):=by
 unfold z1 z4C;rw [List.mem_flatMap];constructor
 ·rintro ⟨j,hj,ht⟩;obtain ⟨i,hi,rfl⟩:=zS.1 ht;exact ⟨j,i,zW.1 hj,zW.1 hi,rfl⟩
 ·rintro ⟨j,i,hj,hi,rfl⟩;exact ⟨j,zW.2 hj,zS.2 ⟨i,zW.2 hi,rfl⟩⟩
theorem z3j {Ls:List (List Int)} {j:Nat} (h:j<Ls.length):Ls.getD j []∈Ls:=by
 rw [gdE,gE h];exact y6 h
end S1
namespace S1
def z3n (l:List Int):ReM:=l.foldl (fun m v=>zAg (.int .i64) m v true) []
theorem z4v {l:List Int} {k:Nat} (h:k<l.length):z3n (l.take (k+1))=zAg (.int .i64) (z3n (l.take k)) (l.getD k 0) true:=by
 unfold z3n;rw [yJ h,z3c,gdE,gE h];rfl
theorem z4K (l:List Int) (v:Int):had (z3n l) v=true↔v∈l:=by
 have key: ∀ (l:List Int) (m:ReM),had (l.foldl (fun m v=>zAg (.int .i64) m v true) m) v=true↔(had m v=true\/v∈l):=fun l=>by
  induction l with
  | nil=>exact fun m=>⟨.inl,fun h=>h.resolve_right (fun h=>by cases h)⟩
  | cons a r ih =>
    intro m;rw [List.foldl_cons,ih,zFW,zP]
    by_cases e:a=v
    ·subst e;simp
    ·rw [if_neg e];exact ⟨fun h=>h.imp id .inr,fun h=>h.imp id (fun h=>h.resolve_left (fun k=>e k.symm))⟩
 unfold z3n;rw [key];exact ⟨fun h=>h.resolve_left (fun h=>by cases h),.inr⟩
end S1
