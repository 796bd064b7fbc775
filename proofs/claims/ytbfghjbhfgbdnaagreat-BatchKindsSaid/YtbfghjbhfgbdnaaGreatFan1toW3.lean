/- A part of the proofs of the laws. -/
import Derived.Test.YtbfghjbhfgbdnaaGreatT0toVmInl
import Derived.Test.YtbfghjbhfgbdnaaGreatT5toT22
set_option linter.unusedSimpArgs false
set_option linter.unusedVariables false
set_option maxHeartbeats 8000000
set_option maxRecDepth 100000
open Go.Proofs.Tryz
open Go Go.Vm Go.Proofs
namespace S1
theorem zSc: ∀ (ks l:List Int),ks.Nodup->(∀ x∈ks,x∈l)->l.length<=ks.length->∀ x∈l,x∈ks
 | [],l,_,_,hl,x,hx=>by
   have:l=[]:=zDN.1 (Nat.le_zero.1 hl);subst this;cases hx
 | a::r,l,hd,hs,hl,x,hx=>by
   have hd:=yU.1 hd;have ha:=hs a (zR ..);have hle:(l.erase a).length=l.length - 1:=List.length_erase_of_mem ha;have ih:=zSc r (l.erase a) hd.2 (fun y hy=>(List.mem_erase_of_ne (fun e=>hd.1 (by rw [<- e];exact hy))).2 (hs y (zN _ hy))) (by rw [hle];simp only [zZ] at hl;omega)
   by_cases e:x=a
   ·rw [e];exact zR ..
   ·exact zN _ (ih x ((List.mem_erase_of_ne e).2 hx))
theorem zTa (t:P3) {k:Nat} (h:k<3):(trl t).getD k 0∈trl t:=zA0 (by simpa [trl] using h)
def z0n (l:List P3) (v:Int) (tris:List Int) (m:zCq):Prop:= ∀ w,∀ x∈zBV m w,x∈tris/\w∈trl (tri l x)/\w≠v
theorem z3W {l:List P3} {v i:Int} {tris:List Int} {m:zCq} {k:Nat} (hi:i∈tris) (hk:k<3) (h:z0n l v tris m):z0n l v tris (enW v i (tri l i) m k):=by
 intro w x hx;unfold enW at hx;split at hx
 ·exact h w x hx
 ·rename_i hn;rw [zE8] at hx;split at hx
  ·rename_i e;subst e;rw [z8,zF] at hx;rcases hx with hx|hx
   ·exact h _ x hx
   ·rw [hx];exact ⟨hi,zTa _ hk,hn⟩
  ·exact h w x hx
theorem zYr (l:List P3) (v:Int) (tris:List Int):z0n l v tris (enA l v tris tris.length) :=
 zAM (n:=tris.length) (fun _ (m:zCq)=>z0n l v tris m) (fun w x hx=>by simp [zBV,zAR] at hx) (fun j m hj h =>
  zAM (n:=3) (fun _ (m:zCq)=>z0n l v tris m) h (fun k m hk h=>z3W (zA0 hj) hk h) 3 (zH _)) _ (zH _)
def zFX (m:ReM):List Int:=m.map Prod.fst
theorem zJU (k:Int): ∀ m:ReM,(∀ x,x∈zFX (zAe (.int .i64) m k true)->x=k\/x∈zFX m)/\((zFX m).Nodup->(zFX (zAe (.int .i64) m k true)).Nodup)
 | []=>⟨fun x h=>by simpa [zFX,zAe] using h,fun _=>by simp [zFX,zAe]⟩
 | (a, b)::r=>by
   obtain ⟨h1,h2⟩:=zJU k r;simp only [zAe];split
   ·rename_i e;refine ⟨fun x h=> ?_,fun h=> ?_⟩
    ·exact .inr h
    ·exact h
   ·rename_i e _;refine ⟨fun x h=> ?_,fun h=> ?_⟩
    ·rcases zS.1 h with h|h
     ·exact .inr (by rw [h];exact zR ..)
     ·rcases h1 x h with h|h
      ·exact .inl h
      ·exact .inr (zN _ h)
    ·have h:=yU.1 h;refine yU.2 ⟨fun hm=> ?_,h2 h.2⟩;rcases h1 a hm with hm|hm
     ·exact e hm
     ·exact h.1 hm
structure zZ8 (tris:List Int) (Q:Int->Prop) (S:TgS):Prop where
 q: ∀ x∈S.2.1,x∈tris/\Q x
 k: ∀ x∈zFX S.2.2,x∈tris/\Q x
 nd:(zFX S.2.2).Nodup
theorem z4f {tris av:List Int} {Q:Int->Prop} {S:TgS} {j:Nat} (h:zZ8 tris Q S) (ha:av.getD j 0∈tris/\Q (av.getD j 0)):zZ8 tris Q (vis av S j):=by
 unfold vis;split
 ·exact h
 ·refine ⟨fun x hx=> ?_,fun x hx=> ?_,(zJU _ _).2 h.nd⟩
  ·rcases z8.1 hx with hx|hx
   ·exact h.q x (zAI hx)
   ·rw [zF.1 hx];exact ha
  ·rcases (zJU _ _).1 x hx with hx|hx
   ·rw [hx];exact ha
   ·exact h.k x hx
theorem z3s {l:List P3} {v i:Int} {tris:List Int} {Q:Int->Prop} {E:zCq} (hE:z0n l v tris E) (hc: ∀ i∈tris,∀ j∈tris,(∃ w,w≠v/\w∈trl (tri l i)/\w∈trl (tri l j))->Q i->Q j)
 (hi:i∈tris/\Q i) {S:TgS} (h:zZ8 tris Q S):zZ8 tris Q (jL (tgW E v (tri l i)) S 3) :=
 zAM (n:=3) (fun _ (S:TgS)=>zZ8 tris Q S) h (fun k S hk h=>by
  unfold tgW;split
  ·exact h
  ·rename_i hn
   exact zAM (n:=(zBV E ((trl (tri l i)).getD k 0)).length) (fun _ (S:TgS)=>zZ8 tris Q S) h (fun j S hj h=>by
    have:=hE _ _ (zA0 hj)
    exact z4f h ⟨this.1,hc i hi.1 _ this.1 ⟨_,this.2.2,zTa _ hk,this.2.1⟩ hi.2⟩) _ (zH _)) 3 (zH _)
theorem zZG {l:List P3} {v x0:Int} {tris:List Int} {Q:Int->Prop} {E:zCq} (hE:z0n l v tris E) (hc: ∀ i∈tris,∀ j∈tris,(∃ w,w≠v/\w∈trl (tri l i)/\w∈trl (tri l j))->Q i->Q j)
 (h0:x0∈tris/\Q x0) (r:Nat):zZ8 tris Q (tgS E l v x0 r) :=
 zAM (n:=r) (fun _ (S:TgS)=>zZ8 tris Q S) ⟨fun x hx=>by rw [zF.1 hx];exact h0,fun x hx=>by rw [zF.1 hx];exact h0,(by show [x0].Nodup;exact yU.2 ⟨by simp,jD⟩)⟩ (fun j S _ h=>by
  unfold tgR;split
  ·rename_i hs;exact z3s hE hc (h.q _ (zA0 hs)) (S:=(S.1+1,S.2.1,S.2.2)) ⟨h.q,h.k,h.nd⟩
  ·exact h) r (zH _)
theorem zZr {l:List P3} {v:Int} {tris:List Int} (ht:tris≠[]) (h:zSD l v tris=true) (Q:Int->Prop) (h0:Q (tris.getD 0 0))
 (hc: ∀ i∈tris,∀ j∈tris,(∃ w,w≠v/\w∈trl (tri l i)/\w∈trl (tri l j))->Q i->Q j): ∀ i∈tris,Q i:=by
 have hm:tris.getD 0 0∈tris:=zA0 (zAS.2 ht);have k:=zZG (x0:=tris.getD 0 0) (zYr l v tris) hc ⟨hm,h0⟩ (2*tris.length+2);unfold zSD at h;have h:=eq_of_beq h;intro i hi;refine (k.k i (zSc _ tris k.nd (fun x hx=>(k.k x hx).1) ?_ i hi)).2;unfold zFX;rw [jF];omega
end S1
namespace S1
theorem zO5 {s:List (List Int)} {w:Int} {j v:Nat} {x:Int} (hw:0<=w) (hv:v<s.length):x∈(atP s w j).getD v []↔x∈s.getD v []\/(x=j/\w=v):=by
 rw [zBt];split
 ·rename_i h;rw [z8,zF];have:w=v:=by omega
  simp [this]
 ·rename_i h;have: ¬ w=v:=fun e=>h ⟨by omega,hv⟩;simp [this]
theorem zLO {n:Nat} {l:List P3} (hl: ∀ j,j<l.length->0<=(l.getD j (0,0,0)).1/\0<=(l.getD j (0,0,0)).2.1/\0<=(l.getD j (0,0,0)).2.2) {v:Nat} (hv:v<n) :
 ∀ i,i<=l.length->∀ x:Int,x∈(atF n l i).getD v []↔∃ j:Nat,j<i/\x=j/\zV (l.getD j (0,0,0)) v
 | 0,_,x=>by
   have e:(atF n l 0).getD v []=[]:=by
    show (List.replicate n ([]:List Int)).getD v []=[];rw [gdE,yY];split<;>rfl
   rw [e];exact ⟨fun h=>(by cases h),fun ⟨j,h,_⟩=>(by omega)⟩
 | i + 1,hi,x=>by
   have ih:=zLO hl hv i (by omega) x;have hlen:(atF n l i).length=n:=(zQk n l i).1;obtain ⟨h1,h2,h3⟩:=hl i (by omega);show x∈(at3 (atF n l i) (l.getD i (0,0,0)) i).getD v []↔_;unfold at3;rw [zO5 h3 (by rw [zF2,zF2,hlen];exact hv),zO5 h2 (by rw [zF2,hlen];exact hv),zO5 h1 (by rw [hlen];exact hv),ih];constructor
   ·rintro (((⟨j,a,b,c⟩|⟨b,c⟩)|⟨b,c⟩)|⟨b,c⟩)
    ·exact ⟨j,by omega,b,c⟩
    ·exact ⟨i,by omega,b,.inl c⟩
    ·exact ⟨i,by omega,b,.inr (.inl c)⟩
    ·exact ⟨i,by omega,b,.inr (.inr c)⟩
   ·rintro ⟨j,a,b,c⟩
    by_cases e:j=i
    ·subst e;rcases c with c|c|c
     ·exact .inl (.inl (.inr ⟨b,c⟩))
     ·exact .inl (.inr ⟨b,c⟩)
     ·exact .inr ⟨b,c⟩
    ·exact .inl (.inl (.inl ⟨j,by omega,b,c⟩))
theorem zO4 {t:P3} {v:Int} :v∈trl t↔zV t v:=by
 simp only [trl,zV,zS,zAP,or_false];constructor
 ·rintro (h|h|h)
  ·exact .inl h.symm
  ·exact .inr (.inl h.symm)
  ·exact .inr (.inr h.symm)
 ·rintro (h|h|h)
  ·exact .inl h.symm
  ·exact .inr (.inl h.symm)
  ·exact .inr (.inr h.symm)
theorem zT8 {n:Int} {l:List P3} (hp:zVB (n,l)=[]) (hl: ∀ j,j<l.length->0<=(l.getD j (0,0,0)).1/\0<=(l.getD j (0,0,0)).2.1/\0<=(l.getD j (0,0,0)).2.2) {v:Nat} (hv:(v:Int)<n) (Q:Nat->Prop)
 (hc: ∀ i j:Nat,i<l.length->j<l.length->zV (l.getD i (0,0,0)) v->zV (l.getD j (0,0,0)) v->(∃ w:Int,w≠v/\zV (l.getD i (0,0,0)) w/\zV (l.getD j (0,0,0)) w)->Q i->Q j)
 {a:Nat} (ha:a<l.length) (hva:zV (l.getD a (0,0,0)) v) (hQ:Q a): ∀ i,i<l.length->zV (l.getD i (0,0,0)) v->Q i:=by
 have hvn:v<n.toNat:=by omega
 have hm:=zLO (n:=n.toNat) hl hvn l.length (zH _)
 have htog:zSD l v ((atF n.toNat l l.length).getD v [])=true:=by
  have:=jI.1 hp v (zQ.2 hvn);unfold piG at this;split at this
  ·assumption
  ·cases this
 have hne:(atF n.toNat l l.length).getD v []≠[]:=zNi n.toNat l hvn l.length ⟨a,ha,hva⟩;have tri_nat: ∀ j:Nat,tri l (j:Int)=l.getD j (0,0,0):=fun j=>rfl
 have key: ∀ R:Nat->Prop,(∀ i j:Nat,i<l.length->j<l.length->zV (l.getD i (0,0,0)) v->zV (l.getD j (0,0,0)) v->(∃ w:Int,w≠v/\zV (l.getD i (0,0,0)) w/\zV (l.getD j (0,0,0)) w)->R i->R j)->
  (∀ x,((atF n.toNat l l.length).getD v []).getD 0 0=((x:Nat):Int)->R x)->∀ i,i<l.length->zV (l.getD i (0,0,0)) v->R i:=fun R hR h0 i hi hvi=>by
  have:=zZr hne htog (fun y=> ∀ j:Nat,y=j->R j) h0 (fun y hy z hz ⟨w,h1,h2,h3⟩ hQy j e=>by
   obtain ⟨a,ha1,ha2,ha3⟩:=(hm y).1 hy;obtain ⟨b,hb1,hb2,hb3⟩:=(hm z).1 hz;have:b=j:=by omega
   subst this;subst ha2;subst hb2;rw [tri_nat,zO4] at h2 h3
   exact hR a b ha1 hb1 ha3 hb3 ⟨w,h1,h2,h3⟩ (hQy a rfl)) i ((hm i).2 ⟨i,hi,rfl,hvi⟩)
  exact this i rfl
 have hz:=(hm _).1 (zA0 (j:=0) (zAS.2 hne));obtain ⟨z,hz1,hz2,hz3⟩:=hz
 by_cases hQz:Q z
 ·exact key Q hc fun x e=>by
   have:x=z:=by omega
   rw [this];exact hQz
 ·have:=key (fun i=> ¬ Q i) (fun i j hi hj h1 h2 ⟨w,h3,h4,h5⟩ hn hq=>hn (hc j i hj hi h2 h1 ⟨w,h3,h5,h4⟩ hq)) (fun x e=>by
   have:x=z:=by omega
   rw [this];exact hQz) a ha hva
  exact absurd hQ this
end S1
namespace S1
theorem zQP (x:Int×List P3): ∀ i,i<=3*x.2.length->∀ c:Int,3*(x.2.length:Int) - i<=c->c<3*(x.2.length:Int)->∃ d,zAR .arr2 (zHW x i).1 (jP (x,[],[]) c)=some d
 | 0,_,c,h1,h2=>by omega
 | i +1,hi,c,h1,h2=>by
   show ∃ d,zAR .arr2 (zAe .arr2 (zHW x i).1 (jP (x,[],[]) (3*x.2.length - 1 - i)) (3*x.2.length - 1 - i)) _=some d
   by_cases e:jP (x,[],[]) (3*x.2.length - 1 - i)=jP (x,[],[]) c
   ·rw [e,zAt];exact ⟨_,rfl⟩
   ·rw [zBM _ e];refine zQP x i (by omega) c ?_ h2;have:c≠3*(x.2.length:Int) - 1 - i:=fun k=>e (by rw [k]);omega
theorem zVA (x:Int×List P3) (hx: ∀ c,0<=yO (x,[],[]) c\/¬ (0<=c/\c<3*(x.2.length:Int))) {v:Nat} (hv:v<x.1.toNat): ∀ i,i<=3*x.2.length->(∃ c:Int,3*(x.2.length:Int) - i<=c/\c<3*(x.2.length:Int)/\yO (x,[],[]) c=v)->
 0<=(zHW x i).2.getD v 0/\(zHW x i).2.getD v 0<3*(x.2.length:Int)/\yO (x,[],[]) ((zHW x i).2.getD v 0)=v
 | 0,_,⟨c,h1,h2,_⟩=>by omega
 | i + 1,hi,⟨c,h1,h2,h3⟩=>by
   show 0<=((zHW x i).2.set (yO (x,[],[]) (3*x.2.length - 1 - i)).toNat (3*x.2.length - 1 - i)).getD v 0/\((zHW x i).2.set (yO (x,[],[]) (3*x.2.length - 1 - i)).toNat (3*x.2.length - 1 - i)).getD v 0<_/\yO (x,[],[]) (((zHW x i).2.set (yO (x,[],[]) (3*x.2.length - 1 - i)).toNat (3*x.2.length - 1 - i)).getD v 0)=v;rw [gdE,qS]
   by_cases e:(yO (x,[],[]) (3*x.2.length - 1 - i)).toNat=v
   ·rw [if_pos e,if_pos (by rw [zGY];omega)];have:=hx (3*x.2.length - 1 - i);refine ⟨?_,?_,?_⟩
    ·show 0<=3*(x.2.length:Int) - 1 - i;omega
    ·show 3*(x.2.length:Int) - 1 - i<_;omega
    ·show yO (x,[],[]) (3*x.2.length - 1 - i)=v;rcases this with h|h<;>omega
   ·rw [if_neg e,<- gdE];refine zVA x hx hv i (by omega) ⟨c,?_,h2,h3⟩;have:c≠3*(x.2.length:Int) - 1 - i:=fun k=>e (by rw [<- k,h3];rfl);omega
theorem zSg {s:List Bool} {t:P3} {v:Nat} (h:(zMf s t).getD v false=true):s.getD v false=true\/t.1.toNat=v\/t.2.1.toNat=v\/t.2.2.toNat=v:=by
 unfold zMf at h
 by_cases h1:t.1.toNat=v
 ·exact .inr (.inl h1)
 by_cases h2:t.2.1.toNat=v
 ·exact .inr (.inr (.inl h2))
 by_cases h3:t.2.2.toNat=v
 ·exact .inr (.inr (.inr h3))
 simp only [gdE,qS,h1,h2,h3,if_false] at h;rw [gdE];exact .inl h
theorem zLf {n:Nat} {l:List P3} {v:Nat} : ∀ i,(zDE n l i).getD v false=true->∃ j,j<i/\((l.getD j (0,0,0)).1.toNat=v\/(l.getD j (0,0,0)).2.1.toNat=v\/(l.getD j (0,0,0)).2.2.toNat=v)
 | 0,h=>by
   have h:(List.replicate n false).getD v false=true:=h;rw [gdE,yY] at h;split at h<;>cases h
 | i +1,h=>by
   rcases zSg (s:=zDE n l i) h with h|h
   ·obtain ⟨j,a,b⟩:=zLf i h;exact ⟨j,by omega,b⟩
   ·exact ⟨i,by omega,h⟩
theorem zJy {s:Int×List P3} (h:zM1 s): ∀ j,j<s.2.length->0<=(s.2.getD j (0,0,0)).1/\0<=(s.2.getD j (0,0,0)).2.1/\0<=(s.2.getD j (0,0,0)).2.2:=fun j hj=>by
 have:=zAv (h.2.2.2 j hj);omega
structure Full (x:z6.T):Prop extends Good x where
 tot: ∀ c,zAY x c=true->zAR .arr2 x.2.1 (jP x c)=some c
 vtx: ∀ v:Int,0<=v->v<x.1.1->zAY x (yL x v)=true/\yO x (yL x v)=v
 pin: ∀ v:Nat,(v:Int)<x.1.1->∀ Q:Nat->Prop,
  (∀ i j:Nat,i<x.1.2.length->j<x.1.2.length->zV (x.1.2.getD i (0,0,0)) v->zV (x.1.2.getD j (0,0,0)) v->(∃ w:Int,w≠v/\zV (x.1.2.getD i (0,0,0)) w/\zV (x.1.2.getD j (0,0,0)) w)->Q i->Q j)->
  ∀ a,a<x.1.2.length->zV (x.1.2.getD a (0,0,0)) v->Q a->∀ i,i<x.1.2.length->zV (x.1.2.getD i (0,0,0)) v->Q i
theorem zIZ {x:z6.T} {j:Nat} {v:Int} (hj:j<x.1.2.length) (h:zV (x.1.2.getD j (0,0,0)) v): ∃ c,zAY x c=true/\(c / 3).toNat=j/\yO x c=v:=by
 have key: ∀ k:Int,0<=k->k<3->p3 (x.1.2.getD j (0,0,0)) k=v->∃ c,zAY x c=true/\(c / 3).toNat=j/\yO x c=v:=fun k h1 h2 e=>by
  have hc:0<=3*(j:Int)+k/\3*(j:Int)+k<3*(x.1.2.length:Int):=by omega
  refine ⟨3*j+k,z7.2 hc,by omega,?_⟩;rw [zCh hc.1 hc.2,show ((3*(j:Int)+k) / 3).toNat=j by omega,show (3*(j:Int)+k) % 3=k by omega];exact e
 rcases h with h|h|h
 ·exact key 0 (by omega) (by omega) h
 ·exact key 1 (by omega) (by omega) h
 ·exact key 2 (by omega) (by omega) h
theorem zAl {x:z6.T} {c:Int} (h:zAY x c=true):(c / 3).toNat<x.1.2.length/\zV (x.1.2.getD (c / 3).toNat (0,0,0)) (yO x c):=by
 have hc:=z7.1 h;refine ⟨by omega,?_⟩;rw [zCh hc.1 hc.2];have:c % 3=0\/c % 3=1\/c % 3=2:=by omega
 rcases this with e|e|e<;>rw [e]
 ·exact .inl rfl
 ·exact .inr (.inl rfl)
 ·exact .inr (.inr rfl)
theorem zPv {s:Int×List P3} (h:(zHh s).1=0):Full (j8 s):=by
 have hc:=zVx h;have g:=zYB hc;have hw:=zFF (zLF h);refine {g with tot:=fun c hc=> ?_,vtx:=fun v h1 h2=> ?_,pin:=fun v hv Q hQ a ha1 ha2 ha3=> ?_}
 ·have i0:=z7.1 hc;have i0:0<=c/\c<3*(s.2.length:Int):=i0;obtain ⟨d,hd⟩:=zQP s _ (zH _) c (by omega) i0.2;have hd:zAR .arr2 (j8 s).2.1 (jP (j8 s) c)=some d:=hd;obtain ⟨k1,k2⟩:=g.map _ _ hd;rw [hd,g.uniq _ _ k1 hc k2]
 ·have hl:zH4 s=[]:=hw _ (by simp);have h2:v<s.1:=h2;have hv:v.toNat<s.1.toNat:=by omega
  have:=jI.1 hl v.toNat (zQ.2 hv);unfold loG at this;split at this
  case isFalse=>cases this
  rename_i ht;obtain ⟨j,hj,e⟩:=zLf _ ht;have nn:=zJy hc.fit j hj
  obtain ⟨c,c1,c2,c3⟩:=zIZ (x:=j8 s) (v:=v) hj (by
   show (s.2.getD j (0,0,0)).1=v\/(s.2.getD j (0,0,0)).2.1=v\/(s.2.getD j (0,0,0)).2.2=v
   omega)
  have c1:=z7.1 c1;have c1:0<=c/\c<3*(s.2.length:Int):=c1
  have hat:=zVA s (fun c=>by
   by_cases h:0<=c/\c<3*(s.2.length:Int)
   ·exact .inl (zB3 (x:=(s,[],[])) hc.fit (z7.2 h)).1
   ·exact .inr h) hv _ (zH _) ⟨c,by omega,c1.2,by have:yO (s,[],[]) c=v:=c3;omega⟩
  have e:yL (j8 s) v=(zHW s (3*s.2.length)).2.getD v.toNat 0:=by
   unfold yL;rw [if_pos (by show 0<=v/\v<((zHW s _).2.length:Int);rw [zGY];omega)];rfl
  rw [e];refine ⟨z7.2 ⟨hat.1,hat.2.1⟩,?_⟩;have:=hat.2.2;show yO (s,[],[]) _=v;omega
 ·exact zT8 (n:=s.1) (l:=s.2) (hw (zVB s) (by simp)) (zJy hc.fit) hv Q hQ ha1 ha2 ha3
section
variable {x:z6.T} {c d:Int}
theorem np (h:zAY x c=true):jM x (jH x c)=c/\jH x (jM x c)=c/\jM x (jM x c)=jH x c/\jH x (jH x c)=jM x c:=by
 have h1:=zA8 h;rw [zBI h1.1,zBI h1.2,zBj h1.1,zBj h1.2,zBI h,zBj h];unfold trn;omega
theorem zNM (h:zAY x c=true):jP x (jM x c)=(yO x (jH x c),yO x c):=by
 unfold jP;rw [(np h).2.2.1,(np h).2.1]
theorem zN6 (h:zAY x c=true):jP x (jH x c)=(yO x c,yO x (jM x c)):=by
 unfold jP;rw [(np h).1,(np h).2.2.2]
theorem Good.ne (g:Good x) (h:zAY x c=true):yO x c≠yO x (jM x c)/\yO x c≠yO x (jH x c)/\yO x (jM x c)≠yO x (jH x c):=by
 have h1:=g.ends _ (zA8 h).1;have h2:=g.ends _ (zA8 h).2;have h3:=g.ends _ h;rw [zNM h] at h1;rw [zN6 h] at h2;exact ⟨h2,fun e=>h1 e.symm,h3⟩
theorem Good.same (g:Good x) (hc:zAY x c=true) (hd:zAY x d=true) (h1:yO x c=yO x d) (h2:yO x (jM x c)=yO x (jM x d)):c=d:=by
 have:=g.uniq _ _ (zA8 hc).2 (zA8 hd).2 (by rw [zN6 hc,zN6 hd,h1,h2]);rw [<- (np hc).1,<- (np hd).1,this]
theorem Good.sameP (g:Good x) (hc:zAY x c=true) (hd:zAY x d=true) (h1:yO x c=yO x d) (h2:yO x (jH x c)=yO x (jH x d)):c=d:=by
 have:=g.uniq _ _ (zA8 hc).1 (zA8 hd).1 (by rw [zNM hc,zNM hd,h1,h2]);rw [<- (np hc).2.1,<- (np hd).2.1,this]
theorem Good.after_v (g:Good x) (h:0<=yB x c):yO x (yB x c)=yO x c/\yO x (jM x (yB x c))=yO x (jH x c):=by
 obtain ⟨h1,h2,h3⟩:=g.after_has h;obtain ⟨k1,k2,k3⟩:=g.opp h3;rw [zNM h1] at k3;have e:yB x c=jM x (zA2 x (jM x c)):=by unfold yB;rw [if_neg (by omega)]
 rw [e,(np k2).2.2.1];exact ⟨congrArg Prod.fst k3,congrArg Prod.snd k3⟩
theorem Good.before_v (g:Good x) (h:0<=yC x c):yO x (yC x c)=yO x c/\yO x (jH x (yC x c))=yO x (jM x c):=by
 obtain ⟨h1,h2,h3⟩:=g.before_has h;obtain ⟨k1,k2,k3⟩:=g.opp h3;rw [zN6 h1] at k3;have e:yC x c=jH x (zA2 x (jH x c)):=by unfold yC;rw [if_neg (by omega)]
 rw [e,(np k2).2.2.2];exact ⟨congrArg Prod.snd k3,congrArg Prod.fst k3⟩
theorem Full.facing (g:Full x) (h:zAY x d=true):qR x (jP x d)=d:=by
 unfold qR;rw [g.tot d h];rfl
theorem Full.opp_is (g:Full x) (hd:zAY x d=true) (h:jP x d=((jP x c).2,(jP x c).1)):zA2 x c=d:=by
 unfold zA2;rw [<- h];exact g.facing hd
theorem Full.after_is (g:Full x) (hc:zAY x c=true) (hd:zAY x d=true) (h1:yO x d=yO x c) (h2:yO x (jM x d)=yO x (jH x c)):yB x c=d:=by
 have e:zA2 x (jM x c)=jH x d:=g.opp_is (zA8 hd).2 (by rw [zN6 hd,zNM hc,h1,h2]);have:=z7.1 (zA8 hd).2;unfold yB;rw [if_neg (by rw [e];omega),e,(np hd).1]
theorem Full.before_is (g:Full x) (hc:zAY x c=true) (hd:zAY x d=true) (h1:yO x d=yO x c) (h2:yO x (jH x d)=yO x (jM x c)):yC x c=d:=by
 have e:zA2 x (jH x c)=jM x d:=g.opp_is (zA8 hd).1 (by rw [zNM hd,zN6 hc,h1,h2]);have:=z7.1 (zA8 hd).1;unfold yC;rw [if_neg (by rw [e];omega),e,(np hd).2.1]
theorem Full.before_after (g:Full x) (h:0<=yB x c):yC x (yB x c)=c:=by
 obtain ⟨h1,h2,_⟩:=g.after_has h;have:=g.after_v h;exact g.before_is h2 h1 this.1.symm this.2.symm
theorem Full.after_before (g:Full x) (h:0<=yC x c):yB x (yC x c)=c:=by
 obtain ⟨h1,h2,_⟩:=g.before_has h;have:=g.before_v h;exact g.after_is h2 h1 this.1.symm this.2.symm
end
theorem zIe {x:z6.T} (g:Good x) {b:Int} : ∀ n k,k+n=30000->zPE (yB x) b k->∀ y∈jX x b n (iter (yB x) b k),yB x y<0\/yB x y=b\/yB x y∈jX x b n (iter (yB x) b k)
 | 0,k,e,h,y,hy=>by have:=zBF g h;omega
 | n + 1,k,e,h,y,hy=>by
   unfold jX at hy ⊢
   by_cases h1:yB x (iter (yB x) b k)<0
   ·rw [if_pos h1] at hy;rw [zF.1 hy];exact .inl h1
   ·rw [if_neg h1] at hy ⊢
    by_cases h2:yB x (iter (yB x) b k)=b
    ·rw [if_pos h2] at hy;rw [zF.1 hy];exact .inr (.inl h2)
    ·rw [if_neg h2] at hy ⊢
     have hn:iter (yB x) b (k+1)∈jX x b n (iter (yB x) b (k+1)):=by
      obtain ⟨m,rfl⟩: ∃ m,n=m+1:=⟨n - 1,by have:=zBF g (h.succ h1 h2);omega⟩;unfold jX;exact zR ..
     rcases zS.1 hy with hy|hy
     ·rw [hy];exact .inr (.inr (zN _ hn))
     ·rcases zIe g n (k+1) (by omega) (h.succ h1 h2) y hy with h|h|h
      ·exact .inl h
      ·exact .inr (.inl h)
      ·exact .inr (.inr (zN _ h))
theorem zCc {x:z6.T} {b:Int} (P:Int->Prop) (hs: ∀ c,P c->0<=yB x c->P (yB x c)): ∀ n c,P c->∀ y∈jX x b n c,P y
 | 0,c,_,y,hy=>by cases hy
 | n + 1,c,h,y,hy=>by
   unfold jX at hy;split at hy
   ·rw [zF.1 hy];exact h
   ·split at hy
    ·rw [zF.1 hy];exact h
    ·rcases zS.1 hy with hy|hy
     ·rw [hy];exact h
     ·exact zCc P hs n _ (hs c h (by omega)) y hy
theorem zIt {x:z6.T} (g:Good x) {c0:Int} : ∀ n k,k+n=30000->zPE (yC x) c0 k->∃ m,zPE (yC x) c0 m/\
 ((zDb x c0 n (iter (yC x) c0 k)=(iter (yC x) c0 m,true)/\yC x (iter (yC x) c0 m)<0)\/(zDb x c0 n (iter (yC x) c0 k)=(c0,false)/\yC x (iter (yC x) c0 m)=c0))
 | 0,k,e,h=>by have:=zKS g h;omega
 | n + 1,k,e,h=>by
   unfold zDb
   by_cases h1:yC x (iter (yC x) c0 k)<0
   ·rw [if_pos h1];exact ⟨k,h,.inl ⟨rfl,h1⟩⟩
   ·rw [if_neg h1]
    by_cases h2:yC x (iter (yC x) c0 k)=c0
    ·rw [if_pos h2];exact ⟨k,h,.inr ⟨rfl,h2⟩⟩
    ·rw [if_neg h2];exact zIt g n (k+1) (by omega) (h.succ h1 h2)
theorem zNl {x:z6.T} {v:Int} :zCH x v=true↔0<=v/\v<x.1.1/\0<=yL x v:=by
 simp only [zCH,zA,zB]
theorem Full.there {x:z6.T} (g:Full x) {v:Int} (h0:0<=v) (h1:v<x.1.1):zCH x v=true :=
 zNl.2 ⟨h0,h1,(z7.1 (g.vtx v h0 h1).1).1⟩
theorem Full.around {x:z6.T} (g:Full x) {v:Int} (h0:0<=v) (h1:v<x.1.1) :
 ∃ b,(zAd x v).1=b/\yS (some x) v=jX x b 30000 b/\zAY x b=true/\yO x b=v/\b∈yS (some x) v/\(∀ y∈yS (some x) v,zAY x y=true/\yO x y=v)/\
 (∀ y∈yS (some x) v,0<=yB x y->yB x y∈yS (some x) v)/\(∀ y∈yS (some x) v,0<=yC x y->yC x y∈yS (some x) v)/\
 (((zAd x v).2=true/\yC x b<0)\/((zAd x v).2=false/\∀ y∈yS (some x) v,0<=yB x y)):=by
 obtain ⟨k1,k2⟩:=g.vtx v h0 h1;have e:=zEo (x:=x) h0 h1 (z7.1 k1).1;obtain ⟨m,hm,hend⟩:=zIt g.toGood (c0:=yL x v) 30000 0 (by omega) (fun j a b=>by omega);have hend:(zAd x v=(iter (yC x) (yL x v) m,true)/\yC x (iter (yC x) (yL x v) m)<0)\/(zAd x v=(yL x v,false)/\yC x (iter (yC x) (yL x v) m)=yL x v):=hend
 have itok: ∀ j,j<=m->zAY x (iter (yC x) (yL x v) j)=true/\yO x (iter (yC x) (yL x v) j)=v:=fun j=>by
  induction j with
  | zero=>exact fun _=>⟨k1,k2⟩
  | succ j ih =>
    intro hj;have hp:0<=yC x (iter (yC x) (yL x v) j):=(hm (j+1) (by omega) hj).1;exact ⟨(g.before_has hp).2.1,(g.before_v hp).1.trans (ih (by omega)).2⟩
 have hb:zAY x (zAd x v).1=true/\yO x (zAd x v).1=v:=by
  rcases hend with ⟨h,_⟩|⟨h,_⟩
  ·rw [h];exact itok m (zH _)
  ·rw [h];exact ⟨k1,k2⟩
 have hin:(zAd x v).1∈yS (some x) v:=by rw [e];unfold jX;exact zR ..
 have hall: ∀ y∈yS (some x) v,zAY x y=true/\yO x y=v:=by
  rw [e];exact zCc _ (fun c hc ha=>⟨(g.after_has ha).2.1,(g.after_v ha).1.trans hc.2⟩) _ _ hb
 have haft: ∀ y∈yS (some x) v,0<=yB x y->yB x y∈yS (some x) v:=fun y hy ha=>by
  rw [e] at hy;rcases zIe g.toGood 30000 0 rfl (fun j a b=>by omega) y hy with h|h|h
  ·omega
  ·rw [h];exact hin
  ·rw [e];exact h
 have hcyc:(zAd x v).2=false->∀ y∈yS (some x) v,0<=yB x y/\∃ j,j<=m/\y=iter (yC x) (yL x v) j:=fun hf=>by
  rcases hend with ⟨h,_⟩|⟨h,hr⟩
  ·rw [h] at hf;cases hf
  ·have key: ∀ j,j<=m->0<=yB x (iter (yC x) (yL x v) j)/\∃ i,i<=m/\yB x (iter (yC x) (yL x v) j)=iter (yC x) (yL x v) i:=fun j hj=>by
    cases j with
    | zero =>
      have h0:0<=yL x v:=(z7.1 k1).1;have:=g.after_before (c:=iter (yC x) (yL x v) m) (by rw [hr];exact h0);rw [hr] at this;show 0<=yB x (yL x v)/\∃ i,i<=m/\yB x (yL x v)=_;rw [this];exact ⟨(z7.1 (itok m (zH _)).1).1,m,zH _,rfl⟩
    | succ j =>
      have hp:0<=yC x (iter (yC x) (yL x v) j):=(hm (j+1) (by omega) hj).1;have:yB x (iter (yC x) (yL x v) (j+1))=iter (yC x) (yL x v) j:=g.after_before hp;rw [this];exact ⟨(z7.1 (itok j (by omega)).1).1,j,by omega,rfl⟩
   have: ∀ y∈yS (some x) v,∃ j,j<=m/\y=iter (yC x) (yL x v) j:=by
    rw [e];refine zCc _ (fun c ⟨j,hj,hc⟩ _=> ?_) _ _ ⟨0,by omega,by rw [h];rfl⟩;obtain ⟨_,i,hi,e⟩:=key j hj;exact ⟨i,hi,by rw [hc];exact e⟩
   intro y hy;obtain ⟨j,hj,ej⟩:=this y hy;exact ⟨by rw [ej];exact (key j hj).1,j,hj,ej⟩
 have hbef : ∀ y∈yS (some x) v,0<=yC x y->yC x y∈yS (some x) v:=by
  have hP : ∀ y∈yS (some x) v,(0<=yC x y->yC x y∈yS (some x) v):=by
   intro y hy
   have:y∈yS (some x) v/\(0<=yC x y->yC x y∈yS (some x) v):=by
    have hy2:=hy;rw [e] at hy2;refine zCc (fun y=>y∈yS (some x) v/\(0<=yC x y->yC x y∈yS (some x) v)) (fun c ⟨hc,_⟩ ha=>⟨haft c hc ha,fun _=>by rw [g.before_after ha];exact hc⟩) _ _ ⟨hin,fun hp=> ?_⟩ y hy2;rcases hend with ⟨h,hn⟩|⟨h,hr⟩
    ·rw [h] at hp;exact absurd hp (by show ¬ 0<=yC x (iter (yC x) (yL x v) m);omega)
    ·-- the walk forward: some round its end is the first again
     have hc:=hcyc (by rw [h])
     have hz:yC x (yL x v)∈yS (some x) v:=by
      -- each iterate is in it
      have back: ∀ i j,j+i=m->iter (yC x) (yL x v) j∈yS (some x) v:=fun i=>by
       induction i with
       | zero =>
         intro j hj;have hj:j=m:=by omega
         subst hj;have h0:0<=yL x v:=(z7.1 k1).1;have e1:=g.after_before (c:=iter (yC x) (yL x v) j) (by rw [hr];exact h0);rw [hr] at e1;have:=haft (yL x v) (by rw [h] at hin;exact hin) (by rw [e1];exact (z7.1 (itok j (zH _)).1).1);rw [e1] at this;exact this
       | succ i ih =>
         intro j hj;have h2:=ih (j+1) (by omega);have hp:0<=yC x (iter (yC x) (yL x v) j):=(hm (j+1) (by omega) (by omega)).1;have e1:yB x (iter (yC x) (yL x v) (j+1))=iter (yC x) (yL x v) j:=g.after_before hp;have:=haft _ h2 (by rw [e1];exact (z7.1 (itok j (by omega)).1).1);rw [e1] at this;exact this
      by_cases hm0:m=0
      ·subst hm0;have hr:yC x (yL x v)=yL x v:=hr;rw [hr];rw [h] at hin;exact hin
      ·exact back (m - 1) 1 (by omega)
     rw [h];exact hz
   exact this.2
  exact hP
 refine ⟨_,rfl,e,hb.1,hb.2,hin,hall,haft,hbef,?_⟩;rcases hend with ⟨h,hn⟩|⟨h,hr⟩
 ·exact .inl ⟨by rw [h],by rw [h];exact hn⟩
 ·exact .inr ⟨by rw [h],fun y hy=>(hcyc (by rw [h]) y hy).1⟩
theorem Full.around_all {x:z6.T} (g:Full x) {c:Int} (hc:zAY x c=true):c∈yS (some x) (yO x c):=by
 have hv:=zB3 g.fit hc;obtain ⟨b,_,_,hb1,hb2,hb3,hall,haft,hbef,_⟩:=g.around hv.1 hv.2;obtain ⟨v,hv2⟩: ∃ v:Nat,yO x c=v:=⟨(yO x c).toNat,by omega⟩;rw [hv2] at hall haft hbef hb2 hb3 ⊢;have hn:(v:Int)<x.1.1:=by omega
 have tb:=zAl hb1;have tc:=zAl hc;rw [hb2] at tb;rw [hv2] at tc
 have hQ:=g.pin v hn (fun i=> ∃ y∈yS (some x) v,(y / 3).toNat=i) (fun i j hi hj hvi hvj ⟨w,hw,hwi,hwj⟩ ⟨y,hy,ey⟩=>by
  obtain ⟨hy1,hy2⟩:=hall y hy;obtain ⟨d,d1,d2,d3⟩:=zIZ hj hvj
  -- the other vertex, in both
  have two: ∀ {y:Int},zAY x y=true->yO x y=v->zV (x.1.2.getD (y / 3).toNat (0,0,0)) w->w=yO x (jM x y)\/w=yO x (jH x y):=fun {y} h1 h2 h3=>by
   obtain ⟨a,a1,a2,a3⟩:=zIZ (zAl h1).1 h3;have i1:=z7.1 h1;have i2:=z7.1 a1
   have:a=y\/a=jM x y\/a=jH x y:=by
    rw [zBI h1,zBj h1];unfold trn;omega
   rcases this with e|e|e
   ·subst e;exact absurd (a3.symm.trans h2) hw
   ·subst e;exact .inl a3.symm
   ·subst e;exact .inr a3.symm
  have wy:=two hy1 hy2 (by rw [ey];exact hwi);have wd:=two d1 d3 (by rw [d2];exact hwj);refine ⟨d,?_,d2⟩;have evd:yO x y=yO x d:=hy2.trans d3.symm;have nn:=(z7.1 d1).1;rcases wy with wy|wy<;>rcases wd with wd|wd
  ·rw [<- g.same hy1 d1 evd (wy.symm.trans wd)];exact hy
  ·have:=g.before_is hy1 d1 evd.symm (wd.symm.trans wy);have h2:=hbef y hy (by rw [this];exact nn);rw [this] at h2;exact h2
  ·have:=g.after_is hy1 d1 evd.symm (wd.symm.trans wy);have h2:=haft y hy (by rw [this];exact nn);rw [this] at h2;exact h2
  ·rw [<- g.sameP hy1 d1 evd (wy.symm.trans wd)];exact hy) _ tb.1 tb.2 ⟨b,hb3,rfl⟩ _ tc.1 tc.2
 obtain ⟨y,hy,ey⟩:=hQ;obtain ⟨hy1,hy2⟩:=hall y hy;have i1:=z7.1 hc;have i2:=z7.1 hy1
 have:y=c\/y=jM x c\/y=jH x c:=by
  rw [zBI hc,zBj hc];unfold trn;omega
 have hne:=g.ne hc;rcases this with e|e|e
 ·rw [<- e];exact hy
 ·rw [e] at hy2;exact absurd (hv2.trans hy2.symm) hne.1
 ·rw [e] at hy2;exact absurd (hv2.trans hy2.symm) hne.2.1
end S1
namespace S1
theorem zP2 {l:List Int} (h:l.Pairwise (·<=·)):zBl l=l:=by
 unfold zBl;exact List.mergeSort_of_pairwise (h.imp fun h=>by simpa using h)
theorem zHB (l:List Int):(zBl l).Perm l:=by unfold zBl;exact List.mergeSort_perm _ _
theorem zHP (l:List Int):(zBl l).Pairwise (·<=·):=by
 have:=List.pairwise_mergeSort (le:=fun x y:Int=>decide (x<=y)) (fun a b c h1 h2=>by simp at *;omega) (fun a b=>by simp;omega) l;unfold zBl;exact this.imp fun h=>by simpa using h
theorem zNc {l m:List Int} (hp:l.Perm m) (h1:l.Pairwise (·<=·)) (h2:m.Pairwise (·<=·)):l=m :=
 hp.eq_of_pairwise (fun a b _ _ h1 h2=>by omega) h1 h2
def zPr (a b c:Int):List Int:=if a<=b then (if b<=c then [a,b,c] else if a<=c then [a,c,b] else [c,a,b]) else (if a<=c then [b,a,c] else if b<=c then [b,c,a] else [c,b,a])
theorem z1q (a b c:Int):zBl [a,b,c]=zPr a b c:=by
 refine zNc ((zHB _).trans ?_) (zHP _) ?_
 ·unfold zPr
  repeat' split
  ·exact .refl _
  ·exact .cons _ (.swap ..)
  ·exact (List.Perm.cons _ (.swap ..)).trans (.swap ..)
  ·exact .swap ..
  ·exact (List.Perm.swap ..).trans (.cons _ (.swap ..))
  ·exact ((List.Perm.swap ..).trans (.cons _ (.swap ..))).trans (.swap ..)
 ·unfold zPr
  repeat' split
  all_goals simp;omega
def zNv (t:P3):List P3:=[((zPr t.1 t.2.1 t.2.2).getD 0 0,(zPr t.1 t.2.1 t.2.2).getD 1 0,(zPr t.1 t.2.1 t.2.2).getD 2 0)]
theorem zU3:zDz=zNv:=by
 funext t
 unfold zDz zNv s3;rw [z1q]
def zZu (s:Int×List P3):List Wit:=zD1 [zBm s,dgL s.2 s.2.length,(prS jC 3 s.2 s.2.length).2.2,(prS zNv 4 s.2 s.2.length).2.2,zH4 s,zVB s]
theorem z0y (s:Int×List P3):allR s=zZu s:=by unfold allR zZu;rw [zU3]
def z2W (s:Int×List P3):Wit:=(zZu s).headD (0,0,0)
theorem z1X (s:Int×List P3):zHh s=z2W s:=by unfold zHh z2W;rw [z0y]
end S1
namespace S1
abbrev tg (l:List P3) (i:Nat):P3:=l.getD i (0,0,0)
def dE (t:P3) (a b:Int):Prop:=(t.1=a/\t.2.1=b)\/(t.2.1=a/\t.2.2=b)\/(t.2.2=a/\t.1=b)
def dgn (t:P3):Prop:=t.1=t.2.1\/t.2.1=t.2.2\/t.2.2=t.1
def z5C (l:List P3) (v:Int):Prop:= ∀ Q:Nat->Prop,
    (∀ i j:Nat,i<l.length->j<l.length->zV (tg l i) v->zV (tg l j) v->(∃ w:Int,w≠v/\zV (tg l i) w/\zV (tg l j) w)->Q i->Q j)->
    ∀ a,a<l.length->zV (tg l a) v->Q a->∀ i,i<l.length->zV (tg l i) v->Q i
structure zDM (s:Int×List P3):Prop where
 fit:zM1 s
 deg: ∀ i,i<s.2.length->¬ dgn (tg s.2 i)
 dif: ∀ i j,i<j->j<s.2.length->∀ a b,dE (tg s.2 i) a b->¬ dE (tg s.2 j) a b
 mir: ∀ i j,i<j->j<s.2.length->¬ (zV (tg s.2 j) (tg s.2 i).1/\zV (tg s.2 j) (tg s.2 i).2.1/\zV (tg s.2 j) (tg s.2 i).2.2)
 use: ∀ v:Nat,(v:Int)<s.1->∃ j,j<s.2.length/\zV (tg s.2 j) v
 pin: ∀ v:Nat,(v:Int)<s.1->z5C s.2 v
def keys (kp:P3->List P3) (l:List P3) (i:Nat):List P3:=(l.take i).flatMap kp
theorem zMZ (kp:P3->List P3) {l:List P3} {i:Nat} (h:i<l.length):keys kp l (i+1)=keys kp l i++kp (tg l i):=by
 unfold keys tg;rw [yH h,List.flatMap_append,gdE,gE h];simp
structure KFw (pre:List P3) (s:zIa×PS):Prop where
 seen:s.2.1=[]
 nd:pre.Nodup
 had: ∀ k∈pre,zAc s.1 k≠[]
theorem zYg {kind:Int} {i m:Nat} {ks pre:List P3} {s:zIa×PS} (h:s.2.2=[]->KFw pre s) (h2:(prK kind i ks s m).2.2=[]):s.2.2=[]/\KFw (pre++[ks.getD m (0,0,0)]) (prK kind i ks s m):=by
 have h3:=zIq h2;have h0:s.2.2=[]:=by rw [<- h3.1];exact h2
 have u:=h h0
 have he:zAc s.1 (ks.getD m (0,0,0))=[]:=by
  cases e:zAc s.1 (ks.getD m (0,0,0)) with
  | nil=>rfl
  | cons a r =>
    have:=h3.2 0 (by rw [e];simp);rw [u.seen] at this;cases this
 refine ⟨h0,(congrArg Prod.fst h3.1).trans u.seen,?_,fun k hk=> ?_⟩
 ·rw [List.nodup_append];refine ⟨u.nd,yU.2 ⟨by simp,jD⟩,fun a ha b hb e=> ?_⟩;rw [zF] at hb;subst hb;subst e;exact u.had _ ha he
 ·show zAc (zAe .arr3 s.1 (ks.getD m (0,0,0)) (zAc s.1 (ks.getD m (0,0,0))++[(i:Int)])) k≠[];rw [zE0];split
  ·simp
  ·rename_i hne;rcases z8.1 hk with hk|hk
   ·exact u.had k hk
   ·rw [zF] at hk;exact absurd hk.symm hne
theorem zNC {kind:Int} {i:Nat} {ks pre:List P3} {s:zIa×PS} (h:s.2.2=[]->KFw pre s): ∀ m,m<=ks.length->(jL (prK kind i ks) s m).2.2=[]->KFw (pre++ks.take m) (jL (prK kind i ks) s m)
 | 0,_,h2=>by rw [List.take_zero,yJ];exact h h2
 | m+1,hm,h2=>by
   have:=(zYg (kind:=kind) (i:=i) (m:=m) (ks:=ks) (fun h'=>zNC h m (by omega) h') h2).2;rw [zHd] at this;rw [yH (by omega)];rw [gdE,gE (by omega)] at this;exact this
theorem zSy (kp:P3->List P3) (kind:Int) (l:List P3): ∀ i,i<=l.length->(prS kp kind l i).2.2=[]->KFw (keys kp l i) (prS kp kind l i)
 | 0,_,_=>⟨rfl,jD,fun k h=>(by cases h)⟩
 | i+1,hi,h=>by
   have h:(jL (prK kind i (kp (tg l i))) (prS kp kind l i) (kp (tg l i)).length).2.2=[]:=h;have:=zNC (kind:=kind) (i:=i) (ks:=kp (tg l i)) (fun h'=>zSy kp kind l i (by omega) h') _ (zH _) h;rw [qI] at this;rw [zMZ kp (by omega)];exact this
structure KBw (pre:List P3) (s:zIa×PS):Prop where
 z:s.2=([],[])
 had: ∀ k,zAc s.1 k≠[]->k∈pre
theorem zNE {kind:Int} {i:Nat} {ks pre:List P3} {s:zIa×PS} (h:KBw pre s) (hn:(pre++ks).Nodup): ∀ m,m<=ks.length->KBw (pre++ks.take m) (jL (prK kind i ks) s m)
 | 0,_=>by rw [List.take_zero,yJ];exact h
 | m + 1,hm=>by
   have ih:=zNE (kind:=kind) (i:=i) h hn m (by omega)
   have e1:ks.take (m+1)=ks.take m++[ks.getD m (0,0,0)]:=by
    rw [yH (by omega),gdE,gE (by omega)];rfl
   have hnew:ks.getD m (0,0,0)∉pre++ks.take m:=by
    have h2:(pre++ks.take (m+1)).Nodup:=by
     have:(pre++ks.take (m+1)).Sublist (pre++ks):=List.Sublist.append (List.Sublist.refl _) (List.take_sublist _ _);exact this.nodup hn
    rw [e1,<- zHd,List.nodup_append] at h2;exact fun hm=>h2.2.2 _ hm _ (zF.2 rfl) rfl
   have he:zAc (jL (prK kind i ks) s m).1 (ks.getD m (0,0,0))=[]:=by
    by_cases e:zAc (jL (prK kind i ks) s m).1 (ks.getD m (0,0,0))=[]
    ·exact e
    ·exact absurd (ih.had _ e) hnew
   refine ⟨?_,fun k hk=> ?_⟩
   ·show jL (prA kind i (zAc (jL (prK kind i ks) s m).1 (ks.getD m (0,0,0)))) (jL (prK kind i ks) s m).2 (zAc (jL (prK kind i ks) s m).1 (ks.getD m (0,0,0))).length=_;rw [he];exact ih.z
   ·have hk:zAc (zAe .arr3 (jL (prK kind i ks) s m).1 (ks.getD m (0,0,0)) (zAc (jL (prK kind i ks) s m).1 (ks.getD m (0,0,0))++[(i:Int)])) k≠[]:=hk;rw [zE0] at hk;rw [e1,<- zHd];split at hk
    ·rename_i e;subst e;exact zAa _ (zF.2 rfl)
    ·exact zAJ _ (ih.had k hk)
theorem zT0 (kp:P3->List P3) (kind:Int) (l:List P3) (hn:(keys kp l l.length).Nodup): ∀ i,i<=l.length->KBw (keys kp l i) (prS kp kind l i)
 | 0,_=>⟨rfl,fun k h=>absurd rfl h⟩
 | i + 1,hi=>by
   have ih:=zT0 kp kind l hn i (by omega)
   have hn2:(keys kp l (i+1)).Nodup:=by
    have:(keys kp l (i+1)).Sublist (keys kp l l.length):=by
     unfold keys;have e:l.flatMap kp=(l.take (i+1)).flatMap kp++(l.drop (i+1)).flatMap kp:=by rw [<- List.flatMap_append,zAV]
     rw [qI,e];exact List.sublist_append_left _ _
    exact this.nodup hn
   rw [zMZ kp (by omega)] at hn2 ⊢;have:=zNE (kind:=kind) (i:=i) (ks:=kp (tg l i)) ih hn2 _ (zH _);rw [qI] at this;exact this
theorem zUV (kp:P3->List P3) (kind:Int) (l:List P3):(prS kp kind l l.length).2.2=[]↔(l.flatMap kp).Nodup:=by
 have e:keys kp l l.length=l.flatMap kp:=by unfold keys;rw [qI]
 constructor
 ·intro h;have:=(zSy kp kind l _ (zH _) h).nd;rw [e] at this;exact this
 ·intro h;rw [<- e] at h;rw [(zT0 kp kind l h _ (zH _)).z]
theorem zKZ (kp:P3->List P3) (l:List P3):(l.flatMap kp).Nodup↔(∀ i,i<l.length->(kp (tg l i)).Nodup)/\∀ i j,i<j->j<l.length->∀ a∈kp (tg l i),a∉kp (tg l j):=by
 unfold List.Nodup;rw [List.pairwise_flatMap,List.pairwise_iff_getElem];have g: ∀ i (h:i<l.length),tg l i=l[i]:=fun i h=>by unfold tg;rw [gdE,gE h];rfl
 constructor
 ·rintro ⟨h1,h2⟩;refine ⟨fun i hi=>by rw [g i hi];exact h1 _ (qF hi),fun i j hij hj a ha hb=> ?_⟩;rw [g i (by omega)] at ha;rw [g j hj] at hb;exact h2 i j (by omega) hj hij a ha a hb rfl
 ·rintro ⟨h1,h2⟩;refine ⟨fun t ht=> ?_,fun i j hi hj hij a ha b hb e=> ?_⟩
  ·obtain ⟨i,hi,e⟩:=yI.1 ht;have:=h1 i hi;rw [g i hi,e] at this;exact this
  ·subst e;have:=h2 i j hij hj a;rw [g i hi,g j hj] at this;exact this ha hb
theorem zEq (t:P3) (k:P3):k∈jC t↔k.2.2=0/\dE t k.1 k.2.1:=by
 obtain ⟨a,b,c⟩:=k;simp only [jC,dE,zS,zAP,or_false,zBC];constructor
 ·rintro (⟨h1,h2,h3⟩|⟨h1,h2,h3⟩|⟨h1,h2,h3⟩)
  ·exact ⟨h3,.inl ⟨h1.symm,h2.symm⟩⟩
  ·exact ⟨h3,.inr (.inl ⟨h1.symm,h2.symm⟩)⟩
  ·exact ⟨h3,.inr (.inr ⟨h1.symm,h2.symm⟩)⟩
 ·rintro ⟨h3,(⟨h1,h2⟩|⟨h1,h2⟩|⟨h1,h2⟩)⟩
  ·exact .inl ⟨h1.symm,h2.symm,h3⟩
  ·exact .inr (.inl ⟨h1.symm,h2.symm,h3⟩)
  ·exact .inr (.inr ⟨h1.symm,h2.symm,h3⟩)
theorem zND {l:List P3} (hd: ∀ i,i<l.length->¬ dgn (tg l i)):(prS jC 3 l l.length).2.2=[]↔∀ i j,i<j->j<l.length->∀ a b,dE (tg l i) a b->¬ dE (tg l j) a b:=by
 rw [zUV,zKZ];constructor
 ·rintro ⟨_,h⟩ i j hij hj a b h1 h2;exact h i j hij hj (a,b,0) ((zEq _ _).2 ⟨rfl,h1⟩) ((zEq _ _).2 ⟨rfl,h2⟩)
 ·intro h;refine ⟨fun i hi=> ?_,fun i j hij hj k h1 h2=>h i j hij hj _ _ ((zEq _ _).1 h1).2 ((zEq _ _).1 h2).2⟩;have:=hd i hi;unfold dgn at this;simp only [jC,yU,zS,zAP,or_false,zBC,not_false_eq_true,jD,and_true,true_and];refine ⟨?_,?_⟩<;>omega
theorem zX6 {a b c d e f:Int} (h: ¬ (a=b\/b=c\/c=a)) (h': ¬ (d=e\/e=f\/f=d)):zPr a b c=zPr d e f↔((d=a\/e=a\/f=a)/\(d=b\/e=b\/f=b)/\(d=c\/e=c\/f=c)):=by
 unfold zPr;constructor
 ·intro h
  repeat' split at h
  all_goals (simp only [List.cons.injEq,and_true] at h;omega)
 ·intro h
  repeat' split
  all_goals (simp only [List.cons.injEq,and_true];omega)
theorem zQU (a b c:Int):[(zPr a b c).getD 0 0,(zPr a b c).getD 1 0,(zPr a b c).getD 2 0]=zPr a b c:=by
 unfold zPr
 repeat' split
 all_goals rfl
theorem zN2 {t u:P3} (ht: ¬ dgn t) (hu: ¬ dgn u) {k:P3} (h:k∈zNv t):k∈zNv u↔(zV u t.1/\zV u t.2.1/\zV u t.2.2):=by
 unfold zNv at *;rw [zF] at h ⊢;unfold zV;rw [<- zX6 ht hu,h];constructor
 ·intro e;rw [<- zQU t.1,<- zQU u.1];simp only [zBC] at e;rw [e.1,e.2.1,e.2.2]
 ·intro e;rw [e]
theorem zWV {l:List P3} (hd: ∀ i,i<l.length->¬ dgn (tg l i)):(prS zDz 4 l l.length).2.2=[]↔∀ i j,i<j->j<l.length->¬ (zV (tg l j) (tg l i).1/\zV (tg l j) (tg l i).2.1/\zV (tg l j) (tg l i).2.2):=by
 rw [zU3,zUV,zKZ];constructor
 ·rintro ⟨_,h⟩ i j hij hj e;have hm:_∈zNv (tg l i):=zF.2 rfl;exact h i j hij hj _ hm ((zN2 (hd i (by omega)) (hd j hj) hm).2 e)
 ·intro h;refine ⟨fun i hi=>yU.2 ⟨by simp,jD⟩,fun i j hij hj k h1 h2=>h i j hij hj ((zN2 (hd i (by omega)) (hd j hj) h1).1 h2)⟩
theorem zMC {s:List Bool} {t:P3} {v:Nat} (h:s.getD v false=true\/(v<s.length/\(t.1.toNat=v\/t.2.1.toNat=v\/t.2.2.toNat=v))):(zMf s t).getD v false=true:=by
 unfold zMf;simp only [gdE,qS,qY];rcases h with h|⟨hl,h⟩
 ·rw [gdE] at h
  have hl:v<s.length:=by
   rcases Nat.lt_or_ge v s.length with h'|h'
   ·exact h'
   ·rw [zCA h'] at h;cases h
  rw [gE hl] at h
  repeat' split
  all_goals first|rfl|omega|(rw [gE hl];exact h)
 ·repeat' split
  all_goals first|rfl|omega
theorem zP6 {n:Nat} {l:List P3} {v:Nat} (hv:v<n): ∀ i,(∃ j,j<i/\((tg l j).1.toNat=v\/(tg l j).2.1.toNat=v\/(tg l j).2.2.toNat=v))->(zDE n l i).getD v false=true
 | 0,⟨j,hj,_⟩=>by omega
 | i+1,⟨j,hj,h⟩=>by
   show (zMf (zDE n l i) (tg l i)).getD v false=true
   by_cases e:j=i
   ·subst e;exact zMC (.inr ⟨by rw [zKU];exact hv,h⟩)
   ·exact zMC (.inl (zP6 hv i ⟨j,by omega,h⟩))
theorem zQ7 {s:Int×List P3} (hf:zM1 s):zH4 s=[]↔∀ v:Nat,(v:Int)<s.1->∃ j,j<s.2.length/\zV (tg s.2 j) v:=by
 have nn:=zJy hf;unfold zH4 loL;rw [jI];constructor
 ·intro h v hv;have:=h v (zQ.2 (by omega));unfold loG at this;split at this
  case isFalse=>cases this
  rename_i ht;obtain ⟨j,hj,e⟩:=zLf _ ht;have:=nn j hj;exact ⟨j,hj,by show (s.2.getD j (0,0,0)).1=v\/(s.2.getD j (0,0,0)).2.1=v\/(s.2.getD j (0,0,0)).2.2=v;omega⟩
 ·intro h v hv;have hv:=zQ.1 hv;obtain ⟨j,hj,e⟩:=h v (by omega);have e:(s.2.getD j (0,0,0)).1=v\/(s.2.getD j (0,0,0)).2.1=v\/(s.2.getD j (0,0,0)).2.2=v:=e;unfold loG
  rw [if_pos (zP6 hv _ ⟨j,hj,by
   show (s.2.getD j (0,0,0)).1.toNat=v\/(s.2.getD j (0,0,0)).2.1.toNat=v\/(s.2.getD j (0,0,0)).2.2.toNat=v
   omega⟩)]
theorem zPh {v i:Int} {t:P3} {m:zCq} {k:Nat} {w y:Int} (h:y∈zBV m w):y∈zBV (enW v i t m k) w:=by
 unfold enW;split
 ·exact h
 ·rw [zE8];split
  ·rename_i e;subst e;exact zAJ _ h
  ·exact h
theorem z1r {v i:Int} {t:P3} {m:zCq} {k:Nat} (h:(trl t).getD k 0≠v):i∈zBV (enW v i t m k) ((trl t).getD k 0):=by
 unfold enW;rw [if_neg h,zE8,if_pos rfl];exact zAa _ (zF.2 rfl)
theorem zX1 {l:List P3} {v:Int} {tris:List Int} {m:zCq} {j:Nat} {w y:Int} (h:y∈zBV m w):y∈zBV (enT l v tris m j) w :=
 zAM (n:=3) (fun _ (m:zCq)=>y∈zBV m w) h (fun _ _ _ h=>zPh h) 3 (zH _)
theorem zG5 {S:Type} {f:S->Nat->S} {s:S} {P:S->Prop} {k:Nat} (hk: ∀ s,P (f s k)) (hs: ∀ s j,P s->P (f s j)): ∀ n,k<n->P (jL f s n)
 | n+1,h=>by
   by_cases e:k=n
   ·subst e;exact hk _
   ·exact hs _ _ (zG5 hk hs n (by omega))
theorem zZl {t:P3} {w:Int} (h:w∈trl t): ∃ k,k<3/\(trl t).getD k 0=w:=by
 simp only [trl,zS,zAP,or_false] at h;rcases h with h|h|h
 ·exact ⟨0,by omega,h.symm⟩
 ·exact ⟨1,by omega,h.symm⟩
 ·exact ⟨2,by omega,h.symm⟩
theorem z0j {l:List P3} {v:Int} {tris:List Int} {y w:Int} (hy:y∈tris) (hw:w∈trl (tri l y)) (hn:w≠v):y∈zBV (enA l v tris tris.length) w:=by
 obtain ⟨j,hj,e⟩:=yI.1 hy;have e2:tris.getD j 0=y:=by rw [gdE,gE hj];exact e
 unfold enA;refine zG5 (P:=fun m=>y∈zBV m w) (k:=j) (fun m=> ?_) (fun m i h=>zX1 h) _ hj;obtain ⟨k,hk,ek⟩:=zZl hw;unfold enT;rw [e2];refine zG5 (P:=fun m=>y∈zBV m w) (k:=k) (fun m=> ?_) (fun m i h=>zPh h) 3 hk;have:=z1r (v:=v) (i:=y) (t:=tri l y) (m:=m) (k:=k) (by rw [ek];exact hn);rw [ek] at this;exact this
def Reach (E:zCq) (l:List P3) (v:Int) (S:TgS) (x:Int):Prop:=x∈S.2.1.drop S.1\/∀ w∈trl (tri l x),w≠v->∀ y∈zBV E w,had S.2.2 y=true
theorem zV5 {av:List Int} {S:TgS} {j:Nat} {y:Int} (h:had S.2.2 y=true):had (vis av S j).2.2 y=true:=by
 unfold vis;split
 ·exact h
 ·show had (zAe (.int .i64) S.2.2 (av.getD j 0) true) y=true;rw [zF3];split
  ·rfl
  ·exact h
theorem z1T {av:List Int} {S:TgS} {j:Nat} :had (vis av S j).2.2 (av.getD j 0)=true:=by
 unfold vis;split
 ·assumption
 ·show had (zAe (.int .i64) S.2.2 (av.getD j 0) true) _=true;rw [zF3,if_pos rfl]
theorem zWi {av:List Int} {S:TgS} {j:Nat} {y:Int} (h:y∈S.2.1.drop S.1):y∈(vis av S j).2.1.drop (vis av S j).1:=by
 unfold vis;split
 ·exact h
 ·show y∈(S.2.1.drop S.1++[av.getD j 0]).drop 0;rw [jJ];exact zAJ _ h
theorem zYa {av:List Int} {S:TgS} {j:Nat} {y:Int} (h:had (vis av S j).2.2 y=true):had S.2.2 y=true\/y∈(vis av S j).2.1.drop (vis av S j).1:=by
 unfold vis at *;split at h
 ·exact .inl h
 ·rename_i hn;have h:had (zAe (.int .i64) S.2.2 (av.getD j 0) true) y=true:=h;rw [zF3] at h;rw [if_neg hn];split at h
  ·rename_i e;subst e;refine .inr ?_;show _∈(S.2.1.drop S.1++[av.getD j 0]).drop 0;rw [jJ];exact zAa _ (zF.2 rfl)
  ·exact .inl h
structure zH2 (S T:TgS):Prop where
 had: ∀ y,had S.2.2 y=true->had T.2.2 y=true
 wait: ∀ y,y∈S.2.1.drop S.1->y∈T.2.1.drop T.1
 new: ∀ y,S1.had T.2.2 y=true->S1.had S.2.2 y=true\/y∈T.2.1.drop T.1
theorem zH2.refl (S:TgS):zH2 S S:=⟨fun _ h=>h,fun _ h=>h,fun _ h=> .inl h⟩
theorem zH2.trans {S T U:TgS} (h:zH2 S T) (k:zH2 T U):zH2 S U :=
 ⟨fun y e=>k.had y (h.had y e),fun y e=>k.wait y (h.wait y e),fun y e=>by
   rcases k.new y e with e|e
   ·rcases h.new y e with e|e
    ·exact .inl e
    ·exact .inr (k.wait y e)
   ·exact .inr e⟩
theorem zXW {av:List Int} {S:TgS} {j:Nat} :zH2 S (vis av S j):=⟨fun _ h=>zV5 h,fun _ h=>zWi h,fun _ h=>zYa h⟩
theorem zUd {av:List Int} {S:TgS} (n:Nat):zH2 S (jL (vis av) S n) :=
 zAM (n:=n) (fun _ (T:TgS)=>zH2 S T) (.refl S) (fun _ _ _ h=>h.trans zXW) n (zH _)
theorem zQa {E:zCq} {v:Int} {t:P3} {S:TgS} {k:Nat} :zH2 S (tgW E v t S k):=by
 unfold tgW;split
 ·exact .refl S
 ·exact zUd _
theorem zM6 {E:zCq} {v:Int} {t:P3} {S:TgS} (n:Nat):zH2 S (jL (tgW E v t) S n) :=
 zAM (n:=n) (fun _ (T:TgS)=>zH2 S T) (.refl S) (fun _ _ _ h=>h.trans zQa) n (zH _)
theorem z13 {E:zCq} {v:Int} {t:P3} {S:TgS} {k:Nat} (h:(trl t).getD k 0≠v) {y:Int} (hy:y∈zBV E ((trl t).getD k 0)):had (tgW E v t S k).2.2 y=true:=by
 unfold tgW;rw [if_neg h];obtain ⟨j,hj,e⟩:=yI.1 hy;have e2:(zBV E ((trl t).getD k 0)).getD j 0=y:=by rw [gdE,gE hj];exact e
 refine zG5 (P:=fun S:TgS=>had S.2.2 y=true) (k:=j) (fun S=> ?_) (fun _ _ h=>zV5 h) _ hj;have:=z1T (av:=zBV E ((trl t).getD k 0)) (S:=S) (j:=j);rw [e2] at this;exact this
def RInv (E:zCq) (l:List P3) (v:Int) (S:TgS):Prop:= ∀ x,had S.2.2 x=true->Reach E l v S x
theorem zZp {E:zCq} {l:List P3} {v:Int} {S:TgS} {r:Nat} (h:RInv E l v S):RInv E l v (tgR E l v S r):=by
 unfold tgR;split
 case isFalse=>exact h
 rename_i hs;have g:=zM6 (E:=E) (v:=v) (t:=tri l (S.2.1.getD S.1 0)) (S:=(S.1+1,S.2.1,S.2.2)) 3;intro x hx
 by_cases e:x=S.2.1.getD S.1 0
 ·subst e;refine .inr fun w hw hn y hy=> ?_;obtain ⟨k,hk,ek⟩:=zZl hw;refine zG5 (P:=fun S:TgS=>had S.2.2 y=true) (k:=k) (fun S=> ?_) (fun S j h=>zQa.had y h) 3 hk;exact z13 (by rw [ek];exact hn) (by rw [ek];exact hy)
 ·rcases g.new x hx with hx|hx
  ·rcases h x hx with hw|hw
   ·left;refine g.wait x ?_;show x∈S.2.1.drop (S.1+1);rw [List.drop_eq_getElem_cons hs] at hw;rcases zS.1 hw with hw|hw
    ·exact absurd (by rw [hw,gdE,gE hs];rfl) e
    ·exact hw
   ·exact .inr fun w hw' hn y hy=>g.had y (hw w hw' hn y hy)
  ·exact .inl hx
theorem zWI (E:zCq) (l:List P3) (v x0:Int): ∀ r,RInv E l v (tgS E l v x0 r)
 | 0=>fun x hx=>by
   have hx:had [(x0,true)] x=true:=hx;left;show x∈[x0].drop 0;rw [jJ,zF];have:had (zAe (.int .i64) ([]:ReM) x0 true) x=true:=hx;rw [zF3] at this;split at this
   ·rename_i e;exact e.symm
   ·cases this
 | r+1=>zZp (r:=r) (zWI E l v x0 r)
theorem zPd {E:zCq} {l:List P3} {v x0:Int} {tris:List Int} {c:Nat} (hE:zWK tris c E) (hx:x0∈tris): ∀ r,(tgS E l v x0 r).1<(tgS E l v x0 r).2.1.length->meas tris (tgS E l v x0 r)+r<=tris.length+1
 | 0,_=>zI4
 | r +1,h=>by
   have hok:=(zZ1 hE (l:=l) (v:=v) hx r).1
   by_cases hs:(tgS E l v x0 r).1<(tgS E l v x0 r).2.1.length
   ·have ih:=zPd (l:=l) (v:=v) hE hx r hs;have:=(zZH (l:=l) (v:=v) (r:=r) hE hok).2.2 hs;have e:tgS E l v x0 (r+1)=tgR E l v (tgS E l v x0 r) r:=rfl;rw [e];omega
   ·rw [zKj hs 1] at h;exact absurd h hs
theorem zT1: ∀ {m:ReM} {x:Int},had m x=true->x∈zFX m
 | [],x,h=>by cases h
 | (a,b)::r,x,h=>by
   unfold had at h;simp only [zAR] at h;unfold zFX;split at h
   ·rename_i e _;exact zS.2 (.inl e.symm)
   ·exact zN _ (zT1 h)
theorem zGb: ∀ (ks l:List Int),ks.Nodup->(∀ x∈ks,x∈l)->ks.length<=l.length
 | [],l,_,_=>y7 _
 | a::r,l,hd,hs=>by
   have hd:=yU.1 hd;have ha:=hs a (zR ..);have ih:=zGb r (l.erase a) hd.2 (fun y hy=>(List.mem_erase_of_ne (fun e=>hd.1 (by rw [<- e];exact hy))).2 (hs y (zN _ hy)));have hle:(l.erase a).length=l.length - 1:=List.length_erase_of_mem ha;have:=List.length_pos_of_mem ha;simp only [zZ];omega
theorem z43 {l:List P3} {v:Int} {tris:List Int} (ht:tris≠[]) (hn:tris.Nodup)
 (hc: ∀ Q:Int->Prop,(∀ i∈tris,∀ j∈tris,(∃ w,w≠v/\w∈trl (tri l i)/\w∈trl (tri l j))->Q i->Q j)->Q (tris.getD 0 0)->∀ i∈tris,Q i):zSD l v tris=true:=by
 have hm:tris.getD 0 0∈tris:=zA0 (zAS.2 ht);have hE:=zVz l v tris tris.length (zH _);have hin:=zZG (l:=l) (v:=v) (x0:=tris.getD 0 0) (zYr l v tris) (Q:=fun _=>True) (fun _ _ _ _ _ _=>trivial) ⟨hm,trivial⟩ (2*tris.length+2);have hR:=zWI (enA l v tris tris.length) l v (tris.getD 0 0) (2*tris.length+2)
 have hstop: ¬ (tgS (enA l v tris tris.length) l v (tris.getD 0 0) (2*tris.length+2)).1<(tgS (enA l v tris tris.length) l v (tris.getD 0 0) (2*tris.length+2)).2.1.length:=fun h=>by
  have:=zPd (l:=l) (v:=v) hE hm _ h;omega
 have h0:had (tgS (enA l v tris tris.length) l v (tris.getD 0 0) (2*tris.length+2)).2.2 (tris.getD 0 0)=true :=
  zAM (n:=2*tris.length+2) (fun _ (S:TgS)=>had S.2.2 (tris.getD 0 0)=true) (by
   show had (zAe (.int .i64) ([]:ReM) (tris.getD 0 0) true) _=true
   rw [zF3,if_pos rfl]) (fun j S _ h=>by
   unfold tgR;split
   ·exact (zM6 3).had _ h
   ·exact h) _ (zH _)
 unfold zSD;generalize tgS (enA l v tris tris.length) l v (tris.getD 0 0) (2*tris.length+2)=S at *
 have all:=hc (fun i=>had S.2.2 i=true) (fun i hi j hj ⟨w,h1,h2,h3⟩ hq=>by
  rcases hR i hq with h|h
  ·rw [y9 (by omega)] at h;cases h
  ·exact h w h2 h1 j (z0j hj h3 h1)) h0
 have hk: ∀ x∈zFX S.2.2,x∈tris:=fun x hx=>(hin.k x hx).1;have l1:=zGb _ _ hin.nd hk;have l2:=zGb tris (zFX S.2.2) hn fun x hx=>zT1 (all x hx);have e:(zFX S.2.2).length=S.2.2.length:=by unfold zFX;rw [jF]
 rw [e] at l1 l2;have:S.2.2.length=tris.length:=by omega
 rw [this];exact beq_self_eq_true _
theorem zI6 {s:List (List Int)} {w:Int} {j v:Nat} (h:(s.getD v []).Nodup/\∀ x∈s.getD v [],x<(j:Int)) (h2:w.toNat=v->∀ x∈s.getD v [],x≠(j:Int)):((atP s w j).getD v []).Nodup:=by
 rw [zBt];split
 ·rename_i e;rw [List.nodup_append];refine ⟨h.1,yU.2 ⟨by simp,jD⟩,fun a ha b hb=> ?_⟩;rw [zF] at hb;rw [hb];exact h2 e.1 a ha
 ·exact h.1
theorem zN7 {n:Nat} {l:List P3} (hl: ∀ j,j<l.length->0<=(tg l j).1/\0<=(tg l j).2.1/\0<=(tg l j).2.2) (hd: ∀ i,i<l.length->¬ dgn (tg l i)) {v:Nat} (hv:v<n): ∀ i,i<=l.length->((atF n l i).getD v []).Nodup
 | 0,_=>by
   have e:(atF n l 0).getD v []=[]:=by
    show (List.replicate n ([]:List Int)).getD v []=[];rw [gdE,yY];split<;>rfl
   rw [e];exact jD
 | i + 1,hi=>by
   have ih:=zN7 hl hd hv i (by omega);have hm:=zLO hl hv i (by omega)
   have hlt: ∀ x∈(atF n l i).getD v [],x<(i:Int):=fun x hx=>by
    obtain ⟨j,hj,e,_⟩:=(hm x).1 hx;omega
   obtain ⟨h1,h2,h3⟩:=hl i (by omega);have hdg:=hd i (by omega);unfold dgn at hdg;show ((at3 (atF n l i) (tg l i) i).getD v []).Nodup;unfold at3
   -- at most one of the three is v
   by_cases e1:(tg l i).1.toNat=v
   ·have k2: ¬ (tg l i).2.1.toNat=v:=by omega
    have k3: ¬ (tg l i).2.2.toNat=v:=by omega
    rw [zBt,if_neg (fun h=>k3 h.1),zBt,if_neg (fun h=>k2 h.1)];exact zI6 ⟨ih,hlt⟩ fun _ x hx=>by have:=hlt x hx;omega
   ·by_cases e2:(tg l i).2.1.toNat=v
    ·have k3: ¬ (tg l i).2.2.toNat=v:=by omega
     rw [zBt,if_neg (fun h=>k3 h.1)];have e:(atP (atF n l i) (tg l i).1 i).getD v []=(atF n l i).getD v []:=by rw [zBt,if_neg (fun h=>e1 h.1)]
     exact zI6 ⟨by rw [e];exact ih,by rw [e];exact hlt⟩ fun _ x hx=>by rw [e] at hx;have:=hlt x hx;omega
    ·have e:(atP (atP (atF n l i) (tg l i).1 i) (tg l i).2.1 i).getD v []=(atF n l i).getD v []:=by rw [zBt,if_neg (fun h=>e2 h.1),zBt,if_neg (fun h=>e1 h.1)]
     exact zI6 ⟨by rw [e];exact ih,by rw [e];exact hlt⟩ fun _ x hx=>by rw [e] at hx;have:=hlt x hx;omega
theorem zSL {s:Int×List P3} (hf:zM1 s) (hd: ∀ i,i<s.2.length->¬ dgn (tg s.2 i)) (hu: ∀ v:Nat,(v:Int)<s.1->∃ j,j<s.2.length/\zV (tg s.2 j) v):zVB s=[]↔∀ v:Nat,(v:Int)<s.1->z5C s.2 v:=by
 constructor
 ·exact fun h v hv Q hQ a h1 h2 h3=>zT8 (n:=s.1) (l:=s.2) h (zJy hf) hv Q hQ h1 h2 h3
 ·intro h;refine jI.2 fun v hv=> ?_;have hv:=zQ.1 hv;unfold piG;rw [if_pos ?_];have hm:=zLO (n:=s.1.toNat) (l:=s.2) (zJy hf) hv _ (zH _);refine z43 (zNi s.1.toNat s.2 hv _ (hu v (by omega))) (zN7 (zJy hf) hd hv _ (zH _)) fun Q hQ h0 i hi=> ?_;obtain ⟨j,hj,rfl,hjv⟩:=(hm i).1 hi;have hz:=(hm _).1 (zA0 (j:=0) (zAS.2 (zNi s.1.toNat s.2 hv _ (hu v (by omega)))));obtain ⟨z,hz1,hz2,hz3⟩:=hz;rw [hz2] at h0;refine h v (by omega) (fun k=>Q (k:Int)) (fun a b ha hb hav hbv ⟨w,hw,hwa,hwb⟩ hq=> ?_) z hz1 hz3 h0 j hj hjv
  exact hQ a ((hm a).2 ⟨a,ha,rfl,hav⟩) b ((hm b).2 ⟨b,hb,rfl,hbv⟩) ⟨w,hw,zO4.2 hwa,zO4.2 hwb⟩ hq
theorem zWM {l:List P3} :dgL l l.length=[]↔∀ i,i<l.length->¬ dgn (tg l i):=by
 constructor
 ·exact fun h i hi=>zZm h hi
 ·intro h;refine jI.2 fun i hi=> ?_;have:=h i (zQ.1 hi);unfold dgn at this;unfold dgG;rw [if_neg ?_];intro e;unfold zZg at e;simp only [yN,beq_iff_eq] at e;exact this e
theorem zUQ {s:Int×List P3} :zBm s=[]↔zM1 s:=by
 obtain ⟨n,l⟩:=s;constructor
 ·intro h;exact zF1 (by rw [h];simp)
 ·intro h
  have hb:zXc (n,l)=false:=by
   have h1:0<=n:=h.1;have h2:n<=4096:=h.2.1;have h3:l.length<=8192:=h.2.2.1;unfold zXc;simp only [Bool.or_eq_false_iff,yX];omega
  unfold zBm;rw [hb];refine jI.2 fun i hi=> ?_;unfold z2m;rw [if_pos (h.2.2.2 i (zQ.1 hi))]
theorem zUg (s:Int×List P3):allR s=[]↔(zBm s=[]/\dgL s.2 s.2.length=[]/\(prS jC 3 s.2 s.2.length).2.2=[]/\(prS zDz 4 s.2 s.2.length).2.2=[]/\zH4 s=[]/\zVB s=[]):=by
 constructor
 ·intro h;have h:=zFF h;exact ⟨h _ (by simp),h _ (by simp),h _ (by simp),h _ (by simp),h _ (by simp),h _ (by simp)⟩
 ·rintro ⟨h1,h2,h3,h4,h5,h6⟩;unfold allR;simp [zD1,h1,h2,h3,h4,h5,h6]
theorem zEh (s:Int×List P3):(zHh s).1=0↔zDM s:=by
 constructor
 ·intro h;obtain ⟨h1,h2,h3,h4,h5,h6⟩:=(zUg s).1 (zLF h);have hf:=zUQ.1 h1;have hd:=zWM.1 h2;have hu:=(zQ7 hf).1 h5;exact ⟨hf,hd,(zND hd).1 h3,(zWV hd).1 h4,hu,(zSL hf hd hu).1 h6⟩
 ·intro h;have:allR s=[]:=(zUg s).2 ⟨zUQ.2 h.fit,zWM.2 h.deg,(zND h.deg).2 h.dif,(zWV h.deg).2 h.mir,(zQ7 h.fit).2 h.use,(zSL h.fit h.deg h.use).2 h.pin⟩;unfold zHh;rw [this];rfl
end S1
namespace S1
theorem zSk {x:z6.T} (g:Good x) {a b:Int} (h:zBe x a b=true):(0<=a/\a<x.1.1)/\(0<=b/\b<x.1.1):=by
 have key: ∀ {a b:Int},0<=qR x (a,b)->(0<=a/\a<x.1.1)/\(0<=b/\b<x.1.1):=fun {a b} h=>by
  unfold qR at h;cases e:zAR .arr2 x.2.1 (a,b) with
  | none=>rw [e] at h;exact absurd h (by decide)
  | some c =>
    obtain ⟨h1,h2⟩:=g.map _ _ e;have e1:yO x (jM x c)=a:=congrArg Prod.fst h2;have e2:yO x (jH x c)=b:=congrArg Prod.snd h2;have k1:=zB3 g.fit (zA8 h1).1;have k2:=zB3 g.fit (zA8 h1).2;rw [e1] at k1;rw [e2] at k2;exact ⟨k1,k2⟩
 unfold zBe at h;rw [yN,zB,zB] at h;rcases h with h|h
 ·exact key h
 ·exact (key h).symm
theorem zXB {x:z6.T} {v:Int} (h: ¬ (0<=v/\v<x.1.1)):zDS x v=[]:=by
 have e:yS (some x) v=[]:=zFG fun k=>h ⟨k.1,k.2.1⟩;unfold zDS;rw [e];simp [lkO,zGC]
theorem zQB {s:Int×List P3} {x:z6.T} (h:zHO s=some x):x=j8 s/\Full x/\zDM s:=by
 unfold zHO at h;split at h
 ·rename_i hc;cases h;exact ⟨rfl,zPv hc,(zEh s).1 hc⟩
 ·cases h
theorem zCO {s:Int×List P3} (h:zDM s):zHO s=some (j8 s)/\Full (j8 s)/\(j8 s).1=s:=by
 have hc:=(zEh s).2 h;refine ⟨?_,zPv hc,rfl⟩;unfold zHO;rw [if_pos hc]
theorem zDF {x:z6.T} {b:Int} : ∀ n c,∀ y∈jX x b n c,yB x y<0->(jX x b n c).getD ((jX x b n c).length - 1) 0=y
 | 0,c,y,h,_=>by cases h
 | n + 1,c,y,h,ha=>by
   unfold jX at h ⊢
   by_cases h1:yB x c<0
   ·rw [if_pos h1] at h ⊢;rw [zF.1 h];rfl
   ·rw [if_neg h1] at h ⊢
    by_cases h2:yB x c=b
    ·rw [if_pos h2] at h ⊢;rw [zF.1 h];rfl
    ·rw [if_neg h2] at h ⊢;rcases zS.1 h with h|h
     ·subst h;exact absurd ha h1
     ·have ih:=zDF n _ y h ha;have hl:(jX x b n (yB x c)).length>=1:=List.length_pos_of_mem h;generalize jX x b n (yB x c)=L at *;rw [zZ,show L.length+1 - 1=(L.length - 1)+1 by omega,List.getD_cons_succ];exact ih
theorem Full.link_mem {x:z6.T} (g:Full x) {a v:Int} (h0:0<=a) (h1:a<x.1.1):v∈zDS x a↔(∃ c∈yS (some x) a,yO x (jM x c)=v)\/(∃ c∈yS (some x) a,yB x c<0/\yO x (jH x c)=v):=by
 obtain ⟨b,_,eL,hb1,hb2,hb3,hall,_⟩:=g.around h0 h1;have hpos:(yS (some x) a).length>=1:=List.length_pos_of_mem hb3
 have hlast:zGC (yS (some x) a) (yS (some x) a).length=(yS (some x) a).getD ((yS (some x) a).length - 1) 0:=by
  unfold zGC;rw [if_neg (by omega)]
 have hin:(yS (some x) a).getD ((yS (some x) a).length - 1) 0∈yS (some x) a:=zA0 (by omega);unfold zDS;rw [z8]
 have e1:v∈lkO x (yS (some x) a) (yS (some x) a).length↔∃ c∈yS (some x) a,yO x (jM x c)=v:=by
  unfold lkO;rw [qI,zU]
 rw [e1,hlast];refine or_congr_right ⟨fun h=> ?_,fun ⟨c,hc,ha,hv⟩=> ?_⟩
 ·split at h
  ·rename_i hc;exact ⟨_,hin,hc.2,(zF.1 h).symm⟩
  ·cases h
 ·have hc2:=hc;rw [eL] at hc2;have hl:=zDF _ _ c hc2 ha;rw [<- eL] at hl;rw [hl,if_pos ⟨(z7.1 (hall c hc).1).1,ha⟩,hv];exact zF.2 rfl
theorem zHt {x:z6.T} (g:Full x) {a v:Int} :zBe x a v=true↔∃ d,zAY x d=true/\(jP x d=(a,v)\/jP x d=(v,a)):=by
 have key: ∀ {a v:Int},0<=qR x (a,v)↔∃ d,zAY x d=true/\jP x d=(a,v):=fun {a v} =>by
  constructor
  ·intro h;unfold qR at h;cases e:zAR .arr2 x.2.1 (a,v) with
   | none=>rw [e] at h;exact absurd h (by decide)
   | some c=>exact ⟨c,g.map _ _ e⟩
  ·rintro ⟨d,h1,h2⟩;rw [<- h2,g.facing h1];exact (z7.1 h1).1
 unfold zBe;rw [yN,zB,zB,key,key];constructor
 ·rintro (⟨d,h1,h2⟩|⟨d,h1,h2⟩)
  ·exact ⟨d,h1,.inl h2⟩
  ·exact ⟨d,h1,.inr h2⟩
 ·rintro ⟨d,h1,(h2|h2)⟩
  ·exact .inl ⟨d,h1,h2⟩
  ·exact .inr ⟨d,h1,h2⟩
theorem Full.link_iff {x:z6.T} (g:Full x) {a v:Int} :v∈zDS x a↔zBe x a v=true:=by
 by_cases ha:0<=a/\a<x.1.1
 case neg =>
  rw [zXB ha];refine ⟨fun h=>(by cases h),fun h=>absurd (zSk g.toGood h).1 ha⟩
 obtain ⟨b,_,eL,hb1,hb2,hb3,hall,haft,hbef,_⟩:=g.around ha.1 ha.2;rw [g.link_mem ha.1 ha.2,zHt g];constructor
 ·rintro (⟨c,hc,hv⟩|⟨c,hc,_,hv⟩)
  ·obtain ⟨k1,k2⟩:=hall c hc;exact ⟨_,(zA8 k1).2,.inl (by rw [zN6 k1,k2,hv])⟩
  ·obtain ⟨k1,k2⟩:=hall c hc;exact ⟨_,(zA8 k1).1,.inr (by rw [zNM k1,k2,hv])⟩
 ·rintro ⟨d,h1,(h2|h2)⟩
  ·have e1:yO x (jM x d)=a:=congrArg Prod.fst h2;have e2:yO x (jH x d)=v:=congrArg Prod.snd h2;have hc:=g.around_all (zA8 h1).1;rw [e1] at hc;exact .inl ⟨_,hc,by rw [(np h1).2.2.1];exact e2⟩
  ·have e1:yO x (jM x d)=v:=congrArg Prod.fst h2;have e2:yO x (jH x d)=a:=congrArg Prod.snd h2;have hc:=g.around_all (zA8 h1).2;rw [e2] at hc;have hv:yO x (jH x (jH x d))=v:=by rw [(np h1).2.2.2];exact e1
   by_cases hs:yB x (jH x d)<0
   ·exact .inr ⟨_,hc,hs,hv⟩
   ·have hs:0<=yB x (jH x d):=by omega
    exact .inl ⟨_,haft _ hc hs,by rw [(g.after_v hs).2];exact hv⟩
theorem Full.opp_v {x:z6.T} (g:Full x) {c:Int} (h:0<=zA2 x c):zAY x c=true/\zAY x (zA2 x c)=true/\yO x (jM x (zA2 x c))=yO x (jH x c)/\yO x (jH x (zA2 x c))=yO x (jM x c):=by
 obtain ⟨h1,h2,h3⟩:=g.opp h;exact ⟨h1,h2,congrArg Prod.fst h3,congrArg Prod.snd h3⟩
theorem z4b {x:z6.T} {c v:Int} (h1:zAY x c=true) (h:zV (x.1.2.getD (c / 3).toNat (0,0,0)) v):v=yO x c\/v=yO x (jM x c)\/v=yO x (jH x c):=by
 obtain ⟨a,a1,a2,a3⟩:=zIZ (zAl h1).1 h;have i1:=z7.1 h1;have i2:=z7.1 a1
 have:a=c\/a=jM x c\/a=jH x c:=by
  rw [zBI h1,zBj h1];unfold trn;omega
 rcases this with e|e|e
 ·subst e;exact .inl a3.symm
 ·subst e;exact .inr (.inl a3.symm)
 ·subst e;exact .inr (.inr a3.symm)
end S1
namespace Go.Vm
open Go.RowKit
def zPt (T:Tab) (SQ:zHQ) (fn:Func) (args:List AV) (R:AV->List Ob->Prop):Prop :=
 match fn.body with
 | some c=>(St.init args).forceAll fun s=>zCl T SQ c s (zRq T fn R)
 | none=>False
section
variable {P:Program} {T:Tab} {SQ:zHQ} {B B0:Base} {w w':World} {I τ:Sig} {Z:yQ} {st:St} {tmps:Array Value} {N:Nat} {a:Act}
theorem zOo {fn:Func} {st':St} {R:Ending->World->Prop}
 (hend: ∀ (B1:Base) (σ1:Sig) (β1:yQ) (w':World),B1.w=w->zR3 ⟨w,I,[]⟩ B1.sg->GG B1 σ1 β1 st' tmps w'->∃ v,(results fn tmps).run P w'= .ok v w'/\R (.returned v) w') (hag:Ag I w) :
 ∀ (Ds:List Nat) (B1:Base) (σ1:Sig) (β1:yQ) (w':World),Ds.Nodup->(∀ D∈Ds,B1.sg D=some (.deferred (some []))/\w.heap.size<=D)->B1.w=w->zR3 ⟨w,I,[]⟩ B1.sg->GG B1 σ1 β1 st' tmps w'->
   LeavesInM (FR none) 0 P fn tmps R (Ds.map mark) .returning w':=by
 intro Ds
 induction Ds with
 | cons D r ih =>
   intro B1 σ1 β1 w' hn hD hw hgr hg;obtain ⟨hn1,hn2⟩:=yU.1 hn;obtain ⟨d1,d2⟩:=hD D (zR ..);rw [Base.relock B1 d1] at hg;obtain ⟨_,hl2,_⟩:=hg.locked rfl;have zDc: ∀ b,b≠D->(B1.sg.del D) b=B1.sg b:=fun b hb=>by unfold Sig.del;rw [if_neg hb]
   obtain ⟨hg2,_⟩:=hg.unlock rfl (by show B1.w.heap.size<=D;rw [hw];exact d2) (by show (B1.sg.del D) D=none;unfold Sig.del;rw [if_pos rfl]) (.deferred none);refine ⟨by simp,.inl ⟨D,_,rfl,run_takeDeferred hl2,ih {B1 with sg:=B1.sg.del D} _ _ _ hn2 (fun D' hD'=> ?_) hw ⟨fun b o e=> ?_,fun b hb=> ?_⟩ hg2⟩⟩
   ·obtain ⟨k1,k2⟩:=hD D' (zN _ hD');exact ⟨by show (B1.sg.del D) D'=_;rw [zDc _ (fun e=>hn1 (e▸hD'))];exact k1,k2⟩
   ·have hb:b≠D:=fun hb=>by subst hb;have:=hag.lt e;omega
    show ∃ o',(B1.sg.del D) b=some o'/\_;rw [zDc b hb];exact hgr.1 b o e
   ·have hb:b<w.heap.size:=hb;show (B1.sg.del D) b=_;rw [zDc b (by omega)];exact hgr.2 b hb
 | nil =>
   intro B1 σ1 β1 w' _ _ hw hgr hg;exact hend B1 σ1 β1 w' hw hgr hg
theorem zTw (R:zAU P T) (hSQ:zG0 P SQ) {f:FuncId} {fn:Func} {c:Code} (hf:P.funcs[f]? =some fn) (hb:fn.body=some c) (hok:zBE fn.ntmps c=true)
 {args:List AV} (hl:args.length<=fn.ntmps) {q:Option Prop} {u:AV} {us:List Ob} (h:zB4 args->Opt q->zPt T SQ fn args (fun v obs=>v=u/\obs=us)):zCo P f args (none,q,u,us):=by
 intro I vals w hag hv;refine ⟨trivial,fun hq=> ?_⟩;have hga:=zIw (N:=fn.ntmps) hag hv hl;have hk:=h (zCX hv) hq;simp only [zPt,hb,St.forceAll_eq] at hk;refine (callsIn_of_wp_marks (F:=Fence.wide) (n:=0) hf hb trivial ?_).calls (fun _ _ hd=>by cases hd);rw [<- FR.none];refine zNU (B0:=⟨w,I,[]⟩) R hSQ c hok ⟨rfl,⟨Sig.le.refl _,fun _ _=>rfl⟩,[],rfl,jD,fun D hD=>by cases hD⟩ hga hk fun e B1 st' a' w' hm hp h'=> ?_
 have fin:(match fn.results.toList.all (zGU T st')&&(nodupB (zBS (zAg T fn st').parts)&&zLs st'.hp (zBS (zAg T fn st').parts)) with
  | true=>(zAg T fn st').mapAS (zRM (zBS (zAg T fn st').parts))=u/\zJ6 st'.hp (zBS (zAg T fn st').parts)=us
  | false=>False)->LeavesInM (FR none) 0 P fn a'.tmps (fun e w'=> ∃ v σ' β',e= .returned v/\I.le σ'/\Ag σ' w'/\
  (∀ b,b<w.heap.size->σ' b=I b)/\qD σ' β' u v/\zCE σ' w.heap.size w' us β'/\Below w.heap.size w w') a'.defers .returning w':=by
  intro hu;split at hu
  case h_2=>exact hu.elim
  rename_i hallok;rw [zA,zA] at hallok;obtain ⟨hallok,hnd,hrows⟩:=hallok;obtain ⟨σ1,β1,hg⟩:=h'.gg;obtain ⟨Ds,e1,e2,e3⟩:=hm.ds;rw [h'.defers,e1];refine zOo (w:=w) (I:=I) (st':=st') (fun B1 σ1 β1 w' hw hgr hg=> ?_) hag Ds B1 σ1 β1 w' e2 e3 hm.w hm.grew hg;have hsl:I.le σ1:=Sig.le.trans hgr.1 hg.grew.1;have hsb: ∀ b,b<w.heap.size->σ1 b=I b:=fun b hb=>(hg.grew.2 b (by rw [hw];exact hb)).trans (hgr.2 b hb)
  have hbel:Below w.heap.size w w':=by have:=hg.bel;rw [hw] at this;exact this
  obtain ⟨vs,hrun,hall⟩:=zBz (P:=P) (w:=w') (fn:=fn) (tmps:=a'.tmps) (Q:=fun r v=>qD σ1 β1 (zE2 T st' r) v) (fun r hr=>by
   have hro:=zM.1 hallok r hr;cases r with
   | tmp t=>exact ⟨_,rfl,hg.env t⟩
   | cell a t =>
     simp only [zGU] at hro;simp only [zE2];have hx:=hg.env a;split at hro
     ·rename_i id i k hea;rw [hea] at hx;split at hro
      ·rename_i v hv;obtain ⟨p,_,hptr,_⟩:=hx;obtain ⟨_,hrun⟩:=zBp (w:=w') R.ty R.one hg.mem (t:=t) (hg.env a) (p:=none) (q:=none) (v:=v) (by rw [hea];exact hv);obtain ⟨val,h1,h2⟩:=hrun trivial;refine ⟨val,?_,h2⟩;rw [hptr] at h1 ⊢;rw [zB9] at h1;simp only [asAddr,zP,qP,zK];exact h1
      ·cases hro
     ·cases hro)
  refine ⟨_,hrun,_,σ1,(zBS (zAg T fn st').parts).map fun i=>(β1[i]?).getD none,rfl,hsl,hg.mem.ag,hsb,?_,?_,hbel⟩
  ·exact ((zG9 hall).mapAS fun a v ha=>qA.ren (ids:=zBS (zAg T fn st').parts) ha) |> fun h=>by rw [hu.1] at h;exact h
  ·have:=zFa (w:=w') hg.mem.ob (fun id ob p hi hp=>by have:=hg.sep id ob p hi hp;rw [hw] at this;exact this) _ hnd hrows;rw [hu.2] at this;exact this
 cases e with
 | normal=>simp only [zRq,AV.force_eq] at hp;exact fin hp
 | ret=>simp only [zRq,AV.force_eq] at hp;exact fin hp
 | _=>exact hp.elim
end
end Go.Vm
namespace S1
theorem zYA (x:z6.T) (v:Int) (g:Good x):zPt ⟨tyL,[(58,zIs),(59,zPA),(61,zOG),(60,zGL),(57,zDe)],[]⟩ z5t Tryz.f22 [(ETy.pt z6).av (some x),qX.av v] (fun r obs=>r= .s (.own 0 0 (zDS x v).length)/\obs=[.row qX 3 (zDS x v)]):=by
 obtain ⟨hl,ha⟩:=zGh g v;have hd:=zSR ha;have hL:=zV7 ha (yS (some x) v).length;have ho:=zSu x (yS (some x) v);have ho2:=ho _ (zH _)
 repeat' (conv=>whnf
          first|done|refine qy ?_|refine qG fun _=> ?_|refine qw (fun _=> ?_) (fun _=> ?_)|apply qt|refine qi (fun _=> ?_) (fun _=> ?_)|refine yM (yS (some x) v) (yA (zA9.out ?_) (yM (z5J x (yS (some x) v)) ?_))|(refine yA (fun X=> ?_) (fun X=> ?_))|(refine yA (yA ?_ (yA ?_ rfl)) (fun k hk=> ?_))|(refine yA ?_ (yA ?_ rfl))|refine qu ?_|refine qv ?_ ?_|exact zL)
 all_goals try first|refine qz ?_|apply qz5
 all_goals try simp only [qn0,zY,zX,ETy.dflt,Int.reduceToNat,Int.reduceAdd,Int.reduceSub,Int.reduceNeg,Nat.reduceAdd] at *
 ·exact qh ⟨rfl,some x,v,rfl,fun y e=>by cases e;exact g,rfl⟩
 ·exact qh (Int.le_trans (hd k) (by decide))
 ·exact qh (Int.le_trans (zKd g _) (by decide))
 ·have:=ho k (Nat.le_of_lt hk);refine qh ?_;omega
 ·rw [zQG _ _ _ hk,zO];exact zAF.intro rfl
 ·exact zQG _ _ _ hk
 ·exact qh ⟨g,hL⟩
 ·exact qh (Int.le_trans hL (by decide))
 ·exact qh (Int.le_trans (zLi g _) (by decide))
 ·refine qh ?_;omega
 ·rename_i h1 h2;unfold zDS;rw [if_pos ⟨h1,h2⟩,zO];rfl
 ·rename_i h1 h2;unfold zDS;rw [if_pos ⟨h1,h2⟩]
 ·rename_i h1 h2;unfold zDS;rw [if_neg (fun e=>h2 e.2),yJ]
 ·rename_i h1 h2;unfold zDS;rw [if_neg (fun e=>h2 e.2),yJ]
 ·rename_i h1;unfold zDS;rw [if_neg (fun e=>h1 e.1),yJ]
 ·rename_i h1;unfold zDS;rw [if_neg (fun e=>h1 e.1),yJ]
theorem zT6 (v:Int):zPt ⟨tyL,[(58,zIs),(59,zPA),(61,zOG),(60,zGL),(57,zDe)],[]⟩ z5t Tryz.f22 [(ETy.pt z6).av none,qX.av v] (fun r obs=>r= .s (.own 0 0 0)/\obs=[.row qX 3 []]):=by
 repeat' (conv=>whnf
          first|done|refine qy ?_|refine qG fun _=> ?_|refine qw (fun _=> ?_) (fun _=> ?_)|apply qt|refine qi (fun _=> ?_) (fun _=> ?_)|refine yM [] (yA (zA9.out ?_) (yM z3C ?_))|(refine yA (fun X=> ?_) (fun X=> ?_))|(refine yA (yA ?_ (yA ?_ rfl)) (fun k hk=>absurd hk (Nat.not_lt_zero _)))|refine qu ?_|refine qv ?_ ?_|exact zL)
 all_goals try first|refine qz ?_|apply qz5
 all_goals try simp only [qn0,zY,zX,ETy.dflt,Int.reduceToNat,Int.reduceAdd,Int.reduceSub,Int.reduceNeg,Nat.reduceAdd] at *
 exact qh ⟨rfl,none,v,rfl,fun y e=>(by cases e),rfl⟩
def zZK:List AV->Option zLx:=zFm (.pt z6) qX (fun o v=>some (none,some (∀ x,o=some x->Good x),.s (.own 0 0 (zBw o v).length),[.row qX 3 (zBw o v)]))
theorem zX7:zEO prog 22 zZK:=zW5 (zYk fun o v r h=>by
 cases h;cases o with
 | none=>exact zTw (zCv (fn:=[(58,zIs),(59,zPA),(61,zOG),(60,zGL),(57,zDe)]) (fr:=[]) ⟨zNS,zKp,zLB,zHx,zEX,trivial⟩ trivial) z6R func22 rfl (by kernel_rfl) (zW rfl) fun _ _=>zT6 v
 | some x=>exact zTw (zCv (fn:=[(58,zIs),(59,zPA),(61,zOG),(60,zGL),(57,zDe)]) (fr:=[]) ⟨zNS,zKp,zLB,zHx,zEX,trivial⟩ trivial) z6R func22 rfl (by kernel_rfl) (zW rfl) fun _ h=>zYA x v (h x rfl)) func22
end S1
namespace S1
def z4N {ρ:Type} (e b c:ETy) (f:e.T->b.T->c.T->Option ρ):List AV->Option ρ :=
 zOs (.pt e) b c (fun o y z=>match o with|some x=>f x y z|none=>none)
theorem zXD {P:Program} {e b c:ETy} {f:e.T->b.T->c.T->Option Res} {n:FuncId} (h: ∀ x y z r,f x y z=some r->zDY P n [(ETy.pt e).av (some x),b.av y,c.av z] r): ∀ args r,z4N e b c f args=some r->zDY P n args r :=
 zEa fun o y z r hr=>by cases o with|none=>cases hr|some x=>exact h x y z r hr
def zO1 (v:Int):List Int->Nat->Int
 | [],_=> -1
 | a::r,i=>if v=a then (i:Int) else zO1 v r (i+1)
def zZn (v:Int) (l:List Int):Spec Nat where
 inv x:=x<=l.length/\zO1 v l 0=zO1 v (l.drop x) x
 live x:=[(8,.s (.int .i64 x))]
 keep:=[0,1,7]
 heap _:=[]
 keepH:=[]
 mu x:=l.length - x
theorem zVX {fn} (l:List Int) (v:Int):zAk ⟨tyL,fn,[]⟩ f51 [(ETy.sl qX).av l,qX.av v] (fun r=>r= .s (.int .i64 (zO1 v l 0))):=by
 repeat' (conv=>whnf
          first|done|refine qy ?_|refine qG fun _=> ?_|refine qw (fun _=> ?_) (fun _=> ?_)|apply qt|refine qi (fun _=> ?_) (fun _=> ?_)|(refine jS 2 rfl (zZn v l) (0) ?_ ?_ ?_ fun x hx=> ?_)|with_reducible refine jK (zZn _ _) (x+1) ?_ ?_ ?_ ?_|refine qu ?_|refine qv ?_ ?_|exact zL)
 all_goals try first|refine qz ?_|apply qz5
 all_goals try simp only [qn0,zY,zX,ETy.dflt,Int.reduceToNat,Int.reduceAdd,Int.reduceSub,Int.reduceNeg,Nat.reduceAdd,zZn] at *
 ·exact qh ⟨y7 _,rfl⟩
 ·rename_i h1 h2;rw [hx.2,zCt 0 h1,zO1,if_pos h2]
 ·rename_i h1 h2;exact qh ⟨by omega,by rw [hx.2,zCt 0 h1,zO1,if_neg h2]⟩
 ·exact qh (by omega)
 ·rw [hx.2,zHf (by assumption)];rfl
def zHD:List AV->Option Res:=zFm (.sl qX) qX (fun l v=>some (none,none,.s (.int .i64 (zO1 v l 0))))
theorem zI7:jN prog 51 zHD:=mkR (zA4 fun l v r h=>by cases h;exact fb (fn:=[]) trivial func51 fun _ _=>zVX l v) func51
def zEA (v:Int) (l:List Int):Bool:=decide (zO1 v l 0>=0)
theorem zOu (l:List Int) (v:Int):zAk ⟨tyL,[(51,zHD)],[]⟩ f52 [(ETy.sl qX).av l,qX.av v] (fun r=>r= .s (.bool (zEA v l))):=by
 repeat' (conv=>whnf
          first|done|refine qy ?_|refine qG fun _=> ?_|refine qw (fun _=> ?_) (fun _=> ?_)|apply qt|refine qi (fun _=> ?_) (fun _=> ?_)|refine qu ?_|refine qv ?_ ?_|exact zL)
 all_goals try first|refine qz ?_|apply qz5
 all_goals try simp only [qn0,zY,zX,ETy.dflt,Int.reduceToNat,Int.reduceAdd,Int.reduceSub,Int.reduceNeg,Nat.reduceAdd,zEA] at *
def zBL:List AV->Option Res:=zFm (.sl qX) qX (fun l v=>some (none,none,.s (.bool (zEA v l))))
theorem zCk:jN prog 52 zBL:=mkR (zA4 fun l v r h=>by cases h;exact fb (by exact ⟨zI7,trivial⟩) func52 fun _ _=>zOu l v) func52
def zDy (x:z6.T) (a b:Int):List Int:=(if qR x (a,b)>=0 then [yO x (qR x (a,b))] else [])++(if qR x (b,a)>=0 then [yO x (qR x (b,a))] else [])
theorem zUK {x:z6.T} (g:Good x) (e:Int×Int):qR x e<=1000000000:=by
 unfold qR;cases h:zAR .arr2 x.2.1 e with
 | none=>decide
 | some c =>
   have:=z7.1 (g.map _ _ h).1;have:=g.fit.2.2.1;exact (show @LE.le Int _ c (1000000000:Int) by omega)
theorem zR6 (x:z6.T) (a b:Int) (g:Good x):zAk ⟨tyL,[(105,zGk),(57,zDe)],[]⟩ f84 [(ETy.pt z6).av (some x),qX.av a,qX.av b] (fun v=>v= .s (.sl qX (zDy x a b))):=by
 have e0:(((List.replicate 2 ((0:Int),(0:Int))).set 0 (a,b)).set 1 (b,a)).getD 0 (0,0)=(a,b):=rfl;have e1:(((List.replicate 2 ((0:Int),(0:Int))).set 0 (a,b)).set 1 (b,a)).getD 1 (0,0)=(b,a):=rfl
 repeat' (conv=>whnf
          first|done|refine qy ?_|refine qG fun _=> ?_|refine qw (fun _=> ?_) (fun _=> ?_)|apply qt|refine qi (fun _=> ?_) (fun _=> ?_)|(refine zJa 3 rfl ?_;refine Or.inl (yM (3) ?_))|refine qu ?_|refine qv ?_ ?_|exact zL)
 all_goals try first|refine qz ?_|apply qz5
 all_goals try simp only [qn0,zY,zX,ETy.dflt,Int.reduceToNat,Int.reduceAdd,Int.reduceSub,Int.reduceNeg,Nat.reduceAdd,e0,e1,zDy] at *
 all_goals first
  | exact qh (zUK g _)
  | exact qh (by decide)
  | (simp only [if_pos,if_neg, *,not_false_eq_true];rfl)
def zGV:List AV->Option Res:=z4N z6 qX qX (fun x a b=>some (none,some (Good x),.s (.sl qX (zDy x a b))))
theorem zJo:jN prog 84 zGV:=mkR (zXD fun x a b r h=>by cases h;exact fb (by exact ⟨zFn,zEX,trivial⟩) func84 fun _ h=>zR6 x a b h) func84
end S1
namespace S1
abbrev OS:=List Int×List Int
def ofC (x:z6.T) (k:Int) (j:Nat) (s:OS) (c:Nat):OS :=
 if 0<=zA2 x (3*s.2.getD j 0+c)/\s.1.getD (zA2 x (3*s.2.getD j 0+c) / 3).toNat 0<0 then
  (s.1.set (zA2 x (3*s.2.getD j 0+c) / 3).toNat k,s.2++[zA2 x (3*s.2.getD j 0+c) / 3]) else s
def ofJ (x:z6.T) (k:Int) (s:OS) (j:Nat):OS:=jL (ofC x k j) s 3
def bfs (x:z6.T) (k:Int):Nat->Nat->OS->OS
 | 0,_,s=>s
 | f+1,j,s=>if j<s.2.length then bfs x k f (j+1) (ofJ x k s j) else s
def ofI (x:z6.T) (s:List Int×Int) (i:Nat):List Int×Int :=
 if s.1.getD i 0>=0 then s else ((bfs x s.2 10000 0 (s.1.set i s.2,[(i:Int)])).1,s.2+1)
def ofL (x:z6.T) (i:Nat):List Int×Int:=jL (ofI x) (List.replicate x.1.2.length (-1),0) i
def ofR (x:z6.T):List Int:=(ofL x x.1.2.length).1
def unm:List Int->Nat
 | []=>0
 | a::r=>(if a<0 then 1 else 0)+unm r
theorem zZW: ∀ l:List Int,unm l<=l.length
 | []=>zH _
 | a::r=>by have:=zZW r;simp only [unm,zZ];split<;>omega
theorem zOc {k:Int} (hk:0<=k): ∀ (l:List Int) (i:Nat),i<l.length->l.getD i 0<0->unm (l.set i k)+1=unm l
 | a::r,0,_,h=>by
   have h:a<0:=h;simp only [List.set_cons_zero,unm];rw [if_pos h,if_neg (by omega)];omega
 | a::r,i+1,hi,h=>by
   have:=zOc hk r i (by simpa using hi) (by simpa using h);simp only [List.set_cons_succ,unm];omega
structure OOk (n:Nat) (s:OS):Prop where
 len:s.1.length=n
 td: ∀ j,j<s.2.length->0<=s.2.getD j 0/\s.2.getD j 0<n
 cnt:s.2.length+unm s.1<=n
theorem zZQ {x:z6.T} (g:Good x) {d:Int} (h:0<=zA2 x d):zA2 x d<3*(x.1.2.length:Int):=(z7.1 (g.opp h).2.1).2
theorem z3r {x:z6.T} (g:Good x) {k:Int} (hk:0<=k) {j:Nat} {s:OS} (h:OOk x.1.2.length s) (c:Nat):OOk x.1.2.length (ofC x k j s c):=by
 unfold ofC;split
 ·rename_i hc;have hi:=zZQ g hc.1;refine ⟨by rw [qY];exact h.len,fun j' hj=> ?_,?_⟩
  ·by_cases e:j'<s.2.length
   ·have:=h.td j' e
    have e2:(s.2++[zA2 x (3*s.2.getD j 0+c) / 3]).getD j' 0=s.2.getD j' 0:=by
     rw [gdE,yF e,<- gdE]
    show 0<=(s.2++_).getD j' 0/\_;rw [e2];exact this
   ·have hj:j'<(s.2++[zA2 x (3*s.2.getD j 0+c) / 3]).length:=hj;rw [zO,List.length_singleton] at hj;have e3:j'=s.2.length:=by omega
    subst e3
    have e2:(s.2++[zA2 x (3*s.2.getD j 0+c) / 3]).getD s.2.length 0=zA2 x (3*s.2.getD j 0+c) / 3:=by
     rw [gdE,qT (zH _)];simp
    show 0<=(s.2++_).getD s.2.length 0/\_;rw [e2];omega
  ·have:=zOc hk s.1 _ (by rw [h.len];omega) hc.2;have h3:=h.cnt;show (s.2++[_]).length+unm (s.1.set (zA2 x (3*s.2.getD j 0+c) / 3).toNat k)<=x.1.2.length;rw [zO,List.length_singleton];omega
 ·exact h
theorem zNz {x:z6.T} (g:Good x) {k:Int} (hk:0<=k) {j:Nat} {s:OS} (h:OOk x.1.2.length s): ∀ c,OOk x.1.2.length (jL (ofC x k j) s c)
 | 0=>h
 | c+1=>z3r g hk (zNz g hk h c) c
theorem zUv {x:z6.T} (g:Good x) {k:Int} (hk:0<=k) {j:Nat} {s:OS} (h:OOk x.1.2.length s):OOk x.1.2.length (ofJ x k s j):=by
 unfold ofJ;exact zNz g hk h 3
theorem zV8 {x:z6.T} (g:Good x) {k:Int} (hk:0<=k) {s:OS} (h:OOk x.1.2.length s): ∀ j,OOk x.1.2.length (jL (ofJ x k) s j)
 | 0=>h
 | j+1=>zUv g hk (zV8 g hk h j)
theorem zZk {x:z6.T} (g:Good x) {k:Int} (hk:0<=k): ∀ (f j:Nat) {s:OS},OOk x.1.2.length s->OOk x.1.2.length (bfs x k f j s)
 | 0,_,_,h=>h
 | f+1,j,s,h=>by
   unfold bfs;split
   ·exact zZk g hk f (j+1) (zUv g hk h)
   ·exact h
theorem zLU {n i:Nat} {l:List Int} {k:Int} (hk:0<=k) (hl:l.length=n) (hi:i<n) (h: ¬ l.getD i 0>=0):OOk n (l.set i k,[(i:Int)]):=by
 refine ⟨by rw [qY];exact hl,fun j hj=> ?_,?_⟩
 ·have hj:j<1:=hj;have:j=0:=by omega
  subst this;show (0:Int)<=i/\(i:Int)<n;omega
 ·have:=zOc hk l i (by omega) (by omega);have h2:=zZW l;show 1+unm (l.set i k)<=n;omega
theorem zJt {x:z6.T} (g:Good x): ∀ i,i<=x.1.2.length->(ofL x i).1.length=x.1.2.length/\0<=(ofL x i).2/\(ofL x i).2<=i
 | 0,_=>⟨jR,Int.le_refl 0,Int.le_refl 0⟩
 | i +1,hi=>by
   obtain ⟨h1,h2,h3⟩:=zJt g i (by omega);show (ofI x (ofL x i) i).1.length=_/\0<=(ofI x (ofL x i) i).2/\(ofI x (ofL x i) i).2<=_;unfold ofI;split
   ·exact ⟨h1,h2,by omega⟩
   ·rename_i hn;exact ⟨(zZk g h2 10000 0 (zLU h2 h1 (by omega) hn)).len,by show 0<=(ofL x i).2+1;omega,by show (ofL x i).2+1<=_;omega⟩
theorem z5S {x:z6.T} {k:Int} {j c:Nat} {s:OS} (h1:zA2 x (3*s.2.getD j 0+c)>=0) (h2:s.1.getD ((zA2 x (3*s.2.getD j 0+c)).tdiv 3).toNat 0<0) :
 ofC x k j s c=(s.1.set ((zA2 x (3*s.2.getD j 0+c)).tdiv 3).toNat k,s.2++[(zA2 x (3*s.2.getD j 0+c)).tdiv 3]):=by
 rw [td3 h1] at *;unfold ofC;rw [if_pos ⟨h1,h2⟩]
theorem z3h {x:z6.T} {k:Int} {j c:Nat} {s:OS} (h1:zA2 x (3*s.2.getD j 0+c)>=0) (h2: ¬ s.1.getD ((zA2 x (3*s.2.getD j 0+c)).tdiv 3).toNat 0<0):ofC x k j s c=s:=by
 rw [td3 h1] at *;unfold ofC;rw [if_neg (fun e=>h2 e.2)]
theorem z3m {x:z6.T} {k:Int} {j c:Nat} {s:OS} (h1: ¬ zA2 x (3*s.2.getD j 0+c)>=0):ofC x k j s c=s:=by
 unfold ofC;rw [if_neg (fun e=>h1 e.1)]
theorem z2U {x:z6.T} {k:Int} {j c:Nat} {s:OS} :s.2.length<=(ofC x k j s c).2.length:=by
 unfold ofC;split
 ·show _<=(s.2++[_]).length;rw [zO];omega
 ·exact zH _
theorem zQ2 {x:z6.T} {k:Int} {j:Nat} {s:OS} : ∀ c,s.2.length<=(jL (ofC x k j) s c).2.length
 | 0=>zH _
 | c+1=>jB (zQ2 c) z2U
theorem zSv (x:z6.T) (k:Int) (j:Nat) (s:OS) (c:Nat):jL (ofC x k j) s (c+1)=ofC x k j (jL (ofC x k j) s c) c:=rfl
theorem z35 (x:z6.T) (k:Int) (s:OS) (j:Nat):jL (ofJ x k) s (j+1)=jL (ofC x k j) (jL (ofJ x k) s j) 3:=by
 rw [jL,ofJ]
theorem z4C {x:z6.T} {k:Int} {j:Nat} {s s0:OS} (hj:j<10000) (h:(j:Int)<s.2.length) (e:bfs x k 10000 0 s0=bfs x k (10000 - j) j s):bfs x k 10000 0 s0=bfs x k (10000 - (j+1)) (j+1) (ofJ x k s j):=by
 rw [e,show 10000 - j=(10000 - (j+1))+1 by omega,bfs,if_pos (by omega)]
theorem z2M {x:z6.T} {k:Int} {j:Nat} {s:OS} (h: ¬ (j:Int)<s.2.length): ∀ f,bfs x k f j s=s
 | 0=>rfl
 | f+1=>by rw [bfs,if_neg (by omega)]
theorem zQr {x:z6.T} {i:Nat} (h:(ofL x i).1.getD i 0>=0):ofL x (i+1)=ofL x i:=by
 show ofI x (ofL x i) i=_;unfold ofI;rw [if_pos h]
theorem zYw {x:z6.T} {i:Nat} (h: ¬ (ofL x i).1.getD i 0>=0):ofL x (i+1)=((bfs x (ofL x i).2 10000 0 ((ofL x i).1.set i (ofL x i).2,[(i:Int)])).1,(ofL x i).2+1):=by
 show ofI x (ofL x i) i=_;unfold ofI;rw [if_neg h]
theorem zPo {α:Type} {a b:α} : ∀ (i n:Nat),i<n->List.replicate (i+1) a++List.replicate (n - (i+1)) b=(List.replicate i a++List.replicate (n - i) b).set i a
 | 0,n+1,_=>by simp [List.replicate_succ]
 | i+1,n+1,h=>by
   have:=zPo (a:=a) (b:=b) i n (by omega);show a::(List.replicate (i+1) a++List.replicate (n+1 - (i+1+1)) b)=(a::(List.replicate i a++List.replicate (n+1 - (i+1)) b)).set (i+1) a;rw [List.set_cons_succ,show n+1 - (i+1+1)=n - (i+1) by omega,show n+1 - (i+1)=n - i by omega,this]
attribute [irreducible] ofC ofJ bfs ofI
def zTX (n:Nat):Spec Nat where
 inv i:=i<=n
 live i:=[(16,.s (.int .i64 i))]
 keep:=[0,3,14,15]
 heap i:=[(1,.row qX 3 (List.replicate i (-1)++List.replicate (n - i) 0))]
 keepH:=[0]
 mu i:=n - i
def zSn (x:z6.T):Spec Nat where
 inv i:=i<=x.1.2.length
 live i:=[(25,.s (.int .i64 i)),(5,.s (.int .i64 (ofL x i).2))]
 keep:=[0,3,23,24]
 heap i:=[(1,.row qX 3 (ofL x i).1)]
 keepH:=[0]
 mu i:=x.1.2.length - i
def zWB (x:z6.T) (k:Int) (s:OS):Spec Nat where
 inv j:=j<=(jL (ofJ x k) s j).2.length/\bfs x k 10000 0 s=bfs x k (10000 - j) j (jL (ofJ x k) s j)
 live j:=[(8,.s (.int .i64 j)),(7,.s (.own 2 0 (jL (ofJ x k) s j).2.length))]
 keep:=[0,3,5,6,23,24,25]
 heap j:=[(1,.row qX 3 (jL (ofJ x k) s j).1),(2,.row qX 3 (jL (ofJ x k) s j).2)]
 keepH:=[0]
 mu j:=10000 - j
def zUf (x:z6.T) (k:Int) (j:Nat) (s:OS):Spec Nat where
 inv c:=c<=3
 live c:=[(45,.s (.int .i64 c)),(7,.s (.own 2 0 (jL (ofC x k j) s c).2.length))]
 keep:=[0,3,5,6,8,23,24,25]
 heap c:=[(1,.row qX 3 (jL (ofC x k j) s c).1),(2,.row qX 3 (jL (ofC x k j) s c).2)]
 keepH:=[0]
 mu c:=3 - c
theorem z0W (x:z6.T) (g:Good x):zAk ⟨tyL,[(106,zCY),(95,zTV)],[]⟩ f107 [(ETy.pt z6).av (some x)] (fun v=>v= .s (.sl qX (ofR x))):=by
 have hn:x.1.2.length<=8192:=g.fit.2.2.1
 repeat' (conv=>whnf
          first|done|refine qy ?_|refine qG fun _=> ?_|refine qw (fun _=> ?_) (fun _=> ?_)|apply qt|refine qi (fun _=> ?_) (fun _=> ?_)|(refine jS 3 rfl (zTX x.1.2.length) (0) ?_ ?_ ?_ fun i hi=> ?_)|with_reducible refine jK (zTX _) (i+1) ?_ ?_ ?_ ?_|(refine jS 9 rfl (zSn x) (0) ?_ ?_ ?_ fun i hi=> ?_)|with_reducible refine jK (zSn _) (i+1) ?_ ?_ ?_ ?_|(refine jS 15 rfl (zWB x (ofL x i).2 ((ofL x i).1.set i (ofL x i).2,[(i:Int)])) (0) ?_ ?_ ?_ fun j hj=> ?_)|with_reducible refine jK (zWB _ _ _) (j+1) ?_ ?_ ?_ ?_|(refine jS 18 rfl (zUf x (ofL x i).2 j (jL (ofJ x (ofL x i).2) ((ofL x i).1.set i (ofL x i).2,[(i:Int)]) j)) (0) ?_ ?_ ?_ fun c hc=> ?_)|with_reducible refine jK (zUf _ _ _ _) (c+1) ?_ ?_ ?_ ?_|refine qu ?_|refine qv ?_ ?_|exact zL)
 all_goals try first|refine qz ?_|apply qz5
 all_goals try simp only [qn0,zY,zX,ETy.dflt,Int.reduceToNat,Int.reduceAdd,Int.reduceSub,Int.reduceNeg,Nat.reduceAdd,zTX,zSn,zWB,zUf] at *
 all_goals try (refine qh ?_;omega)
 ·exact zPo _ _ (by omega)
 ·have e:i=x.1.2.length:=by omega
  subst e;rw [Nat.sub_self];simp only [List.replicate_zero,yJ];rfl
 ·rw [zQr (by assumption)]
 ·rw [zQr (by assumption)]
 all_goals try
  have hL:=zJt g i (by omega);have h0:=zLU (n:=x.1.2.length) (i:=i) hL.2.1 hL.1 (by omega) (by assumption)
 ·exact qh ⟨y7 _,rfl⟩
 ·rfl
 all_goals try have hJ:=zV8 g hL.2.1 h0 j
 all_goals try
  have hC:=zNz g hL.2.1 (j:=j) hJ c;have hlen:=zQ2 (x:=x) (k:=(ofL x i).2) (j:=j) (s:=jL (ofJ x (ofL x i).2) ((ofL x i).1.set i (ofL x i).2,[(i:Int)]) j) c;have hd:=hC.td j (by omega)
 all_goals try have hjc:=hJ.cnt
 all_goals try have hcc:=hC.cnt
 all_goals try (refine qh ?_;(try unfold zAZ);omega)
 all_goals try (exact qh (show @LE.le Int _ (3*(jL (ofC x (ofL x i).2 j) (jL (ofJ x (ofL x i).2) ((ofL x i).1.set i (ofL x i).2,[(i:Int)]) j) c).2.getD j 0+c) (1000000:Int) by omega))
 all_goals try (rw [zSv,z5S (by assumption) (by assumption)];first|done|exact zO)
 all_goals try (rw [zSv,z3h (by assumption) (by assumption)];done)
 all_goals try (rw [zSv,z3m (by assumption)];done)
 all_goals try (
  have:=zZQ g ‹_›
  first
   | (refine zA9.intro ⟨by decide,?_⟩;rw [td3 (by assumption)];unfold zAZ;omega)
   | (refine qh ?_;rw [td3 (by assumption)];omega))
 all_goals try (
  have e:c=3:=by omega
  subst e
  first
   | (rw [z35];done)
   | exact qh ⟨by rw [z35];omega,z4C (by omega) (by assumption) hj.2⟩)
 ·rw [zYw (by assumption)]
 ·rw [zYw (by assumption),hj.2,z2M (by assumption)]
 ·have e:i=x.1.2.length:=by omega
  rw [e];unfold ofR;rw [jJ,q9 (by rw [(zJt g _ (zH _)).1];exact zH _)]
def zRo:List AV->Option Res:=zRU z6 (fun x=>some (none,some (Good x),.s (.sl qX (ofR x))))
theorem zOp:jN prog 107 zRo:=mkR (zG8 fun x r h=>by cases h;exact fb (by exact ⟨zEE,zI0,trivial⟩) func107 fun _ h=>z0W x h) func107
end S1
namespace S1
def smC (x:z6.T) (i:Nat) (b:Bool) (c:Nat):Bool:=b|| decide (zA2 x (3*i+c)<0)
def smI (x:z6.T) (l:List Int) (m:Int) (s:Int×Bool) (i:Nat):Int×Bool :=
 if l.getD i 0≠m then s else (s.1+1,jL (smC x i) s.2 3)
def smS (x:z6.T) (m:Int) (i:Nat):Int×Bool:=jL (smI x (ofR x) m) (0,false) i
def smM (x:z6.T) (v:Int):Int:=(ofR x).getD (yL x v / 3).toNat 0
def zBo (x:z6.T) (v:Int):Bool:=decide ((smS x (smM x v) (ofR x).length).1=1)|| (decide ((smS x (smM x v) (ofR x).length).1=4)&& !(smS x (smM x v) (ofR x).length).2)
theorem zLM {x:z6.T} (g:Good x):(ofR x).length=x.1.2.length:=(zJt g _ (zH _)).1
theorem z4M (x:z6.T) (m:Int) (i:Nat):smS x m (i+1)=smI x (ofR x) m (smS x m i) i:=rfl
theorem zMR {x:z6.T} {m:Int} {i:Nat} (h:(ofR x).getD i 0≠m):smS x m (i+1)=smS x m i:=by
 rw [z4M];unfold smI;rw [if_pos h]
theorem zJR {x:z6.T} {m:Int} {i:Nat} (h:(ofR x).getD i 0=m):smS x m (i+1)=((smS x m i).1+1,jL (smC x i) (smS x m i).2 3):=by
 rw [z4M];unfold smI;rw [if_neg (fun e=>e h)]
theorem zZT (x:z6.T) (m:Int): ∀ i,0<=(smS x m i).1/\(smS x m i).1<=i
 | 0=>⟨Int.le_refl 0,Int.le_refl 0⟩
 | i+1=>by
   have:=zZT x m i
   by_cases h:(ofR x).getD i 0=m
   ·rw [zJR h];show 0<=(smS x m i).1+1/\(smS x m i).1+1<=_;omega
   ·rw [zMR h];omega
theorem z0X (x:z6.T) (i:Nat) (b:Bool) (c:Nat):jL (smC x i) b (c+1)=(jL (smC x i) b c|| decide (zA2 x (3*i+c)<0)):=rfl
def zUO (x:z6.T) (m:Int):Spec Nat where
 inv i:=i<=(ofR x).length
 live i:=[(23,.s (.int .i64 i)),(7,.s (.int .i64 (smS x m i).1)),(8,.s (.bool (smS x m i).2))]
 keep:=[0,1,6,21,22]
 heap _:=[]
 keepH:=[]
 mu i:=(ofR x).length - i
def zVP (x:z6.T) (i:Nat) (b:Bool):Spec Nat where
 inv c:=c<=3
 live c:=[(11,.s (.int .i64 (3*i+c))),(8,.s (.bool (jL (smC x i) b c)))]
 keep:=[0,1,6,7,9,21,22,23]
 heap _:=[]
 keepH:=[]
 mu c:=3 - c
theorem zYc (x:z6.T) (v:Int) (h:Good x/\zAY x (yL x v)=true):zAk ⟨tyL,[(107,zRo),(96,zE6),(95,zTV)],[]⟩ f85 [(ETy.pt z6).av (some x),qX.av v] (fun r=>r= .s (.bool (zBo x v))):=by
 have hn:x.1.2.length<=8192:=h.1.fit.2.2.1;have hl:=zLM h.1;have hc0:=z7.1 h.2;have hm:(ofR x).getD ((yL x v).tdiv 3).toNat 0=smM x v:=by rw [td3 hc0.1];rfl
 repeat' (conv=>whnf
          first|done|refine qy ?_|refine qG fun _=> ?_|refine qw (fun _=> ?_) (fun _=> ?_)|apply qt|refine qi (fun _=> ?_) (fun _=> ?_)|(refine jS 5 rfl (zUO x (smM x v)) (0) ?_ ?_ ?_ fun i hi=> ?_)|with_reducible refine jK (zUO _ _) (i+1) ?_ ?_ ?_ ?_|(refine jS 10 rfl (zVP x i (smS x (smM x v) i).2) (0) ?_ ?_ ?_ fun c hc=> ?_)|with_reducible refine jK (zVP _ _ _) (c+1) ?_ ?_ ?_ ?_|refine qu ?_|refine qv ?_ ?_|exact zL)
 all_goals try first|refine qz ?_|apply qz5
 all_goals try simp only [qn0,zY,zX,ETy.dflt,Int.reduceToNat,Int.reduceAdd,Int.reduceSub,Int.reduceNeg,Nat.reduceAdd,zUO,zVP] at *
 all_goals try (refine qh ?_;omega)
 all_goals try have hS:=zZT x (smM x v) i
 all_goals try rw [hm] at *
 ·exact qh h.1
 ·refine zA9.intro ⟨by decide,?_⟩;rw [td3 hc0.1];unfold zAZ;omega
 ·refine qh ?_;rw [td3 hc0.1,hl];omega
 ·rw [zMR (by assumption)]
 ·rw [zMR (by assumption)]
 ·refine qh ?_;unfold zAZ;omega
 ·rw [z0X,show jL (smC x i) (smS x (smM x v) i).2 c=true by assumption];rfl
 ·exact qh (show @LE.le Int _ (3*(i:Int)+c) (1000000:Int) by omega)
 ·rw [z0X,show jL (smC x i) (smS x (smM x v) i).2 c=false by assumption];rfl
 ·rw [zJR (by assumption)]
 ·rw [zJR (by assumption)];have e:c=3:=by omega
  rw [e]
 all_goals (
  have e:i=(ofR x).length:=by omega
  unfold zBo;rw [<- e])
 ·rename_i h1;rw [h1];rfl
 ·rename_i h1 h2;rw [h2];rfl
 ·rename_i h1 h2;rw [decide_eq_false h1,decide_eq_false h2];rfl
def zMY:List AV->Option Res:=zGO z6 qX (fun x v=>some (none,some (Good x/\zAY x (yL x v)=true),.s (.bool (zBo x v))))
theorem zQW:jN prog 85 zMY:=mkR (zBP fun x v r h=>by cases h;exact fb (by exact ⟨zOp,zEH,zI0,trivial⟩) func85 fun _ h=>zYc x v h) func85
end S1
namespace S1
def zH7 (x:z6.T) (a b:Int):List Int:=if a=b then [] else zBl ((zDS x a).filter fun v=>zEA v (zDS x b))
def z4n (o:Option z6.T) (a b:Int):List Int:=onO o [] fun x=>zH7 x a b
def z2x:List AV->Option Res:=zOs (.pt z6) qX qX (fun o a b=>some (none,some (∀ x,o=some x->Good x),.s (.sl qX (z4n o a b))))
def zRX (f:List Int):List Int->Bool
 | []=>true
 | v::r=>zEA v f&&zRX f r
def zFS (x:z6.T) (a b:Int):Int :=
 if !zBe x a b then 1 else if (zDy x a b).length=2/\zAz x a=false/\zAz x b=false then 2
 else if zRX (zDy x a b) (zH7 x a b)=false then 3 else if zBo x a then 4 else 0
theorem zY3 {x:z6.T} (g:Good x) {a b:Int} (h:zBe x a b=true):zAY x (yL x a)=true/\zAY x (yL x b)=true:=by
 have key: ∀ {a b:Int},0<=qR x (a,b)->zAY x (yL x a)=true/\zAY x (yL x b)=true:=fun {a b} h=>by
  unfold qR at h;cases e:zAR .arr2 x.2.1 (a,b) with
  | none=>rw [e] at h;exact absurd h (by decide)
  | some c =>
    obtain ⟨h1,h2⟩:=g.map _ _ e;have e1:yO x (jM x c)=a:=congrArg Prod.fst h2;have e2:yO x (jH x c)=b:=congrArg Prod.snd h2;have k1:=g.cor _ (zA8 h1).1;have k2:=g.cor _ (zA8 h1).2;rw [e1] at k1;rw [e2] at k2;exact ⟨k1,k2⟩
 unfold zBe at h;rw [yN,zB,zB] at h;rcases h with h|h
 ·exact key h
 ·exact (key h).symm
theorem zYY {α:Type} {x:z6.T} {d:α} {f:z6.T->α} :onO (some x) d f=f x:=rfl
theorem zUj {x:z6.T} {a b:Int} :z4n (some x) a b=zH7 x a b:=rfl
attribute [local irreducible] zBe zAz zEA zBo
def z2J (x:z6.T) (a b:Int):Spec Nat where
 inv i:=i<=(zH7 x a b).length/\zRX (zDy x a b) (zH7 x a b)=zRX (zDy x a b) ((zH7 x a b).drop i)
 live i:=[(39,.s (.int .i64 i))]
 keep:=[0,1,2,7,37,38]
 heap _:=[]
 keepH:=[]
 mu i:=(zH7 x a b).length - i
theorem z2s (x:z6.T) (a b:Int) (g:Good x):zAk ⟨tyL,[(71,zTg),(84,zGV),(23,zMd),(68,z2x),(52,zBL),(85,zMY)],[]⟩ Tryz.f50 [(ETy.pt z6).av (some x),qX.av a,qX.av b] (fun r=>r= .s (.int .i64 (zFS x a b))):=by
 repeat' (conv=>whnf
          first|done|refine qy ?_|refine qG fun _=> ?_|refine qw (fun _=> ?_) (fun _=> ?_)|apply qt|refine qi (fun _=> ?_) (fun _=> ?_)|(refine jS 7 rfl (z2J x a b) (0) ?_ ?_ ?_ fun i hi=> ?_)|with_reducible refine jK (z2J _ _ _) (i+1) ?_ ?_ ?_ ?_|refine qu ?_|refine qv ?_ ?_|exact zL)
 all_goals try first|refine qz ?_|apply qz5
 all_goals try simp only [qn0,zY,zX,ETy.dflt,Int.reduceToNat,Int.reduceAdd,Int.reduceSub,Int.reduceNeg,Nat.reduceAdd,z2J,zYY,zUj] at *
 all_goals try have hnear:zBe x a b=true:=by assumption
 all_goals try have hlt:(i:Int)<((zH7 x a b).length:Int):=by assumption
 all_goals try have hge: ¬ (i:Int)<((zH7 x a b).length:Int):=by assumption
 all_goals try have hh:zEA ((zH7 x a b).getD i 0) (zDy x a b)=true:=by assumption
 all_goals try have hf:zEA ((zH7 x a b).getD i 0) (zDy x a b)=false:=by assumption
 all_goals try have hno:zBe x a b=false:=by assumption
 all_goals first
  | exact qh (fun y e=>by cases e;exact g)
  | exact qh ⟨y7 _,rfl⟩
  | exact qh ⟨g,(zY3 g hnear).1⟩
  | (refine zA9.intro ⟨by omega,?_⟩;rw [hi.2,zCt 0 hlt,zRX,hh];rfl)
  | exact qh (by omega)
  | (have hw:zRX (zDy x a b) (zH7 x a b)=true:=by rw [hi.2,zHf hge];rfl
     clear hi;unfold zFS;(try have hfl:(zDy x a b).length=2:=by omega);(try have hfn: ¬ (zDy x a b).length=2:=by omega);simp [*];done)
  | (have hw:zRX (zDy x a b) (zH7 x a b)=false:=by rw [hi.2,zCt 0 hlt,zRX,hf];rfl
     clear hi;unfold zFS;(try have hfl:(zDy x a b).length=2:=by omega);(try have hfn: ¬ (zDy x a b).length=2:=by omega);simp [*];done)
  | (unfold zFS;(try have hfl:(zDy x a b).length=2:=by omega);simp [*];done)
  | skip
end S1
namespace S1
theorem zXg (v:Int) (l:List Int):zAk ⟨tyL,[(52,zBL)],[]⟩ f102 [qX.av v,(ETy.pt (.sl qX)).av (some l)] (fun r=>r= .s (.bool (!zEA v l))):=by
 repeat' (conv=>whnf
          first|done|refine qy ?_|refine qG fun _=> ?_|refine qw (fun _=> ?_) (fun _=> ?_)|apply qt|refine qi (fun _=> ?_) (fun _=> ?_)|refine qu ?_|refine qv ?_ ?_|exact zL)
 all_goals try first|refine qz ?_|apply qz5
 all_goals try simp only [qn0,zY,zX,ETy.dflt,Int.reduceToNat,Int.reduceAdd,Int.reduceSub,Int.reduceNeg,Nat.reduceAdd,qL] at *
def zNe:List AV->Option Res:=zFm qX (.pt (.sl qX)) (fun v o=>match o with|some l=>some (none,none,.s (.bool (!zEA v l)))|none=>none)
theorem zPz:jN prog 102 zNe:=mkR (zA4 fun v o r h=>by
 cases o with
 | none=>cases h
 | some l=>cases h;exact fb (fn:=[(52,zBL)]) ⟨zCk,trivial⟩ func102 fun _ _=>zXg v l) func102
attribute [local irreducible] zEA
def zPc (p:Int->Bool):List Int->Nat->Int
 | [],_=> -1
 | a::r,i=>if p a=true then (i:Int) else zPc p r (i+1)
def zWG (p:Int->Bool) (l:List Int):Spec Nat where
 inv x:=x<=l.length/\zPc p l 0=zPc p (l.drop x) x
 live x:=[(8,.s (.int .i64 x))]
 keep:=[0,1,7]
 heap _:=[]
 keepH:=[]
 mu x:=l.length - x
theorem z2F (l m:List Int):zAk ⟨tyL,[(102,zNe)],[]⟩ f126 [(ETy.sl qX).av l,.s (.clo 102 [⟨.sl qX,m⟩])] (fun r=>r= .s (.int .i64 (zPc (fun v=> !zEA v m) l 0))):=by
 repeat' (conv=>whnf
          first|done|refine qy ?_|refine qG fun _=> ?_|refine qw (fun _=> ?_) (fun _=> ?_)|apply qt|refine qi (fun _=> ?_) (fun _=> ?_)|(refine jS 2 rfl (zWG (fun v=> !zEA v m) l) (0) ?_ ?_ ?_ fun x hx=> ?_)|with_reducible refine jK (zWG _ _) (x+1) ?_ ?_ ?_ ?_|refine qu ?_|refine qv ?_ ?_|exact zL)
 all_goals try first|refine qz ?_|apply qz5
 all_goals try simp only [qn0,zY,zX,ETy.dflt,Int.reduceToNat,Int.reduceAdd,Int.reduceSub,Int.reduceNeg,Nat.reduceAdd,zWG] at *
 all_goals try (refine qh ?_;omega)
 ·exact qh ⟨y7 _,rfl⟩
 ·rename_i h1 h2;exact qh ⟨by omega,by rw [hx.2,zCt 0 h1,zPc,if_neg (by rw [h2];simp)]⟩
 ·rename_i h1 h2;rw [hx.2,zCt 0 h1,zPc,if_pos (by rw [h2];rfl)]
 ·rw [hx.2,zHf (by assumption)];rfl
def zWu:List AV->Option Res
 | [.s (.sl (.int .i64) l),.s (.clo f [⟨.sl (.int .i64),m⟩])]=>match Nat.beq f 102 with
   | true=>some (none,none,.s (.int .i64 (zPc (fun v=> !zEA v m) l 0)))
   | false=>none
 | _=>none
theorem z12:jN prog 126 zWu:=⟨fun args r h=>by
 unfold zWu at h;split at h
 case h_2=>cases h
 split at h
 case h_2=>cases h
 rename_i he;cases h;rw [zC he]
 exact fb (fn:=[(102,zNe)]) ⟨zPz,trivial⟩ func126 fun _ _=>z2F _ _,_,func126,by kernel_rfl,by kernel_rfl⟩
def z6P:List AV->St->(AV->St->Prop)->Prop:=zQS ⟨tyL,[(102,zNe),(126,zWu)],[]⟩ f101
theorem z4Q : zH9 prog 101 z6P ∧ ∃ fn, Tryz.prog.funcs[101]? = some fn ∧ (fn.name == "runtime.NumGoroutine") = false ∧ fn.body.isNone = false :=
 ⟨zNm (zCv (fn:=[(102,zNe),(126,zWu)]) (fr:=[]) ⟨zPz,z12,trivial⟩ trivial) func101 rfl (by kernel_rfl),_,func101,by kernel_rfl,by kernel_rfl⟩
def zIj (p:Int->Bool) (xs:List Int):Spec (Nat×Nat×List Int) where
 inv x:=x.2.1<x.1/\x.1<=xs.length/\x.2.2.length=xs.length/\x.2.2.take x.2.1=(xs.take x.1).filter (fun v=> !p v)/\x.2.2.drop x.1=xs.drop x.1
 live x:=[(5,.s (.int .i64 x.2.1)),(6,.s (.int .i64 x.1))]
 keep:=[0,1]
 heap x:=[(3,.row qX 3 x.2.2)]
 keepH:=[0,4,5]
 mu x:=xs.length - x.1
theorem zVe (o:Option z6.T) (a:Int) (hg: ∀ x,o=some x->Good x):(zBw o a).length<=40000:=by
 cases o with
 | none=>exact y7 _
 | some x =>
   have:=(zGh (hg x rfl) a).1;show (zDS x a).length<=40000;unfold zDS;rw [zO,zSu _ _ _ (zH _)];split
   ·simp only [List.length_singleton];omega
   ·simp only [List.length_nil];omega
theorem zS9 (p:Int->Bool): ∀ (l:List Int) (i:Nat),(zPc p l i= -1/\l.filter (fun v=> !p v)=l)\/(∃ k:Nat,zPc p l i=((i+k:Nat):Int)/\k<l.length/\(l.take k).filter (fun v=> !p v)=l.take k/\p (l.getD k 0)=true)
 | [],i=> .inl ⟨rfl,rfl⟩
 | a ::r,i=>by
   unfold zPc;cases h:p a with
   | true=>exact .inr ⟨0,by simp,by simp,rfl,by simpa using h⟩
   | false =>
     rw [if_neg (by simp)];rcases zS9 p r (i+1) with ⟨h1,h2⟩|⟨k,h1,h2,h3,h4⟩
     ·exact .inl ⟨h1,by rw [yZ (by simp [h]),h2]⟩
     ·exact .inr ⟨k+1,by rw [h1];congr 1;omega,by simp;omega,by rw [List.take_succ_cons,yZ (by simp [h]),h3],by simpa using h4⟩
theorem zZM {o:Option z6.T} {a b:Int} (h:a≠b):z4n o a b=zBl ((zBw o a).filter fun v=>zEA v (zBw o b)):=by
 cases o with
 | none=>show []=zBl [];exact (zDN.1 (zDX [])).symm
 | some x=>show zH7 x a b=_;unfold zH7;rw [if_neg h];rfl
theorem zXE {p:Int->Bool} {xs:List Int} {x:Nat×Nat×List Int} (h:(zIj p xs).inv x) (hlt:x.1<xs.length) (hp:p (x.2.2.getD x.1 0)=false):(zIj p xs).inv (x.1+1,x.2.1+1,x.2.2.set x.2.1 (x.2.2.getD x.1 0)):=by
 obtain ⟨h1,h2,h3,h4,h5⟩:=h
 have e:x.2.2.getD x.1 0=xs.getD x.1 0:=by
  have:=congrArg (fun l=>l.getD 0 0) h5;simpa [gdE] using this
 refine ⟨by show x.2.1+1<x.1+1;omega,by show x.1+1<=_;omega,by show (x.2.2.set _ _).length=_;rw [qY];exact h3,?_,?_⟩
 ·show (x.2.2.set x.2.1 (x.2.2.getD x.1 0)).take (x.2.1+1)=(xs.take (x.1+1)).filter _;rw [yH (by rw [qY];omega),List.take_set_of_le (zH _),h4,List.getElem_set_self,yH hlt,zDO];rw [e] at hp ⊢;rw [gdE,gE hlt] at hp ⊢;have hp:p xs[x.1]=false:=hp;rw [yZ (by rw [hp];rfl)];rfl
 ·show (x.2.2.set x.2.1 _).drop (x.1+1)=xs.drop (x.1+1);rw [List.drop_set_of_lt (by omega),<- zDx,h5,zDx]
theorem zX9 {p:Int->Bool} {xs:List Int} {x:Nat×Nat×List Int} (h:(zIj p xs).inv x) (hlt:x.1<xs.length) (hp:p (x.2.2.getD x.1 0)=true):(zIj p xs).inv (x.1+1,x.2.1,x.2.2):=by
 obtain ⟨h1,h2,h3,h4,h5⟩:=h
 have e:x.2.2.getD x.1 0=xs.getD x.1 0:=by
  have:=congrArg (fun l=>l.getD 0 0) h5;simpa [gdE] using this
 refine ⟨by show x.2.1<x.1+1;omega,by show x.1+1<=_;omega,h3,?_,?_⟩
 ·show x.2.2.take x.2.1=(xs.take (x.1+1)).filter _;rw [h4,yH hlt,zDO];rw [e,gdE,gE hlt] at hp;have hp:p xs[x.1]=true:=hp;rw [qM (by rw [hp];simp)];simp
 ·show x.2.2.drop (x.1+1)=xs.drop (x.1+1);rw [<- zDx,h5,zDx]
theorem zVa (xs m:List Int):xs.filter (fun v=> !!zEA v m)=xs.filter fun v=>zEA v m:=by simp
theorem z48 (o:Option z6.T) (a b:Int) (hg: ∀ x,o=some x->Good x):zAk ⟨tyL,[],[(22,.res zZK),(101,.run z6P),(103,.run zT9)]⟩ f68 [(ETy.pt z6).av o,qX.av a,qX.av b] (fun r=>r= .s (.sl qX (z4n o a b))):=by
 have hlt:=zS9 (fun v=> !zEA v (zBw o b)) (zBw o a) 0;have hlen:=zVe o a hg
 repeat' (conv=>whnf
          first|done|refine qy ?_|refine qG fun _=> ?_|refine qw (fun _=> ?_) (fun _=> ?_)|apply qt|refine qi (fun _=> ?_) (fun _=> ?_)|(refine (fun (X:Array Value)=> ?_))|(refine jS 5 rfl (zIj (fun v=> !zEA v (zBw o b)) (zBw o a)) (((zPc (fun v=> !zEA v (zBw o b)) (zBw o a) 0).toNat+1,(zPc (fun v=> !zEA v (zBw o b)) (zBw o a) 0).toNat,zBw o a)) ?_ ?_ ?_ fun x hx=> ?_)|with_reducible refine jK (zIj _ _) ((x.1+1,if zEA (x.2.2.getD x.1 0) (zBw o b)=true then x.2.1+1 else x.2.1,if zEA (x.2.2.getD x.1 0) (zBw o b)=true then x.2.2.set x.2.1 (x.2.2.getD x.1 0) else x.2.2)) ?_ ?_ ?_ ?_|refine qu ?_|refine qv ?_ ?_|exact zL)
 all_goals try first|refine qz ?_|apply qz5
 all_goals try simp only [qn0,zY,zX,ETy.dflt,Int.reduceToNat,Int.reduceAdd,Int.reduceSub,Int.reduceNeg,Nat.reduceAdd,zIj] at *
 ·rename_i h;cases o with
  | none=>rfl
  | some x=>show []=zH7 x a b;unfold zH7;rw [if_pos h]
 ·have hne:a≠b:=by assumption
  have hi:zPc (fun v=> !zEA v (zBw o b)) (zBw o a) 0= -1:=by assumption
  rcases hlt with ⟨_,hf⟩|⟨k,hk,_⟩
  ·rw [zZM hne,<- zVa (zBw o a) (zBw o b),hf];simp only [List.take_zero,zAr,jJ,List.drop_length,yJ];exact q9 (Nat.le_of_eq (zDX _))
  ·rw [hk] at hi;omega
 all_goals
  have hne:a≠b:=by assumption
  have hi: ¬ zPc (fun v=> !zEA v (zBw o b)) (zBw o a) 0= -1:=by assumption
  obtain ⟨k,hk,hk2,hk3,hk4⟩:=hlt.resolve_left (fun e=>hi e.1)
 ·rw [hk];refine qh ?_;unfold zAZ;omega
 ·rw [hk];refine zA9.intro ⟨by show ((k:Nat):Int).toNat<((k:Nat):Int).toNat+1;omega,by show ((k:Nat):Int).toNat+1<=_;omega,zL,?_,zL⟩;rw [Int.toNat_natCast,yH hk2,zDO,hk3];rw [gdE,gE hk2] at hk4;have hk4:(!zEA (zBw o a)[k] (zBw o b))=true:=hk4;rw [qM (by rw [hk4];simp)];simp
 ·rw [hk];rfl
 ·rw [hk];rfl
 ·refine qh ?_;omega
 ·refine qh ?_;unfold zAZ;omega
 ·rename_i hq;rw [if_pos hq,if_pos hq];exact qh (zXE hx (by omega) (by rw [hq];rfl))
 ·rename_i hq;rw [if_pos hq];rfl
 ·rename_i hq;rw [if_pos hq]
 ·refine qh ?_;omega
 ·rename_i hq;rw [if_neg (by rw [hq];simp),if_neg (by rw [hq];simp)];exact qh (zX9 hx (by omega) (by rw [hq];rfl))
 ·rename_i hq;rw [if_neg (by rw [hq];simp)]
 ·rename_i hq;rw [if_neg (by rw [hq];simp)]
 ·refine qh ?_;omega
 ·refine qh ?_;omega
 ·refine qh ?_;omega
 ·obtain ⟨h1,h2,h3,h4,h5⟩:=hx;have he:x.1=(zBw o a).length:=by omega
  rw [he,qI] at h4;rw [zZM hne,<- zVa (zBw o a) (zBw o b),<- h4];have hl:(x.2.2.take x.2.1).length=x.2.1:=by rw [zAO];omega
  simp only [jJ,List.take_zero,zAr];have e2: ∀ z:List Int,List.take x.2.1 (x.2.2.take x.2.1++z)=x.2.2.take x.2.1:=fun z=>by rw [List.take_append_of_le_length (Nat.le_of_eq hl.symm),q9 (Nat.le_of_eq hl)]
  rw [e2,List.take_append_of_le_length (by rw [zDX];omega),q9 (by rw [zDX];omega)]
theorem zZO:jN prog 68 z2x:=mkR (zEa fun o a b r h=>by
 cases h
 exact fb (fn:=[]) trivial func68 (p2:=by exact ⟨zX7,z4Q,zQh,trivial⟩) fun _ h=>z48 o a b h) func68
end S1
namespace S1
theorem z0C (a b:Int):zAk ⟨tyL,[(71,zTg),(84,zGV),(23,zMd),(68,z2x),(52,zBL),(85,zMY)],[]⟩ Tryz.f50 [(ETy.pt z6).av none,qX.av a,qX.av b] (fun r=>r= .s (.int .i64 1)):=by
 repeat' (conv=>whnf
          first|done|refine qy ?_|refine qG fun _=> ?_|refine qw (fun _=> ?_) (fun _=> ?_)|apply qt|refine qi (fun _=> ?_) (fun _=> ?_)|refine qu ?_|refine qv ?_ ?_|exact zL)
 all_goals try first|refine qz ?_|apply qz5
 all_goals try simp only [qn0,zY,zX,ETy.dflt,Int.reduceToNat,Int.reduceAdd,Int.reduceSub,Int.reduceNeg,Nat.reduceAdd] at *
def z4g (o:Option z6.T) (a b:Int):Int:=onO o 1 fun x=>zFS x a b
def z4J:List AV->Option Res:=zOs (.pt z6) qX qX (fun o a b=>some (none,some (∀ x,o=some x->Good x),.s (.int .i64 (z4g o a b))))
theorem zZd:jN prog 50 z4J:=mkR (zEa fun o a b r h=>by
 cases h;cases o with
 | none=>exact fb (fn:=[(71,zTg),(84,zGV),(23,zMd),(68,z2x),(52,zBL),(85,zMY)]) ⟨zTu,zJo,zQX,zZO,zCk,zQW,trivial⟩ func50 fun _ _=>z0C a b
 | some x=>exact fb (fn:=[(71,zTg),(84,zGV),(23,zMd),(68,z2x),(52,zBL),(85,zMY)]) ⟨zTu,zJo,zQX,zZO,zCk,zQW,trivial⟩ func50 fun _ h=>z2s x a b (h x rfl)) func50
theorem zcy (o:Option z6.T) (a b:Int) (hg: ∀ x,o=some x->Good x):zAk ⟨tyL,[(50,z4J)],[]⟩ f31 [(ETy.pt z6).av o,qX.av a,qX.av b] (fun r=>r= .s (.bool (z4g o a b==0))):=by
 repeat' (conv=>whnf
          first|done|refine qy ?_|refine qG fun _=> ?_|refine qw (fun _=> ?_) (fun _=> ?_)|apply qt|refine qi (fun _=> ?_) (fun _=> ?_)|refine qu ?_|refine qv ?_ ?_|exact zL)
 all_goals try first|refine qz ?_|apply qz5
 all_goals try simp only [qn0,zY,zX,ETy.dflt,Int.reduceToNat,Int.reduceAdd,Int.reduceSub,Int.reduceNeg,Nat.reduceAdd] at *
 all_goals first|exact qh hg|skip
def zdM:List AV->Option Res:=zOs (.pt z6) qX qX (fun o a b=>some (none,some (∀ x,o=some x->Good x),.s (.bool (z4g o a b==0))))
theorem zbz:jN prog 31 zdM:=mkR (zEa fun o a b r h=>by cases h;exact fb (by exact ⟨zZd,trivial⟩) func31 fun _ h=>zcy o a b h) func31
end S1
namespace S1
theorem zEe {x:z6.T} (g:Good x) (a:Int):zBe x a a=false:=by
 have key: ¬ 0<=qR x (a,a):=fun h=>by
  unfold qR at h;cases e:zAR .arr2 x.2.1 (a,a) with
  | none=>rw [e] at h;exact absurd h (by decide)
  | some c =>
    obtain ⟨h1,h2⟩:=g.map _ _ e;exact g.ends c h1 (by rw [h2])
 unfold zBe;rw [decide_eq_false key];rfl
theorem z1J {x:z6.T} {a b:Int} (h:zBe x a b=false):zFS x a b=1:=by unfold zFS;rw [h];rfl
end S1
namespace S1
theorem zQ9 (v:Int): ∀ (l:List Int) (i:Nat),zO1 v l i>=0↔v∈l
 | [],i=>⟨fun h=>by have h:(-1:Int)>=0:=h;omega,fun h=>(by cases h)⟩
 | a ::r,i=>by
   unfold zO1;split
   ·rename_i e;subst e;exact ⟨fun _=>zR ..,fun _=>by omega⟩
   ·rename_i e;rw [zQ9 v r,zS];exact ⟨.inr,fun h=>h.resolve_left e⟩
theorem zPj {v:Int} {l:List Int} :zEA v l=true↔v∈l:=by
 unfold zEA;rw [zB,zQ9]
theorem zUN {x:z6.T} (g:Full x) {a b v:Int} :v∈zH7 x a b↔a≠b/\zBe x a v=true/\zBe x b v=true:=by
 unfold zH7;split
 ·rename_i h;exact ⟨fun h=>(by cases h),fun h'=>absurd h h'.1⟩
 ·rename_i h;rw [(zHB _).mem_iff,yR,zPj,g.link_iff,g.link_iff];exact ⟨fun k=>⟨h,k⟩,fun k=>k.2⟩
theorem zQ0 {f l:List Int} :zRX f l=true↔∀ v∈l,v∈f:=by
 induction l with
 | nil=>exact ⟨fun _ v h=>(by cases h),fun _=>rfl⟩
 | cons a r ih =>
   unfold zRX;rw [zA,zPj,ih]
   exact ⟨fun ⟨h1,h2⟩ v hv=>by
    rcases zS.1 hv with e|hv
    ·rw [e];exact h1
    ·exact h2 v hv,fun h=>⟨h a (zR ..),fun v hv=>h v (zN _ hv)⟩⟩
theorem zWp {x:z6.T} {a b:Int} (h:zFS x a b=0): ∀ v∈zH7 x a b,v∈zDy x a b:=by
 unfold zFS at h
 repeat' split at h
 all_goals first
  | (exact absurd h (by decide))
  | skip
 rename_i hw _;exact zQ0.1 (by cases e:zRX (zDy x a b) (zH7 x a b) with|true=>rfl|false=>exact absurd e hw)
end S1
namespace S1
theorem zHK {x:z6.T} (g:Good x) {b:Int} : ∀ n k,k+n=30000->zPE (yB x) b k->∃ y∈jX x b n (iter (yB x) b k),yB x y<0\/yB x y=b
 | 0,k,e,h=>by have:=zBF g h;omega
 | n + 1,k,e,h=>by
   unfold jX
   by_cases h1:yB x (iter (yB x) b k)<0
   ·rw [if_pos h1];exact ⟨_,zF.2 rfl,.inl h1⟩
   ·rw [if_neg h1]
    by_cases h2:yB x (iter (yB x) b k)=b
    ·rw [if_pos h2];exact ⟨_,zF.2 rfl,.inr h2⟩
    ·rw [if_neg h2];obtain ⟨y,hy,h3⟩:=zHK g n (k+1) (by omega) (h.succ h1 h2);exact ⟨y,zN _ hy,h3⟩
section
variable {x:z6.T} {c d:Int}
theorem Full.last_one (g:Full x) (hc:zAY x c=true) (hd:zAY x d=true) (e:yO x c=yO x d) (h1:yB x c<0) (h2:yB x d<0):c=d:=by
 have hv:=zB3 g.fit hc;obtain ⟨b,_,eL,_⟩:=g.around hv.1 hv.2;have k1:=g.around_all hc;have k2:=g.around_all hd;rw [<- e] at k2;rw [eL] at k1 k2;rw [<- zDF _ _ c k1 h1,<- zDF _ _ d k2 h2]
theorem Full.first_is (g:Full x) (hc:zAY x c=true) (h1:yC x c<0):(zAd x (yO x c)).1=c:=by
 have hv:=zB3 g.fit hc;obtain ⟨b,eb,eL,_⟩:=g.around hv.1 hv.2;have k1:=g.around_all hc;rw [eL] at k1;have:=zCc (x:=x) (b:=b) (fun y=>y=b\/0<=yC x y) (fun y _ ha=> .inr (by rw [g.before_after ha];exact (z7.1 (g.after_has ha).1).1)) _ _ (.inl rfl) c k1;rw [eb];rcases this with h|h
 ·exact h.symm
 ·omega
theorem Full.first_one (g:Full x) (hc:zAY x c=true) (hd:zAY x d=true) (e:yO x c=yO x d) (h1:yC x c<0) (h2:yC x d<0):c=d:=by
 rw [<- g.first_is hc h1,<- g.first_is hd h2,e]
theorem Full.last_of_first (g:Full x) (hc:zAY x c=true) (h1:yC x c<0): ∃ y,zAY x y=true/\yO x y=yO x c/\yB x y<0:=by
 have hv:=zB3 g.fit hc;obtain ⟨b,eb,eL,_,_,_,hall,_⟩:=g.around hv.1 hv.2;obtain ⟨y,hy,h⟩:=zHK g.toGood (b:=b) 30000 0 rfl (fun j a b=>by omega);have hy:y∈yS (some x) (yO x c):=by rw [eL];exact hy
 obtain ⟨k1,k2⟩:=hall y hy;rcases h with h|h
 ·exact ⟨y,k1,k2,h⟩
 ·have hb:=g.first_is hc h1;rw [eb] at hb;rw [hb] at h;have:=g.before_after (c:=y) (by rw [h];exact (z7.1 hc).1);rw [h] at this;have:=(z7.1 k1).1;omega
end
def bE (x:z6.T) (w u:Int):Prop:= ∃ c,zAY x c=true/\zA2 x c<0/\jP x c=(w,u)
section
variable {x:z6.T}
theorem zOe (g:Full x) {w u:Int} (h:bE x w u): ∃ d,zAY x d=true/\yO x d=u/\yB x d<0/\yO x (jH x d)=w:=by
 obtain ⟨c,h1,h2,h3⟩:=h;refine ⟨jH x c,(zA8 h1).2,congrArg Prod.snd h3,?_,by rw [(np h1).2.2.2];exact congrArg Prod.fst h3⟩;unfold yB;rw [(np h1).1,if_pos h2];decide
theorem zK8 (g:Full x) {w u:Int} (h:bE x w u): ∃ d,zAY x d=true/\yO x d=w/\yC x d<0/\yO x (jM x d)=u:=by
 obtain ⟨c,h1,h2,h3⟩:=h;refine ⟨jM x c,(zA8 h1).1,congrArg Prod.fst h3,?_,by rw [(np h1).2.2.1];exact congrArg Prod.snd h3⟩;unfold yC;rw [(np h1).2.1,if_pos h2];decide
theorem zV9 (g:Full x) {d:Int} (h:zAY x d=true) (ha:yB x d<0):bE x (yO x (jH x d)) (yO x d):=by
 refine ⟨jM x d,(zA8 h).1,?_,zNM h⟩
 by_cases e:zA2 x (jM x d)<0
 ·exact e
 ·unfold yB at ha;rw [if_neg e] at ha;have:=(z7.1 (zA8 (g.opp (d:=jM x d) (by omega)).2.1).1).1;omega
theorem zWj (g:Full x) {d:Int} (h:zAY x d=true) (ha:yC x d<0):bE x (yO x d) (yO x (jM x d)):=by
 refine ⟨jH x d,(zA8 h).2,?_,zN6 h⟩
 by_cases e:zA2 x (jH x d)<0
 ·exact e
 ·unfold yC at ha;rw [if_neg e] at ha;have:=(z7.1 (zA8 (g.opp (d:=jH x d) (by omega)).2.1).2).1;omega
theorem zNw (g:Full x) {w w' u:Int} (h:bE x w u) (k:bE x w' u):w=w':=by
 obtain ⟨d,d1,d2,d3,d4⟩:=zOe g h;obtain ⟨e,e1,e2,e3,e4⟩:=zOe g k;rw [<- d4,<- e4,g.last_one d1 e1 (d2.trans e2.symm) d3 e3]
theorem zQx (g:Full x) {w u u':Int} (h:bE x w u) (k:bE x w u'):u=u':=by
 obtain ⟨d,d1,d2,d3,d4⟩:=zK8 g h;obtain ⟨e,e1,e2,e3,e4⟩:=zK8 g k;rw [<- d4,<- e4,g.first_one d1 e1 (d2.trans e2.symm) d3 e3]
theorem zFk (g:Full x) {w u:Int} (h:bE x w u): ∃ z,bE x z w:=by
 obtain ⟨d,d1,d2,d3,d4⟩:=zK8 g h;obtain ⟨y,y1,y2,y3⟩:=g.last_of_first d1 d3;have:=zV9 g y1 y3;rw [y2,d2] at this;exact ⟨_,this⟩
theorem zPQ (g:Full x) {w u:Int} (h:bE x w u):(0<=w/\w<x.1.1)/\(0<=u/\u<x.1.1)/\w≠u:=by
 obtain ⟨c,h1,h2,h3⟩:=h;have e1:yO x (jM x c)=w:=congrArg Prod.fst h3;have e2:yO x (jH x c)=u:=congrArg Prod.snd h3;have k1:=zB3 g.fit (zA8 h1).1;have k2:=zB3 g.fit (zA8 h1).2;have k3:=(g.ne h1).2.2;rw [e1] at k1 k3;rw [e2] at k2 k3;exact ⟨k1,k2,k3⟩
end
end S1
namespace S1
def eE (l:List P3) (a b:Int):Prop:= ∃ i,i<l.length/\dE (tg l i) a b
theorem zDw {x:z6.T} {c:Int} (h:zAY x c=true):(c / 3).toNat<x.1.2.length/\dE (tg x.1.2 (c / 3).toNat) (jP x c).1 (jP x c).2:=by
 have hc:=z7.1 h;have h1:=z7.1 (zA8 h).1;have h2:=z7.1 (zA8 h).2;refine ⟨by omega,?_⟩;show dE _ (yO x (jM x c)) (yO x (jH x c));rw [zCh h1.1 h1.2,zCh h2.1 h2.2,zBI h,zBj h];have e1:(trn c 1 / 3).toNat=(c / 3).toNat:=by unfold trn;omega
 have e2:(trn c 2 / 3).toNat=(c / 3).toNat:=by unfold trn;omega
 rw [e1,e2];have:c % 3=0\/c % 3=1\/c % 3=2:=by omega
 rcases this with e|e|e
 ·rw [show trn c 1 % 3=1 by unfold trn;omega,show trn c 2 % 3=2 by unfold trn;omega];exact .inr (.inl ⟨rfl,rfl⟩)
 ·rw [show trn c 1 % 3=2 by unfold trn;omega,show trn c 2 % 3=0 by unfold trn;omega];exact .inr (.inr ⟨rfl,rfl⟩)
 ·rw [show trn c 1 % 3=0 by unfold trn;omega,show trn c 2 % 3=1 by unfold trn;omega];exact .inl ⟨rfl,rfl⟩
theorem zHF {x:z6.T} {j:Nat} {a b:Int} (hj:j<x.1.2.length) (h:dE (tg x.1.2 j) a b): ∃ c,zAY x c=true/\jP x c=(a,b)/\(c / 3).toNat=j:=by
 have key: ∀ k:Int,0<=k->k<3->p3 (tg x.1.2 j) ((k+1) % 3)=a->p3 (tg x.1.2 j) ((k+2) % 3)=b->∃ c,zAY x c=true/\jP x c=(a,b)/\(c / 3).toNat=j:=fun k h1 h2 ea eb=>by
  have hc:zAY x (3*(j:Int)+k)=true:=z7.2 (by omega);have k1:=z7.1 (zA8 hc).1;have k2:=z7.1 (zA8 hc).2;refine ⟨3*j+k,hc,?_,by omega⟩;show (yO x (jM x _),yO x (jH x _))=_;rw [zCh k1.1 k1.2,zCh k2.1 k2.2,zBI hc,zBj hc]
  rw [show (trn (3*(j:Int)+k) 1 / 3).toNat=j by unfold trn;omega,show (trn (3*(j:Int)+k) 2 / 3).toNat=j by unfold trn;omega,
   show trn (3*(j:Int)+k) 1 % 3=(k+1) % 3 by unfold trn;omega,show trn (3*(j:Int)+k) 2 % 3=(k+2) % 3 by unfold trn;omega,ea,eb]
 rcases h with h|h|h
 ·exact key 2 (by omega) (by omega) h.1 h.2
 ·exact key 0 (by omega) (by omega) h.1 h.2
 ·exact key 1 (by omega) (by omega) h.1 h.2
theorem zEU {x:z6.T} {a b:Int} :eE x.1.2 a b↔∃ c,zAY x c=true/\jP x c=(a,b):=by
 constructor
 ·rintro ⟨i,hi,h⟩;obtain ⟨c,h1,h2,_⟩:=zHF hi h;exact ⟨c,h1,h2⟩
 ·rintro ⟨c,h1,h2⟩;have:=zDw h1;rw [h2] at this;exact ⟨_,this⟩
theorem zNB {x:z6.T} (g:Full x) {w u:Int} :bE x w u↔eE x.1.2 w u/\¬ eE x.1.2 u w:=by
 rw [zEU,zEU];constructor
 ·rintro ⟨c,h1,h2,h3⟩;refine ⟨⟨c,h1,h3⟩,fun ⟨d,k1,k2⟩=> ?_⟩;have:=g.opp_is (c:=c) k1 (by rw [k2,h3]);have h4:=(z7.1 k1).1;omega
 ·rintro ⟨⟨c,h1,h3⟩,h⟩;refine ⟨c,h1,?_,h3⟩
  by_cases e:zA2 x c<0
  ·exact e
  ·obtain ⟨k1,k2,k3,k4⟩:=g.opp_v (c:=c) (by omega);refine absurd ⟨zA2 x c,k2,?_⟩ h;show (_,_)=_;rw [k3,k4];have e1:yO x (jM x c)=w:=congrArg Prod.fst h3;have e2:yO x (jH x c)=u:=congrArg Prod.snd h3;rw [e1,e2]
theorem zD5 {x:z6.T} (g:Full x) {v:Int} :zAz x v=true↔(0<=v/\v<x.1.1)/\¬ ∃ w,bE x w v:=by
 unfold zAz;rw [zA,y8];constructor
 ·rintro ⟨h1,h2⟩;have ht:=zNl.1 h1;refine ⟨⟨ht.1,ht.2.1⟩,fun ⟨w,hw⟩=> ?_⟩;obtain ⟨b,eb,eL,hb1,hb2,hb3,hall,_,_,hend⟩:=g.around ht.1 ht.2.1;obtain ⟨d,d1,d2,d3,_⟩:=zOe g hw;rcases hend with h|h
  ·rw [h.1] at h2;cases h2
  ·have:=h.2 d (by rw [<- d2];exact g.around_all d1);omega
 ·rintro ⟨⟨h0,h1⟩,h2⟩;refine ⟨g.there h0 h1,?_⟩;obtain ⟨b,eb,eL,hb1,hb2,hb3,hall,_,_,hend⟩:=g.around h0 h1;rcases hend with h|h
  ·have:=zWj g hb1 h.2;rw [hb2] at this;exact absurd (zFk g this) h2
  ·exact h.1
theorem zLn (f:Int->Int) (a:Int) (i:Nat): ∀ j,iter f (iter f a i) j=iter f a (i+j)
 | 0=>rfl
 | j+1=>congrArg f (zLn f a i j)
theorem exists_least {P:Nat->Prop} [DecidablePred P] {n:Nat} (h:P n): ∃ p,P p/\p<=n/\∀ j,j<p->¬ P j:=by
 induction n using Nat.strongRecOn with
 | _ n ih =>
   by_cases e: ∃ j,j<n/\P j
   ·obtain ⟨j,hj,hP⟩:=e;obtain ⟨p,h1,h2,h3⟩:=ih j hj hP;exact ⟨p,h1,by omega,h3⟩
   ·exact ⟨n,h,zH _,fun j hj hP=>e ⟨j,hj,hP⟩⟩
end S1
namespace S1
theorem zEw {α:Type} (d:α) (L:List α):(List.range L.length).map (fun i=>L.getD i d)=L:=by
 apply List.ext_getElem
 ·rw [jF,zDs]
 ·intro i h1 h2;rw [List.getElem_map,List.getElem_range,gdE,gE h2];rfl
theorem qZ {l:List P3} {i:Nat} (h:i<l.length):tg l i∈l:=by
 unfold tg;rw [gdE,gE h];exact qF h
theorem zAj {l:List P3} {t:P3} (h:t∈l): ∃ i,i<l.length/\tg l i=t:=by
 obtain ⟨i,hi,e⟩:=yI.1 h;exact ⟨i,hi,by unfold tg;rw [gdE,gE hi];exact e⟩
theorem zDP {l:List P3} {a b:Int} :eE l a b↔∃ t∈l,dE t a b:=by
 constructor
 ·rintro ⟨i,hi,h⟩;exact ⟨_,qZ hi,h⟩
 ·rintro ⟨t,ht,h⟩;obtain ⟨i,hi,e⟩:=zAj ht;exact ⟨i,hi,by rw [e];exact h⟩
theorem qC {t:P3} {a b:Int} (h:dE t a b):zV t a/\zV t b:=by
 rcases h with ⟨h1,h2⟩|⟨h1,h2⟩|⟨h1,h2⟩
 ·exact ⟨.inl h1,.inr (.inl h2)⟩
 ·exact ⟨.inr (.inl h1),.inr (.inr h2)⟩
 ·exact ⟨.inr (.inr h1),.inl h2⟩
theorem zX3 {s:Int×List P3} (h:zM1 s) {i:Nat} (hi:i<s.2.length) {v:Int} (hv:zV (tg s.2 i) v):0<=v/\v<s.1:=by
 have:=zAv (h.2.2.2 i hi);rcases hv with e|e|e<;>(rw [<- e];first|exact this.1|exact this.2.1|exact this.2.2)
end S1
namespace S1
def z4l (l:List P3) (v:Int):Prop:= ∀ Q:P3->Prop,
    (∀ t∈l,∀ u∈l,zV t v->zV u v->(∃ w:Int,w≠v/\zV t w/\zV u w)->Q t->Q u)->
    ∀ t∈l,zV t v->Q t->∀ u∈l,zV u v->Q u
structure j5 (V:Int->Prop) (l:List P3):Prop where
 nd:l.Nodup
 ent: ∀ t∈l,∀ v,zV t v->V v
 deg: ∀ t∈l,¬ dgn t
 dif: ∀ t∈l,∀ u∈l,t≠u->∀ a b,dE t a b->¬ dE u a b
 mir: ∀ t∈l,∀ u∈l,t≠u->¬ (zV u t.1/\zV u t.2.1/\zV u t.2.2)
 use: ∀ v,V v->∃ t∈l,zV t v
 pin: ∀ v,V v->z4l l v
instance (t:P3) (v:Int):Decidable (zV t v):=inferInstanceAs (Decidable (t.1=v\/t.2.1=v\/t.2.2=v))
theorem zUI {t:P3} {a b r:Int} (hab:a≠b) (har:a≠r) (hbr:b≠r) (h1:zV t a) (h2:zV t b) (h3:zV t r) :
 (dE t a b/\dE t b r/\dE t r a)\/(dE t b a/\dE t a r/\dE t r b):=by
 obtain ⟨x,y,z⟩:=t;unfold zV at h1 h2 h3;unfold dE;simp only at *;rcases h1 with e1|e1|e1<;>rcases h2 with e2|e2|e2<;>rcases h3 with e3|e3|e3<;>first|(exfalso;omega)|(subst e1 e2 e3;simp)
theorem zIX {t:P3} (hd: ¬ dgn t) {a b:Int} (hab:a≠b) (h1:zV t a) (h2:zV t b): ∃ r,r≠a/\r≠b/\zV t r/\∀ w,zV t w->w=a\/w=b\/w=r:=by
 obtain ⟨x,y,z⟩:=t;unfold dgn at hd;unfold zV at h1 h2;simp only at *;rcases h1 with e1|e1|e1<;>rcases h2 with e2|e2|e2
 ·omega
 ·exact ⟨z,by omega,by omega,.inr (.inr rfl),fun w hw=>by unfold zV at hw;simp only at hw;omega⟩
 ·exact ⟨y,by omega,by omega,.inr (.inl rfl),fun w hw=>by unfold zV at hw;simp only at hw;omega⟩
 ·exact ⟨z,by omega,by omega,.inr (.inr rfl),fun w hw=>by unfold zV at hw;simp only at hw;omega⟩
 ·omega
 ·exact ⟨x,by omega,by omega,.inl rfl,fun w hw=>by unfold zV at hw;simp only at hw;omega⟩
 ·exact ⟨y,by omega,by omega,.inr (.inl rfl),fun w hw=>by unfold zV at hw;simp only at hw;omega⟩
 ·exact ⟨x,by omega,by omega,.inl rfl,fun w hw=>by unfold zV at hw;simp only at hw;omega⟩
 ·omega
theorem zGB {t:P3} (hd: ¬ dgn t) {a b:Int} (h:dE t a b):a≠b:=by
 unfold dgn at hd;unfold dE at h;omega
theorem zQ1 {t:P3} {v:Int} (h:zV t v): ∃ w,dE t v w:=by
 rcases h with e|e|e
 ·exact ⟨_,.inl ⟨e,rfl⟩⟩
 ·exact ⟨_,.inr (.inl ⟨e,rfl⟩)⟩
 ·exact ⟨_,.inr (.inr ⟨e,rfl⟩)⟩
theorem j5.same {V:Int->Prop} {l:List P3} (h:j5 V l) {t u:P3} (ht:t∈l) (hu:u∈l) {a b r:Int} (hab:a≠b) (har:a≠r) (hbr:b≠r) (h1:zV t a) (h2:zV t b) (h3:zV t r) (k1:zV u a) (k2:zV u b) (k3:zV u r):t=u:=by
 apply yE;intro hne;obtain ⟨r',e1,e2,e3,e4⟩:=zIX (h.deg t ht) hab h1 h2
 have er:r=r':=by
  rcases e4 r h3 with e|e|e
  ·exact absurd e.symm har
  ·exact absurd e.symm hbr
  ·exact e
 subst er
 have key: ∀ w,zV t w->zV u w:=fun w hw=>by
  rcases e4 w hw with e|e|e<;>(subst e;assumption)
 exact h.mir t ht u hu hne ⟨key _ (.inl rfl),key _ (.inr (.inl rfl)),key _ (.inr (.inr rfl))⟩
def ph (a b v:Int):Int:=if v=a then b else v
def phT (a b:Int) (t:P3):P3:=(ph a b t.1,ph a b t.2.1,ph a b t.2.2)
def both (a b:Int) (t:P3):Bool:=decide (zV t a/\zV t b)
def zDG (a b:Int) (l:List P3):List P3:=(l.filter fun t=> !both a b t).map (phT a b)
theorem zDi {a b:Int} {t:P3} {v:Int} (h:zV t v):zV (phT a b t) (ph a b v):=by
 rcases h with e|e|e
 ·exact .inl (by show ph a b t.1=_;rw [e])
 ·exact .inr (.inl (by show ph a b t.2.1=_;rw [e]))
 ·exact .inr (.inr (by show ph a b t.2.2=_;rw [e]))
theorem zEz {a b:Int} {t:P3} {v:Int} (h:zV (phT a b t) v): ∃ w,zV t w/\ph a b w=v:=by
 rcases h with e|e|e
 ·exact ⟨_,.inl rfl,e⟩
 ·exact ⟨_,.inr (.inl rfl),e⟩
 ·exact ⟨_,.inr (.inr rfl),e⟩
theorem zVs {a b:Int} {t:P3} {p q:Int} (h:dE (phT a b t) p q): ∃ p0 q0,dE t p0 q0/\ph a b p0=p/\ph a b q0=q:=by
 rcases h with ⟨e1,e2⟩|⟨e1,e2⟩|⟨e1,e2⟩
 ·exact ⟨_,_,.inl ⟨rfl,rfl⟩,e1,e2⟩
 ·exact ⟨_,_,.inr (.inl ⟨rfl,rfl⟩),e1,e2⟩
 ·exact ⟨_,_,.inr (.inr ⟨rfl,rfl⟩),e1,e2⟩
theorem z1v (a b:Int):ph a b a=b:=if_pos rfl
theorem zMJ {a b v:Int} (h:v≠a):ph a b v=v:=if_neg h
theorem zGF {a b v w:Int} (h:ph a b v=ph a b w):v=w\/(v=a/\w=b)\/(v=b/\w=a):=by
 unfold ph at h;split at h<;>split at h<;>omega
theorem zL6 {a b:Int} {u:P3} :(!both a b u)=true↔¬ (zV u a/\zV u b):=by
 unfold both;rw [y8,yX]
theorem zAh {a b:Int} {l:List P3} {t:P3} :t∈zDG a b l↔∃ u∈l,¬ (zV u a/\zV u b)/\phT a b u=t:=by
 unfold zDG both;rw [zU];constructor
 ·rintro ⟨u,hu,e⟩;obtain ⟨h1,h2⟩:=yR.1 hu;exact ⟨u,h1,zL6.1 h2,e⟩
 ·rintro ⟨u,h1,h2,e⟩;exact ⟨u,yR.2 ⟨h1,zL6.2 h2⟩,e⟩
structure zH6 (l:List P3) (a b:Int):Prop where
 ne:a≠b
 near: ∃ t∈l,zV t a/\zV t b
 com: ∀ v,v≠a->v≠b->(∃ t∈l,zV t a/\zV t v)->(∃ u∈l,zV u b/\zV u v)->∃ t∈l,zV t a/\zV t b/\zV t v
 lone: ∀ t∈l,zV t a->zV t b->∀ v,v≠a->v≠b->zV t v->∃ u∈l,u≠t/\zV u v/\(zV u a\/zV u b)
 tetra: ∀ p q,p≠q->p≠a->p≠b->q≠a->q≠b->(∃ t∈l,zV t a/\zV t p/\zV t q)->(∃ t∈l,zV t b/\zV t p/\zV t q)->(∃ t∈l,zV t a/\zV t b/\zV t p)->(∃ t∈l,zV t a/\zV t b/\zV t q)->False
 turn: ∀ t∈l,∀ u∈l,t≠u->zV t a->zV t b->zV u a->zV u b->∃ c,(c=a\/c=b)/\
  ∀ Q:P3->Prop,(∀ s∈l,∀ r∈l,zV s c->zV r c->(∃ w:Int,w≠a/\w≠b/\zV s w/\zV r w)->Q s->Q r)->Q t->Q u
section
variable {V:Int->Prop} {l:List P3} {a b:Int}
theorem zST (h:j5 V l) (f:zH6 l a b) {t u:P3} (ht:t∈l) (hu:u∈l) (hne:t≠u) (dt: ¬ (zV t a/\zV t b)) (du: ¬ (zV u a/\zV u b)) {p q:Int} (h1:dE (phT a b t) p q) (h2:dE (phT a b u) p q):False:=by
 obtain ⟨p0,q0,d0,ep0,eq0⟩:=zVs h1;obtain ⟨p1,q1,d1,ep1,eq1⟩:=zVs h2;have n0:=zGB (h.deg t ht) d0;have n1:=zGB (h.deg u hu) d1;have v0:=qC d0;have v1:=qC d1
 -- one end is drawn
 have key: ∀ {x y:P3},x∈l->y∈l->¬ (zV x a/\zV x b)->¬ (zV y a/\zV y b)->∀ r,r≠a->r≠b->((dE x a r/\dE y b r)\/(dE x r a/\dE y r b))->False:=fun {x y} hx hy dx dy r ra rb hh=>by
  have hxa:zV x a/\zV x r:=by rcases hh with k|k;exact qC k.1;exact (qC k.1).symm
  have hyb:zV y b/\zV y r:=by rcases hh with k|k;exact qC k.2;exact (qC k.2).symm
  obtain ⟨w,hw,wa,wb,wr⟩:=f.com r ra rb ⟨x,hx,hxa⟩ ⟨y,hy,hyb⟩;have hwx:w≠x:=fun e=>dx (by rw [<- e];exact ⟨wa,wb⟩);have hwy:w≠y:=fun e=>dy (by rw [<- e];exact ⟨wa,wb⟩);rcases zUI f.ne ra.symm rb.symm wa wb wr with ⟨o1,o2,o3⟩|⟨o1,o2,o3⟩
  ·rcases hh with k|k
   ·exact h.dif w hw y hy hwy _ _ o2 k.2
   ·exact h.dif w hw x hx hwx _ _ o3 k.1
  ·rcases hh with k|k
   ·exact h.dif w hw x hx hwx _ _ o2 k.1
   ·exact h.dif w hw y hy hwy _ _ o3 k.2
 have nab: ∀ {x:P3} {v w:Int},¬ (zV x a/\zV x b)->zV x v->zV x w->v≠w->(v=a\/v=b)->w≠a/\w≠b:=fun {x v w} dx hv hw hvw e=>by
  refine ⟨fun ew=> ?_,fun ew=> ?_⟩
  ·rcases e with e|e
   ·exact hvw (e.trans ew.symm)
   ·exact dx ⟨by rw [<- ew];exact hw,by rw [<- e];exact hv⟩
  ·rcases e with e|e
   ·exact dx ⟨by rw [<- e];exact hv,by rw [<- ew];exact hw⟩
   ·exact hvw (e.trans ew.symm)
 rcases zGF (ep0.trans ep1.symm) with e|⟨e1,e2⟩|⟨e1,e2⟩
 ·rcases zGF (eq0.trans eq1.symm) with e'|⟨e1,e2⟩|⟨e1,e2⟩
  ·subst e;subst e';exact h.dif t ht u hu hne _ _ d0 d1
  ·subst e;subst e1;subst e2;have:=nab dt v0.2 v0.1 n0.symm (.inl rfl);exact key ht hu dt du p0 this.1 this.2 (.inr ⟨d0,d1⟩)
  ·subst e;subst e1;subst e2;have:=nab dt v0.2 v0.1 n0.symm (.inr rfl);exact key hu ht du dt p0 this.1 this.2 (.inr ⟨d1,d0⟩)
 ·subst e1;subst e2;have k:=nab dt v0.1 v0.2 n0 (.inl rfl);have k2:=nab du v1.1 v1.2 n1 (.inr rfl)
  have e':q0=q1:=by
   rcases zGF (eq0.trans eq1.symm) with e'|⟨e1,e2⟩|⟨e1,e2⟩
   ·exact e'
   ·exact absurd e1 k.1
   ·exact absurd e1 k.2
  subst e';exact key ht hu dt du q0 k.1 k.2 (.inl ⟨d0,d1⟩)
 ·subst e1;subst e2;have k:=nab dt v0.1 v0.2 n0 (.inr rfl)
  have e':q0=q1:=by
   rcases zGF (eq0.trans eq1.symm) with e'|⟨e1,e2⟩|⟨e1,e2⟩
   ·exact e'
   ·exact absurd e1 k.1
   ·exact absurd e1 k.2
  subst e';exact key hu ht du dt q0 k.1 k.2 (.inl ⟨d1,d0⟩)
theorem zUi (h:j5 V l) (f:zH6 l a b) {t:P3} (ht:t∈l) (dt: ¬ (zV t a/\zV t b)): ¬ dgn (phT a b t):=by
 have hd:=h.deg t ht
 have key: ∀ {v w:Int},zV t v->zV t w->v≠w->ph a b v≠ph a b w:=fun {v w} hv hw hvw e=>by
  rcases zGF e with e|⟨e1,e2⟩|⟨e1,e2⟩
  ·exact hvw e
  ·exact dt ⟨by rw [<- e1];exact hv,by rw [<- e2];exact hw⟩
  ·exact dt ⟨by rw [<- e2];exact hw,by rw [<- e1];exact hv⟩
 rintro (e|e|e)
 ·exact key (.inl rfl) (.inr (.inl rfl)) (fun k=>hd (.inl k)) e
 ·exact key (.inr (.inl rfl)) (.inr (.inr rfl)) (fun k=>hd (.inr (.inl k))) e
 ·exact key (.inr (.inr rfl)) (.inl rfl) (fun k=>hd (.inr (.inr k))) e
theorem zGe (f:zH6 l a b) {t:P3} :zV (phT a b t) b↔zV t a\/zV t b:=by
 constructor
 ·intro h;obtain ⟨w,hw,e⟩:=zEz h
  by_cases ea:w=a
  ·exact .inl (by rw [<- ea];exact hw)
  ·rw [zMJ ea] at e;exact .inr (by rw [<- e];exact hw)
 ·rintro (h|h)
  ·have:=zDi (a:=a) (b:=b) h;rwa [z1v] at this
  ·have:=zDi (a:=a) (b:=b) h;rwa [zMJ f.ne.symm] at this
theorem zFx {t:P3} {v:Int} (h1:v≠a) (h2:v≠b):zV (phT a b t) v↔zV t v:=by
 constructor
 ·intro h;obtain ⟨w,hw,e⟩:=zEz h
  by_cases ea:w=a
  ·rw [ea,z1v] at e;exact absurd e.symm h2
  ·rw [zMJ ea] at e;rw [<- e];exact hw
 ·intro h;have:=zDi (a:=a) (b:=b) h;rwa [zMJ h1] at this
theorem zYG (f:zH6 l a b) {t:P3} : ¬ zV (phT a b t) a:=fun h=>by
 obtain ⟨w,hw,e⟩:=zEz h
 by_cases ea:w=a
 ·rw [ea,z1v] at e;exact f.ne e.symm
 ·rw [zMJ ea] at e;exact ea e
theorem zLD (h:j5 V l) (f:zH6 l a b) {t:P3} (ht:t∈l) (ha:zV t a) (hb:zV t b) {v:Int} (va:v≠a) (vb:v≠b) (hv:zV t v): ∃ u∈l,¬ (zV u a/\zV u b)/\zV u v/\(zV u a\/zV u b):=by
 obtain ⟨u,hu,hne,k1,k2⟩:=f.lone t ht ha hb v va vb hv;refine ⟨u,hu,fun hab=>hne ?_,k1,k2⟩;exact h.same hu ht f.ne va.symm vb.symm hab.1 hab.2 k1 ha hb hv
theorem z0Q (h:j5 V l) (f:zH6 l a b) {v:Int} (hV:V v) (va:v≠a) (vb:v≠b):z4l (zDG a b l) v:=by
 intro Q hQ t' ht' hv' hq u' hu' hw';obtain ⟨t,ht,dt,rfl⟩:=zAh.1 ht';obtain ⟨u,hu,du,rfl⟩:=zAh.1 hu';rw [zFx va vb] at hv' hw'
 let H:P3->Prop:=fun s=>(¬ (zV s a/\zV s b)/\Q (phT a b s))\/((zV s a/\zV s b)/\∃ r∈l,¬ (zV r a/\zV r b)/\zV r v/\(zV r a\/zV r b)/\Q (phT a b r))
 have inn: ∀ {s:P3},s∈l->¬ (zV s a/\zV s b)->phT a b s∈zDG a b l:=fun hs ds=>zAh.2 ⟨_,hs,ds,rfl⟩
 have toQ: ∀ {s r:P3},s∈l->r∈l->¬ (zV s a/\zV s b)->¬ (zV r a/\zV r b)->zV s v->zV r v->(∃ w,w≠v/\zV (phT a b s) w/\zV (phT a b r) w)->Q (phT a b s)->Q (phT a b r):=fun {s r} hs hr ds dr sv rv hh =>
  hQ _ (inn hs ds) _ (inn hr dr) ((zFx va vb).2 sv) ((zFx va vb).2 rv) hh
 have hH : H u:=by
  refine h.pin v hV H (fun s hs r hr sv rv ⟨w,wv,sw,rw'⟩ k=> ?_) t ht hv' (.inl ⟨dt,hq⟩) u hu hw'
  by_cases ds:zV s a/\zV s b
  ·-- s goes
   have k: ∃ r∈l,¬ (zV r a/\zV r b)/\zV r v/\(zV r a\/zV r b)/\Q (phT a b r):=by
    rcases k with k|k
    ·exact absurd ds k.1
    ·exact k.2
   by_cases dr:zV r a/\zV r b
   ·exact .inr ⟨dr,k⟩
   ·obtain ⟨r0,h0,d0,v0,e0,q0⟩:=k
    have hwab:w=a\/w=b:=by
     obtain ⟨z,z1,z2,z3,z4⟩:=zIX (h.deg s hs) f.ne ds.1 ds.2
     have ev:v=z:=by
      rcases z4 v sv with e|e|e
      ·exact absurd e va
      ·exact absurd e vb
      ·exact e
     rcases z4 w sw with e|e|e
     ·exact .inl e
     ·exact .inr e
     ·exact absurd (e.trans ev.symm) wv
    refine .inl ⟨dr,toQ h0 hr d0 dr v0 rv ⟨b,vb.symm,(zGe f).2 e0,(zGe f).2 ?_⟩ q0⟩;rcases hwab with e|e
    ·exact .inl (by rw [<- e];exact rw')
    ·exact .inr (by rw [<- e];exact rw')
  ·have k:Q (phT a b s):=by
    rcases k with k|k
    ·exact k.2
    ·exact absurd k.1 ds
   by_cases dr:zV r a/\zV r b
   ·refine .inr ⟨dr,s,hs,ds,sv,?_,k⟩;obtain ⟨z,z1,z2,z3,z4⟩:=zIX (h.deg r hr) f.ne dr.1 dr.2
    have ev:v=z:=by
     rcases z4 v rv with e|e|e
     ·exact absurd e va
     ·exact absurd e vb
     ·exact e
    rcases z4 w rw' with e|e|e
    ·exact .inl (by rw [<- e];exact sw)
    ·exact .inr (by rw [<- e];exact sw)
    ·exact absurd (e.trans ev.symm) wv
   ·refine .inl ⟨dr,toQ hs hr ds dr sv rv ⟨ph a b w,fun e=> ?_,zDi sw,zDi rw'⟩ k⟩
    by_cases ew:w=a
    ·rw [ew,z1v] at e;exact vb e.symm
    ·rw [zMJ ew] at e;exact wv e
 rcases hH with k|k
 ·exact k.2
 ·exact absurd k.1 du
theorem zTH (h:j5 V l) (f:zH6 l a b) (hVa:V a) (hVb:V b):z4l (zDG a b l) b:=by
 intro Q hQ t' ht' hv' hq u' hu' hw';obtain ⟨t,ht,dt,rfl⟩:=zAh.1 ht';obtain ⟨u,hu,du,rfl⟩:=zAh.1 hu';rw [zGe f] at hv' hw';have inn: ∀ {s:P3},s∈l->¬ (zV s a/\zV s b)->phT a b s∈zDG a b l:=fun hs ds=>zAh.2 ⟨_,hs,ds,rfl⟩
 let S:Int->Prop:=fun p=> ∃ r∈l,¬ (zV r a/\zV r b)/\(zV r a\/zV r b)/\zV r p/\Q (phT a b r)
 have toQ: ∀ {s r:P3} {w:Int},s∈l->r∈l->¬ (zV s a/\zV s b)->¬ (zV r a/\zV r b)->(zV s a\/zV s b)->(zV r a\/zV r b)->w≠a->w≠b->zV s w->zV r w->Q (phT a b s)->Q (phT a b r):=fun {s r w} hs hr ds dr sv rv wa wb sw rw' =>
  hQ _ (inn hs ds) _ (inn hr dr) ((zGe f).2 sv) ((zGe f).2 rv) ⟨w,wb,(zFx wa wb).2 sw,(zFx wa wb).2 rw'⟩
 let H:P3->Prop:=fun s=>(¬ (zV s a/\zV s b)/\Q (phT a b s))\/((zV s a/\zV s b)/\∃ p,p≠a/\p≠b/\zV s p/\S p)
 -- through what isn't the edge itself
 have thr: ∀ c,(c=a\/c=b)->∀ s∈l,∀ r∈l,zV s c->zV r c->(∃ w:Int,w≠a/\w≠b/\zV s w/\zV r w)->H s->H r:=by
  rintro c hc s hs r hr sc rc ⟨w,wa,wb,sw,rw'⟩ k
  have ab: ∀ {x:P3},zV x c->zV x a\/zV x b:=fun hx=>by
   rcases hc with e|e
   ·exact .inl (by rw [<- e];exact hx)
   ·exact .inr (by rw [<- e];exact hx)
  by_cases ds:zV s a/\zV s b
  ·have k:S w:=by
    rcases k with k|⟨_,p,pa,pb,sp,k⟩
    ·exact absurd ds k.1
    ·obtain ⟨z,z1,z2,z3,z4⟩:=zIX (h.deg s hs) f.ne ds.1 ds.2;have e1:w=z:=by rcases z4 w sw with e|e|e;exact absurd e wa;exact absurd e wb;exact e
     have e2:p=z:=by rcases z4 p sp with e|e|e;exact absurd e pa;exact absurd e pb;exact e
     rw [e1,<- e2];exact k
   by_cases dr:zV r a/\zV r b
   ·exact .inr ⟨dr,w,wa,wb,rw',k⟩
   ·obtain ⟨r0,h0,d0,e0,w0,q0⟩:=k;exact .inl ⟨dr,toQ h0 hr d0 dr e0 (ab rc) wa wb w0 rw' q0⟩
  ·have k:Q (phT a b s):=by
    rcases k with k|k
    ·exact k.2
    ·exact absurd k.1 ds
   by_cases dr:zV r a/\zV r b
   ·exact .inr ⟨dr,w,wa,wb,rw',s,hs,ds,ab sc,sw,k⟩
   ·exact .inl ⟨dr,toQ hs hr ds dr (ab sc) (ab rc) wa wb sw rw' k⟩
 have drop: ∀ s∈l,∀ r∈l,(zV s a/\zV s b)->(zV r a/\zV r b)->H s->H r:=fun s hs r hr ds dr k=>by
  by_cases e:s=r
  ·rw [<- e];exact k
  ·obtain ⟨c,hc,hh⟩:=f.turn s hs r hr e ds.1 ds.2 dr.1 dr.2;exact hh H (thr c hc) k
 have all: ∀ c,(c=a\/c=b)->∀ s∈l,zV s c->H s->∀ r∈l,zV r c->H r:=fun c hc=>by
  refine h.pin c (by rcases hc with e|e<;>(rw [e];assumption)) H fun s hs r hr sc rc ⟨w,wc,sw,rw'⟩ k=> ?_
  by_cases wab:w=a\/w=b
  ·have two: ∀ {x:P3},zV x c->zV x w->zV x a/\zV x b:=fun {x} h1 h2=>by
    rcases hc with e|e<;>rcases wab with e'|e'
    ·exact absurd (e'.trans e.symm) wc
    ·exact ⟨by rw [<- e];exact h1,by rw [<- e'];exact h2⟩
    ·exact ⟨by rw [<- e'];exact h2,by rw [<- e];exact h1⟩
    ·exact absurd (e'.trans e.symm) wc
   exact drop s hs r hr (two sc sw) (two rc rw') k
  ·exact thr c hc s hs r hr sc rc ⟨w,fun e=>wab (.inl e),fun e=>wab (.inr e),sw,rw'⟩ k
 obtain ⟨t0,h0,a0,b0⟩:=f.near;have k0:H t:= .inl ⟨dt,hq⟩
 have kt0:H t0:=by
  rcases hv' with e|e
  ·exact all a (.inl rfl) t ht e k0 t0 h0 a0
  ·exact all b (.inr rfl) t ht e k0 t0 h0 b0
 have ku:H u:=by
  rcases hw' with e|e
  ·exact all a (.inl rfl) t0 h0 a0 kt0 u hu e
  ·exact all b (.inr rfl) t0 h0 b0 kt0 u hu e
 rcases ku with k|k
 ·exact k.2
 ·exact absurd k.1 du
theorem zQe (h:j5 V l) (f:zH6 l a b) (hVa:V a) (hVb:V b):j5 (fun v=>V v/\v≠a) (zDG a b l):=by
 refine ⟨?_,fun t' ht' v hv=> ?_,fun t' ht'=> ?_,fun t' ht' u' hu' hne p q h1 h2=> ?_,fun t' ht' u' hu' hne hh=> ?_,fun v hv=> ?_,fun v hv=> ?_⟩
 ·unfold zDG;refine List.Pairwise.map _ (fun t u hh=> ?_) ((h.nd.sublist List.filter_sublist).imp_of_mem (S:=fun t u=>t≠u/\(t∈l/\¬ (zV t a/\zV t b))/\u∈l/\¬ (zV u a/\zV u b)) fun ht hu hn=> ?_)
  ·obtain ⟨hn,⟨ht,dt⟩,hu,du⟩:=hh;intro e;obtain ⟨w,hw⟩:=zQ1 (t:=phT a b t) (.inl rfl);exact zST h f ht hu hn dt du hw (by rw [<- e];exact hw)
  ·obtain ⟨t1,t2⟩:=yR.1 ht;obtain ⟨u1,u2⟩:=yR.1 hu;exact ⟨hn,⟨t1,zL6.1 t2⟩,u1,zL6.1 u2⟩
 ·obtain ⟨t,ht,dt,rfl⟩:=zAh.1 ht';have va:v≠a:=fun e=>by rw [e] at hv;exact zYG f hv
  refine ⟨?_,va⟩
  by_cases vb:v=b
  ·rw [vb];exact hVb
  ·exact h.ent t ht v ((zFx va vb).1 hv)
 ·obtain ⟨t,ht,dt,rfl⟩:=zAh.1 ht';exact zUi h f ht dt
 ·obtain ⟨t,ht,dt,rfl⟩:=zAh.1 ht';obtain ⟨u,hu,du,rfl⟩:=zAh.1 hu';exact zST h f ht hu (fun e=>hne (by rw [e])) dt du h1 h2
 ·obtain ⟨t,ht,dt,rfl⟩:=zAh.1 ht';obtain ⟨u,hu,du,rfl⟩:=zAh.1 hu';have htu:t≠u:=fun e=>hne (by rw [e]);have hdt:=zUi h f ht dt
  have all: ∀ w,zV (phT a b t) w->zV (phT a b u) w:=fun w hw=>by
   rcases hw with e|e|e<;>rw [<- e]
   ·exact hh.1
   ·exact hh.2.1
   ·exact hh.2.2
  by_cases hb:zV (phT a b t) b
  ·-- x, p, q
   obtain ⟨w0,hw0⟩:=zQ1 hb;have wv:=qC hw0;have wne:=zGB hdt hw0;obtain ⟨q,q1,q2,q3,_⟩:=zIX hdt wne hb wv.2;have w0a:w0≠a:=fun e=>by have k:=wv.2;rw [e] at k;exact zYG f k
   have qa:q≠a:=fun e=>by rw [e] at q3;exact zYG f q3
   have tp:=(zFx (a:=a) (b:=b) w0a wne.symm).1 wv.2;have tq:=(zFx (a:=a) (b:=b) qa q1).1 q3;have up:=(zFx (a:=a) (b:=b) w0a wne.symm).1 (all _ wv.2);have uq:=(zFx (a:=a) (b:=b) qa q1).1 (all _ q3);have tx:=(zGe f).1 hb;have ux:=(zGe f).1 (all _ hb)
   have fin: ∀ {x y:P3},x∈l->y∈l->zV x a->zV y b->zV x w0->zV x q->zV y w0->zV y q->False:=fun {x y} hx hy xa yb xp xq yp yq =>
    f.tetra w0 q q2.symm w0a wne.symm qa q1 ⟨x,hx,xa,xp,xq⟩ ⟨y,hy,yb,yp,yq⟩ (f.com w0 w0a wne.symm ⟨x,hx,xa,xp⟩ ⟨y,hy,yb,yp⟩) (f.com q qa q1 ⟨x,hx,xa,xq⟩ ⟨y,hy,yb,yq⟩)
   rcases tx with e|e<;>rcases ux with e'|e'
   ·exact htu (h.same ht hu w0a.symm qa.symm q2.symm e tp tq e' up uq)
   ·exact fin ht hu e e' tp tq up uq
   ·exact fin hu ht e' e up uq tp tq
   ·exact htu (h.same ht hu wne q1.symm q2.symm e tp tq e' up uq)
  ·have nb: ∀ w,zV t w->w≠a/\w≠b:=fun w hw=>⟨fun e=>hb ((zGe f).2 (.inl (by rw [<- e];exact hw))),fun e=>hb ((zGe f).2 (.inr (by rw [<- e];exact hw)))⟩
   have key: ∀ w,zV t w->zV u w:=fun w hw=>by
    obtain ⟨wa,wb⟩:=nb w hw;exact (zFx wa wb).1 (all w ((zFx wa wb).2 hw))
   exact h.mir t ht u hu htu ⟨key _ (.inl rfl),key _ (.inr (.inl rfl)),key _ (.inr (.inr rfl))⟩
 ·obtain ⟨hV,va⟩:=hv
  by_cases vb:v=b
  ·subst vb;obtain ⟨t0,h0,a0,b0⟩:=f.near;obtain ⟨z,z1,z2,z3,_⟩:=zIX (h.deg t0 h0) f.ne a0 b0;obtain ⟨u,hu,du,_,k⟩:=zLD h f h0 a0 b0 z1 z2 z3;exact ⟨_,zAh.2 ⟨u,hu,du,rfl⟩,(zGe f).2 k⟩
  ·obtain ⟨t,ht,tv⟩:=h.use v hV
   by_cases dt:zV t a/\zV t b
   ·obtain ⟨u,hu,du,uv,_⟩:=zLD h f ht dt.1 dt.2 va vb tv;exact ⟨_,zAh.2 ⟨u,hu,du,rfl⟩,(zFx va vb).2 uv⟩
   ·exact ⟨_,zAh.2 ⟨t,ht,dt,rfl⟩,(zFx va vb).2 tv⟩
 ·obtain ⟨hV,va⟩:=hv
  by_cases vb:v=b
  ·subst vb;exact zTH h f hVa hVb
  ·exact z0Q h f hV va vb
end
end S1
namespace S1
inductive zHA (A:Nat->Nat->Prop):Nat->Nat->Prop
 | refl (t:Nat):zHA A t t
 | step {t u w:Nat} :zHA A t u->A u w->zHA A t w
theorem zHA.trans {A:Nat->Nat->Prop} {t u w:Nat} (h:zHA A t u) (k:zHA A u w):zHA A t w:=by
 induction k with
 | refl=>exact h
 | step _ a ih=>exact .step ih a
theorem zHA.symm {A:Nat->Nat->Prop} (hs: ∀ t u,A t u->A u t) {t u:Nat} (h:zHA A t u):zHA A u t:=by
 induction h with
 | refl=>exact .refl _
 | step _ a ih=>exact zHA.trans (.step (.refl _) (hs _ _ a)) ih
theorem zHA.mono {A B:Nat->Nat->Prop} (h: ∀ t u,A t u->B t u) {t u:Nat} (k:zHA A t u):zHA B t u:=by
 induction k with
 | refl=>exact .refl _
 | step _ a ih=>exact .step ih (h _ _ a)
def Adj (x:z6.T) (i j:Nat):Prop:= ∃ c,zAY x c=true/\(c / 3).toNat=i/\0<=zA2 x c/\(zA2 x c / 3).toNat=j
theorem Full.opp_opp {x:z6.T} (g:Full x) {c:Int} (h:0<=zA2 x c):zA2 x (zA2 x c)=c:=by
 obtain ⟨h1,h2,h3⟩:=g.opp h;exact g.opp_is h1 (by rw [h3])
theorem Full.adj_symm {x:z6.T} (g:Full x) {i j:Nat} (h:Adj x i j):Adj x j i:=by
 obtain ⟨c,h1,h2,h3,h4⟩:=h;exact ⟨zA2 x c,(g.opp h3).2.1,h4,by rw [g.opp_opp h3];exact (z7.1 h1).1,by rw [g.opp_opp h3];exact h2⟩
theorem zMm {x:z6.T} (g:Good x) {i j:Nat} (h:Adj x i j):i<x.1.2.length/\j<x.1.2.length:=by
 obtain ⟨c,h1,h2,h3,h4⟩:=h;exact ⟨by rw [<- h2];exact (zAl h1).1,by rw [<- h4];exact (zAl (g.opp h3).2.1).1⟩
abbrev lb (l:List Int) (t:Nat):Int:=l.getD t 0
theorem zHT {l:List Int} {i t:Nat} {k:Int} (hi:i<l.length):lb (l.set i k) t=if i=t then k else lb l t:=by
 unfold lb;rw [gdE,qS,gdE];split
 ·rfl
 ·rfl
structure Lab (x:z6.T) (out:List Int) (n:Int):Prop where
 len:out.length=x.1.2.length
 lt: ∀ t,t<x.1.2.length->lb out t<n
 clo: ∀ t u,Adj x t u->0<=lb out t->lb out u=lb out t
 con: ∀ t u,t<x.1.2.length->u<x.1.2.length->0<=lb out t->lb out t=lb out u->zHA (Adj x) t u
structure Bf (x:z6.T) (o0:List Int) (n:Int) (f:Nat) (s:OS):Prop where
 len:s.1.length=x.1.2.length
 old: ∀ t,t<x.1.2.length->lb s.1 t=lb o0 t\/(lb s.1 t=n/\lb o0 t<0)
 q: ∀ t,t<x.1.2.length->lb s.1 t=n->(t:Int)∈s.2
 qn: ∀ t∈s.2,0<=t/\t.toNat<x.1.2.length/\lb s.1 t.toNat=n
 con: ∀ t∈s.2,zHA (Adj x) f t.toNat
theorem z23 {x:z6.T} (g:Full x) {o0:List Int} {n:Int} {f:Nat} (hn:0<=n) (ho: ∀ t,t<x.1.2.length->lb o0 t<n) {j:Nat} {s:OS} (h:Bf x o0 n f s) (hj:j<s.2.length) (c:Nat) (hc:c<3) :
 Bf x o0 n f (ofC x n j s c)/\(ofC x n j s c).2.getD j 0=s.2.getD j 0/\(∀ t,t<x.1.2.length->0<=lb s.1 t->lb (ofC x n j s c).1 t=lb s.1 t)/\(s.2.length<=(ofC x n j s c).2.length)/\
 (0<=zA2 x (3*s.2.getD j 0+c)->0<=lb (ofC x n j s c).1 (zA2 x (3*s.2.getD j 0+c) / 3).toNat)/\(∀ i,i<s.2.length->(ofC x n j s c).2.getD i 0=s.2.getD i 0):=by
 unfold ofC;split
 ·rename_i hh;obtain ⟨h1,h2⟩:=hh;obtain ⟨k1,k2,_⟩:=g.opp h1;have hm:s.2.getD j 0∈s.2:=zA0 hj;obtain ⟨q1,q2,q3⟩:=h.qn _ hm;have hu:=zAl k2;have ho':=z7.1 k2;have hu1:=hu.1
  have happ: ∀ i,i<s.2.length->(s.2++[zA2 x (3*s.2.getD j 0+c) / 3]).getD i 0=s.2.getD i 0:=fun i hi=>by
   rw [gdE,yF hi,<- gdE]
  have hadj:Adj x (s.2.getD j 0).toNat (zA2 x (3*s.2.getD j 0+c) / 3).toNat:=⟨_,k1,by omega,h1,rfl⟩;refine ⟨⟨by show (s.1.set _ _).length=_;rw [qY];exact h.len,fun t ht=> ?_,fun t ht e=> ?_,fun t ht=> ?_,fun t ht=> ?_⟩,happ j hj,fun t ht h0=> ?_,by show _<=(s.2++[_]).length;rw [zO];omega,fun _=> ?_,happ⟩
  ·show lb (s.1.set _ n) t=_\/(lb (s.1.set _ n) t=_/\_);rw [zHT (by rw [h.len];exact hu1)];split
   ·rename_i e;refine .inr ⟨rfl,?_⟩;rcases h.old t ht with e2|e2
    ·rw [<- e2,<- e];exact h2
    ·exact e2.2
   ·exact h.old t ht
  ·have e:lb (s.1.set (zA2 x (3*s.2.getD j 0+c) / 3).toNat n) t=n:=e;show (t:Int)∈s.2++[_];rw [zHT (by rw [h.len];exact hu1)] at e;split at e
   ·rename_i e2;exact zAa _ (zF.2 (by omega))
   ·exact zAJ _ (h.q t ht e)
  ·have ht:t∈s.2++[_]:=ht;show 0<=t/\t.toNat<_/\lb (s.1.set _ n) t.toNat=n;rw [zHT (by rw [h.len];exact hu1)];rcases z8.1 ht with ht|ht
   ·obtain ⟨a,b,d⟩:=h.qn t ht;refine ⟨a,b,?_⟩;split
    ·rfl
    ·exact d
   ·rw [zF] at ht;refine ⟨by omega,by rw [ht];exact hu1,?_⟩;rw [if_pos (by rw [ht])]
  ·have ht:t∈s.2++[_]:=ht;rcases z8.1 ht with ht|ht
   ·exact h.con t ht
   ·rw [zF.1 ht];exact .step (h.con _ hm) hadj
  ·show lb (s.1.set _ n) t=_;rw [zHT (by rw [h.len];exact hu1),if_neg (fun e=>by rw [<- e] at h0;have:lb s.1 (zA2 x (3*s.2.getD j 0+c) / 3).toNat<0:=h2;omega)]
  ·show 0<=lb (s.1.set _ n) _;rw [zHT (by rw [h.len];exact hu1),if_pos rfl];exact hn
 ·rename_i hh
  exact ⟨h,rfl,fun _ _ _=>rfl,zH _,fun h0=>by
   by_cases e:s.1.getD (zA2 x (3*s.2.getD j 0+c) / 3).toNat 0<0
   ·exact absurd ⟨h0,e⟩ hh
   ·show 0<=s.1.getD _ 0;omega,fun _ _=>rfl⟩
def Seen (x:z6.T) (s:OS) (j:Nat):Prop:= ∀ i,i<j->∀ u,Adj x (s.2.getD i 0).toNat u->0<=lb s.1 u
theorem z61 {x:z6.T} (g:Full x) {o0:List Int} {n:Int} {f:Nat} (hn:0<=n) (ho: ∀ t,t<x.1.2.length->lb o0 t<n) {j:Nat} {s:OS} (h:Bf x o0 n f s) (hj:j<s.2.length) (hs:Seen x s j) :
 Bf x o0 n f (ofJ x n s j)/\Seen x (ofJ x n s j) (j+1)/\s.2.length<=(ofJ x n s j).2.length:=by
 have key: ∀ c,c<=3->Bf x o0 n f (jL (ofC x n j) s c)/\(jL (ofC x n j) s c).2.getD j 0=s.2.getD j 0/\(∀ t,t<x.1.2.length->0<=lb s.1 t->0<=lb (jL (ofC x n j) s c).1 t)/\s.2.length<=(jL (ofC x n j) s c).2.length/\
  (∀ d:Nat,d<c->0<=zA2 x (3*s.2.getD j 0+d)->0<=lb (jL (ofC x n j) s c).1 (zA2 x (3*s.2.getD j 0+d) / 3).toNat)/\(∀ i,i<s.2.length->(jL (ofC x n j) s c).2.getD i 0=s.2.getD i 0):=by
  intro c
  induction c with
  | zero=>exact fun _=>⟨h,rfl,fun _ _ h=>h,zH _,fun d hd=>by omega,fun _ _=>rfl⟩
  | succ c ih =>
    intro hc;obtain ⟨i1,i2,i3,i4,i5,i6⟩:=ih (by omega);obtain ⟨b1,b2,b3,b4,b5,b6⟩:=z23 g hn ho (j:=j) i1 (Nat.lt_of_lt_of_le hj i4) c (by omega);rw [zSv];rw [i2] at b2 b5;refine ⟨b1,b2,fun t ht h0=> ?_,by omega,fun d hd h0=> ?_,fun i hi=>by rw [b6 i (by omega),i6 i hi]⟩
    ·have:=i3 t ht h0;rw [b3 t ht this];exact this
    ·have hlt:=(zAl (g.opp h0).2.1).1
     by_cases e:d=c
     ·subst e;exact b5 h0
     ·have:=i5 d (by omega) h0;rw [b3 _ hlt this];exact this
 obtain ⟨i1,i2,i3,i4,i5,i6⟩:=key 3 (zH _);unfold ofJ;refine ⟨i1,fun i hi u hu=> ?_,i4⟩;rw [i6 i (by omega)] at hu
 by_cases e:i=j
 ·subst e;obtain ⟨c,c1,c2,c3,c4⟩:=hu;have hq:=h.qn _ (zA0 hj);have hc:=z7.1 c1;have e:c=3*s.2.getD i 0+((c % 3).toNat:Nat):=by omega
  rw [<- c4,e];exact i5 (c % 3).toNat (by omega) (by rw [<- e];exact c3)
 ·exact i3 u (zMm g.toGood hu).2 (hs i (by omega) u hu)
theorem zZZ {x:z6.T} (g:Full x) {o0:List Int} {n:Int} {f:Nat} (hn:0<=n) (ho: ∀ t,t<x.1.2.length->lb o0 t<n): ∀ (k j:Nat) {s:OS},Bf x o0 n f s->OOk x.1.2.length s->j<=s.2.length->Seen x s j->x.1.2.length<k+j->
 Bf x o0 n f (bfs x n k j s)/\Seen x (bfs x n k j s) (bfs x n k j s).2.length
 | 0,j,s,h,ok,hj,hs,hk=>by
   have:=ok.cnt;omega
 | k +1,j,s,h,ok,hj,hs,hk=>by
   unfold bfs;split
   ·rename_i hlt;obtain ⟨b1,b2,b3⟩:=z61 g hn ho h hlt hs;exact zZZ g hn ho k (j+1) b1 (zUv g.toGood hn ok) (by omega) b2 (by omega)
   ·have e:s.2.length=j:=by omega
    exact ⟨h,by rw [e];exact hs⟩
theorem zQt {x:z6.T} (g:Full x) {out:List Int} {n:Int} (hn:0<=n) (h:Lab x out n) {i:Nat} (hi:i<x.1.2.length) (hl: ¬ lb out i>=0) :
 Lab x (bfs x n 10000 0 (out.set i n,[(i:Int)])).1 (n+1)/\lb (bfs x n 10000 0 (out.set i n,[(i:Int)])).1 i=n/\(∀ t,t<x.1.2.length->0<=lb out t->lb (bfs x n 10000 0 (out.set i n,[(i:Int)])).1 t=lb out t)/\
 ∀ t,t<x.1.2.length->lb (bfs x n 10000 0 (out.set i n,[(i:Int)])).1 t=lb out t\/(lb (bfs x n 10000 0 (out.set i n,[(i:Int)])).1 t=n/\lb out t<0):=by
 have hlen:x.1.2.length<=8192:=g.fit.2.2.1
 have h0:Bf x out n i (out.set i n,[(i:Int)]):=by
  refine ⟨by rw [qY];exact h.len,fun t ht=> ?_,fun t ht e=> ?_,fun t ht=> ?_,fun t ht=> ?_⟩
  ·show lb (out.set i n) t=_\/(lb (out.set i n) t=n/\_);rw [zHT (by rw [h.len];exact hi)];split
   ·rename_i e;subst e;exact .inr ⟨rfl,by omega⟩
   ·exact .inl rfl
  ·have e:lb (out.set i n) t=n:=e;rw [zHT (by rw [h.len];exact hi)] at e;split at e
   ·rename_i e2;exact zF.2 (by omega)
   ·have:=h.lt t ht;omega
  ·rw [zF.1 ht];refine ⟨by omega,by omega,?_⟩;show lb (out.set i n) _=n;rw [zHT (by rw [h.len];exact hi),if_pos (by omega)]
  ·rw [zF.1 ht];exact .refl _
 obtain ⟨b,hs⟩:=zZZ g hn h.lt 10000 0 h0 (zLU hn h.len hi hl) (y7 _) (fun i hi=>by omega) (by omega)
 have hin : (i:Int)∈(bfs x n 10000 0 (out.set i n,[(i:Int)])).2:=by
  have key: ∀ (k j:Nat) (s:OS),(i:Int)∈s.2->(i:Int)∈(bfs x n k j s).2:=fun k=>by
   induction k with
   | zero=>exact fun j s h=>(by unfold bfs;exact h)
   | succ k ih =>
     intro j s hm;unfold bfs;split
     ·refine ih _ _ ?_
      have: ∀ c,(i:Int)∈(jL (ofC x n j) s c).2:=fun c=>by
       induction c with
       | zero=>exact hm
       | succ c ih2 =>
         rw [zSv];generalize jL (ofC x n j) s c=S at ih2;unfold ofC;split
         ·exact zAJ _ ih2
         ·exact ih2
      unfold ofJ;exact this 3
     ·exact hm
  exact key _ _ _ (zF.2 rfl)
 generalize bfs x n 10000 0 (out.set i n,[(i:Int)])=s at *
 have hold: ∀ t,t<x.1.2.length->0<=lb out t->lb s.1 t=lb out t:=fun t ht h0=>by
  rcases b.old t ht with e|e
  ·exact e
  ·omega
 refine ⟨⟨b.len,fun t ht=> ?_,fun t u ha h0=> ?_,fun t u ht hu h0 e=> ?_⟩,(b.qn _ hin).2.2,hold,b.old⟩
 ·rcases b.old t ht with e|e
  ·rw [e];have:=h.lt t ht;omega
  ·rw [e.1];omega
 ·obtain ⟨ht,hu⟩:=zMm g.toGood ha;rcases b.old t ht with e|e
  ·rw [e] at h0 ⊢;have k:=h.clo t u ha h0;rw [hold u hu (by rw [k];exact h0)];exact k
  ·obtain ⟨idx,hidx,e2⟩:=yI.1 (b.q t ht e.1);have hsu:0<=lb s.1 u:=hs idx hidx u (by rw [gdE,gE hidx];show Adj x (s.2[idx]).toNat u;rw [e2];exact ha);rcases b.old u hu with k|k
   ·rw [k] at hsu;have:=h.clo u t (g.adj_symm ha) hsu;omega
   ·rw [k.1,e.1]
 ·rcases b.old t ht with k|k
  ·rw [k] at h0 e;rcases b.old u hu with k2|k2
   ·rw [k2] at e;exact h.con t u ht hu h0 e
   ·have:=h.lt t ht;omega
  ·rw [k.1] at e;have c1:=b.con _ (b.q t ht k.1);have c2:=b.con _ (b.q u hu e.symm);exact zHA.trans (c1.symm fun _ _=>g.adj_symm) c2
theorem zLK {x:z6.T} (g:Full x): ∀ i,i<=x.1.2.length->Lab x (ofL x i).1 (ofL x i).2/\0<=(ofL x i).2/\∀ t,t<i->0<=lb (ofL x i).1 t
 | 0,_=>by
   have e: ∀ t,t<x.1.2.length->lb (ofL x 0).1 t= -1:=fun t ht=>by
    show (List.replicate x.1.2.length (-1:Int)).getD t 0= -1;rw [gdE,yY,if_pos ht];rfl
   refine ⟨⟨jR,fun t ht=> ?_,fun t u ha h0=> ?_,fun t u ht hu h0=> ?_⟩,Int.le_refl 0,fun t ht=>by omega⟩
   ·rw [e t ht];show (-1:Int)<0;decide
   ·rw [e t (zMm g.toGood ha).1] at h0;omega
   ·rw [e t ht] at h0;omega
 | i + 1,hi=>by
   obtain ⟨h1,h2,h3⟩:=zLK g i (by omega);show Lab x (ofI x (ofL x i) i).1 (ofI x (ofL x i) i).2/\0<=(ofI x (ofL x i) i).2/\∀ t,t<i+1->0<=lb (ofI x (ofL x i) i).1 t;unfold ofI;split
   ·rename_i h;refine ⟨h1,h2,fun t ht=> ?_⟩
    by_cases e:t=i
    ·subst e;exact h
    ·exact h3 t (by omega)
   ·rename_i h;obtain ⟨k1,k2,k3,_⟩:=zQt g h2 h1 (by omega) h;refine ⟨k1,by show 0<=(ofL x i).2+1;omega,fun t ht=> ?_⟩
    by_cases e:t=i
    ·subst e;show 0<=lb (bfs x _ _ _ _).1 t;rw [k2];exact h2
    ·show 0<=lb (bfs x _ _ _ _).1 t;rw [k3 t (by omega) (h3 t (by omega))];exact h3 t (by omega)
theorem zEG {x:z6.T} (g:Full x) {t u:Nat} (ht:t<x.1.2.length) (hu:u<x.1.2.length):(ofR x).getD t 0=(ofR x).getD u 0↔zHA (Adj x) t u:=by
 obtain ⟨h1,h2,h3⟩:=zLK g x.1.2.length (zH _);constructor
 ·exact fun e=>h1.con t u ht hu (h3 t ht) e
 ·intro h;clear hu
  induction h with
  | refl=>rfl
  | step _ a ih =>
    have hb:=(zMm g.toGood a).1;rw [ih];exact (h1.clo _ _ a (h3 _ hb)).symm
end S1
namespace S1
theorem zDD {l:List P3} (hn:l.Nodup) {i j:Nat} (hi:i<l.length) (hj:j<l.length) (e:tg l i=tg l j):i=j:=by
 unfold tg at e;rw [gdE,gdE,gE hi,gE hj] at e;have e:l[i]=l[j]:=e;have key: ∀ p q (hp:p<l.length) (hq:q<l.length),p<q->l[p]≠l[q]:=fun p q hp hq h=>List.pairwise_iff_getElem.1 hn p q hp hq h;rcases Nat.lt_trichotomy i j with h|h|h
 ·exact absurd e (key i j hi hj h)
 ·exact h
 ·exact absurd e.symm (key j i hj hi h)
theorem zLT {l:List P3} (hn:l.Nodup) {v:Int} :z5C l v↔z4l l v:=by
 constructor
 ·intro h Q hQ t ht tv hq u hu uv;obtain ⟨i,hi,ei⟩:=zAj ht;obtain ⟨j,hj,ej⟩:=zAj hu;have:=h (fun k=>Q (tg l k)) (fun p q hp hq pv qv hw k=>hQ _ (qZ hp) _ (qZ hq) pv qv hw k) i hi (by rw [ei];exact tv) (by show Q (tg l i);rw [ei];exact hq) j hj (by rw [ej];exact uv);have this:Q (tg l j):=this;rw [ej] at this;exact this
 ·intro h Q hQ i hi iv hq j hj jv
  obtain ⟨k,hk,ek,qk⟩:=h (fun t=> ∃ i,i<l.length/\tg l i=t/\Q i) (fun t ht u hu tv uv hw ⟨p,hp,ep,qp⟩=>by
   obtain ⟨q,hq,eq⟩:=zAj hu;refine ⟨q,hq,eq,hQ p q hp hq (by show zV (tg l p) v;rw [ep];exact tv) (by show zV (tg l q) v;rw [eq];exact uv) ?_ qp⟩;obtain ⟨w,w1,w2,w3⟩:=hw
   exact ⟨w,w1,by show zV (tg l p) w;rw [ep];exact w2,by show zV (tg l q) w;rw [eq];exact w3⟩) _ (qZ hi) iv ⟨i,hi,rfl,hq⟩ _ (qZ hj) jv
  rw [<- zDD hn hk hj ek];exact qk
abbrev InN (n:Int):Int->Prop:=fun v=>0<=v/\v<n
theorem zAy {s:Int×List P3} (h:zDM s):j5 (InN s.1) s.2:=by
 have hn:s.2.Nodup:=by
  refine List.pairwise_iff_getElem.2 fun i j hi hj hij e=> ?_;obtain ⟨w,hw⟩:=zQ1 (t:=tg s.2 i) (.inl rfl);refine h.dif i j hij hj _ _ hw ?_
  have:tg s.2 i=tg s.2 j:=by
   unfold tg;rw [gdE,gdE,gE hi,gE hj];exact e
  rw [<- this];exact hw
 have two: ∀ t∈s.2,∀ u∈s.2,t≠u->∃ i j,i<s.2.length/\j<s.2.length/\i≠j/\tg s.2 i=t/\tg s.2 j=u:=fun t ht u hu hne=>by
  obtain ⟨i,hi,ei⟩:=zAj ht;obtain ⟨j,hj,ej⟩:=zAj hu;exact ⟨i,j,hi,hj,fun e=>hne (by rw [<- ei,<- ej,e]),ei,ej⟩
 refine ⟨hn,fun t ht v hv=> ?_,fun t ht=> ?_,fun t ht u hu hne a b h1 h2=> ?_,fun t ht u hu hne hh=> ?_,fun v hv=> ?_,fun v hv=> ?_⟩
 ·obtain ⟨i,hi,ei⟩:=zAj ht;exact zX3 h.fit hi (by rw [ei];exact hv)
 ·obtain ⟨i,hi,ei⟩:=zAj ht;rw [<- ei];exact h.deg i hi
 ·obtain ⟨i,j,hi,hj,hij,ei,ej⟩:=two t ht u hu hne;rw [<- ei] at h1;rw [<- ej] at h2;rcases Nat.lt_or_gt_of_ne hij with k|k
  ·exact h.dif i j k hj a b h1 h2
  ·exact h.dif j i k hi a b h2 h1
 ·obtain ⟨i,j,hi,hj,hij,ei,ej⟩:=two t ht u hu hne;rcases Nat.lt_or_gt_of_ne hij with k|k
  ·rw [<- ei,<- ej] at hh;exact h.mir i j k hj hh
  ·-- the other way round: three vertices each
   have hd:=h.deg i hi;rw [ei] at hd;have hd2:=h.deg j hj;rw [ej] at hd2
   have key:zV t u.1/\zV t u.2.1/\zV t u.2.2:=by
    obtain ⟨x,y,z⟩:=t;obtain ⟨p,q,r⟩:=u;unfold zV at *;unfold dgn at *;simp only at *;omega
   rw [<- ei,<- ej] at key;exact h.mir j i k hi key
 ·obtain ⟨j,hj,hv2⟩:=h.use v.toNat (by rw [zA6 hv.1];exact hv.2);rw [zA6 hv.1] at hv2;exact ⟨_,qZ hj,hv2⟩
 ·have:=h.pin v.toNat (by rw [zA6 hv.1];exact hv.2);rw [zA6 hv.1] at this;exact (zLT hn).1 this
theorem zWo {n:Int} {l:List P3} (h0:0<=n) (h1:n<=4096) (h2:l.length<=8192) (h:j5 (InN n) l):zDM (n,l):=by
 refine ⟨⟨h0,h1,h2,fun i hi=> ?_⟩,fun i hi=>h.deg _ (qZ hi),fun i j hij hj a b k1 k2=> ?_,fun i j hij hj hh=> ?_,fun v hv=> ?_,fun v hv=> ?_⟩
 ·have e1:=h.ent (tg l i) (qZ hi) _ (.inl rfl);have e2:=h.ent (tg l i) (qZ hi) _ (.inr (.inl rfl));have e3:=h.ent (tg l i) (qZ hi) _ (.inr (.inr rfl));show zGz n (tg l i)=true;refine zQ5 ?_;unfold InN at e1 e2 e3;omega
 ·have hj:j<l.length:=hj;exact h.dif _ (qZ (show i<l.length by omega)) _ (qZ hj) (fun e=>by have:=zDD h.nd (show i<l.length by omega) hj e;omega) a b k1 k2
 ·have hj:j<l.length:=hj;exact h.mir _ (qZ (show i<l.length by omega)) _ (qZ hj) (fun e=>by have:=zDD h.nd (show i<l.length by omega) hj e;omega) hh
 ·have hv:(v:Int)<n:=hv;obtain ⟨t,ht,tv⟩:=h.use v ⟨by omega,hv⟩;obtain ⟨j,hj,ej⟩:=zAj ht;exact ⟨j,hj,by show zV (tg l j) v;rw [ej];exact tv⟩
 ·have hv:(v:Int)<n:=hv;exact (zLT h.nd).2 (h.pin v ⟨by omega,hv⟩)
def zFb (r:Int->Int) (t:P3):P3:=(r t.1,r t.2.1,r t.2.2)
theorem zAs {r:Int->Int} {t:P3} {u:Int} :zV (zFb r t) u↔∃ v,zV t v/\r v=u:=by
 constructor
 ·rintro (e|e|e)
  ·exact ⟨_,.inl rfl,e⟩
  ·exact ⟨_,.inr (.inl rfl),e⟩
  ·exact ⟨_,.inr (.inr rfl),e⟩
 ·rintro ⟨v,e|e|e,rfl⟩
  ·exact .inl (by rw [<- e];rfl)
  ·exact .inr (.inl (by rw [<- e];rfl))
  ·exact .inr (.inr (by rw [<- e];rfl))
theorem zIh {r:Int->Int} {t:P3} {p q:Int} :dE (zFb r t) p q↔∃ p0 q0,dE t p0 q0/\r p0=p/\r q0=q:=by
 constructor
 ·rintro (⟨e1,e2⟩|⟨e1,e2⟩|⟨e1,e2⟩)
  ·exact ⟨_,_,.inl ⟨rfl,rfl⟩,e1,e2⟩
  ·exact ⟨_,_,.inr (.inl ⟨rfl,rfl⟩),e1,e2⟩
  ·exact ⟨_,_,.inr (.inr ⟨rfl,rfl⟩),e1,e2⟩
 ·rintro ⟨p0,q0,⟨e1,e2⟩|⟨e1,e2⟩|⟨e1,e2⟩,rfl,rfl⟩
  ·exact .inl ⟨by rw [<- e1];rfl,by rw [<- e2];rfl⟩
  ·exact .inr (.inl ⟨by rw [<- e1];rfl,by rw [<- e2];rfl⟩)
  ·exact .inr (.inr ⟨by rw [<- e1];rfl,by rw [<- e2];rfl⟩)
theorem zSb {V W:Int->Prop} {l:List P3} (h:j5 V l) (r:Int->Int) (hr: ∀ v,V v->W (r v)) (hi: ∀ v w,V v->V w->r v=r w->v=w) (ho: ∀ u,W u->∃ v,V v/\r v=u):j5 W (l.map (zFb r)):=by
 have inj: ∀ t∈l,∀ u∈l,zFb r t=zFb r u->t=u:=fun t ht u hu e=>by
  have e1:=congrArg Prod.fst e;have e2:=congrArg (fun p=>p.2.1) e;have e3:=congrArg (fun p=>p.2.2) e;exact Prod.ext (hi _ _ (h.ent t ht _ (.inl rfl)) (h.ent u hu _ (.inl rfl)) e1) (Prod.ext (hi _ _ (h.ent t ht _ (.inr (.inl rfl))) (h.ent u hu _ (.inr (.inl rfl))) e2) (hi _ _ (h.ent t ht _ (.inr (.inr rfl))) (h.ent u hu _ (.inr (.inr rfl))) e3))
 have back: ∀ {t:P3} {v:Int},t∈l->V v->(zV (zFb r t) (r v)↔zV t v):=fun {t v} ht hv=>by
  rw [zAs];exact ⟨fun ⟨w,hw,e⟩=>by rw [<- hi w v (h.ent t ht w hw) hv e];exact hw,fun k=>⟨v,k,rfl⟩⟩
 refine ⟨?_,fun t' ht' u hu=> ?_,fun t' ht'=> ?_,fun t' ht' u' hu' hne p q h1 h2=> ?_,fun t' ht' u' hu' hne hh=> ?_,fun u hu=> ?_,fun u hu=> ?_⟩
 ·exact List.Pairwise.map _ (fun t u hh e=>hh.1 (inj t hh.2.1 u hh.2.2 e)) (h.nd.imp_of_mem (S:=fun t u=>t≠u/\t∈l/\u∈l) fun ht hu hn=>⟨hn,ht,hu⟩)
 ·obtain ⟨t,ht,rfl⟩:=zU.1 ht';obtain ⟨v,hv,rfl⟩:=zAs.1 hu;exact hr v (h.ent t ht v hv)
 ·obtain ⟨t,ht,rfl⟩:=zU.1 ht';have hd:=h.deg t ht;rintro (e|e|e)
  ·exact hd (.inl (hi _ _ (h.ent t ht _ (.inl rfl)) (h.ent t ht _ (.inr (.inl rfl))) e))
  ·exact hd (.inr (.inl (hi _ _ (h.ent t ht _ (.inr (.inl rfl))) (h.ent t ht _ (.inr (.inr rfl))) e)))
  ·exact hd (.inr (.inr (hi _ _ (h.ent t ht _ (.inr (.inr rfl))) (h.ent t ht _ (.inl rfl)) e)))
 ·obtain ⟨t,ht,rfl⟩:=zU.1 ht';obtain ⟨u,hu,rfl⟩:=zU.1 hu';obtain ⟨p0,q0,d0,e1,e2⟩:=zIh.1 h1;obtain ⟨p1,q1,d1,e3,e4⟩:=zIh.1 h2;have k1:=hi _ _ (h.ent t ht _ (qC d0).1) (h.ent u hu _ (qC d1).1) (e1.trans e3.symm);have k2:=hi _ _ (h.ent t ht _ (qC d0).2) (h.ent u hu _ (qC d1).2) (e2.trans e4.symm);rw [<- k1,<- k2] at d1;exact h.dif t ht u hu (fun e=>hne (by rw [e])) _ _ d0 d1
 ·obtain ⟨t,ht,rfl⟩:=zU.1 ht';obtain ⟨u,hu,rfl⟩:=zU.1 hu';exact h.mir t ht u hu (fun e=>hne (by rw [e])) ⟨(back hu (h.ent t ht _ (.inl rfl))).1 hh.1,(back hu (h.ent t ht _ (.inr (.inl rfl)))).1 hh.2.1,(back hu (h.ent t ht _ (.inr (.inr rfl)))).1 hh.2.2⟩
 ·obtain ⟨v,hv,rfl⟩:=ho u hu;obtain ⟨t,ht,tv⟩:=h.use v hv;exact ⟨_,zU.2 ⟨t,ht,rfl⟩,(back ht hv).2 tv⟩
 ·obtain ⟨v,hv,rfl⟩:=ho u hu;intro Q hQ t' ht' tv' hq u' hu' uv';obtain ⟨t,ht,rfl⟩:=zU.1 ht';obtain ⟨u,hu,rfl⟩:=zU.1 hu';refine h.pin v hv (fun s=>Q (zFb r s)) (fun s hs q hq2 sv qv ⟨w,wv,sw,qw⟩ k=> ?_) t ht ((back ht hv).1 tv') hq u hu ((back hu hv).1 uv');exact hQ _ (zU.2 ⟨s,hs,rfl⟩) _ (zU.2 ⟨q,hq2,rfl⟩) ((back hs hv).2 sv) ((back hq2 hv).2 qv) ⟨r w,fun e=>wv (hi _ _ (h.ent s hs w sw) hv e),zAs.2 ⟨w,sw,rfl⟩,zAs.2 ⟨w,qw,rfl⟩⟩ k
def dn (a v:Int):Int:=if v>a then v - 1 else v
theorem z3g {n a:Int} (ha:0<=a/\a<n) {l:List P3} (h:j5 (fun v=>InN n v/\v≠a) l):j5 (InN (n - 1)) (l.map (zFb (dn a))):=by
 refine zSb h (dn a) (fun v hv=> ?_) (fun v w hv hw e=> ?_) fun u hu=> ?_
 ·obtain ⟨hv,hne⟩:=hv;unfold InN at *;unfold dn;split<;>omega
 ·have h1:=hv.2;have h2:=hw.2;unfold dn at e;split at e<;>split at e<;>omega
 ·unfold InN at hu
  by_cases k:u>=a
  ·exact ⟨u+1,⟨⟨by omega,by omega⟩,by omega⟩,by unfold dn;rw [if_pos (by omega)];omega⟩
  ·exact ⟨u,⟨⟨by omega,by omega⟩,by omega⟩,by unfold dn;rw [if_neg (by omega)]⟩
end S1
namespace S1
theorem zRv {x:z6.T} {a b:Int} (h:zFS x a b=0):zBe x a b=true/\¬ ((zDy x a b).length=2/\zAz x a=false/\zAz x b=false)/\zBo x a=false:=by
 unfold zFS at h;split at h
 ·cases h
 ·rename_i h1;split at h
  ·cases h
  ·rename_i h2;split at h
   ·cases h
   ·split at h
    ·cases h
    ·rename_i h4;exact ⟨by simpa using h1,h2,by simpa using h4⟩
theorem zCD {x:z6.T} (g:Full x) {a b:Int} :qR x (a,b)>=0↔eE x.1.2 a b:=by
 rw [zEU];constructor
 ·intro h;unfold qR at h;cases e:zAR .arr2 x.2.1 (a,b) with
  | none=>rw [e] at h;exact absurd h (by decide)
  | some c=>exact ⟨c,g.map _ _ e⟩
 ·rintro ⟨d,h1,h2⟩;rw [<- h2,g.facing h1];exact (z7.1 h1).1
theorem zHq {x:z6.T} (g:Full x) {a b:Int} (h1:eE x.1.2 a b) (h2:eE x.1.2 b a):(zDy x a b).length=2:=by
 unfold zDy;rw [if_pos ((zCD g).2 h1),if_pos ((zCD g).2 h2)];rfl
theorem zD4 {t:P3} {a b:Int} (hab:a≠b) (h1:zV t a) (h2:zV t b):dE t a b\/dE t b a:=by
 obtain ⟨x,y,z⟩:=t;unfold zV at h1 h2;unfold dE;simp only at *;rcases h1 with e1|e1|e1<;>rcases h2 with e2|e2|e2<;>first|(exfalso;omega)|(subst e1 e2;simp)
theorem zEW {t:P3} (hd: ¬ dgn t) {a b:Int} (h1:dE t a b) (h2:dE t b a):False:=by
 unfold dgn at hd;unfold dE at h1 h2;omega
theorem zCT {x:z6.T} (g:Full x) {a v:Int} (hav:a≠v):zBe x a v=true↔∃ t∈x.1.2,zV t a/\zV t v:=by
 rw [zHt g];constructor
 ·rintro ⟨d,d1,d2⟩;have k:=zDw d1;refine ⟨_,qZ k.1,?_⟩;have:=qC k.2;rcases d2 with e|e
  ·rw [e] at this;exact this
  ·rw [e] at this;exact this.symm
 ·rintro ⟨t,ht,h1,h2⟩;rcases zD4 hav h1 h2 with e|e
  ·obtain ⟨d,d1,d2⟩:=zEU.1 (zDP.2 ⟨t,ht,e⟩);exact ⟨d,d1,.inl d2⟩
  ·obtain ⟨d,d1,d2⟩:=zEU.1 (zDP.2 ⟨t,ht,e⟩);exact ⟨d,d1,.inr d2⟩
theorem zVE {x:z6.T} (g:Full x) {a b v:Int} (h:v∈zDy x a b): ∃ t∈x.1.2,zV t a/\zV t b/\zV t v:=by
 have key: ∀ {p q:Int},qR x (p,q)>=0->yO x (qR x (p,q))=v->∃ t∈x.1.2,zV t p/\zV t q/\zV t v:=fun {p q} h1 h2=>by
  unfold qR at h1 h2;cases e:zAR .arr2 x.2.1 (p,q) with
  | none=>rw [e] at h1;exact absurd h1 (by decide)
  | some c =>
    rw [e] at h2;have h2:yO x c=v:=h2;obtain ⟨k1,k2⟩:=g.map _ _ e;have k:=zDw k1;rw [k2] at k;have kv:=zAl k1;rw [h2] at kv;exact ⟨_,qZ k.1,(qC k.2).1,(qC k.2).2,kv.2⟩
 unfold zDy at h;rcases z8.1 h with h|h
 ·split at h
  ·exact key (by assumption) (zF.1 h).symm
  ·cases h
 ·split at h
  ·obtain ⟨t,ht,h1,h2,h3⟩:=key (by assumption) (zF.1 h).symm;exact ⟨t,ht,h2,h1,h3⟩
  ·cases h
theorem zKm {x:z6.T} (g:Full x) {i j:Nat} :Adj x i j↔i<x.1.2.length/\j<x.1.2.length/\∃ p q,dE (tg x.1.2 i) p q/\dE (tg x.1.2 j) q p:=by
 constructor
 ·rintro ⟨c,c1,c2,c3,c4⟩;obtain ⟨k1,k2,k3,k4⟩:=g.opp_v (c:=c) c3;have e1:=zDw c1;have e2:=zDw k2;rw [c2] at e1;rw [c4] at e2;refine ⟨e1.1,e2.1,(jP x c).1,(jP x c).2,e1.2,?_⟩;have e3:jP x (zA2 x c)=((jP x c).2,(jP x c).1):=Prod.ext k3 k4;rw [e3] at e2;exact e2.2
 ·rintro ⟨hi,hj,p,q,h1,h2⟩;obtain ⟨c,c1,c2,c3⟩:=zHF hi h1;obtain ⟨d,d1,d2,d3⟩:=zHF hj h2;have e:zA2 x c=d:=g.opp_is d1 (by rw [c2,d2]);exact ⟨c,c1,c3,by rw [e];exact (z7.1 d1).1,by rw [e];exact d3⟩
theorem zFo {x:z6.T} (g:Full x) {i j:Nat} (hi:i<x.1.2.length) (hj:j<x.1.2.length) {v:Int} (h1:zV (tg x.1.2 i) v) (h2:zV (tg x.1.2 j) v) (hs:j5 (InN x.1.1) x.1.2):zHA (Adj x) i j:=by
 have hv:=hs.ent _ (qZ hi) v h1;refine (zLT hs.nd).2 (hs.pin v hv) (fun k=>zHA (Adj x) i k) (fun p q hp hq pv qv ⟨w,wv,pw,qw⟩ k=> ?_) i hi h1 (.refl _) j hj h2
 by_cases e:p=q
 ·subst e;exact k
 ·refine .step k ((zKm g).2 ⟨hp,hq,?_⟩);have ne:tg x.1.2 p≠tg x.1.2 q:=fun e'=>e (zDD hs.nd hp hq e');rcases zD4 wv pw pv with a|a<;>rcases zD4 wv qw qv with b|b
  ·exact absurd b (hs.dif _ (qZ hp) _ (qZ hq) ne _ _ a)
  ·exact ⟨_,_,a,b⟩
  ·exact ⟨_,_,a,b⟩
  ·exact absurd b (hs.dif _ (qZ hp) _ (qZ hq) ne _ _ a)
theorem zK9 (x:z6.T) (m:Int): ∀ k,(smS x m k).1=(((List.range k).filter fun i=>decide ((ofR x).getD i 0=m)).length:Int)
 | 0=>rfl
 | k +1=>by
   rw [List.range_succ,zDO]
   by_cases h:(ofR x).getD k 0=m
   ·rw [zJR h];show (smS x m k).1+1=_;rw [zK9 x m k,yZ (by simpa using h)];simp
   ·rw [zMR h,zK9 x m k,qM (by simpa using h)];simp
theorem zQj (x:z6.T) (i:Nat) (b:Bool): ∀ c,jL (smC x i) b c=true↔b=true\/∃ d:Nat,d<c/\zA2 x (3*i+d)<0
 | 0=>⟨.inl,fun h=>by rcases h with h|⟨d,h,_⟩;exact h;omega⟩
 | c + 1=>by
   rw [z0X,yN,zQj x i b c,zB];constructor
   ·rintro ((h|⟨d,h1,h2⟩)|h)
    ·exact .inl h
    ·exact .inr ⟨d,by omega,h2⟩
    ·exact .inr ⟨c,by omega,h⟩
   ·rintro (h|⟨d,h1,h2⟩)
    ·exact .inl (.inl h)
    ·by_cases e:d=c
     ·subst e;exact .inr h2
     ·exact .inl (.inr ⟨d,by omega,h2⟩)
theorem zHj (x:z6.T) (m:Int): ∀ k,(smS x m k).2=true↔∃ i,i<k/\(ofR x).getD i 0=m/\∃ d:Nat,d<3/\zA2 x (3*i+d)<0
 | 0=>⟨fun h=>(by cases h),fun ⟨i,h,_⟩=>by omega⟩
 | k + 1=>by
   by_cases h:(ofR x).getD k 0=m
   ·rw [zJR h];show jL (smC x k) (smS x m k).2 3=true↔_;rw [zQj,zHj x m k];constructor
    ·rintro (⟨i,h1,h2⟩|h1)
     ·exact ⟨i,by omega,h2⟩
     ·exact ⟨k,by omega,h,h1⟩
    ·rintro ⟨i,h1,h2,h3⟩
     by_cases e:i=k
     ·subst e;exact .inr h3
     ·exact .inl ⟨i,by omega,h2,h3⟩
   ·rw [zMR h,zHj x m k];constructor
    ·rintro ⟨i,h1,h2⟩;exact ⟨i,by omega,h2⟩
    ·rintro ⟨i,h1,h2,h3⟩;refine ⟨i,?_,h2,h3⟩
     by_cases e:i=k
     ·subst e;exact absurd h2 h
     ·omega
theorem zKw (k l:List Nat) (hn:k.Nodup) (h: ∀ i∈k,i∈l):k.length<=l.length:=by
 have:=zGb (k.map fun i=>((i:Nat):Int)) (l.map fun i=>((i:Nat):Int)) (List.Pairwise.map _ (fun i j hij e=>hij (by omega)) hn) fun v hv=>by
  obtain ⟨i,hi,rfl⟩:=zU.1 hv;exact zU.2 ⟨i,h i hi,rfl⟩
 simpa using this
theorem zJV {x:z6.T} (g:Full x) (hs:j5 (InN x.1.1) x.1.2) {a:Int} (ha:InN x.1.1 a) {S:List Nat} (hn:S.Nodup) {i0:Nat} (h0:i0∈S) (hv:zV (tg x.1.2 i0) a) (hl: ∀ i∈S,i<x.1.2.length) (hc: ∀ i∈S,∀ j,Adj x i j->j∈S) (hk: ∀ i∈S,zHA (Adj x) i0 i) :
 (smS x (smM x a) (ofR x).length).1=(S.length:Int)/\∀ i,i<x.1.2.length->((ofR x).getD i 0=smM x a↔i∈S):=by
 have hlen:=zLM g.toGood;obtain ⟨c1,c2⟩:=g.vtx a ha.1 ha.2;have kt:=zAl c1;rw [c2] at kt
 have hlab:(ofR x).getD i0 0=smM x a:=by
  unfold smM;exact (zEG g (hl _ h0) kt.1).2 (zFo g (hl _ h0) kt.1 hv kt.2 hs)
 have hmem: ∀ i,i<x.1.2.length->((ofR x).getD i 0=smM x a↔i∈S):=fun i hi=>by
  rw [<- hlab,eq_comm,zEG g (hl _ h0) hi];constructor
  ·intro k
   induction k with
   | refl=>exact h0
   | step _ a ih=>exact hc _ (ih (zMm g.toGood a).1) _ a
  ·exact fun k=>hk i k
 refine ⟨?_,hmem⟩;rw [zK9,hlen]
 have e:((List.range x.1.2.length).filter fun i=>decide ((ofR x).getD i 0=smM x a)).length=S.length:=by
  apply Nat.le_antisymm
  ·refine zKw _ _ (List.nodup_range.sublist List.filter_sublist) fun i hi=> ?_;obtain ⟨k1,k2⟩:=yR.1 hi;exact (hmem i (zQ.1 k1)).1 (by simpa using k2)
  ·refine zKw _ _ hn fun i hi=>yR.2 ⟨zQ.2 (hl i hi),by simpa using (hmem i (hl i hi)).2 hi⟩
 rw [e]
end S1
