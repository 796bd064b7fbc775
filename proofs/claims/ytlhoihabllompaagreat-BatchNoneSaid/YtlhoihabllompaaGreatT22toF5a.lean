/- A part of the proofs of the laws. -/
import Derived.Test.YtlhoihabllompaaGreatVmRngMtoVmSeq
import Derived.Test.YtlhoihabllompaaGreatT0toVmInl
import Derived.Test.YtlhoihabllompaaGreatT12toVmRng
set_option linter.unusedSimpArgs false
set_option linter.unusedVariables false
set_option maxHeartbeats 8000000
set_option maxRecDepth 100000
open Go Go.Vm Go.Proofs
namespace S1
theorem zDG {L r:List Int} {c:Int} {k:Nat} (h:L.drop k=c::r):L.take (k+1)=L.take k++[c]/\L.drop (k+1)=r:=by
 have hk:k<L.length:=by
  rcases Nat.lt_or_ge k L.length with h'|h'
  ·exact h'
  ·rw [List.drop_eq_nil_of_le h'] at h;cases h
 rw [List.drop_eq_getElem_cons hk] at h;injection h with h1 h2
 exact ⟨by rw [yB hk,h1],h2⟩
theorem zR5 {L:List Int} {c:Int} {k:Nat} (h:L.drop k=[c]):L.take k++[c]=L:=by
 have:=zDG h;rw [<- this.1];have h2:=jQ (k+1) L;rw [this.2,List.append_nil] at h2;exact h2
theorem zRf {L r:List Int} {c:Int} {k:Nat} (h:L.drop k=c::r):(L.take k++[c]) <+: L:=by
 rw [<- (zDG h).1];exact List.take_prefix _ _
theorem zND {x:yI.T} {c0:Int} (h0:0<=c0): ∀ n c,0<=c->0<=(zDD x c0 n c).1
 | 0,c,_=>by show (0:Int)<=0;decide
 | n +1,c,hc=>by
   unfold zDD;split
   ·exact hc
   ·split
    ·exact h0
    ·exact zND h0 n _ (by omega)
theorem zK9 {x:yI.T} {b:Int} : ∀ n c,0<=c->∀ a∈jV x b n c,0<=a
 | 0,c,_,a,h=>by cases h
 | n + 1,c,hc,a,h=>by
   unfold jV at h;split at h
   ·rw [zF] at h;omega
   ·split at h
    ·rw [zF] at h;omega
    ·rcases zT.1 h with e|h
     ·omega
     ·exact zK9 n _ (by omega) a h
theorem zK4 {x:yI.T} (g:Good x) (v:Int): ∀ a∈yT (some x) v,InK .i64 a:=fun a h=>by
 have h1:=(zG8 g v).2 a h
 have h2:0<=a:=by
  have h:a∈(if zBV x v then _ else _:List Int):=h;split at h
  ·rename_i ht
   have hc:0<=yX x v:=by
    simp only [zBV,zC,zP] at ht;exact ht.2.2
   exact zK9 _ _ (zND hc _ _ hc) a h
  ·cases h
 exact InK.i64.2 (by unfold yO;omega)
theorem zBq {x:yI.T} {b c:Int} {k:Nat} (h:k<=24576):jV x b (30000 - k) c=c::(if yN x c<0 then [] else if yN x c=b then [] else jV x b (30000 - (k+1)) (yN x c)):=by
 rw [show 30000 - k=(30000 - (k+1))+1 by omega];rfl
theorem zEf {x:yI.T} {v:Int} (h1:0<=v) (h2:v<x.1.1) (h3:0<=yX x v):yT (some x) v=jV x (zAL x v).1 30000 (zAL x v).1:=by
 show (if zBV x v then _ else _:List Int)=_;rw [if_pos (by unfold zBV;rw [decide_eq_true h1,decide_eq_true h2,decide_eq_true h3];rfl)]
theorem zEk {x:yI.T} {v:Int} (h: ¬ (0<=v/\v<x.1.1/\0<=yX x v)):yT (some x) v=[]:=by
 show (if zBV x v then _ else _:List Int)=_;rw [if_neg (fun e=>h (by simpa [zBV] using e))]
def z5A (x:yI.T) (b:Int):Spec Nat where
 inv k:=zTF (yN x) b k/\(jV x b 30000 b).drop k=jV x b (30000 - k) (iter (yN x) b k)
 live k:=[(6,.s (.int .i64 (iter (yN x) b k)))]
 keep:=[0,1,2,4]
 heap _:=[]
 keepH:=[]
 mu k:=30000 - k
theorem zSM (x:yI.T) (v:Int) (g:Good x):zPK ⟨tyL,[(88,zJY),(89,zJI),(130,zFp)],[]⟩ Tryz.f129 [⟨.pt yI,some x⟩,⟨y7,v⟩] (yT (some x) v):=by
 repeat' (conv=>whnf
          first|done|refine qN (by first|rfl|omega|(simp only [yO] at *;omega)) ?_|apply qH|refine qG fun _=> ?_|apply qB|apply qa|apply qo|refine qe (fun _=> ?_) (fun _=> ?_)|refine qn (fun _=> ?_) (fun _=> ?_)|refine qd (fun _=> ?_) (fun _=> ?_)|apply qt|refine qi (fun _=> ?_) (fun _=> ?_)|refine (fun (l:Nat)=> ?_)|refine zB Nat (zB (z5A x (zAL x v).1) (zB (fun k=>(jV x (zAL x v).1 30000 (zAL x v).1).take k) (zA (zB 0 (zA (yJ.out ?_) (zA (zAk.out ?_) (zA ?_ (zA ?_ rfl))))) (fun k hk=> ?_))))|((with_reducible show (∃ y,And (Spec.inv (z5A _ _) y) _));refine zB (k+1) (zA (yJ.out ?_) (zA (zAk.out ?_) (zA (zA ?_ (zA ?_ rfl)) (yJ.out ?_)))))|refine zA (yJ.out (p:=(_++[_]) <+: _) ?_) ?_|refine zAk.out ?_|refine zA rfl ?_|apply qE|apply qO|exact zN|apply qq|apply qs|refine qK (by kernel_rfl) ?_|apply qr)
 all_goals try first|apply qz1|apply qz2|apply qz3|apply qz4|apply qz5|apply qz6|apply qz7|apply qz8|apply qz9|apply qz0
 all_goals try simp only [zZ,zR,yE,z6,qn1,zY,qn2,zX,ETy.dflt,qn3,qn4,Int.reduceToNat,Int.reduceAdd,Int.reduceSub,Int.reduceNeg,Nat.reduceAdd,zD,z5A] at *
 ·exact qh ⟨fun j a b=>by omega,rfl⟩
 ·exact zAk.intro rfl
 ·rename_i h1 h2 h3;rw [zEf (v:=v) h1 h2 h3];have h24:=zAw g hk.1;have:=hk.2;rw [zBq h24] at this;exact qh (zRf this)
 ·rename_i h1 h2 h3;exact qh ⟨g,z04 g (zJR g (zDr g v) _ _ (zDr g v)) k⟩
 ·rename_i h1 h2 h3 h4;rw [zEf (v:=v) h1 h2 h3];have h24:=zAw g hk.1;have:=hk.2;rw [zBq h24,if_pos h4] at this;exact zAk.intro (zR5 this)
 ·rename_i h1 h2 h3 h4 h5;replace h5:yN x (iter (yN x) (zAL x v).1 k)=(zAL x v).1:=h5;rw [zEf (v:=v) h1 h2 h3];have h24:=zAw g hk.1;have:=hk.2;rw [zBq h24,if_neg h4,if_pos h5] at this;exact zAk.intro (zR5 this)
 ·rename_i h1 h2 h3 h4 h5;replace h5: ¬ yN x (iter (yN x) (zAL x v).1 k)=(zAL x v).1:=h5;have h24:=zAw g hk.1;have:=hk.2;rw [zBq h24,if_neg h4,if_neg h5] at this;exact qh ⟨hk.1.succ h4 h5,(zDG this).2⟩
 ·rename_i h1 h2 h3 h4 h5;have h24:=zAw g hk.1;have:=hk.2;rw [zBq h24] at this;exact zAk.intro (zDG this).1
 ·rename_i h1 h2 h3 h4 h5;have h24:=zAw g hk.1;refine qh ?_;omega
 ·rename_i h1 h2 h3;exact zAk.intro (zEk (fun h=>h3 h.2.2)).symm
 ·rename_i h1 h2;exact zAk.intro (zEk (fun h=>h2 h.2.1)).symm
 ·rename_i h1;exact zAk.intro (zEk (fun h=>h1 h.1)).symm
theorem zP5 (v:Int):zPK ⟨tyL,[(88,zJY),(89,zJI),(130,zFp)],[]⟩ Tryz.f129 [⟨.pt yI,none⟩,⟨y7,v⟩] (yT none v):=by
 repeat' (conv=>whnf
          first|done|refine qN (by first|rfl|omega|(simp only [yO] at *;omega)) ?_|apply qH|refine qG fun _=> ?_|apply qB|apply qa|apply qo|refine qe (fun _=> ?_) (fun _=> ?_)|refine qn (fun _=> ?_) (fun _=> ?_)|refine qd (fun _=> ?_) (fun _=> ?_)|apply qt|refine qi (fun _=> ?_) (fun _=> ?_)|refine (fun (l:Nat)=> ?_)|refine zAk.out ?_|refine zA rfl ?_|apply qE|apply qO|exact zN|apply qq|apply qs|refine qK (by kernel_rfl) ?_|apply qr)
 all_goals try first|apply qz1|apply qz2|apply qz3|apply qz4|apply qz5|apply qz6|apply qz7|apply qz8|apply qz9|apply qz0
 all_goals try simp only [zZ,zR,yE,z6,qn1,zY,qn2,zX,ETy.dflt,qn3,qn4,Int.reduceToNat,Int.reduceAdd,Int.reduceSub,Int.reduceNeg,Nat.reduceAdd,zD] at *
 exact zAk.intro rfl
theorem z8T:zD3 Tryz.prog z7b:=fun f ps L h=>by
 obtain ⟨rfl,o,v,rfl,hg,rfl⟩:=h;cases o with
 | none=>exact seq_ok (yM (fn:=[(88,zJY),(89,zJI),(130,zFp)]) (fr:=[]) ⟨zM0,zLa,zHs,trivial⟩ trivial) Tryz.func129 rfl (by kernel_rfl) rfl (by kernel_rfl) (zU rfl) (fun a h=>by cases h) fun _=>zP5 v
 | some x=>exact seq_ok (yM (fn:=[(88,zJY),(89,zJI),(130,zFp)]) (fr:=[]) ⟨zM0,zLa,zHs,trivial⟩ trivial) Tryz.func129 rfl (by kernel_rfl) rfl (by kernel_rfl) (zU rfl) (zK4 (hg x rfl) v) fun _=>zSM x v (hg x rfl)
end S1
open Go Go.Vm Go.Proofs
namespace S1
theorem zU1: ∀ (ks l:List Int),ks.Nodup->(∀ x∈ks,x∈l)->l.length<=ks.length->∀ x∈l,x∈ks
 | [],l,_,_,hl,x,hx=>by
   have:l=[]:=List.length_eq_zero_iff.1 (Nat.le_zero.1 hl);subst this;cases hx
 | a::r,l,hd,hs,hl,x,hx=>by
   have hd:=List.nodup_cons.1 hd;have ha:=hs a (yA ..);have hle:(l.erase a).length=l.length - 1:=List.length_erase_of_mem ha;have ih:=zU1 r (l.erase a) hd.2 (fun y hy=>(List.mem_erase_of_ne (fun e=>hd.1 (by rw [<- e];exact hy))).2 (hs y (zS _ hy))) (by rw [hle];simp only [z8] at hl;omega)
   by_cases e:x=a
   ·rw [e];exact yA ..
   ·exact zS _ (ih x ((List.mem_erase_of_ne e).2 hx))
theorem zWE (t:P3) {k:Nat} (h:k<3):(trl t).getD k 0∈trl t:=jA (by simpa [trl] using h)
def z4h (l:List P3) (v:Int) (tris:List Int) (m:zC3):Prop:= ∀ w,∀ x∈zAt m w,x∈tris/\w∈trl (tri l x)/\w≠v
theorem z7J {l:List P3} {v i:Int} {tris:List Int} {m:zC3} {k:Nat} (hi:i∈tris) (hk:k<3) (h:z4h l v tris m):z4h l v tris (enW v i (tri l i) m k):=by
 intro w x hx;unfold enW at hx;split at hx
 ·exact h w x hx
 ·rename_i hn;rw [zET] at hx;split at hx
  ·rename_i e;subst e;rw [yC,zF] at hx;rcases hx with hx|hx
   ·exact h _ x hx
   ·rw [hx];exact ⟨hi,zWE _ hk,hn⟩
  ·exact h w x hx
theorem z1y (l:List P3) (v:Int) (tris:List Int):z4h l v tris (enA l v tris tris.length) :=
 qX (n:=tris.length) (fun _ (m:zC3)=>z4h l v tris m) (fun w x hx=>by simp [zAt,jS] at hx) (fun j m hj h =>
  qX (n:=3) (fun _ (m:zC3)=>z4h l v tris m) h (fun k m hk h=>z7J (jA hj) hk h) 3 (zI _)) _ (zI _)
def zDq (m:ReM):List Int:=m.map Prod.fst
theorem zIb (k:Int): ∀ m:ReM,(∀ x,x∈zDq (zAB (.int .i64) m k true)->x=k\/x∈zDq m)/\((zDq m).Nodup->(zDq (zAB (.int .i64) m k true)).Nodup)
 | []=>⟨fun x h=>by simpa [zDq,zAB] using h,fun _=>by simp [zDq,zAB]⟩
 | (a, b)::r=>by
   obtain ⟨h1,h2⟩:=zIb k r;simp only [zAB];split
   ·rename_i e;refine ⟨fun x h=> ?_,fun h=> ?_⟩
    ·exact .inr h
    ·exact h
   ·rename_i e _;refine ⟨fun x h=> ?_,fun h=> ?_⟩
    ·rcases zT.1 h with h|h
     ·exact .inr (by rw [h];exact yA ..)
     ·rcases h1 x h with h|h
      ·exact .inl h
      ·exact .inr (zS _ h)
    ·have h:=List.nodup_cons.1 h;refine List.nodup_cons.2 ⟨fun hm=> ?_,h2 h.2⟩;rcases h1 a hm with hm|hm
     ·exact e hm
     ·exact h.1 hm
structure z2E (tris:List Int) (Q:Int->Prop) (S:TgS):Prop where
 q: ∀ x∈S.2.1,x∈tris/\Q x
 k: ∀ x∈zDq S.2.2,x∈tris/\Q x
 nd:(zDq S.2.2).Nodup
theorem z7E {tris av:List Int} {Q:Int->Prop} {S:TgS} {j:Nat} (h:z2E tris Q S) (ha:av.getD j 0∈tris/\Q (av.getD j 0)):z2E tris Q (vis av S j):=by
 unfold vis;split
 ·exact h
 ·refine ⟨fun x hx=> ?_,fun x hx=> ?_,(zIb _ _).2 h.nd⟩
  ·rcases yC.1 hx with hx|hx
   ·exact h.q x (List.mem_of_mem_drop hx)
   ·rw [zF.1 hx];exact ha
  ·rcases (zIb _ _).1 x hx with hx|hx
   ·rw [hx];exact ha
   ·exact h.k x hx
theorem z6O {l:List P3} {v i:Int} {tris:List Int} {Q:Int->Prop} {E:zC3} (hE:z4h l v tris E) (hc: ∀ i∈tris,∀ j∈tris,(∃ w,w≠v/\w∈trl (tri l i)/\w∈trl (tri l j))->Q i->Q j)
 (hi:i∈tris/\Q i) {S:TgS} (h:z2E tris Q S):z2E tris Q (qA (tgW E v (tri l i)) S 3) :=
 qX (n:=3) (fun _ (S:TgS)=>z2E tris Q S) h (fun k S hk h=>by
  unfold tgW;split
  ·exact h
  ·rename_i hn
   exact qX (n:=(zAt E ((trl (tri l i)).getD k 0)).length) (fun _ (S:TgS)=>z2E tris Q S) h (fun j S hj h=>by
    have:=hE _ _ (jA hj)
    exact z7E h ⟨this.1,hc i hi.1 _ this.1 ⟨_,this.2.2,zWE _ hk,this.2.1⟩ hi.2⟩) _ (zI _)) 3 (zI _)
theorem z1S {l:List P3} {v x0:Int} {tris:List Int} {Q:Int->Prop} {E:zC3} (hE:z4h l v tris E) (hc: ∀ i∈tris,∀ j∈tris,(∃ w,w≠v/\w∈trl (tri l i)/\w∈trl (tri l j))->Q i->Q j)
 (h0:x0∈tris/\Q x0) (r:Nat):z2E tris Q (tgS E l v x0 r) :=
 qX (n:=r) (fun _ (S:TgS)=>z2E tris Q S) ⟨fun x hx=>by rw [zF.1 hx];exact h0,fun x hx=>by rw [zF.1 hx];exact h0,(by show [x0].Nodup;exact List.nodup_cons.2 ⟨by simp,List.nodup_nil⟩)⟩ (fun j S _ h=>by
  unfold tgR;split
  ·rename_i hs;exact z6O hE hc (h.q _ (jA hs)) (S:=(S.1+1,S.2.1,S.2.2)) ⟨h.q,h.k,h.nd⟩
  ·exact h) r (zI _)
theorem z2O {l:List P3} {v:Int} {tris:List Int} (ht:tris≠[]) (h:zTI l v tris=true) (Q:Int->Prop) (h0:Q (tris.getD 0 0))
 (hc: ∀ i∈tris,∀ j∈tris,(∃ w,w≠v/\w∈trl (tri l i)/\w∈trl (tri l j))->Q i->Q j): ∀ i∈tris,Q i:=by
 have hm:tris.getD 0 0∈tris:=jA (List.length_pos_iff.2 ht);have k:=z1S (x0:=tris.getD 0 0) (z1y l v tris) hc ⟨hm,h0⟩ (2*tris.length+2);unfold zTI at h;have h:=eq_of_beq h;intro i hi;refine (k.k i (zU1 _ tris k.nd (fun x hx=>(k.k x hx).1) ?_ i hi)).2;unfold zDq;rw [y8];omega
end S1
open Go Go.Vm Go.Proofs
namespace S1
theorem zPH {s:List (List Int)} {w:Int} {j v:Nat} {x:Int} (hw:0<=w) (hv:v<s.length):x∈(atP s w j).getD v []↔x∈s.getD v []\/(x=j/\w=v):=by
 rw [zBd];split
 ·rename_i h;rw [yC,zF];have:w=v:=by omega
  simp [this]
 ·rename_i h;have: ¬ w=v:=fun e=>h ⟨by omega,hv⟩;simp [this]
theorem zMQ {n:Nat} {l:List P3} (hl: ∀ j,j<l.length->0<=(l.getD j (0,0,0)).1/\0<=(l.getD j (0,0,0)).2.1/\0<=(l.getD j (0,0,0)).2.2) {v:Nat} (hv:v<n) :
 ∀ i,i<=l.length->∀ x:Int,x∈(atF n l i).getD v []↔∃ j:Nat,j<i/\x=j/\z7 (l.getD j (0,0,0)) v
 | 0,_,x=>by
   have e:(atF n l 0).getD v []=[]:=by
    show (List.replicate n ([]:List Int)).getD v []=[];rw [gdE,List.getElem?_replicate];split<;>rfl
   rw [e];exact ⟨fun h=>(by cases h),fun ⟨j,h,_⟩=>(by omega)⟩
 | i + 1,hi,x=>by
   have ih:=zMQ hl hv i (by omega) x;have hlen:(atF n l i).length=n:=(zQ8 n l i).1;obtain ⟨h1,h2,h3⟩:=hl i (by omega);show x∈(at3 (atF n l i) (l.getD i (0,0,0)) i).getD v []↔_;unfold at3;rw [zPH h3 (by rw [zFE,zFE,hlen];exact hv),zPH h2 (by rw [zFE,hlen];exact hv),zPH h1 (by rw [hlen];exact hv),ih];constructor
   ·rintro (((⟨j,a,b,c⟩|⟨b,c⟩)|⟨b,c⟩)|⟨b,c⟩)
    ·exact ⟨j,by omega,b,c⟩
    ·exact ⟨i,by omega,b,.inl c⟩
    ·exact ⟨i,by omega,b,.inr (.inl c)⟩
    ·exact ⟨i,by omega,b,.inr (.inr c)⟩
   ·rintro ⟨j,a,b,c⟩
    by_cases e:j=i
    ·subst e;rcases c with c|c|c
     ·exact .inl (.inl (.inr ⟨b,c⟩))
     ·exact .inl (.inr ⟨b,c⟩)
     ·exact .inr ⟨b,c⟩
    ·exact .inl (.inl (.inl ⟨j,by omega,b,c⟩))
theorem zPa {t:P3} {v:Int} :v∈trl t↔z7 t v:=by
 simp only [trl,z7,zT,List.not_mem_nil,or_false];constructor
 ·rintro (h|h|h)
  ·exact .inl h.symm
  ·exact .inr (.inl h.symm)
  ·exact .inr (.inr h.symm)
 ·rintro (h|h|h)
  ·exact .inl h.symm
  ·exact .inr (.inl h.symm)
  ·exact .inr (.inr h.symm)
theorem zTw {n:Int} {l:List P3} (hp:zUo (n,l)=[]) (hl: ∀ j,j<l.length->0<=(l.getD j (0,0,0)).1/\0<=(l.getD j (0,0,0)).2.1/\0<=(l.getD j (0,0,0)).2.2) {v:Nat} (hv:(v:Int)<n) (Q:Nat->Prop)
 (hc: ∀ i j:Nat,i<l.length->j<l.length->z7 (l.getD i (0,0,0)) v->z7 (l.getD j (0,0,0)) v->(∃ w:Int,w≠v/\z7 (l.getD i (0,0,0)) w/\z7 (l.getD j (0,0,0)) w)->Q i->Q j)
 {a:Nat} (ha:a<l.length) (hva:z7 (l.getD a (0,0,0)) v) (hQ:Q a): ∀ i,i<l.length->z7 (l.getD i (0,0,0)) v->Q i:=by
 have hvn:v<n.toNat:=by omega
 have hm:=zMQ (n:=n.toNat) hl hvn l.length (zI _)
 have htog:zTI l v ((atF n.toNat l l.length).getD v [])=true:=by
  have:=List.filterMap_eq_nil_iff.1 hp v (zV.2 hvn);unfold piG at this;split at this
  ·assumption
  ·cases this
 have hne:(atF n.toNat l l.length).getD v []≠[]:=zMd n.toNat l hvn l.length ⟨a,ha,hva⟩;have tri_nat: ∀ j:Nat,tri l (j:Int)=l.getD j (0,0,0):=fun j=>rfl
 have key: ∀ R:Nat->Prop,(∀ i j:Nat,i<l.length->j<l.length->z7 (l.getD i (0,0,0)) v->z7 (l.getD j (0,0,0)) v->(∃ w:Int,w≠v/\z7 (l.getD i (0,0,0)) w/\z7 (l.getD j (0,0,0)) w)->R i->R j)->
  (∀ x,((atF n.toNat l l.length).getD v []).getD 0 0=((x:Nat):Int)->R x)->∀ i,i<l.length->z7 (l.getD i (0,0,0)) v->R i:=fun R hR h0 i hi hvi=>by
  have:=z2O hne htog (fun y=> ∀ j:Nat,y=j->R j) h0 (fun y hy z hz ⟨w,h1,h2,h3⟩ hQy j e=>by
   obtain ⟨a,ha1,ha2,ha3⟩:=(hm y).1 hy;obtain ⟨b,hb1,hb2,hb3⟩:=(hm z).1 hz;have:b=j:=by omega
   subst this;subst ha2;subst hb2;rw [tri_nat,zPa] at h2 h3
   exact hR a b ha1 hb1 ha3 hb3 ⟨w,h1,h2,h3⟩ (hQy a rfl)) i ((hm i).2 ⟨i,hi,rfl,hvi⟩)
  exact this i rfl
 have hz:=(hm _).1 (jA (j:=0) (List.length_pos_iff.2 hne));obtain ⟨z,hz1,hz2,hz3⟩:=hz
 by_cases hQz:Q z
 ·exact key Q hc fun x e=>by
   have:x=z:=by omega
   rw [this];exact hQz
 ·have:=key (fun i=> ¬ Q i) (fun i j hi hj h1 h2 ⟨w,h3,h4,h5⟩ hn hq=>hn (hc j i hj hi h2 h1 ⟨w,h3,h5,h4⟩ hq)) (fun x e=>by
   have:x=z:=by omega
   rw [this];exact hQz) a ha hva
  exact absurd hQ this
end S1
open Go Go.Vm Go.Proofs
namespace S1
theorem zRb (x:Int×List P3): ∀ i,i<=3*x.2.length->∀ c:Int,3*(x.2.length:Int) - i<=c->c<3*(x.2.length:Int)->∃ d,jS .arr2 (zGz x i).1 (jP (x,[],[]) c)=some d
 | 0,_,c,h1,h2=>by omega
 | i +1,hi,c,h1,h2=>by
   show ∃ d,jS .arr2 (zAB .arr2 (zGz x i).1 (jP (x,[],[]) (3*x.2.length - 1 - i)) (3*x.2.length - 1 - i)) _=some d
   by_cases e:jP (x,[],[]) (3*x.2.length - 1 - i)=jP (x,[],[]) c
   ·rw [e,zAQ];exact ⟨_,rfl⟩
   ·rw [zA1 _ e];refine zRb x i (by omega) c ?_ h2;have:c≠3*(x.2.length:Int) - 1 - i:=fun k=>e (by rw [k]);omega
theorem zXK (x:Int×List P3) (hx: ∀ c,0<=yR (x,[],[]) c\/¬ (0<=c/\c<3*(x.2.length:Int))) {v:Nat} (hv:v<x.1.toNat): ∀ i,i<=3*x.2.length->(∃ c:Int,3*(x.2.length:Int) - i<=c/\c<3*(x.2.length:Int)/\yR (x,[],[]) c=v)->
 0<=(zGz x i).2.getD v 0/\(zGz x i).2.getD v 0<3*(x.2.length:Int)/\yR (x,[],[]) ((zGz x i).2.getD v 0)=v
 | 0,_,⟨c,h1,h2,_⟩=>by omega
 | i + 1,hi,⟨c,h1,h2,h3⟩=>by
   show 0<=((zGz x i).2.set (yR (x,[],[]) (3*x.2.length - 1 - i)).toNat (3*x.2.length - 1 - i)).getD v 0/\((zGz x i).2.set (yR (x,[],[]) (3*x.2.length - 1 - i)).toNat (3*x.2.length - 1 - i)).getD v 0<_/\yR (x,[],[]) (((zGz x i).2.set (yR (x,[],[]) (3*x.2.length - 1 - i)).toNat (3*x.2.length - 1 - i)).getD v 0)=v;rw [gdE,List.getElem?_set]
   by_cases e:(yR (x,[],[]) (3*x.2.length - 1 - i)).toNat=v
   ·rw [if_pos e,if_pos (by rw [zFt];omega)];have:=hx (3*x.2.length - 1 - i);refine ⟨?_,?_,?_⟩
    ·show 0<=3*(x.2.length:Int) - 1 - i;omega
    ·show 3*(x.2.length:Int) - 1 - i<_;omega
    ·show yR (x,[],[]) (3*x.2.length - 1 - i)=v;rcases this with h|h<;>omega
   ·rw [if_neg e,<- gdE];refine zXK x hx hv i (by omega) ⟨c,?_,h2,h3⟩;have:c≠3*(x.2.length:Int) - 1 - i:=fun k=>e (by rw [<- k,h3];rfl);omega
theorem zUe {s:List Bool} {t:P3} {v:Nat} (h:(zNA s t).getD v false=true):s.getD v false=true\/t.1.toNat=v\/t.2.1.toNat=v\/t.2.2.toNat=v:=by
 unfold zNA at h
 by_cases h1:t.1.toNat=v
 ·exact .inr (.inl h1)
 by_cases h2:t.2.1.toNat=v
 ·exact .inr (.inr (.inl h2))
 by_cases h3:t.2.2.toNat=v
 ·exact .inr (.inr (.inr h3))
 simp only [gdE,List.getElem?_set,h1,h2,h3,if_false] at h;rw [gdE];exact .inl h
theorem zKt {n:Nat} {l:List P3} {v:Nat} : ∀ i,(zCe n l i).getD v false=true->∃ j,j<i/\((l.getD j (0,0,0)).1.toNat=v\/(l.getD j (0,0,0)).2.1.toNat=v\/(l.getD j (0,0,0)).2.2.toNat=v)
 | 0,h=>by
   have h:(List.replicate n false).getD v false=true:=h;rw [gdE,List.getElem?_replicate] at h;split at h<;>cases h
 | i +1,h=>by
   rcases zUe (s:=zCe n l i) h with h|h
   ·obtain ⟨j,a,b⟩:=zKt i h;exact ⟨j,by omega,b⟩
   ·exact ⟨i,by omega,h⟩
theorem zKZ {s:Int×List P3} (h:zLh s): ∀ j,j<s.2.length->0<=(s.2.getD j (0,0,0)).1/\0<=(s.2.getD j (0,0,0)).2.1/\0<=(s.2.getD j (0,0,0)).2.2:=fun j hj=>by
 have:=zAE (h.2.2.2 j hj);omega
structure Full (x:yI.T):Prop extends Good x where
 tot: ∀ c,j6 x c=true->jS .arr2 x.2.1 (jP x c)=some c
 vtx: ∀ v:Int,0<=v->v<x.1.1->j6 x (yX x v)=true/\yR x (yX x v)=v
 pin: ∀ v:Nat,(v:Int)<x.1.1->∀ Q:Nat->Prop,
  (∀ i j:Nat,i<x.1.2.length->j<x.1.2.length->z7 (x.1.2.getD i (0,0,0)) v->z7 (x.1.2.getD j (0,0,0)) v->(∃ w:Int,w≠v/\z7 (x.1.2.getD i (0,0,0)) w/\z7 (x.1.2.getD j (0,0,0)) w)->Q i->Q j)->
  ∀ a,a<x.1.2.length->z7 (x.1.2.getD a (0,0,0)) v->Q a->∀ i,i<x.1.2.length->z7 (x.1.2.getD i (0,0,0)) v->Q i
theorem zIj {x:yI.T} {j:Nat} {v:Int} (hj:j<x.1.2.length) (h:z7 (x.1.2.getD j (0,0,0)) v): ∃ c,j6 x c=true/\(c / 3).toNat=j/\yR x c=v:=by
 have key: ∀ k:Int,0<=k->k<3->p3 (x.1.2.getD j (0,0,0)) k=v->∃ c,j6 x c=true/\(c / 3).toNat=j/\yR x c=v:=fun k h1 h2 e=>by
  have hc:0<=3*(j:Int)+k/\3*(j:Int)+k<3*(x.1.2.length:Int):=by omega
  refine ⟨3*j+k,yH.2 hc,by omega,?_⟩;rw [zDT hc.1 hc.2,show ((3*(j:Int)+k) / 3).toNat=j by omega,show (3*(j:Int)+k) % 3=k by omega];exact e
 rcases h with h|h|h
 ·exact key 0 (by omega) (by omega) h
 ·exact key 1 (by omega) (by omega) h
 ·exact key 2 (by omega) (by omega) h
theorem zAs {x:yI.T} {c:Int} (h:j6 x c=true):(c / 3).toNat<x.1.2.length/\z7 (x.1.2.getD (c / 3).toNat (0,0,0)) (yR x c):=by
 have hc:=yH.1 h;refine ⟨by omega,?_⟩;rw [zDT hc.1 hc.2];have:c % 3=0\/c % 3=1\/c % 3=2:=by omega
 rcases this with e|e|e<;>rw [e]
 ·exact .inl rfl
 ·exact .inr (.inl rfl)
 ·exact .inr (.inr rfl)
theorem zR7 {s:Int×List P3} (h:(zJ2 s).1=0):Full (zAr s):=by
 have hc:=zVX h;have g:=z0D hc;have hw:=zEi (zLg h);refine {g with tot:=fun c hc=> ?_,vtx:=fun v h1 h2=> ?_,pin:=fun v hv Q hQ a ha1 ha2 ha3=> ?_}
 ·have i0:=yH.1 hc;have i0:0<=c/\c<3*(s.2.length:Int):=i0;obtain ⟨d,hd⟩:=zRb s _ (zI _) c (by omega) i0.2;have hd:jS .arr2 (zAr s).2.1 (jP (zAr s) c)=some d:=hd;obtain ⟨k1,k2⟩:=g.map _ _ hd;rw [hd,g.uniq _ _ k1 hc k2]
 ·have hl:zHQ s=[]:=hw _ (by simp);have h2:v<s.1:=h2;have hv:v.toNat<s.1.toNat:=by omega
  have:=List.filterMap_eq_nil_iff.1 hl v.toNat (zV.2 hv);unfold loG at this;split at this
  case isFalse=>cases this
  rename_i ht;obtain ⟨j,hj,e⟩:=zKt _ ht;have nn:=zKZ hc.fit j hj
  obtain ⟨c,c1,c2,c3⟩:=zIj (x:=zAr s) (v:=v) hj (by
   show (s.2.getD j (0,0,0)).1=v\/(s.2.getD j (0,0,0)).2.1=v\/(s.2.getD j (0,0,0)).2.2=v
   omega)
  have c1:=yH.1 c1;have c1:0<=c/\c<3*(s.2.length:Int):=c1
  have hat:=zXK s (fun c=>by
   by_cases h:0<=c/\c<3*(s.2.length:Int)
   ·exact .inl (zBB (x:=(s,[],[])) hc.fit (yH.2 h)).1
   ·exact .inr h) hv _ (zI _) ⟨c,by omega,c1.2,by have:yR (s,[],[]) c=v:=c3;omega⟩
  have e:yX (zAr s) v=(zGz s (3*s.2.length)).2.getD v.toNat 0:=by
   unfold yX;rw [if_pos (by show 0<=v/\v<((zGz s _).2.length:Int);rw [zFt];omega)];rfl
  rw [e];refine ⟨yH.2 ⟨hat.1,hat.2.1⟩,?_⟩;have:=hat.2.2;show yR (s,[],[]) _=v;omega
 ·exact zTw (n:=s.1) (l:=s.2) (hw (zUo s) (by simp)) (zKZ hc.fit) hv Q hQ ha1 ha2 ha3
section
variable {x:yI.T} {c d:Int}
theorem np (h:j6 x c=true):qY x (qV x c)=c/\qV x (qY x c)=c/\qY x (qY x c)=qV x c/\qV x (qV x c)=qY x c:=by
 have h1:=zAD h;rw [zAf h1.1,zAf h1.2,zBQ h1.1,zBQ h1.2,zAf h,zBQ h];unfold trn;omega
theorem zM8 (h:j6 x c=true):jP x (qY x c)=(yR x (qV x c),yR x c):=by
 unfold jP;rw [(np h).2.2.1,(np h).2.1]
theorem zMx (h:j6 x c=true):jP x (qV x c)=(yR x c,yR x (qY x c)):=by
 unfold jP;rw [(np h).1,(np h).2.2.2]
theorem Good.ne (g:Good x) (h:j6 x c=true):yR x c≠yR x (qY x c)/\yR x c≠yR x (qV x c)/\yR x (qY x c)≠yR x (qV x c):=by
 have h1:=g.ends _ (zAD h).1;have h2:=g.ends _ (zAD h).2;have h3:=g.ends _ h;rw [zM8 h] at h1;rw [zMx h] at h2;exact ⟨h2,fun e=>h1 e.symm,h3⟩
theorem Good.same (g:Good x) (hc:j6 x c=true) (hd:j6 x d=true) (h1:yR x c=yR x d) (h2:yR x (qY x c)=yR x (qY x d)):c=d:=by
 have:=g.uniq _ _ (zAD hc).2 (zAD hd).2 (by rw [zMx hc,zMx hd,h1,h2]);rw [<- (np hc).1,<- (np hd).1,this]
theorem Good.sameP (g:Good x) (hc:j6 x c=true) (hd:j6 x d=true) (h1:yR x c=yR x d) (h2:yR x (qV x c)=yR x (qV x d)):c=d:=by
 have:=g.uniq _ _ (zAD hc).1 (zAD hd).1 (by rw [zM8 hc,zM8 hd,h1,h2]);rw [<- (np hc).2.1,<- (np hd).2.1,this]
theorem Good.after_v (g:Good x) (h:0<=yN x c):yR x (yN x c)=yR x c/\yR x (qY x (yN x c))=yR x (qV x c):=by
 obtain ⟨h1,h2,h3⟩:=g.after_has h;obtain ⟨k1,k2,k3⟩:=g.opp h3;rw [zM8 h1] at k3;have e:yN x c=qY x (zAF x (qY x c)):=by unfold yN;rw [if_neg (by omega)]
 rw [e,(np k2).2.2.1];exact ⟨congrArg Prod.fst k3,congrArg Prod.snd k3⟩
theorem Good.before_v (g:Good x) (h:0<=yK x c):yR x (yK x c)=yR x c/\yR x (qV x (yK x c))=yR x (qY x c):=by
 obtain ⟨h1,h2,h3⟩:=g.before_has h;obtain ⟨k1,k2,k3⟩:=g.opp h3;rw [zMx h1] at k3;have e:yK x c=qV x (zAF x (qV x c)):=by unfold yK;rw [if_neg (by omega)]
 rw [e,(np k2).2.2.2];exact ⟨congrArg Prod.snd k3,congrArg Prod.fst k3⟩
theorem Full.facing (g:Full x) (h:j6 x d=true):qJ x (jP x d)=d:=by
 unfold qJ;rw [g.tot d h];rfl
theorem Full.opp_is (g:Full x) (hd:j6 x d=true) (h:jP x d=((jP x c).2,(jP x c).1)):zAF x c=d:=by
 unfold zAF;rw [<- h];exact g.facing hd
theorem Full.after_is (g:Full x) (hc:j6 x c=true) (hd:j6 x d=true) (h1:yR x d=yR x c) (h2:yR x (qY x d)=yR x (qV x c)):yN x c=d:=by
 have e:zAF x (qY x c)=qV x d:=g.opp_is (zAD hd).2 (by rw [zMx hd,zM8 hc,h1,h2]);have:=yH.1 (zAD hd).2;unfold yN;rw [if_neg (by rw [e];omega),e,(np hd).1]
theorem Full.before_is (g:Full x) (hc:j6 x c=true) (hd:j6 x d=true) (h1:yR x d=yR x c) (h2:yR x (qV x d)=yR x (qY x c)):yK x c=d:=by
 have e:zAF x (qV x c)=qY x d:=g.opp_is (zAD hd).1 (by rw [zM8 hd,zMx hc,h1,h2]);have:=yH.1 (zAD hd).1;unfold yK;rw [if_neg (by rw [e];omega),e,(np hd).2.1]
theorem Full.before_after (g:Full x) (h:0<=yN x c):yK x (yN x c)=c:=by
 obtain ⟨h1,h2,_⟩:=g.after_has h;have:=g.after_v h;exact g.before_is h2 h1 this.1.symm this.2.symm
theorem Full.after_before (g:Full x) (h:0<=yK x c):yN x (yK x c)=c:=by
 obtain ⟨h1,h2,_⟩:=g.before_has h;have:=g.before_v h;exact g.after_is h2 h1 this.1.symm this.2.symm
end
theorem zI9 {x:yI.T} (g:Good x) {b:Int} : ∀ n k,k+n=30000->zTF (yN x) b k->∀ y∈jV x b n (iter (yN x) b k),yN x y<0\/yN x y=b\/yN x y∈jV x b n (iter (yN x) b k)
 | 0,k,e,h,y,hy=>by have:=zAw g h;omega
 | n + 1,k,e,h,y,hy=>by
   unfold jV at hy ⊢
   by_cases h1:yN x (iter (yN x) b k)<0
   ·rw [if_pos h1] at hy;rw [zF.1 hy];exact .inl h1
   ·rw [if_neg h1] at hy ⊢
    by_cases h2:yN x (iter (yN x) b k)=b
    ·rw [if_pos h2] at hy;rw [zF.1 hy];exact .inr (.inl h2)
    ·rw [if_neg h2] at hy ⊢
     have hn:iter (yN x) b (k+1)∈jV x b n (iter (yN x) b (k+1)):=by
      obtain ⟨m,rfl⟩: ∃ m,n=m+1:=⟨n - 1,by have:=zAw g (h.succ h1 h2);omega⟩;unfold jV;exact yA ..
     rcases zT.1 hy with hy|hy
     ·rw [hy];exact .inr (.inr (zS _ hn))
     ·rcases zI9 g n (k+1) (by omega) (h.succ h1 h2) y hy with h|h|h
      ·exact .inl h
      ·exact .inr (.inl h)
      ·exact .inr (.inr (zS _ h))
theorem zCN {x:yI.T} {b:Int} (P:Int->Prop) (hs: ∀ c,P c->0<=yN x c->P (yN x c)): ∀ n c,P c->∀ y∈jV x b n c,P y
 | 0,c,_,y,hy=>by cases hy
 | n + 1,c,h,y,hy=>by
   unfold jV at hy;split at hy
   ·rw [zF.1 hy];exact h
   ·split at hy
    ·rw [zF.1 hy];exact h
    ·rcases zT.1 hy with hy|hy
     ·rw [hy];exact h
     ·exact zCN P hs n _ (hs c h (by omega)) y hy
theorem zIu {x:yI.T} (g:Good x) {c0:Int} : ∀ n k,k+n=30000->zTF (yK x) c0 k->∃ m,zTF (yK x) c0 m/\
 ((zDD x c0 n (iter (yK x) c0 k)=(iter (yK x) c0 m,true)/\yK x (iter (yK x) c0 m)<0)\/(zDD x c0 n (iter (yK x) c0 k)=(c0,false)/\yK x (iter (yK x) c0 m)=c0))
 | 0,k,e,h=>by have:=zKF g h;omega
 | n + 1,k,e,h=>by
   unfold zDD
   by_cases h1:yK x (iter (yK x) c0 k)<0
   ·rw [if_pos h1];exact ⟨k,h,.inl ⟨rfl,h1⟩⟩
   ·rw [if_neg h1]
    by_cases h2:yK x (iter (yK x) c0 k)=c0
    ·rw [if_pos h2];exact ⟨k,h,.inr ⟨rfl,h2⟩⟩
    ·rw [if_neg h2];exact zIu g n (k+1) (by omega) (h.succ h1 h2)
theorem zIH {x:yI.T} {v:Int} :zBV x v=true↔0<=v/\v<x.1.1/\0<=yX x v:=by
 simp only [zBV,zC,zP]
theorem Full.there {x:yI.T} (g:Full x) {v:Int} (h0:0<=v) (h1:v<x.1.1):zBV x v=true :=
 zIH.2 ⟨h0,h1,(yH.1 (g.vtx v h0 h1).1).1⟩
theorem Full.around {x:yI.T} (g:Full x) {v:Int} (h0:0<=v) (h1:v<x.1.1) :
 ∃ b,(zAL x v).1=b/\yT (some x) v=jV x b 30000 b/\j6 x b=true/\yR x b=v/\b∈yT (some x) v/\(∀ y∈yT (some x) v,j6 x y=true/\yR x y=v)/\
 (∀ y∈yT (some x) v,0<=yN x y->yN x y∈yT (some x) v)/\(∀ y∈yT (some x) v,0<=yK x y->yK x y∈yT (some x) v)/\
 (((zAL x v).2=true/\yK x b<0)\/((zAL x v).2=false/\∀ y∈yT (some x) v,0<=yN x y)):=by
 obtain ⟨k1,k2⟩:=g.vtx v h0 h1;have e:=zEf (x:=x) h0 h1 (yH.1 k1).1;obtain ⟨m,hm,hend⟩:=zIu g.toGood (c0:=yX x v) 30000 0 (by omega) (fun j a b=>by omega);have hend:(zAL x v=(iter (yK x) (yX x v) m,true)/\yK x (iter (yK x) (yX x v) m)<0)\/(zAL x v=(yX x v,false)/\yK x (iter (yK x) (yX x v) m)=yX x v):=hend
 have itok: ∀ j,j<=m->j6 x (iter (yK x) (yX x v) j)=true/\yR x (iter (yK x) (yX x v) j)=v:=fun j=>by
  induction j with
  | zero=>exact fun _=>⟨k1,k2⟩
  | succ j ih =>
    intro hj;have hp:0<=yK x (iter (yK x) (yX x v) j):=(hm (j+1) (by omega) hj).1;exact ⟨(g.before_has hp).2.1,(g.before_v hp).1.trans (ih (by omega)).2⟩
 have hb:j6 x (zAL x v).1=true/\yR x (zAL x v).1=v:=by
  rcases hend with ⟨h,_⟩|⟨h,_⟩
  ·rw [h];exact itok m (zI _)
  ·rw [h];exact ⟨k1,k2⟩
 have hin:(zAL x v).1∈yT (some x) v:=by rw [e];unfold jV;exact yA ..
 have hall: ∀ y∈yT (some x) v,j6 x y=true/\yR x y=v:=by
  rw [e];exact zCN _ (fun c hc ha=>⟨(g.after_has ha).2.1,(g.after_v ha).1.trans hc.2⟩) _ _ hb
 have haft: ∀ y∈yT (some x) v,0<=yN x y->yN x y∈yT (some x) v:=fun y hy ha=>by
  rw [e] at hy;rcases zI9 g.toGood 30000 0 rfl (fun j a b=>by omega) y hy with h|h|h
  ·omega
  ·rw [h];exact hin
  ·rw [e];exact h
 have hcyc:(zAL x v).2=false->∀ y∈yT (some x) v,0<=yN x y/\∃ j,j<=m/\y=iter (yK x) (yX x v) j:=fun hf=>by
  rcases hend with ⟨h,_⟩|⟨h,hr⟩
  ·rw [h] at hf;cases hf
  ·have key: ∀ j,j<=m->0<=yN x (iter (yK x) (yX x v) j)/\∃ i,i<=m/\yN x (iter (yK x) (yX x v) j)=iter (yK x) (yX x v) i:=fun j hj=>by
    cases j with
    | zero =>
      have h0:0<=yX x v:=(yH.1 k1).1;have:=g.after_before (c:=iter (yK x) (yX x v) m) (by rw [hr];exact h0);rw [hr] at this;show 0<=yN x (yX x v)/\∃ i,i<=m/\yN x (yX x v)=_;rw [this];exact ⟨(yH.1 (itok m (zI _)).1).1,m,zI _,rfl⟩
    | succ j =>
      have hp:0<=yK x (iter (yK x) (yX x v) j):=(hm (j+1) (by omega) hj).1;have:yN x (iter (yK x) (yX x v) (j+1))=iter (yK x) (yX x v) j:=g.after_before hp;rw [this];exact ⟨(yH.1 (itok j (by omega)).1).1,j,by omega,rfl⟩
   have: ∀ y∈yT (some x) v,∃ j,j<=m/\y=iter (yK x) (yX x v) j:=by
    rw [e];refine zCN _ (fun c ⟨j,hj,hc⟩ _=> ?_) _ _ ⟨0,by omega,by rw [h];rfl⟩;obtain ⟨_,i,hi,e⟩:=key j hj;exact ⟨i,hi,by rw [hc];exact e⟩
   intro y hy;obtain ⟨j,hj,ej⟩:=this y hy;exact ⟨by rw [ej];exact (key j hj).1,j,hj,ej⟩
 have hbef : ∀ y∈yT (some x) v,0<=yK x y->yK x y∈yT (some x) v:=by
  have hP : ∀ y∈yT (some x) v,(0<=yK x y->yK x y∈yT (some x) v):=by
   intro y hy
   have:y∈yT (some x) v/\(0<=yK x y->yK x y∈yT (some x) v):=by
    have hy2:=hy;rw [e] at hy2;refine zCN (fun y=>y∈yT (some x) v/\(0<=yK x y->yK x y∈yT (some x) v)) (fun c ⟨hc,_⟩ ha=>⟨haft c hc ha,fun _=>by rw [g.before_after ha];exact hc⟩) _ _ ⟨hin,fun hp=> ?_⟩ y hy2;rcases hend with ⟨h,hn⟩|⟨h,hr⟩
    ·rw [h] at hp;exact absurd hp (by show ¬ 0<=yK x (iter (yK x) (yX x v) m);omega)
    ·-- the walk forward: some round its end is the first again
     have hc:=hcyc (by rw [h])
     have hz:yK x (yX x v)∈yT (some x) v:=by
      -- each iterate is in it
      have back: ∀ i j,j+i=m->iter (yK x) (yX x v) j∈yT (some x) v:=fun i=>by
       induction i with
       | zero =>
         intro j hj;have hj:j=m:=by omega
         subst hj;have h0:0<=yX x v:=(yH.1 k1).1;have e1:=g.after_before (c:=iter (yK x) (yX x v) j) (by rw [hr];exact h0);rw [hr] at e1;have:=haft (yX x v) (by rw [h] at hin;exact hin) (by rw [e1];exact (yH.1 (itok j (zI _)).1).1);rw [e1] at this;exact this
       | succ i ih =>
         intro j hj;have h2:=ih (j+1) (by omega);have hp:0<=yK x (iter (yK x) (yX x v) j):=(hm (j+1) (by omega) (by omega)).1;have e1:yN x (iter (yK x) (yX x v) (j+1))=iter (yK x) (yX x v) j:=g.after_before hp;have:=haft _ h2 (by rw [e1];exact (yH.1 (itok j (by omega)).1).1);rw [e1] at this;exact this
      by_cases hm0:m=0
      ·subst hm0;have hr:yK x (yX x v)=yX x v:=hr;rw [hr];rw [h] at hin;exact hin
      ·exact back (m - 1) 1 (by omega)
     rw [h];exact hz
   exact this.2
  exact hP
 refine ⟨_,rfl,e,hb.1,hb.2,hin,hall,haft,hbef,?_⟩;rcases hend with ⟨h,hn⟩|⟨h,hr⟩
 ·exact .inl ⟨by rw [h],by rw [h];exact hn⟩
 ·exact .inr ⟨by rw [h],fun y hy=>(hcyc (by rw [h]) y hy).1⟩
theorem Full.around_all {x:yI.T} (g:Full x) {c:Int} (hc:j6 x c=true):c∈yT (some x) (yR x c):=by
 have hv:=zBB g.fit hc;obtain ⟨b,_,_,hb1,hb2,hb3,hall,haft,hbef,_⟩:=g.around hv.1 hv.2;obtain ⟨v,hv2⟩: ∃ v:Nat,yR x c=v:=⟨(yR x c).toNat,by omega⟩;rw [hv2] at hall haft hbef hb2 hb3 ⊢;have hn:(v:Int)<x.1.1:=by omega
 have tb:=zAs hb1;have tc:=zAs hc;rw [hb2] at tb;rw [hv2] at tc
 have hQ:=g.pin v hn (fun i=> ∃ y∈yT (some x) v,(y / 3).toNat=i) (fun i j hi hj hvi hvj ⟨w,hw,hwi,hwj⟩ ⟨y,hy,ey⟩=>by
  obtain ⟨hy1,hy2⟩:=hall y hy;obtain ⟨d,d1,d2,d3⟩:=zIj hj hvj
  -- the other vertex, in both
  have two: ∀ {y:Int},j6 x y=true->yR x y=v->z7 (x.1.2.getD (y / 3).toNat (0,0,0)) w->w=yR x (qY x y)\/w=yR x (qV x y):=fun {y} h1 h2 h3=>by
   obtain ⟨a,a1,a2,a3⟩:=zIj (zAs h1).1 h3;have i1:=yH.1 h1;have i2:=yH.1 a1
   have:a=y\/a=qY x y\/a=qV x y:=by
    rw [zAf h1,zBQ h1];unfold trn;omega
   rcases this with e|e|e
   ·subst e;exact absurd (a3.symm.trans h2) hw
   ·subst e;exact .inl a3.symm
   ·subst e;exact .inr a3.symm
  have wy:=two hy1 hy2 (by rw [ey];exact hwi);have wd:=two d1 d3 (by rw [d2];exact hwj);refine ⟨d,?_,d2⟩;have evd:yR x y=yR x d:=hy2.trans d3.symm;have nn:=(yH.1 d1).1;rcases wy with wy|wy<;>rcases wd with wd|wd
  ·rw [<- g.same hy1 d1 evd (wy.symm.trans wd)];exact hy
  ·have:=g.before_is hy1 d1 evd.symm (wd.symm.trans wy);have h2:=hbef y hy (by rw [this];exact nn);rw [this] at h2;exact h2
  ·have:=g.after_is hy1 d1 evd.symm (wd.symm.trans wy);have h2:=haft y hy (by rw [this];exact nn);rw [this] at h2;exact h2
  ·rw [<- g.sameP hy1 d1 evd (wy.symm.trans wd)];exact hy) _ tb.1 tb.2 ⟨b,hb3,rfl⟩ _ tc.1 tc.2
 obtain ⟨y,hy,ey⟩:=hQ;obtain ⟨hy1,hy2⟩:=hall y hy;have i1:=yH.1 hc;have i2:=yH.1 hy1
 have:y=c\/y=qY x c\/y=qV x c:=by
  rw [zAf hc,zBQ hc];unfold trn;omega
 have hne:=g.ne hc;rcases this with e|e|e
 ·rw [<- e];exact hy
 ·rw [e] at hy2;exact absurd (hv2.trans hy2.symm) hne.1
 ·rw [e] at hy2;exact absurd (hv2.trans hy2.symm) hne.2.1
end S1
open Go Go.Vm Go.Proofs
namespace S1
theorem zRY {l:List Int} (h:l.Pairwise (·<=·)):zBX l=l:=by
 unfold zBX;exact List.mergeSort_of_pairwise (h.imp fun h=>by simpa using h)
theorem zG3 (l:List Int):(zBX l).Perm l:=by unfold zBX;exact List.mergeSort_perm _ _
theorem zGx (l:List Int):(zBX l).Pairwise (·<=·):=by
 have:=List.pairwise_mergeSort (le:=fun x y:Int=>decide (x<=y)) (fun a b c h1 h2=>by simp at *;omega) (fun a b=>by simp;omega) l;unfold zBX;exact this.imp fun h=>by simpa using h
theorem zMn {l m:List Int} (hp:l.Perm m) (h1:l.Pairwise (·<=·)) (h2:m.Pairwise (·<=·)):l=m :=
 hp.eq_of_pairwise (fun a b _ _ h1 h2=>by omega) h1 h2
def zRe (a b c:Int):List Int:=if a<=b then (if b<=c then [a,b,c] else if a<=c then [a,c,b] else [c,a,b]) else (if a<=c then [b,a,c] else if b<=c then [b,c,a] else [c,b,a])
theorem z3K (a b c:Int):zBX [a,b,c]=zRe a b c:=by
 refine zMn ((zG3 _).trans ?_) (zGx _) ?_
 ·unfold zRe
  repeat' split
  ·exact .refl _
  ·exact .cons _ (.swap ..)
  ·exact (List.Perm.cons _ (.swap ..)).trans (.swap ..)
  ·exact .swap ..
  ·exact (List.Perm.swap ..).trans (.cons _ (.swap ..))
  ·exact ((List.Perm.swap ..).trans (.cons _ (.swap ..))).trans (.swap ..)
 ·unfold zRe
  repeat' split
  all_goals simp;omega
def zQB (t:P3):List P3:=[((zRe t.1 t.2.1 t.2.2).getD 0 0,(zRe t.1 t.2.1 t.2.2).getD 1 0,(zRe t.1 t.2.1 t.2.2).getD 2 0)]
theorem zTU:zDh=zQB:=by
 funext t
 unfold zDh zQB s3;rw [z3K]
def z2j (s:Int×List P3):List Wit:=zDA [jD s,dgL s.2 s.2.length,(prS qP 3 s.2 s.2.length).2.2,(prS zQB 4 s.2 s.2.length).2.2,zHQ s,zUo s]
theorem z2K (s:Int×List P3):allR s=z2j s:=by unfold allR z2j;rw [zTU]
def z5b (s:Int×List P3):Wit:=(z2j s).headD (0,0,0)
theorem z3w (s:Int×List P3):zJ2 s=z5b s:=by unfold zJ2 z5b;rw [z2K]
end S1
open Go Go.Vm Go.Proofs
namespace S1
abbrev tg (l:List P3) (i:Nat):P3:=l.getD i (0,0,0)
def dE (t:P3) (a b:Int):Prop:=(t.1=a/\t.2.1=b)\/(t.2.1=a/\t.2.2=b)\/(t.2.2=a/\t.1=b)
def dgn (t:P3):Prop:=t.1=t.2.1\/t.2.1=t.2.2\/t.2.2=t.1
def z5L (l:List P3) (v:Int):Prop:= ∀ Q:Nat->Prop,
    (∀ i j:Nat,i<l.length->j<l.length->z7 (tg l i) v->z7 (tg l j) v->(∃ w:Int,w≠v/\z7 (tg l i) w/\z7 (tg l j) w)->Q i->Q j)->
    ∀ a,a<l.length->z7 (tg l a) v->Q a->∀ i,i<l.length->z7 (tg l i) v->Q i
structure zBC (s:Int×List P3):Prop where
 fit:zLh s
 deg: ∀ i,i<s.2.length->¬ dgn (tg s.2 i)
 dif: ∀ i j,i<j->j<s.2.length->∀ a b,dE (tg s.2 i) a b->¬ dE (tg s.2 j) a b
 mir: ∀ i j,i<j->j<s.2.length->¬ (z7 (tg s.2 j) (tg s.2 i).1/\z7 (tg s.2 j) (tg s.2 i).2.1/\z7 (tg s.2 j) (tg s.2 i).2.2)
 use: ∀ v:Nat,(v:Int)<s.1->∃ j,j<s.2.length/\z7 (tg s.2 j) v
 pin: ∀ v:Nat,(v:Int)<s.1->z5L s.2 v
def keys (kp:P3->List P3) (l:List P3) (i:Nat):List P3:=(l.take i).flatMap kp
theorem zNG (kp:P3->List P3) {l:List P3} {i:Nat} (h:i<l.length):keys kp l (i+1)=keys kp l i++kp (tg l i):=by
 unfold keys tg;rw [yB h,List.flatMap_append,gdE,gE h];simp
structure KFw (pre:List P3) (s:zJL×PS):Prop where
 seen:s.2.1=[]
 nd:pre.Nodup
 had: ∀ k∈pre,zAI s.1 k≠[]
theorem z05 {kind:Int} {i m:Nat} {ks pre:List P3} {s:zJL×PS} (h:s.2.2=[]->KFw pre s) (h2:(prK kind i ks s m).2.2=[]):s.2.2=[]/\KFw (pre++[ks.getD m (0,0,0)]) (prK kind i ks s m):=by
 have h3:=zIJ h2;have h0:s.2.2=[]:=by rw [<- h3.1];exact h2
 have u:=h h0
 have he:zAI s.1 (ks.getD m (0,0,0))=[]:=by
  cases e:zAI s.1 (ks.getD m (0,0,0)) with
  | nil=>rfl
  | cons a r =>
    have:=h3.2 0 (by rw [e];simp);rw [u.seen] at this;cases this
 refine ⟨h0,(congrArg Prod.fst h3.1).trans u.seen,?_,fun k hk=> ?_⟩
 ·rw [List.nodup_append];refine ⟨u.nd,List.nodup_cons.2 ⟨by simp,List.nodup_nil⟩,fun a ha b hb e=> ?_⟩;rw [zF] at hb;subst hb;subst e;exact u.had _ ha he
 ·show zAI (zAB .arr3 s.1 (ks.getD m (0,0,0)) (zAI s.1 (ks.getD m (0,0,0))++[(i:Int)])) k≠[];rw [zEZ];split
  ·simp
  ·rename_i hne;rcases yC.1 hk with hk|hk
   ·exact u.had k hk
   ·rw [zF] at hk;exact absurd hk.symm hne
theorem zNM {kind:Int} {i:Nat} {ks pre:List P3} {s:zJL×PS} (h:s.2.2=[]->KFw pre s): ∀ m,m<=ks.length->(qA (prK kind i ks) s m).2.2=[]->KFw (pre++ks.take m) (qA (prK kind i ks) s m)
 | 0,_,h2=>by rw [List.take_zero,List.append_nil];exact h h2
 | m+1,hm,h2=>by
   have:=(z05 (kind:=kind) (i:=i) (m:=m) (ks:=ks) (fun h'=>zNM h m (by omega) h') h2).2;rw [List.append_assoc] at this;rw [yB (by omega)];rw [gdE,gE (by omega)] at this;exact this
theorem zWf (kp:P3->List P3) (kind:Int) (l:List P3): ∀ i,i<=l.length->(prS kp kind l i).2.2=[]->KFw (keys kp l i) (prS kp kind l i)
 | 0,_,_=>⟨rfl,List.nodup_nil,fun k h=>(by cases h)⟩
 | i+1,hi,h=>by
   have h:(qA (prK kind i (kp (tg l i))) (prS kp kind l i) (kp (tg l i)).length).2.2=[]:=h;have:=zNM (kind:=kind) (i:=i) (ks:=kp (tg l i)) (fun h'=>zWf kp kind l i (by omega) h') _ (zI _) h;rw [List.take_length] at this;rw [zNG kp (by omega)];exact this
structure KBw (pre:List P3) (s:zJL×PS):Prop where
 z:s.2=([],[])
 had: ∀ k,zAI s.1 k≠[]->k∈pre
theorem zNZ {kind:Int} {i:Nat} {ks pre:List P3} {s:zJL×PS} (h:KBw pre s) (hn:(pre++ks).Nodup): ∀ m,m<=ks.length->KBw (pre++ks.take m) (qA (prK kind i ks) s m)
 | 0,_=>by rw [List.take_zero,List.append_nil];exact h
 | m + 1,hm=>by
   have ih:=zNZ (kind:=kind) (i:=i) h hn m (by omega)
   have e1:ks.take (m+1)=ks.take m++[ks.getD m (0,0,0)]:=by
    rw [yB (by omega),gdE,gE (by omega)];rfl
   have hnew:ks.getD m (0,0,0)∉pre++ks.take m:=by
    have h2:(pre++ks.take (m+1)).Nodup:=by
     have:(pre++ks.take (m+1)).Sublist (pre++ks):=List.Sublist.append (List.Sublist.refl _) (List.take_sublist _ _);exact this.nodup hn
    rw [e1,<- List.append_assoc,List.nodup_append] at h2;exact fun hm=>h2.2.2 _ hm _ (zF.2 rfl) rfl
   have he:zAI (qA (prK kind i ks) s m).1 (ks.getD m (0,0,0))=[]:=by
    by_cases e:zAI (qA (prK kind i ks) s m).1 (ks.getD m (0,0,0))=[]
    ·exact e
    ·exact absurd (ih.had _ e) hnew
   refine ⟨?_,fun k hk=> ?_⟩
   ·show qA (prA kind i (zAI (qA (prK kind i ks) s m).1 (ks.getD m (0,0,0)))) (qA (prK kind i ks) s m).2 (zAI (qA (prK kind i ks) s m).1 (ks.getD m (0,0,0))).length=_;rw [he];exact ih.z
   ·have hk:zAI (zAB .arr3 (qA (prK kind i ks) s m).1 (ks.getD m (0,0,0)) (zAI (qA (prK kind i ks) s m).1 (ks.getD m (0,0,0))++[(i:Int)])) k≠[]:=hk;rw [zEZ] at hk;rw [e1,<- List.append_assoc];split at hk
    ·rename_i e;subst e;exact List.mem_append_right _ (zF.2 rfl)
    ·exact List.mem_append_left _ (ih.had k hk)
theorem zXt (kp:P3->List P3) (kind:Int) (l:List P3) (hn:(keys kp l l.length).Nodup): ∀ i,i<=l.length->KBw (keys kp l i) (prS kp kind l i)
 | 0,_=>⟨rfl,fun k h=>absurd rfl h⟩
 | i + 1,hi=>by
   have ih:=zXt kp kind l hn i (by omega)
   have hn2:(keys kp l (i+1)).Nodup:=by
    have:(keys kp l (i+1)).Sublist (keys kp l l.length):=by
     unfold keys;have e:l.flatMap kp=(l.take (i+1)).flatMap kp++(l.drop (i+1)).flatMap kp:=by rw [<- List.flatMap_append,jQ]
     rw [List.take_length,e];exact List.sublist_append_left _ _
    exact this.nodup hn
   rw [zNG kp (by omega)] at hn2 ⊢;have:=zNZ (kind:=kind) (i:=i) (ks:=kp (tg l i)) ih hn2 _ (zI _);rw [List.take_length] at this;exact this
theorem zU3 (kp:P3->List P3) (kind:Int) (l:List P3):(prS kp kind l l.length).2.2=[]↔(l.flatMap kp).Nodup:=by
 have e:keys kp l l.length=l.flatMap kp:=by unfold keys;rw [List.take_length]
 constructor
 ·intro h;have:=(zWf kp kind l _ (zI _) h).nd;rw [e] at this;exact this
 ·intro h;rw [<- e] at h;rw [(zXt kp kind l h _ (zI _)).z]
theorem zKO (kp:P3->List P3) (l:List P3):(l.flatMap kp).Nodup↔(∀ i,i<l.length->(kp (tg l i)).Nodup)/\∀ i j,i<j->j<l.length->∀ a∈kp (tg l i),a∉kp (tg l j):=by
 unfold List.Nodup;rw [List.pairwise_flatMap,List.pairwise_iff_getElem];have g: ∀ i (h:i<l.length),tg l i=l[i]:=fun i h=>by unfold tg;rw [gdE,gE h];rfl
 constructor
 ·rintro ⟨h1,h2⟩;refine ⟨fun i hi=>by rw [g i hi];exact h1 _ (yU hi),fun i j hij hj a ha hb=> ?_⟩;rw [g i (by omega)] at ha;rw [g j hj] at hb;exact h2 i j (by omega) hj hij a ha a hb rfl
 ·rintro ⟨h1,h2⟩;refine ⟨fun t ht=> ?_,fun i j hi hj hij a ha b hb e=> ?_⟩
  ·obtain ⟨i,hi,e⟩:=yG.1 ht;have:=h1 i hi;rw [g i hi,e] at this;exact this
  ·subst e;have:=h2 i j hij hj a;rw [g i hi,g j hj] at this;exact this ha hb
theorem zE1 (t:P3) (k:P3):k∈qP t↔k.2.2=0/\dE t k.1 k.2.1:=by
 obtain ⟨a,b,c⟩:=k;simp only [qP,dE,zT,List.not_mem_nil,or_false,Prod.mk.injEq];constructor
 ·rintro (⟨h1,h2,h3⟩|⟨h1,h2,h3⟩|⟨h1,h2,h3⟩)
  ·exact ⟨h3,.inl ⟨h1.symm,h2.symm⟩⟩
  ·exact ⟨h3,.inr (.inl ⟨h1.symm,h2.symm⟩)⟩
  ·exact ⟨h3,.inr (.inr ⟨h1.symm,h2.symm⟩)⟩
 ·rintro ⟨h3,(⟨h1,h2⟩|⟨h1,h2⟩|⟨h1,h2⟩)⟩
  ·exact .inl ⟨h1.symm,h2.symm,h3⟩
  ·exact .inr (.inl ⟨h1.symm,h2.symm,h3⟩)
  ·exact .inr (.inr ⟨h1.symm,h2.symm,h3⟩)
theorem zNz {l:List P3} (hd: ∀ i,i<l.length->¬ dgn (tg l i)):(prS qP 3 l l.length).2.2=[]↔∀ i j,i<j->j<l.length->∀ a b,dE (tg l i) a b->¬ dE (tg l j) a b:=by
 rw [zU3,zKO];constructor
 ·rintro ⟨_,h⟩ i j hij hj a b h1 h2;exact h i j hij hj (a,b,0) ((zE1 _ _).2 ⟨rfl,h1⟩) ((zE1 _ _).2 ⟨rfl,h2⟩)
 ·intro h;refine ⟨fun i hi=> ?_,fun i j hij hj k h1 h2=>h i j hij hj _ _ ((zE1 _ _).1 h1).2 ((zE1 _ _).1 h2).2⟩;have:=hd i hi;unfold dgn at this;simp only [qP,List.nodup_cons,zT,List.not_mem_nil,or_false,Prod.mk.injEq,not_false_eq_true,List.nodup_nil,and_true,true_and];refine ⟨?_,?_⟩<;>omega
theorem z1B {a b c d e f:Int} (h: ¬ (a=b\/b=c\/c=a)) (h': ¬ (d=e\/e=f\/f=d)):zRe a b c=zRe d e f↔((d=a\/e=a\/f=a)/\(d=b\/e=b\/f=b)/\(d=c\/e=c\/f=c)):=by
 unfold zRe;constructor
 ·intro h
  repeat' split at h
  all_goals (simp only [List.cons.injEq,and_true] at h;omega)
 ·intro h
  repeat' split
  all_goals (simp only [List.cons.injEq,and_true];omega)
theorem zR1 (a b c:Int):[(zRe a b c).getD 0 0,(zRe a b c).getD 1 0,(zRe a b c).getD 2 0]=zRe a b c:=by
 unfold zRe
 repeat' split
 all_goals rfl
theorem zNh {t u:P3} (ht: ¬ dgn t) (hu: ¬ dgn u) {k:P3} (h:k∈zQB t):k∈zQB u↔(z7 u t.1/\z7 u t.2.1/\z7 u t.2.2):=by
 unfold zQB at *;rw [zF] at h ⊢;unfold z7;rw [<- z1B ht hu,h];constructor
 ·intro e;rw [<- zR1 t.1,<- zR1 u.1];simp only [Prod.mk.injEq] at e;rw [e.1,e.2.1,e.2.2]
 ·intro e;rw [e]
theorem zXH {l:List P3} (hd: ∀ i,i<l.length->¬ dgn (tg l i)):(prS zDh 4 l l.length).2.2=[]↔∀ i j,i<j->j<l.length->¬ (z7 (tg l j) (tg l i).1/\z7 (tg l j) (tg l i).2.1/\z7 (tg l j) (tg l i).2.2):=by
 rw [zTU,zU3,zKO];constructor
 ·rintro ⟨_,h⟩ i j hij hj e;have hm:_∈zQB (tg l i):=zF.2 rfl;exact h i j hij hj _ hm ((zNh (hd i (by omega)) (hd j hj) hm).2 e)
 ·intro h;refine ⟨fun i hi=>List.nodup_cons.2 ⟨by simp,List.nodup_nil⟩,fun i j hij hj k h1 h2=>h i j hij hj ((zNh (hd i (by omega)) (hd j hj) h1).1 h2)⟩
theorem zNq {s:List Bool} {t:P3} {v:Nat} (h:s.getD v false=true\/(v<s.length/\(t.1.toNat=v\/t.2.1.toNat=v\/t.2.2.toNat=v))):(zNA s t).getD v false=true:=by
 unfold zNA;simp only [gdE,List.getElem?_set,List.length_set];rcases h with h|⟨hl,h⟩
 ·rw [gdE] at h
  have hl:v<s.length:=by
   rcases Nat.lt_or_ge v s.length with h'|h'
   ·exact h'
   ·rw [List.getElem?_eq_none h'] at h;cases h
  rw [gE hl] at h
  repeat' split
  all_goals first|rfl|omega|(rw [gE hl];exact h)
 ·repeat' split
  all_goals first|rfl|omega
theorem zQp {n:Nat} {l:List P3} {v:Nat} (hv:v<n): ∀ i,(∃ j,j<i/\((tg l j).1.toNat=v\/(tg l j).2.1.toNat=v\/(tg l j).2.2.toNat=v))->(zCe n l i).getD v false=true
 | 0,⟨j,hj,_⟩=>by omega
 | i+1,⟨j,hj,h⟩=>by
   show (zNA (zCe n l i) (tg l i)).getD v false=true
   by_cases e:j=i
   ·subst e;exact zNq (.inr ⟨by rw [zK2];exact hv,h⟩)
   ·exact zNq (.inl (zQp hv i ⟨j,by omega,h⟩))
theorem zR9 {s:Int×List P3} (hf:zLh s):zHQ s=[]↔∀ v:Nat,(v:Int)<s.1->∃ j,j<s.2.length/\z7 (tg s.2 j) v:=by
 have nn:=zKZ hf;unfold zHQ loL;rw [List.filterMap_eq_nil_iff];constructor
 ·intro h v hv;have:=h v (zV.2 (by omega));unfold loG at this;split at this
  case isFalse=>cases this
  rename_i ht;obtain ⟨j,hj,e⟩:=zKt _ ht;have:=nn j hj;exact ⟨j,hj,by show (s.2.getD j (0,0,0)).1=v\/(s.2.getD j (0,0,0)).2.1=v\/(s.2.getD j (0,0,0)).2.2=v;omega⟩
 ·intro h v hv;have hv:=zV.1 hv;obtain ⟨j,hj,e⟩:=h v (by omega);have e:(s.2.getD j (0,0,0)).1=v\/(s.2.getD j (0,0,0)).2.1=v\/(s.2.getD j (0,0,0)).2.2=v:=e;unfold loG
  rw [if_pos (zQp hv _ ⟨j,hj,by
   show (s.2.getD j (0,0,0)).1.toNat=v\/(s.2.getD j (0,0,0)).2.1.toNat=v\/(s.2.getD j (0,0,0)).2.2.toNat=v
   omega⟩)]
theorem zRM {v i:Int} {t:P3} {m:zC3} {k:Nat} {w y:Int} (h:y∈zAt m w):y∈zAt (enW v i t m k) w:=by
 unfold enW;split
 ·exact h
 ·rw [zET];split
  ·rename_i e;subst e;exact List.mem_append_left _ h
  ·exact h
theorem z4A {v i:Int} {t:P3} {m:zC3} {k:Nat} (h:(trl t).getD k 0≠v):i∈zAt (enW v i t m k) ((trl t).getD k 0):=by
 unfold enW;rw [if_neg h,zET,if_pos rfl];exact List.mem_append_right _ (zF.2 rfl)
theorem zZO {l:List P3} {v:Int} {tris:List Int} {m:zC3} {j:Nat} {w y:Int} (h:y∈zAt m w):y∈zAt (enT l v tris m j) w :=
 qX (n:=3) (fun _ (m:zC3)=>y∈zAt m w) h (fun _ _ _ h=>zRM h) 3 (zI _)
theorem zFe {S:Type} {f:S->Nat->S} {s:S} {P:S->Prop} {k:Nat} (hk: ∀ s,P (f s k)) (hs: ∀ s j,P s->P (f s j)): ∀ n,k<n->P (qA f s n)
 | n+1,h=>by
   by_cases e:k=n
   ·subst e;exact hk _
   ·exact hs _ _ (zFe hk hs n (by omega))
theorem z17 {t:P3} {w:Int} (h:w∈trl t): ∃ k,k<3/\(trl t).getD k 0=w:=by
 simp only [trl,zT,List.not_mem_nil,or_false] at h;rcases h with h|h|h
 ·exact ⟨0,by omega,h.symm⟩
 ·exact ⟨1,by omega,h.symm⟩
 ·exact ⟨2,by omega,h.symm⟩
theorem z4k {l:List P3} {v:Int} {tris:List Int} {y w:Int} (hy:y∈tris) (hw:w∈trl (tri l y)) (hn:w≠v):y∈zAt (enA l v tris tris.length) w:=by
 obtain ⟨j,hj,e⟩:=yG.1 hy;have e2:tris.getD j 0=y:=by rw [gdE,gE hj];exact e
 unfold enA;refine zFe (P:=fun m=>y∈zAt m w) (k:=j) (fun m=> ?_) (fun m i h=>zZO h) _ hj;obtain ⟨k,hk,ek⟩:=z17 hw;unfold enT;rw [e2];refine zFe (P:=fun m=>y∈zAt m w) (k:=k) (fun m=> ?_) (fun m i h=>zRM h) 3 hk;have:=z4A (v:=v) (i:=y) (t:=tri l y) (m:=m) (k:=k) (by rw [ek];exact hn);rw [ek] at this;exact this
def Reach (E:zC3) (l:List P3) (v:Int) (S:TgS) (x:Int):Prop:=x∈S.2.1.drop S.1\/∀ w∈trl (tri l x),w≠v->∀ y∈zAt E w,had S.2.2 y=true
theorem zV3 {av:List Int} {S:TgS} {j:Nat} {y:Int} (h:had S.2.2 y=true):had (vis av S j).2.2 y=true:=by
 unfold vis;split
 ·exact h
 ·show had (zAB (.int .i64) S.2.2 (av.getD j 0) true) y=true;rw [zFF];split
  ·rfl
  ·exact h
theorem z3P {av:List Int} {S:TgS} {j:Nat} :had (vis av S j).2.2 (av.getD j 0)=true:=by
 unfold vis;split
 ·assumption
 ·show had (zAB (.int .i64) S.2.2 (av.getD j 0) true) _=true;rw [zFF,if_pos rfl]
theorem zZ8 {av:List Int} {S:TgS} {j:Nat} {y:Int} (h:y∈S.2.1.drop S.1):y∈(vis av S j).2.1.drop (vis av S j).1:=by
 unfold vis;split
 ·exact h
 ·show y∈(S.2.1.drop S.1++[av.getD j 0]).drop 0;rw [List.drop_zero];exact List.mem_append_left _ h
theorem z06 {av:List Int} {S:TgS} {j:Nat} {y:Int} (h:had (vis av S j).2.2 y=true):had S.2.2 y=true\/y∈(vis av S j).2.1.drop (vis av S j).1:=by
 unfold vis at *;split at h
 ·exact .inl h
 ·rename_i hn;have h:had (zAB (.int .i64) S.2.2 (av.getD j 0) true) y=true:=h;rw [zFF] at h;rw [if_neg hn];split at h
  ·rename_i e;subst e;refine .inr ?_;show _∈(S.2.1.drop S.1++[av.getD j 0]).drop 0;rw [List.drop_zero];exact List.mem_append_right _ (zF.2 rfl)
  ·exact .inl h
structure zHT (S T:TgS):Prop where
 had: ∀ y,had S.2.2 y=true->had T.2.2 y=true
 wait: ∀ y,y∈S.2.1.drop S.1->y∈T.2.1.drop T.1
 new: ∀ y,S1.had T.2.2 y=true->S1.had S.2.2 y=true\/y∈T.2.1.drop T.1
theorem zHT.refl (S:TgS):zHT S S:=⟨fun _ h=>h,fun _ h=>h,fun _ h=> .inl h⟩
theorem zHT.trans {S T U:TgS} (h:zHT S T) (k:zHT T U):zHT S U :=
 ⟨fun y e=>k.had y (h.had y e),fun y e=>k.wait y (h.wait y e),fun y e=>by
   rcases k.new y e with e|e
   ·rcases h.new y e with e|e
    ·exact .inl e
    ·exact .inr (k.wait y e)
   ·exact .inr e⟩
theorem zZ4 {av:List Int} {S:TgS} {j:Nat} :zHT S (vis av S j):=⟨fun _ h=>zV3 h,fun _ h=>zZ8 h,fun _ h=>z06 h⟩
theorem zTM {av:List Int} {S:TgS} (n:Nat):zHT S (qA (vis av) S n) :=
 qX (n:=n) (fun _ (T:TgS)=>zHT S T) (.refl S) (fun _ _ _ h=>h.trans zZ4) n (zI _)
theorem zQ0 {E:zC3} {v:Int} {t:P3} {S:TgS} {k:Nat} :zHT S (tgW E v t S k):=by
 unfold tgW;split
 ·exact .refl S
 ·exact zTM _
theorem zNr {E:zC3} {v:Int} {t:P3} {S:TgS} (n:Nat):zHT S (qA (tgW E v t) S n) :=
 qX (n:=n) (fun _ (T:TgS)=>zHT S T) (.refl S) (fun _ _ _ h=>h.trans zQ0) n (zI _)
theorem z2o {E:zC3} {v:Int} {t:P3} {S:TgS} {k:Nat} (h:(trl t).getD k 0≠v) {y:Int} (hy:y∈zAt E ((trl t).getD k 0)):had (tgW E v t S k).2.2 y=true:=by
 unfold tgW;rw [if_neg h];obtain ⟨j,hj,e⟩:=yG.1 hy;have e2:(zAt E ((trl t).getD k 0)).getD j 0=y:=by rw [gdE,gE hj];exact e
 refine zFe (P:=fun S:TgS=>had S.2.2 y=true) (k:=j) (fun S=> ?_) (fun _ _ h=>zV3 h) _ hj;have:=z3P (av:=zAt E ((trl t).getD k 0)) (S:=S) (j:=j);rw [e2] at this;exact this
def RInv (E:zC3) (l:List P3) (v:Int) (S:TgS):Prop:= ∀ x,had S.2.2 x=true->Reach E l v S x
theorem z2i {E:zC3} {l:List P3} {v:Int} {S:TgS} {r:Nat} (h:RInv E l v S):RInv E l v (tgR E l v S r):=by
 unfold tgR;split
 case isFalse=>exact h
 rename_i hs;have g:=zNr (E:=E) (v:=v) (t:=tri l (S.2.1.getD S.1 0)) (S:=(S.1+1,S.2.1,S.2.2)) 3;intro x hx
 by_cases e:x=S.2.1.getD S.1 0
 ·subst e;refine .inr fun w hw hn y hy=> ?_;obtain ⟨k,hk,ek⟩:=z17 hw;refine zFe (P:=fun S:TgS=>had S.2.2 y=true) (k:=k) (fun S=> ?_) (fun S j h=>zQ0.had y h) 3 hk;exact z2o (by rw [ek];exact hn) (by rw [ek];exact hy)
 ·rcases g.new x hx with hx|hx
  ·rcases h x hx with hw|hw
   ·left;refine g.wait x ?_;show x∈S.2.1.drop (S.1+1);rw [List.drop_eq_getElem_cons hs] at hw;rcases zT.1 hw with hw|hw
    ·exact absurd (by rw [hw,gdE,gE hs];rfl) e
    ·exact hw
   ·exact .inr fun w hw' hn y hy=>g.had y (hw w hw' hn y hy)
  ·exact .inl hx
theorem zXZ (E:zC3) (l:List P3) (v x0:Int): ∀ r,RInv E l v (tgS E l v x0 r)
 | 0=>fun x hx=>by
   have hx:had [(x0,true)] x=true:=hx;left;show x∈[x0].drop 0;rw [List.drop_zero,zF];have:had (zAB (.int .i64) ([]:ReM) x0 true) x=true:=hx;rw [zFF] at this;split at this
   ·rename_i e;exact e.symm
   ·cases this
 | r+1=>z2i (r:=r) (zXZ E l v x0 r)
theorem zQf {E:zC3} {l:List P3} {v x0:Int} {tris:List Int} {c:Nat} (hE:zVR tris c E) (hx:x0∈tris): ∀ r,(tgS E l v x0 r).1<(tgS E l v x0 r).2.1.length->meas tris (tgS E l v x0 r)+r<=tris.length+1
 | 0,_=>zI6
 | r +1,h=>by
   have hok:=(z1h hE (l:=l) (v:=v) hx r).1
   by_cases hs:(tgS E l v x0 r).1<(tgS E l v x0 r).2.1.length
   ·have ih:=zQf (l:=l) (v:=v) hE hx r hs;have:=(z1i (l:=l) (v:=v) (r:=r) hE hok).2.2 hs;have e:tgS E l v x0 (r+1)=tgR E l v (tgS E l v x0 r) r:=rfl;rw [e];omega
   ·rw [zLf hs 1] at h;exact absurd h hs
theorem zQF: ∀ {m:ReM} {x:Int},had m x=true->x∈zDq m
 | [],x,h=>by cases h
 | (a,b)::r,x,h=>by
   unfold had at h;simp only [jS] at h;unfold zDq;split at h
   ·rename_i e _;exact zT.2 (.inl e.symm)
   ·exact zS _ (zQF h)
theorem zBv: ∀ (ks l:List Int),ks.Nodup->(∀ x∈ks,x∈l)->ks.length<=l.length
 | [],l,_,_=>Nat.zero_le _
 | a::r,l,hd,hs=>by
   have hd:=List.nodup_cons.1 hd;have ha:=hs a (yA ..);have ih:=zBv r (l.erase a) hd.2 (fun y hy=>(List.mem_erase_of_ne (fun e=>hd.1 (by rw [<- e];exact hy))).2 (hs y (zS _ hy)));have hle:(l.erase a).length=l.length - 1:=List.length_erase_of_mem ha;have:=List.length_pos_of_mem ha;simp only [z8];omega
theorem z6X {l:List P3} {v:Int} {tris:List Int} (ht:tris≠[]) (hn:tris.Nodup)
 (hc: ∀ Q:Int->Prop,(∀ i∈tris,∀ j∈tris,(∃ w,w≠v/\w∈trl (tri l i)/\w∈trl (tri l j))->Q i->Q j)->Q (tris.getD 0 0)->∀ i∈tris,Q i):zTI l v tris=true:=by
 have hm:tris.getD 0 0∈tris:=jA (List.length_pos_iff.2 ht);have hE:=zWI l v tris tris.length (zI _);have hin:=z1S (l:=l) (v:=v) (x0:=tris.getD 0 0) (z1y l v tris) (Q:=fun _=>True) (fun _ _ _ _ _ _=>trivial) ⟨hm,trivial⟩ (2*tris.length+2);have hR:=zXZ (enA l v tris tris.length) l v (tris.getD 0 0) (2*tris.length+2)
 have hstop: ¬ (tgS (enA l v tris tris.length) l v (tris.getD 0 0) (2*tris.length+2)).1<(tgS (enA l v tris tris.length) l v (tris.getD 0 0) (2*tris.length+2)).2.1.length:=fun h=>by
  have:=zQf (l:=l) (v:=v) hE hm _ h;omega
 have h0:had (tgS (enA l v tris tris.length) l v (tris.getD 0 0) (2*tris.length+2)).2.2 (tris.getD 0 0)=true :=
  qX (n:=2*tris.length+2) (fun _ (S:TgS)=>had S.2.2 (tris.getD 0 0)=true) (by
   show had (zAB (.int .i64) ([]:ReM) (tris.getD 0 0) true) _=true
   rw [zFF,if_pos rfl]) (fun j S _ h=>by
   unfold tgR;split
   ·exact (zNr 3).had _ h
   ·exact h) _ (zI _)
 unfold zTI;generalize tgS (enA l v tris tris.length) l v (tris.getD 0 0) (2*tris.length+2)=S at *
 have all:=hc (fun i=>had S.2.2 i=true) (fun i hi j hj ⟨w,h1,h2,h3⟩ hq=>by
  rcases hR i hq with h|h
  ·rw [List.drop_eq_nil_of_le (by omega)] at h;cases h
  ·exact h w h2 h1 j (z4k hj h3 h1)) h0
 have hk: ∀ x∈zDq S.2.2,x∈tris:=fun x hx=>(hin.k x hx).1;have l1:=zBv _ _ hin.nd hk;have l2:=zBv tris (zDq S.2.2) hn fun x hx=>zQF (all x hx);have e:(zDq S.2.2).length=S.2.2.length:=by unfold zDq;rw [y8]
 rw [e] at l1 l2;have:S.2.2.length=tris.length:=by omega
 rw [this];exact beq_self_eq_true _
theorem zHy {s:List (List Int)} {w:Int} {j v:Nat} (h:(s.getD v []).Nodup/\∀ x∈s.getD v [],x<(j:Int)) (h2:w.toNat=v->∀ x∈s.getD v [],x≠(j:Int)):((atP s w j).getD v []).Nodup:=by
 rw [zBd];split
 ·rename_i e;rw [List.nodup_append];refine ⟨h.1,List.nodup_cons.2 ⟨by simp,List.nodup_nil⟩,fun a ha b hb=> ?_⟩;rw [zF] at hb;rw [hb];exact h2 e.1 a ha
 ·exact h.1
theorem zOK {n:Nat} {l:List P3} (hl: ∀ j,j<l.length->0<=(tg l j).1/\0<=(tg l j).2.1/\0<=(tg l j).2.2) (hd: ∀ i,i<l.length->¬ dgn (tg l i)) {v:Nat} (hv:v<n): ∀ i,i<=l.length->((atF n l i).getD v []).Nodup
 | 0,_=>by
   have e:(atF n l 0).getD v []=[]:=by
    show (List.replicate n ([]:List Int)).getD v []=[];rw [gdE,List.getElem?_replicate];split<;>rfl
   rw [e];exact List.nodup_nil
 | i + 1,hi=>by
   have ih:=zOK hl hd hv i (by omega);have hm:=zMQ hl hv i (by omega)
   have hlt: ∀ x∈(atF n l i).getD v [],x<(i:Int):=fun x hx=>by
    obtain ⟨j,hj,e,_⟩:=(hm x).1 hx;omega
   obtain ⟨h1,h2,h3⟩:=hl i (by omega);have hdg:=hd i (by omega);unfold dgn at hdg;show ((at3 (atF n l i) (tg l i) i).getD v []).Nodup;unfold at3
   -- at most one of the three is v
   by_cases e1:(tg l i).1.toNat=v
   ·have k2: ¬ (tg l i).2.1.toNat=v:=by omega
    have k3: ¬ (tg l i).2.2.toNat=v:=by omega
    rw [zBd,if_neg (fun h=>k3 h.1),zBd,if_neg (fun h=>k2 h.1)];exact zHy ⟨ih,hlt⟩ fun _ x hx=>by have:=hlt x hx;omega
   ·by_cases e2:(tg l i).2.1.toNat=v
    ·have k3: ¬ (tg l i).2.2.toNat=v:=by omega
     rw [zBd,if_neg (fun h=>k3 h.1)];have e:(atP (atF n l i) (tg l i).1 i).getD v []=(atF n l i).getD v []:=by rw [zBd,if_neg (fun h=>e1 h.1)]
     exact zHy ⟨by rw [e];exact ih,by rw [e];exact hlt⟩ fun _ x hx=>by rw [e] at hx;have:=hlt x hx;omega
    ·have e:(atP (atP (atF n l i) (tg l i).1 i) (tg l i).2.1 i).getD v []=(atF n l i).getD v []:=by rw [zBd,if_neg (fun h=>e2 h.1),zBd,if_neg (fun h=>e1 h.1)]
     exact zHy ⟨by rw [e];exact ih,by rw [e];exact hlt⟩ fun _ x hx=>by rw [e] at hx;have:=hlt x hx;omega
theorem zV2 {s:Int×List P3} (hf:zLh s) (hd: ∀ i,i<s.2.length->¬ dgn (tg s.2 i)) (hu: ∀ v:Nat,(v:Int)<s.1->∃ j,j<s.2.length/\z7 (tg s.2 j) v):zUo s=[]↔∀ v:Nat,(v:Int)<s.1->z5L s.2 v:=by
 constructor
 ·exact fun h v hv Q hQ a h1 h2 h3=>zTw (n:=s.1) (l:=s.2) h (zKZ hf) hv Q hQ h1 h2 h3
 ·intro h;refine List.filterMap_eq_nil_iff.2 fun v hv=> ?_;have hv:=zV.1 hv;unfold piG;rw [if_pos ?_];have hm:=zMQ (n:=s.1.toNat) (l:=s.2) (zKZ hf) hv _ (zI _);refine z6X (zMd s.1.toNat s.2 hv _ (hu v (by omega))) (zOK (zKZ hf) hd hv _ (zI _)) fun Q hQ h0 i hi=> ?_;obtain ⟨j,hj,rfl,hjv⟩:=(hm i).1 hi;have hz:=(hm _).1 (jA (j:=0) (List.length_pos_iff.2 (zMd s.1.toNat s.2 hv _ (hu v (by omega)))));obtain ⟨z,hz1,hz2,hz3⟩:=hz
  rw [hz2] at h0;refine h v (by omega) (fun k=>Q (k:Int)) (fun a b ha hb hav hbv ⟨w,hw,hwa,hwb⟩ hq=> ?_) z hz1 hz3 h0 j hj hjv;exact hQ a ((hm a).2 ⟨a,ha,rfl,hav⟩) b ((hm b).2 ⟨b,hb,rfl,hbv⟩) ⟨w,hw,zPa.2 hwa,zPa.2 hwb⟩ hq
theorem zVP {l:List P3} :dgL l l.length=[]↔∀ i,i<l.length->¬ dgn (tg l i):=by
 constructor
 ·exact fun h i hi=>z1x h hi
 ·intro h;refine List.filterMap_eq_nil_iff.2 fun i hi=> ?_;have:=h i (zV.1 hi);unfold dgn at this;unfold dgG;rw [if_neg ?_];intro e;unfold zM2 at e;simp only [Bool.or_eq_true,beq_iff_eq] at e;exact this e
theorem zWF {s:Int×List P3} :jD s=[]↔zLh s:=by
 obtain ⟨n,l⟩:=s;constructor
 ·intro h;exact zFI (by rw [h];simp)
 ·intro h
  have hb:zGp (n,l)=false:=by
   have h1:0<=n:=h.1;have h2:n<=4096:=h.2.1;have h3:l.length<=8192:=h.2.2.1;unfold zGp;simp only [Bool.or_eq_false_iff,yP];omega
  unfold jD;rw [hb];refine List.filterMap_eq_nil_iff.2 fun i hi=> ?_;unfold z5P;rw [if_pos (h.2.2.2 i (zV.1 hi))]
theorem zXF (s:Int×List P3):allR s=[]↔(jD s=[]/\dgL s.2 s.2.length=[]/\(prS qP 3 s.2 s.2.length).2.2=[]/\(prS zDh 4 s.2 s.2.length).2.2=[]/\zHQ s=[]/\zUo s=[]):=by
 constructor
 ·intro h;have h:=zEi h;exact ⟨h _ (by simp),h _ (by simp),h _ (by simp),h _ (by simp),h _ (by simp),h _ (by simp)⟩
 ·rintro ⟨h1,h2,h3,h4,h5,h6⟩;unfold allR;simp [zDA,h1,h2,h3,h4,h5,h6]
theorem zD4 (s:Int×List P3):(zJ2 s).1=0↔zBC s:=by
 constructor
 ·intro h;obtain ⟨h1,h2,h3,h4,h5,h6⟩:=(zXF s).1 (zLg h);have hf:=zWF.1 h1;have hd:=zVP.1 h2;have hu:=(zR9 hf).1 h5;exact ⟨hf,hd,(zNz hd).1 h3,(zXH hd).1 h4,hu,(zV2 hf hd hu).1 h6⟩
 ·intro h;have:allR s=[]:=(zXF s).2 ⟨zWF.2 h.fit,zVP.2 h.deg,(zNz h.deg).2 h.dif,(zXH h.deg).2 h.mir,(zR9 h.fit).2 h.use,(zV2 h.fit h.deg h.use).2 h.pin⟩;unfold zJ2;rw [this];rfl
end S1
open Go Go.Vm Go.Proofs
namespace S1
theorem zLv {x:yI.T} (g:Good x) {a b:Int} (h:zAO x a b=true):(0<=a/\a<x.1.1)/\(0<=b/\b<x.1.1):=by
 have key: ∀ {a b:Int},0<=qJ x (a,b)->(0<=a/\a<x.1.1)/\(0<=b/\b<x.1.1):=fun {a b} h=>by
  unfold qJ at h;cases e:jS .arr2 x.2.1 (a,b) with
  | none=>rw [e] at h;exact absurd h (by decide)
  | some c =>
    obtain ⟨h1,h2⟩:=g.map _ _ e;have e1:yR x (qY x c)=a:=congrArg Prod.fst h2;have e2:yR x (qV x c)=b:=congrArg Prod.snd h2;have k1:=zBB g.fit (zAD h1).1;have k2:=zBB g.fit (zAD h1).2;rw [e1] at k1;rw [e2] at k2;exact ⟨k1,k2⟩
 unfold zAO at h;rw [Bool.or_eq_true,zP,zP] at h;rcases h with h|h
 ·exact key h
 ·exact (key h).symm
theorem zZg {x:yI.T} {v:Int} (h: ¬ (0<=v/\v<x.1.1)):zDE x v=[]:=by
 have e:yT (some x) v=[]:=zEk fun k=>h ⟨k.1,k.2.1⟩;unfold zDE;rw [e];simp [lkO,zFq]
theorem zHf {s:Int×List P3} {x:yI.T} (h:zGn s=some x):x=zAr s/\Full x/\zBC s:=by
 unfold zGn at h;split at h
 ·rename_i hc;cases h;exact ⟨rfl,zR7 hc,(zD4 s).1 hc⟩
 ·cases h
theorem zAy {s:Int×List P3} (h:zBC s):zGn s=some (zAr s)/\Full (zAr s)/\(zAr s).1=s:=by
 have hc:=(zD4 s).2 h;refine ⟨?_,zR7 hc,rfl⟩;unfold zGn;rw [if_pos hc]
theorem zC6 {x:yI.T} {b:Int} : ∀ n c,∀ y∈jV x b n c,yN x y<0->(jV x b n c).getD ((jV x b n c).length - 1) 0=y
 | 0,c,y,h,_=>by cases h
 | n + 1,c,y,h,ha=>by
   unfold jV at h ⊢
   by_cases h1:yN x c<0
   ·rw [if_pos h1] at h ⊢;rw [zF.1 h];rfl
   ·rw [if_neg h1] at h ⊢
    by_cases h2:yN x c=b
    ·rw [if_pos h2] at h ⊢;rw [zF.1 h];rfl
    ·rw [if_neg h2] at h ⊢;rcases zT.1 h with h|h
     ·subst h;exact absurd ha h1
     ·have ih:=zC6 n _ y h ha;have hl:(jV x b n (yN x c)).length>=1:=List.length_pos_of_mem h;generalize jV x b n (yN x c)=L at *;rw [z8,show L.length+1 - 1=(L.length - 1)+1 by omega,List.getD_cons_succ];exact ih
theorem Full.link_mem {x:yI.T} (g:Full x) {a v:Int} (h0:0<=a) (h1:a<x.1.1):v∈zDE x a↔(∃ c∈yT (some x) a,yR x (qY x c)=v)\/(∃ c∈yT (some x) a,yN x c<0/\yR x (qV x c)=v):=by
 obtain ⟨b,_,eL,hb1,hb2,hb3,hall,_⟩:=g.around h0 h1;have hpos:(yT (some x) a).length>=1:=List.length_pos_of_mem hb3
 have hlast:zFq (yT (some x) a) (yT (some x) a).length=(yT (some x) a).getD ((yT (some x) a).length - 1) 0:=by
  unfold zFq;rw [if_neg (by omega)]
 have hin:(yT (some x) a).getD ((yT (some x) a).length - 1) 0∈yT (some x) a:=jA (by omega);unfold zDE;rw [yC]
 have e1:v∈lkO x (yT (some x) a) (yT (some x) a).length↔∃ c∈yT (some x) a,yR x (qY x c)=v:=by
  unfold lkO;rw [List.take_length,yD]
 rw [e1,hlast];refine or_congr_right ⟨fun h=> ?_,fun ⟨c,hc,ha,hv⟩=> ?_⟩
 ·split at h
  ·rename_i hc;exact ⟨_,hin,hc.2,(zF.1 h).symm⟩
  ·cases h
 ·have hc2:=hc;rw [eL] at hc2;have hl:=zC6 _ _ c hc2 ha;rw [<- eL] at hl;rw [hl,if_pos ⟨(yH.1 (hall c hc).1).1,ha⟩,hv];exact zF.2 rfl
theorem zHg {x:yI.T} (g:Full x) {a v:Int} :zAO x a v=true↔∃ d,j6 x d=true/\(jP x d=(a,v)\/jP x d=(v,a)):=by
 have key: ∀ {a v:Int},0<=qJ x (a,v)↔∃ d,j6 x d=true/\jP x d=(a,v):=fun {a v} =>by
  constructor
  ·intro h;unfold qJ at h;cases e:jS .arr2 x.2.1 (a,v) with
   | none=>rw [e] at h;exact absurd h (by decide)
   | some c=>exact ⟨c,g.map _ _ e⟩
  ·rintro ⟨d,h1,h2⟩;rw [<- h2,g.facing h1];exact (yH.1 h1).1
 unfold zAO;rw [Bool.or_eq_true,zP,zP,key,key];constructor
 ·rintro (⟨d,h1,h2⟩|⟨d,h1,h2⟩)
  ·exact ⟨d,h1,.inl h2⟩
  ·exact ⟨d,h1,.inr h2⟩
 ·rintro ⟨d,h1,(h2|h2)⟩
  ·exact .inl ⟨d,h1,h2⟩
  ·exact .inr ⟨d,h1,h2⟩
theorem Full.link_iff {x:yI.T} (g:Full x) {a v:Int} :v∈zDE x a↔zAO x a v=true:=by
 by_cases ha:0<=a/\a<x.1.1
 case neg =>
  rw [zZg ha];refine ⟨fun h=>(by cases h),fun h=>absurd (zLv g.toGood h).1 ha⟩
 obtain ⟨b,_,eL,hb1,hb2,hb3,hall,haft,hbef,_⟩:=g.around ha.1 ha.2;rw [g.link_mem ha.1 ha.2,zHg g];constructor
 ·rintro (⟨c,hc,hv⟩|⟨c,hc,_,hv⟩)
  ·obtain ⟨k1,k2⟩:=hall c hc;exact ⟨_,(zAD k1).2,.inl (by rw [zMx k1,k2,hv])⟩
  ·obtain ⟨k1,k2⟩:=hall c hc;exact ⟨_,(zAD k1).1,.inr (by rw [zM8 k1,k2,hv])⟩
 ·rintro ⟨d,h1,(h2|h2)⟩
  ·have e1:yR x (qY x d)=a:=congrArg Prod.fst h2;have e2:yR x (qV x d)=v:=congrArg Prod.snd h2;have hc:=g.around_all (zAD h1).1;rw [e1] at hc;exact .inl ⟨_,hc,by rw [(np h1).2.2.1];exact e2⟩
  ·have e1:yR x (qY x d)=v:=congrArg Prod.fst h2;have e2:yR x (qV x d)=a:=congrArg Prod.snd h2;have hc:=g.around_all (zAD h1).2;rw [e2] at hc;have hv:yR x (qV x (qV x d))=v:=by rw [(np h1).2.2.2];exact e1
   by_cases hs:yN x (qV x d)<0
   ·exact .inr ⟨_,hc,hs,hv⟩
   ·have hs:0<=yN x (qV x d):=by omega
    exact .inl ⟨_,haft _ hc hs,by rw [(g.after_v hs).2];exact hv⟩
theorem Full.opp_v {x:yI.T} (g:Full x) {c:Int} (h:0<=zAF x c):j6 x c=true/\j6 x (zAF x c)=true/\yR x (qY x (zAF x c))=yR x (qV x c)/\yR x (qV x (zAF x c))=yR x (qY x c):=by
 obtain ⟨h1,h2,h3⟩:=g.opp h;exact ⟨h1,h2,congrArg Prod.fst h3,congrArg Prod.snd h3⟩
theorem z67 {x:yI.T} {c v:Int} (h1:j6 x c=true) (h:z7 (x.1.2.getD (c / 3).toNat (0,0,0)) v):v=yR x c\/v=yR x (qY x c)\/v=yR x (qV x c):=by
 obtain ⟨a,a1,a2,a3⟩:=zIj (zAs h1).1 h;have i1:=yH.1 h1;have i2:=yH.1 a1
 have:a=c\/a=qY x c\/a=qV x c:=by
  rw [zAf h1,zBQ h1];unfold trn;omega
 rcases this with e|e|e
 ·subst e;exact .inl a3.symm
 ·subst e;exact .inr (.inl a3.symm)
 ·subst e;exact .inr (.inr a3.symm)
end S1
