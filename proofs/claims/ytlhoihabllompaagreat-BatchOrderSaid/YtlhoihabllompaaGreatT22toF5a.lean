/- A part of the proofs of the laws. -/
import Derived.Test.YtlhoihabllompaaGreatVmRngMtoVmSeq
import Derived.Test.YtlhoihabllompaaGreatT0toVmInl
import Derived.Test.YtlhoihabllompaaGreatT12toVmRng
set_option linter.unusedSimpArgs false
set_option linter.unusedVariables false
set_option maxHeartbeats 8000000
set_option maxRecDepth 100000
open Go Go.Vm Go.Proofs
namespace S1
theorem zDA {L r:List Int} {c:Int} {k:Nat} (h:L.drop k=c::r):L.take (k+1)=L.take k++[c]/\L.drop (k+1)=r:=by
 have hk:k<L.length:=by
  rcases Nat.lt_or_ge k L.length with h'|h'
  ·exact h'
  ·rw [List.drop_eq_nil_of_le h'] at h;cases h
 rw [List.drop_eq_getElem_cons hk] at h;injection h with h1 h2
 exact ⟨by rw [yB hk,h1],h2⟩
theorem zSH {L:List Int} {c:Int} {k:Nat} (h:L.drop k=[c]):L.take k++[c]=L:=by
 have:=zDA h;rw [<- this.1];have h2:=jE (k+1) L;rw [this.2,List.append_nil] at h2;exact h2
theorem zQp {L r:List Int} {c:Int} {k:Nat} (h:L.drop k=c::r):(L.take k++[c]) <+: L:=by
 rw [<- (zDA h).1];exact List.take_prefix _ _
theorem zO8 {x:yI.T} {c0:Int} (h0:0<=c0): ∀ n c,0<=c->0<=(zDL x c0 n c).1
 | 0,c,_=>by show (0:Int)<=0;decide
 | n +1,c,hc=>by
   unfold zDL;split
   ·exact hc
   ·split
    ·exact h0
    ·exact zO8 h0 n _ (by omega)
theorem zKL {x:yI.T} {b:Int} : ∀ n c,0<=c->∀ a∈jW x b n c,0<=a
 | 0,c,_,a,h=>by cases h
 | n + 1,c,hc,a,h=>by
   unfold jW at h;split at h
   ·rw [zF] at h;omega
   ·split at h
    ·rw [zF] at h;omega
    ·rcases zT.1 h with e|h
     ·omega
     ·exact zKL n _ (by omega) a h
theorem zKV {x:yI.T} (g:Good x) (v:Int): ∀ a∈yU (some x) v,InK .i64 a:=fun a h=>by
 have h1:=(zGo g v).2 a h
 have h2:0<=a:=by
  have h:a∈(if zBR x v then _ else _:List Int):=h;split at h
  ·rename_i ht
   have hc:0<=yY x v:=by
    simp only [zBR,zC,zP] at ht;exact ht.2.2
   exact zKL _ _ (zO8 hc _ _ hc) a h
  ·cases h
 exact InK.i64.2 (by unfold yP;omega)
theorem zBq {x:yI.T} {b c:Int} {k:Nat} (h:k<=24576):jW x b (30000 - k) c=c::(if yO x c<0 then [] else if yO x c=b then [] else jW x b (30000 - (k+1)) (yO x c)):=by
 rw [show 30000 - k=(30000 - (k+1))+1 by omega];rfl
theorem zEb {x:yI.T} {v:Int} (h1:0<=v) (h2:v<x.1.1) (h3:0<=yY x v):yU (some x) v=jW x (zAP x v).1 30000 (zAP x v).1:=by
 show (if zBR x v then _ else _:List Int)=_;rw [if_pos (by unfold zBR;rw [decide_eq_true h1,decide_eq_true h2,decide_eq_true h3];rfl)]
theorem zEa {x:yI.T} {v:Int} (h: ¬ (0<=v/\v<x.1.1/\0<=yY x v)):yU (some x) v=[]:=by
 show (if zBR x v then _ else _:List Int)=_;rw [if_neg (fun e=>h (by simpa [zBR] using e))]
def z5Y (x:yI.T) (b:Int):Spec Nat where
 inv k:=zT3 (yO x) b k/\(jW x b 30000 b).drop k=jW x b (30000 - k) (iter (yO x) b k)
 live k:=[(6,.s (.int .i64 (iter (yO x) b k)))]
 keep:=[0,1,2,4]
 heap _:=[]
 keepH:=[]
 mu k:=30000 - k
theorem zSm (x:yI.T) (v:Int) (g:Good x):zQ0 ⟨tyL,[(88,zIS),(89,zIb),(130,zGS)],[]⟩ Tryz.f129 [⟨.pt yI,some x⟩,⟨y8,v⟩] (yU (some x) v):=by
 repeat' (conv=>whnf
          first|done|refine qN ?_|apply qH|refine qG fun _=> ?_|apply qB|apply qa|apply qo|refine qe (fun _=> ?_) (fun _=> ?_)|refine qn (fun _=> ?_) (fun _=> ?_)|refine qd (fun _=> ?_) (fun _=> ?_)|apply qt|refine qi (fun _=> ?_) (fun _=> ?_)|refine (fun (l:Nat)=> ?_)|refine zB Nat (zB (z5Y x (zAP x v).1) (zB (fun k=>(jW x (zAP x v).1 30000 (zAP x v).1).take k) (zA (zB 0 (zA (yJ.out ?_) (zA (zAp.out ?_) (zA ?_ (zA ?_ rfl))))) (fun k hk=> ?_))))|((with_reducible show (∃ y,And (Spec.inv (z5Y _ _) y) _));refine zB (k+1) (zA (yJ.out ?_) (zA (zAp.out ?_) (zA (zA ?_ (zA ?_ rfl)) (yJ.out ?_)))))|refine zA (yJ.out (p:=(_++[_]) <+: _) ?_) ?_|refine zAp.out ?_|refine zA rfl ?_|apply qE|apply qO|exact zO|apply qq|apply qs|refine qK (by kernel_rfl) ?_|apply qr)
 all_goals try first|refine qz ?_|apply qz5
 all_goals try simp only [z6,zS,yE,zZ,qn1,z7,qn2,zX,ETy.dflt,qn3,qn4,Int.reduceToNat,Int.reduceAdd,Int.reduceSub,Int.reduceNeg,Nat.reduceAdd,zD,z5Y] at *
 ·exact qh ⟨fun j a b=>by omega,rfl⟩
 ·exact zAp.intro rfl
 ·rename_i h1 h2 h3;rw [zEb (v:=v) h1 h2 h3];have h24:=zAz g hk.1;have:=hk.2;rw [zBq h24] at this;exact qh (zQp this)
 ·rename_i h1 h2 h3;exact qh ⟨g,zZP g (zJT g (zEX g v) _ _ (zEX g v)) k⟩
 ·rename_i h1 h2 h3 h4;rw [zEb (v:=v) h1 h2 h3];have h24:=zAz g hk.1;have:=hk.2;rw [zBq h24,if_pos h4] at this;exact zAp.intro (zSH this)
 ·rename_i h1 h2 h3 h4 h5;replace h5:yO x (iter (yO x) (zAP x v).1 k)=(zAP x v).1:=h5;rw [zEb (v:=v) h1 h2 h3];have h24:=zAz g hk.1;have:=hk.2;rw [zBq h24,if_neg h4,if_pos h5] at this;exact zAp.intro (zSH this)
 ·rename_i h1 h2 h3 h4 h5;replace h5: ¬ yO x (iter (yO x) (zAP x v).1 k)=(zAP x v).1:=h5;have h24:=zAz g hk.1;have:=hk.2;rw [zBq h24,if_neg h4,if_neg h5] at this;exact qh ⟨hk.1.succ h4 h5,(zDA this).2⟩
 ·rename_i h1 h2 h3 h4 h5;have h24:=zAz g hk.1;have:=hk.2;rw [zBq h24] at this;exact zAp.intro (zDA this).1
 ·rename_i h1 h2 h3 h4 h5;have h24:=zAz g hk.1;refine qh ?_;omega
 ·rename_i h1 h2 h3;exact zAp.intro (zEa (fun h=>h3 h.2.2)).symm
 ·rename_i h1 h2;exact zAp.intro (zEa (fun h=>h2 h.2.1)).symm
 ·rename_i h1;exact zAp.intro (zEa (fun h=>h1 h.1)).symm
theorem zP0 (v:Int):zQ0 ⟨tyL,[(88,zIS),(89,zIb),(130,zGS)],[]⟩ Tryz.f129 [⟨.pt yI,none⟩,⟨y8,v⟩] (yU none v):=by
 repeat' (conv=>whnf
          first|done|refine qN ?_|apply qH|refine qG fun _=> ?_|apply qB|apply qa|apply qo|refine qe (fun _=> ?_) (fun _=> ?_)|refine qn (fun _=> ?_) (fun _=> ?_)|refine qd (fun _=> ?_) (fun _=> ?_)|apply qt|refine qi (fun _=> ?_) (fun _=> ?_)|refine (fun (l:Nat)=> ?_)|refine zAp.out ?_|refine zA rfl ?_|apply qE|apply qO|exact zO|apply qq|apply qs|refine qK (by kernel_rfl) ?_|apply qr)
 all_goals try first|refine qz ?_|apply qz5
 all_goals try simp only [z6,zS,yE,zZ,qn1,z7,qn2,zX,ETy.dflt,qn3,qn4,Int.reduceToNat,Int.reduceAdd,Int.reduceSub,Int.reduceNeg,Nat.reduceAdd,zD] at *
 exact zAp.intro rfl
theorem z9Z:zDb Tryz.prog z8P:=fun f ps L h=>by
 obtain ⟨rfl,o,v,rfl,hg,rfl⟩:=h;cases o with
 | none=>exact seq_ok (yN (fn:=[(88,zIS),(89,zIb),(130,zGS)]) (fr:=[]) ⟨zMG,zLh,zHw,trivial⟩ trivial) Tryz.func129 rfl (by kernel_rfl) rfl (by kernel_rfl) (zU rfl) (fun a h=>by cases h) fun _=>zP0 v
 | some x=>exact seq_ok (yN (fn:=[(88,zIS),(89,zIb),(130,zGS)]) (fr:=[]) ⟨zMG,zLh,zHw,trivial⟩ trivial) Tryz.func129 rfl (by kernel_rfl) rfl (by kernel_rfl) (zU rfl) (zKV (hg x rfl) v) fun _=>zSm x v (hg x rfl)
end S1
open Go Go.Vm Go.Proofs
namespace S1
theorem zV9: ∀ (ks l:List Int),ks.Nodup->(∀ x∈ks,x∈l)->l.length<=ks.length->∀ x∈l,x∈ks
 | [],l,_,_,hl,x,hx=>by
   have:l=[]:=List.length_eq_zero_iff.1 (Nat.le_zero.1 hl);subst this;cases hx
 | a::r,l,hd,hs,hl,x,hx=>by
   have hd:=List.nodup_cons.1 hd;have ha:=hs a (zY ..);have hle:(l.erase a).length=l.length - 1:=List.length_erase_of_mem ha;have ih:=zV9 r (l.erase a) hd.2 (fun y hy=>(List.mem_erase_of_ne (fun e=>hd.1 (by rw [<- e];exact hy))).2 (hs y (zQ _ hy))) (by rw [hle];simp only [yA] at hl;omega)
   by_cases e:x=a
   ·rw [e];exact zY ..
   ·exact zQ _ (ih x ((List.mem_erase_of_ne e).2 hx))
theorem zYq (t:P3) {k:Nat} (h:k<3):(trl t).getD k 0∈trl t:=jB (by simpa [trl] using h)
def z40 (l:List P3) (v:Int) (tris:List Int) (m:zC5):Prop:= ∀ w,∀ x∈zAy m w,x∈tris/\w∈trl (tri l x)/\w≠v
theorem z6G {l:List P3} {v i:Int} {tris:List Int} {m:zC5} {k:Nat} (hi:i∈tris) (hk:k<3) (h:z40 l v tris m):z40 l v tris (enW v i (tri l i) m k):=by
 intro w x hx;unfold enW at hx;split at hx
 ·exact h w x hx
 ·rename_i hn;rw [zEY] at hx;split at hx
  ·rename_i e;subst e;rw [yD,zF] at hx;rcases hx with hx|hx
   ·exact h _ x hx
   ·rw [hx];exact ⟨hi,zYq _ hk,hn⟩
  ·exact h w x hx
theorem z2g (l:List P3) (v:Int) (tris:List Int):z40 l v tris (enA l v tris tris.length) :=
 qX (n:=tris.length) (fun _ (m:zC5)=>z40 l v tris m) (fun w x hx=>by simp [zAy,jS] at hx) (fun j m hj h =>
  qX (n:=3) (fun _ (m:zC5)=>z40 l v tris m) h (fun k m hk h=>z6G (jB hj) hk h) 3 (zI _)) _ (zI _)
def zE3 (m:ReM):List Int:=m.map Prod.fst
theorem zIm (k:Int): ∀ m:ReM,(∀ x,x∈zE3 (zAB (.int .i64) m k true)->x=k\/x∈zE3 m)/\((zE3 m).Nodup->(zE3 (zAB (.int .i64) m k true)).Nodup)
 | []=>⟨fun x h=>by simpa [zE3,zAB] using h,fun _=>by simp [zE3,zAB]⟩
 | (a, b)::r=>by
   obtain ⟨h1,h2⟩:=zIm k r;simp only [zAB];split
   ·rename_i e;refine ⟨fun x h=> ?_,fun h=> ?_⟩
    ·exact .inr h
    ·exact h
   ·rename_i e _;refine ⟨fun x h=> ?_,fun h=> ?_⟩
    ·rcases zT.1 h with h|h
     ·exact .inr (by rw [h];exact zY ..)
     ·rcases h1 x h with h|h
      ·exact .inl h
      ·exact .inr (zQ _ h)
    ·have h:=List.nodup_cons.1 h;refine List.nodup_cons.2 ⟨fun hm=> ?_,h2 h.2⟩;rcases h1 a hm with hm|hm
     ·exact e hm
     ·exact h.1 hm
structure z2R (tris:List Int) (Q:Int->Prop) (S:TgS):Prop where
 q: ∀ x∈S.2.1,x∈tris/\Q x
 k: ∀ x∈zE3 S.2.2,x∈tris/\Q x
 nd:(zE3 S.2.2).Nodup
theorem z6I {tris av:List Int} {Q:Int->Prop} {S:TgS} {j:Nat} (h:z2R tris Q S) (ha:av.getD j 0∈tris/\Q (av.getD j 0)):z2R tris Q (vis av S j):=by
 unfold vis;split
 ·exact h
 ·refine ⟨fun x hx=> ?_,fun x hx=> ?_,(zIm _ _).2 h.nd⟩
  ·rcases yD.1 hx with hx|hx
   ·exact h.q x (List.mem_of_mem_drop hx)
   ·rw [zF.1 hx];exact ha
  ·rcases (zIm _ _).1 x hx with hx|hx
   ·rw [hx];exact ha
   ·exact h.k x hx
theorem z7Y {l:List P3} {v i:Int} {tris:List Int} {Q:Int->Prop} {E:zC5} (hE:z40 l v tris E) (hc: ∀ i∈tris,∀ j∈tris,(∃ w,w≠v/\w∈trl (tri l i)/\w∈trl (tri l j))->Q i->Q j)
 (hi:i∈tris/\Q i) {S:TgS} (h:z2R tris Q S):z2R tris Q (qA (tgW E v (tri l i)) S 3) :=
 qX (n:=3) (fun _ (S:TgS)=>z2R tris Q S) h (fun k S hk h=>by
  unfold tgW;split
  ·exact h
  ·rename_i hn
   exact qX (n:=(zAy E ((trl (tri l i)).getD k 0)).length) (fun _ (S:TgS)=>z2R tris Q S) h (fun j S hj h=>by
    have:=hE _ _ (jB hj)
    exact z6I h ⟨this.1,hc i hi.1 _ this.1 ⟨_,this.2.2,zYq _ hk,this.2.1⟩ hi.2⟩) _ (zI _)) 3 (zI _)
theorem z2q {l:List P3} {v x0:Int} {tris:List Int} {Q:Int->Prop} {E:zC5} (hE:z40 l v tris E) (hc: ∀ i∈tris,∀ j∈tris,(∃ w,w≠v/\w∈trl (tri l i)/\w∈trl (tri l j))->Q i->Q j)
 (h0:x0∈tris/\Q x0) (r:Nat):z2R tris Q (tgS E l v x0 r) :=
 qX (n:=r) (fun _ (S:TgS)=>z2R tris Q S) ⟨fun x hx=>by rw [zF.1 hx];exact h0,fun x hx=>by rw [zF.1 hx];exact h0,(by show [x0].Nodup;exact List.nodup_cons.2 ⟨by simp,List.nodup_nil⟩)⟩ (fun j S _ h=>by
  unfold tgR;split
  ·rename_i hs;exact z7Y hE hc (h.q _ (jB hs)) (S:=(S.1+1,S.2.1,S.2.2)) ⟨h.q,h.k,h.nd⟩
  ·exact h) r (zI _)
theorem z3N {l:List P3} {v:Int} {tris:List Int} (ht:tris≠[]) (h:zT2 l v tris=true) (Q:Int->Prop) (h0:Q (tris.getD 0 0))
 (hc: ∀ i∈tris,∀ j∈tris,(∃ w,w≠v/\w∈trl (tri l i)/\w∈trl (tri l j))->Q i->Q j): ∀ i∈tris,Q i:=by
 have hm:tris.getD 0 0∈tris:=jB (List.length_pos_iff.2 ht);have k:=z2q (x0:=tris.getD 0 0) (z2g l v tris) hc ⟨hm,h0⟩ (2*tris.length+2);unfold zT2 at h;have h:=eq_of_beq h;intro i hi;refine (k.k i (zV9 _ tris k.nd (fun x hx=>(k.k x hx).1) ?_ i hi)).2;unfold zE3;rw [yV];omega
end S1
open Go Go.Vm Go.Proofs
namespace S1
theorem zPk {s:List (List Int)} {w:Int} {j v:Nat} {x:Int} (hw:0<=w) (hv:v<s.length):x∈(atP s w j).getD v []↔x∈s.getD v []\/(x=j/\w=v):=by
 rw [zBd];split
 ·rename_i h;rw [yD,zF];have:w=v:=by omega
  simp [this]
 ·rename_i h;have: ¬ w=v:=fun e=>h ⟨by omega,hv⟩;simp [this]
theorem zLO {n:Nat} {l:List P3} (hl: ∀ j,j<l.length->0<=(l.getD j (0,0,0)).1/\0<=(l.getD j (0,0,0)).2.1/\0<=(l.getD j (0,0,0)).2.2) {v:Nat} (hv:v<n) :
 ∀ i,i<=l.length->∀ x:Int,x∈(atF n l i).getD v []↔∃ j:Nat,j<i/\x=j/\z8 (l.getD j (0,0,0)) v
 | 0,_,x=>by
   have e:(atF n l 0).getD v []=[]:=by
    show (List.replicate n ([]:List Int)).getD v []=[];rw [gdE,List.getElem?_replicate];split<;>rfl
   rw [e];exact ⟨fun h=>(by cases h),fun ⟨j,h,_⟩=>(by omega)⟩
 | i + 1,hi,x=>by
   have ih:=zLO hl hv i (by omega) x;have hlen:(atF n l i).length=n:=(zSL n l i).1;obtain ⟨h1,h2,h3⟩:=hl i (by omega);show x∈(at3 (atF n l i) (l.getD i (0,0,0)) i).getD v []↔_;unfold at3;rw [zPk h3 (by rw [zF8,zF8,hlen];exact hv),zPk h2 (by rw [zF8,hlen];exact hv),zPk h1 (by rw [hlen];exact hv),ih];constructor
   ·rintro (((⟨j,a,b,c⟩|⟨b,c⟩)|⟨b,c⟩)|⟨b,c⟩)
    ·exact ⟨j,by omega,b,c⟩
    ·exact ⟨i,by omega,b,.inl c⟩
    ·exact ⟨i,by omega,b,.inr (.inl c)⟩
    ·exact ⟨i,by omega,b,.inr (.inr c)⟩
   ·rintro ⟨j,a,b,c⟩
    by_cases e:j=i
    ·subst e;rcases c with c|c|c
     ·exact .inl (.inl (.inr ⟨b,c⟩))
     ·exact .inl (.inr ⟨b,c⟩)
     ·exact .inr ⟨b,c⟩
    ·exact .inl (.inl (.inl ⟨j,by omega,b,c⟩))
theorem zPs {t:P3} {v:Int} :v∈trl t↔z8 t v:=by
 simp only [trl,z8,zT,List.not_mem_nil,or_false];constructor
 ·rintro (h|h|h)
  ·exact .inl h.symm
  ·exact .inr (.inl h.symm)
  ·exact .inr (.inr h.symm)
 ·rintro (h|h|h)
  ·exact .inl h.symm
  ·exact .inr (.inl h.symm)
  ·exact .inr (.inr h.symm)
theorem zXX {n:Int} {l:List P3} (hp:zXw (n,l)=[]) (hl: ∀ j,j<l.length->0<=(l.getD j (0,0,0)).1/\0<=(l.getD j (0,0,0)).2.1/\0<=(l.getD j (0,0,0)).2.2) {v:Nat} (hv:(v:Int)<n) (Q:Nat->Prop)
 (hc: ∀ i j:Nat,i<l.length->j<l.length->z8 (l.getD i (0,0,0)) v->z8 (l.getD j (0,0,0)) v->(∃ w:Int,w≠v/\z8 (l.getD i (0,0,0)) w/\z8 (l.getD j (0,0,0)) w)->Q i->Q j)
 {a:Nat} (ha:a<l.length) (hva:z8 (l.getD a (0,0,0)) v) (hQ:Q a): ∀ i,i<l.length->z8 (l.getD i (0,0,0)) v->Q i:=by
 have hvn:v<n.toNat:=by omega
 have hm:=zLO (n:=n.toNat) hl hvn l.length (zI _)
 have htog:zT2 l v ((atF n.toNat l l.length).getD v [])=true:=by
  have:=List.filterMap_eq_nil_iff.1 hp v (zV.2 hvn);unfold piG at this;split at this
  ·assumption
  ·cases this
 have hne:(atF n.toNat l l.length).getD v []≠[]:=zOL n.toNat l hvn l.length ⟨a,ha,hva⟩;have tri_nat: ∀ j:Nat,tri l (j:Int)=l.getD j (0,0,0):=fun j=>rfl
 have key: ∀ R:Nat->Prop,(∀ i j:Nat,i<l.length->j<l.length->z8 (l.getD i (0,0,0)) v->z8 (l.getD j (0,0,0)) v->(∃ w:Int,w≠v/\z8 (l.getD i (0,0,0)) w/\z8 (l.getD j (0,0,0)) w)->R i->R j)->
  (∀ x,((atF n.toNat l l.length).getD v []).getD 0 0=((x:Nat):Int)->R x)->∀ i,i<l.length->z8 (l.getD i (0,0,0)) v->R i:=fun R hR h0 i hi hvi=>by
  have:=z3N hne htog (fun y=> ∀ j:Nat,y=j->R j) h0 (fun y hy z hz ⟨w,h1,h2,h3⟩ hQy j e=>by
   obtain ⟨a,ha1,ha2,ha3⟩:=(hm y).1 hy;obtain ⟨b,hb1,hb2,hb3⟩:=(hm z).1 hz;have:b=j:=by omega
   subst this;subst ha2;subst hb2;rw [tri_nat,zPs] at h2 h3
   exact hR a b ha1 hb1 ha3 hb3 ⟨w,h1,h2,h3⟩ (hQy a rfl)) i ((hm i).2 ⟨i,hi,rfl,hvi⟩)
  exact this i rfl
 have hz:=(hm _).1 (jB (j:=0) (List.length_pos_iff.2 hne));obtain ⟨z,hz1,hz2,hz3⟩:=hz
 by_cases hQz:Q z
 ·exact key Q hc fun x e=>by
   have:x=z:=by omega
   rw [this];exact hQz
 ·have:=key (fun i=> ¬ Q i) (fun i j hi hj h1 h2 ⟨w,h3,h4,h5⟩ hn hq=>hn (hc j i hj hi h2 h1 ⟨w,h3,h5,h4⟩ hq)) (fun x e=>by
   have:x=z:=by omega
   rw [this];exact hQz) a ha hva
  exact absurd hQ this
end S1
open Go Go.Vm Go.Proofs
namespace S1
theorem zSS (x:Int×List P3): ∀ i,i<=3*x.2.length->∀ c:Int,3*(x.2.length:Int) - i<=c->c<3*(x.2.length:Int)->∃ d,jS .arr2 (zHA x i).1 (jR (x,[],[]) c)=some d
 | 0,_,c,h1,h2=>by omega
 | i +1,hi,c,h1,h2=>by
   show ∃ d,jS .arr2 (zAB .arr2 (zHA x i).1 (jR (x,[],[]) (3*x.2.length - 1 - i)) (3*x.2.length - 1 - i)) _=some d
   by_cases e:jR (x,[],[]) (3*x.2.length - 1 - i)=jR (x,[],[]) c
   ·rw [e,zAT];exact ⟨_,rfl⟩
   ·rw [zA4 _ e];refine zSS x i (by omega) c ?_ h2;have:c≠3*(x.2.length:Int) - 1 - i:=fun k=>e (by rw [k]);omega
theorem zXt (x:Int×List P3) (hx: ∀ c,0<=yS (x,[],[]) c\/¬ (0<=c/\c<3*(x.2.length:Int))) {v:Nat} (hv:v<x.1.toNat): ∀ i,i<=3*x.2.length->(∃ c:Int,3*(x.2.length:Int) - i<=c/\c<3*(x.2.length:Int)/\yS (x,[],[]) c=v)->
 0<=(zHA x i).2.getD v 0/\(zHA x i).2.getD v 0<3*(x.2.length:Int)/\yS (x,[],[]) ((zHA x i).2.getD v 0)=v
 | 0,_,⟨c,h1,h2,_⟩=>by omega
 | i + 1,hi,⟨c,h1,h2,h3⟩=>by
   show 0<=((zHA x i).2.set (yS (x,[],[]) (3*x.2.length - 1 - i)).toNat (3*x.2.length - 1 - i)).getD v 0/\((zHA x i).2.set (yS (x,[],[]) (3*x.2.length - 1 - i)).toNat (3*x.2.length - 1 - i)).getD v 0<_/\yS (x,[],[]) (((zHA x i).2.set (yS (x,[],[]) (3*x.2.length - 1 - i)).toNat (3*x.2.length - 1 - i)).getD v 0)=v;rw [gdE,List.getElem?_set]
   by_cases e:(yS (x,[],[]) (3*x.2.length - 1 - i)).toNat=v
   ·rw [if_pos e,if_pos (by rw [zGZ];omega)];have:=hx (3*x.2.length - 1 - i);refine ⟨?_,?_,?_⟩
    ·show 0<=3*(x.2.length:Int) - 1 - i;omega
    ·show 3*(x.2.length:Int) - 1 - i<_;omega
    ·show yS (x,[],[]) (3*x.2.length - 1 - i)=v;rcases this with h|h<;>omega
   ·rw [if_neg e,<- gdE];refine zXt x hx hv i (by omega) ⟨c,?_,h2,h3⟩;have:c≠3*(x.2.length:Int) - 1 - i:=fun k=>e (by rw [<- k,h3];rfl);omega
theorem zYd {s:List Bool} {t:P3} {v:Nat} (h:(zNQ s t).getD v false=true):s.getD v false=true\/t.1.toNat=v\/t.2.1.toNat=v\/t.2.2.toNat=v:=by
 unfold zNQ at h
 by_cases h1:t.1.toNat=v
 ·exact .inr (.inl h1)
 by_cases h2:t.2.1.toNat=v
 ·exact .inr (.inr (.inl h2))
 by_cases h3:t.2.2.toNat=v
 ·exact .inr (.inr (.inr h3))
 simp only [gdE,List.getElem?_set,h1,h2,h3,if_false] at h;rw [gdE];exact .inl h
theorem zLD {n:Nat} {l:List P3} {v:Nat} : ∀ i,(zC8 n l i).getD v false=true->∃ j,j<i/\((l.getD j (0,0,0)).1.toNat=v\/(l.getD j (0,0,0)).2.1.toNat=v\/(l.getD j (0,0,0)).2.2.toNat=v)
 | 0,h=>by
   have h:(List.replicate n false).getD v false=true:=h;rw [gdE,List.getElem?_replicate] at h;split at h<;>cases h
 | i +1,h=>by
   rcases zYd (s:=zC8 n l i) h with h|h
   ·obtain ⟨j,a,b⟩:=zLD i h;exact ⟨j,by omega,b⟩
   ·exact ⟨i,by omega,h⟩
theorem zK4 {s:Int×List P3} (h:zMc s): ∀ j,j<s.2.length->0<=(s.2.getD j (0,0,0)).1/\0<=(s.2.getD j (0,0,0)).2.1/\0<=(s.2.getD j (0,0,0)).2.2:=fun j hj=>by
 have:=zAH (h.2.2.2 j hj);omega
structure Full (x:yI.T):Prop extends Good x where
 tot: ∀ c,j6 x c=true->jS .arr2 x.2.1 (jR x c)=some c
 vtx: ∀ v:Int,0<=v->v<x.1.1->j6 x (yY x v)=true/\yS x (yY x v)=v
 pin: ∀ v:Nat,(v:Int)<x.1.1->∀ Q:Nat->Prop,
  (∀ i j:Nat,i<x.1.2.length->j<x.1.2.length->z8 (x.1.2.getD i (0,0,0)) v->z8 (x.1.2.getD j (0,0,0)) v->(∃ w:Int,w≠v/\z8 (x.1.2.getD i (0,0,0)) w/\z8 (x.1.2.getD j (0,0,0)) w)->Q i->Q j)->
  ∀ a,a<x.1.2.length->z8 (x.1.2.getD a (0,0,0)) v->Q a->∀ i,i<x.1.2.length->z8 (x.1.2.getD i (0,0,0)) v->Q i
theorem zJ7 {x:yI.T} {j:Nat} {v:Int} (hj:j<x.1.2.length) (h:z8 (x.1.2.getD j (0,0,0)) v): ∃ c,j6 x c=true/\(c / 3).toNat=j/\yS x c=v:=by
 have key: ∀ k:Int,0<=k->k<3->p3 (x.1.2.getD j (0,0,0)) k=v->∃ c,j6 x c=true/\(c / 3).toNat=j/\yS x c=v:=fun k h1 h2 e=>by
  have hc:0<=3*(j:Int)+k/\3*(j:Int)+k<3*(x.1.2.length:Int):=by omega
  refine ⟨3*j+k,yH.2 hc,by omega,?_⟩;rw [zDY hc.1 hc.2,show ((3*(j:Int)+k) / 3).toNat=j by omega,show (3*(j:Int)+k) % 3=k by omega];exact e
 rcases h with h|h|h
 ·exact key 0 (by omega) (by omega) h
 ·exact key 1 (by omega) (by omega) h
 ·exact key 2 (by omega) (by omega) h
theorem zAw {x:yI.T} {c:Int} (h:j6 x c=true):(c / 3).toNat<x.1.2.length/\z8 (x.1.2.getD (c / 3).toNat (0,0,0)) (yS x c):=by
 have hc:=yH.1 h;refine ⟨by omega,?_⟩;rw [zDY hc.1 hc.2];have:c % 3=0\/c % 3=1\/c % 3=2:=by omega
 rcases this with e|e|e<;>rw [e]
 ·exact .inl rfl
 ·exact .inr (.inl rfl)
 ·exact .inr (.inr rfl)
theorem zSF {s:Int×List P3} (h:(zJr s).1=0):Full (zAa s):=by
 have hc:=zX8 h;have g:=zZN hc;have hw:=zEs (zM5 h);refine {g with tot:=fun c hc=> ?_,vtx:=fun v h1 h2=> ?_,pin:=fun v hv Q hQ a ha1 ha2 ha3=> ?_}
 ·have i0:=yH.1 hc;have i0:0<=c/\c<3*(s.2.length:Int):=i0;obtain ⟨d,hd⟩:=zSS s _ (zI _) c (by omega) i0.2;have hd:jS .arr2 (zAa s).2.1 (jR (zAa s) c)=some d:=hd;obtain ⟨k1,k2⟩:=g.map _ _ hd;rw [hd,g.uniq _ _ k1 hc k2]
 ·have hl:zH3 s=[]:=hw _ (by simp);have h2:v<s.1:=h2;have hv:v.toNat<s.1.toNat:=by omega
  have:=List.filterMap_eq_nil_iff.1 hl v.toNat (zV.2 hv);unfold loG at this;split at this
  case isFalse=>cases this
  rename_i ht;obtain ⟨j,hj,e⟩:=zLD _ ht;have nn:=zK4 hc.fit j hj
  obtain ⟨c,c1,c2,c3⟩:=zJ7 (x:=zAa s) (v:=v) hj (by
   show (s.2.getD j (0,0,0)).1=v\/(s.2.getD j (0,0,0)).2.1=v\/(s.2.getD j (0,0,0)).2.2=v
   omega)
  have c1:=yH.1 c1;have c1:0<=c/\c<3*(s.2.length:Int):=c1
  have hat:=zXt s (fun c=>by
   by_cases h:0<=c/\c<3*(s.2.length:Int)
   ·exact .inl (zBA (x:=(s,[],[])) hc.fit (yH.2 h)).1
   ·exact .inr h) hv _ (zI _) ⟨c,by omega,c1.2,by have:yS (s,[],[]) c=v:=c3;omega⟩
  have e:yY (zAa s) v=(zHA s (3*s.2.length)).2.getD v.toNat 0:=by
   unfold yY;rw [if_pos (by show 0<=v/\v<((zHA s _).2.length:Int);rw [zGZ];omega)];rfl
  rw [e];refine ⟨yH.2 ⟨hat.1,hat.2.1⟩,?_⟩;have:=hat.2.2;show yS (s,[],[]) _=v;omega
 ·exact zXX (n:=s.1) (l:=s.2) (hw (zXw s) (by simp)) (zK4 hc.fit) hv Q hQ ha1 ha2 ha3
section
variable {x:yI.T} {c d:Int}
theorem np (h:j6 x c=true):qY x (qV x c)=c/\qV x (qY x c)=c/\qY x (qY x c)=qV x c/\qV x (qV x c)=qY x c:=by
 have h1:=zAF h;rw [zAg h1.1,zAg h1.2,zBP h1.1,zBP h1.2,zAg h,zBP h];unfold trn;omega
theorem zNf (h:j6 x c=true):jR x (qY x c)=(yS x (qV x c),yS x c):=by
 unfold jR;rw [(np h).2.2.1,(np h).2.1]
theorem zOA (h:j6 x c=true):jR x (qV x c)=(yS x c,yS x (qY x c)):=by
 unfold jR;rw [(np h).1,(np h).2.2.2]
theorem Good.ne (g:Good x) (h:j6 x c=true):yS x c≠yS x (qY x c)/\yS x c≠yS x (qV x c)/\yS x (qY x c)≠yS x (qV x c):=by
 have h1:=g.ends _ (zAF h).1;have h2:=g.ends _ (zAF h).2;have h3:=g.ends _ h;rw [zNf h] at h1;rw [zOA h] at h2;exact ⟨h2,fun e=>h1 e.symm,h3⟩
theorem Good.same (g:Good x) (hc:j6 x c=true) (hd:j6 x d=true) (h1:yS x c=yS x d) (h2:yS x (qY x c)=yS x (qY x d)):c=d:=by
 have:=g.uniq _ _ (zAF hc).2 (zAF hd).2 (by rw [zOA hc,zOA hd,h1,h2]);rw [<- (np hc).1,<- (np hd).1,this]
theorem Good.sameP (g:Good x) (hc:j6 x c=true) (hd:j6 x d=true) (h1:yS x c=yS x d) (h2:yS x (qV x c)=yS x (qV x d)):c=d:=by
 have:=g.uniq _ _ (zAF hc).1 (zAF hd).1 (by rw [zNf hc,zNf hd,h1,h2]);rw [<- (np hc).2.1,<- (np hd).2.1,this]
theorem Good.after_v (g:Good x) (h:0<=yO x c):yS x (yO x c)=yS x c/\yS x (qY x (yO x c))=yS x (qV x c):=by
 obtain ⟨h1,h2,h3⟩:=g.after_has h;obtain ⟨k1,k2,k3⟩:=g.opp h3;rw [zNf h1] at k3;have e:yO x c=qY x (zAI x (qY x c)):=by unfold yO;rw [if_neg (by omega)]
 rw [e,(np k2).2.2.1];exact ⟨congrArg Prod.fst k3,congrArg Prod.snd k3⟩
theorem Good.before_v (g:Good x) (h:0<=yK x c):yS x (yK x c)=yS x c/\yS x (qV x (yK x c))=yS x (qY x c):=by
 obtain ⟨h1,h2,h3⟩:=g.before_has h;obtain ⟨k1,k2,k3⟩:=g.opp h3;rw [zOA h1] at k3;have e:yK x c=qV x (zAI x (qV x c)):=by unfold yK;rw [if_neg (by omega)]
 rw [e,(np k2).2.2.2];exact ⟨congrArg Prod.snd k3,congrArg Prod.fst k3⟩
theorem Full.facing (g:Full x) (h:j6 x d=true):qJ x (jR x d)=d:=by
 unfold qJ;rw [g.tot d h];rfl
theorem Full.opp_is (g:Full x) (hd:j6 x d=true) (h:jR x d=((jR x c).2,(jR x c).1)):zAI x c=d:=by
 unfold zAI;rw [<- h];exact g.facing hd
theorem Full.after_is (g:Full x) (hc:j6 x c=true) (hd:j6 x d=true) (h1:yS x d=yS x c) (h2:yS x (qY x d)=yS x (qV x c)):yO x c=d:=by
 have e:zAI x (qY x c)=qV x d:=g.opp_is (zAF hd).2 (by rw [zOA hd,zNf hc,h1,h2]);have:=yH.1 (zAF hd).2;unfold yO;rw [if_neg (by rw [e];omega),e,(np hd).1]
theorem Full.before_is (g:Full x) (hc:j6 x c=true) (hd:j6 x d=true) (h1:yS x d=yS x c) (h2:yS x (qV x d)=yS x (qY x c)):yK x c=d:=by
 have e:zAI x (qV x c)=qY x d:=g.opp_is (zAF hd).1 (by rw [zNf hd,zOA hc,h1,h2]);have:=yH.1 (zAF hd).1;unfold yK;rw [if_neg (by rw [e];omega),e,(np hd).2.1]
theorem Full.before_after (g:Full x) (h:0<=yO x c):yK x (yO x c)=c:=by
 obtain ⟨h1,h2,_⟩:=g.after_has h;have:=g.after_v h;exact g.before_is h2 h1 this.1.symm this.2.symm
theorem Full.after_before (g:Full x) (h:0<=yK x c):yO x (yK x c)=c:=by
 obtain ⟨h1,h2,_⟩:=g.before_has h;have:=g.before_v h;exact g.after_is h2 h1 this.1.symm this.2.symm
end
theorem zJ4 {x:yI.T} (g:Good x) {b:Int} : ∀ n k,k+n=30000->zT3 (yO x) b k->∀ y∈jW x b n (iter (yO x) b k),yO x y<0\/yO x y=b\/yO x y∈jW x b n (iter (yO x) b k)
 | 0,k,e,h,y,hy=>by have:=zAz g h;omega
 | n + 1,k,e,h,y,hy=>by
   unfold jW at hy ⊢
   by_cases h1:yO x (iter (yO x) b k)<0
   ·rw [if_pos h1] at hy;rw [zF.1 hy];exact .inl h1
   ·rw [if_neg h1] at hy ⊢
    by_cases h2:yO x (iter (yO x) b k)=b
    ·rw [if_pos h2] at hy;rw [zF.1 hy];exact .inr (.inl h2)
    ·rw [if_neg h2] at hy ⊢
     have hn:iter (yO x) b (k+1)∈jW x b n (iter (yO x) b (k+1)):=by
      obtain ⟨m,rfl⟩: ∃ m,n=m+1:=⟨n - 1,by have:=zAz g (h.succ h1 h2);omega⟩;unfold jW;exact zY ..
     rcases zT.1 hy with hy|hy
     ·rw [hy];exact .inr (.inr (zQ _ hn))
     ·rcases zJ4 g n (k+1) (by omega) (h.succ h1 h2) y hy with h|h|h
      ·exact .inl h
      ·exact .inr (.inl h)
      ·exact .inr (.inr (zQ _ h))
theorem zC2 {x:yI.T} {b:Int} (P:Int->Prop) (hs: ∀ c,P c->0<=yO x c->P (yO x c)): ∀ n c,P c->∀ y∈jW x b n c,P y
 | 0,c,_,y,hy=>by cases hy
 | n + 1,c,h,y,hy=>by
   unfold jW at hy;split at hy
   ·rw [zF.1 hy];exact h
   ·split at hy
    ·rw [zF.1 hy];exact h
    ·rcases zT.1 hy with hy|hy
     ·rw [hy];exact h
     ·exact zC2 P hs n _ (hs c h (by omega)) y hy
theorem zIw {x:yI.T} (g:Good x) {c0:Int} : ∀ n k,k+n=30000->zT3 (yK x) c0 k->∃ m,zT3 (yK x) c0 m/\
 ((zDL x c0 n (iter (yK x) c0 k)=(iter (yK x) c0 m,true)/\yK x (iter (yK x) c0 m)<0)\/(zDL x c0 n (iter (yK x) c0 k)=(c0,false)/\yK x (iter (yK x) c0 m)=c0))
 | 0,k,e,h=>by have:=zKS g h;omega
 | n + 1,k,e,h=>by
   unfold zDL
   by_cases h1:yK x (iter (yK x) c0 k)<0
   ·rw [if_pos h1];exact ⟨k,h,.inl ⟨rfl,h1⟩⟩
   ·rw [if_neg h1]
    by_cases h2:yK x (iter (yK x) c0 k)=c0
    ·rw [if_pos h2];exact ⟨k,h,.inr ⟨rfl,h2⟩⟩
    ·rw [if_neg h2];exact zIw g n (k+1) (by omega) (h.succ h1 h2)
theorem zJK {x:yI.T} {v:Int} :zBR x v=true↔0<=v/\v<x.1.1/\0<=yY x v:=by
 simp only [zBR,zC,zP]
theorem Full.there {x:yI.T} (g:Full x) {v:Int} (h0:0<=v) (h1:v<x.1.1):zBR x v=true :=
 zJK.2 ⟨h0,h1,(yH.1 (g.vtx v h0 h1).1).1⟩
theorem Full.around {x:yI.T} (g:Full x) {v:Int} (h0:0<=v) (h1:v<x.1.1) :
 ∃ b,(zAP x v).1=b/\yU (some x) v=jW x b 30000 b/\j6 x b=true/\yS x b=v/\b∈yU (some x) v/\(∀ y∈yU (some x) v,j6 x y=true/\yS x y=v)/\
 (∀ y∈yU (some x) v,0<=yO x y->yO x y∈yU (some x) v)/\(∀ y∈yU (some x) v,0<=yK x y->yK x y∈yU (some x) v)/\
 (((zAP x v).2=true/\yK x b<0)\/((zAP x v).2=false/\∀ y∈yU (some x) v,0<=yO x y)):=by
 obtain ⟨k1,k2⟩:=g.vtx v h0 h1;have e:=zEb (x:=x) h0 h1 (yH.1 k1).1;obtain ⟨m,hm,hend⟩:=zIw g.toGood (c0:=yY x v) 30000 0 (by omega) (fun j a b=>by omega);have hend:(zAP x v=(iter (yK x) (yY x v) m,true)/\yK x (iter (yK x) (yY x v) m)<0)\/(zAP x v=(yY x v,false)/\yK x (iter (yK x) (yY x v) m)=yY x v):=hend
 have itok: ∀ j,j<=m->j6 x (iter (yK x) (yY x v) j)=true/\yS x (iter (yK x) (yY x v) j)=v:=fun j=>by
  induction j with
  | zero=>exact fun _=>⟨k1,k2⟩
  | succ j ih =>
    intro hj;have hp:0<=yK x (iter (yK x) (yY x v) j):=(hm (j+1) (by omega) hj).1;exact ⟨(g.before_has hp).2.1,(g.before_v hp).1.trans (ih (by omega)).2⟩
 have hb:j6 x (zAP x v).1=true/\yS x (zAP x v).1=v:=by
  rcases hend with ⟨h,_⟩|⟨h,_⟩
  ·rw [h];exact itok m (zI _)
  ·rw [h];exact ⟨k1,k2⟩
 have hin:(zAP x v).1∈yU (some x) v:=by rw [e];unfold jW;exact zY ..
 have hall: ∀ y∈yU (some x) v,j6 x y=true/\yS x y=v:=by
  rw [e];exact zC2 _ (fun c hc ha=>⟨(g.after_has ha).2.1,(g.after_v ha).1.trans hc.2⟩) _ _ hb
 have haft: ∀ y∈yU (some x) v,0<=yO x y->yO x y∈yU (some x) v:=fun y hy ha=>by
  rw [e] at hy;rcases zJ4 g.toGood 30000 0 rfl (fun j a b=>by omega) y hy with h|h|h
  ·omega
  ·rw [h];exact hin
  ·rw [e];exact h
 have hcyc:(zAP x v).2=false->∀ y∈yU (some x) v,0<=yO x y/\∃ j,j<=m/\y=iter (yK x) (yY x v) j:=fun hf=>by
  rcases hend with ⟨h,_⟩|⟨h,hr⟩
  ·rw [h] at hf;cases hf
  ·have key: ∀ j,j<=m->0<=yO x (iter (yK x) (yY x v) j)/\∃ i,i<=m/\yO x (iter (yK x) (yY x v) j)=iter (yK x) (yY x v) i:=fun j hj=>by
    cases j with
    | zero =>
      have h0:0<=yY x v:=(yH.1 k1).1;have:=g.after_before (c:=iter (yK x) (yY x v) m) (by rw [hr];exact h0);rw [hr] at this;show 0<=yO x (yY x v)/\∃ i,i<=m/\yO x (yY x v)=_;rw [this];exact ⟨(yH.1 (itok m (zI _)).1).1,m,zI _,rfl⟩
    | succ j =>
      have hp:0<=yK x (iter (yK x) (yY x v) j):=(hm (j+1) (by omega) hj).1;have:yO x (iter (yK x) (yY x v) (j+1))=iter (yK x) (yY x v) j:=g.after_before hp;rw [this];exact ⟨(yH.1 (itok j (by omega)).1).1,j,by omega,rfl⟩
   have: ∀ y∈yU (some x) v,∃ j,j<=m/\y=iter (yK x) (yY x v) j:=by
    rw [e];refine zC2 _ (fun c ⟨j,hj,hc⟩ _=> ?_) _ _ ⟨0,by omega,by rw [h];rfl⟩;obtain ⟨_,i,hi,e⟩:=key j hj;exact ⟨i,hi,by rw [hc];exact e⟩
   intro y hy;obtain ⟨j,hj,ej⟩:=this y hy;exact ⟨by rw [ej];exact (key j hj).1,j,hj,ej⟩
 have hbef : ∀ y∈yU (some x) v,0<=yK x y->yK x y∈yU (some x) v:=by
  have hP : ∀ y∈yU (some x) v,(0<=yK x y->yK x y∈yU (some x) v):=by
   intro y hy
   have:y∈yU (some x) v/\(0<=yK x y->yK x y∈yU (some x) v):=by
    have hy2:=hy;rw [e] at hy2;refine zC2 (fun y=>y∈yU (some x) v/\(0<=yK x y->yK x y∈yU (some x) v)) (fun c ⟨hc,_⟩ ha=>⟨haft c hc ha,fun _=>by rw [g.before_after ha];exact hc⟩) _ _ ⟨hin,fun hp=> ?_⟩ y hy2;rcases hend with ⟨h,hn⟩|⟨h,hr⟩
    ·rw [h] at hp;exact absurd hp (by show ¬ 0<=yK x (iter (yK x) (yY x v) m);omega)
    ·-- the walk forward: some round its end is the first again
     have hc:=hcyc (by rw [h])
     have hz:yK x (yY x v)∈yU (some x) v:=by
      -- each iterate is in it
      have back: ∀ i j,j+i=m->iter (yK x) (yY x v) j∈yU (some x) v:=fun i=>by
       induction i with
       | zero =>
         intro j hj;have hj:j=m:=by omega
         subst hj;have h0:0<=yY x v:=(yH.1 k1).1;have e1:=g.after_before (c:=iter (yK x) (yY x v) j) (by rw [hr];exact h0);rw [hr] at e1;have:=haft (yY x v) (by rw [h] at hin;exact hin) (by rw [e1];exact (yH.1 (itok j (zI _)).1).1);rw [e1] at this;exact this
       | succ i ih =>
         intro j hj;have h2:=ih (j+1) (by omega);have hp:0<=yK x (iter (yK x) (yY x v) j):=(hm (j+1) (by omega) (by omega)).1;have e1:yO x (iter (yK x) (yY x v) (j+1))=iter (yK x) (yY x v) j:=g.after_before hp;have:=haft _ h2 (by rw [e1];exact (yH.1 (itok j (by omega)).1).1);rw [e1] at this;exact this
      by_cases hm0:m=0
      ·subst hm0;have hr:yK x (yY x v)=yY x v:=hr;rw [hr];rw [h] at hin;exact hin
      ·exact back (m - 1) 1 (by omega)
     rw [h];exact hz
   exact this.2
  exact hP
 refine ⟨_,rfl,e,hb.1,hb.2,hin,hall,haft,hbef,?_⟩;rcases hend with ⟨h,hn⟩|⟨h,hr⟩
 ·exact .inl ⟨by rw [h],by rw [h];exact hn⟩
 ·exact .inr ⟨by rw [h],fun y hy=>(hcyc (by rw [h]) y hy).1⟩
theorem Full.around_all {x:yI.T} (g:Full x) {c:Int} (hc:j6 x c=true):c∈yU (some x) (yS x c):=by
 have hv:=zBA g.fit hc;obtain ⟨b,_,_,hb1,hb2,hb3,hall,haft,hbef,_⟩:=g.around hv.1 hv.2;obtain ⟨v,hv2⟩: ∃ v:Nat,yS x c=v:=⟨(yS x c).toNat,by omega⟩;rw [hv2] at hall haft hbef hb2 hb3 ⊢;have hn:(v:Int)<x.1.1:=by omega
 have tb:=zAw hb1;have tc:=zAw hc;rw [hb2] at tb;rw [hv2] at tc
 have hQ:=g.pin v hn (fun i=> ∃ y∈yU (some x) v,(y / 3).toNat=i) (fun i j hi hj hvi hvj ⟨w,hw,hwi,hwj⟩ ⟨y,hy,ey⟩=>by
  obtain ⟨hy1,hy2⟩:=hall y hy;obtain ⟨d,d1,d2,d3⟩:=zJ7 hj hvj
  -- the other vertex, in both
  have two: ∀ {y:Int},j6 x y=true->yS x y=v->z8 (x.1.2.getD (y / 3).toNat (0,0,0)) w->w=yS x (qY x y)\/w=yS x (qV x y):=fun {y} h1 h2 h3=>by
   obtain ⟨a,a1,a2,a3⟩:=zJ7 (zAw h1).1 h3;have i1:=yH.1 h1;have i2:=yH.1 a1
   have:a=y\/a=qY x y\/a=qV x y:=by
    rw [zAg h1,zBP h1];unfold trn;omega
   rcases this with e|e|e
   ·subst e;exact absurd (a3.symm.trans h2) hw
   ·subst e;exact .inl a3.symm
   ·subst e;exact .inr a3.symm
  have wy:=two hy1 hy2 (by rw [ey];exact hwi);have wd:=two d1 d3 (by rw [d2];exact hwj);refine ⟨d,?_,d2⟩;have evd:yS x y=yS x d:=hy2.trans d3.symm;have nn:=(yH.1 d1).1;rcases wy with wy|wy<;>rcases wd with wd|wd
  ·rw [<- g.same hy1 d1 evd (wy.symm.trans wd)];exact hy
  ·have:=g.before_is hy1 d1 evd.symm (wd.symm.trans wy);have h2:=hbef y hy (by rw [this];exact nn);rw [this] at h2;exact h2
  ·have:=g.after_is hy1 d1 evd.symm (wd.symm.trans wy);have h2:=haft y hy (by rw [this];exact nn);rw [this] at h2;exact h2
  ·rw [<- g.sameP hy1 d1 evd (wy.symm.trans wd)];exact hy) _ tb.1 tb.2 ⟨b,hb3,rfl⟩ _ tc.1 tc.2
 obtain ⟨y,hy,ey⟩:=hQ;obtain ⟨hy1,hy2⟩:=hall y hy;have i1:=yH.1 hc;have i2:=yH.1 hy1
 have:y=c\/y=qY x c\/y=qV x c:=by
  rw [zAg hc,zBP hc];unfold trn;omega
 have hne:=g.ne hc;rcases this with e|e|e
 ·rw [<- e];exact hy
 ·rw [e] at hy2;exact absurd (hv2.trans hy2.symm) hne.1
 ·rw [e] at hy2;exact absurd (hv2.trans hy2.symm) hne.2.1
end S1
open Go Go.Vm Go.Proofs
namespace S1
theorem zR8 {l:List Int} (h:l.Pairwise (·<=·)):zBY l=l:=by
 unfold zBY;exact List.mergeSort_of_pairwise (h.imp fun h=>by simpa using h)
theorem zG9 (l:List Int):(zBY l).Perm l:=by unfold zBY;exact List.mergeSort_perm _ _
theorem zHB (l:List Int):(zBY l).Pairwise (·<=·):=by
 have:=List.pairwise_mergeSort (le:=fun x y:Int=>decide (x<=y)) (fun a b c h1 h2=>by simp at *;omega) (fun a b=>by simp;omega) l;unfold zBY;exact this.imp fun h=>by simpa using h
theorem zMy {l m:List Int} (hp:l.Perm m) (h1:l.Pairwise (·<=·)) (h2:m.Pairwise (·<=·)):l=m :=
 hp.eq_of_pairwise (fun a b _ _ h1 h2=>by omega) h1 h2
def zSJ (a b c:Int):List Int:=if a<=b then (if b<=c then [a,b,c] else if a<=c then [a,c,b] else [c,a,b]) else (if a<=c then [b,a,c] else if b<=c then [b,c,a] else [c,b,a])
theorem z4e (a b c:Int):zBY [a,b,c]=zSJ a b c:=by
 refine zMy ((zG9 _).trans ?_) (zHB _) ?_
 ·unfold zSJ
  repeat' split
  ·exact .refl _
  ·exact .cons _ (.swap ..)
  ·exact (List.Perm.cons _ (.swap ..)).trans (.swap ..)
  ·exact .swap ..
  ·exact (List.Perm.swap ..).trans (.cons _ (.swap ..))
  ·exact ((List.Perm.swap ..).trans (.cons _ (.swap ..))).trans (.swap ..)
 ·unfold zSJ
  repeat' split
  all_goals simp;omega
def zP9 (t:P3):List P3:=[((zSJ t.1 t.2.1 t.2.2).getD 0 0,(zSJ t.1 t.2.1 t.2.2).getD 1 0,(zSJ t.1 t.2.1 t.2.2).getD 2 0)]
theorem zYH:zDm=zP9:=by
 funext t
 unfold zDm zP9 s3;rw [z4e]
def z4z (s:Int×List P3):List Wit:=zDI [jF s,dgL s.2 s.2.length,(prS qQ 3 s.2 s.2.length).2.2,(prS zP9 4 s.2 s.2.length).2.2,zH3 s,zXw s]
theorem z3y (s:Int×List P3):allR s=z4z s:=by unfold allR z4z;rw [zYH]
def z6W (s:Int×List P3):Wit:=(z4z s).headD (0,0,0)
theorem z4T (s:Int×List P3):zJr s=z6W s:=by unfold zJr z6W;rw [z3y]
end S1
open Go Go.Vm Go.Proofs
namespace S1
abbrev tg (l:List P3) (i:Nat):P3:=l.getD i (0,0,0)
def dE (t:P3) (a b:Int):Prop:=(t.1=a/\t.2.1=b)\/(t.2.1=a/\t.2.2=b)\/(t.2.2=a/\t.1=b)
def dgn (t:P3):Prop:=t.1=t.2.1\/t.2.1=t.2.2\/t.2.2=t.1
def z6C (l:List P3) (v:Int):Prop:= ∀ Q:Nat->Prop,
    (∀ i j:Nat,i<l.length->j<l.length->z8 (tg l i) v->z8 (tg l j) v->(∃ w:Int,w≠v/\z8 (tg l i) w/\z8 (tg l j) w)->Q i->Q j)->
    ∀ a,a<l.length->z8 (tg l a) v->Q a->∀ i,i<l.length->z8 (tg l i) v->Q i
structure zBK (s:Int×List P3):Prop where
 fit:zMc s
 deg: ∀ i,i<s.2.length->¬ dgn (tg s.2 i)
 dif: ∀ i j,i<j->j<s.2.length->∀ a b,dE (tg s.2 i) a b->¬ dE (tg s.2 j) a b
 mir: ∀ i j,i<j->j<s.2.length->¬ (z8 (tg s.2 j) (tg s.2 i).1/\z8 (tg s.2 j) (tg s.2 i).2.1/\z8 (tg s.2 j) (tg s.2 i).2.2)
 use: ∀ v:Nat,(v:Int)<s.1->∃ j,j<s.2.length/\z8 (tg s.2 j) v
 pin: ∀ v:Nat,(v:Int)<s.1->z6C s.2 v
def keys (kp:P3->List P3) (l:List P3) (i:Nat):List P3:=(l.take i).flatMap kp
theorem zOg (kp:P3->List P3) {l:List P3} {i:Nat} (h:i<l.length):keys kp l (i+1)=keys kp l i++kp (tg l i):=by
 unfold keys tg;rw [yB h,List.flatMap_append,gdE,gE h];simp
structure KFw (pre:List P3) (s:zJQ×PS):Prop where
 seen:s.2.1=[]
 nd:pre.Nodup
 had: ∀ k∈pre,zAL s.1 k≠[]
theorem zZJ {kind:Int} {i m:Nat} {ks pre:List P3} {s:zJQ×PS} (h:s.2.2=[]->KFw pre s) (h2:(prK kind i ks s m).2.2=[]):s.2.2=[]/\KFw (pre++[ks.getD m (0,0,0)]) (prK kind i ks s m):=by
 have h3:=zIH h2;have h0:s.2.2=[]:=by rw [<- h3.1];exact h2
 have u:=h h0
 have he:zAL s.1 (ks.getD m (0,0,0))=[]:=by
  cases e:zAL s.1 (ks.getD m (0,0,0)) with
  | nil=>rfl
  | cons a r =>
    have:=h3.2 0 (by rw [e];simp);rw [u.seen] at this;cases this
 refine ⟨h0,(congrArg Prod.fst h3.1).trans u.seen,?_,fun k hk=> ?_⟩
 ·rw [List.nodup_append];refine ⟨u.nd,List.nodup_cons.2 ⟨by simp,List.nodup_nil⟩,fun a ha b hb e=> ?_⟩;rw [zF] at hb;subst hb;subst e;exact u.had _ ha he
 ·show zAL (zAB .arr3 s.1 (ks.getD m (0,0,0)) (zAL s.1 (ks.getD m (0,0,0))++[(i:Int)])) k≠[];rw [zDq];split
  ·simp
  ·rename_i hne;rcases yD.1 hk with hk|hk
   ·exact u.had k hk
   ·rw [zF] at hk;exact absurd hk.symm hne
theorem zOU {kind:Int} {i:Nat} {ks pre:List P3} {s:zJQ×PS} (h:s.2.2=[]->KFw pre s): ∀ m,m<=ks.length->(qA (prK kind i ks) s m).2.2=[]->KFw (pre++ks.take m) (qA (prK kind i ks) s m)
 | 0,_,h2=>by rw [List.take_zero,List.append_nil];exact h h2
 | m+1,hm,h2=>by
   have:=(zZJ (kind:=kind) (i:=i) (m:=m) (ks:=ks) (fun h'=>zOU h m (by omega) h') h2).2;rw [List.append_assoc] at this;rw [yB (by omega)];rw [gdE,gE (by omega)] at this;exact this
theorem zU7 (kp:P3->List P3) (kind:Int) (l:List P3): ∀ i,i<=l.length->(prS kp kind l i).2.2=[]->KFw (keys kp l i) (prS kp kind l i)
 | 0,_,_=>⟨rfl,List.nodup_nil,fun k h=>(by cases h)⟩
 | i+1,hi,h=>by
   have h:(qA (prK kind i (kp (tg l i))) (prS kp kind l i) (kp (tg l i)).length).2.2=[]:=h;have:=zOU (kind:=kind) (i:=i) (ks:=kp (tg l i)) (fun h'=>zU7 kp kind l i (by omega) h') _ (zI _) h;rw [List.take_length] at this;rw [zOg kp (by omega)];exact this
structure KBw (pre:List P3) (s:zJQ×PS):Prop where
 z:s.2=([],[])
 had: ∀ k,zAL s.1 k≠[]->k∈pre
theorem zNv {kind:Int} {i:Nat} {ks pre:List P3} {s:zJQ×PS} (h:KBw pre s) (hn:(pre++ks).Nodup): ∀ m,m<=ks.length->KBw (pre++ks.take m) (qA (prK kind i ks) s m)
 | 0,_=>by rw [List.take_zero,List.append_nil];exact h
 | m + 1,hm=>by
   have ih:=zNv (kind:=kind) (i:=i) h hn m (by omega)
   have e1:ks.take (m+1)=ks.take m++[ks.getD m (0,0,0)]:=by
    rw [yB (by omega),gdE,gE (by omega)];rfl
   have hnew:ks.getD m (0,0,0)∉pre++ks.take m:=by
    have h2:(pre++ks.take (m+1)).Nodup:=by
     have:(pre++ks.take (m+1)).Sublist (pre++ks):=List.Sublist.append (List.Sublist.refl _) (List.take_sublist _ _);exact this.nodup hn
    rw [e1,<- List.append_assoc,List.nodup_append] at h2;exact fun hm=>h2.2.2 _ hm _ (zF.2 rfl) rfl
   have he:zAL (qA (prK kind i ks) s m).1 (ks.getD m (0,0,0))=[]:=by
    by_cases e:zAL (qA (prK kind i ks) s m).1 (ks.getD m (0,0,0))=[]
    ·exact e
    ·exact absurd (ih.had _ e) hnew
   refine ⟨?_,fun k hk=> ?_⟩
   ·show qA (prA kind i (zAL (qA (prK kind i ks) s m).1 (ks.getD m (0,0,0)))) (qA (prK kind i ks) s m).2 (zAL (qA (prK kind i ks) s m).1 (ks.getD m (0,0,0))).length=_;rw [he];exact ih.z
   ·have hk:zAL (zAB .arr3 (qA (prK kind i ks) s m).1 (ks.getD m (0,0,0)) (zAL (qA (prK kind i ks) s m).1 (ks.getD m (0,0,0))++[(i:Int)])) k≠[]:=hk;rw [zDq] at hk;rw [e1,<- List.append_assoc];split at hk
    ·rename_i e;subst e;exact List.mem_append_right _ (zF.2 rfl)
    ·exact List.mem_append_left _ (ih.had k hk)
theorem zUK (kp:P3->List P3) (kind:Int) (l:List P3) (hn:(keys kp l l.length).Nodup): ∀ i,i<=l.length->KBw (keys kp l i) (prS kp kind l i)
 | 0,_=>⟨rfl,fun k h=>absurd rfl h⟩
 | i + 1,hi=>by
   have ih:=zUK kp kind l hn i (by omega)
   have hn2:(keys kp l (i+1)).Nodup:=by
    have:(keys kp l (i+1)).Sublist (keys kp l l.length):=by
     unfold keys;have e:l.flatMap kp=(l.take (i+1)).flatMap kp++(l.drop (i+1)).flatMap kp:=by rw [<- List.flatMap_append,jE]
     rw [List.take_length,e];exact List.sublist_append_left _ _
    exact this.nodup hn
   rw [zOg kp (by omega)] at hn2 ⊢;have:=zNv (kind:=kind) (i:=i) (ks:=kp (tg l i)) ih hn2 _ (zI _);rw [List.take_length] at this;exact this
theorem zUE (kp:P3->List P3) (kind:Int) (l:List P3):(prS kp kind l l.length).2.2=[]↔(l.flatMap kp).Nodup:=by
 have e:keys kp l l.length=l.flatMap kp:=by unfold keys;rw [List.take_length]
 constructor
 ·intro h;have:=(zU7 kp kind l _ (zI _) h).nd;rw [e] at this;exact this
 ·intro h;rw [<- e] at h;rw [(zUK kp kind l h _ (zI _)).z]
theorem zKN (kp:P3->List P3) (l:List P3):(l.flatMap kp).Nodup↔(∀ i,i<l.length->(kp (tg l i)).Nodup)/\∀ i j,i<j->j<l.length->∀ a∈kp (tg l i),a∉kp (tg l j):=by
 unfold List.Nodup;rw [List.pairwise_flatMap,List.pairwise_iff_getElem];have g: ∀ i (h:i<l.length),tg l i=l[i]:=fun i h=>by unfold tg;rw [gdE,gE h];rfl
 constructor
 ·rintro ⟨h1,h2⟩;refine ⟨fun i hi=>by rw [g i hi];exact h1 _ (yQ hi),fun i j hij hj a ha hb=> ?_⟩;rw [g i (by omega)] at ha;rw [g j hj] at hb;exact h2 i j (by omega) hj hij a ha a hb rfl
 ·rintro ⟨h1,h2⟩;refine ⟨fun t ht=> ?_,fun i j hi hj hij a ha b hb e=> ?_⟩
  ·obtain ⟨i,hi,e⟩:=yG.1 ht;have:=h1 i hi;rw [g i hi,e] at this;exact this
  ·subst e;have:=h2 i j hij hj a;rw [g i hi,g j hj] at this;exact this ha hb
theorem zEj (t:P3) (k:P3):k∈qQ t↔k.2.2=0/\dE t k.1 k.2.1:=by
 obtain ⟨a,b,c⟩:=k;simp only [qQ,dE,zT,List.not_mem_nil,or_false,Prod.mk.injEq];constructor
 ·rintro (⟨h1,h2,h3⟩|⟨h1,h2,h3⟩|⟨h1,h2,h3⟩)
  ·exact ⟨h3,.inl ⟨h1.symm,h2.symm⟩⟩
  ·exact ⟨h3,.inr (.inl ⟨h1.symm,h2.symm⟩)⟩
  ·exact ⟨h3,.inr (.inr ⟨h1.symm,h2.symm⟩)⟩
 ·rintro ⟨h3,(⟨h1,h2⟩|⟨h1,h2⟩|⟨h1,h2⟩)⟩
  ·exact .inl ⟨h1.symm,h2.symm,h3⟩
  ·exact .inr (.inl ⟨h1.symm,h2.symm,h3⟩)
  ·exact .inr (.inr ⟨h1.symm,h2.symm,h3⟩)
theorem zNn {l:List P3} (hd: ∀ i,i<l.length->¬ dgn (tg l i)):(prS qQ 3 l l.length).2.2=[]↔∀ i j,i<j->j<l.length->∀ a b,dE (tg l i) a b->¬ dE (tg l j) a b:=by
 rw [zUE,zKN];constructor
 ·rintro ⟨_,h⟩ i j hij hj a b h1 h2;exact h i j hij hj (a,b,0) ((zEj _ _).2 ⟨rfl,h1⟩) ((zEj _ _).2 ⟨rfl,h2⟩)
 ·intro h;refine ⟨fun i hi=> ?_,fun i j hij hj k h1 h2=>h i j hij hj _ _ ((zEj _ _).1 h1).2 ((zEj _ _).1 h2).2⟩;have:=hd i hi;unfold dgn at this;simp only [qQ,List.nodup_cons,zT,List.not_mem_nil,or_false,Prod.mk.injEq,not_false_eq_true,List.nodup_nil,and_true,true_and];refine ⟨?_,?_⟩<;>omega
theorem zZg {a b c d e f:Int} (h: ¬ (a=b\/b=c\/c=a)) (h': ¬ (d=e\/e=f\/f=d)):zSJ a b c=zSJ d e f↔((d=a\/e=a\/f=a)/\(d=b\/e=b\/f=b)/\(d=c\/e=c\/f=c)):=by
 unfold zSJ;constructor
 ·intro h
  repeat' split at h
  all_goals (simp only [List.cons.injEq,and_true] at h;omega)
 ·intro h
  repeat' split
  all_goals (simp only [List.cons.injEq,and_true];omega)
theorem zRD (a b c:Int):[(zSJ a b c).getD 0 0,(zSJ a b c).getD 1 0,(zSJ a b c).getD 2 0]=zSJ a b c:=by
 unfold zSJ
 repeat' split
 all_goals rfl
theorem zMs {t u:P3} (ht: ¬ dgn t) (hu: ¬ dgn u) {k:P3} (h:k∈zP9 t):k∈zP9 u↔(z8 u t.1/\z8 u t.2.1/\z8 u t.2.2):=by
 unfold zP9 at *;rw [zF] at h ⊢;unfold z8;rw [<- zZg ht hu,h];constructor
 ·intro e;rw [<- zRD t.1,<- zRD u.1];simp only [Prod.mk.injEq] at e;rw [e.1,e.2.1,e.2.2]
 ·intro e;rw [e]
theorem zV6 {l:List P3} (hd: ∀ i,i<l.length->¬ dgn (tg l i)):(prS zDm 4 l l.length).2.2=[]↔∀ i j,i<j->j<l.length->¬ (z8 (tg l j) (tg l i).1/\z8 (tg l j) (tg l i).2.1/\z8 (tg l j) (tg l i).2.2):=by
 rw [zYH,zUE,zKN];constructor
 ·rintro ⟨_,h⟩ i j hij hj e;have hm:_∈zP9 (tg l i):=zF.2 rfl;exact h i j hij hj _ hm ((zMs (hd i (by omega)) (hd j hj) hm).2 e)
 ·intro h;refine ⟨fun i hi=>List.nodup_cons.2 ⟨by simp,List.nodup_nil⟩,fun i j hij hj k h1 h2=>h i j hij hj ((zMs (hd i (by omega)) (hd j hj) h1).1 h2)⟩
theorem zOE {s:List Bool} {t:P3} {v:Nat} (h:s.getD v false=true\/(v<s.length/\(t.1.toNat=v\/t.2.1.toNat=v\/t.2.2.toNat=v))):(zNQ s t).getD v false=true:=by
 unfold zNQ;simp only [gdE,List.getElem?_set,List.length_set];rcases h with h|⟨hl,h⟩
 ·rw [gdE] at h
  have hl:v<s.length:=by
   rcases Nat.lt_or_ge v s.length with h'|h'
   ·exact h'
   ·rw [List.getElem?_eq_none h'] at h;cases h
  rw [gE hl] at h
  repeat' split
  all_goals first|rfl|omega|(rw [gE hl];exact h)
 ·repeat' split
  all_goals first|rfl|omega
theorem zRj {n:Nat} {l:List P3} {v:Nat} (hv:v<n): ∀ i,(∃ j,j<i/\((tg l j).1.toNat=v\/(tg l j).2.1.toNat=v\/(tg l j).2.2.toNat=v))->(zC8 n l i).getD v false=true
 | 0,⟨j,hj,_⟩=>by omega
 | i+1,⟨j,hj,h⟩=>by
   show (zNQ (zC8 n l i) (tg l i)).getD v false=true
   by_cases e:j=i
   ·subst e;exact zOE (.inr ⟨by rw [zJv];exact hv,h⟩)
   ·exact zOE (.inl (zRj hv i ⟨j,by omega,h⟩))
theorem zRX {s:Int×List P3} (hf:zMc s):zH3 s=[]↔∀ v:Nat,(v:Int)<s.1->∃ j,j<s.2.length/\z8 (tg s.2 j) v:=by
 have nn:=zK4 hf;unfold zH3 loL;rw [List.filterMap_eq_nil_iff];constructor
 ·intro h v hv;have:=h v (zV.2 (by omega));unfold loG at this;split at this
  case isFalse=>cases this
  rename_i ht;obtain ⟨j,hj,e⟩:=zLD _ ht;have:=nn j hj;exact ⟨j,hj,by show (s.2.getD j (0,0,0)).1=v\/(s.2.getD j (0,0,0)).2.1=v\/(s.2.getD j (0,0,0)).2.2=v;omega⟩
 ·intro h v hv;have hv:=zV.1 hv;obtain ⟨j,hj,e⟩:=h v (by omega);have e:(s.2.getD j (0,0,0)).1=v\/(s.2.getD j (0,0,0)).2.1=v\/(s.2.getD j (0,0,0)).2.2=v:=e;unfold loG
  rw [if_pos (zRj hv _ ⟨j,hj,by
   show (s.2.getD j (0,0,0)).1.toNat=v\/(s.2.getD j (0,0,0)).2.1.toNat=v\/(s.2.getD j (0,0,0)).2.2.toNat=v
   omega⟩)]
theorem zRn {v i:Int} {t:P3} {m:zC5} {k:Nat} {w y:Int} (h:y∈zAy m w):y∈zAy (enW v i t m k) w:=by
 unfold enW;split
 ·exact h
 ·rw [zEY];split
  ·rename_i e;subst e;exact List.mem_append_left _ h
  ·exact h
theorem z3z {v i:Int} {t:P3} {m:zC5} {k:Nat} (h:(trl t).getD k 0≠v):i∈zAy (enW v i t m k) ((trl t).getD k 0):=by
 unfold enW;rw [if_neg h,zEY,if_pos rfl];exact List.mem_append_right _ (zF.2 rfl)
theorem z1U {l:List P3} {v:Int} {tris:List Int} {m:zC5} {j:Nat} {w y:Int} (h:y∈zAy m w):y∈zAy (enT l v tris m j) w :=
 qX (n:=3) (fun _ (m:zC5)=>y∈zAy m w) h (fun _ _ _ h=>zRn h) 3 (zI _)
theorem zFr {S:Type} {f:S->Nat->S} {s:S} {P:S->Prop} {k:Nat} (hk: ∀ s,P (f s k)) (hs: ∀ s j,P s->P (f s j)): ∀ n,k<n->P (qA f s n)
 | n+1,h=>by
   by_cases e:k=n
   ·subst e;exact hk _
   ·exact hs _ _ (zFr hk hs n (by omega))
theorem z1p {t:P3} {w:Int} (h:w∈trl t): ∃ k,k<3/\(trl t).getD k 0=w:=by
 simp only [trl,zT,List.not_mem_nil,or_false] at h;rcases h with h|h|h
 ·exact ⟨0,by omega,h.symm⟩
 ·exact ⟨1,by omega,h.symm⟩
 ·exact ⟨2,by omega,h.symm⟩
theorem z3U {l:List P3} {v:Int} {tris:List Int} {y w:Int} (hy:y∈tris) (hw:w∈trl (tri l y)) (hn:w≠v):y∈zAy (enA l v tris tris.length) w:=by
 obtain ⟨j,hj,e⟩:=yG.1 hy;have e2:tris.getD j 0=y:=by rw [gdE,gE hj];exact e
 unfold enA;refine zFr (P:=fun m=>y∈zAy m w) (k:=j) (fun m=> ?_) (fun m i h=>z1U h) _ hj;obtain ⟨k,hk,ek⟩:=z1p hw;unfold enT;rw [e2];refine zFr (P:=fun m=>y∈zAy m w) (k:=k) (fun m=> ?_) (fun m i h=>zRn h) 3 hk;have:=z3z (v:=v) (i:=y) (t:=tri l y) (m:=m) (k:=k) (by rw [ek];exact hn);rw [ek] at this;exact this
def Reach (E:zC5) (l:List P3) (v:Int) (S:TgS) (x:Int):Prop:=x∈S.2.1.drop S.1\/∀ w∈trl (tri l x),w≠v->∀ y∈zAy E w,had S.2.2 y=true
theorem zT7 {av:List Int} {S:TgS} {j:Nat} {y:Int} (h:had S.2.2 y=true):had (vis av S j).2.2 y=true:=by
 unfold vis;split
 ·exact h
 ·show had (zAB (.int .i64) S.2.2 (av.getD j 0) true) y=true;rw [zFS];split
  ·rfl
  ·exact h
theorem z3S {av:List Int} {S:TgS} {j:Nat} :had (vis av S j).2.2 (av.getD j 0)=true:=by
 unfold vis;split
 ·assumption
 ·show had (zAB (.int .i64) S.2.2 (av.getD j 0) true) _=true;rw [zFS,if_pos rfl]
theorem z0c {av:List Int} {S:TgS} {j:Nat} {y:Int} (h:y∈S.2.1.drop S.1):y∈(vis av S j).2.1.drop (vis av S j).1:=by
 unfold vis;split
 ·exact h
 ·show y∈(S.2.1.drop S.1++[av.getD j 0]).drop 0;rw [List.drop_zero];exact List.mem_append_left _ h
theorem z1J {av:List Int} {S:TgS} {j:Nat} {y:Int} (h:had (vis av S j).2.2 y=true):had S.2.2 y=true\/y∈(vis av S j).2.1.drop (vis av S j).1:=by
 unfold vis at *;split at h
 ·exact .inl h
 ·rename_i hn;have h:had (zAB (.int .i64) S.2.2 (av.getD j 0) true) y=true:=h;rw [zFS] at h;rw [if_neg hn];split at h
  ·rename_i e;subst e;refine .inr ?_;show _∈(S.2.1.drop S.1++[av.getD j 0]).drop 0;rw [List.drop_zero];exact List.mem_append_right _ (zF.2 rfl)
  ·exact .inl h
structure zHZ (S T:TgS):Prop where
 had: ∀ y,had S.2.2 y=true->had T.2.2 y=true
 wait: ∀ y,y∈S.2.1.drop S.1->y∈T.2.1.drop T.1
 new: ∀ y,S1.had T.2.2 y=true->S1.had S.2.2 y=true\/y∈T.2.1.drop T.1
theorem zHZ.refl (S:TgS):zHZ S S:=⟨fun _ h=>h,fun _ h=>h,fun _ h=> .inl h⟩
theorem zHZ.trans {S T U:TgS} (h:zHZ S T) (k:zHZ T U):zHZ S U :=
 ⟨fun y e=>k.had y (h.had y e),fun y e=>k.wait y (h.wait y e),fun y e=>by
   rcases k.new y e with e|e
   ·rcases h.new y e with e|e
    ·exact .inl e
    ·exact .inr (k.wait y e)
   ·exact .inr e⟩
theorem z1Y {av:List Int} {S:TgS} {j:Nat} :zHZ S (vis av S j):=⟨fun _ h=>zT7 h,fun _ h=>z0c h,fun _ h=>z1J h⟩
theorem zVa {av:List Int} {S:TgS} (n:Nat):zHZ S (qA (vis av) S n) :=
 qX (n:=n) (fun _ (T:TgS)=>zHZ S T) (.refl S) (fun _ _ _ h=>h.trans z1Y) n (zI _)
theorem zQx {E:zC5} {v:Int} {t:P3} {S:TgS} {k:Nat} :zHZ S (tgW E v t S k):=by
 unfold tgW;split
 ·exact .refl S
 ·exact zVa _
theorem zNR {E:zC5} {v:Int} {t:P3} {S:TgS} (n:Nat):zHZ S (qA (tgW E v t) S n) :=
 qX (n:=n) (fun _ (T:TgS)=>zHZ S T) (.refl S) (fun _ _ _ h=>h.trans zQx) n (zI _)
theorem z4k {E:zC5} {v:Int} {t:P3} {S:TgS} {k:Nat} (h:(trl t).getD k 0≠v) {y:Int} (hy:y∈zAy E ((trl t).getD k 0)):had (tgW E v t S k).2.2 y=true:=by
 unfold tgW;rw [if_neg h];obtain ⟨j,hj,e⟩:=yG.1 hy;have e2:(zAy E ((trl t).getD k 0)).getD j 0=y:=by rw [gdE,gE hj];exact e
 refine zFr (P:=fun S:TgS=>had S.2.2 y=true) (k:=j) (fun S=> ?_) (fun _ _ h=>zT7 h) _ hj;have:=z3S (av:=zAy E ((trl t).getD k 0)) (S:=S) (j:=j);rw [e2] at this;exact this
def RInv (E:zC5) (l:List P3) (v:Int) (S:TgS):Prop:= ∀ x,had S.2.2 x=true->Reach E l v S x
theorem z3B {E:zC5} {l:List P3} {v:Int} {S:TgS} {r:Nat} (h:RInv E l v S):RInv E l v (tgR E l v S r):=by
 unfold tgR;split
 case isFalse=>exact h
 rename_i hs;have g:=zNR (E:=E) (v:=v) (t:=tri l (S.2.1.getD S.1 0)) (S:=(S.1+1,S.2.1,S.2.2)) 3;intro x hx
 by_cases e:x=S.2.1.getD S.1 0
 ·subst e;refine .inr fun w hw hn y hy=> ?_;obtain ⟨k,hk,ek⟩:=z1p hw;refine zFr (P:=fun S:TgS=>had S.2.2 y=true) (k:=k) (fun S=> ?_) (fun S j h=>zQx.had y h) 3 hk;exact z4k (by rw [ek];exact hn) (by rw [ek];exact hy)
 ·rcases g.new x hx with hx|hx
  ·rcases h x hx with hw|hw
   ·left;refine g.wait x ?_;show x∈S.2.1.drop (S.1+1);rw [List.drop_eq_getElem_cons hs] at hw;rcases zT.1 hw with hw|hw
    ·exact absurd (by rw [hw,gdE,gE hs];rfl) e
    ·exact hw
   ·exact .inr fun w hw' hn y hy=>g.had y (hw w hw' hn y hy)
  ·exact .inl hx
theorem zU3 (E:zC5) (l:List P3) (v x0:Int): ∀ r,RInv E l v (tgS E l v x0 r)
 | 0=>fun x hx=>by
   have hx:had [(x0,true)] x=true:=hx;left;show x∈[x0].drop 0;rw [List.drop_zero,zF];have:had (zAB (.int .i64) ([]:ReM) x0 true) x=true:=hx;rw [zFS] at this;split at this
   ·rename_i e;exact e.symm
   ·cases this
 | r+1=>z3B (r:=r) (zU3 E l v x0 r)
theorem zQa {E:zC5} {l:List P3} {v x0:Int} {tris:List Int} {c:Nat} (hE:zVL tris c E) (hx:x0∈tris): ∀ r,(tgS E l v x0 r).1<(tgS E l v x0 r).2.1.length->meas tris (tgS E l v x0 r)+r<=tris.length+1
 | 0,_=>zI9
 | r +1,h=>by
   have hok:=(z2K hE (l:=l) (v:=v) hx r).1
   by_cases hs:(tgS E l v x0 r).1<(tgS E l v x0 r).2.1.length
   ·have ih:=zQa (l:=l) (v:=v) hE hx r hs;have:=(z2T (l:=l) (v:=v) (r:=r) hE hok).2.2 hs;have e:tgS E l v x0 (r+1)=tgR E l v (tgS E l v x0 r) r:=rfl;rw [e];omega
   ·rw [zL4 hs 1] at h;exact absurd h hs
theorem zQU: ∀ {m:ReM} {x:Int},had m x=true->x∈zE3 m
 | [],x,h=>by cases h
 | (a,b)::r,x,h=>by
   unfold had at h;simp only [jS] at h;unfold zE3;split at h
   ·rename_i e _;exact zT.2 (.inl e.symm)
   ·exact zQ _ (zQU h)
theorem zBx: ∀ (ks l:List Int),ks.Nodup->(∀ x∈ks,x∈l)->ks.length<=l.length
 | [],l,_,_=>Nat.zero_le _
 | a::r,l,hd,hs=>by
   have hd:=List.nodup_cons.1 hd;have ha:=hs a (zY ..);have ih:=zBx r (l.erase a) hd.2 (fun y hy=>(List.mem_erase_of_ne (fun e=>hd.1 (by rw [<- e];exact hy))).2 (hs y (zQ _ hy)));have hle:(l.erase a).length=l.length - 1:=List.length_erase_of_mem ha;have:=List.length_pos_of_mem ha;simp only [yA];omega
theorem z6X {l:List P3} {v:Int} {tris:List Int} (ht:tris≠[]) (hn:tris.Nodup)
 (hc: ∀ Q:Int->Prop,(∀ i∈tris,∀ j∈tris,(∃ w,w≠v/\w∈trl (tri l i)/\w∈trl (tri l j))->Q i->Q j)->Q (tris.getD 0 0)->∀ i∈tris,Q i):zT2 l v tris=true:=by
 have hm:tris.getD 0 0∈tris:=jB (List.length_pos_iff.2 ht);have hE:=zWE l v tris tris.length (zI _);have hin:=z2q (l:=l) (v:=v) (x0:=tris.getD 0 0) (z2g l v tris) (Q:=fun _=>True) (fun _ _ _ _ _ _=>trivial) ⟨hm,trivial⟩ (2*tris.length+2);have hR:=zU3 (enA l v tris tris.length) l v (tris.getD 0 0) (2*tris.length+2)
 have hstop: ¬ (tgS (enA l v tris tris.length) l v (tris.getD 0 0) (2*tris.length+2)).1<(tgS (enA l v tris tris.length) l v (tris.getD 0 0) (2*tris.length+2)).2.1.length:=fun h=>by
  have:=zQa (l:=l) (v:=v) hE hm _ h;omega
 have h0:had (tgS (enA l v tris tris.length) l v (tris.getD 0 0) (2*tris.length+2)).2.2 (tris.getD 0 0)=true :=
  qX (n:=2*tris.length+2) (fun _ (S:TgS)=>had S.2.2 (tris.getD 0 0)=true) (by
   show had (zAB (.int .i64) ([]:ReM) (tris.getD 0 0) true) _=true
   rw [zFS,if_pos rfl]) (fun j S _ h=>by
   unfold tgR;split
   ·exact (zNR 3).had _ h
   ·exact h) _ (zI _)
 unfold zT2;generalize tgS (enA l v tris tris.length) l v (tris.getD 0 0) (2*tris.length+2)=S at *
 have all:=hc (fun i=>had S.2.2 i=true) (fun i hi j hj ⟨w,h1,h2,h3⟩ hq=>by
  rcases hR i hq with h|h
  ·rw [List.drop_eq_nil_of_le (by omega)] at h;cases h
  ·exact h w h2 h1 j (z3U hj h3 h1)) h0
 have hk: ∀ x∈zE3 S.2.2,x∈tris:=fun x hx=>(hin.k x hx).1;have l1:=zBx _ _ hin.nd hk;have l2:=zBx tris (zE3 S.2.2) hn fun x hx=>zQU (all x hx);have e:(zE3 S.2.2).length=S.2.2.length:=by unfold zE3;rw [yV]
 rw [e] at l1 l2;have:S.2.2.length=tris.length:=by omega
 rw [this];exact beq_self_eq_true _
theorem zIr {s:List (List Int)} {w:Int} {j v:Nat} (h:(s.getD v []).Nodup/\∀ x∈s.getD v [],x<(j:Int)) (h2:w.toNat=v->∀ x∈s.getD v [],x≠(j:Int)):((atP s w j).getD v []).Nodup:=by
 rw [zBd];split
 ·rename_i e;rw [List.nodup_append];refine ⟨h.1,List.nodup_cons.2 ⟨by simp,List.nodup_nil⟩,fun a ha b hb=> ?_⟩;rw [zF] at hb;rw [hb];exact h2 e.1 a ha
 ·exact h.1
theorem zMt {n:Nat} {l:List P3} (hl: ∀ j,j<l.length->0<=(tg l j).1/\0<=(tg l j).2.1/\0<=(tg l j).2.2) (hd: ∀ i,i<l.length->¬ dgn (tg l i)) {v:Nat} (hv:v<n): ∀ i,i<=l.length->((atF n l i).getD v []).Nodup
 | 0,_=>by
   have e:(atF n l 0).getD v []=[]:=by
    show (List.replicate n ([]:List Int)).getD v []=[];rw [gdE,List.getElem?_replicate];split<;>rfl
   rw [e];exact List.nodup_nil
 | i + 1,hi=>by
   have ih:=zMt hl hd hv i (by omega);have hm:=zLO hl hv i (by omega)
   have hlt: ∀ x∈(atF n l i).getD v [],x<(i:Int):=fun x hx=>by
    obtain ⟨j,hj,e,_⟩:=(hm x).1 hx;omega
   obtain ⟨h1,h2,h3⟩:=hl i (by omega);have hdg:=hd i (by omega);unfold dgn at hdg;show ((at3 (atF n l i) (tg l i) i).getD v []).Nodup;unfold at3
   -- at most one of the three is v
   by_cases e1:(tg l i).1.toNat=v
   ·have k2: ¬ (tg l i).2.1.toNat=v:=by omega
    have k3: ¬ (tg l i).2.2.toNat=v:=by omega
    rw [zBd,if_neg (fun h=>k3 h.1),zBd,if_neg (fun h=>k2 h.1)];exact zIr ⟨ih,hlt⟩ fun _ x hx=>by have:=hlt x hx;omega
   ·by_cases e2:(tg l i).2.1.toNat=v
    ·have k3: ¬ (tg l i).2.2.toNat=v:=by omega
     rw [zBd,if_neg (fun h=>k3 h.1)];have e:(atP (atF n l i) (tg l i).1 i).getD v []=(atF n l i).getD v []:=by rw [zBd,if_neg (fun h=>e1 h.1)]
     exact zIr ⟨by rw [e];exact ih,by rw [e];exact hlt⟩ fun _ x hx=>by rw [e] at hx;have:=hlt x hx;omega
    ·have e:(atP (atP (atF n l i) (tg l i).1 i) (tg l i).2.1 i).getD v []=(atF n l i).getD v []:=by rw [zBd,if_neg (fun h=>e2 h.1),zBd,if_neg (fun h=>e1 h.1)]
     exact zIr ⟨by rw [e];exact ih,by rw [e];exact hlt⟩ fun _ x hx=>by rw [e] at hx;have:=hlt x hx;omega
theorem zUo {s:Int×List P3} (hf:zMc s) (hd: ∀ i,i<s.2.length->¬ dgn (tg s.2 i)) (hu: ∀ v:Nat,(v:Int)<s.1->∃ j,j<s.2.length/\z8 (tg s.2 j) v):zXw s=[]↔∀ v:Nat,(v:Int)<s.1->z6C s.2 v:=by
 constructor
 ·exact fun h v hv Q hQ a h1 h2 h3=>zXX (n:=s.1) (l:=s.2) h (zK4 hf) hv Q hQ h1 h2 h3
 ·intro h;refine List.filterMap_eq_nil_iff.2 fun v hv=> ?_;have hv:=zV.1 hv;unfold piG;rw [if_pos ?_];have hm:=zLO (n:=s.1.toNat) (l:=s.2) (zK4 hf) hv _ (zI _);refine z6X (zOL s.1.toNat s.2 hv _ (hu v (by omega))) (zMt (zK4 hf) hd hv _ (zI _)) fun Q hQ h0 i hi=> ?_;obtain ⟨j,hj,rfl,hjv⟩:=(hm i).1 hi;have hz:=(hm _).1 (jB (j:=0) (List.length_pos_iff.2 (zOL s.1.toNat s.2 hv _ (hu v (by omega)))));obtain ⟨z,hz1,hz2,hz3⟩:=hz
  rw [hz2] at h0;refine h v (by omega) (fun k=>Q (k:Int)) (fun a b ha hb hav hbv ⟨w,hw,hwa,hwb⟩ hq=> ?_) z hz1 hz3 h0 j hj hjv;exact hQ a ((hm a).2 ⟨a,ha,rfl,hav⟩) b ((hm b).2 ⟨b,hb,rfl,hbv⟩) ⟨w,hw,zPs.2 hwa,zPs.2 hwb⟩ hq
theorem zV7 {l:List P3} :dgL l l.length=[]↔∀ i,i<l.length->¬ dgn (tg l i):=by
 constructor
 ·exact fun h i hi=>z2v h hi
 ·intro h;refine List.filterMap_eq_nil_iff.2 fun i hi=> ?_;have:=h i (zV.1 hi);unfold dgn at this;unfold dgG;rw [if_neg ?_];intro e;unfold zMi at e;simp only [Bool.or_eq_true,beq_iff_eq] at e;exact this e
theorem zUb {s:Int×List P3} :jF s=[]↔zMc s:=by
 obtain ⟨n,l⟩:=s;constructor
 ·intro h;exact zF5 (by rw [h];simp)
 ·intro h
  have hb:zHN (n,l)=false:=by
   have h1:0<=n:=h.1;have h2:n<=4096:=h.2.1;have h3:l.length<=8192:=h.2.2.1;unfold zHN;simp only [Bool.or_eq_false_iff,yM];omega
  unfold jF;rw [hb];refine List.filterMap_eq_nil_iff.2 fun i hi=> ?_;unfold z6D;rw [if_pos (h.2.2.2 i (zV.1 hi))]
theorem zWz (s:Int×List P3):allR s=[]↔(jF s=[]/\dgL s.2 s.2.length=[]/\(prS qQ 3 s.2 s.2.length).2.2=[]/\(prS zDm 4 s.2 s.2.length).2.2=[]/\zH3 s=[]/\zXw s=[]):=by
 constructor
 ·intro h;have h:=zEs h;exact ⟨h _ (by simp),h _ (by simp),h _ (by simp),h _ (by simp),h _ (by simp),h _ (by simp)⟩
 ·rintro ⟨h1,h2,h3,h4,h5,h6⟩;unfold allR;simp [zDI,h1,h2,h3,h4,h5,h6]
theorem zD9 (s:Int×List P3):(zJr s).1=0↔zBK s:=by
 constructor
 ·intro h;obtain ⟨h1,h2,h3,h4,h5,h6⟩:=(zWz s).1 (zM5 h);have hf:=zUb.1 h1;have hd:=zV7.1 h2;have hu:=(zRX hf).1 h5;exact ⟨hf,hd,(zNn hd).1 h3,(zV6 hd).1 h4,hu,(zUo hf hd hu).1 h6⟩
 ·intro h;have:allR s=[]:=(zWz s).2 ⟨zUb.2 h.fit,zV7.2 h.deg,(zNn h.deg).2 h.dif,(zV6 h.deg).2 h.mir,(zRX h.fit).2 h.use,(zUo h.fit h.deg h.use).2 h.pin⟩;unfold zJr;rw [this];rfl
end S1
open Go Go.Vm Go.Proofs
namespace S1
theorem zLk {x:yI.T} (g:Good x) {a b:Int} (h:zAQ x a b=true):(0<=a/\a<x.1.1)/\(0<=b/\b<x.1.1):=by
 have key: ∀ {a b:Int},0<=qJ x (a,b)->(0<=a/\a<x.1.1)/\(0<=b/\b<x.1.1):=fun {a b} h=>by
  unfold qJ at h;cases e:jS .arr2 x.2.1 (a,b) with
  | none=>rw [e] at h;exact absurd h (by decide)
  | some c =>
    obtain ⟨h1,h2⟩:=g.map _ _ e;have e1:yS x (qY x c)=a:=congrArg Prod.fst h2;have e2:yS x (qV x c)=b:=congrArg Prod.snd h2;have k1:=zBA g.fit (zAF h1).1;have k2:=zBA g.fit (zAF h1).2;rw [e1] at k1;rw [e2] at k2;exact ⟨k1,k2⟩
 unfold zAQ at h;rw [Bool.or_eq_true,zP,zP] at h;rcases h with h|h
 ·exact key h
 ·exact (key h).symm
theorem z0r {x:yI.T} {v:Int} (h: ¬ (0<=v/\v<x.1.1)):zCz x v=[]:=by
 have e:yU (some x) v=[]:=zEa fun k=>h ⟨k.1,k.2.1⟩;unfold zCz;rw [e];simp [lkO,zGG]
theorem zHj {s:Int×List P3} {x:yI.T} (h:zHP s=some x):x=zAa s/\Full x/\zBK s:=by
 unfold zHP at h;split at h
 ·rename_i hc;cases h;exact ⟨rfl,zSF hc,(zD9 s).1 hc⟩
 ·cases h
theorem zAu {s:Int×List P3} (h:zBK s):zHP s=some (zAa s)/\Full (zAa s)/\(zAa s).1=s:=by
 have hc:=(zD9 s).2 h;refine ⟨?_,zSF hc,rfl⟩;unfold zHP;rw [if_pos hc]
theorem zCg {x:yI.T} {b:Int} : ∀ n c,∀ y∈jW x b n c,yO x y<0->(jW x b n c).getD ((jW x b n c).length - 1) 0=y
 | 0,c,y,h,_=>by cases h
 | n + 1,c,y,h,ha=>by
   unfold jW at h ⊢
   by_cases h1:yO x c<0
   ·rw [if_pos h1] at h ⊢;rw [zF.1 h];rfl
   ·rw [if_neg h1] at h ⊢
    by_cases h2:yO x c=b
    ·rw [if_pos h2] at h ⊢;rw [zF.1 h];rfl
    ·rw [if_neg h2] at h ⊢;rcases zT.1 h with h|h
     ·subst h;exact absurd ha h1
     ·have ih:=zCg n _ y h ha;have hl:(jW x b n (yO x c)).length>=1:=List.length_pos_of_mem h;generalize jW x b n (yO x c)=L at *;rw [yA,show L.length+1 - 1=(L.length - 1)+1 by omega,List.getD_cons_succ];exact ih
theorem Full.link_mem {x:yI.T} (g:Full x) {a v:Int} (h0:0<=a) (h1:a<x.1.1):v∈zCz x a↔(∃ c∈yU (some x) a,yS x (qY x c)=v)\/(∃ c∈yU (some x) a,yO x c<0/\yS x (qV x c)=v):=by
 obtain ⟨b,_,eL,hb1,hb2,hb3,hall,_⟩:=g.around h0 h1;have hpos:(yU (some x) a).length>=1:=List.length_pos_of_mem hb3
 have hlast:zGG (yU (some x) a) (yU (some x) a).length=(yU (some x) a).getD ((yU (some x) a).length - 1) 0:=by
  unfold zGG;rw [if_neg (by omega)]
 have hin:(yU (some x) a).getD ((yU (some x) a).length - 1) 0∈yU (some x) a:=jB (by omega);unfold zCz;rw [yD]
 have e1:v∈lkO x (yU (some x) a) (yU (some x) a).length↔∃ c∈yU (some x) a,yS x (qY x c)=v:=by
  unfold lkO;rw [List.take_length,yC]
 rw [e1,hlast];refine or_congr_right ⟨fun h=> ?_,fun ⟨c,hc,ha,hv⟩=> ?_⟩
 ·split at h
  ·rename_i hc;exact ⟨_,hin,hc.2,(zF.1 h).symm⟩
  ·cases h
 ·have hc2:=hc;rw [eL] at hc2;have hl:=zCg _ _ c hc2 ha;rw [<- eL] at hl;rw [hl,if_pos ⟨(yH.1 (hall c hc).1).1,ha⟩,hv];exact zF.2 rfl
theorem zHf {x:yI.T} (g:Full x) {a v:Int} :zAQ x a v=true↔∃ d,j6 x d=true/\(jR x d=(a,v)\/jR x d=(v,a)):=by
 have key: ∀ {a v:Int},0<=qJ x (a,v)↔∃ d,j6 x d=true/\jR x d=(a,v):=fun {a v} =>by
  constructor
  ·intro h;unfold qJ at h;cases e:jS .arr2 x.2.1 (a,v) with
   | none=>rw [e] at h;exact absurd h (by decide)
   | some c=>exact ⟨c,g.map _ _ e⟩
  ·rintro ⟨d,h1,h2⟩;rw [<- h2,g.facing h1];exact (yH.1 h1).1
 unfold zAQ;rw [Bool.or_eq_true,zP,zP,key,key];constructor
 ·rintro (⟨d,h1,h2⟩|⟨d,h1,h2⟩)
  ·exact ⟨d,h1,.inl h2⟩
  ·exact ⟨d,h1,.inr h2⟩
 ·rintro ⟨d,h1,(h2|h2)⟩
  ·exact .inl ⟨d,h1,h2⟩
  ·exact .inr ⟨d,h1,h2⟩
theorem Full.link_iff {x:yI.T} (g:Full x) {a v:Int} :v∈zCz x a↔zAQ x a v=true:=by
 by_cases ha:0<=a/\a<x.1.1
 case neg =>
  rw [z0r ha];refine ⟨fun h=>(by cases h),fun h=>absurd (zLk g.toGood h).1 ha⟩
 obtain ⟨b,_,eL,hb1,hb2,hb3,hall,haft,hbef,_⟩:=g.around ha.1 ha.2;rw [g.link_mem ha.1 ha.2,zHf g];constructor
 ·rintro (⟨c,hc,hv⟩|⟨c,hc,_,hv⟩)
  ·obtain ⟨k1,k2⟩:=hall c hc;exact ⟨_,(zAF k1).2,.inl (by rw [zOA k1,k2,hv])⟩
  ·obtain ⟨k1,k2⟩:=hall c hc;exact ⟨_,(zAF k1).1,.inr (by rw [zNf k1,k2,hv])⟩
 ·rintro ⟨d,h1,(h2|h2)⟩
  ·have e1:yS x (qY x d)=a:=congrArg Prod.fst h2;have e2:yS x (qV x d)=v:=congrArg Prod.snd h2;have hc:=g.around_all (zAF h1).1;rw [e1] at hc;exact .inl ⟨_,hc,by rw [(np h1).2.2.1];exact e2⟩
  ·have e1:yS x (qY x d)=v:=congrArg Prod.fst h2;have e2:yS x (qV x d)=a:=congrArg Prod.snd h2;have hc:=g.around_all (zAF h1).2;rw [e2] at hc;have hv:yS x (qV x (qV x d))=v:=by rw [(np h1).2.2.2];exact e1
   by_cases hs:yO x (qV x d)<0
   ·exact .inr ⟨_,hc,hs,hv⟩
   ·have hs:0<=yO x (qV x d):=by omega
    exact .inl ⟨_,haft _ hc hs,by rw [(g.after_v hs).2];exact hv⟩
theorem Full.opp_v {x:yI.T} (g:Full x) {c:Int} (h:0<=zAI x c):j6 x c=true/\j6 x (zAI x c)=true/\yS x (qY x (zAI x c))=yS x (qV x c)/\yS x (qV x (zAI x c))=yS x (qY x c):=by
 obtain ⟨h1,h2,h3⟩:=g.opp h;exact ⟨h1,h2,congrArg Prod.fst h3,congrArg Prod.snd h3⟩
theorem z7v {x:yI.T} {c v:Int} (h1:j6 x c=true) (h:z8 (x.1.2.getD (c / 3).toNat (0,0,0)) v):v=yS x c\/v=yS x (qY x c)\/v=yS x (qV x c):=by
 obtain ⟨a,a1,a2,a3⟩:=zJ7 (zAw h1).1 h;have i1:=yH.1 h1;have i2:=yH.1 a1
 have:a=c\/a=qY x c\/a=qV x c:=by
  rw [zAg h1,zBP h1];unfold trn;omega
 rcases this with e|e|e
 ·subst e;exact .inl a3.symm
 ·subst e;exact .inr (.inl a3.symm)
 ·subst e;exact .inr (.inr a3.symm)
end S1
