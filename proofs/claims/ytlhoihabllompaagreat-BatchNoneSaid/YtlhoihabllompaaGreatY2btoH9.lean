/- A part of the proofs of the laws. -/
import Derived.Test.YtlhoihabllompaaGreatR3toY2
import Derived.Test.YtlhoihabllompaaGreatH3toR2
set_option linter.unusedSimpArgs false
set_option linter.unusedVariables false
set_option maxHeartbeats 8000000
set_option maxRecDepth 100000
open Go Go.Vm Go.Proofs
namespace S1
def zUt (n:Int) (t:P3):Prop:=(0<=t.1/\t.1<n)/\(0<=t.2.1/\t.2.1<n)/\(0<=t.2.2/\t.2.2<n)/\¬ dgn t
def zXa (n:Int) (l:List P3):Spec Nat where
 inv i:=i<=l.length/\∀ j,j<i->zUt n (l.getD j (0,0,0))
 live i:=[(3,.s (.int .i64 i))]
 keep:=[1,2]
 heap _:=[]
 keepH:=[0]
 mu i:=l.length - i
def zXx (l:List P3):Spec Nat where
 inv i:=i<=l.length/\∀ j k,k<j->j<i->zQg (l.getD j (0,0,0)) (l.getD k (0,0,0))
 live i:=[(6,.s (.int .i64 i))]
 keep:=[1,2]
 heap _:=[]
 keepH:=[0]
 mu i:=l.length - i
def zTr (l:List P3) (i:Nat):Spec Nat where
 inv k:=k<=i/\∀ j,j<k->zQg (l.getD i (0,0,0)) (l.getD j (0,0,0))
 live k:=[(7,.s (.int .i64 k))]
 keep:=[1,2,6]
 heap _:=[]
 keepH:=[0]
 mu k:=i - k
def zW4 (l:List P3) (i k:Nat):Spec Nat where
 inv p:=p<=3/\∀ a b,a<p->b<3->¬ shE (l.getD i (0,0,0)) (l.getD k (0,0,0)) a b
 live p:=[(9,.s (.int .i64 p)),(8,.s (.int .i64 (zLX (l.getD i (0,0,0)) (l.getD k (0,0,0)) p)))]
 keep:=[1,2,6,7]
 heap _:=[]
 keepH:=[0]
 mu p:=3 - p
def zVl (l:List P3) (i k p:Nat):Spec Nat where
 inv q:=q<=3/\∀ b,b<q->¬ shE (l.getD i (0,0,0)) (l.getD k (0,0,0)) p b
 live q:=[(10,.s (.int .i64 q))]
 keep:=[1,2,6,7,8,9]
 heap _:=[]
 keepH:=[0]
 mu q:=3 - q
def zVz (n:Int) (l:List P3):Spec Nat where
 inv v:=(v:Int)<=max n 0/\∀ u:Nat,u<v->(zBZ l u).1≠0/\(zBZ l u).1=(zBZ l u).2
 live v:=[(11,.s (.int .i64 v))]
 keep:=[1,2]
 heap _:=[]
 keepH:=[0]
 mu v:=n.toNat - v
theorem zQ4 (s:SoT):isR s=true↔zBC s:=by
 unfold isR;rw [zP];exact ⟨fun h=>(zD4 s).1 (by rw [h]),fun h=>zSF ((zD4 s).2 h)⟩
theorem zNT {s:SoT} (h:zBC s->False):false=isR s:=by
 cases e:isR s with
 | false=>rfl
 | true=>exact (h ((zQ4 s).1 e)).elim
theorem z4m {s:SoT} (h:zBC s):true=isR s:=((zQ4 s).2 h).symm
theorem z9L:(Int.tmod 1 3).toNat=1:=rfl
theorem z9G:(Int.tmod 2 3).toNat=2:=rfl
theorem z9C:(Int.tmod 3 3).toNat=0:=rfl
theorem c30 (t:P3):zKV t 0=t.1:=rfl
theorem c31 (t:P3):zKV t 1=t.2.1:=rfl
theorem c32 (t:P3):zKV t 2=t.2.2:=rfl
theorem z6b {n:Int} {l:List P3} (h:zBC (n,l)) {i:Nat} (hi:i<l.length):zUt n (l.getD i (0,0,0)):=by
 obtain ⟨a,b,c⟩:=zAE (h.fit.2.2.2 i hi);exact ⟨a,b,c,h.deg i hi⟩
theorem z9K (q:Nat):0<=((q:Int)+1).tmod 3/\((q:Int)+1).tmod 3<3:=by
 have e:((q:Int)+1).tmod 3=((q:Int)+1) % 3:=Int.tmod_eq_emod_of_nonneg (by omega);rw [e];omega
attribute [local irreducible] zLX zBZ isR
theorem z2X (n:Int) (l:List P3):zAG ⟨tyL,[(51,zJN),(52,zTN)],[]⟩ Tryz.f15 [qR.av (n,l)] (fun r=>r= .s (.bool (isR (n,l)))):=by
 repeat' (conv=>whnf
          first|done|refine qN (by first|rfl|omega|(simp only [yO] at *;omega)) ?_|apply qH|refine qG fun _=> ?_|apply qB|apply qa|apply qo|refine qe (fun _=> ?_) (fun _=> ?_)|refine qn (fun _=> ?_) (fun _=> ?_)|refine qd (fun _=> ?_) (fun _=> ?_)|apply qt|refine qi (fun _=> ?_) (fun _=> ?_)|(refine qS 4 rfl ?_;refine Or.inr (zB (Nat) (zB (zXa n l) (zA (zB (0) (zA (yJ.out ?_) (zA ?_ (zA ?_ rfl)))) (fun i hi=> ?_)))))|((with_reducible show (∃ y,And (Spec.inv (zXa _ _) y) _));refine zB (i+1) (zA (yJ.out ?_) (zA (zA ?_ (zA ?_ rfl)) (yJ.out ?_))))|(refine qS 8 rfl ?_;refine Or.inl (zB (4) ?_))|(refine qS 13 rfl ?_;refine Or.inr (zB (Nat) (zB (zXx l) (zA (zB (0) (zA (yJ.out ?_) (zA ?_ (zA ?_ rfl)))) (fun j hj=> ?_)))))|((with_reducible show (∃ y,And (Spec.inv (zXx _) y) _));refine zB (j+1) (zA (yJ.out ?_) (zA (zA ?_ (zA ?_ rfl)) (yJ.out ?_))))|(refine qS 16 rfl ?_;refine Or.inr (zB (Nat) (zB (zTr l j) (zA (zB (0) (zA (yJ.out ?_) (zA ?_ (zA ?_ rfl)))) (fun k hk=> ?_)))))|((with_reducible show (∃ y,And (Spec.inv (zTr _ _) y) _));refine zB (k+1) (zA (yJ.out ?_) (zA (zA ?_ (zA ?_ rfl)) (yJ.out ?_))))|(refine qS 20 rfl ?_;refine Or.inr (zB (Nat) (zB (zW4 l j k) (zA (zB (0) (zA (yJ.out ?_) (zA ?_ (zA ?_ rfl)))) (fun p hp=> ?_)))))|((with_reducible show (∃ y,And (Spec.inv (zW4 _ _ _) y) _));refine zB (p+1) (zA (yJ.out ?_) (zA (zA ?_ (zA ?_ rfl)) (yJ.out ?_))))|(refine qS 25 rfl ?_;refine Or.inr (zB (Nat) (zB (zVl l j k p) (zA (zB (0) (zA (yJ.out ?_) (zA ?_ (zA ?_ rfl)))) (fun q hq=> ?_)))))|((with_reducible show (∃ y,And (Spec.inv (zVl _ _ _ _) y) _));refine zB (q+1) (zA (yJ.out ?_) (zA (zA ?_ (zA ?_ rfl)) (yJ.out ?_))))|(refine qS 32 rfl ?_;refine Or.inr (zB (Nat) (zB (zVz n l) (zA (zB (0) (zA (yJ.out ?_) (zA ?_ (zA ?_ rfl)))) (fun v hv=> ?_)))))|((with_reducible show (∃ y,And (Spec.inv (zVz _ _) y) _));refine zB (v+1) (zA (yJ.out ?_) (zA (zA ?_ (zA ?_ rfl)) (yJ.out ?_))))|refine zA rfl ?_|apply qE|apply qO|exact zN|apply qq|apply qs|refine qK (by kernel_rfl) ?_|apply qr)
 all_goals try first|apply qz1|apply qz2|apply qz3|apply qz4|apply qz5|apply qz6|apply qz7|apply qz8|apply qz9|apply qz0
 all_goals try simp only [zZ,zR,yE,z6,qn1,zY,qn2,zX,ETy.dflt,qn3,qn4,Int.reduceToNat,Int.reduceAdd,Int.reduceSub,Int.reduceNeg,Nat.reduceAdd,zD,zXa,zXx,zTr,zW4,zVl,zVz,zUQ,tmX,z9L,z9G,z9C,c30,c31,c32] at *
 all_goals try
  (refine zNT fun h=> ?_
   have h1:0<=n:=h.fit.1;have h2:n<=4096:=h.fit.2.1;have h3:l.length<=8192:=h.fit.2.2.1
   omega)
 all_goals try exact qh ⟨by decide,by decide⟩
 all_goals try exact qh (z9K _)
 all_goals try (refine yJ.intro (zA (Nat.zero_le _) ?_);intros;omega)
 all_goals try (refine qh ?_;omega)
 all_goals have hi1:=hi.1
 all_goals try
  have hil:(i:Int)<l.length:=by assumption
  refine zNT fun h=> ?_;have ht:=z6b h (i:=i) (by omega);unfold zUt dgn at ht;omega
 all_goals try
  have hil:(i:Int)<l.length:=by assumption
  refine yJ.intro (zA ?_ ?_)
  ·omega
  ·intro a ha
   by_cases e:a=i
   ·subst e;unfold zUt dgn;omega
   ·exact hi.2 a (by omega)
 all_goals try exact zJy _ _
 all_goals try
  (have hN:=zPg (l.getD j (0,0,0)) (l.getD k (0,0,0)) p
   refine qh ?_;unfold yO;omega)
 all_goals try
  (have a1:zKV (l.getD j (0,0,0)) p=zKV (l.getD k (0,0,0)) q:=by assumption
   have a2:zKV (l.getD j (0,0,0)) ((p+1) % 3)=zKV (l.getD k (0,0,0)) ((q+1) % 3):=by assumption
   exact zNT fun h=>(zM7 h (i:=j) (k:=k) (by omega) (show j<l.length by omega)).1 p q (by omega) (by omega) ⟨a1,a2⟩)
 all_goals try
  (have hq2:=hq.2
   have a1: ¬ shE (l.getD j (0,0,0)) (l.getD k (0,0,0)) p q:=by
    rintro ⟨b1,b2⟩
    first|exact absurd b1 (by assumption)|exact absurd b2 (by assumption)
   refine yJ.intro (zA ?_ ?_)
   ·omega
   ·intro b hb
    by_cases e:b=q
    ·subst e;exact a1
    ·exact hq2 b (by omega))
 all_goals try
  (have hq2:=hq.2
   have hp2:=hp.2;have e3:q=3:=by omega
   refine yJ.intro (zA ?_ ?_)
   ·omega
   ·intro a b ha hb
    by_cases e:a=p
    ·subst e;exact hq2 b (by omega)
    ·exact hp2 a b (by omega) hb)
 all_goals try (rw [zDk,if_pos (zGE.1 (by assumption))];done)
 all_goals try (rw [zDk,if_neg (zP3.1 (by assumption))];done)
 all_goals try
  (have a1:zLX (l.getD j (0,0,0)) (l.getD k (0,0,0)) p=3:=by assumption
   have e3:p=3:=by omega
   rw [e3] at a1
   exact zNT fun h=>(zM7 h (i:=j) (k:=k) (by omega) (show j<l.length by omega)).2 a1)
 all_goals try
  (have a1:zLX (l.getD j (0,0,0)) (l.getD k (0,0,0)) p≠3:=by assumption
   have e3:p=3:=by omega
   have hk2:=hk.2;have hp2:=hp.2;rw [e3] at a1 hp2;refine yJ.intro (zA ?_ ?_)
   ·omega
   ·intro a ha
    by_cases e:a=k
    ·subst e;exact ⟨fun x y hx hy=>hp2 x y hx hy,a1⟩
    ·exact hk2 a (by omega))
 all_goals try
  (have hk2:=hk.2
   have hj2:=hj.2;have e3:k=j:=by omega
   refine yJ.intro (zA ?_ ?_)
   ·omega
   ·intro a b hb ha
    by_cases e:a=j
    ·subst e;exact hk2 b (by omega)
    ·exact hj2 a b hb (by omega))
 all_goals try (refine yJ.intro (zA ?_ ?_)<;>first|omega|(intros;omega))
 all_goals try
  (have hv1:(v:Int)<n:=by assumption
   refine zNT fun h=> ?_;have hf:=z0p h (v:=v) hv1
   first
   | exact hf.1 (by assumption)
   | exact absurd hf.2 (by assumption))
 all_goals try
  (have hv1:(v:Int)<n:=by assumption
   have hv2:=hv.2;have b1:(zBZ l v).1≠0:=by assumption
   have b2:(zBZ l v).1=(zBZ l v).2:=by assumption
   refine yJ.intro (zA ?_ ?_)
   ·omega
   ·intro u hu
    by_cases e:u=v
    ·subst e;exact ⟨b1,b2⟩
    ·exact hv2 u (by omega))
 all_goals
  have e1:i=l.length:=by omega
  have e2:j=l.length:=by omega
  have hi2:=hi.2;have hj2:=hj.2;have hv2:=hv.2;have hv1:=hv.1;rw [e1] at hi2;rw [e2] at hj2;refine z4m (zXs (s:=(n,l)) (zA ?_ (zA ?_ (zA ?_ ?_))) ?_ ?_ ?_)
  ·show 0<=n;omega
  ·show n<=4096;omega
  ·show l.length<=8192;omega
  ·intro a ha;have k:=hi2 a ha;unfold zUt at k;exact zGN (by show ¬ ((l.getD a (0,0,0)).1<0\/(l.getD a (0,0,0)).1>=n\/(l.getD a (0,0,0)).2.1<0\/(l.getD a (0,0,0)).2.1>=n\/(l.getD a (0,0,0)).2.2<0\/(l.getD a (0,0,0)).2.2>=n);omega)
  ·intro a ha;exact (hi2 a ha).2.2.2
  ·intro a b hb ha;exact hj2 a b hb ha
  ·intro u hu;have hu:(u:Int)<n:=hu;exact hv2 u (by omega)
def z2L:List AV->Option Res:=zEv qR (fun s=>some (none,none,.s (.bool (isR s))))
theorem z4O:qM Tryz.prog 15 z2L:=⟨zAW fun s r h=>by cases h;exact qL (yM (fn:=[(51,zJN),(52,zTN)]) (fr:=[]) ⟨zLc,z0y,trivial⟩ trivial) Tryz.func15 (by kernel_rfl) fun _ _=>z2X s.1 s.2,_,Tryz.func15,by kernel_rfl,by kernel_rfl⟩
end S1
open Go Go.Vm Go.Proofs
namespace S1
open S9
def zPh (a b:List P3):Spec Nat where
 inv x:=x<=a.length/\∀ i,i<x->a.getD i (0,0,0)=b.getD i (0,0,0)
 live x:=[(5,.s (.int .i64 x))]
 keep:=[2,3]
 heap _:=[]
 keepH:=[0,1]
 mu x:=a.length - x
theorem zW6 {fn} (n m:Int) (a b:List P3) (hl:a.length<=100000):zAG ⟨tyL,fn,[]⟩ Tryz.f26 [qR.av (n,a),qR.av (m,b)] (fun v=>v= .s (.bool (eqS (n,a) (m,b)))):=by
 repeat' (conv=>whnf
          first|done|refine qN (by first|rfl|omega|(simp only [yO] at *;omega)) ?_|apply qH|refine qG fun _=> ?_|apply qB|apply qa|apply qo|refine qe (fun _=> ?_) (fun _=> ?_)|refine qn (fun _=> ?_) (fun _=> ?_)|refine qd (fun _=> ?_) (fun _=> ?_)|apply qt|refine qi (fun _=> ?_) (fun _=> ?_)|(refine qS 4 rfl ?_;refine Or.inr (zB (Nat) (zB (zPh a b) (zA (zB (0) (zA (yJ.out ?_) (zA ?_ (zA ?_ rfl)))) (fun x hx=> ?_)))))|((with_reducible show (∃ y,And (Spec.inv (zPh _ _) y) _));refine zB (x+1) (zA (yJ.out ?_) (zA (zA ?_ (zA ?_ rfl)) (yJ.out ?_))))|refine zA rfl ?_|apply qE|apply qO|exact zN|apply qq|apply qs|refine qK (by kernel_rfl) ?_|apply qr)
 all_goals try first|apply qz1|apply qz2|apply qz3|apply qz4|apply qz5|apply qz6|apply qz7|apply qz8|apply qz9|apply qz0
 all_goals try simp only [zZ,zR,yE,z6,qn1,zY,qn2,zX,ETy.dflt,qn3,qn4,Int.reduceToNat,Int.reduceAdd,Int.reduceSub,Int.reduceNeg,Nat.reduceAdd,zD,zPh,eqS] at *
 all_goals try (refine qh ?_;omega)
 all_goals try exact qh ⟨Nat.zero_le _,fun i hi=>by omega⟩
 all_goals try
  (symm;rw [yP];intro e;cases e;exact absurd rfl (by assumption))
 ·refine yJ.intro ⟨by omega,fun i hi=> ?_⟩
  by_cases e:i=x
  ·subst e;exact Prod.ext ‹_› (Prod.ext ‹_› ‹_›)
  ·exact hx.2 i (by omega)
 ·have e:a=b:=List.ext_getElem (by omega) fun i h1 h2=>by
   have:=hx.2 i (by omega);rwa [gdE,gdE,gE h1,gE h2] at this
  symm;rw [zP,e,show n=m by assumption]
def zJB:List AV->Option Res:=zCs qR qR (fun a b=>some (none,some (a.2.length<=100000),.s (.bool (eqS a b))))
theorem zNa:qM Tryz.prog 26 zJB:=⟨jC fun a b r h=>by cases h;exact qL (yM (fn:=[]) (fr:=[]) trivial trivial) Tryz.func26 (by kernel_rfl) fun _ h=>zW6 a.1 b.1 a.2 b.2 h,_,Tryz.func26,by kernel_rfl,by kernel_rfl⟩
def z1A (s:SoT) (l:EdB):Bool:=decide ((s.2.length:Int)>30)|| (decide (s.1>100)|| decide ((l.length:Int)>12))
def j9:SoT:=(8,[(0,1,2),(2,1,3),(2,3,4),(4,3,5),(4,5,6),(6,5,7)])
theorem zZn {fn} :zAG ⟨tyL,fn,[]⟩ Tryz.f50 [] (fun v=>v=qR.av j9):=by
 repeat' (conv=>whnf
          first|done|refine qN (by first|rfl|omega|(simp only [yO] at *;omega)) ?_|apply qH|refine qG fun _=> ?_|apply qB|apply qa|apply qo|refine qe (fun _=> ?_) (fun _=> ?_)|refine qn (fun _=> ?_) (fun _=> ?_)|refine qd (fun _=> ?_) (fun _=> ?_)|apply qt|refine qi (fun _=> ?_) (fun _=> ?_)|refine zA rfl ?_|apply qE|apply qO|exact zN|apply qq|apply qs|refine qK (by kernel_rfl) ?_|apply qr)
 all_goals try first|apply qz1|apply qz2|apply qz3|apply qz4|apply qz5|apply qz6|apply qz7|apply qz8|apply qz9|apply qz0
 all_goals try simp only [zZ,zR,yE,z6,qn1,zY,qn2,zX,ETy.dflt,qn3,qn4,Int.reduceToNat,Int.reduceAdd,Int.reduceSub,Int.reduceNeg,Nat.reduceAdd,zD] at *
 exact y9.intro rfl
def z5n:List AV->Option Res
 | []=>some (none,none,qR.av j9)
 | _=>none
theorem zZj:qM Tryz.prog 50 z5n:=⟨fun args r h=>by
 cases args with
 | nil=>cases h;exact qL (yM (fn:=[]) (fr:=[]) trivial trivial) Tryz.func50 (by kernel_rfl) fun _ _=>zZn
 | cons a l=>(cases h),_,Tryz.func50,by kernel_rfl,by kernel_rfl⟩
theorem zY6 (n:Int) (l:List P3) (x:yI.T) (hx:zGn (n,l)=some x) (hl:l.length<=40) (h9:zP6 (n,l)=true):zAG ⟨tyL,[(53,zYI),(54,zKz x)],[]⟩ Tryz.f16 [qR.av (n,l)] (fun v=>v=(ETy.pt yI).av (some x)):=by
 repeat' (conv=>whnf
          first|done|refine qN (by first|rfl|omega|(simp only [yO] at *;omega)) ?_|apply qH|refine qG fun _=> ?_|apply qB|apply qa|apply qo|refine qe (fun _=> ?_) (fun _=> ?_)|refine qn (fun _=> ?_) (fun _=> ?_)|refine qd (fun _=> ?_) (fun _=> ?_)|apply qt|refine qi (fun _=> ?_) (fun _=> ?_)|refine zA rfl ?_|apply qE|apply qO|exact zN|apply qq|apply qs|refine qK (by kernel_rfl) ?_|apply qr)
 all_goals try first|apply qz1|apply qz2|apply qz3|apply qz4|apply qz5|apply qz6|apply qz7|apply qz8|apply qz9|apply qz0
 all_goals try simp only [zZ,zR,yE,z6,qn1,zY,qn2,zX,ETy.dflt,qn3,qn4,Int.reduceToNat,Int.reduceAdd,Int.reduceSub,Int.reduceNeg,Nat.reduceAdd,zD] at *
 all_goals first
  | (exfalso;omega)
  | exact qh hx
  | exact absurd (show (S9.allR (n,l)).length=0 by have:=h9;unfold zP6 at this;simpa using this) (by assumption)
  | exact y9.intro rfl
def z7g:List AV->Option Res:=zEv qR (fun s=>some (none,some (zBC s/\s.2.length<=40),(ETy.pt yI).av (some (zAr s))))
theorem z7G:qM Tryz.prog 16 z7g:=⟨zAW fun s r h=>by
 cases h;cases e:zGn s with
 | none=>exact fun σ vals w hag hv=>⟨trivial,fun hq=>absurd (zAy (show zBC s from hq.1)).1 (by rw [e];simp)⟩
 | some x =>
   rw [<- (zHf e).1]
   exact qL (yM (fn:=[(53,zYI),(54,zKz x)]) (fr:=[]) ⟨zY8,(zLM x),trivial⟩ trivial) Tryz.func16 (by kernel_rfl) fun _ h=>zY6 s.1 s.2 x e h.2 ((zYB s).2 h.1),_,Tryz.func16,by kernel_rfl,by kernel_rfl⟩
end S1
open Go Go.Vm Go.Proofs
namespace S1
open S9
theorem z6t {s:SoT} (hs:zBC s):Full (zAr s)/\jU (InN (zAr s).1.1) (zAr s).1.2:=by
 obtain ⟨_,g,e⟩:=zAy hs;exact ⟨g,zA8 (s:=(zAr s).1) (by rw [e];exact hs)⟩
def z9D (x:yI.T) (a b:Int) (l:List Int):Int :=
 if !zAO x a b then 1 else if (zDb x a b).length=2/\zAU x a=false/\zAU x b=false then 2
 else if zSz (zDb x a b) l=false then 3 else if zB1 x a then 4 else 0
theorem zWi (x:yI.T) (a b:Int):zD2 x a b=z9D x a b (zGV x a b):=rfl
theorem zUk {x:yI.T} {a b:Int} {l0 l:List Int} (hne:a≠b) (hl:((zDE x a).filter fun v=>zDw v (zDE x b))=l0) (hp:l0.Perm l) (hs:l.Pairwise (·<=·)):zGV x a b=l:=by
 unfold zGV;rw [if_neg hne,hl];exact zMn ((zG3 _).trans hp) (zGx _) hs
def awL:EdB:=[(0,1),(7,6)]
def awM:EdB:=[(0,1),(3,2)]
theorem zDn:zBC j9:=(zD4 _).1 (by rw [z3w];decide +kernel)
theorem zVG:zD2 (zAr j9) 0 1=0:=by
 rw [zWi,zUk (l0:=[2]) (l:=[2]) (by decide) (by decide +kernel) (.refl _) (by decide)];decide +kernel
theorem zYK:zD2 (zAr j9) 7 6=0:=by
 rw [zWi,zUk (l0:=[5]) (l:=[5]) (by decide) (by decide +kernel) (.refl _) (by decide)];decide +kernel
theorem zTV:z0j j9 awL:=by
 obtain ⟨_,g,e⟩:=zAy zDn;have hm:jU (InN (zAr j9).1.1) (zAr j9).1.2:=zA8 (s:=(zAr j9).1) (by rw [e];exact zDn);refine ⟨zDn,fun d hd=> ?_,?_⟩
 ·rw [<- e];rcases zT.1 hd with h|h
  ·rw [h];exact (zJk g hm).1 zVG
  ·rw [zF.1 h];exact (zJk g hm).1 zYK
 ·refine List.pairwise_cons.2 ⟨fun d hd=> ?_,List.pairwise_singleton _ _⟩;rw [zF.1 hd];exact zPz.1 (by decide +kernel)
theorem z2D:zM3 (some (zAr j9)) awL=true:=(zLO zDn).2 zTV
theorem z7H:zM3 (some (zAr j9)) awM=false:=by
 rw [<- Bool.not_eq_true];intro h;have:=(List.pairwise_cons.1 ((zLO zDn).1 h).apart).1 (3,2) (zF.2 rfl) (2,1,3) (by decide) (.inr (by decide)) (.inl (by decide));exact this
theorem z7c:apB (zAr j9) (0,1) (7,6)=true:=by
 obtain ⟨_,g,e⟩:=zAy zDn;unfold apB;rw [show zAO (zAr j9) (0,1).1 (0,1).2=true from (zPt zVG).1,show zAO (zAr j9) (7,6).1 (7,6).2=true from (zPt zYK).1];exact (zXq g).2 (by rw [e];exact zPz.1 (by decide +kernel))
theorem z9I:zRo j9 awL=0:=by
 unfold zRo;rw [if_pos ((zCW _).2 zDn),if_pos z2D]
theorem z8D:z72 j9 awL 2:=zRQ zTV 2 (zI _)
theorem z6R:(doK j9 awL 2).1.2.length=4:=by
 have h0:=zRQ zTV 0 (Nat.zero_le _);have s0:=zMG h0 (show 0<awL.length by decide);have s1:=zMG s0.2.2.2 (show 1<awL.length by decide);have e1:(doK j9 awL 1).1=z1L j9 0 1:=s0.2.1;have n7:zAx (doK j9 awL 1).2 7=6:=(s0.2.2.1 7 (show (0:Int)<=7 by decide)).1;have n6:zAx (doK j9 awL 1).2 6=5:=(s0.2.2.1 6 (show (0:Int)<=6 by decide)).1;have e2:(doK j9 awL 2).1=z1L (doK j9 awL 1).1 (zAx (doK j9 awL 1).2 7) (zAx (doK j9 awL 1).2 6):=s1.2.1
 rw [e2,e1,n7,n6];decide +kernel
theorem z9M {r:SoT×List zAK×Int} (e:doB j9 awL=r):r.2.2=0/\r.2.1.length=2/\r.1.1=6/\r.1.2.length=4/\ChB j9 r.1 r.2.1:=by
 rw [zZN z9I] at e;subst e;have h:=z8D;exact ⟨rfl,h.len,by show (doK j9 awL 2).1.1=6;rw [h.num];rfl,z6R,h.ch⟩
end S1
open Go Go.Vm Go.Proofs
namespace S1
def zPI (S:SoT):List AV->Option Res
 | []=>some (none,some (S=j9),qR.av S)
 | _=>none
theorem zUa (S:SoT):qM Tryz.prog 50 (zPI S):=⟨fun args r h=>by
 cases args with
 | nil =>
   cases h;intro σ vals w hag hv;refine ⟨trivial,fun hq=> ?_⟩;have hq:S=j9:=hq;subst hq;exact (zZj.1 [] _ rfl σ vals w hag hv).2 trivial
 | cons a l=>(cases h),_,Tryz.func50,by kernel_rfl,by kernel_rfl⟩
attribute [local irreducible] doB zBp eqS zM3 apB zAr
theorem zSu (S:SoT) (hS:S=j9):zAG ⟨tyL,[(50,zPI S),(16,z7g),(24,z5m),(25,zN0 S),(17,zJG),(19,z3x),(26,zJB)],[]⟩ Tryz.f13 [] (fun r=>r= .s (.bool true)):=by
 have m2:List.take 2 (List.drop 0 (((List.replicate 2 ((0:Int),(0:Int))).set 0 (0,1)).set 1 (7,6)))=awL:=rfl;have m3:(((List.replicate 2 ((0:Int),(0:Int))).set 0 (0,1)).set 1 (3,2))=awM:=rfl;have hs:zBC S:=by rw [hS];exact zDn
 have hl:List.length S.2=6:=by rw [hS];rfl
 obtain ⟨f1,f2,f3,f4,f5⟩:=z9M (r:=doB S awL) (by rw [hS]);have f5:ChB S (doB S awL).1 (doB S awL).2.1:=by have:=f5;rw [<- hS] at this;exact this
 have his1:zM3 (some (zAr S)) awL=true:=by rw [hS];exact z2D
 have his2:zM3 (some (zAr S)) awM=false:=by rw [hS];exact z7H
 have hap:apB (zAr S) (0,1) (7,6)=true:=by rw [hS];exact z7c
 have hg:=z6t hs
 repeat' (conv=>whnf
          first|done|refine qN (by first|rfl|omega|(simp only [yO] at *;omega)) ?_|apply qH|refine qG fun _=> ?_|apply qB|apply qa|apply qo|refine qe (fun _=> ?_) (fun _=> ?_)|refine qn (fun _=> ?_) (fun _=> ?_)|refine qd (fun _=> ?_) (fun _=> ?_)|apply qt|refine qi (fun _=> ?_) (fun _=> ?_)|refine zA rfl ?_|apply qE|apply qO|exact zN|apply qq|apply qs|refine qK (by kernel_rfl) ?_|apply qr)
 all_goals try first|apply qz1|apply qz2|apply qz3|apply qz4|apply qz5|apply qz6|apply qz7|apply qz8|apply qz9|apply qz0
 all_goals try simp only [zZ,zR,yE,z6,qn1,zY,qn2,zX,ETy.dflt,qn3,qn4,Int.reduceToNat,Int.reduceAdd,Int.reduceSub,Int.reduceNeg,Nat.reduceAdd,zD] at *
 all_goals try simp only [m2,m3] at *
 all_goals first
  | exact qh ⟨hs,by rw [hl];decide⟩
  | exact qh ⟨hs,by decide⟩
  | exact qh ⟨f5,by rw [f2];decide,show List.length (doB S awL).1.2<=8192 by rw [f4];decide⟩
  | exact qh ⟨by decide,by decide⟩
  | exact qh (fun y h=>by cases h;exact hg.1.toGood)
  | exact qh ⟨fun y h=>by cases h;exact hg,by decide⟩
  | exact qh (show List.length S.2<=100000 by rw [hl];decide)
  | exact zHj _
  | (have h:zM3 (some (zAr S)) awM=true:=by assumption
     rw [his2] at h;cases h)
  | (have h:zM3 (some (zAr S)) awL=false:=by assumption
     rw [his1] at h;cases h)
  | (have h:apB (zAr S) (0,1) (7,6)=false:=by assumption
     rw [hap] at h;cases h)
  | exact absurd f1 (by assumption)
  | exact absurd f3 (by assumption)
  | exact absurd (show ((doB S awL).2.1.length:Int)=2 by rw [f2];rfl) (by assumption)
  | exact absurd (show ((List.length (doB S awL).1.2:Nat):Int)=4 by rw [f4];rfl) (by assumption)
def zKy:List AV->Option Res
 | []=>some (none,none,.s (.bool true))
 | _=>none
theorem zS2:qM Tryz.prog 13 zKy:=⟨fun args r h=>by
 cases args with
 | nil =>
   cases h;obtain ⟨S,hS⟩: ∃ S,S=j9:=⟨_,rfl⟩;exact qL (yM (fn:=[(50,zPI S),(16,z7g),(24,z5m),(25,zN0 S),(17,zJG),(19,z3x),(26,zJB)]) (fr:=[]) ⟨(zUa S),z7G,z2J,(zSB S),zNm,zT1,zNa,trivial⟩ trivial) Tryz.func13 (by kernel_rfl) fun _ _=>zSu S hS
 | cons a l=>(cases h),_,Tryz.func13,by kernel_rfl,by kernel_rfl⟩
end S1
open Go Go.Vm Go.Proofs
namespace S1
attribute [local irreducible] doB zBp eqS zD7 zAr isR z1A
end S1
open Go Go.Vm Go.Proofs
namespace S1
theorem z3i {s:SoT} (hs:zBC s):z0j s []:=⟨hs,fun e h=>(by cases h),.nil⟩
theorem z3N {s:SoT} (hs:zBC s):doB s []=(s,[],0):=by
 have hE:zRo s []=0:=by
  unfold zRo;rw [if_pos ((zCW _).2 hs),if_pos ((zLO hs).2 (z3i hs))]
 rw [zZN hE];rfl
theorem z4P {m:Int} (h:m<0\/m>4096):zOe m []=([],2):=by
 have e:zSX m []=2:=by unfold zSX;exact if_pos h
 unfold zOe;rw [if_neg (by rw [e];decide),e]
theorem z2m {m:Int} (h: ¬ (m<0\/m>4096)):zOe m []=(imL [] m.toNat,0):=by
 have e:zSX m []=0:=zUy h fun k _=>by show (0:Int)<=k;omega
 unfold zOe;rw [if_pos e]
theorem z35 {k j:Nat} (h:j<k):(imL [] k).getD j 0=j:=by
 unfold imL;rw [gdE,List.getElem?_map,List.getElem?_range h];rfl
attribute [local irreducible] doB eqS zD7 zAr isR zOe imL
theorem lawBN_vc (n:Int) (l:List P3) (m a0 a1 b0 b1:Int):zAG ⟨tyL,[(13,zKy),(15,z2L),(17,zJG),(19,z3x),(22,zFV),(24,z5m),(25,zN0 (n,l)),(32,zXf),(26,zJB)],[]⟩ Tryz.f9 [qR.av (n,l),y7.av m,ETy.arr2.av (a0,a1),ETy.arr2.av (b0,b1)] (fun r=>r= .s (.bool true)):=by
 repeat' (conv=>whnf
          first|done|refine qN (by first|rfl|omega|(simp only [yO] at *;omega)) ?_|apply qH|refine qG fun _=> ?_|apply qB|apply qa|apply qo|refine qe (fun _=> ?_) (fun _=> ?_)|refine qn (fun _=> ?_) (fun _=> ?_)|refine qd (fun _=> ?_) (fun _=> ?_)|apply qt|refine qi (fun _=> ?_) (fun _=> ?_)|refine zA rfl ?_|apply qE|apply qO|exact zN|apply qq|apply qs|refine qK (by kernel_rfl) ?_|apply qr)
 all_goals try first|apply qz1|apply qz2|apply qz3|apply qz4|apply qz5|apply qz6|apply qz7|apply qz8|apply qz9|apply qz0
 all_goals try simp only [zZ,zR,yE,z6,qn1,zY,qn2,zX,ETy.dflt,qn3,qn4,Int.reduceToNat,Int.reduceAdd,Int.reduceSub,Int.reduceNeg,Nat.reduceAdd,zD] at *
 all_goals try omega
 all_goals try (rw [show isR (n,l)=false by assumption];rfl)
 all_goals try first
  | exact qh (fun y h=>by cases h)
  | exact qh ⟨fun y h=>(by cases h),by decide⟩
  | exact zHj _
 all_goals have hs:zBC (n,l):=(zCW (n,l)).1 (by assumption)
 all_goals have hl30:l.length<=30:=by omega
 all_goals have hd:=z3N hs
 all_goals try first
  | exact qh ⟨hs,by decide⟩
  | exact qh ⟨.nil,by decide,by omega⟩
  | exact qh (fun r h=>by cases h)
  | exact absurd (show (doB (n,l) []).2.2=0 by rw [hd]) (by assumption)
  | exact absurd (show ((doB (n,l) []).2.1.length:Int)=0 by rw [hd];rfl) (by assumption)
  | (rw [show List.length (doB (n,l) []).1.2=l.length by rw [hd]];refine qh ?_;omega)
  | (have h:eqS (doB (n,l) []).1 (n,l)=false:=by assumption
     rw [hd] at h;rw [show eqS (n,l) (n,l)=true from zHj _] at h;cases h)
  | (have h:=z4P (m:=m) (by omega)
     first
     | exact absurd (show (zOe m []).2=2 by rw [h]) (by assumption)
     | exact absurd (show ((zOe m []).1.length:Int)=0 by rw [h];rfl) (by assumption))
  | (have h:=z2m (m:=m) (by omega)
     first
     | exact absurd (show (zOe m []).2=0 by rw [h]) (by assumption)
     | exact absurd (show ((zOe m []).1.length:Int)=m by rw [h,zJW];omega) (by assumption)
     | exact absurd (show (zOe m []).1.getD (m - 1).toNat 0=m - 1 by rw [h,z35 (by omega)];omega) (by assumption))
def lawBNC:List AV->Option Res:=z8f qR y7 .arr2 .arr2 (fun _ _ _ _=>some (none,none,.s (.bool true)))
theorem lawBNRow:qM Tryz.prog 9 lawBNC:=⟨z48 fun s m a b r h=>by
 cases h;obtain ⟨n,l⟩:=s
 exact qL (yM (fn:=[(13,zKy),(15,z2L),(17,zJG),(19,z3x),(22,zFV),(24,z5m),(25,zN0 (n,l)),(32,zXf),(26,zJB)]) (fr:=[]) ⟨zS2,z4O,zNm,zT1,zJZ,z2J,(zSB (n,l)),z0c,zNa,trivial⟩ trivial) Tryz.func9 (by kernel_rfl) fun _ _=>lawBN_vc n l m a.1 a.2 b.1 b.2,_,Tryz.func9,by kernel_rfl,by kernel_rfl⟩
end S1
