/- A part of the proofs of the laws. -/
import Derived.Test.YtlhoihabllompaaGreatY6toY2
set_option linter.unusedSimpArgs false
set_option linter.unusedVariables false
set_option maxHeartbeats 8000000
set_option maxRecDepth 100000
open Go Go.Vm Go.Proofs
namespace S1
def zTo (n:Int) (t:P3):Prop:=(0<=t.1/\t.1<n)/\(0<=t.2.1/\t.2.1<n)/\(0<=t.2.2/\t.2.2<n)/\¬ dgn t
def zWd (n:Int) (l:List P3):Spec Nat where
 inv i:=i<=l.length/\∀ j,j<i->zTo n (l.getD j (0,0,0))
 live i:=[(3,.s (.int .i64 i))]
 keep:=[1,2]
 heap _:=[]
 keepH:=[0]
 mu i:=l.length - i
def zXJ (l:List P3):Spec Nat where
 inv i:=i<=l.length/\∀ j k,k<j->j<i->zQ9 (l.getD j (0,0,0)) (l.getD k (0,0,0))
 live i:=[(6,.s (.int .i64 i))]
 keep:=[1,2]
 heap _:=[]
 keepH:=[0]
 mu i:=l.length - i
def zWD (l:List P3) (i:Nat):Spec Nat where
 inv k:=k<=i/\∀ j,j<k->zQ9 (l.getD i (0,0,0)) (l.getD j (0,0,0))
 live k:=[(7,.s (.int .i64 k))]
 keep:=[1,2,6]
 heap _:=[]
 keepH:=[0]
 mu k:=i - k
def zTt (l:List P3) (i k:Nat):Spec Nat where
 inv p:=p<=3/\∀ a b,a<p->b<3->¬ shE (l.getD i (0,0,0)) (l.getD k (0,0,0)) a b
 live p:=[(9,.s (.int .i64 p)),(8,.s (.int .i64 (zLq (l.getD i (0,0,0)) (l.getD k (0,0,0)) p)))]
 keep:=[1,2,6,7]
 heap _:=[]
 keepH:=[0]
 mu p:=3 - p
def zXq (l:List P3) (i k p:Nat):Spec Nat where
 inv q:=q<=3/\∀ b,b<q->¬ shE (l.getD i (0,0,0)) (l.getD k (0,0,0)) p b
 live q:=[(10,.s (.int .i64 q))]
 keep:=[1,2,6,7,8,9]
 heap _:=[]
 keepH:=[0]
 mu q:=3 - q
def zX4 (n:Int) (l:List P3):Spec Nat where
 inv v:=(v:Int)<=max n 0/\∀ u:Nat,u<v->(zBZ l u).1≠0/\(zBZ l u).1=(zBZ l u).2
 live v:=[(11,.s (.int .i64 v))]
 keep:=[1,2]
 heap _:=[]
 keepH:=[0]
 mu v:=n.toNat - v
theorem zRR (s:SoT):isR s=true↔zBK s:=by
 unfold isR;rw [zP];exact ⟨fun h=>(zD9 s).1 (by rw [h]),fun h=>zQj ((zD9 s).2 h)⟩
theorem zNg {s:SoT} (h:zBK s->False):false=isR s:=by
 cases e:isR s with
 | false=>rfl
 | true=>exact (h ((zRR s).1 e)).elim
theorem z4b {s:SoT} (h:zBK s):true=isR s:=((zRR s).2 h).symm
theorem z9n:(Int.tmod 1 3).toNat=1:=rfl
theorem z9x:(Int.tmod 2 3).toNat=2:=rfl
theorem z9t:(Int.tmod 3 3).toNat=0:=rfl
theorem c30 (t:P3):zKl t 0=t.1:=rfl
theorem c31 (t:P3):zKl t 1=t.2.1:=rfl
theorem c32 (t:P3):zKl t 2=t.2.2:=rfl
theorem z7Z {n:Int} {l:List P3} (h:zBK (n,l)) {i:Nat} (hi:i<l.length):zTo n (l.getD i (0,0,0)):=by
 obtain ⟨a,b,c⟩:=zAH (h.fit.2.2.2 i hi);exact ⟨a,b,c,h.deg i hi⟩
theorem z9q (q:Nat):0<=((q:Int)+1).tmod 3/\((q:Int)+1).tmod 3<3:=by
 have e:((q:Int)+1).tmod 3=((q:Int)+1) % 3:=Int.tmod_eq_emod_of_nonneg (by omega);rw [e];omega
attribute [local irreducible] zLq zBZ isR
theorem z3V (n:Int) (l:List P3):zAG ⟨tyL,[(51,zI7),(52,zUm)],[]⟩ Tryz.f15 [qP.av (n,l)] (fun r=>r= .s (.bool (isR (n,l)))):=by
 repeat' (conv=>whnf
          first|done|refine qN ?_|apply qH|refine qG fun _=> ?_|apply qB|refine qy ?_|refine qw (fun _=> ?_) (fun _=> ?_)|apply qt|refine qi (fun _=> ?_) (fun _=> ?_)|(refine zaB 4 rfl (zWd n l) (0) ?_ ?_ ?_ fun i hi=> ?_)|with_reducible refine zaA (zWd _ _) (i+1) ?_ ?_ ?_ ?_|(refine qS 8 rfl ?_;refine Or.inl (zB (4) ?_))|(refine zaB 13 rfl (zXJ l) (0) ?_ ?_ ?_ fun j hj=> ?_)|with_reducible refine zaA (zXJ _) (j+1) ?_ ?_ ?_ ?_|(refine zaB 16 rfl (zWD l j) (0) ?_ ?_ ?_ fun k hk=> ?_)|with_reducible refine zaA (zWD _ _) (k+1) ?_ ?_ ?_ ?_|(refine zaB 20 rfl (zTt l j k) (0) ?_ ?_ ?_ fun p hp=> ?_)|with_reducible refine zaA (zTt _ _ _) (p+1) ?_ ?_ ?_ ?_|(refine zaB 25 rfl (zXq l j k p) (0) ?_ ?_ ?_ fun q hq=> ?_)|with_reducible refine zaA (zXq _ _ _ _) (q+1) ?_ ?_ ?_ ?_|(refine zaB 32 rfl (zX4 n l) (0) ?_ ?_ ?_ fun v hv=> ?_)|with_reducible refine zaA (zX4 _ _) (v+1) ?_ ?_ ?_ ?_|refine zA rfl ?_|apply qE|apply qO|exact zO|refine qu ?_)
 all_goals try first|refine qz ?_|apply qz5
 all_goals try simp only [z6,zS,yE,zZ,qn1,z7,qn2,zX,ETy.dflt,qn3,qn4,Int.reduceToNat,Int.reduceAdd,Int.reduceSub,Int.reduceNeg,Nat.reduceAdd,zD,zWd,zXJ,zWD,zTt,zXq,zX4,zXs,tmX,z9n,z9x,z9t,c30,c31,c32] at *
 all_goals try
  (refine zNg fun h=> ?_
   have h1:0<=n:=h.fit.1;have h2:n<=4096:=h.fit.2.1;have h3:l.length<=8192:=h.fit.2.2.1
   omega)
 all_goals try exact qh ⟨by decide,by decide⟩
 all_goals try exact qh (z9q _)
 all_goals try (refine yJ.intro (zA (Nat.zero_le _) ?_);intros;omega)
 all_goals try (refine qh ?_;omega)
 all_goals have hi1:=hi.1
 all_goals try
  have hil:(i:Int)<l.length:=by assumption
  refine zNg fun h=> ?_;have ht:=z7Z h (i:=i) (by omega);unfold zTo dgn at ht;omega
 all_goals try
  have hil:(i:Int)<l.length:=by assumption
  refine yJ.intro (zA ?_ ?_)
  ·omega
  ·intro a ha
   by_cases e:a=i
   ·subst e;unfold zTo dgn;omega
   ·exact hi.2 a (by omega)
 all_goals try exact zKY _ _
 all_goals try
  (have hN:=zQS (l.getD j (0,0,0)) (l.getD k (0,0,0)) p
   refine qh ?_;unfold yP;omega)
 all_goals try
  (have a1:zKl (l.getD j (0,0,0)) p=zKl (l.getD k (0,0,0)) q:=by assumption
   have a2:zKl (l.getD j (0,0,0)) ((p+1) % 3)=zKl (l.getD k (0,0,0)) ((q+1) % 3):=by assumption
   exact zNg fun h=>(zNY h (i:=j) (k:=k) (by omega) (show j<l.length by omega)).1 p q (by omega) (by omega) ⟨a1,a2⟩)
 all_goals try
  (have hq2:=hq.2
   have a1: ¬ shE (l.getD j (0,0,0)) (l.getD k (0,0,0)) p q:=by
    rintro ⟨b1,b2⟩
    first|exact absurd b1 (by assumption)|exact absurd b2 (by assumption)
   refine yJ.intro (zA ?_ ?_)
   ·omega
   ·intro b hb
    by_cases e:b=q
    ·subst e;exact a1
    ·exact hq2 b (by omega))
 all_goals try
  (have hq2:=hq.2
   have hp2:=hp.2;have e3:q=3:=by omega
   refine yJ.intro (zA ?_ ?_)
   ·omega
   ·intro a b ha hb
    by_cases e:a=p
    ·subst e;exact hq2 b (by omega)
    ·exact hp2 a b (by omega) hb)
 all_goals try (rw [zDu,if_pos (zG2.1 (by assumption))];done)
 all_goals try (rw [zDu,if_neg (zP4.1 (by assumption))];done)
 all_goals try
  (have a1:zLq (l.getD j (0,0,0)) (l.getD k (0,0,0)) p=3:=by assumption
   have e3:p=3:=by omega
   rw [e3] at a1
   exact zNg fun h=>(zNY h (i:=j) (k:=k) (by omega) (show j<l.length by omega)).2 a1)
 all_goals try
  (have a1:zLq (l.getD j (0,0,0)) (l.getD k (0,0,0)) p≠3:=by assumption
   have e3:p=3:=by omega
   have hk2:=hk.2;have hp2:=hp.2;rw [e3] at a1 hp2;refine yJ.intro (zA ?_ ?_)
   ·omega
   ·intro a ha
    by_cases e:a=k
    ·subst e;exact ⟨fun x y hx hy=>hp2 x y hx hy,a1⟩
    ·exact hk2 a (by omega))
 all_goals try
  (have hk2:=hk.2
   have hj2:=hj.2;have e3:k=j:=by omega
   refine yJ.intro (zA ?_ ?_)
   ·omega
   ·intro a b hb ha
    by_cases e:a=j
    ·subst e;exact hk2 b (by omega)
    ·exact hj2 a b hb (by omega))
 all_goals try (refine yJ.intro (zA ?_ ?_)<;>first|omega|(intros;omega))
 all_goals try
  (have hv1:(v:Int)<n:=by assumption
   refine zNg fun h=> ?_;have hf:=zZt h (v:=v) hv1
   first
   | exact hf.1 (by assumption)
   | exact absurd hf.2 (by assumption))
 all_goals try
  (have hv1:(v:Int)<n:=by assumption
   have hv2:=hv.2;have b1:(zBZ l v).1≠0:=by assumption
   have b2:(zBZ l v).1=(zBZ l v).2:=by assumption
   refine yJ.intro (zA ?_ ?_)
   ·omega
   ·intro u hu
    by_cases e:u=v
    ·subst e;exact ⟨b1,b2⟩
    ·exact hv2 u (by omega))
 all_goals
  have e1:i=l.length:=by omega
  have e2:j=l.length:=by omega
  have hi2:=hi.2;have hj2:=hj.2;have hv2:=hv.2;have hv1:=hv.1;rw [e1] at hi2;rw [e2] at hj2;refine z4b (zWb (s:=(n,l)) (zA ?_ (zA ?_ (zA ?_ ?_))) ?_ ?_ ?_)
  ·show 0<=n;omega
  ·show n<=4096;omega
  ·show l.length<=8192;omega
  ·intro a ha;have k:=hi2 a ha;unfold zTo at k;exact zG0 (by show ¬ ((l.getD a (0,0,0)).1<0\/(l.getD a (0,0,0)).1>=n\/(l.getD a (0,0,0)).2.1<0\/(l.getD a (0,0,0)).2.1>=n\/(l.getD a (0,0,0)).2.2<0\/(l.getD a (0,0,0)).2.2>=n);omega)
  ·intro a ha;exact (hi2 a ha).2.2.2
  ·intro a b hb ha;exact hj2 a b hb ha
  ·intro u hu;have hu:(u:Int)<n:=hu;exact hv2 u (by omega)
def z42:List AV->Option Res:=zEz qP (fun s=>some (none,none,.s (.bool (isR s))))
theorem z4t:qM Tryz.prog 15 z42:=mkR (zA1 fun s r h=>by cases h;exact fb (by exact ⟨zLs,zZk,trivial⟩) Tryz.func15 fun _ _=>z3V s.1 s.2) Tryz.func15
end S1
open Go Go.Vm Go.Proofs
namespace S1
open S9
def zPO (a b:List P3):Spec Nat where
 inv x:=x<=a.length/\∀ i,i<x->a.getD i (0,0,0)=b.getD i (0,0,0)
 live x:=[(5,.s (.int .i64 x))]
 keep:=[2,3]
 heap _:=[]
 keepH:=[0,1]
 mu x:=a.length - x
theorem zTk {fn} (n m:Int) (a b:List P3) (hl:a.length<=100000):zAG ⟨tyL,fn,[]⟩ Tryz.f26 [qP.av (n,a),qP.av (m,b)] (fun v=>v= .s (.bool (eqS (n,a) (m,b)))):=by
 repeat' (conv=>whnf
          first|done|refine qN ?_|apply qH|refine qG fun _=> ?_|apply qB|refine qy ?_|refine qw (fun _=> ?_) (fun _=> ?_)|apply qt|refine qi (fun _=> ?_) (fun _=> ?_)|(refine zaB 4 rfl (zPO a b) (0) ?_ ?_ ?_ fun x hx=> ?_)|with_reducible refine zaA (zPO _ _) (x+1) ?_ ?_ ?_ ?_|refine zA rfl ?_|apply qE|apply qO|exact zO|refine qu ?_)
 all_goals try first|refine qz ?_|apply qz5
 all_goals try simp only [z6,zS,yE,zZ,qn1,z7,qn2,zX,ETy.dflt,qn3,qn4,Int.reduceToNat,Int.reduceAdd,Int.reduceSub,Int.reduceNeg,Nat.reduceAdd,zD,zPO,eqS] at *
 all_goals try (refine qh ?_;omega)
 all_goals try exact qh ⟨Nat.zero_le _,fun i hi=>by omega⟩
 all_goals try
  (symm;rw [yM];intro e;cases e;exact absurd rfl (by assumption))
 ·refine yJ.intro ⟨by omega,fun i hi=> ?_⟩
  by_cases e:i=x
  ·subst e;exact Prod.ext ‹_› (Prod.ext ‹_› ‹_›)
  ·exact hx.2 i (by omega)
 ·have e:a=b:=List.ext_getElem (by omega) fun i h1 h2=>by
   have:=hx.2 i (by omega);rwa [gdE,gdE,gE h1,gE h2] at this
  symm;rw [zP,e,show n=m by assumption]
def zIa:List AV->Option Res:=zCr qP qP (fun a b=>some (none,some (a.2.length<=100000),.s (.bool (eqS a b))))
theorem zOc:qM Tryz.prog 26 zIa:=mkR (jD fun a b r h=>by cases h;exact fb (fn:=[]) trivial Tryz.func26 fun _ h=>zTk a.1 b.1 a.2 b.2 h) Tryz.func26
def zC9 (s:SoT) (l:EdB):Bool:=decide ((s.2.length:Int)>30)|| (decide (s.1>100)|| decide ((l.length:Int)>12))
theorem zS8 {fn} (n:Int) (a:List P3) (l:EdB):zAG ⟨tyL,fn,[]⟩ Tryz.f14 [qP.av (n,a),(ETy.sl .arr2).av l] (fun v=>v= .s (.bool (zC9 (n,a) l))):=by
 repeat' (conv=>whnf
          first|done|refine qN ?_|apply qH|refine qG fun _=> ?_|apply qB|refine qy ?_|refine qw (fun _=> ?_) (fun _=> ?_)|apply qt|refine qi (fun _=> ?_) (fun _=> ?_)|refine zA rfl ?_|apply qE|apply qO|exact zO|refine qu ?_)
 all_goals try first|refine qz ?_|apply qz5
 all_goals try simp only [z6,zS,yE,zZ,qn1,z7,qn2,zX,ETy.dflt,qn3,qn4,Int.reduceToNat,Int.reduceAdd,Int.reduceSub,Int.reduceNeg,Nat.reduceAdd,zD,zC9] at *
 ·rw [decide_eq_true (by assumption)];rfl
 ·rw [decide_eq_false (by assumption),decide_eq_true (by assumption)];rfl
 ·rw [decide_eq_false (p:=(a.length:Int)>30) (by assumption),decide_eq_false (p:=n>100) (by assumption)];rfl
def zLm:List AV->Option Res:=zCr qP (.sl .arr2) (fun s l=>some (none,none,.s (.bool (zC9 s l))))
theorem zSf:qM Tryz.prog 14 zLm:=mkR (jD fun s l r h=>by cases h;exact fb (fn:=[]) trivial Tryz.func14 fun _ _=>zS8 s.1 s.2 l) Tryz.func14
def j9:SoT:=(8,[(0,1,2),(2,1,3),(2,3,4),(4,3,5),(4,5,6),(6,5,7)])
theorem zZO {fn} :zAG ⟨tyL,fn,[]⟩ Tryz.f50 [] (fun v=>v=qP.av j9):=by
 repeat' (conv=>whnf
          first|done|refine qN ?_|apply qH|refine qG fun _=> ?_|apply qB|refine qy ?_|refine qw (fun _=> ?_) (fun _=> ?_)|apply qt|refine qi (fun _=> ?_) (fun _=> ?_)|refine zA rfl ?_|apply qE|apply qO|exact zO|refine qu ?_)
 all_goals try first|refine qz ?_|apply qz5
 all_goals try simp only [z6,zS,yE,zZ,qn1,z7,qn2,zX,ETy.dflt,qn3,qn4,Int.reduceToNat,Int.reduceAdd,Int.reduceSub,Int.reduceNeg,Nat.reduceAdd,zD] at *
 exact y9.intro rfl
def z6e:List AV->Option Res
 | []=>some (none,none,qP.av j9)
 | _=>none
theorem zZy:qM Tryz.prog 50 z6e:=⟨fun args r h=>by
 cases args with
 | nil=>cases h;exact fb (fn:=[]) trivial Tryz.func50 fun _ _=>zZO
 | cons a l=>(cases h),_,Tryz.func50,by kernel_rfl,by kernel_rfl⟩
theorem z1V (n:Int) (l:List P3) (x:yI.T) (hx:zHP (n,l)=some x) (hl:l.length<=40) (h9:zPa (n,l)=true):zAG ⟨tyL,[(53,zVn),(54,zKs x)],[]⟩ Tryz.f16 [qP.av (n,l)] (fun v=>v=(ETy.pt yI).av (some x)):=by
 repeat' (conv=>whnf
          first|done|refine qN ?_|apply qH|refine qG fun _=> ?_|apply qB|refine qy ?_|refine qw (fun _=> ?_) (fun _=> ?_)|apply qt|refine qi (fun _=> ?_) (fun _=> ?_)|refine zA rfl ?_|apply qE|apply qO|exact zO|refine qu ?_)
 all_goals try first|refine qz ?_|apply qz5
 all_goals try simp only [z6,zS,yE,zZ,qn1,z7,qn2,zX,ETy.dflt,qn3,qn4,Int.reduceToNat,Int.reduceAdd,Int.reduceSub,Int.reduceNeg,Nat.reduceAdd,zD] at *
 all_goals first
  | (exfalso;omega)
  | exact qh hx
  | exact absurd (show (S9.allR (n,l)).length=0 by have:=h9;unfold zPa at this;simpa using this) (by assumption)
  | exact y9.intro rfl
def z7U:List AV->Option Res:=zEz qP (fun s=>some (none,some (zBK s/\s.2.length<=40),(ETy.pt yI).av (some (zAa s))))
theorem z1t:qM Tryz.prog 16 z7U:=mkR (zA1 fun s r h=>by
 cases h;cases e:zHP s with
 | none=>exact fun σ vals w hag hv=>⟨trivial,fun hq=>absurd (zAu (show zBK s from hq.1)).1 (by rw [e];simp)⟩
 | some x =>
   rw [<- (zHj e).1]
   exact fb (fn:=[(53,zVn),(54,zKs x)]) ⟨z13,(zMB x),trivial⟩ Tryz.func16 fun _ h=>z1V s.1 s.2 x e h.2 ((zTb s).2 h.1)) Tryz.func16
end S1
open Go Go.Vm Go.Proofs
namespace S1
open S9
theorem zV8 {s:SoT} (hs:zBK s):Full (zAa s)/\jV (InN (zAa s).1.1) (zAa s).1.2:=by
 obtain ⟨_,g,e⟩:=zAu hs;exact ⟨g,zAc (s:=(zAa s).1) (by rw [e];exact hs)⟩
theorem zTU {s:SoT} (hs:zBK s) (es:EdB):zFG s (zAh (zAa s) es):=by
 obtain ⟨_,g,e⟩:=zAu hs;have h:=zLL g (zV8 hs).2 es es.length;exact ⟨hs,by rw [<- e];exact h.free,by rw [<- e];exact h.apart⟩
def z9r (x:yI.T) (a b:Int) (l:List Int):Int :=
 if !zAQ x a b then 1 else if (zDf x a b).length=2/\zAY x a=false/\zAY x b=false then 2
 else if zTH (zDf x a b) l=false then 3 else if zB2 x a then 4 else 0
theorem zTu (x:yI.T) (a b:Int):zDV x a b=z9r x a b (zGc x a b):=rfl
theorem zUc {x:yI.T} {a b:Int} {l0 l:List Int} (hne:a≠b) (hl:((zCz x a).filter fun v=>zDv v (zCz x b))=l0) (hp:l0.Perm l) (hs:l.Pairwise (·<=·)):zGc x a b=l:=by
 unfold zGc;rw [if_neg hne,hl];exact zMy ((zG9 _).trans hp) (zHB _) hs
def awL:EdB:=[(0,1),(7,6)]
def awM:EdB:=[(0,1),(3,2)]
theorem zEO:zBK j9:=(zD9 _).1 (by rw [z4T];decide +kernel)
theorem zYm:zDV (zAa j9) 0 1=0:=by
 rw [zTu,zUc (l0:=[2]) (l:=[2]) (by decide) (by decide +kernel) (.refl _) (by decide)];decide +kernel
theorem zVl:zDV (zAa j9) 7 6=0:=by
 rw [zTu,zUc (l0:=[5]) (l:=[5]) (by decide) (by decide +kernel) (.refl _) (by decide)];decide +kernel
theorem zXv:zFG j9 awL:=by
 obtain ⟨_,g,e⟩:=zAu zEO;have hm:jV (InN (zAa j9).1.1) (zAa j9).1.2:=zAc (s:=(zAa j9).1) (by rw [e];exact zEO);refine ⟨zEO,fun d hd=> ?_,?_⟩
 ·rw [<- e];rcases zT.1 hd with h|h
  ·rw [h];exact (zKH g hm).1 zYm
  ·rw [zF.1 h];exact (zKH g hm).1 zVl
 ·refine List.pairwise_cons.2 ⟨fun d hd=> ?_,List.pairwise_singleton _ _⟩;rw [zF.1 hd];exact zPn.1 (by decide +kernel)
theorem z1o:zMj (some (zAa j9)) awL=true:=(zGf zEO).2 zXv
theorem z7T:zMj (some (zAa j9)) awM=false:=by
 rw [<- Bool.not_eq_true];intro h;have:=(List.pairwise_cons.1 ((zGf zEO).1 h).apart).1 (3,2) (zF.2 rfl) (2,1,3) (by decide) (.inr (by decide)) (.inl (by decide));exact this
theorem z8p:apB (zAa j9) (0,1) (7,6)=true:=by
 obtain ⟨_,g,e⟩:=zAu zEO;unfold apB;rw [show zAQ (zAa j9) (0,1).1 (0,1).2=true from (zQW zYm).1,show zAQ (zAa j9) (7,6).1 (7,6).2=true from (zQW zVl).1];exact (zW3 g).2 (by rw [e];exact zPn.1 (by decide +kernel))
theorem z9u:zMh j9 awL=0:=by
 unfold zMh;rw [if_pos ((zB4 _).2 zEO),if_pos z1o]
theorem z8q:z7x j9 awL 2:=zFF zXv 2 (zI _)
theorem z8G:(doK j9 awL 2).1.2.length=4:=by
 have h0:=zFF zXv 0 (Nat.zero_le _);have s0:=zFT h0 (show 0<awL.length by decide);have s1:=zFT s0.2.2.2 (show 1<awL.length by decide);have e1:(doK j9 awL 1).1=zZv j9 0 1:=s0.2.1;have n7:zAV (doK j9 awL 1).2 7=6:=(s0.2.2.1 7 (show (0:Int)<=7 by decide)).1;have n6:zAV (doK j9 awL 1).2 6=5:=(s0.2.2.1 6 (show (0:Int)<=6 by decide)).1;have e2:(doK j9 awL 2).1=zZv (doK j9 awL 1).1 (zAV (doK j9 awL 1).2 7) (zAV (doK j9 awL 1).2 6):=s1.2.1
 rw [e2,e1,n7,n6];decide +kernel
theorem z9p {r:SoT×List zAJ×Int} (e:doB j9 awL=r):r.2.2=0/\r.2.1.length=2/\r.1.1=6/\r.1.2.length=4/\ChB j9 r.1 r.2.1:=by
 rw [zSZ z9u] at e;subst e;have h:=z8q;exact ⟨rfl,h.len,by show (doK j9 awL 2).1.1=6;rw [h.num];rfl,z8G,h.ch⟩
end S1
open Go Go.Vm Go.Proofs
namespace S1
def zPE (S:SoT):List AV->Option Res
 | []=>some (none,some (S=j9),qP.av S)
 | _=>none
theorem zVQ (S:SoT):qM Tryz.prog 50 (zPE S):=⟨fun args r h=>by
 cases args with
 | nil =>
   cases h;intro σ vals w hag hv;refine ⟨trivial,fun hq=> ?_⟩;have hq:S=j9:=hq;subst hq;exact (zZy.1 [] _ rfl σ vals w hag hv).2 trivial
 | cons a l=>(cases h),_,Tryz.func50,by kernel_rfl,by kernel_rfl⟩
attribute [local irreducible] doB zBe eqS zMj apB zAa
theorem zSv (S:SoT) (hS:S=j9):zAG ⟨tyL,[(50,zPE S),(16,z7U),(24,z6P),(25,zY6 S),(17,zPe),(19,z7L),(26,zIa)],[]⟩ Tryz.f13 [] (fun r=>r= .s (.bool true)):=by
 have m2:List.take 2 (List.drop 0 (((List.replicate 2 ((0:Int),(0:Int))).set 0 (0,1)).set 1 (7,6)))=awL:=rfl;have m3:(((List.replicate 2 ((0:Int),(0:Int))).set 0 (0,1)).set 1 (3,2))=awM:=rfl;have hs:zBK S:=by rw [hS];exact zEO
 have hl:List.length S.2=6:=by rw [hS];rfl
 obtain ⟨f1,f2,f3,f4,f5⟩:=z9p (r:=doB S awL) (by rw [hS]);have f5:ChB S (doB S awL).1 (doB S awL).2.1:=by have:=f5;rw [<- hS] at this;exact this
 have his1:zMj (some (zAa S)) awL=true:=by rw [hS];exact z1o
 have his2:zMj (some (zAa S)) awM=false:=by rw [hS];exact z7T
 have hap:apB (zAa S) (0,1) (7,6)=true:=by rw [hS];exact z8p
 have hg:=zV8 hs
 repeat' (conv=>whnf
          first|done|refine qN ?_|apply qH|refine qG fun _=> ?_|apply qB|refine qy ?_|refine qw (fun _=> ?_) (fun _=> ?_)|apply qt|refine qi (fun _=> ?_) (fun _=> ?_)|refine zA rfl ?_|apply qE|apply qO|exact zO|refine qu ?_)
 all_goals try first|refine qz ?_|apply qz5
 all_goals try simp only [z6,zS,yE,zZ,qn1,z7,qn2,zX,ETy.dflt,qn3,qn4,Int.reduceToNat,Int.reduceAdd,Int.reduceSub,Int.reduceNeg,Nat.reduceAdd,zD] at *
 all_goals try simp only [m2,m3] at *
 all_goals first
  | exact qh ⟨hs,by rw [hl];decide⟩
  | exact qh ⟨hs,by decide⟩
  | exact qh ⟨f5,by rw [f2];decide,show List.length (doB S awL).1.2<=8192 by rw [f4];decide⟩
  | exact qh ⟨by decide,by decide⟩
  | exact qh (fun y h=>by cases h;exact hg.1.toGood)
  | exact qh ⟨fun y h=>by cases h;exact hg,by decide⟩
  | exact qh (show List.length S.2<=100000 by rw [hl];decide)
  | exact zHy _
  | (have h:zMj (some (zAa S)) awM=true:=by assumption
     rw [his2] at h;cases h)
  | (have h:zMj (some (zAa S)) awL=false:=by assumption
     rw [his1] at h;cases h)
  | (have h:apB (zAa S) (0,1) (7,6)=false:=by assumption
     rw [hap] at h;cases h)
  | exact absurd f1 (by assumption)
  | exact absurd f3 (by assumption)
  | exact absurd (show ((doB S awL).2.1.length:Int)=2 by rw [f2];rfl) (by assumption)
  | exact absurd (show ((List.length (doB S awL).1.2:Nat):Int)=4 by rw [f4];rfl) (by assumption)
def zLd:List AV->Option Res
 | []=>some (none,none,.s (.bool true))
 | _=>none
theorem zTA:qM Tryz.prog 13 zLd:=⟨fun args r h=>by
 cases args with
 | nil =>
   cases h;obtain ⟨S,hS⟩: ∃ S,S=j9:=⟨_,rfl⟩;exact fb (fn:=[(50,zPE S),(16,z7U),(24,z6P),(25,zY6 S),(17,zPe),(19,z7L),(26,zIa)]) ⟨(zVQ S),z1t,z2N,(z1b S),zWl,z2S,zOc,trivial⟩ Tryz.func13 fun _ _=>zSv S hS
 | cons a l=>(cases h),_,Tryz.func13,by kernel_rfl,by kernel_rfl⟩
end S1
open Go Go.Vm Go.Proofs
namespace S1
theorem zSs {s:SoT} {l:EdB} (h:zC9 s l=false):s.2.length<=30/\s.1<=100/\l.length<=12:=by
 unfold zC9 at h;rw [Bool.or_eq_false_iff,Bool.or_eq_false_iff,yM,yM,yM] at h;omega
theorem zS2 (x:yI.T) (l:EdB):(zAh x l).length<=l.length:=zM1 x l l.length
attribute [local irreducible] doB zBe eqS zAh zAa isR zC9
end S1
open Go Go.Vm Go.Proofs
namespace S1
theorem zaY (x:yI.T) (l:EdB) (i:Nat): ∀ d,chK x l (i+d)=chK x l i\/∃ e r,okE x (chK x l i) e=true/\chK x l (i+d)=chK x l i++e::r
 | 0=> .inl rfl
 | d + 1=>by
   have ih:=zaY x l i d
   by_cases c:okE x (chK x l (i+d)) (l.getD (i+d) (0,0))=true
   ·right;rcases ih with h|⟨e,r,h1,h2⟩
    ·rw [h] at c;exact ⟨_,[],c,by rw [show i+(d+1)=(i+d)+1 by omega,zNJ (by rw [h];exact c),h]⟩
    ·refine ⟨e,r++[l.getD (i+d) (0,0)],h1,?_⟩;rw [show i+(d+1)=(i+d)+1 by omega,zNJ c,h2];simp
   ·rw [show i+(d+1)=(i+d)+1 by omega,zZW c];exact ih
theorem zab (x:yI.T) (l:EdB) {i:Nat} (hi:i<=l.length):chK x l i=(zAh x l).take (chK x l i).length:=by
 have:=zaY x l i (l.length - i);rw [show i+(l.length - i)=l.length by omega] at this;show _=(chK x l l.length).take _;rcases this with h|⟨e,r,_,h⟩
 ·rw [h,List.take_length]
 ·rw [h];simp
theorem zaq (x:yI.T) (l:EdB) {i:Nat} (hi:i<l.length):okE x (chK x l i) (l.getD i (0,0))=true↔((chK x l i).length<(zAh x l).length/\(zAh x l).getD (chK x l i).length (0,0)=l.getD i (0,0)):=by
 constructor
 ·intro h;have e1:=zab x l (i:=i+1) hi;have e0:=zNJ h;have hl:(chK x l (i+1)).length=(chK x l i).length+1:=by rw [e0,zN];rfl
  rw [hl] at e1
  have h2:(chK x l i).length<(zAh x l).length:=by
   have:=congrArg List.length e1;rw [hl,qZ] at this;omega
  refine ⟨h2,?_⟩;rw [yB h2,<- zab x l (by omega),e0] at e1;have:=(List.append_inj' e1 rfl).2;rw [gdE,gE h2];exact (List.cons.inj this).1.symm
 ·rintro ⟨h1,h2⟩;have:=zaY x l i (l.length - i);rw [show i+(l.length - i)=l.length by omega] at this;rcases this with h|⟨e,r,h3,h⟩
  ·exact absurd h1 (by show ¬ _<(chK x l l.length).length;rw [h];omega)
  ·have e2:(zAh x l).getD (chK x l i).length (0,0)=e:=by
    show (chK x l l.length).getD _ _=e;rw [h,gdE,List.getElem?_append_right (zI _),Nat.sub_self];rfl
   rw [<- h2,e2];exact h3
theorem zas {s:SoT} (hs:zBK s) {l:EdB} {i:Nat} :zMj (some (zAa s)) (chK (zAa s) l i++[l.getD i (0,0)])=true↔okE (zAa s) (chK (zAa s) l i) (l.getD i (0,0))=true:=by
 obtain ⟨_,g,e⟩:=zAu hs;have hm:=(zV8 hs).2;rw [zGf hs,zJH g hm];have hb:=zLL g hm l i;rw [e];constructor
 ·intro h;refine ⟨h.free _ (List.mem_append_right _ (zF.2 rfl)),fun c hc=> ?_⟩;exact (List.pairwise_append.1 h.apart).2.2 c hc _ (zF.2 rfl)
 ·rintro ⟨h1,h2⟩;have:=hb.snoc (e:=l.getD i (0,0)) (by rw [e];exact h1) (by rw [e];exact h2);exact ⟨hs,by rw [<- e];exact this.free,by rw [<- e];exact this.apart⟩
theorem zar {x:yI.T} {C:EdB} {e:Int×Int} (h:okE x C e=true):zDV x e.1 e.2=0:=by
 unfold okE at h;rw [zC,zP] at h;exact h.1
def zaf (x:yI.T) (l:EdB):Spec Nat where
 inv i:=i<=l.length
 live i:=[(8,.s (.int .i64 i)),(7,.s (.int .i64 (chK x l i).length))]
 keep:=[1,5,6]
 heap _:=[]
 keepH:=[]
 mu i:=l.length - i
attribute [local irreducible] chK zAh zAa isR zC9 zDV zMj
theorem lawBC_vc (n:Int) (l:List P3) (es:EdB):zAG ⟨tyL,[(13,zLd),(14,zLm),(15,z42),(16,z7U),(22,zFe),(19,z7L),(27,z7M)],[]⟩ Tryz.f5 [qP.av (n,l),(ETy.sl .arr2).av es] (fun r=>r= .s (.bool true)):=by
 repeat' (conv=>whnf
          first|done|refine qN ?_|apply qH|refine qG fun _=> ?_|apply qB|refine qy ?_|refine qw (fun _=> ?_) (fun _=> ?_)|apply qt|refine qi (fun _=> ?_) (fun _=> ?_)|(refine zaB 11 rfl (zaf (zAa (n,l)) es) (0) ?_ ?_ ?_ fun i hi=> ?_)|with_reducible refine zaA (zaf _ _) (i+1) ?_ ?_ ?_ ?_|refine zA rfl ?_|apply qE|apply qO|exact zO|refine qu ?_)
 all_goals try first|refine qz ?_|apply qz5
 all_goals try simp only [z6,zS,yE,zZ,qn1,z7,qn2,zX,ETy.dflt,qn3,qn4,Int.reduceToNat,Int.reduceAdd,Int.reduceSub,Int.reduceNeg,Nat.reduceAdd,zD,zaf] at *
 all_goals have hg36:=zSs (show zC9 (n,l) es=false by assumption)
 all_goals have hl30:l.length<=30:=hg36.1
 all_goals have hes:List.length es<=12:=hg36.2.2
 all_goals have hs:zBK (n,l):=(zB4 (n,l)).1 (by assumption)
 all_goals have hCl:(zAh (zAa (n,l)) es).length<=List.length es:=zS2 _ _
 all_goals try exact qh ⟨hs,by omega⟩
 all_goals try exact qh ⟨fun y h=>by cases h;exact zV8 hs,by omega⟩
 all_goals try
  have h:zMj (some (zAa (n,l))) (zAh (zAa (n,l)) es)=false:=by assumption
  rw [(zGf hs).2 (zTU hs es)] at h;cases h
 all_goals try first
  | (refine qh ?_;omega)
  | (unfold chK;rfl)
  | exact qh (fun y h=>by cases h;exact (zV8 hs).1.toGood)
 all_goals try
  have ei:i=List.length es:=by omega
  subst ei;unfold zAh;exact beq_self_eq_true _
 all_goals have hi1:i<List.length es:=by omega
 all_goals have hh:=zaq (zAa (n,l)) es hi1
 all_goals have hp:=zab (zAa (n,l)) es (i:=i) (by omega)
 all_goals have hcc:(chK (zAa (n,l)) es i).length<=(zAh (zAa (n,l)) es).length:=by
            have:=congrArg List.length hp;rw [qZ] at this;omega
 all_goals have hq:=zas (l:=es) (i:=i) hs
 all_goals have hcl:(chK (zAa (n,l)) es i).length<=i:=zM1 _ _ _
 all_goals have e1:List.drop 0 (List.take (chK (zAa (n,l)) es i).length (zAh (zAa (n,l)) es))=chK (zAa (n,l)) es i:=by
            rw [List.drop_zero];exact hp.symm
 all_goals have e2:List.take ((chK (zAa (n,l)) es i).length+1) (List.drop 0 (chK (zAa (n,l)) es i++[List.getD es i (0,0)]))=chK (zAa (n,l)) es i++[List.getD es i (0,0)]:=by
            rw [List.drop_zero,List.take_of_length_le (by rw [zN];exact zI _)]
 all_goals try rw [e1]
 all_goals try rw [e2]
 all_goals try first
  | (refine qh ?_;omega)
  | exact qh ⟨fun y h=>by cases h;exact zV8 hs,by rw [zN,List.length_singleton];omega⟩
 all_goals have hlast:List.length (zAh (zAa (n,l)) es)=List.length (zAh (zAa (n,l)) es):=rfl
 all_goals first
  | (have hk:okE (zAa (n,l)) (chK (zAa (n,l)) es i) (List.getD es i (0,0))=true:=hh.2 ⟨by omega,Prod.ext (by assumption) (by assumption)⟩
     first
     | exact absurd (zar hk) (by assumption)
     | (rw [zNJ hk,zN];rfl))
  | (have hk: ¬ okE (zAa (n,l)) (chK (zAa (n,l)) es i) (List.getD es i (0,0))=true:=fun c=>by
      obtain ⟨c1,c2⟩:=hh.1 c
      first
      | exact absurd (congrArg Prod.fst c2) (by assumption)
      | exact absurd (congrArg Prod.snd c2) (by assumption)
      | omega
     first
     | (rw [zZW hk];done)
     | (have key:zMj (some (zAa (n,l))) (List.take ((List.drop 0 (List.take (chK (zAa (n,l)) es i).length (zAh (zAa (n,l)) es))).length+1) (List.drop 0 (List.drop 0 (List.take (chK (zAa (n,l)) es i).length (zAh (zAa (n,l)) es))++[List.getD es i (0,0)])))=true->False:=by
         rw [e1,e2];exact fun h=>hk (hq.1 h)
        first
        | (rename_i hb;exact (key hb).elim)
        | (rename_i hb _;exact (key hb).elim)
        | (rename_i hb _ _;exact (key hb).elim)))
def lawBCC:List AV->Option Res:=zCr qP (.sl .arr2) (fun _ _=>some (none,none,.s (.bool true)))
theorem lawBCRow:qM Tryz.prog 5 lawBCC:=mkR (jD fun s es r h=>by
 cases h;obtain ⟨n,l⟩:=s
 exact fb (fn:=[(13,zLd),(14,zLm),(15,z42),(16,z7U),(22,zFe),(19,z7L),(27,z7M)]) ⟨zTA,zSf,z4t,z1t,zI8,z2S,z26,trivial⟩ Tryz.func5 fun _ _=>lawBC_vc n l es) Tryz.func5
end S1
