/- A part of the proofs of the laws. -/
import Derived.Test.YtlhoihabllompaaGreatR3toY2
import Derived.Test.YtlhoihabllompaaGreatH3toR2
import Derived.Test.YtlhoihabllompaaGreatZ1ptoY5
set_option linter.unusedSimpArgs false
set_option linter.unusedVariables false
set_option maxHeartbeats 8000000
set_option maxRecDepth 100000
open Go Go.Vm Go.Proofs
namespace S1
def zTo (n:Int) (t:P3):Prop:=(0<=t.1/\t.1<n)/\(0<=t.2.1/\t.2.1<n)/\(0<=t.2.2/\t.2.2<n)/\¬ dgn t
def zWd (n:Int) (l:List P3):Spec Nat where
 inv i:=i<=l.length/\∀ j,j<i->zTo n (l.getD j (0,0,0))
 live i:=[(3,.s (.int .i64 i))]
 keep:=[1,2]
 heap _:=[]
 keepH:=[0]
 mu i:=l.length - i
def zXJ (l:List P3):Spec Nat where
 inv i:=i<=l.length/\∀ j k,k<j->j<i->zQ9 (l.getD j (0,0,0)) (l.getD k (0,0,0))
 live i:=[(6,.s (.int .i64 i))]
 keep:=[1,2]
 heap _:=[]
 keepH:=[0]
 mu i:=l.length - i
def zWD (l:List P3) (i:Nat):Spec Nat where
 inv k:=k<=i/\∀ j,j<k->zQ9 (l.getD i (0,0,0)) (l.getD j (0,0,0))
 live k:=[(7,.s (.int .i64 k))]
 keep:=[1,2,6]
 heap _:=[]
 keepH:=[0]
 mu k:=i - k
def zTt (l:List P3) (i k:Nat):Spec Nat where
 inv p:=p<=3/\∀ a b,a<p->b<3->¬ shE (l.getD i (0,0,0)) (l.getD k (0,0,0)) a b
 live p:=[(9,.s (.int .i64 p)),(8,.s (.int .i64 (zLq (l.getD i (0,0,0)) (l.getD k (0,0,0)) p)))]
 keep:=[1,2,6,7]
 heap _:=[]
 keepH:=[0]
 mu p:=3 - p
def zXq (l:List P3) (i k p:Nat):Spec Nat where
 inv q:=q<=3/\∀ b,b<q->¬ shE (l.getD i (0,0,0)) (l.getD k (0,0,0)) p b
 live q:=[(10,.s (.int .i64 q))]
 keep:=[1,2,6,7,8,9]
 heap _:=[]
 keepH:=[0]
 mu q:=3 - q
def zX4 (n:Int) (l:List P3):Spec Nat where
 inv v:=(v:Int)<=max n 0/\∀ u:Nat,u<v->(zBZ l u).1≠0/\(zBZ l u).1=(zBZ l u).2
 live v:=[(11,.s (.int .i64 v))]
 keep:=[1,2]
 heap _:=[]
 keepH:=[0]
 mu v:=n.toNat - v
theorem zRR (s:SoT):isR s=true↔zBK s:=by
 unfold isR;rw [zP];exact ⟨fun h=>(zD9 s).1 (by rw [h]),fun h=>zQj ((zD9 s).2 h)⟩
theorem zNg {s:SoT} (h:zBK s->False):false=isR s:=by
 cases e:isR s with
 | false=>rfl
 | true=>exact (h ((zRR s).1 e)).elim
theorem z4b {s:SoT} (h:zBK s):true=isR s:=((zRR s).2 h).symm
theorem z9n:(Int.tmod 1 3).toNat=1:=rfl
theorem z9x:(Int.tmod 2 3).toNat=2:=rfl
theorem z9t:(Int.tmod 3 3).toNat=0:=rfl
theorem c30 (t:P3):zKl t 0=t.1:=rfl
theorem c31 (t:P3):zKl t 1=t.2.1:=rfl
theorem c32 (t:P3):zKl t 2=t.2.2:=rfl
theorem z7Z {n:Int} {l:List P3} (h:zBK (n,l)) {i:Nat} (hi:i<l.length):zTo n (l.getD i (0,0,0)):=by
 obtain ⟨a,b,c⟩:=zAH (h.fit.2.2.2 i hi);exact ⟨a,b,c,h.deg i hi⟩
theorem z9q (q:Nat):0<=((q:Int)+1).tmod 3/\((q:Int)+1).tmod 3<3:=by
 have e:((q:Int)+1).tmod 3=((q:Int)+1) % 3:=Int.tmod_eq_emod_of_nonneg (by omega);rw [e];omega
attribute [local irreducible] zLq zBZ isR
theorem z3V (n:Int) (l:List P3):zAG ⟨tyL,[(51,zI7),(52,zUm)],[]⟩ Tryz.f15 [qP.av (n,l)] (fun r=>r= .s (.bool (isR (n,l)))):=by
 repeat' (conv=>whnf
          first|done|refine qN ?_|apply qH|refine qG fun _=> ?_|apply qB|apply qa|apply qo|refine qe (fun _=> ?_) (fun _=> ?_)|refine qn (fun _=> ?_) (fun _=> ?_)|refine qd (fun _=> ?_) (fun _=> ?_)|apply qt|refine qi (fun _=> ?_) (fun _=> ?_)|(refine zaB 4 rfl (zWd n l) (0) ?_ ?_ ?_ fun i hi=> ?_)|with_reducible refine zaA (zWd _ _) (i+1) ?_ ?_ ?_ ?_|(refine qS 8 rfl ?_;refine Or.inl (zB (4) ?_))|(refine zaB 13 rfl (zXJ l) (0) ?_ ?_ ?_ fun j hj=> ?_)|with_reducible refine zaA (zXJ _) (j+1) ?_ ?_ ?_ ?_|(refine zaB 16 rfl (zWD l j) (0) ?_ ?_ ?_ fun k hk=> ?_)|with_reducible refine zaA (zWD _ _) (k+1) ?_ ?_ ?_ ?_|(refine zaB 20 rfl (zTt l j k) (0) ?_ ?_ ?_ fun p hp=> ?_)|with_reducible refine zaA (zTt _ _ _) (p+1) ?_ ?_ ?_ ?_|(refine zaB 25 rfl (zXq l j k p) (0) ?_ ?_ ?_ fun q hq=> ?_)|with_reducible refine zaA (zXq _ _ _ _) (q+1) ?_ ?_ ?_ ?_|(refine zaB 32 rfl (zX4 n l) (0) ?_ ?_ ?_ fun v hv=> ?_)|with_reducible refine zaA (zX4 _ _) (v+1) ?_ ?_ ?_ ?_|refine zA rfl ?_|apply qE|apply qO|exact zO|apply qq|apply qs|refine qK (by kernel_rfl) ?_|apply qr)
 all_goals try first|refine qz ?_|apply qz5
 all_goals try simp only [z6,zS,yE,zZ,qn1,z7,qn2,zX,ETy.dflt,qn3,qn4,Int.reduceToNat,Int.reduceAdd,Int.reduceSub,Int.reduceNeg,Nat.reduceAdd,zD,zWd,zXJ,zWD,zTt,zXq,zX4,zXs,tmX,z9n,z9x,z9t,c30,c31,c32] at *
 all_goals try
  (refine zNg fun h=> ?_
   have h1:0<=n:=h.fit.1;have h2:n<=4096:=h.fit.2.1;have h3:l.length<=8192:=h.fit.2.2.1
   omega)
 all_goals try exact qh ⟨by decide,by decide⟩
 all_goals try exact qh (z9q _)
 all_goals try (refine yJ.intro (zA (Nat.zero_le _) ?_);intros;omega)
 all_goals try (refine qh ?_;omega)
 all_goals have hi1:=hi.1
 all_goals try
  have hil:(i:Int)<l.length:=by assumption
  refine zNg fun h=> ?_;have ht:=z7Z h (i:=i) (by omega);unfold zTo dgn at ht;omega
 all_goals try
  have hil:(i:Int)<l.length:=by assumption
  refine yJ.intro (zA ?_ ?_)
  ·omega
  ·intro a ha
   by_cases e:a=i
   ·subst e;unfold zTo dgn;omega
   ·exact hi.2 a (by omega)
 all_goals try exact zKY _ _
 all_goals try
  (have hN:=zQS (l.getD j (0,0,0)) (l.getD k (0,0,0)) p
   refine qh ?_;unfold yP;omega)
 all_goals try
  (have a1:zKl (l.getD j (0,0,0)) p=zKl (l.getD k (0,0,0)) q:=by assumption
   have a2:zKl (l.getD j (0,0,0)) ((p+1) % 3)=zKl (l.getD k (0,0,0)) ((q+1) % 3):=by assumption
   exact zNg fun h=>(zNY h (i:=j) (k:=k) (by omega) (show j<l.length by omega)).1 p q (by omega) (by omega) ⟨a1,a2⟩)
 all_goals try
  (have hq2:=hq.2
   have a1: ¬ shE (l.getD j (0,0,0)) (l.getD k (0,0,0)) p q:=by
    rintro ⟨b1,b2⟩
    first|exact absurd b1 (by assumption)|exact absurd b2 (by assumption)
   refine yJ.intro (zA ?_ ?_)
   ·omega
   ·intro b hb
    by_cases e:b=q
    ·subst e;exact a1
    ·exact hq2 b (by omega))
 all_goals try
  (have hq2:=hq.2
   have hp2:=hp.2;have e3:q=3:=by omega
   refine yJ.intro (zA ?_ ?_)
   ·omega
   ·intro a b ha hb
    by_cases e:a=p
    ·subst e;exact hq2 b (by omega)
    ·exact hp2 a b (by omega) hb)
 all_goals try (rw [zDu,if_pos (zG2.1 (by assumption))];done)
 all_goals try (rw [zDu,if_neg (zP4.1 (by assumption))];done)
 all_goals try
  (have a1:zLq (l.getD j (0,0,0)) (l.getD k (0,0,0)) p=3:=by assumption
   have e3:p=3:=by omega
   rw [e3] at a1
   exact zNg fun h=>(zNY h (i:=j) (k:=k) (by omega) (show j<l.length by omega)).2 a1)
 all_goals try
  (have a1:zLq (l.getD j (0,0,0)) (l.getD k (0,0,0)) p≠3:=by assumption
   have e3:p=3:=by omega
   have hk2:=hk.2;have hp2:=hp.2;rw [e3] at a1 hp2;refine yJ.intro (zA ?_ ?_)
   ·omega
   ·intro a ha
    by_cases e:a=k
    ·subst e;exact ⟨fun x y hx hy=>hp2 x y hx hy,a1⟩
    ·exact hk2 a (by omega))
 all_goals try
  (have hk2:=hk.2
   have hj2:=hj.2;have e3:k=j:=by omega
   refine yJ.intro (zA ?_ ?_)
   ·omega
   ·intro a b hb ha
    by_cases e:a=j
    ·subst e;exact hk2 b (by omega)
    ·exact hj2 a b hb (by omega))
 all_goals try (refine yJ.intro (zA ?_ ?_)<;>first|omega|(intros;omega))
 all_goals try
  (have hv1:(v:Int)<n:=by assumption
   refine zNg fun h=> ?_;have hf:=zZt h (v:=v) hv1
   first
   | exact hf.1 (by assumption)
   | exact absurd hf.2 (by assumption))
 all_goals try
  (have hv1:(v:Int)<n:=by assumption
   have hv2:=hv.2;have b1:(zBZ l v).1≠0:=by assumption
   have b2:(zBZ l v).1=(zBZ l v).2:=by assumption
   refine yJ.intro (zA ?_ ?_)
   ·omega
   ·intro u hu
    by_cases e:u=v
    ·subst e;exact ⟨b1,b2⟩
    ·exact hv2 u (by omega))
 all_goals
  have e1:i=l.length:=by omega
  have e2:j=l.length:=by omega
  have hi2:=hi.2;have hj2:=hj.2;have hv2:=hv.2;have hv1:=hv.1;rw [e1] at hi2;rw [e2] at hj2;refine z4b (zWb (s:=(n,l)) (zA ?_ (zA ?_ (zA ?_ ?_))) ?_ ?_ ?_)
  ·show 0<=n;omega
  ·show n<=4096;omega
  ·show l.length<=8192;omega
  ·intro a ha;have k:=hi2 a ha;unfold zTo at k;exact zG0 (by show ¬ ((l.getD a (0,0,0)).1<0\/(l.getD a (0,0,0)).1>=n\/(l.getD a (0,0,0)).2.1<0\/(l.getD a (0,0,0)).2.1>=n\/(l.getD a (0,0,0)).2.2<0\/(l.getD a (0,0,0)).2.2>=n);omega)
  ·intro a ha;exact (hi2 a ha).2.2.2
  ·intro a b hb ha;exact hj2 a b hb ha
  ·intro u hu;have hu:(u:Int)<n:=hu;exact hv2 u (by omega)
def z42:List AV->Option Res:=zEz qP (fun s=>some (none,none,.s (.bool (isR s))))
theorem z4t:qM Tryz.prog 15 z42:=⟨zA1 fun s r h=>by cases h;exact qL (yN (fn:=[(51,zI7),(52,zUm)]) (fr:=[]) ⟨zLs,zZk,trivial⟩ trivial) Tryz.func15 (by kernel_rfl) fun _ _=>z3V s.1 s.2,_,Tryz.func15,by kernel_rfl,by kernel_rfl⟩
end S1
open Go Go.Vm Go.Proofs
namespace S1
open S9
def zPO (a b:List P3):Spec Nat where
 inv x:=x<=a.length/\∀ i,i<x->a.getD i (0,0,0)=b.getD i (0,0,0)
 live x:=[(5,.s (.int .i64 x))]
 keep:=[2,3]
 heap _:=[]
 keepH:=[0,1]
 mu x:=a.length - x
theorem zTk {fn} (n m:Int) (a b:List P3) (hl:a.length<=100000):zAG ⟨tyL,fn,[]⟩ Tryz.f26 [qP.av (n,a),qP.av (m,b)] (fun v=>v= .s (.bool (eqS (n,a) (m,b)))):=by
 repeat' (conv=>whnf
          first|done|refine qN ?_|apply qH|refine qG fun _=> ?_|apply qB|apply qa|apply qo|refine qe (fun _=> ?_) (fun _=> ?_)|refine qn (fun _=> ?_) (fun _=> ?_)|refine qd (fun _=> ?_) (fun _=> ?_)|apply qt|refine qi (fun _=> ?_) (fun _=> ?_)|(refine zaB 4 rfl (zPO a b) (0) ?_ ?_ ?_ fun x hx=> ?_)|with_reducible refine zaA (zPO _ _) (x+1) ?_ ?_ ?_ ?_|refine zA rfl ?_|apply qE|apply qO|exact zO|apply qq|apply qs|refine qK (by kernel_rfl) ?_|apply qr)
 all_goals try first|refine qz ?_|apply qz5
 all_goals try simp only [z6,zS,yE,zZ,qn1,z7,qn2,zX,ETy.dflt,qn3,qn4,Int.reduceToNat,Int.reduceAdd,Int.reduceSub,Int.reduceNeg,Nat.reduceAdd,zD,zPO,eqS] at *
 all_goals try (refine qh ?_;omega)
 all_goals try exact qh ⟨Nat.zero_le _,fun i hi=>by omega⟩
 all_goals try
  (symm;rw [yM];intro e;cases e;exact absurd rfl (by assumption))
 ·refine yJ.intro ⟨by omega,fun i hi=> ?_⟩
  by_cases e:i=x
  ·subst e;exact Prod.ext ‹_› (Prod.ext ‹_› ‹_›)
  ·exact hx.2 i (by omega)
 ·have e:a=b:=List.ext_getElem (by omega) fun i h1 h2=>by
   have:=hx.2 i (by omega);rwa [gdE,gdE,gE h1,gE h2] at this
  symm;rw [zP,e,show n=m by assumption]
def zIa:List AV->Option Res:=zCr qP qP (fun a b=>some (none,some (a.2.length<=100000),.s (.bool (eqS a b))))
theorem zOc:qM Tryz.prog 26 zIa:=⟨jD fun a b r h=>by cases h;exact qL (yN (fn:=[]) (fr:=[]) trivial trivial) Tryz.func26 (by kernel_rfl) fun _ h=>zTk a.1 b.1 a.2 b.2 h,_,Tryz.func26,by kernel_rfl,by kernel_rfl⟩
def zC9 (s:SoT) (l:EdB):Bool:=decide ((s.2.length:Int)>30)|| (decide (s.1>100)|| decide ((l.length:Int)>12))
theorem zS8 {fn} (n:Int) (a:List P3) (l:EdB):zAG ⟨tyL,fn,[]⟩ Tryz.f14 [qP.av (n,a),(ETy.sl .arr2).av l] (fun v=>v= .s (.bool (zC9 (n,a) l))):=by
 repeat' (conv=>whnf
          first|done|refine qN ?_|apply qH|refine qG fun _=> ?_|apply qB|apply qa|apply qo|refine qe (fun _=> ?_) (fun _=> ?_)|refine qn (fun _=> ?_) (fun _=> ?_)|refine qd (fun _=> ?_) (fun _=> ?_)|apply qt|refine qi (fun _=> ?_) (fun _=> ?_)|refine zA rfl ?_|apply qE|apply qO|exact zO|apply qq|apply qs|refine qK (by kernel_rfl) ?_|apply qr)
 all_goals try first|refine qz ?_|apply qz5
 all_goals try simp only [z6,zS,yE,zZ,qn1,z7,qn2,zX,ETy.dflt,qn3,qn4,Int.reduceToNat,Int.reduceAdd,Int.reduceSub,Int.reduceNeg,Nat.reduceAdd,zD,zC9] at *
 ·rw [decide_eq_true (by assumption)];rfl
 ·rw [decide_eq_false (by assumption),decide_eq_true (by assumption)];rfl
 ·rw [decide_eq_false (p:=(a.length:Int)>30) (by assumption),decide_eq_false (p:=n>100) (by assumption)];rfl
def zLm:List AV->Option Res:=zCr qP (.sl .arr2) (fun s l=>some (none,none,.s (.bool (zC9 s l))))
theorem zSf:qM Tryz.prog 14 zLm:=⟨jD fun s l r h=>by cases h;exact qL (yN (fn:=[]) (fr:=[]) trivial trivial) Tryz.func14 (by kernel_rfl) fun _ _=>zS8 s.1 s.2 l,_,Tryz.func14,by kernel_rfl,by kernel_rfl⟩
def j9:SoT:=(8,[(0,1,2),(2,1,3),(2,3,4),(4,3,5),(4,5,6),(6,5,7)])
theorem zZO {fn} :zAG ⟨tyL,fn,[]⟩ Tryz.f50 [] (fun v=>v=qP.av j9):=by
 repeat' (conv=>whnf
          first|done|refine qN ?_|apply qH|refine qG fun _=> ?_|apply qB|apply qa|apply qo|refine qe (fun _=> ?_) (fun _=> ?_)|refine qn (fun _=> ?_) (fun _=> ?_)|refine qd (fun _=> ?_) (fun _=> ?_)|apply qt|refine qi (fun _=> ?_) (fun _=> ?_)|refine zA rfl ?_|apply qE|apply qO|exact zO|apply qq|apply qs|refine qK (by kernel_rfl) ?_|apply qr)
 all_goals try first|refine qz ?_|apply qz5
 all_goals try simp only [z6,zS,yE,zZ,qn1,z7,qn2,zX,ETy.dflt,qn3,qn4,Int.reduceToNat,Int.reduceAdd,Int.reduceSub,Int.reduceNeg,Nat.reduceAdd,zD] at *
 exact y9.intro rfl
def z6e:List AV->Option Res
 | []=>some (none,none,qP.av j9)
 | _=>none
theorem zZy:qM Tryz.prog 50 z6e:=⟨fun args r h=>by
 cases args with
 | nil=>cases h;exact qL (yN (fn:=[]) (fr:=[]) trivial trivial) Tryz.func50 (by kernel_rfl) fun _ _=>zZO
 | cons a l=>(cases h),_,Tryz.func50,by kernel_rfl,by kernel_rfl⟩
theorem z1V (n:Int) (l:List P3) (x:yI.T) (hx:zHP (n,l)=some x) (hl:l.length<=40) (h9:zPa (n,l)=true):zAG ⟨tyL,[(53,zVn),(54,zKs x)],[]⟩ Tryz.f16 [qP.av (n,l)] (fun v=>v=(ETy.pt yI).av (some x)):=by
 repeat' (conv=>whnf
          first|done|refine qN ?_|apply qH|refine qG fun _=> ?_|apply qB|apply qa|apply qo|refine qe (fun _=> ?_) (fun _=> ?_)|refine qn (fun _=> ?_) (fun _=> ?_)|refine qd (fun _=> ?_) (fun _=> ?_)|apply qt|refine qi (fun _=> ?_) (fun _=> ?_)|refine zA rfl ?_|apply qE|apply qO|exact zO|apply qq|apply qs|refine qK (by kernel_rfl) ?_|apply qr)
 all_goals try first|refine qz ?_|apply qz5
 all_goals try simp only [z6,zS,yE,zZ,qn1,z7,qn2,zX,ETy.dflt,qn3,qn4,Int.reduceToNat,Int.reduceAdd,Int.reduceSub,Int.reduceNeg,Nat.reduceAdd,zD] at *
 all_goals first
  | (exfalso;omega)
  | exact qh hx
  | exact absurd (show (S9.allR (n,l)).length=0 by have:=h9;unfold zPa at this;simpa using this) (by assumption)
  | exact y9.intro rfl
def z7U:List AV->Option Res:=zEz qP (fun s=>some (none,some (zBK s/\s.2.length<=40),(ETy.pt yI).av (some (zAa s))))
theorem z1t:qM Tryz.prog 16 z7U:=⟨zA1 fun s r h=>by
 cases h;cases e:zHP s with
 | none=>exact fun σ vals w hag hv=>⟨trivial,fun hq=>absurd (zAu (show zBK s from hq.1)).1 (by rw [e];simp)⟩
 | some x =>
   rw [<- (zHj e).1]
   exact qL (yN (fn:=[(53,zVn),(54,zKs x)]) (fr:=[]) ⟨z13,(zMB x),trivial⟩ trivial) Tryz.func16 (by kernel_rfl) fun _ h=>z1V s.1 s.2 x e h.2 ((zTb s).2 h.1),_,Tryz.func16,by kernel_rfl,by kernel_rfl⟩
end S1
open Go Go.Vm Go.Proofs
namespace S1
open S9
theorem zV8 {s:SoT} (hs:zBK s):Full (zAa s)/\jV (InN (zAa s).1.1) (zAa s).1.2:=by
 obtain ⟨_,g,e⟩:=zAu hs;exact ⟨g,zAc (s:=(zAa s).1) (by rw [e];exact hs)⟩
theorem zTU {s:SoT} (hs:zBK s) (es:EdB):zFG s (zAh (zAa s) es):=by
 obtain ⟨_,g,e⟩:=zAu hs;have h:=zLL g (zV8 hs).2 es es.length;exact ⟨hs,by rw [<- e];exact h.free,by rw [<- e];exact h.apart⟩
theorem z9S {s:SoT} {l:EdB} (h:zFG s l) {r:SoT×List zAJ×Int} (e:doB s l=r):r.2.2=0/\r.2.1.length=l.length/\r.1.1=s.1 - l.length/\ChB s r.1 r.2.1/\okR r.2.1/\r.1.2.length<=s.2.length:=by
 have hE:zMh s l=0:=by
  unfold zMh;rw [if_pos ((zB4 _).2 h.surf),if_pos ((zGf h.surf).2 h)]
 rw [zSZ hE] at e;subst e;have d:=zFF h l.length (zI _);exact ⟨rfl,d.len,d.num,d.ch,d.ok,d.tri⟩
def z9r (x:yI.T) (a b:Int) (l:List Int):Int :=
 if !zAQ x a b then 1 else if (zDf x a b).length=2/\zAY x a=false/\zAY x b=false then 2
 else if zTH (zDf x a b) l=false then 3 else if zB2 x a then 4 else 0
theorem zTu (x:yI.T) (a b:Int):zDV x a b=z9r x a b (zGc x a b):=rfl
theorem zUc {x:yI.T} {a b:Int} {l0 l:List Int} (hne:a≠b) (hl:((zCz x a).filter fun v=>zDv v (zCz x b))=l0) (hp:l0.Perm l) (hs:l.Pairwise (·<=·)):zGc x a b=l:=by
 unfold zGc;rw [if_neg hne,hl];exact zMy ((zG9 _).trans hp) (zHB _) hs
def awL:EdB:=[(0,1),(7,6)]
def awM:EdB:=[(0,1),(3,2)]
theorem zEO:zBK j9:=(zD9 _).1 (by rw [z4T];decide +kernel)
theorem zYm:zDV (zAa j9) 0 1=0:=by
 rw [zTu,zUc (l0:=[2]) (l:=[2]) (by decide) (by decide +kernel) (.refl _) (by decide)];decide +kernel
theorem zVl:zDV (zAa j9) 7 6=0:=by
 rw [zTu,zUc (l0:=[5]) (l:=[5]) (by decide) (by decide +kernel) (.refl _) (by decide)];decide +kernel
theorem zXv:zFG j9 awL:=by
 obtain ⟨_,g,e⟩:=zAu zEO;have hm:jV (InN (zAa j9).1.1) (zAa j9).1.2:=zAc (s:=(zAa j9).1) (by rw [e];exact zEO);refine ⟨zEO,fun d hd=> ?_,?_⟩
 ·rw [<- e];rcases zT.1 hd with h|h
  ·rw [h];exact (zKH g hm).1 zYm
  ·rw [zF.1 h];exact (zKH g hm).1 zVl
 ·refine List.pairwise_cons.2 ⟨fun d hd=> ?_,List.pairwise_singleton _ _⟩;rw [zF.1 hd];exact zPn.1 (by decide +kernel)
theorem z1o:zMj (some (zAa j9)) awL=true:=(zGf zEO).2 zXv
theorem z7T:zMj (some (zAa j9)) awM=false:=by
 rw [<- Bool.not_eq_true];intro h;have:=(List.pairwise_cons.1 ((zGf zEO).1 h).apart).1 (3,2) (zF.2 rfl) (2,1,3) (by decide) (.inr (by decide)) (.inl (by decide));exact this
theorem z8p:apB (zAa j9) (0,1) (7,6)=true:=by
 obtain ⟨_,g,e⟩:=zAu zEO;unfold apB;rw [show zAQ (zAa j9) (0,1).1 (0,1).2=true from (zQW zYm).1,show zAQ (zAa j9) (7,6).1 (7,6).2=true from (zQW zVl).1];exact (zW3 g).2 (by rw [e];exact zPn.1 (by decide +kernel))
theorem z9u:zMh j9 awL=0:=by
 unfold zMh;rw [if_pos ((zB4 _).2 zEO),if_pos z1o]
theorem z8q:z7x j9 awL 2:=zFF zXv 2 (zI _)
theorem z8G:(doK j9 awL 2).1.2.length=4:=by
 have h0:=zFF zXv 0 (Nat.zero_le _);have s0:=zFT h0 (show 0<awL.length by decide);have s1:=zFT s0.2.2.2 (show 1<awL.length by decide);have e1:(doK j9 awL 1).1=zZv j9 0 1:=s0.2.1;have n7:zAV (doK j9 awL 1).2 7=6:=(s0.2.2.1 7 (show (0:Int)<=7 by decide)).1;have n6:zAV (doK j9 awL 1).2 6=5:=(s0.2.2.1 6 (show (0:Int)<=6 by decide)).1;have e2:(doK j9 awL 2).1=zZv (doK j9 awL 1).1 (zAV (doK j9 awL 1).2 7) (zAV (doK j9 awL 1).2 6):=s1.2.1
 rw [e2,e1,n7,n6];decide +kernel
theorem z9p {r:SoT×List zAJ×Int} (e:doB j9 awL=r):r.2.2=0/\r.2.1.length=2/\r.1.1=6/\r.1.2.length=4/\ChB j9 r.1 r.2.1:=by
 rw [zSZ z9u] at e;subst e;have h:=z8q;exact ⟨rfl,h.len,by show (doK j9 awL 2).1.1=6;rw [h.num];rfl,z8G,h.ch⟩
end S1
open Go Go.Vm Go.Proofs
namespace S1
def zPE (S:SoT):List AV->Option Res
 | []=>some (none,some (S=j9),qP.av S)
 | _=>none
theorem zVQ (S:SoT):qM Tryz.prog 50 (zPE S):=⟨fun args r h=>by
 cases args with
 | nil =>
   cases h;intro σ vals w hag hv;refine ⟨trivial,fun hq=> ?_⟩;have hq:S=j9:=hq;subst hq;exact (zZy.1 [] _ rfl σ vals w hag hv).2 trivial
 | cons a l=>(cases h),_,Tryz.func50,by kernel_rfl,by kernel_rfl⟩
attribute [local irreducible] doB zBe eqS zMj apB zAa
theorem zSv (S:SoT) (hS:S=j9):zAG ⟨tyL,[(50,zPE S),(16,z7U),(24,z6P),(25,zY6 S),(17,zPe),(19,z7L),(26,zIa)],[]⟩ Tryz.f13 [] (fun r=>r= .s (.bool true)):=by
 have m2:List.take 2 (List.drop 0 (((List.replicate 2 ((0:Int),(0:Int))).set 0 (0,1)).set 1 (7,6)))=awL:=rfl;have m3:(((List.replicate 2 ((0:Int),(0:Int))).set 0 (0,1)).set 1 (3,2))=awM:=rfl;have hs:zBK S:=by rw [hS];exact zEO
 have hl:List.length S.2=6:=by rw [hS];rfl
 obtain ⟨f1,f2,f3,f4,f5⟩:=z9p (r:=doB S awL) (by rw [hS]);have f5:ChB S (doB S awL).1 (doB S awL).2.1:=by have:=f5;rw [<- hS] at this;exact this
 have his1:zMj (some (zAa S)) awL=true:=by rw [hS];exact z1o
 have his2:zMj (some (zAa S)) awM=false:=by rw [hS];exact z7T
 have hap:apB (zAa S) (0,1) (7,6)=true:=by rw [hS];exact z8p
 have hg:=zV8 hs
 repeat' (conv=>whnf
          first|done|refine qN ?_|apply qH|refine qG fun _=> ?_|apply qB|apply qa|apply qo|refine qe (fun _=> ?_) (fun _=> ?_)|refine qn (fun _=> ?_) (fun _=> ?_)|refine qd (fun _=> ?_) (fun _=> ?_)|apply qt|refine qi (fun _=> ?_) (fun _=> ?_)|refine zA rfl ?_|apply qE|apply qO|exact zO|apply qq|apply qs|refine qK (by kernel_rfl) ?_|apply qr)
 all_goals try first|refine qz ?_|apply qz5
 all_goals try simp only [z6,zS,yE,zZ,qn1,z7,qn2,zX,ETy.dflt,qn3,qn4,Int.reduceToNat,Int.reduceAdd,Int.reduceSub,Int.reduceNeg,Nat.reduceAdd,zD] at *
 all_goals try simp only [m2,m3] at *
 all_goals first
  | exact qh ⟨hs,by rw [hl];decide⟩
  | exact qh ⟨hs,by decide⟩
  | exact qh ⟨f5,by rw [f2];decide,show List.length (doB S awL).1.2<=8192 by rw [f4];decide⟩
  | exact qh ⟨by decide,by decide⟩
  | exact qh (fun y h=>by cases h;exact hg.1.toGood)
  | exact qh ⟨fun y h=>by cases h;exact hg,by decide⟩
  | exact qh (show List.length S.2<=100000 by rw [hl];decide)
  | exact zHy _
  | (have h:zMj (some (zAa S)) awM=true:=by assumption
     rw [his2] at h;cases h)
  | (have h:zMj (some (zAa S)) awL=false:=by assumption
     rw [his1] at h;cases h)
  | (have h:apB (zAa S) (0,1) (7,6)=false:=by assumption
     rw [hap] at h;cases h)
  | exact absurd f1 (by assumption)
  | exact absurd f3 (by assumption)
  | exact absurd (show ((doB S awL).2.1.length:Int)=2 by rw [f2];rfl) (by assumption)
  | exact absurd (show ((List.length (doB S awL).1.2:Nat):Int)=4 by rw [f4];rfl) (by assumption)
def zLd:List AV->Option Res
 | []=>some (none,none,.s (.bool true))
 | _=>none
theorem zTA:qM Tryz.prog 13 zLd:=⟨fun args r h=>by
 cases args with
 | nil =>
   cases h;obtain ⟨S,hS⟩: ∃ S,S=j9:=⟨_,rfl⟩;exact qL (yN (fn:=[(50,zPE S),(16,z7U),(24,z6P),(25,zY6 S),(17,zPe),(19,z7L),(26,zIa)]) (fr:=[]) ⟨(zVQ S),z1t,z2N,(z1b S),zWl,z2S,zOc,trivial⟩ trivial) Tryz.func13 (by kernel_rfl) fun _ _=>zSv S hS
 | cons a l=>(cases h),_,Tryz.func13,by kernel_rfl,by kernel_rfl⟩
end S1
open Go Go.Vm Go.Proofs
namespace S1
theorem zSs {s:SoT} {l:EdB} (h:zC9 s l=false):s.2.length<=30/\s.1<=100/\l.length<=12:=by
 unfold zC9 at h;rw [Bool.or_eq_false_iff,Bool.or_eq_false_iff,yM,yM,yM] at h;omega
theorem zS2 (x:yI.T) (l:EdB):(zAh x l).length<=l.length:=zM1 x l l.length
attribute [local irreducible] doB zBe eqS zAh zAa isR zC9
end S1
open Go Go.Vm Go.Proofs
namespace S1
abbrev EdL:=List (Int×Int)
def phL:EdL->Int->Int
 | [],v=>v
 | e::r,v=>if e.1=v then e.2 else phL r v
def z1u (l:EdL) (x:Int):Nat:=l.countP fun e=>decide (e.1<x)
def imF (l:EdL) (v:Int):Int:=phL l v - z1u l (phL l v)
def zSg (l:EdL) (t:P3):Bool:=l.all fun e=> !both e.1 e.2 t
def cls (s:Int×List P3) (l:EdL):Int×List P3:=(s.1 - l.length,(s.2.filter (zSg l)).map (zDo (imF l)))
theorem z0q: ∀ {l:EdL} {v:Int},(∀ e∈l,e.1≠v)->phL l v=v
 | [],_,_=>rfl
 | e::r,v,h=>by
   show (if e.1=v then e.2 else phL r v)=v;rw [if_neg (h e (zY ..))];exact z0q fun f hf=>h f (zQ _ hf)
theorem z4V: ∀ {l:EdL} {e:Int×Int},(l.map Prod.fst).Nodup->e∈l->phL l e.1=e.2
 | f ::r,e,hn,he=>by
   rw [List.map_cons,List.nodup_cons] at hn;show (if f.1=e.1 then f.2 else phL r e.1)=e.2;rcases zT.1 he with k|k
   ·rw [k,if_pos rfl]
   ·rw [if_neg fun q=>hn.1 (by rw [q];exact yC.2 ⟨e,k,rfl⟩)];exact z4V hn.2 k
theorem z2r {a w:Int} (hw:w≠a): ∀ {r:EdL},(∀ e∈r,e.1≠a)->phL (r.map (dn2 a)) (dn a w)=dn a (phL r w)
 | [],_=>rfl
 | e ::r,h=>by
   show (if dn a e.1=dn a w then dn a e.2 else phL (r.map (dn2 a)) (dn a w))=dn a (if e.1=w then e.2 else phL r w)
   by_cases k:e.1=w
   ·rw [if_pos (by rw [k]),if_pos k]
   ·rw [if_neg fun q=>k (zRU (h e (zY ..)) hw q),if_neg k];exact z2r hw fun f hf=>h f (zQ _ hf)
theorem z1j {a w:Int} (hw:w≠a): ∀ {r:EdL},(∀ e∈r,e.2≠a)->phL r w≠a
 | [],_=>hw
 | e::r,h=>by
   show (if e.1=w then e.2 else phL r w)≠a;split
   ·exact h e (zY ..)
   ·exact z1j hw fun f hf=>h f (zQ _ hf)
theorem z8Y {a v w:Int} (hv:v≠a) (hw:w≠a):dn a v<dn a w↔v<w:=by
 unfold dn;split<;>split<;>constructor<;>intro h<;>omega
theorem z4r {a x:Int} (hx:x≠a) {r:EdL} (h: ∀ e∈r,e.1≠a):z1u (r.map (dn2 a)) (dn a x)=z1u r x:=by
 unfold z1u;rw [List.countP_map];refine List.countP_congr fun e he=> ?_;show decide (dn a e.1<dn a x)=true↔_;rw [zP,zP,z8Y (h e he) hx]
structure Sep (a b:Int) (r:EdL):Prop where
 fa: ∀ e∈r,e.1≠a
 fb: ∀ e∈r,e.1≠b
 sa: ∀ e∈r,e.2≠a
 sb: ∀ e∈r,e.2≠b
theorem zHm {a b:Int} {r:EdL} (h:Sep a b r) (hab:a≠b) (v:Int):imF (r.map (dn2 a)) (dn a (ph a b v))=imF ((a,b)::r) v:=by
 have hw:ph a b v≠a:=by
  by_cases e:v=a
  ·rw [e,z2m];exact hab.symm
  ·rw [zLT e];exact e
 have e1:phL ((a,b)::r) v=phL r (ph a b v):=by
  show (if a=v then b else phL r v)=_
  by_cases e:v=a
  ·rw [if_pos e.symm,e,z2m,z0q h.fb]
  ·rw [if_neg fun q=>e q.symm,zLT e]
 have hx:=z1j hw h.sa;unfold imF;rw [z2r hw h.fa,z4r hx h.fa,e1]
 have e2:z1u ((a,b)::r) (phL r (ph a b v))=z1u r (phL r (ph a b v))+if a<phL r (ph a b v) then 1 else 0:=by
  unfold z1u;rw [List.countP_cons];simp only [zP]
 rw [e2];show (if phL r (ph a b v)>a then phL r (ph a b v) - 1 else phL r (ph a b v)) - (_:Int)=_;split<;>omega
theorem zQs {a b c:Int} {t:P3} (hab:a≠b) (ha:c≠a) (hb:c≠b):z8 (zDo (dn a) (phT a b t)) (dn a c)↔z8 t c:=by
 have key: ∀ v,dn a (ph a b v)=dn a c↔v=c:=fun v=>by
  constructor
  ·intro e
   have hw:ph a b v≠a:=by
    by_cases e:v=a
    ·rw [e,z2m];exact hab.symm
    ·rw [zLT e];exact e
   have:=zRU hw ha e
   by_cases k:v=a
   ·rw [k,z2m] at this;exact absurd this.symm hb
   ·rwa [zLT k] at this
  ·intro e;rw [e,zLT ha]
 show (dn a (ph a b t.1)=dn a c\/dn a (ph a b t.2.1)=dn a c\/dn a (ph a b t.2.2)=dn a c)↔_;rw [key,key,key];rfl
theorem zZQ {a b:Int} {r:EdL} (h:Sep a b r) (hab:a≠b) (t:P3):zSg (r.map (dn2 a)) (zDo (dn a) (phT a b t))=zSg r t:=by
 unfold zSg;rw [List.all_map];rw [Bool.eq_iff_iff,zJ,zJ]
 have key: ∀ e∈r,both (dn2 a e).1 (dn2 a e).2 (zDo (dn a) (phT a b t))=both e.1 e.2 t:=fun e he=>by
  rw [Bool.eq_iff_iff,zEf,zEf];show z8 _ (dn a e.1)/\z8 _ (dn a e.2)↔_;rw [zQs hab (h.fa e he) (h.fb e he),zQs hab (h.sa e he) (h.sb e he)]
 constructor
 ·intro k e he;have:=k e he;show (!both e.1 e.2 t)=true;rw [<- key e he];exact this
 ·intro k e he;have:=k e he;show (!both (dn2 a e).1 (dn2 a e).2 (zDo (dn a) (phT a b t)))=true;rw [key e he];exact this
theorem zW4 {s:Int×List P3} {a b:Int} {r:EdL} (h:zFG s ((a,b)::r)):Sep a b r:=by
 have p1:=(List.pairwise_cons.1 h.apart).1;have k: ∀ e∈r,(e.1≠a/\e.1≠b)/\e.2≠a/\e.2≠b:=fun e he=>zD1 (h.free e (zQ _ he)) (p1 e he);exact ⟨fun e he=>(k e he).1.1,fun e he=>(k e he).1.2,fun e he=>(k e he).2.1,fun e he=>(k e he).2.2⟩
theorem zZ0 {s:Int×List P3} {a b:Int} {r:EdL} (h:zFG s ((a,b)::r)):cls (zZv s a b) (r.map (dn2 a))=cls s ((a,b)::r):=by
 have hs:=zW4 h;have hab:a≠b:=(h.free (a,b) (zY ..)).ne;refine Prod.ext ?_ ?_
 ·show s.1 - 1 - ((r.map (dn2 a)).length:Int)=s.1 - ((r.length+1:Nat):Int);rw [yV];omega
 ·show ((((s.2.filter fun t=> !both a b t).map (phT a b)).map (zDo (dn a))).filter (zSg (r.map (dn2 a)))).map (zDo (imF (r.map (dn2 a))))=(s.2.filter (zSg ((a,b)::r))).map (zDo (imF ((a,b)::r)));rw [List.map_map,List.filter_map,List.map_map,List.filter_filter]
  have e1:(s.2.filter fun t=>(zSg (r.map (dn2 a)) ∘ (zDo (dn a) ∘ phT a b)) t&& !both a b t)=s.2.filter (zSg ((a,b)::r)):=by
   refine List.filter_congr fun t _=> ?_;show (zSg (r.map (dn2 a)) (zDo (dn a) (phT a b t))&& !both a b t)=(!both a b t&&zSg r t);rw [zZQ hs hab,Bool.and_comm]
  rw [e1];refine List.map_congr_left fun t _=> ?_;show (imF _ (dn a (ph a b t.1)),imF _ (dn a (ph a b t.2.1)),imF _ (dn a (ph a b t.2.2)))=(imF _ t.1,imF _ t.2.1,imF _ t.2.2);rw [zHm hs hab,zHm hs hab,zHm hs hab]
theorem zLp (v:Int):imF [] v=v:=by
 show v - ((0:Nat):Int)=v;omega
theorem z35 (s:Int×List P3):cls s []=s:=by
 refine Prod.ext (by show s.1 - ((0:Nat):Int)=s.1;omega) ?_;show (s.2.filter fun _=>true).map (zDo (imF []))=s.2;rw [List.filter_eq_self.2 fun _ _=>rfl];refine (List.map_congr_left fun t _=> ?_).trans (List.map_id _);show (imF [] t.1,imF [] t.2.1,imF [] t.2.2)=t;rw [zLp,zLp,zLp]
theorem zTO {l:List P3} {a b c d:Int} (h:zAS l a b c d):zAS l c d a b:=fun t ht k1 k2=>h t ht k2 k1
theorem zVi {s:Int×List P3} {l l':EdL} (p:l.Perm l') (h:zFG s l):zFG s l' :=
 ⟨h.surf,fun e he=>h.free e (p.mem_iff.2 he),(p.pairwise_iff (fun k=>zTO k)).1 h.apart⟩
theorem z05 {s:Int×List P3} {l l':EdL} (p:l'.Sublist l) (h:zFG s l):zFG s l' :=
 ⟨h.surf,fun e he=>h.free e (p.subset he),h.apart.sublist p⟩
theorem zWY {s:Int×List P3} {l:EdL} (h:zFG s l):(l.map Prod.fst).Nodup:=by
 unfold List.Nodup;refine List.Pairwise.map _ (fun e f hh=> ?_) (h.apart.imp_of_mem (S:=fun e f=>zAS s.2 e.1 e.2 f.1 f.2/\e∈l/\f∈l) fun he hf hh=>⟨hh,he,hf⟩);obtain ⟨hh,he,hf⟩:=hh;exact fun e=>(zD1 (h.free f hf) hh).1.1 e.symm
theorem z0Q {l l':EdL} (p:l.Perm l') (h:(l.map Prod.fst).Nodup) (v:Int):phL l v=phL l' v:=by
 have h':(l'.map Prod.fst).Nodup:=(p.map Prod.fst).nodup_iff.1 h
 by_cases k: ∃ e∈l,e.1=v
 ·obtain ⟨e,he,rfl⟩:=k;rw [z4V h he,z4V h' (p.mem_iff.1 he)]
 ·rw [z0q fun e he q=>k ⟨e,he,q⟩,z0q fun e he q=>k ⟨e,p.mem_iff.2 he,q⟩]
theorem z0u {l l':EdL} (p:l.Perm l') (h:(l.map Prod.fst).Nodup):imF l=imF l':=by
 funext v
 unfold imF z1u;rw [z0Q p h,p.countP_eq]
theorem z0b {s:Int×List P3} {l l':EdL} (p:l.Perm l') (h:zFG s l):cls s l=cls s l':=by
 unfold cls;rw [z0u p (zWY h),p.length_eq]
 have e:zSg l=zSg l':=by
  funext t
  unfold zSg;rw [Bool.eq_iff_iff,zJ,zJ];exact ⟨fun k e he=>k e (p.mem_iff.2 he),fun k e he=>k e (p.mem_iff.1 he)⟩
 rw [e]
def zDs (l:EdL) (m i:Nat):EdL:=(List.range i).map fun j=>l.getD ((j+m) % l.length) (0,0)
theorem z4h (l:EdL) (m i:Nat):zDs l m (i+1)=zDs l m i++[l.getD ((i+m) % l.length) (0,0)]:=by
 unfold zDs;rw [List.range_succ,List.map_append];rfl
theorem zDD (l:EdL) (m i:Nat):(zDs l m i).length=i:=by unfold zDs;rw [yV,zAD]
theorem zVx {l:EdL} {m k i:Nat} (h:i<k):(zDs l m k)[i]? =some (l.getD ((i+m) % l.length) (0,0)):=by
 unfold zDs;rw [List.getElem?_map,List.getElem?_range h];rfl
theorem zNO (l:EdL) (m:Nat):l.Perm (zDs l m l.length):=by
 by_cases h0:l.length=0
 ·rw [List.eq_nil_of_length_eq_zero h0];exact .refl _
 have e:zDs l m l.length=l.drop (m % l.length)++l.take (m % l.length):=by
  have hm:=Nat.mod_lt m (Nat.pos_of_ne_zero h0);refine List.ext_getElem? fun i=> ?_
  by_cases hi:i<l.length
  ·rw [zVx hi,<- Nat.add_mod_mod]
   by_cases hlt:i<l.length - m % l.length
   ·rw [List.getElem?_append_left (by rw [List.length_drop];exact hlt),List.getElem?_drop,Nat.mod_eq_of_lt (by omega),gdE,Nat.add_comm i,gE (by omega)];rfl
   ·have eb:(i+m % l.length) % l.length=i+m % l.length - l.length:=by
     rw [Nat.mod_eq_sub_mod (by omega),Nat.mod_eq_of_lt (by omega)]
    rw [List.getElem?_append_right (by rw [List.length_drop];omega),List.length_drop,List.getElem?_take,if_pos (by omega),eb,gdE,
     show i - (l.length - m % l.length)=i+m % l.length - l.length by omega,gE (by omega)];rfl
  ·rw [List.getElem?_eq_none (by rw [zDD];omega),List.getElem?_eq_none (by rw [zN,List.length_drop,qZ];omega)]
 rw [e];exact (List.perm_append_comm.trans (by rw [jE])).symm
end S1
open Go Go.Vm Go.Proofs
namespace S1
theorem zVN {s:SoT} {l:EdB} {k:Nat} (h:z7x s l k) (hk:k<l.length):(l.drop (k+1)).map (zJh (doK s l (k+1)).2)=((l.drop (k+1)).map (zJh (doK s l k).2)).map (dn2 (zAV (doK s l k).2 (l.getD k (0,0)).1)):=by
 have hb:=h.bat;rw [zIU (0,0) hk,List.map_cons] at hb;have hn:=(zFT h hk).2.2.1;rw [List.map_map];refine List.map_congr_left fun e he=> ?_;have hm:zJh (doK s l k).2 e∈(l.drop (k+1)).map (zJh (doK s l k).2):=yC.2 ⟨e,he,rfl⟩;have hf2:zBN (doK s l k).1.2 (zJh (doK s l k).2 e).1 (zJh (doK s l k).2 e).2:=hb.free _ (zQ _ hm);have hap:=(List.pairwise_cons.1 hb.apart).1 _ hm;have hne:=zD1 hf2 hap;have hi2:=zCW hb.surf hf2
 show (zAV _ e.1,zAV _ e.2)=(dn _ (zAV _ e.1),dn _ (zAV _ e.2));rw [(hn e.1 hi2.1.1).1,(hn e.2 hi2.2.1).1,zLT (show zAV (doK s l k).2 e.1≠zAV (doK s l k).2 (l.getD k (0,0)).1 from hne.1.1),zLT (show zAV (doK s l k).2 e.2≠zAV (doK s l k).2 (l.getD k (0,0)).1 from hne.2.1)]
theorem zQ5 {s:SoT} {l:EdB} (h:zFG s l): ∀ k,k<=l.length->cls (doK s l k).1 ((l.drop k).map (zJh (doK s l k).2))=cls s l/\∀ v,0<=v->imF ((l.drop k).map (zJh (doK s l k).2)) (zAV (doK s l k).2 v)=imF l v
 | 0,_=>by
   have e:(l.drop 0).map (zJh (doK s l 0).2)=l:=by
    rw [List.drop_zero];exact (List.map_congr_left (fun e _=>show (zAV [] e.1,zAV [] e.2)=e from rfl)).trans (List.map_id l)
   rw [e];exact ⟨rfl,fun v _=>rfl⟩
 | k +1,hk=>by
   have hd:=zFF h k (by omega);obtain ⟨ih1,ih2⟩:=zQ5 h k (by omega);have hb:=hd.bat;have hst:=zFT hd (show k<l.length by omega);rw [zIU (0,0) (show k<l.length by omega),List.map_cons] at hb ih1 ih2;rw [zVN hd (by omega)];refine ⟨?_,fun v hv=> ?_⟩
   ·rw [hst.2.1];exact (zZ0 hb).trans ih1
   ·rw [(hst.2.2.1 v (zUJ h hv k (by omega))).1,zHm (zW4 hb) (hb.free _ (zY ..)).ne];exact ih2 v hv
theorem z7O {s:SoT} {l:EdB} (h:zFG s l):(doK s l l.length).1=cls s l/\∀ v,0<=v->zAV (doK s l l.length).2 v=imF l v:=by
 obtain ⟨h1,h2⟩:=zQ5 h l.length (zI _);rw [List.drop_eq_nil_of_le (zI _),List.map_nil] at h1 h2;rw [z35] at h1;refine ⟨h1,fun v hv=> ?_⟩;have:=h2 v hv;rwa [zLp] at this
theorem zRA (s:SoT) (l:EdB) (k:Nat): ∀ j,j<=k->doK s (l.take k) j=doK s l j
 | 0,_=>rfl
 | j +1,h=>by
   have e:(l.take k).getD j (0,0)=l.getD j (0,0):=by
    rw [gdE,gdE,List.getElem?_take,if_pos (by omega)]
   have ih:=zRA s l k j (by omega);show ((doR (doK s (l.take k) j).1 (zAV (doK s (l.take k) j).2 ((l.take k).getD j (0,0)).1) (zAV (doK s (l.take k) j).2 ((l.take k).getD j (0,0)).2)).1,_++[_])=_;rw [ih,e];rfl
theorem z19 {s:SoT} {l:EdB} (h:zFG s l) {k:Nat} (hk:k<=l.length):zFG (doK s l k).1 ((l.drop k).map (zJh (doK s l k).2))/\cls (doK s l k).1 ((l.drop k).map (zJh (doK s l k).2))=cls s l :=
 ⟨(zFF h k hk).bat,(zQ5 h k hk).1⟩
end S1
open Go Go.Vm Go.Proofs
namespace S1
def zGO (L:EdB) (to:List Int) (k i:Nat):EdB:=(List.range i).map fun j=>(to.getD (L.getD (k+j) (0,0)).1.toNat 0,to.getD (L.getD (k+j) (0,0)).2.toNat 0)
theorem z4c (L:EdB) (to:List Int) (k i:Nat):zGO L to k (i+1)=zGO L to k i++[(to.getD (L.getD (k+i) (0,0)).1.toNat 0,to.getD (L.getD (k+i) (0,0)).2.toNat 0)]:=by
 unfold zGO;rw [List.range_succ,List.map_append];rfl
theorem zDB (L:EdB) (to:List Int) (k i:Nat):(zGO L to k i).length=i:=by unfold zGO;rw [yV,zAD]
theorem z1D {s:SoT} {l:EdB} {R:List zAJ} (h:zFG s l) (k:Nat) (hk:k<=l.length):zGO l (imL R s.1.toNat) k (l.length - k)=(l.drop k).map (zJh R):=by
 refine List.ext_getElem? fun i=> ?_
 by_cases hi:i<l.length - k
 ·unfold zGO;rw [List.getElem?_map,List.getElem?_range hi,List.getElem?_map,List.getElem?_drop,gE (show k+i<l.length by omega)];show some _=some _
  congr 1
  have e:l.getD (k+i) (0,0)=l[k+i]:=by rw [gdE,gE (show k+i<l.length by omega)];rfl
  have hf:=zCW h.surf (h.free _ (yQ (show k+i<l.length by omega)))
  have hh: ∀ v:Int,0<=v->v<s.1->(imL R s.1.toNat).getD v.toNat 0=zAV R v:=fun v h0 h1=>by
   unfold imL;rw [gdE,List.getElem?_map,List.getElem?_range (by omega)];show zAV R ((v.toNat:Nat):Int)=_;rw [zAC h0]
  show ((imL R s.1.toNat).getD (l.getD (k+i) (0,0)).1.toNat 0,(imL R s.1.toNat).getD (l.getD (k+i) (0,0)).2.toNat 0)=_;rw [e,hh _ hf.1.1 hf.1.2,hh _ hf.2.1 hf.2.2];rfl
 ·rw [List.getElem?_eq_none (by rw [zDB];omega),List.getElem?_eq_none (by rw [yV,List.length_drop];omega)]
def toI (n:Int) (l:List P3) (L:EdB) (c:Int):List Int:=(zNy n (doB (n,l) (List.drop 0 (List.take (c.tmod (L.length+1)).toNat L))).2.1).1
def zXU (L:EdB) (m:Nat):Spec Nat where
 inv k:=k<=L.length
 live k:=[(10,.s (.int .i64 k)),(9,.s (.own 1 0 (zDs L m k).length))]
 keep:=[1,2,3,4]
 heap k:=[(1,.row .arr2 33 (zDs L m k))]
 keepH:=[0]
 mu k:=L.length - k
def zVO (L:EdB) (to:List Int) (k:Int):Spec Nat where
 inv i:=i<=L.length - k.toNat
 live i:=[(24,.s (.int .i64 (k+i))),(23,.s (.own 5 0 (zGO L to k.toNat i).length))]
 keep:=[1,11,18,21]
 heap i:=[(5,.row .arr2 33 (zGO L to k.toNat i))]
 keepH:=[2,4]
 mu i:=L.length - k.toNat - i
theorem zF0 {s:SoT} {L:EdB} (h:zFG s L):(doB s L).1=cls s L/\(doB s L).2.2=0:=by
 have hE:zMh s L=0:=by
  unfold zMh;rw [if_pos ((zB4 _).2 h.surf),if_pos ((zGf h.surf).2 h)]
 rw [zSZ hE];exact ⟨(z7O h).1,rfl⟩
theorem z1T {s:SoT} {L:EdB} (h:zFG s L) {K:Nat} (hK:K<=L.length):doB s (List.drop 0 (List.take K L))=((doK s L K).1,(doK s L K).2,0):=by
 have hb:=z05 (List.take_sublist K L) h
 have hE:zMh s (L.take K)=0:=by
  unfold zMh;rw [if_pos ((zB4 _).2 h.surf),if_pos ((zGf h.surf).2 hb)]
 rw [List.drop_zero,zSZ hE,qZ,Nat.min_eq_left hK,zRA s L K K (zI _)]
theorem z0i {s:SoT} {L:EdB} (h:zFG s L) {K:Nat} (hK:K<=L.length):zNy s.1 (doK s L K).2=(imL (doK s L K).2 s.1.toNat,0):=by
 have hf1: @LE.le Int _ 0 s.1:=h.surf.fit.1;have hf2: @LE.le Int _ s.1 4096:=h.surf.fit.2.1;have e:zYl s.1 (doK s L K).2=0:=zYL (by omega) fun k _=>zUJ h (by omega) K hK;unfold zNy;rw [if_pos e]
theorem z4Z {c:Int} (h:0<=c) (k:Nat):0<=c.tmod (k+1)/\c.tmod (k+1)<=k:=by
 have h1:=Int.tmod_nonneg (k+1:Int) h;have h2:=Int.tmod_lt_of_pos c (show (0:Int)<k+1 by omega);omega
structure z9o (s:SoT) (L:EdB) (K:Nat) (T:List Int):Prop where
 dz:doB s (List.drop 0 (List.take K L))=((doK s L K).1,(doK s L K).2,0)
 im:zNy s.1 (doK s L K).2=(imL (doK s L K).2 s.1.toNat,0)
 bat:zFG (doK s L K).1 (zGO L T K (L.length - K))
 same:(doB (doK s L K).1 (zGO L T K (L.length - K))).1=(doB s L).1
 ok:(doB (doK s L K).1 (zGO L T K (L.length - K))).2.2=0
 okR:okR (doK s L K).2
theorem z9D {s:SoT} {L:EdB} (h:zFG s L) {K:Nat} (hK:K<=L.length) {T:List Int} (hT:T=(zNy s.1 (doB s (List.drop 0 (List.take K L))).2.1).1):z9o s L K T:=by
 have h1:=z1T h hK;have h2:=z0i h hK;have e:T=imL (doK s L K).2 s.1.toNat:=by rw [hT,h1,h2]
 have hr:=z1D (R:=(doK s L K).2) h K hK;obtain ⟨p1,p2⟩:=z19 h hK;rw [<- hr,<- e] at p1 p2;exact ⟨h1,h2,p1,by rw [(zF0 p1).1,p2,(zF0 h).1],(zF0 p1).2,(zFF h K hK).ok⟩
theorem z7t {s:SoT} {L:EdB} (h:zFG s L) (m:Nat):zFG s (zDs L m L.length)/\(doB s (zDs L m L.length)).1=(doB s L).1/\(doB s (zDs L m L.length)).2.2=0:=by
 have hb:=zVi (zNO L m) h;exact ⟨hb,by rw [(zF0 hb).1,(zF0 h).1,z0b (zNO L m) h],(zF0 hb).2⟩
theorem z1n {s:SoT} {L:EdB} (h:zFG s L):(doB s L).1.2.length<=s.2.length:=(z9S h rfl).2.2.2.2.2
attribute [local irreducible] doB zBe eqS zAh zAa isR zC9 zDs zGO zNy
theorem lawBR_vc (n:Int) (l:List P3) (es:EdB) (a c:Int):zAG ⟨tyL,[(13,zLd),(14,zLm),(15,z42),(16,z7U),(22,zFe),(24,z6P),(32,zU8),(26,zIa)],[]⟩ Tryz.f8 [qP.av (n,l),(ETy.sl .arr2).av es,(ETy.int .u8).av a,(ETy.int .u8).av c] (fun r=>r= .s (.bool true)):=by
 repeat' (conv=>whnf
          first|done|refine qN ?_|apply qH|refine qG fun _=> ?_|apply qB|apply qa|apply qo|refine qe (fun _=> ?_) (fun _=> ?_)|refine qn (fun _=> ?_) (fun _=> ?_)|refine qd (fun _=> ?_) (fun _=> ?_)|apply qt|refine qi (fun _=> ?_) (fun _=> ?_)|(refine zaB 8 rfl (zXU (zAh (zAa (n,l)) es) a.toNat) (0) ?_ ?_ ?_ fun k hk=> ?_)|with_reducible refine zaA (zXU _ _) (k+1) ?_ ?_ ?_ ?_|(refine zaB 22 rfl (zVO (zAh (zAa (n,l)) es) (toI n l (zAh (zAa (n,l)) es) c) (c.tmod ((zAh (zAa (n,l)) es).length+1))) (0) ?_ ?_ ?_ fun i hi=> ?_)|with_reducible refine zaA (zVO _ _ _) (i+1) ?_ ?_ ?_ ?_|refine zA rfl ?_|apply qE|apply qO|exact zO|apply qq|apply qs|refine qK (by kernel_rfl) ?_|apply qr)
 all_goals try first|refine qz ?_|apply qz5
 all_goals try simp only [z6,zS,yE,zZ,qn1,z7,qn2,zX,ETy.dflt,qn3,qn4,Int.reduceToNat,Int.reduceAdd,Int.reduceSub,Int.reduceNeg,Nat.reduceAdd,zD,zXU,zVO] at *
 all_goals have hg36:=zSs (show zC9 (n,l) es=false by assumption)
 all_goals have hl30:l.length<=30:=hg36.1
 all_goals have hes:List.length es<=12:=hg36.2.2
 all_goals have hs:zBK (n,l):=(zB4 (n,l)).1 (by assumption)
 all_goals have hC:=zTU hs es
 all_goals have hCl:(zAh (zAa (n,l)) es).length<=List.length es:=zS2 _ _
 all_goals try exact qh ⟨hs,by omega⟩
 all_goals try exact qh ⟨fun y h=>by cases h;exact zV8 hs,by omega⟩
 all_goals generalize zAh (zAa (n,l)) es=L at *
 all_goals try first
  | (refine qh ?_;omega)
  | (rw [zDD];done)
  | (rw [zDD,zDD];done)
  | (rw [zDB];done)
  | (rw [zDB,zDB];done)
  | (unfold zDs;rfl)
  | (unfold zGO;rfl)
 all_goals try
  have ha:0<=a/\a<=255:=by assumption
  have hk1:(k:Int)<L.length:=by assumption
  have e:((k:Int)+a).tmod L.length=(((k+a.toNat) % L.length:Nat):Int):=by
   rw [show (k:Int)+a=((k+a.toNat:Nat):Int) by omega];rfl
  first
  | (rw [e];have:=Nat.mod_lt (k+a.toNat) (show 0<L.length by omega);refine qh ?_;omega)
  | (rw [z4h,e];rfl)
 all_goals try (rw [zDD];refine qh ?_;omega)
 all_goals obtain rfl:k=L.length:=by omega
 all_goals obtain ⟨t1,t2,t3⟩:=z7t hC a.toNat
 all_goals try first
  | exact qh ⟨hs,by rw [zDD];omega⟩
  | exact absurd (zF0 hC).2 (by assumption)
  | exact absurd t3 (by assumption)
  | (have h0:List.length (doB (n,l) L).1.2<=l.length:=z1n hC
     refine qh ?_;omega)
  | (have h:eqS (doB (n,l) L).1 (doB (n,l) (zDs L a.toNat L.length)).1=false:=by assumption
     rw [t2,zHy] at h;cases h)
 all_goals have hcr:0<=c/\c<=255:=by assumption
 all_goals have hK:=z4Z hcr.1 L.length
 all_goals try exact qh hK
 all_goals try (refine yJ.intro ⟨hs,?_⟩;rw [List.drop_zero,qZ];omega)
 all_goals have hn0: @LE.le Int _ 0 n:=hs.fit.1
 all_goals have of:=z9D hC (K:=(c.tmod (↑L.length+1)).toNat) (by omega) (T:=toI n l L c) rfl
 all_goals have d1:=of.dz
 all_goals have d2:=of.im
 all_goals try first
  | (refine qh ?_;rw [d1];exact of.okR)
  | exact absurd (by rw [d1]) (show ¬ (doB (n,l) (List.drop 0 (List.take (c.tmod (↑L.length+1)).toNat L))).2.2=0 by assumption)
  | exact absurd (by rw [d1];show (zNy (n,l).1 _).2=0;rw [d2]) (show ¬ (zNy n (doB (n,l) (List.drop 0 (List.take (c.tmod (↑L.length+1)).toNat L))).2.1).2=0 by assumption)
  | (refine absurd ?_ (show ¬ ((zNy n (doB (n,l) (List.drop 0 (List.take (c.tmod (↑L.length+1)).toNat L))).2.1).1.length:Int)=n by assumption)
     rw [d1];show ((zNy (n,l).1 _).1.length:Int)=n;rw [d2];show ((imL _ n.toNat).length:Int)=n;rw [zJ1];omega)
  | omega
  | (refine qh ?_;omega)
  | (rw [zDB];refine qh ?_;omega)
  | (refine qh ?_;unfold yP;omega)
  | (rw [z4c,show (c.tmod (↑L.length+1)+(i:Int)).toNat=(c.tmod (↑L.length+1)).toNat+i by omega];rfl)
  | (have hi2:(c.tmod (↑L.length+1)+(i:Int)).toNat<L.length:=by omega
     have hm:List.getD L (c.tmod (↑L.length+1)+(i:Int)).toNat (0,0)∈L:=by
      rw [gdE,gE hi2];exact yQ hi2
     have hf:=zCW hs (hC.free _ hm);have hl:((zNy n (doB (n,l) (List.drop 0 (List.take (c.tmod (↑L.length+1)).toNat L))).2.1).1.length:Int)=n:=by assumption
     rw [hl]
     first
     | exact qh hf.1
     | exact qh hf.2)
 all_goals obtain rfl:i=L.length - (c.tmod (↑L.length+1)).toNat:=by omega
 all_goals have hz:List.length (doK (n,l) L (c.tmod (↑L.length+1)).toNat).1.2<=l.length:=(zFF hC (c.tmod (↑L.length+1)).toNat (by omega)).tri
 all_goals try rw [d1] at *
 all_goals first
  | exact qh ⟨of.bat.surf,by rw [zDB];omega⟩
  | (have h0:=z1n of.bat;refine qh ?_;exact Nat.le_trans (Nat.le_trans h0 hz) (by omega))
  | (rw [of.same];exact zHy _)
  | exact absurd of.ok (by assumption)
def lawBRC:List AV->Option Res:=z8j qP (.sl .arr2) (.int .u8) (.int .u8) (fun _ _ _ _=>some (none,none,.s (.bool true)))
theorem lawBRRow:qM Tryz.prog 8 lawBRC:=⟨z5r fun s es a c r h=>by
 cases h;obtain ⟨n,l⟩:=s
 exact qL (yN (fn:=[(13,zLd),(14,zLm),(15,z42),(16,z7U),(22,zFe),(24,z6P),(32,zU8),(26,zIa)]) (fr:=[]) ⟨zTA,zSf,z4t,z1t,zI8,z2N,zZo,zOc,trivial⟩ trivial) Tryz.func8 (by kernel_rfl) fun _ _=>lawBR_vc n l es a c,_,Tryz.func8,by kernel_rfl,by kernel_rfl⟩
end S1
