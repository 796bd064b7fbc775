/- A part of the proofs of the laws. -/
import Derived.Test.YtlhoihabllompaaGreatR3toY2
import Derived.Test.YtlhoihabllompaaGreatH3toR2
set_option linter.unusedSimpArgs false
set_option linter.unusedVariables false
set_option maxHeartbeats 8000000
set_option maxRecDepth 100000
open Go Go.Vm Go.Proofs
namespace S1
def zT3 (n:Int) (t:P3):Prop:=(0<=t.1/\t.1<n)/\(0<=t.2.1/\t.2.1<n)/\(0<=t.2.2/\t.2.2<n)/\¬ dgn t
def zVL (n:Int) (l:List P3):Spec Nat where
 inv i:=i<=l.length/\∀ j,j<i->zT3 n (l.getD j (0,0,0))
 live i:=[(3,.s (.int .i64 i))]
 keep:=[1,2]
 heap _:=[]
 keepH:=[0]
 mu i:=l.length - i
def zVj (l:List P3):Spec Nat where
 inv i:=i<=l.length/\∀ j k,k<j->j<i->zRl (l.getD j (0,0,0)) (l.getD k (0,0,0))
 live i:=[(6,.s (.int .i64 i))]
 keep:=[1,2]
 heap _:=[]
 keepH:=[0]
 mu i:=l.length - i
def zXS (l:List P3) (i:Nat):Spec Nat where
 inv k:=k<=i/\∀ j,j<k->zRl (l.getD i (0,0,0)) (l.getD j (0,0,0))
 live k:=[(7,.s (.int .i64 k))]
 keep:=[1,2,6]
 heap _:=[]
 keepH:=[0]
 mu k:=i - k
def zXY (l:List P3) (i k:Nat):Spec Nat where
 inv p:=p<=3/\∀ a b,a<p->b<3->¬ shE (l.getD i (0,0,0)) (l.getD k (0,0,0)) a b
 live p:=[(9,.s (.int .i64 p)),(8,.s (.int .i64 (zLA (l.getD i (0,0,0)) (l.getD k (0,0,0)) p)))]
 keep:=[1,2,6,7]
 heap _:=[]
 keepH:=[0]
 mu p:=3 - p
def zUy (l:List P3) (i k p:Nat):Spec Nat where
 inv q:=q<=3/\∀ b,b<q->¬ shE (l.getD i (0,0,0)) (l.getD k (0,0,0)) p b
 live q:=[(10,.s (.int .i64 q))]
 keep:=[1,2,6,7,8,9]
 heap _:=[]
 keepH:=[0]
 mu q:=3 - q
def zVx (n:Int) (l:List P3):Spec Nat where
 inv v:=(v:Int)<=max n 0/\∀ u:Nat,u<v->(zBY l u).1≠0/\(zBY l u).1=(zBY l u).2
 live v:=[(11,.s (.int .i64 v))]
 keep:=[1,2]
 heap _:=[]
 keepH:=[0]
 mu v:=n.toNat - v
theorem zRo (s:SoT):isR s=true↔zBI s:=by
 unfold isR;rw [zP];exact ⟨fun h=>(zD2 s).1 (by rw [h]),fun h=>zRQ ((zD2 s).2 h)⟩
theorem zMb {s:SoT} (h:zBI s->False):false=isR s:=by
 cases e:isR s with
 | false=>rfl
 | true=>exact (h ((zRo s).1 e)).elim
theorem z2T {s:SoT} (h:zBI s):true=isR s:=((zRo s).2 h).symm
theorem z8x:(Int.tmod 1 3).toNat=1:=rfl
theorem z8t:(Int.tmod 2 3).toNat=2:=rfl
theorem z8y:(Int.tmod 3 3).toNat=0:=rfl
theorem c30 (t:P3):zJw t 0=t.1:=rfl
theorem c31 (t:P3):zJw t 1=t.2.1:=rfl
theorem c32 (t:P3):zJw t 2=t.2.2:=rfl
theorem z6f {n:Int} {l:List P3} (h:zBI (n,l)) {i:Nat} (hi:i<l.length):zT3 n (l.getD i (0,0,0)):=by
 obtain ⟨a,b,c⟩:=zAE (h.fit.2.2.2 i hi);exact ⟨a,b,c,h.deg i hi⟩
theorem z9C (q:Nat):0<=((q:Int)+1).tmod 3/\((q:Int)+1).tmod 3<3:=by
 have e:((q:Int)+1).tmod 3=((q:Int)+1) % 3:=Int.tmod_eq_emod_of_nonneg (by omega);rw [e];omega
attribute [local irreducible] zLA zBY isR
theorem z2S (n:Int) (l:List P3):zAF ⟨tyL,[(51,zIj),(52,zVU)],[]⟩ Tryz.f15 [qP.av (n,l)] (fun r=>r= .s (.bool (isR (n,l)))):=by
 repeat' (conv=>whnf
          first|done|refine qN (by first|rfl|omega|(simp only [yP] at *;omega)) ?_|apply qH|refine qG fun _=> ?_|apply qB|apply qa|apply qo|refine qe (fun _=> ?_) (fun _=> ?_)|refine qn (fun _=> ?_) (fun _=> ?_)|refine qd (fun _=> ?_) (fun _=> ?_)|apply qt|refine qi (fun _=> ?_) (fun _=> ?_)|(refine qT 4 rfl ?_;refine Or.inr (zB (Nat) (zB (zVL n l) (zA (zB (0) (zA (yK.out ?_) (zA ?_ (zA ?_ rfl)))) (fun i hi=> ?_)))))|((with_reducible show (∃ y,And (Spec.inv (zVL _ _) y) _));refine zB (i+1) (zA (yK.out ?_) (zA (zA ?_ (zA ?_ rfl)) (yK.out ?_))))|(refine qT 8 rfl ?_;refine Or.inl (zB (4) ?_))|(refine qT 13 rfl ?_;refine Or.inr (zB (Nat) (zB (zVj l) (zA (zB (0) (zA (yK.out ?_) (zA ?_ (zA ?_ rfl)))) (fun j hj=> ?_)))))|((with_reducible show (∃ y,And (Spec.inv (zVj _) y) _));refine zB (j+1) (zA (yK.out ?_) (zA (zA ?_ (zA ?_ rfl)) (yK.out ?_))))|(refine qT 16 rfl ?_;refine Or.inr (zB (Nat) (zB (zXS l j) (zA (zB (0) (zA (yK.out ?_) (zA ?_ (zA ?_ rfl)))) (fun k hk=> ?_)))))|((with_reducible show (∃ y,And (Spec.inv (zXS _ _) y) _));refine zB (k+1) (zA (yK.out ?_) (zA (zA ?_ (zA ?_ rfl)) (yK.out ?_))))|(refine qT 20 rfl ?_;refine Or.inr (zB (Nat) (zB (zXY l j k) (zA (zB (0) (zA (yK.out ?_) (zA ?_ (zA ?_ rfl)))) (fun p hp=> ?_)))))|((with_reducible show (∃ y,And (Spec.inv (zXY _ _ _) y) _));refine zB (p+1) (zA (yK.out ?_) (zA (zA ?_ (zA ?_ rfl)) (yK.out ?_))))|(refine qT 25 rfl ?_;refine Or.inr (zB (Nat) (zB (zUy l j k p) (zA (zB (0) (zA (yK.out ?_) (zA ?_ (zA ?_ rfl)))) (fun q hq=> ?_)))))|((with_reducible show (∃ y,And (Spec.inv (zUy _ _ _ _) y) _));refine zB (q+1) (zA (yK.out ?_) (zA (zA ?_ (zA ?_ rfl)) (yK.out ?_))))|(refine qT 32 rfl ?_;refine Or.inr (zB (Nat) (zB (zVx n l) (zA (zB (0) (zA (yK.out ?_) (zA ?_ (zA ?_ rfl)))) (fun v hv=> ?_)))))|((with_reducible show (∃ y,And (Spec.inv (zVx _ _) y) _));refine zB (v+1) (zA (yK.out ?_) (zA (zA ?_ (zA ?_ rfl)) (yK.out ?_))))|refine zA rfl ?_|apply qE|apply qO|exact zN|apply qq|apply qs|refine qK (by kernel_rfl) ?_|apply qr)
 all_goals try first|apply qz1|apply qz2|apply qz3|apply qz4|apply qz5|apply qz6|apply qz7|apply qz8|apply qz9|apply qz0
 all_goals try simp only [zZ,zR,yD,z6,qn1,zY,qn2,zX,ETy.dflt,qn3,qn4,Int.reduceToNat,Int.reduceAdd,Int.reduceSub,Int.reduceNeg,Nat.reduceAdd,zD,zVL,zVj,zXS,zXY,zUy,zVx,zVB,tmX,z8x,z8t,z8y,c30,c31,c32] at *
 all_goals try
  (refine zMb fun h=> ?_
   have h1:0<=n:=h.fit.1;have h2:n<=4096:=h.fit.2.1;have h3:l.length<=8192:=h.fit.2.2.1
   omega)
 all_goals try exact qh ⟨by decide,by decide⟩
 all_goals try exact qh (z9C _)
 all_goals try (refine yK.intro (zA (Nat.zero_le _) ?_);intros;omega)
 all_goals try (refine qh ?_;omega)
 all_goals have hi1:=hi.1
 all_goals try
  have hil:(i:Int)<l.length:=by assumption
  refine zMb fun h=> ?_;have ht:=z6f h (i:=i) (by omega);unfold zT3 dgn at ht;omega
 all_goals try
  have hil:(i:Int)<l.length:=by assumption
  refine yK.intro (zA ?_ ?_)
  ·omega
  ·intro a ha
   by_cases e:a=i
   ·subst e;unfold zT3 dgn;omega
   ·exact hi.2 a (by omega)
 all_goals try exact zJu _ _
 all_goals try
  (have hN:=zP6 (l.getD j (0,0,0)) (l.getD k (0,0,0)) p
   refine qh ?_;unfold yP;omega)
 all_goals try
  (have a1:zJw (l.getD j (0,0,0)) p=zJw (l.getD k (0,0,0)) q:=by assumption
   have a2:zJw (l.getD j (0,0,0)) ((p+1) % 3)=zJw (l.getD k (0,0,0)) ((q+1) % 3):=by assumption
   exact zMb fun h=>(zN1 h (i:=j) (k:=k) (by omega) (show j<l.length by omega)).1 p q (by omega) (by omega) ⟨a1,a2⟩)
 all_goals try
  (have hq2:=hq.2
   have a1: ¬ shE (l.getD j (0,0,0)) (l.getD k (0,0,0)) p q:=by
    rintro ⟨b1,b2⟩
    first|exact absurd b1 (by assumption)|exact absurd b2 (by assumption)
   refine yK.intro (zA ?_ ?_)
   ·omega
   ·intro b hb
    by_cases e:b=q
    ·subst e;exact a1
    ·exact hq2 b (by omega))
 all_goals try
  (have hq2:=hq.2
   have hp2:=hp.2;have e3:q=3:=by omega
   refine yK.intro (zA ?_ ?_)
   ·omega
   ·intro a b ha hb
    by_cases e:a=p
    ·subst e;exact hq2 b (by omega)
    ·exact hp2 a b (by omega) hb)
 all_goals try (rw [zE1,if_pos (zGH.1 (by assumption))];done)
 all_goals try (rw [zE1,if_neg (zPZ.1 (by assumption))];done)
 all_goals try
  (have a1:zLA (l.getD j (0,0,0)) (l.getD k (0,0,0)) p=3:=by assumption
   have e3:p=3:=by omega
   rw [e3] at a1
   exact zMb fun h=>(zN1 h (i:=j) (k:=k) (by omega) (show j<l.length by omega)).2 a1)
 all_goals try
  (have a1:zLA (l.getD j (0,0,0)) (l.getD k (0,0,0)) p≠3:=by assumption
   have e3:p=3:=by omega
   have hk2:=hk.2;have hp2:=hp.2;rw [e3] at a1 hp2;refine yK.intro (zA ?_ ?_)
   ·omega
   ·intro a ha
    by_cases e:a=k
    ·subst e;exact ⟨fun x y hx hy=>hp2 x y hx hy,a1⟩
    ·exact hk2 a (by omega))
 all_goals try
  (have hk2:=hk.2
   have hj2:=hj.2;have e3:k=j:=by omega
   refine yK.intro (zA ?_ ?_)
   ·omega
   ·intro a b hb ha
    by_cases e:a=j
    ·subst e;exact hk2 b (by omega)
    ·exact hj2 a b hb (by omega))
 all_goals try (refine yK.intro (zA ?_ ?_)<;>first|omega|(intros;omega))
 all_goals try
  (have hv1:(v:Int)<n:=by assumption
   refine zMb fun h=> ?_;have hf:=zYz h (v:=v) hv1
   first
   | exact hf.1 (by assumption)
   | exact absurd hf.2 (by assumption))
 all_goals try
  (have hv1:(v:Int)<n:=by assumption
   have hv2:=hv.2;have b1:(zBY l v).1≠0:=by assumption
   have b2:(zBY l v).1=(zBY l v).2:=by assumption
   refine yK.intro (zA ?_ ?_)
   ·omega
   ·intro u hu
    by_cases e:u=v
    ·subst e;exact ⟨b1,b2⟩
    ·exact hv2 u (by omega))
 all_goals
  have e1:i=l.length:=by omega
  have e2:j=l.length:=by omega
  have hi2:=hi.2;have hj2:=hj.2;have hv2:=hv.2;have hv1:=hv.1;rw [e1] at hi2;rw [e2] at hj2;refine z2T (zWS (s:=(n,l)) (zA ?_ (zA ?_ (zA ?_ ?_))) ?_ ?_ ?_)
  ·show 0<=n;omega
  ·show n<=4096;omega
  ·show l.length<=8192;omega
  ·intro a ha;have k:=hi2 a ha;unfold zT3 at k;exact zFn (by show ¬ ((l.getD a (0,0,0)).1<0\/(l.getD a (0,0,0)).1>=n\/(l.getD a (0,0,0)).2.1<0\/(l.getD a (0,0,0)).2.1>=n\/(l.getD a (0,0,0)).2.2<0\/(l.getD a (0,0,0)).2.2>=n);omega)
  ·intro a ha;exact (hi2 a ha).2.2.2
  ·intro a b hb ha;exact hj2 a b hb ha
  ·intro u hu;have hu:(u:Int)<n:=hu;exact hv2 u (by omega)
def z4C:List AV->Option Res:=zEv qP (fun s=>some (none,none,.s (.bool (isR s))))
theorem z2x:qL Tryz.prog 15 z4C:=⟨zAV fun s r h=>by cases h;exact qM (yN (fn:=[(51,zIj),(52,zVU)]) (fr:=[]) ⟨zL7,z0G,trivial⟩ trivial) Tryz.func15 (by kernel_rfl) fun _ _=>z2S s.1 s.2,_,Tryz.func15,by kernel_rfl,by kernel_rfl⟩
end S1
open Go Go.Vm Go.Proofs
namespace S1
open S9
def zOo (a b:List P3):Spec Nat where
 inv x:=x<=a.length/\∀ i,i<x->a.getD i (0,0,0)=b.getD i (0,0,0)
 live x:=[(5,.s (.int .i64 x))]
 keep:=[2,3]
 heap _:=[]
 keepH:=[0,1]
 mu x:=a.length - x
theorem zYY {fn} (n m:Int) (a b:List P3) (hl:a.length<=100000):zAF ⟨tyL,fn,[]⟩ Tryz.f26 [qP.av (n,a),qP.av (m,b)] (fun v=>v= .s (.bool (eqS (n,a) (m,b)))):=by
 repeat' (conv=>whnf
          first|done|refine qN (by first|rfl|omega|(simp only [yP] at *;omega)) ?_|apply qH|refine qG fun _=> ?_|apply qB|apply qa|apply qo|refine qe (fun _=> ?_) (fun _=> ?_)|refine qn (fun _=> ?_) (fun _=> ?_)|refine qd (fun _=> ?_) (fun _=> ?_)|apply qt|refine qi (fun _=> ?_) (fun _=> ?_)|(refine qT 4 rfl ?_;refine Or.inr (zB (Nat) (zB (zOo a b) (zA (zB (0) (zA (yK.out ?_) (zA ?_ (zA ?_ rfl)))) (fun x hx=> ?_)))))|((with_reducible show (∃ y,And (Spec.inv (zOo _ _) y) _));refine zB (x+1) (zA (yK.out ?_) (zA (zA ?_ (zA ?_ rfl)) (yK.out ?_))))|refine zA rfl ?_|apply qE|apply qO|exact zN|apply qq|apply qs|refine qK (by kernel_rfl) ?_|apply qr)
 all_goals try first|apply qz1|apply qz2|apply qz3|apply qz4|apply qz5|apply qz6|apply qz7|apply qz8|apply qz9|apply qz0
 all_goals try simp only [zZ,zR,yD,z6,qn1,zY,qn2,zX,ETy.dflt,qn3,qn4,Int.reduceToNat,Int.reduceAdd,Int.reduceSub,Int.reduceNeg,Nat.reduceAdd,zD,zOo,eqS] at *
 all_goals try (refine qh ?_;omega)
 all_goals try exact qh ⟨Nat.zero_le _,fun i hi=>by omega⟩
 all_goals try
  (symm;rw [yM];intro e;cases e;exact absurd rfl (by assumption))
 ·refine yK.intro ⟨by omega,fun i hi=> ?_⟩
  by_cases e:i=x
  ·subst e;exact Prod.ext ‹_› (Prod.ext ‹_› ‹_›)
  ·exact hx.2 i (by omega)
 ·have e:a=b:=List.ext_getElem (by omega) fun i h1 h2=>by
   have:=hx.2 i (by omega);rwa [gdE,gdE,gE h1,gE h2] at this
  symm;rw [zP,e,show n=m by assumption]
def zIY:List AV->Option Res:=zCs qP qP (fun a b=>some (none,some (a.2.length<=100000),.s (.bool (eqS a b))))
theorem zOD:qL Tryz.prog 26 zIY:=⟨jC fun a b r h=>by cases h;exact qM (yN (fn:=[]) (fr:=[]) trivial trivial) Tryz.func26 (by kernel_rfl) fun _ h=>zYY a.1 b.1 a.2 b.2 h,_,Tryz.func26,by kernel_rfl,by kernel_rfl⟩
def zDP (s:SoT) (l:EdB):Bool:=decide ((s.2.length:Int)>30)|| (decide (s.1>100)|| decide ((l.length:Int)>12))
theorem zSf {fn} (n:Int) (a:List P3) (l:EdB):zAF ⟨tyL,fn,[]⟩ Tryz.f14 [qP.av (n,a),(ETy.sl .arr2).av l] (fun v=>v= .s (.bool (zDP (n,a) l))):=by
 repeat' (conv=>whnf
          first|done|refine qN (by first|rfl|omega|(simp only [yP] at *;omega)) ?_|apply qH|refine qG fun _=> ?_|apply qB|apply qa|apply qo|refine qe (fun _=> ?_) (fun _=> ?_)|refine qn (fun _=> ?_) (fun _=> ?_)|refine qd (fun _=> ?_) (fun _=> ?_)|apply qt|refine qi (fun _=> ?_) (fun _=> ?_)|refine zA rfl ?_|apply qE|apply qO|exact zN|apply qq|apply qs|refine qK (by kernel_rfl) ?_|apply qr)
 all_goals try first|apply qz1|apply qz2|apply qz3|apply qz4|apply qz5|apply qz6|apply qz7|apply qz8|apply qz9|apply qz0
 all_goals try simp only [zZ,zR,yD,z6,qn1,zY,qn2,zX,ETy.dflt,qn3,qn4,Int.reduceToNat,Int.reduceAdd,Int.reduceSub,Int.reduceNeg,Nat.reduceAdd,zD,zDP] at *
 ·rw [decide_eq_true (by assumption)];rfl
 ·rw [decide_eq_false (by assumption),decide_eq_true (by assumption)];rfl
 ·rw [decide_eq_false (p:=(a.length:Int)>30) (by assumption),decide_eq_false (p:=n>100) (by assumption)];rfl
def zLp:List AV->Option Res:=zCs qP (.sl .arr2) (fun s l=>some (none,none,.s (.bool (zDP s l))))
theorem zTE:qL Tryz.prog 14 zLp:=⟨jC fun s l r h=>by cases h;exact qM (yN (fn:=[]) (fr:=[]) trivial trivial) Tryz.func14 (by kernel_rfl) fun _ _=>zSf s.1 s.2 l,_,Tryz.func14,by kernel_rfl,by kernel_rfl⟩
def j9:SoT:=(8,[(0,1,2),(2,1,3),(2,3,4),(4,3,5),(4,5,6),(6,5,7)])
theorem zZv {fn} :zAF ⟨tyL,fn,[]⟩ Tryz.f50 [] (fun v=>v=qP.av j9):=by
 repeat' (conv=>whnf
          first|done|refine qN (by first|rfl|omega|(simp only [yP] at *;omega)) ?_|apply qH|refine qG fun _=> ?_|apply qB|apply qa|apply qo|refine qe (fun _=> ?_) (fun _=> ?_)|refine qn (fun _=> ?_) (fun _=> ?_)|refine qd (fun _=> ?_) (fun _=> ?_)|apply qt|refine qi (fun _=> ?_) (fun _=> ?_)|refine zA rfl ?_|apply qE|apply qO|exact zN|apply qq|apply qs|refine qK (by kernel_rfl) ?_|apply qr)
 all_goals try first|apply qz1|apply qz2|apply qz3|apply qz4|apply qz5|apply qz6|apply qz7|apply qz8|apply qz9|apply qz0
 all_goals try simp only [zZ,zR,yD,z6,qn1,zY,qn2,zX,ETy.dflt,qn3,qn4,Int.reduceToNat,Int.reduceAdd,Int.reduceSub,Int.reduceNeg,Nat.reduceAdd,zD] at *
 exact y9.intro rfl
def z6Q:List AV->Option Res
 | []=>some (none,none,qP.av j9)
 | _=>none
theorem zYc:qL Tryz.prog 50 z6Q:=⟨fun args r h=>by
 cases args with
 | nil=>cases h;exact qM (yN (fn:=[]) (fr:=[]) trivial trivial) Tryz.func50 (by kernel_rfl) fun _ _=>zZv
 | cons a l=>(cases h),_,Tryz.func50,by kernel_rfl,by kernel_rfl⟩
theorem z0n (n:Int) (l:List P3) (x:yI.T) (hx:zGy (n,l)=some x) (hl:l.length<=40) (h9:zPP (n,l)=true):zAF ⟨tyL,[(53,zXT),(54,zL1 x)],[]⟩ Tryz.f16 [qP.av (n,l)] (fun v=>v=(ETy.pt yI).av (some x)):=by
 repeat' (conv=>whnf
          first|done|refine qN (by first|rfl|omega|(simp only [yP] at *;omega)) ?_|apply qH|refine qG fun _=> ?_|apply qB|apply qa|apply qo|refine qe (fun _=> ?_) (fun _=> ?_)|refine qn (fun _=> ?_) (fun _=> ?_)|refine qd (fun _=> ?_) (fun _=> ?_)|apply qt|refine qi (fun _=> ?_) (fun _=> ?_)|refine zA rfl ?_|apply qE|apply qO|exact zN|apply qq|apply qs|refine qK (by kernel_rfl) ?_|apply qr)
 all_goals try first|apply qz1|apply qz2|apply qz3|apply qz4|apply qz5|apply qz6|apply qz7|apply qz8|apply qz9|apply qz0
 all_goals try simp only [zZ,zR,yD,z6,qn1,zY,qn2,zX,ETy.dflt,qn3,qn4,Int.reduceToNat,Int.reduceAdd,Int.reduceSub,Int.reduceNeg,Nat.reduceAdd,zD] at *
 all_goals first
  | (exfalso;omega)
  | exact qh hx
  | exact absurd (show (S9.allR (n,l)).length=0 by have:=h9;unfold zPP at this;simpa using this) (by assumption)
  | exact y9.intro rfl
def z6d:List AV->Option Res:=zEv qP (fun s=>some (none,some (zBI s/\s.2.length<=40),(ETy.pt yI).av (some (zAj s))))
theorem z1L:qL Tryz.prog 16 z6d:=⟨zAV fun s r h=>by
 cases h;cases e:zGy s with
 | none=>exact fun σ vals w hag hv=>⟨trivial,fun hq=>absurd (zAs (show zBI s from hq.1)).1 (by rw [e];simp)⟩
 | some x =>
   rw [<- (zH9 e).1]
   exact qM (yN (fn:=[(53,zXT),(54,zL1 x)]) (fr:=[]) ⟨zYs,(zKx x),trivial⟩ trivial) Tryz.func16 (by kernel_rfl) fun _ h=>z0n s.1 s.2 x e h.2 ((zUt s).2 h.1),_,Tryz.func16,by kernel_rfl,by kernel_rfl⟩
end S1
open Go Go.Vm Go.Proofs
namespace S1
open S9
theorem zYG {s:SoT} (hs:zBI s):Full (zAj s)/\jV (InN (zAj s).1.1) (zAj s).1.2:=by
 obtain ⟨_,g,e⟩:=zAs hs;exact ⟨g,zA9 (s:=(zAj s).1) (by rw [e];exact hs)⟩
theorem zSI {s:SoT} (hs:zBI s) (es:EdB):zY4 s (zBx (zAj s) es):=by
 obtain ⟨_,g,e⟩:=zAs hs;have h:=zLW g (zYG hs).2 es es.length;exact ⟨hs,by rw [<- e];exact h.free,by rw [<- e];exact h.apart⟩
theorem z8N {s:SoT} {l:EdB} (h:zY4 s l) {r:SoT×List zAU×Int} (e:doB s l=r):r.2.2=0/\r.2.1.length=l.length/\r.1.1=s.1 - l.length/\ChB s r.1 r.2.1/\okR r.2.1/\r.1.2.length<=s.2.length:=by
 have hE:zRZ s l=0:=by
  unfold zRZ;rw [if_pos ((zCP _).2 h.surf),if_pos ((zMX h.surf).2 h)]
 rw [z0O hE] at e;subst e;have d:=zOQ h l.length (zI _);exact ⟨rfl,d.len,d.num,d.ch,d.ok,d.tri⟩
def z9B (x:yI.T) (a b:Int) (l:List Int):Int :=
 if !zAN x a b then 1 else if (zDd x a b).length=2/\zAT x a=false/\zAT x b=false then 2
 else if zSx (zDd x a b) l=false then 3 else if zB0 x a then 4 else 0
theorem zVg (x:yI.T) (a b:Int):zD8 x a b=z9B x a b (zG3 x a b):=rfl
theorem zUT {x:yI.T} {a b:Int} {l0 l:List Int} (hne:a≠b) (hl:((zDC x a).filter fun v=>zDo v (zDC x b))=l0) (hp:l0.Perm l) (hs:l.Pairwise (·<=·)):zG3 x a b=l:=by
 unfold zG3;rw [if_neg hne,hl];exact zOY ((zGc _).trans hp) (zGm _) hs
def awL:EdB:=[(0,1),(7,6)]
def awM:EdB:=[(0,1),(3,2)]
theorem zDn:zBI j9:=(zD2 _).1 (by rw [z4K];decide +kernel)
theorem zUA:zD8 (zAj j9) 0 1=0:=by
 rw [zVg,zUT (l0:=[2]) (l:=[2]) (by decide) (by decide +kernel) (.refl _) (by decide)];decide +kernel
theorem zXq:zD8 (zAj j9) 7 6=0:=by
 rw [zVg,zUT (l0:=[5]) (l:=[5]) (by decide) (by decide +kernel) (.refl _) (by decide)];decide +kernel
theorem zTS:zY4 j9 awL:=by
 obtain ⟨_,g,e⟩:=zAs zDn;have hm:jV (InN (zAj j9).1.1) (zAj j9).1.2:=zA9 (s:=(zAj j9).1) (by rw [e];exact zDn);refine ⟨zDn,fun d hd=> ?_,?_⟩
 ·rw [<- e];rcases zT.1 hd with h|h
  ·rw [h];exact (zKL g hm).1 zUA
  ·rw [zF.1 h];exact (zKL g hm).1 zXq
 ·refine List.pairwise_cons.2 ⟨fun d hd=> ?_,List.pairwise_singleton _ _⟩;rw [zF.1 hd];exact zQM.1 (by decide +kernel)
theorem z2A:zM7 (some (zAj j9)) awL=true:=(zMX zDn).2 zTS
theorem z6S:zM7 (some (zAj j9)) awM=false:=by
 rw [<- Bool.not_eq_true];intro h;have:=(List.pairwise_cons.1 ((zMX zDn).1 h).apart).1 (3,2) (zF.2 rfl) (2,1,3) (by decide) (.inr (by decide)) (.inl (by decide));exact this
theorem z7y:apB (zAj j9) (0,1) (7,6)=true:=by
 obtain ⟨_,g,e⟩:=zAs zDn;unfold apB;rw [show zAN (zAj j9) (0,1).1 (0,1).2=true from (zPd zUA).1,show zAN (zAj j9) (7,6).1 (7,6).2=true from (zPd zXq).1];exact (zVu g).2 (by rw [e];exact zQM.1 (by decide +kernel))
theorem z8z:zRZ j9 awL=0:=by
 unfold zRZ;rw [if_pos ((zCP _).2 zDn),if_pos z2A]
theorem z7u:z7T j9 awL 2:=zOQ zTS 2 (zI _)
theorem z5Y:(doK j9 awL 2).1.2.length=4:=by
 have h0:=zOQ zTS 0 (Nat.zero_le _);have s0:=zKt h0 (show 0<awL.length by decide);have s1:=zKt s0.2.2.2 (show 1<awL.length by decide);have e1:(doK j9 awL 1).1=z2B j9 0 1:=s0.2.1;have n7:zBK (doK j9 awL 1).2 7=6:=(s0.2.2.1 7 (show (0:Int)<=7 by decide)).1;have n6:zBK (doK j9 awL 1).2 6=5:=(s0.2.2.1 6 (show (0:Int)<=6 by decide)).1;have e2:(doK j9 awL 2).1=z2B (doK j9 awL 1).1 (zBK (doK j9 awL 1).2 7) (zBK (doK j9 awL 1).2 6):=s1.2.1
 rw [e2,e1,n7,n6];decide +kernel
theorem z8s {r:SoT×List zAU×Int} (e:doB j9 awL=r):r.2.2=0/\r.2.1.length=2/\r.1.1=6/\r.1.2.length=4/\ChB j9 r.1 r.2.1:=by
 rw [z0O z8z] at e;subst e;have h:=z7u;exact ⟨rfl,h.len,by show (doK j9 awL 2).1.1=6;rw [h.num];rfl,z5Y,h.ch⟩
end S1
open Go Go.Vm Go.Proofs
namespace S1
def zPC (S:SoT):List AV->Option Res
 | []=>some (none,some (S=j9),qP.av S)
 | _=>none
theorem zUs (S:SoT):qL Tryz.prog 50 (zPC S):=⟨fun args r h=>by
 cases args with
 | nil =>
   cases h;intro σ vals w hag hv;refine ⟨trivial,fun hq=> ?_⟩;have hq:S=j9:=hq;subst hq;exact (zYc.1 [] _ rfl σ vals w hag hv).2 trivial
 | cons a l=>(cases h),_,Tryz.func50,by kernel_rfl,by kernel_rfl⟩
attribute [local irreducible] doB zBn eqS zM7 apB zAj
theorem zSU (S:SoT) (hS:S=j9):zAF ⟨tyL,[(50,zPC S),(16,z6d),(24,z6F),(25,zNc S),(17,zPE),(19,z7G),(26,zIY)],[]⟩ Tryz.f13 [] (fun r=>r= .s (.bool true)):=by
 have m2:List.take 2 (List.drop 0 (((List.replicate 2 ((0:Int),(0:Int))).set 0 (0,1)).set 1 (7,6)))=awL:=rfl;have m3:(((List.replicate 2 ((0:Int),(0:Int))).set 0 (0,1)).set 1 (3,2))=awM:=rfl;have hs:zBI S:=by rw [hS];exact zDn
 have hl:List.length S.2=6:=by rw [hS];rfl
 obtain ⟨f1,f2,f3,f4,f5⟩:=z8s (r:=doB S awL) (by rw [hS]);have f5:ChB S (doB S awL).1 (doB S awL).2.1:=by have:=f5;rw [<- hS] at this;exact this
 have his1:zM7 (some (zAj S)) awL=true:=by rw [hS];exact z2A
 have his2:zM7 (some (zAj S)) awM=false:=by rw [hS];exact z6S
 have hap:apB (zAj S) (0,1) (7,6)=true:=by rw [hS];exact z7y
 have hg:=zYG hs
 repeat' (conv=>whnf
          first|done|refine qN (by first|rfl|omega|(simp only [yP] at *;omega)) ?_|apply qH|refine qG fun _=> ?_|apply qB|apply qa|apply qo|refine qe (fun _=> ?_) (fun _=> ?_)|refine qn (fun _=> ?_) (fun _=> ?_)|refine qd (fun _=> ?_) (fun _=> ?_)|apply qt|refine qi (fun _=> ?_) (fun _=> ?_)|refine zA rfl ?_|apply qE|apply qO|exact zN|apply qq|apply qs|refine qK (by kernel_rfl) ?_|apply qr)
 all_goals try first|apply qz1|apply qz2|apply qz3|apply qz4|apply qz5|apply qz6|apply qz7|apply qz8|apply qz9|apply qz0
 all_goals try simp only [zZ,zR,yD,z6,qn1,zY,qn2,zX,ETy.dflt,qn3,qn4,Int.reduceToNat,Int.reduceAdd,Int.reduceSub,Int.reduceNeg,Nat.reduceAdd,zD] at *
 all_goals try simp only [m2,m3] at *
 all_goals first
  | exact qh ⟨hs,by rw [hl];decide⟩
  | exact qh ⟨hs,by decide⟩
  | exact qh ⟨f5,by rw [f2];decide,show List.length (doB S awL).1.2<=8192 by rw [f4];decide⟩
  | exact qh ⟨by decide,by decide⟩
  | exact qh (fun y h=>by cases h;exact hg.1.toGood)
  | exact qh ⟨fun y h=>by cases h;exact hg,by decide⟩
  | exact qh (show List.length S.2<=100000 by rw [hl];decide)
  | exact zKi _
  | (have h:zM7 (some (zAj S)) awM=true:=by assumption
     rw [his2] at h;cases h)
  | (have h:zM7 (some (zAj S)) awL=false:=by assumption
     rw [his1] at h;cases h)
  | (have h:apB (zAj S) (0,1) (7,6)=false:=by assumption
     rw [hap] at h;cases h)
  | exact absurd f1 (by assumption)
  | exact absurd f3 (by assumption)
  | exact absurd (show ((doB S awL).2.1.length:Int)=2 by rw [f2];rfl) (by assumption)
  | exact absurd (show ((List.length (doB S awL).1.2:Nat):Int)=4 by rw [f4];rfl) (by assumption)
def zMM:List AV->Option Res
 | []=>some (none,none,.s (.bool true))
 | _=>none
theorem zTC:qL Tryz.prog 13 zMM:=⟨fun args r h=>by
 cases args with
 | nil =>
   cases h;obtain ⟨S,hS⟩: ∃ S,S=j9:=⟨_,rfl⟩;exact qM (yN (fn:=[(50,zPC S),(16,z6d),(24,z6F),(25,zNc S),(17,zPE),(19,z7G),(26,zIY)]) (fr:=[]) ⟨(zUs S),z1L,z1s,(zRc S),zVf,z1R,zOD,trivial⟩ trivial) Tryz.func13 (by kernel_rfl) fun _ _=>zSU S hS
 | cons a l=>(cases h),_,Tryz.func13,by kernel_rfl,by kernel_rfl⟩
end S1
open Go Go.Vm Go.Proofs
namespace S1
theorem zSH {s:SoT} {l:EdB} (h:zDP s l=false):s.2.length<=30/\s.1<=100/\l.length<=12:=by
 unfold zDP at h;rw [Bool.or_eq_false_iff,Bool.or_eq_false_iff,yM,yM,yM] at h;omega
theorem zSy (x:yI.T) (l:EdB):(zBx x l).length<=l.length:=zLf x l l.length
attribute [local irreducible] doB zBn eqS zBx zAj isR zDP
theorem lawBU_vc (n:Int) (l:List P3) (es:EdB):zAF ⟨tyL,[(13,zMM),(14,zLp),(15,z4C),(16,z6d),(22,zFJ),(24,z6F),(25,zNc (n,l)),(26,zIY)],[]⟩ Tryz.f4 [qP.av (n,l),(ETy.sl .arr2).av es] (fun r=>r= .s (.bool true)):=by
 repeat' (conv=>whnf
          first|done|refine qN (by first|rfl|omega|(simp only [yP] at *;omega)) ?_|apply qH|refine qG fun _=> ?_|apply qB|apply qa|apply qo|refine qe (fun _=> ?_) (fun _=> ?_)|refine qn (fun _=> ?_) (fun _=> ?_)|refine qd (fun _=> ?_) (fun _=> ?_)|apply qt|refine qi (fun _=> ?_) (fun _=> ?_)|refine zA rfl ?_|apply qE|apply qO|exact zN|apply qq|apply qs|refine qK (by kernel_rfl) ?_|apply qr)
 all_goals try first|apply qz1|apply qz2|apply qz3|apply qz4|apply qz5|apply qz6|apply qz7|apply qz8|apply qz9|apply qz0
 all_goals try simp only [zZ,zR,yD,z6,qn1,zY,qn2,zX,ETy.dflt,qn3,qn4,Int.reduceToNat,Int.reduceAdd,Int.reduceSub,Int.reduceNeg,Nat.reduceAdd,zD] at *
 all_goals have hg36:=zSH (show zDP (n,l) es=false by assumption)
 all_goals have hl30:l.length<=30:=hg36.1
 all_goals have hes:List.length es<=12:=hg36.2.2
 all_goals have hs:zBI (n,l):=(zCP (n,l)).1 (by assumption)
 all_goals have hC:=zSI hs es
 all_goals have hCl:(zBx (zAj (n,l)) es).length<=List.length es:=zSy _ _
 all_goals obtain ⟨f1,f2,f3,f4,f5,f6⟩:=z8N hC rfl
 all_goals have f6':List.length (doB (n,l) (zBx (zAj (n,l)) es)).1.2<=l.length:=f6
 all_goals first
  | exact qh ⟨hs,by omega⟩
  | exact qh ⟨fun y h=>by cases h;exact zYG hs,by omega⟩
  | exact qh ⟨f4,by omega,by omega⟩
  | (refine qh ?_;omega)
  | exact zKi _
  | exact absurd f1 (by assumption)
def lawBUC:List AV->Option Res:=zCs qP (.sl .arr2) (fun _ _=>some (none,none,.s (.bool true)))
theorem lawBURow:qL Tryz.prog 4 lawBUC:=⟨jC fun s es r h=>by
 cases h;obtain ⟨n,l⟩:=s
 exact qM (yN (fn:=[(13,zMM),(14,zLp),(15,z4C),(16,z6d),(22,zFJ),(24,z6F),(25,zNc (n,l)),(26,zIY)]) (fr:=[]) ⟨zTC,zTE,z2x,z1L,zIS,z1s,(zRc (n,l)),zOD,trivial⟩ trivial) Tryz.func4 (by kernel_rfl) fun _ _=>lawBU_vc n l es,_,Tryz.func4,by kernel_rfl,by kernel_rfl⟩
end S1
