/- A part of the proofs of the laws. -/
import Derived.Test.YtbfghjbhfgbdnaaGreatY6toY2
import Derived.Test.YtbfghjbhfgbdnaaGreatW4toY5
import Derived.Test.YtbfghjbhfgbdnaaGreatFan1toW3
import Derived.Test.YtbfghjbhfgbdnaaGreatT5toT22
import Derived.Shelf.SlSortCmp.NoneTotal
set_option linter.unusedSimpArgs false
set_option linter.unusedVariables false
set_option maxHeartbeats 8000000
set_option maxRecDepth 100000
open Go.Proofs.Tryz
open Go Go.Vm Go.Proofs
namespace S1
def z9V (n:Int) (t:P3):Prop:=(0<=t.1/\t.1<n)/\(0<=t.2.1/\t.2.1<n)/\(0<=t.2.2/\t.2.2<n)/\¬ dgn t
def za1 (n:Int) (l:List P3):Spec Nat where
 inv i:=i<=l.length/\∀ j,j<i->z9V n (l.getD j (0,0,0))
 live i:=[(3,.s (.int .i64 i))]
 keep:=[1,2]
 heap _:=[]
 keepH:=[0]
 mu i:=l.length - i
def zag (l:List P3):Spec Nat where
 inv i:=i<=l.length/\∀ j k,k<j->j<i->z8p (l.getD j (0,0,0)) (l.getD k (0,0,0))
 live i:=[(6,.s (.int .i64 i))]
 keep:=[1,2]
 heap _:=[]
 keepH:=[0]
 mu i:=l.length - i
def zaY (l:List P3) (i:Nat):Spec Nat where
 inv k:=k<=i/\∀ j,j<k->z8p (l.getD i (0,0,0)) (l.getD j (0,0,0))
 live k:=[(7,.s (.int .i64 k))]
 keep:=[1,2,6]
 heap _:=[]
 keepH:=[0]
 mu k:=i - k
def z9S (l:List P3) (i k:Nat):Spec Nat where
 inv p:=p<=3/\∀ a b,a<p->b<3->¬ shE (l.getD i (0,0,0)) (l.getD k (0,0,0)) a b
 live p:=[(9,.s (.int .i64 p)),(8,.s (.int .i64 (z7o (l.getD i (0,0,0)) (l.getD k (0,0,0)) p)))]
 keep:=[1,2,6,7]
 heap _:=[]
 keepH:=[0]
 mu p:=3 - p
def zaK (l:List P3) (i k p:Nat):Spec Nat where
 inv q:=q<=3/\∀ b,b<q->¬ shE (l.getD i (0,0,0)) (l.getD k (0,0,0)) p b
 live q:=[(10,.s (.int .i64 q))]
 keep:=[1,2,6,7,8,9]
 heap _:=[]
 keepH:=[0]
 mu q:=3 - q
def z9t (n:Int) (l:List P3):Spec Nat where
 inv v:=(v:Int)<=max n 0/\∀ u:Nat,u<v->(z6g l u).1≠0/\(z6g l u).1=(z6g l u).2
 live v:=[(11,.s (.int .i64 v))]
 keep:=[1,2]
 heap _:=[]
 keepH:=[0]
 mu v:=n.toNat - v
theorem z8o (s:SoT):isR s=true↔zDM s:=by
 unfold isR;rw [zB];exact ⟨fun h=>(zEh s).1 (by rw [h]),fun h=>zMb ((zEh s).2 h)⟩
theorem z8H {s:SoT} (h:zDM s->False):false=isR s:=by
 cases e:isR s with
 | false=>rfl
 | true=>exact (h ((z8o s).1 e)).elim
theorem zcJ {s:SoT} (h:zDM s):true=isR s:=((z8o s).2 h).symm
theorem zde:(Int.tmod 1 3).toNat=1:=rfl
theorem zdf:(Int.tmod 2 3).toNat=2:=rfl
theorem zdd:(Int.tmod 3 3).toNat=0:=rfl
theorem c30 (t:P3):z79 t 0=t.1:=rfl
theorem c31 (t:P3):z79 t 1=t.2.1:=rfl
theorem c32 (t:P3):z79 t 2=t.2.2:=rfl
theorem zdB {n:Int} {l:List P3} (h:zDM (n,l)) {i:Nat} (hi:i<l.length):z9V n (l.getD i (0,0,0)):=by
 obtain ⟨a,b,c⟩:=zAv (h.fit.2.2.2 i hi);exact ⟨a,b,c,h.deg i hi⟩
theorem zdc (q:Nat):0<=((q:Int)+1).tmod 3/\((q:Int)+1).tmod 3<3:=by
 have e:((q:Int)+1).tmod 3=((q:Int)+1) % 3:=Int.tmod_eq_emod_of_nonneg (by omega);rw [e];omega
attribute [local irreducible] z7o z6g isR
theorem zcS (n:Int) (l:List P3):zAk ⟨tyL,[(37,z9A),(38,zbm)],[]⟩ Tryz.f9 [jQ.av (n,l)] (fun r=>r= .s (.bool (isR (n,l)))):=by
 repeat' (conv=>whnf
          first|done|refine qy ?_|refine qG fun _=> ?_|refine qw (fun _=> ?_) (fun _=> ?_)|apply qt|refine qi (fun _=> ?_) (fun _=> ?_)|(refine jS 4 rfl (za1 n l) (0) ?_ ?_ ?_ fun i hi=> ?_)|with_reducible refine jK (za1 _ _) (i+1) ?_ ?_ ?_ ?_|(refine zJa 8 rfl ?_;refine Or.inl (yM (4) ?_))|(refine jS 13 rfl (zag l) (0) ?_ ?_ ?_ fun j hj=> ?_)|with_reducible refine jK (zag _) (j+1) ?_ ?_ ?_ ?_|(refine jS 16 rfl (zaY l j) (0) ?_ ?_ ?_ fun k hk=> ?_)|with_reducible refine jK (zaY _ _) (k+1) ?_ ?_ ?_ ?_|(refine jS 20 rfl (z9S l j k) (0) ?_ ?_ ?_ fun p hp=> ?_)|with_reducible refine jK (z9S _ _ _) (p+1) ?_ ?_ ?_ ?_|(refine jS 25 rfl (zaK l j k p) (0) ?_ ?_ ?_ fun q hq=> ?_)|with_reducible refine jK (zaK _ _ _ _) (q+1) ?_ ?_ ?_ ?_|(refine jS 32 rfl (z9t n l) (0) ?_ ?_ ?_ fun v hv=> ?_)|with_reducible refine jK (z9t _ _) (v+1) ?_ ?_ ?_ ?_|refine qu ?_|refine qv ?_ ?_|exact zL)
 all_goals try first|refine qz ?_|apply qz5
 all_goals try simp only [qn0,zY,zX,ETy.dflt,Int.reduceToNat,Int.reduceAdd,Int.reduceSub,Int.reduceNeg,Nat.reduceAdd,za1,zag,zaY,z9S,zaK,z9t,zaq,tmX,zde,zdf,zdd,c30,c31,c32] at *
 all_goals try
  (refine z8H fun h=> ?_
   have h1:0<=n:=h.fit.1;have h2:n<=4096:=h.fit.2.1;have h3:l.length<=8192:=h.fit.2.2.1
   omega)
 all_goals try exact qh ⟨by decide,by decide⟩
 all_goals try exact qh (zdc _)
 all_goals try (refine zA9.intro (yA (y7 _) ?_);intros;omega)
 all_goals try (refine qh ?_;omega)
 all_goals have hi1:=hi.1
 all_goals try
  have hil:(i:Int)<l.length:=by assumption
  refine z8H fun h=> ?_;have ht:=zdB h (i:=i) (by omega);unfold z9V dgn at ht;omega
 all_goals try
  have hil:(i:Int)<l.length:=by assumption
  refine zA9.intro (yA ?_ ?_)
  ·omega
  ·intro a ha
   by_cases e:a=i
   ·subst e;unfold z9V dgn;omega
   ·exact hi.2 a (by omega)
 all_goals try exact z7c _ _
 all_goals try
  (have hN:=z8b (l.getD j (0,0,0)) (l.getD k (0,0,0)) p
   refine qh ?_;unfold zAZ;omega)
 all_goals try
  (have a1:z79 (l.getD j (0,0,0)) p=z79 (l.getD k (0,0,0)) q:=by assumption
   have a2:z79 (l.getD j (0,0,0)) ((p+1) % 3)=z79 (l.getD k (0,0,0)) ((q+1) % 3):=by assumption
   exact z8H fun h=>(z8Q h (i:=j) (k:=k) (by omega) (show j<l.length by omega)).1 p q (by omega) (by omega) ⟨a1,a2⟩)
 all_goals try
  (have hq2:=hq.2
   have a1: ¬ shE (l.getD j (0,0,0)) (l.getD k (0,0,0)) p q:=by
    rintro ⟨b1,b2⟩
    first|exact absurd b1 (by assumption)|exact absurd b2 (by assumption)
   refine zA9.intro (yA ?_ ?_)
   ·omega
   ·intro b hb
    by_cases e:b=q
    ·subst e;exact a1
    ·exact hq2 b (by omega))
 all_goals try
  (have hq2:=hq.2
   have hp2:=hp.2;have e3:q=3:=by omega
   refine zA9.intro (yA ?_ ?_)
   ·omega
   ·intro a b ha hb
    by_cases e:a=p
    ·subst e;exact hq2 b (by omega)
    ·exact hp2 a b (by omega) hb)
 all_goals try (rw [z6r,if_pos (z7G.1 (by assumption))];done)
 all_goals try (rw [z6r,if_neg (z85.1 (by assumption))];done)
 all_goals try
  (have a1:z7o (l.getD j (0,0,0)) (l.getD k (0,0,0)) p=3:=by assumption
   have e3:p=3:=by omega
   rw [e3] at a1
   exact z8H fun h=>(z8Q h (i:=j) (k:=k) (by omega) (show j<l.length by omega)).2 a1)
 all_goals try
  (have a1:z7o (l.getD j (0,0,0)) (l.getD k (0,0,0)) p≠3:=by assumption
   have e3:p=3:=by omega
   have hk2:=hk.2;have hp2:=hp.2;rw [e3] at a1 hp2;refine zA9.intro (yA ?_ ?_)
   ·omega
   ·intro a ha
    by_cases e:a=k
    ·subst e;exact ⟨fun x y hx hy=>hp2 x y hx hy,a1⟩
    ·exact hk2 a (by omega))
 all_goals try
  (have hk2:=hk.2
   have hj2:=hj.2;have e3:k=j:=by omega
   refine zA9.intro (yA ?_ ?_)
   ·omega
   ·intro a b hb ha
    by_cases e:a=j
    ·subst e;exact hk2 b (by omega)
    ·exact hj2 a b hb (by omega))
 all_goals try (refine zA9.intro (yA ?_ ?_)<;>first|omega|(intros;omega))
 all_goals try
  (have hv1:(v:Int)<n:=by assumption
   refine z8H fun h=> ?_;have hf:=zay h (v:=v) hv1
   first
   | exact hf.1 (by assumption)
   | exact absurd hf.2 (by assumption))
 all_goals try
  (have hv1:(v:Int)<n:=by assumption
   have hv2:=hv.2;have b1:(z6g l v).1≠0:=by assumption
   have b2:(z6g l v).1=(z6g l v).2:=by assumption
   refine zA9.intro (yA ?_ ?_)
   ·omega
   ·intro u hu
    by_cases e:u=v
    ·subst e;exact ⟨b1,b2⟩
    ·exact hv2 u (by omega))
 all_goals
  have e1:i=l.length:=by omega
  have e2:j=l.length:=by omega
  have hi2:=hi.2;have hj2:=hj.2;have hv2:=hv.2;have hv1:=hv.1;rw [e1] at hi2;rw [e2] at hj2;refine zcJ (zam (s:=(n,l)) (yA ?_ (yA ?_ (yA ?_ ?_))) ?_ ?_ ?_)
  ·show 0<=n;omega
  ·show n<=4096;omega
  ·show l.length<=8192;omega
  ·intro a ha;have k:=hi2 a ha;unfold z9V at k;exact zQ5 (by show ¬ ((l.getD a (0,0,0)).1<0\/(l.getD a (0,0,0)).1>=n\/(l.getD a (0,0,0)).2.1<0\/(l.getD a (0,0,0)).2.1>=n\/(l.getD a (0,0,0)).2.2<0\/(l.getD a (0,0,0)).2.2>=n);omega)
  ·intro a ha;exact (hi2 a ha).2.2.2
  ·intro a b hb ha;exact hj2 a b hb ha
  ·intro u hu;have hu:(u:Int)<n:=hu;exact hv2 u (by omega)
def zcZ:List AV->Option Res:=zF4 jQ (fun s=>some (none,none,.s (.bool (isR s))))
theorem zcG:jN prog 9 zcZ:=mkR (zAm fun s r h=>by cases h;exact fb (by exact ⟨z7l,zbO,trivial⟩) func9 fun _ _=>zcS s.1 s.2) func9
end S1
namespace S1
open S9
def z81 (a b:List P3):Spec Nat where
 inv x:=x<=a.length/\∀ i,i<x->a.getD i (0,0,0)=b.getD i (0,0,0)
 live x:=[(5,.s (.int .i64 x))]
 keep:=[2,3]
 heap _:=[]
 keepH:=[0,1]
 mu x:=a.length - x
theorem z9Y {fn} (n m:Int) (a b:List P3) (hl:a.length<=100000):zAk ⟨tyL,fn,[]⟩ f36 [jQ.av (n,a),jQ.av (m,b)] (fun v=>v= .s (.bool (eqS (n,a) (m,b)))):=by
 repeat' (conv=>whnf
          first|done|refine qy ?_|refine qG fun _=> ?_|refine qw (fun _=> ?_) (fun _=> ?_)|apply qt|refine qi (fun _=> ?_) (fun _=> ?_)|(refine jS 4 rfl (z81 a b) (0) ?_ ?_ ?_ fun x hx=> ?_)|with_reducible refine jK (z81 _ _) (x+1) ?_ ?_ ?_ ?_|refine qu ?_|refine qv ?_ ?_|exact zL)
 all_goals try first|refine qz ?_|apply qz5
 all_goals try simp only [qn0,zY,zX,ETy.dflt,Int.reduceToNat,Int.reduceAdd,Int.reduceSub,Int.reduceNeg,Nat.reduceAdd,z81,eqS] at *
 all_goals try (refine qh ?_;omega)
 all_goals try exact qh ⟨y7 _,fun i hi=>by omega⟩
 all_goals try
  (symm;rw [yX];intro e;cases e;exact absurd rfl (by assumption))
 ·refine zA9.intro ⟨by omega,fun i hi=> ?_⟩
  by_cases e:i=x
  ·subst e;exact Prod.ext ‹_› (Prod.ext ‹_› ‹_›)
  ·exact hx.2 i (by omega)
 ·have e:a=b:=List.ext_getElem (by omega) fun i h1 h2=>by
   have:=hx.2 i (by omega);rwa [gdE,gdE,gE h1,gE h2] at this
  symm;rw [zB,e,show n=m by assumption]
def z89:List AV->Option Res:=zFm jQ jQ (fun a b=>some (none,some (a.2.length<=100000),.s (.bool (eqS a b))))
theorem z9r:jN prog 36 z89:=mkR (zA4 fun a b r h=>by cases h;exact fb (fn:=[]) trivial func36 fun _ h=>z9Y a.1 b.1 a.2 b.2 h) func36
def z6n (s:SoT) (l:EdB):Bool:=decide ((s.2.length:Int)>30)|| (decide (s.1>100)|| decide ((l.length:Int)>12))
theorem z9M {fn} (n:Int) (a:List P3) (l:EdB):zAk ⟨tyL,fn,[]⟩ Tryz.f8 [jQ.av (n,a),(ETy.sl .arr2).av l] (fun v=>v= .s (.bool (z6n (n,a) l))):=by
 repeat' (conv=>whnf
          first|done|refine qy ?_|refine qG fun _=> ?_|refine qw (fun _=> ?_) (fun _=> ?_)|apply qt|refine qi (fun _=> ?_) (fun _=> ?_)|refine qu ?_|refine qv ?_ ?_|exact zL)
 all_goals try first|refine qz ?_|apply qz5
 all_goals try simp only [qn0,zY,zX,ETy.dflt,Int.reduceToNat,Int.reduceAdd,Int.reduceSub,Int.reduceNeg,Nat.reduceAdd,z6n] at *
 ·rw [decide_eq_true (by assumption)];rfl
 ·rw [decide_eq_false (by assumption),decide_eq_true (by assumption)];rfl
 ·rw [decide_eq_false (p:=(a.length:Int)>30) (by assumption),decide_eq_false (p:=n>100) (by assumption)];rfl
def z7h:List AV->Option Res:=zFm jQ (.sl .arr2) (fun s l=>some (none,none,.s (.bool (z6n s l))))
theorem z9G:jN prog 8 z7h:=mkR (zA4 fun s l r h=>by cases h;exact fb (fn:=[]) trivial func8 fun _ _=>z9M s.1 s.2 l) func8
def z6b:SoT:=(8,[(0,1,2),(2,1,3),(2,3,4),(4,3,5),(4,5,6),(6,5,7)])
theorem zbZ {fn} :zAk ⟨tyL,fn,[]⟩ f32 [] (fun v=>v=jQ.av z6b):=by
 repeat' (conv=>whnf
          first|done|refine qy ?_|refine qG fun _=> ?_|refine qw (fun _=> ?_) (fun _=> ?_)|apply qt|refine qi (fun _=> ?_) (fun _=> ?_)|refine qu ?_|refine qv ?_ ?_|exact zL)
 all_goals try first|refine qz ?_|apply qz5
 all_goals try simp only [qn0,zY,zX,ETy.dflt,Int.reduceToNat,Int.reduceAdd,Int.reduceSub,Int.reduceNeg,Nat.reduceAdd] at *
 exact jE.intro rfl
def zch:List AV->Option Res
 | []=>some (none,none,jQ.av z6b)
 | _=>none
theorem zbI:jN prog 32 zch:=⟨fun args r h=>by
 cases args with
 | nil=>cases h;exact fb (fn:=[]) trivial func32 fun _ _=>zbZ
 | cons a l=>(cases h),_,func32,by kernel_rfl,by kernel_rfl⟩
theorem zbQ (n:Int) (l:List P3) (x:z6.T) (hx:zHO (n,l)=some x) (hl:l.length<=40) (h9:z8d (n,l)=true):zAk ⟨tyL,[(20,z9p),(21,zTG x)],[]⟩ f11 [jQ.av (n,l)] (fun v=>v=(ETy.pt z6).av (some x)):=by
 repeat' (conv=>whnf
          first|done|refine qy ?_|refine qG fun _=> ?_|refine qw (fun _=> ?_) (fun _=> ?_)|apply qt|refine qi (fun _=> ?_) (fun _=> ?_)|refine qu ?_|refine qv ?_ ?_|exact zL)
 all_goals try first|refine qz ?_|apply qz5
 all_goals try simp only [qn0,zY,zX,ETy.dflt,Int.reduceToNat,Int.reduceAdd,Int.reduceSub,Int.reduceNeg,Nat.reduceAdd] at *
 all_goals first
  | (exfalso;omega)
  | exact qh hx
  | exact absurd (show (S9.allR (n,l)).length=0 by have:=h9;unfold z8d at this;simpa using this) (by assumption)
  | exact jE.intro rfl
def zcj:List AV->Option Res:=zF4 jQ (fun s=>some (none,some (zDM s/\s.2.length<=40),(ETy.pt z6).av (some (j8 s))))
theorem zbg:jN prog 11 zcj:=mkR (zAm fun s r h=>by
 cases h;cases e:zHO s with
 | none=>exact fun I vals w hag hv=>⟨trivial,fun hq=>absurd (zCO (show zDM s from hq.1)).1 (by rw [e];simp)⟩
 | some x =>
   rw [<- (zQB e).1]
   exact fb (fn:=[(20,z9p),(21,zTG x)]) ⟨zbX,(zSQ x),trivial⟩ func11 fun _ h=>zbQ s.1 s.2 x e h.2 ((zaj s).2 h.1)) func11
end S1
namespace S1
open S9
theorem zar {s:SoT} (hs:zDM s):Full (j8 s)/\j5 (InN (j8 s).1.1) (j8 s).1.2:=by
 obtain ⟨_,g,e⟩:=zCO hs;exact ⟨g,zAy (s:=(j8 s).1) (by rw [e];exact hs)⟩
theorem z9L {s:SoT} (hs:zDM s) (es:EdB):z9P s (z6i (j8 s) es):=by
 obtain ⟨_,g,e⟩:=zCO hs;have h:=z7x g (zar hs).2 es es.length;exact ⟨hs,by rw [<- e];exact h.free,by rw [<- e];exact h.apart⟩
theorem zdW {s:SoT} {l:EdB} (h:z9P s l) {r:SoT×List zDZ×Int} (e:doB s l=r):r.2.2=0/\r.2.1.length=l.length/\r.1.1=s.1 - l.length/\ChB s r.1 r.2.1/\okR r.2.1/\r.1.2.length<=s.2.length:=by
 have hE:z8Z s l=0:=by
  unfold z8Z;rw [if_pos ((zGw _).2 h.surf),if_pos ((z71 h.surf).2 h)]
 rw [zaJ hE] at e;subst e;have d:=z7R h l.length (zH _);exact ⟨rfl,d.len,d.num,d.ch,d.ok,d.tri⟩
def z6S (x:z6.T) (a b:Int) (l:List Int):Int :=
 if !zBe x a b then 1 else if (zDy x a b).length=2/\zAz x a=false/\zAz x b=false then 2
 else if zRX (zDy x a b) l=false then 3 else if zBo x a then 4 else 0
theorem z0E (x:z6.T) (a b:Int):zFS x a b=z6S x a b (zH7 x a b):=rfl
theorem zVH {x:z6.T} {a b:Int} {l0 l:List Int} (hne:a≠b) (hl:((zDS x a).filter fun v=>zEA v (zDS x b))=l0) (hp:l0.Perm l) (hs:l.Pairwise (·<=·)):zH7 x a b=l:=by
 unfold zH7;rw [if_neg hne,hl];exact zNc ((zHB _).trans hp) (zHP _) hs
def awL:EdB:=[(0,1),(7,6)]
def awM:EdB:=[(0,1),(3,2)]
theorem z6t:zDM z6b:=(zEh _).1 (by rw [z1X];decide +kernel)
theorem z9R:zFS (j8 z6b) 0 1=0:=by
 rw [z0E,zVH (l0:=[2]) (l:=[2]) (by decide) (by decide +kernel) (.refl _) (by decide)];decide +kernel
theorem zaG:zFS (j8 z6b) 7 6=0:=by
 rw [z0E,zVH (l0:=[5]) (l:=[5]) (by decide) (by decide +kernel) (.refl _) (by decide)];decide +kernel
theorem zaR:z9P z6b awL:=by
 obtain ⟨_,g,e⟩:=zCO z6t;have hm:j5 (InN (j8 z6b).1.1) (j8 z6b).1.2:=zAy (s:=(j8 z6b).1) (by rw [e];exact z6t);refine ⟨z6t,fun d hd=> ?_,?_⟩
 ·rw [<- e];rcases zS.1 hd with h|h
  ·rw [h];exact (zYy g hm).1 z9R
  ·rw [zF.1 h];exact (zYy g hm).1 zaG
 ·refine List.pairwise_cons.2 ⟨fun d hd=> ?_,List.pairwise_singleton _ _⟩;rw [zF.1 hd];exact z82.1 (by decide +kernel)
theorem zbt:z7z (some (j8 z6b)) awL=true:=(z71 z6t).2 zaR
theorem zdH:z7z (some (j8 z6b)) awM=false:=by
 rw [<- zA3];intro h;have:=(List.pairwise_cons.1 ((z71 z6t).1 h).apart).1 (3,2) (zF.2 rfl) (2,1,3) (by decide) (.inr (by decide)) (.inl (by decide));exact this
theorem zdY:apB (j8 z6b) (0,1) (7,6)=true:=by
 obtain ⟨_,g,e⟩:=zCO z6t;unfold apB;rw [show zBe (j8 z6b) (0,1).1 (0,1).2=true from (zRv z9R).1,show zBe (j8 z6b) (7,6).1 (7,6).2=true from (zRv zaG).1];exact (zah g).2 (by rw [e];exact z82.1 (by decide +kernel))
theorem zdg:z8Z z6b awL=0:=by
 unfold z8Z;rw [if_pos ((zGw _).2 z6t),if_pos zbt]
theorem zd2:zdP z6b awL 2:=z7R zaR 2 (zH _)
theorem zcd:(doK z6b awL 2).1.2.length=4:=by
 have h0:=z7R zaR 0 (y7 _);have s0:=z7Z h0 (show 0<awL.length by decide);have s1:=z7Z s0.2.2.2 (show 1<awL.length by decide);have e1:(doK z6b awL 1).1=zFI z6b 0 1:=s0.2.1;have n7:z6f (doK z6b awL 1).2 7=6:=(s0.2.2.1 7 (show (0:Int)<=7 by decide)).1;have n6:z6f (doK z6b awL 1).2 6=5:=(s0.2.2.1 6 (show (0:Int)<=6 by decide)).1;have e2:(doK z6b awL 2).1=zFI (doK z6b awL 1).1 (z6f (doK z6b awL 1).2 7) (z6f (doK z6b awL 1).2 6):=s1.2.1
 rw [e2,e1,n7,n6];decide +kernel
theorem zdh {r:SoT×List zDZ×Int} (e:doB z6b awL=r):r.2.2=0/\r.2.1.length=2/\r.1.1=6/\r.1.2.length=4/\ChB z6b r.1 r.2.1:=by
 rw [zaJ zdg] at e;subst e;have h:=zd2;exact ⟨rfl,h.len,by show (doK z6b awL 2).1.1=6;rw [h.num];rfl,zcd,h.ch⟩
end S1
namespace S1
def z87 (S:SoT):List AV->Option Res
 | []=>some (none,some (S=z6b),jQ.av S)
 | _=>none
theorem z9T (S:SoT):jN prog 32 (z87 S):=⟨fun args r h=>by
 cases args with
 | nil =>
   cases h;intro I vals w hag hv;refine ⟨trivial,fun hq=> ?_⟩;have hq:S=z6b:=hq;subst hq;exact (zbI.1 [] _ rfl I vals w hag hv).2 trivial
 | cons a l=>(cases h),_,func32,by kernel_rfl,by kernel_rfl⟩
attribute [local irreducible] doB zD0 eqS z7z apB j8
theorem z9H (S:SoT) (hS:S=z6b):zAk ⟨tyL,[(32,z87 S),(11,zcj),(12,zcz),(33,z9w S),(34,z8f),(35,zcg),(36,z89)],[]⟩ Tryz.f7 [] (fun r=>r= .s (.bool true)):=by
 have m2:List.take 2 (List.drop 0 (((List.replicate 2 ((0:Int),(0:Int))).set 0 (0,1)).set 1 (7,6)))=awL:=rfl;have m3:(((List.replicate 2 ((0:Int),(0:Int))).set 0 (0,1)).set 1 (3,2))=awM:=rfl;have hs:zDM S:=by rw [hS];exact z6t
 have hl:List.length S.2=6:=by rw [hS];rfl
 obtain ⟨f1,f2,f3,f4,f5⟩:=zdh (r:=doB S awL) (by rw [hS]);have f5:ChB S (doB S awL).1 (doB S awL).2.1:=by have:=f5;rw [<- hS] at this;exact this
 have his1:z7z (some (j8 S)) awL=true:=by rw [hS];exact zbt
 have his2:z7z (some (j8 S)) awM=false:=by rw [hS];exact zdH
 have hap:apB (j8 S) (0,1) (7,6)=true:=by rw [hS];exact zdY
 have hg:=zar hs
 repeat' (conv=>whnf
          first|done|refine qy ?_|refine qG fun _=> ?_|refine qw (fun _=> ?_) (fun _=> ?_)|apply qt|refine qi (fun _=> ?_) (fun _=> ?_)|refine qu ?_|refine qv ?_ ?_|exact zL)
 all_goals try first|refine qz ?_|apply qz5
 all_goals try simp only [qn0,zY,zX,ETy.dflt,Int.reduceToNat,Int.reduceAdd,Int.reduceSub,Int.reduceNeg,Nat.reduceAdd] at *
 all_goals try simp only [m2,m3] at *
 all_goals first
  | exact qh ⟨hs,by rw [hl];decide⟩
  | exact qh ⟨hs,by decide⟩
  | exact qh ⟨f5,by rw [f2];decide,show List.length (doB S awL).1.2<=8192 by rw [f4];decide⟩
  | exact qh ⟨by decide,by decide⟩
  | exact qh (fun y h=>by cases h;exact hg.1.toGood)
  | exact qh ⟨fun y h=>by cases h;exact hg,by decide⟩
  | exact qh (show List.length S.2<=100000 by rw [hl];decide)
  | exact zPa _
  | (have h:z7z (some (j8 S)) awM=true:=by assumption
     rw [his2] at h;cases h)
  | (have h:z7z (some (j8 S)) awL=false:=by assumption
     rw [his1] at h;cases h)
  | (have h:apB (j8 S) (0,1) (7,6)=false:=by assumption
     rw [hap] at h;cases h)
  | exact absurd f1 (by assumption)
  | exact absurd f3 (by assumption)
  | exact absurd (show ((doB S awL).2.1.length:Int)=2 by rw [f2];rfl) (by assumption)
  | exact absurd (show ((List.length (doB S awL).1.2:Nat):Int)=4 by rw [f4];rfl) (by assumption)
def z7t:List AV->Option Res
 | []=>some (none,none,.s (.bool true))
 | _=>none
theorem z9F:jN prog 7 z7t:=⟨fun args r h=>by
 cases args with
 | nil =>
   cases h;obtain ⟨S,hS⟩: ∃ S,S=z6b:=⟨_,rfl⟩;exact fb (fn:=[(32,z87 S),(11,zcj),(12,zcz),(33,z9w S),(34,z8f),(35,zcg),(36,z89)]) ⟨(z9T S),zbg,zbd,(zbD S),z9v,zb9,z9r,trivial⟩ func7 fun _ _=>z9H S hS
 | cons a l=>(cases h),_,func7,by kernel_rfl,by kernel_rfl⟩
end S1
namespace S1
theorem zSf {k l:List Int} (hk:k.Nodup) (hl:l.Nodup) (h: ∀ v,v∈k↔v∈l):k.length=l.length :=
 Nat.le_antisymm (zGb k l hk fun v hv=>(h v).1 hv) (zGb l k hl fun v hv=>(h v).2 hv)
def Perm (n:Int) (to:List Int):Prop:=(to.length:Int)=n/\(∀ x∈to,InN n x)/\to.Nodup
end S1
namespace S1
def VC (l:List P3) (u w:Int):Prop:= ∀ Q:Int->Prop,(∀ t∈l,∀ p q,zV t p->zV t q->Q p->Q q)->Q u->Q w
theorem VC.refl {l:List P3} (u:Int):VC l u u:=fun _ _ h=>h
theorem VC.trans {l:List P3} {u v w:Int} (h:VC l u v) (k:VC l v w):VC l u w:=fun Q hQ q=>k Q hQ (h Q hQ q)
theorem VC.symm {l:List P3} {u w:Int} (h:VC l u w):VC l w u:=by
 have:=h (fun v=>VC l v u) (fun t ht p q hp hq k=> ?_) (VC.refl u)
 ·exact this
 ·exact fun Q hQ hv=>k Q hQ (hQ t ht q p hq hp hv)
theorem VC.tri {l:List P3} {t:P3} (ht:t∈l) {p q:Int} (hp:zV t p) (hq:zV t q):VC l p q:=fun Q hQ h=>hQ t ht p q hp hq h
theorem VC.mono {l l':List P3} (hs: ∀ t∈l,∃ t'∈l',∀ v,zV t v->zV t' v) {u w:Int} (h:VC l u w):VC l' u w:=fun Q hQ hu =>
 h Q (fun t ht p q hp hq k=>by
   obtain ⟨t',ht',hv⟩:=hs t ht
   exact hQ t' ht' p q (hv p hp) (hv q hq) k) hu
theorem VC.ind {l:List P3} {u:Int} {Q:Int->Prop} (h0:Q u) (hs: ∀ t∈l,∀ p q,VC l u p->zV t p->zV t q->Q p->Q q) {w:Int} (h:VC l u w):Q w:=by
 have:=h (fun v=>VC l u v/\Q v) (fun t ht p q hp hq ⟨k1,k2⟩=>⟨k1.trans (.tri ht hp hq),hs t ht p q k1 hp hq k2⟩) ⟨.refl u,h0⟩;exact this.2
section
variable {x:z6.T}
theorem zKO (g:Full x) (hs:j5 (InN x.1.1) x.1.2) {i j:Nat} (hi:i<x.1.2.length) (hj:j<x.1.2.length) {v:Int} (h1:zV (tg x.1.2 i) v) (h2:zV (tg x.1.2 j) v):zHA (Adj x) i j:=by
 have:=hs.pin v (hs.ent _ (qZ hi) v h1) (fun t=> ∀ k,k<x.1.2.length->tg x.1.2 k=t->zHA (Adj x) i k) (fun t ht u hu a1 a2 ⟨w,wv,b1,b2⟩ hq k hk e=>by
  obtain ⟨m,hm,rfl⟩:=zAj ht;have c1:=hq m hm rfl
  by_cases emk:m=k
  ·rw [<- emk];exact c1
  ·subst e
   exact c1.step ((zLZ g hs).2 ⟨hm,hk,emk,v,w,wv.symm,⟨a1,b1⟩,a2,b2⟩)) (tg x.1.2 i) (qZ hi) h1 (fun k hk e=>by rw [zDD hs.nd hk hi e];exact .refl _) (tg x.1.2 j) (qZ hj) h2
 exact this j hj rfl
theorem z1j (g:Full x) (hs:j5 (InN x.1.1) x.1.2) {i j:Nat} (hi:i<x.1.2.length) (hj:j<x.1.2.length) {u w:Int} (h1:zV (tg x.1.2 i) u) (h2:zV (tg x.1.2 j) w):zHA (Adj x) i j↔VC x.1.2 u w:=by
 constructor
 ·intro h
  have key: ∀ v,zV (tg x.1.2 j) v->VC x.1.2 u v:=by
   clear h2
   induction h with
   | refl=>exact fun v hv=> .tri (qZ hi) h1 hv
   | step c a ih =>
     obtain ⟨k1,k2,_,p,q,_,⟨a1,_⟩,b1,_⟩:=(zLZ g hs).1 a;exact fun v hv=>(ih k1 p a1).trans (.tri (qZ k2) b1 hv)
  exact key w h2
 ·intro h
  have:=VC.ind (Q:=fun w=> ∀ j,j<x.1.2.length->zV (tg x.1.2 j) w->zHA (Adj x) i j) (fun j hj hv=>zKO g hs hi hj h1 hv) (fun t ht p q _ hp hq k j hj hv=>by
   obtain ⟨m,hm,rfl⟩:=zAj ht
   exact (k m hm hp).trans (zKO g hs hm hj hq hv)) h
  exact this j hj h2
end
theorem zId {α Z γ:Type} {E:α->Z->Prop} {f:α->γ} {g:Z->γ} (hk: ∀ a b,E a b->f a=g b): ∀ {A:List α} {B:List Z},(∀ a∈A,∃ b∈B,E a b)->(∀ b∈B,∃ a∈A,E a b)->
 A.Pairwise (fun a a'=> ∀ b∈B,E a b->E a' b->False)->B.Pairwise (fun b b'=> ∀ a∈A,E a b->E a b'->False)->(A.map f).Perm (B.map g)
 | [],B,_,h2,_,_=>by
   cases B with
   | nil=>exact .refl _
   | cons b B=>obtain ⟨a,ha,_⟩:=h2 b (zR ..);cases ha
 | a ::A,B,h1,h2,h3,h4=>by
   obtain ⟨b,hb,e⟩:=h1 a (zR ..);obtain ⟨B1,B2,rfl⟩:=List.append_of_mem hb;obtain ⟨p1,p2⟩:=List.pairwise_cons.1 h3;obtain ⟨q1,q2,q3⟩:=List.pairwise_append.1 h4;obtain ⟨q4,q5⟩:=List.pairwise_cons.1 q2
   have sub: ∀ {c},c∈B1++B2->c∈B1++b::B2:=fun {c} hc=>by
    rcases z8.1 hc with k|k<;>simp [k]
   have nob: ∀ c∈B1++B2,∀ d∈a::A,E d b->E d c->False:=fun c hc d hd k1 k2=>by
    rcases z8.1 hc with k|k
    ·exact q3 c k b (zR ..) d hd k2 k1
    ·exact q4 c k d hd k1 k2
   have ih:=zId hk (A:=A) (B:=B1++B2) (fun d hd=>by
    obtain ⟨c,hc,ec⟩:=h1 d (zN _ hd);refine ⟨c,?_,ec⟩;rcases z8.1 hc with k|k
    ·exact zAJ _ k
    ·rcases zS.1 k with k|k
     ·subst k;exact (p1 d hd c (by simp) e ec).elim
     ·exact zAa _ k) (fun c hc=>by
    obtain ⟨d,hd,ed⟩:=h2 c (sub hc);rcases zS.1 hd with k|k
    ·subst k;exact (nob c hc d (zR ..) e ed).elim
    ·exact ⟨d,k,ed⟩)
    (p2.imp fun h b' hb'=>h b' (sub hb'))
    (List.pairwise_append.2 ⟨q1.imp fun h d hd=>h d (zN _ hd),q5.imp fun h d hd=>h d (zN _ hd),fun c hc c' hc' d hd=>q3 c hc c' (zN _ hc') d (zN _ hd)⟩)
   rw [jT,zBZ,jT,hk a b e];rw [zBZ] at ih;exact (ih.cons _).trans List.perm_middle.symm
end S1
namespace S1
def bL (l:List P3) (w u:Int):Prop:=(∃ t∈l,dE t w u)/\¬ ∃ t∈l,dE t u w
structure z2z (l:List P3) (L:List Int):Prop where
 ne:L≠[]
 nd:L.Nodup
 brd: ∀ u∈L,∃ w,bL l w u
 clo: ∀ u∈L,∀ w,bL l w u->w∈L
 ind: ∀ Q:Int->Prop,(∃ u∈L,Q u)->(∀ u w,bL l w u->Q u->Q w)->∀ u∈L,Q u
structure zGs (l:List P3) (Ls:List (List Int)):Prop where
 ok: ∀ L∈Ls,z2z l L
 nd:Ls.flatten.Nodup
 all: ∀ u,(∃ w,bL l w u)->u∈Ls.flatten
theorem zGs.one {l:List P3} {Ls:List (List Int)} (h:zGs l Ls) {L L':List Int} (h1:L∈Ls) (h2:L'∈Ls) {u:Int} (k1:u∈L) (k2:u∈L'):L=L':=by
 apply yE;intro hne;have hp:=(List.pairwise_flatten.1 h.nd).2;obtain ⟨i,hi,e1⟩:=yI.1 h1;obtain ⟨j,hj,e2⟩:=yI.1 h2;have hpw:=List.pairwise_iff_getElem.1 hp;rcases Nat.lt_trichotomy i j with q|q|q
 ·have:=hpw i j hi hj q;rw [e1,e2] at this;exact this u k1 u k2 rfl
 ·subst q;exact hne (e1.symm.trans e2)
 ·have:=hpw j i hj hi q;rw [e1,e2] at this;exact this u k2 u k1 rfl
section
variable {V:Int->Prop} {l:List P3} {a b:Int}
theorem zMx {t:P3} {p q:Int} (hd: ¬ dgn t) (h:dE t p q): ¬ dE t q p:=by
 unfold dgn at hd;unfold dE at h ⊢;omega
theorem zDm {t:P3} {p q r:Int} (hpq:p≠q) (hpr:p≠r) (hqr:q≠r) (h1:zV t p) (h2:zV t q) (h3:zV t r) (h:dE t p q):dE t q r/\dE t r p:=by
 rcases zUI hpq hpr hqr h1 h2 h3 with ⟨_,k1,k2⟩|⟨k,_,_⟩
 ·exact ⟨k1,k2⟩
 ·exfalso;unfold zV at h1 h2 h3;unfold dE at h k;omega
theorem zOf {t:P3} (hd: ¬ dgn t) {a b c v:Int} (hab:a≠b) (hca:c≠a) (hcb:c≠b) (h1:zV t a) (h2:zV t b) (h3:zV t c) (hv:zV t v):v=a\/v=b\/v=c:=by
 obtain ⟨p,q,r⟩:=t;unfold dgn at hd;unfold zV at h1 h2 h3 hv;simp only at *;omega
theorem zEi {t:P3} (ht:t∈l) (hk: ¬ (zV t a/\zV t b)) {p q:Int} (h:dE t p q): ∃ t'∈zDG a b l,dE t' (ph a b p) (ph a b q):=by
 refine ⟨phT a b t,zAh.2 ⟨t,ht,hk,rfl⟩,?_⟩;rcases h with ⟨h1,h2⟩|⟨h1,h2⟩|⟨h1,h2⟩
 ·exact .inl ⟨by show ph a b t.1=_;rw [h1],by show ph a b t.2.1=_;rw [h2]⟩
 ·exact .inr (.inl ⟨by show ph a b t.2.1=_;rw [h1],by show ph a b t.2.2=_;rw [h2]⟩)
 ·exact .inr (.inr ⟨by show ph a b t.2.2=_;rw [h1],by show ph a b t.1=_;rw [h2]⟩)
theorem zQA {p' q':Int} (h: ∃ t∈zDG a b l,dE t p' q'): ∃ t∈l,¬ (zV t a/\zV t b)/\∃ p q,dE t p q/\ph a b p=p'/\ph a b q=q':=by
 obtain ⟨t',ht',hd⟩:=h;obtain ⟨t,ht,hk,rfl⟩:=zAh.1 ht';exact ⟨t,ht,hk,zVs hd⟩
theorem zM3 (h:j5 V l) (f:zH6 l a b) {t:P3} (ht:t∈l) (ta:zV t a) (tb:zV t b) {v:Int} (va:v≠a) (vb:v≠b) (tv:zV t v):(∃ u∈l,¬ (zV u a/\zV u b)/\((∃ c,(c=a\/c=b)/\dE t c v/\dE u v c)\/∃ c,(c=a\/c=b)/\dE t v c/\dE u c v)):=by
 obtain ⟨u,hu,hk,uv,huc⟩:=zLD h f ht ta tb va vb tv
 obtain ⟨c,hc,uc,tc,vc⟩: ∃ c,(c=a\/c=b)/\zV u c/\zV t c/\v≠c:=by
  rcases huc with k|k
  ·exact ⟨a,.inl rfl,k,ta,va⟩
  ·exact ⟨b,.inr rfl,k,tb,vb⟩
 have htu:t≠u:=fun e=>hk (by rw [<- e];exact ⟨ta,tb⟩);refine ⟨u,hu,hk,?_⟩;rcases zKG vc tv tc with d|d<;>rcases zKG vc uv uc with d2|d2
 ·exact absurd d2 (h.dif t ht u hu htu _ _ d)
 ·exact .inr ⟨c,hc,d,d2⟩
 ·exact .inl ⟨c,hc,d,d2⟩
 ·exact absurd d2 (h.dif t ht u hu htu _ _ d)
theorem zLR {c:Int} (h:c=a\/c=b):ph a b c=b:=by
 rcases h with h|h
 ·rw [h,z1v]
 ·unfold ph;split<;>first|rfl|exact h
theorem z4K (h:j5 V l) (f:zH6 l a b) {w u:Int} (hb:bL l w u) (hn: ¬ (w=a/\u=b)) (hn2: ¬ (w=b/\u=a)):bL (zDG a b l) (ph a b w) (ph a b u):=by
 obtain ⟨⟨t,ht,hd⟩,hno⟩:=hb;have hwu:=zGB (h.deg t ht) hd;have tw:=(qC hd).1;have tu:=(qC hd).2;constructor
 ·by_cases hk :zV t a/\zV t b
  ·-- t goes
   by_cases wc:w=a\/w=b
   ·have ua :u≠a:=fun e=>by rcases wc with k|k;exact hwu (k.trans e.symm);exact hn2 ⟨k,e⟩
    have ub:u≠b:=fun e=>by rcases wc with k|k;exact hn ⟨k,e⟩;exact hwu (k.trans e.symm)
    rw [zLR wc,zMJ ua];obtain ⟨s,hs,sk,⟨c,hc,d1,d2⟩|⟨c,hc,d1,d2⟩⟩:=zM3 h f ht hk.1 hk.2 ua ub tu
    ·-- t has (c, u): c is w, or both edges come from u's side
     by_cases e:c=w
     ·subst e;exact absurd ⟨s,hs,d2⟩ hno
     ·exfalso;have cu:c≠u:=fun q=>by rcases hc with k|k;exact ua (q.symm.trans k);exact ub (q.symm.trans k)
      have tc:zV t c:=(qC d1).1
      have:=(zDm e cu hwu tc tw tu (by
       rcases zKG e tc tw with q|q
       ·exact q
       ·exfalso;have:=zDm (Ne.symm e) hwu cu tw tc tu q
        exact zMx (h.deg t ht) hd this.2)).2
      exact zMx (h.deg t ht) d1 this
    ·have:=zEi hs sk d2;rw [zLR hc,zMJ ua] at this;exact this
   ·have wa:w≠a:=fun e=>wc (.inl e);have wb:w≠b:=fun e=>wc (.inr e)
    have uc:u=a\/u=b:=by
     rcases zOf (h.deg t ht) f.ne wa wb hk.1 hk.2 tw tu with e|e|e
     ·exact .inl e
     ·exact .inr e
     ·exact absurd e.symm hwu
    rw [zLR uc,zMJ wa];obtain ⟨s,hs,sk,⟨c,hc,d1,d2⟩|⟨c,hc,d1,d2⟩⟩:=zM3 h f ht hk.1 hk.2 wa wb tw
    ·have:=zEi hs sk d2;rw [zLR hc,zMJ wa] at this;exact this
    ·by_cases e:c=u
     ·subst e;exact absurd ⟨s,hs,d2⟩ hno
     ·exfalso;have cw:c≠w:=fun q=>by rcases hc with k|k;exact wa (q.symm.trans k);exact wb (q.symm.trans k)
      have tc:zV t c:=(qC d1).2;have:=(zDm hwu (Ne.symm cw) (Ne.symm e) tw tu tc hd).2;exact zMx (h.deg t ht) d1 this
  ·exact zEi ht hk hd
 ·intro hq;obtain ⟨s,hs,sk,p,q,sd,ep,eq⟩:=zQA hq
  -- s has (p, q), images of u and w
  have key: ∀ {c c' z:Int},c≠c'->(c=a\/c=b)->(c'=a\/c'=b)->z≠a->z≠b->(∃ t∈l,zV t c/\zV t z)->(∃ t∈l,zV t c'/\zV t z)->∃ r∈l,zV r c/\zV r c'/\zV r z:=fun {c c' z} hcc hc hc' za zb h1 h2=>by
   rcases hc with e|e<;>rcases hc' with e'|e'
   ·exact absurd (e.trans e'.symm) hcc
   ·subst e e';exact f.com z za zb h1 h2
   ·subst e e';obtain ⟨r,hr,r1,r2,r3⟩:=f.com z za zb h2 h1;exact ⟨r,hr,r2,r1,r3⟩
   ·exact absurd (e.trans e'.symm) hcc
  rcases zGF ep with e1|e1<;>rcases zGF eq with e2|e2
  ·subst e1 e2;exact hno ⟨s,hs,sd⟩
  ·-- p = u; q and w are a and b
   subst e1
   have hwq:q≠w/\(q=a\/q=b)/\(w=a\/w=b):=by
    rcases e2 with ⟨k1,k2⟩|⟨k1,k2⟩
    ·exact ⟨by rw [k1,k2];exact f.ne,.inl k1,.inr k2⟩
    ·exact ⟨by rw [k1,k2];exact f.ne.symm,.inr k1,.inl k2⟩
   obtain ⟨hqw,hq1,hw1⟩:=hwq;have pq:=zGB (h.deg s hs) sd
   have pa:p≠a:=fun e=>by
    rcases hq1 with k|k
    ·exact pq (e.trans k.symm)
    ·rcases hw1 with k2|k2
     ·exact hwu (k2.trans e.symm)
     ·exact hqw (k.trans k2.symm)
   have pb:p≠b:=fun e=>by
    rcases hq1 with k|k
    ·rcases hw1 with k2|k2
     ·exact hqw (k.trans k2.symm)
     ·exact hwu (k2.trans e.symm)
    ·exact pq (e.trans k.symm)
   obtain ⟨r,hr,rq,rw',rp⟩:=key hqw hq1 hw1 pa pb ⟨s,hs,(qC sd).2,(qC sd).1⟩ ⟨t,ht,tw,tu⟩;have hdr:dE r w p:=(zKG hwu rw' rp).resolve_right fun k=>hno ⟨r,hr,k⟩;have hdr2:=(zDm hwu (Ne.symm hqw) pq rw' rp rq hdr).1
   have hrs:r≠s:=fun e=>sk (by
    rw [<- e];rcases hq1 with k|k<;>rcases hw1 with k2|k2
    ·exact absurd (k.trans k2.symm) hqw
    ·exact ⟨by rw [<- k];exact rq,by rw [<- k2];exact rw'⟩
    ·exact ⟨by rw [<- k2];exact rw',by rw [<- k];exact rq⟩
    ·exact absurd (k.trans k2.symm) hqw)
   exact h.dif r hr s hs hrs _ _ hdr2 sd
  ·-- q = w; p and u are a and b
   subst e2
   have hwq:p≠u/\(p=a\/p=b)/\(u=a\/u=b):=by
    rcases e1 with ⟨k1,k2⟩|⟨k1,k2⟩
    ·exact ⟨by rw [k1,k2];exact f.ne,.inl k1,.inr k2⟩
    ·exact ⟨by rw [k1,k2];exact f.ne.symm,.inr k1,.inl k2⟩
   obtain ⟨hpu,hp1,hu1⟩:=hwq;have pq:=zGB (h.deg s hs) sd
   have qa:q≠a:=fun e=>by
    rcases hp1 with k|k
    ·exact pq (k.trans e.symm)
    ·rcases hu1 with k2|k2
     ·exact hwu (e.trans k2.symm)
     ·exact hpu (k.trans k2.symm)
   have qb:q≠b:=fun e=>by
    rcases hp1 with k|k
    ·rcases hu1 with k2|k2
     ·exact hpu (k.trans k2.symm)
     ·exact hwu (e.trans k2.symm)
    ·exact pq (k.trans e.symm)
   obtain ⟨r,hr,rp,ru,rq⟩:=key hpu hp1 hu1 qa qb ⟨s,hs,(qC sd).1,(qC sd).2⟩ ⟨t,ht,tu,tw⟩;have hdr:dE r q u:=(zKG hwu rq ru).resolve_right fun k=>hno ⟨r,hr,k⟩;have hdr2:=(zDm hwu (Ne.symm pq) (Ne.symm hpu) rq ru rp hdr).2
   have hrs:r≠s:=fun e=>sk (by
    rw [<- e];rcases hp1 with k|k<;>rcases hu1 with k2|k2
    ·exact absurd (k.trans k2.symm) hpu
    ·exact ⟨by rw [<- k];exact rp,by rw [<- k2];exact ru⟩
    ·exact ⟨by rw [<- k2];exact ru,by rw [<- k];exact rp⟩
    ·exact absurd (k.trans k2.symm) hpu)
   exact h.dif r hr s hs hrs _ _ hdr2 sd
  ·rcases e1 with ⟨k1,k2⟩|⟨k1,k2⟩<;>rcases e2 with ⟨m1,m2⟩|⟨m1,m2⟩
   ·exact hwu (m2.trans k2.symm)
   ·exact hn ⟨m2,k2⟩
   ·exact hn2 ⟨m2,k2⟩
   ·exact hwu (m2.trans k2.symm)
end
end S1
namespace S1
section
variable {V:Int->Prop} {l:List P3} {a b:Int}
theorem zQN (h:j5 V l) (f:zH6 l a b) {t r:P3} (ht:t∈l) (hr:r∈l) {v:Int} (va:v≠a) (vb:v≠b) (t1:zV t a) (t2:zV t b) (t3:zV t v) (r1:zV r a) (r2:zV r b) (r3:zV r v):r=t :=
 h.same hr ht f.ne va.symm vb.symm r1 r2 r3 t1 t2 t3
theorem zS6 (h:j5 V l) (f:zH6 l a b) {w' u':Int} (hb:bL (zDG a b l) w' u'): ∃ w u,bL l w u/\ph a b w=w'/\ph a b u=u':=by
 obtain ⟨he,hno⟩:=hb;obtain ⟨s,hs,sk,w0,u0,sd,rfl,rfl⟩:=zQA he
 by_cases hbk: ∃ t∈l,dE t u0 w0
 ·obtain ⟨t,ht,td⟩:=hbk;have hk:zV t a/\zV t b:=yE fun hk=>hno (zEi ht hk td);have hwu:=zGB (h.deg s hs) sd;have sw:=(qC sd).1;have su:=(qC sd).2;have tw:=(qC td).2;have tu:=(qC td).1
  -- the other end of the edge
  obtain ⟨c,cc,hc⟩: ∃ c,(c=a\/c=b)/\((w0=a\/w0=b)/\u0≠a/\u0≠b/\c≠w0\/(u0=a\/u0=b)/\w0≠a/\w0≠b/\c≠u0):=by
   by_cases wc:w0=a\/w0=b
   ·have ua:u0≠a:=fun e=>by
     rcases wc with k|k
     ·exact hwu (k.trans e.symm)
     ·exact sk ⟨by rw [<- e];exact su,by rw [<- k];exact sw⟩
    have ub:u0≠b:=fun e=>by
     rcases wc with k|k
     ·exact sk ⟨by rw [<- k];exact sw,by rw [<- e];exact su⟩
     ·exact hwu (k.trans e.symm)
    rcases wc with k|k
    ·exact ⟨b,.inr rfl,.inl ⟨.inl k,ua,ub,by rw [k];exact f.ne.symm⟩⟩
    ·exact ⟨a,.inl rfl,.inl ⟨.inr k,ua,ub,by rw [k];exact f.ne⟩⟩
   ·have wa:w0≠a:=fun e=>wc (.inl e);have wb:w0≠b:=fun e=>wc (.inr e);rcases zOf (h.deg t ht) f.ne wa wb hk.1 hk.2 tw tu with k|k|k
    ·exact ⟨b,.inr rfl,.inr ⟨.inl k,wa,wb,by rw [k];exact f.ne.symm⟩⟩
    ·exact ⟨a,.inl rfl,.inr ⟨.inr k,wa,wb,by rw [k];exact f.ne⟩⟩
    ·exact absurd k.symm hwu
  have tc:zV t c:=by rcases cc with k|k<;>rw [k];exact hk.1;exact hk.2
  rcases hc with ⟨wc,ua,ub,cw⟩|⟨uc,wa,wb,cu⟩
  ·have uc:u0≠c:=fun e=>by rcases cc with k|k;exact ua (e.trans k);exact ub (e.trans k)
   have d2:=(zDm (Ne.symm hwu) uc (Ne.symm cw) tu tw tc td).2;refine ⟨c,u0,⟨⟨t,ht,d2⟩,fun ⟨r,hr,rd⟩=> ?_⟩,by rw [zLR cc,zLR wc],rfl⟩
   by_cases rk:zV r a/\zV r b
   ·have:=zQN h f ht hr ua ub hk.1 hk.2 tu rk.1 rk.2 (qC rd).1;subst this;exact zMx (h.deg r hr) rd d2
   ·have:=zEi hr rk rd;rw [show ph a b c=ph a b w0 by rw [zLR cc,zLR wc]] at this;exact hno this
  ·have wc:w0≠c:=fun e=>by rcases cc with k|k;exact wa (e.trans k);exact wb (e.trans k)
   have d2:=(zDm (Ne.symm hwu) (Ne.symm cu) wc tu tw tc td).1;refine ⟨w0,c,⟨⟨t,ht,d2⟩,fun ⟨r,hr,rd⟩=> ?_⟩,rfl,by rw [zLR cc,zLR uc]⟩
   by_cases rk:zV r a/\zV r b
   ·have:=zQN h f ht hr wa wb hk.1 hk.2 tw rk.1 rk.2 (qC rd).2;subst this;exact zMx (h.deg r hr) rd d2
   ·have:=zEi hr rk rd;rw [show ph a b c=ph a b u0 by rw [zLR cc,zLR uc]] at this;exact hno this
 ·exact ⟨w0,u0,⟨⟨s,hs,sd⟩,hbk⟩,rfl,rfl⟩
theorem zYZ (f:zH6 l a b):VC l a b:=by
 obtain ⟨t,ht,ta,tb⟩:=f.near;exact .tri ht ta tb
theorem zI5 (h:j5 V l) (f:zH6 l a b) {u w:Int} :VC (zDG a b l) (ph a b u) (ph a b w)↔VC l u w:=by
 constructor
 ·intro hc
  obtain ⟨v,e,k⟩:=hc (fun v'=> ∃ v,ph a b v=v'/\VC l u v) (fun t' ht' p' q' hp' hq' ⟨v,e,k⟩=>by
   obtain ⟨t,ht,_,rfl⟩:=zAh.1 ht';obtain ⟨p,hp,ep⟩:=zEz hp';obtain ⟨q,hq,eq⟩:=zEz hq';refine ⟨q,eq,?_⟩
   have kp:VC l u p:=by
    rcases zGF (e.trans ep.symm) with e1|⟨e1,e2⟩|⟨e1,e2⟩
    ·rw [<- e1];exact k
    ·rw [e2];rw [e1] at k;exact k.trans (zYZ f)
    ·rw [e2];rw [e1] at k;exact k.trans (zYZ f).symm
   exact kp.trans (.tri ht hp hq)) ⟨u,rfl,.refl u⟩
  rcases zGF e with e1|⟨e1,e2⟩|⟨e1,e2⟩
  ·rw [<- e1];exact k
  ·rw [e2];rw [e1] at k;exact k.trans (zYZ f)
  ·rw [e2];rw [e1] at k;exact k.trans (zYZ f).symm
 ·intro hc Q hQ hu;refine hc (fun v=>Q (ph a b v)) (fun t ht p q hp hq k=> ?_) hu
  by_cases hk:zV t a/\zV t b
  ·have hpq: ∀ {c v:Int},(c=a\/c=b)->v≠a->v≠b->zV t v->(Q (ph a b c)↔Q (ph a b v)):=fun {c v} hc va vb tv=>by
    obtain ⟨s,hs,sk,sv,sc⟩:=zLD h f ht hk.1 hk.2 va vb tv;have hm:phT a b s∈zDG a b l:=zAh.2 ⟨s,hs,sk,rfl⟩;have h1:zV (phT a b s) (ph a b v):=zDi sv;have h2:zV (phT a b s) (ph a b c):=by rw [zLR hc];exact (zGe f).2 sc
    exact ⟨fun k=>hQ _ hm _ _ h2 h1 k,fun k=>hQ _ hm _ _ h1 h2 k⟩
   by_cases pc:p=a\/p=b
   ·by_cases qc:q=a\/q=b
    ·rw [zLR qc,<- zLR pc];exact k
    ·exact (hpq pc (fun e=>qc (.inl e)) (fun e=>qc (.inr e)) hq).1 k
   ·by_cases qc:q=a\/q=b
    ·exact (hpq qc (fun e=>pc (.inl e)) (fun e=>pc (.inr e)) hp).2 k
    ·rcases zOf (h.deg t ht) f.ne (fun e=>pc (.inl e)) (fun e=>pc (.inr e)) hk.1 hk.2 hp hq with e|e|e
     ·exact absurd (.inl e) qc
     ·exact absurd (.inr e) qc
     ·rw [e];exact k
  ·exact hQ _ (zAh.2 ⟨t,ht,hk,rfl⟩) _ _ (zDi hp) (zDi hq) k
open Classical in
noncomputable def zRf (a b:Int) (Ls:List (List Int)):List (List Int):=if b∈Ls.flatten then Ls.map fun L=>L.filter fun v=>decide (v≠a) else Ls.map fun L=>L.map (ph a b)
def zRO (l:List P3) (a b:Int):Prop:=(∃ w,bL l w a)->(∃ w,bL l w b)->bL l a b\/bL l b a
theorem zDA {Ls:List (List Int)} (hl:zGs l Ls) {u:Int} :u∈Ls.flatten↔∃ w,bL l w u:=by
 refine ⟨fun hu=> ?_,hl.all u⟩;obtain ⟨L,hL,huL⟩:=List.mem_flatten.1 hu;exact (hl.ok L hL).brd u huL
theorem zOI {Ls:List (List Int)} (hl:zGs l Ls) (hB:zRO l a b) (ha:a∈Ls.flatten) (hb:b∈Ls.flatten) {L:List Int} (hL:L∈Ls):a∈L↔b∈L:=by
 have key: ∀ {p q:Int},p∈Ls.flatten->bL l q p->(p∈L↔q∈L):=fun {p q} hp h=>by
  refine ⟨fun k=>(hl.ok L hL).clo p k q h,fun k=> ?_⟩;obtain ⟨L2,h2,p2⟩:=List.mem_flatten.1 hp;have:=(hl.ok L2 h2).clo p p2 q h;rw [hl.one hL h2 k this];exact p2
 rcases hB ((zDA hl).1 ha) ((zDA hl).1 hb) with h|h
 ·exact (key hb h).symm
 ·exact key ha h
theorem zX2 {Ls:List (List Int)} {L':List Int} (h:L'∈zRf a b Ls): ∃ L∈Ls,(b∈Ls.flatten/\L'=L.filter fun v=>decide (v≠a))\/(b∉Ls.flatten/\L'=L.map (ph a b)):=by
 unfold zRf at h;split at h
 ·rename_i hb;obtain ⟨L,hL,e⟩:=zU.1 h;exact ⟨L,hL,.inl ⟨hb,e.symm⟩⟩
 ·rename_i hb;obtain ⟨L,hL,e⟩:=zU.1 h;exact ⟨L,hL,.inr ⟨hb,e.symm⟩⟩
theorem zGG {Ls:List (List Int)} (hl:zGs l Ls) (f:zH6 l a b) (hB:zRO l a b) {L L':List Int} (hL:L∈Ls) (h:(b∈Ls.flatten/\L'=L.filter fun v=>decide (v≠a))\/(b∉Ls.flatten/\L'=L.map (ph a b))) {v':Int} :v'∈L'↔∃ v∈L,ph a b v=v':=by
 rcases h with ⟨hb,rfl⟩|⟨hb,rfl⟩
 ·rw [yR,zB];constructor
  ·rintro ⟨h1,h2⟩;exact ⟨v',h1,zMJ h2⟩
  ·rintro ⟨v,hv,rfl⟩
   by_cases e:v=a
   ·subst e;rw [z1v];exact ⟨(zOI hl hB (List.mem_flatten.2 ⟨L,hL,hv⟩) hb hL).1 hv,f.ne.symm⟩
   ·rw [zMJ e];exact ⟨hv,e⟩
 ·rw [zU]
theorem z19 (h:j5 V l) (f:zH6 l a b) (hB:zRO l a b) {Ls:List (List Int)} (hl:zGs l Ls):zGs (zDG a b l) (zRf a b Ls):=by
 have abL: ∀ {w u:Int},bL l w u->ph a b w=ph a b u\/bL (zDG a b l) (ph a b w) (ph a b u):=fun {w u} hb=>by
  by_cases h1:w=a/\u=b
  ·left;rw [zLR (.inl h1.1),zLR (.inr h1.2)]
  ·by_cases h2:w=b/\u=a
   ·left;rw [zLR (.inr h2.1),zLR (.inl h2.2)]
   ·exact .inr (z4K h f hb h1 h2)
 refine ⟨fun L' hL'=> ?_,?_,fun u' ⟨w',hw'⟩=> ?_⟩
 ·obtain ⟨L,hL,hk⟩:=zX2 hL';have hm:=fun v'=>zGG hl f hB hL hk (v':=v');have ok:=hl.ok L hL
  have ind: ∀ Q:Int->Prop,(∃ u∈L',Q u)->(∀ u w,bL (zDG a b l) w u->Q u->Q w)->∀ u∈L',Q u:=fun Q ⟨u',hu',q⟩ hs v' hv'=>by
   obtain ⟨u,hu,rfl⟩:=(hm u').1 hu';obtain ⟨v,hv,rfl⟩:=(hm v').1 hv';refine ok.ind (fun v=>Q (ph a b v)) ⟨u,hu,q⟩ (fun u w hb k=> ?_) v hv;rcases abL hb with e|e
   ·rw [e];exact k
   ·exact hs _ _ e k
  -- whose image is on the loop, is on the loop
  have back: ∀ {z:Int},(∃ w,bL l w z)->ph a b z∈L'->z∈L:=fun {z} hz hzL=>by
   obtain ⟨v,hv,e⟩:=(hm _).1 hzL;rcases zGF e with e1|⟨e1,e2⟩|⟨e1,e2⟩
   ·rw [<- e1];exact hv
   ·subst e1 e2;exact (zOI hl hB (List.mem_flatten.2 ⟨L,hL,hv⟩) (hl.all _ hz) hL).1 hv
   ·subst e1 e2;exact (zOI hl hB (hl.all _ hz) (List.mem_flatten.2 ⟨L,hL,hv⟩) hL).2 hv
  have clo: ∀ u∈L',∀ w,bL (zDG a b l) w u->w∈L':=fun u' hu' w' hb=>by
   obtain ⟨w,u,k,rfl,rfl⟩:=zS6 h f hb;exact (hm _).2 ⟨w,ok.clo u (back ⟨w,k⟩ hu') w k,rfl⟩
  have nd:L'.Nodup:=by
   rcases hk with ⟨_,rfl⟩|⟨hb,rfl⟩
   ·exact ok.nd.sublist List.filter_sublist
   ·refine List.Pairwise.map _ (fun v w hvw=>hvw) (ok.nd.imp_of_mem fun {v w} hv hw ne e=> ?_);rcases zGF e with e1|⟨_,e2⟩|⟨e1,_⟩
    ·exact ne e1
    ·subst e2;exact hb (List.mem_flatten.2 ⟨L,hL,hw⟩)
    ·subst e1;exact hb (List.mem_flatten.2 ⟨L,hL,hv⟩)
  obtain ⟨v0,hv0⟩:=List.exists_mem_of_ne_nil L ok.ne;refine ⟨fun e=> ?_,nd,fun u' hu'=> ?_,clo,ind⟩
  ·have:=(hm (ph a b v0)).2 ⟨v0,hv0,rfl⟩;rw [e] at this;cases this
  ·obtain ⟨u,hu,rfl⟩:=(hm u').1 hu'
   -- somebody comes behind it
   obtain ⟨w,hw⟩:=ok.brd u hu;rcases abL hw with e|e
   ·obtain ⟨z,hz⟩:=ok.brd w (ok.clo u hu w hw);rw [<- e];rcases abL hz with e2|e2
    ·exfalso;have hwu:=zGB (h.deg _ hw.1.choose_spec.1) hw.1.choose_spec.2;have hzw:=zGB (h.deg _ hz.1.choose_spec.1) hz.1.choose_spec.2;have hzu:z≠u:=fun q=>by subst q;exact hw.2 hz.1
     rcases zGF e with k|⟨k1,k2⟩|⟨k1,k2⟩<;>rcases zGF e2 with m|⟨m1,m2⟩|⟨m1,m2⟩
     ·exact hwu k
     ·exact hwu k
     ·exact hwu k
     ·exact hzw m
     ·exact f.ne (k1.symm.trans m2)
     ·exact hzu (m1.trans k2.symm)
     ·exact hzw m
     ·exact hzu (m1.trans k2.symm)
     ·exact f.ne (m2.symm.trans k1)
    ·exact ⟨_,e2⟩
   ·exact ⟨_,e⟩
 ·unfold zRf;split
  ·rw [<- List.filter_flatten];exact hl.nd.sublist List.filter_sublist
  ·rename_i hb;rw [<- List.map_flatten];refine List.Pairwise.map _ (fun v w hvw=>hvw) (hl.nd.imp_of_mem fun {v w} hv hw ne e=> ?_);rcases zGF e with e1|⟨_,e2⟩|⟨e1,_⟩
   ·exact ne e1
   ·subst e2;exact hb hw
   ·subst e1;exact hb hv
 ·obtain ⟨w,u,k,rfl,rfl⟩:=zS6 h f hw';obtain ⟨L,hL,huL⟩:=List.mem_flatten.1 (hl.all u ⟨w,k⟩)
  by_cases hb:b∈Ls.flatten
  ·refine List.mem_flatten.2 ⟨L.filter fun v=>decide (v≠a),?_,(zGG hl f hB hL (.inl ⟨hb,rfl⟩)).2 ⟨u,huL,rfl⟩⟩;unfold zRf;rw [if_pos hb];exact zU.2 ⟨L,hL,rfl⟩
  ·refine List.mem_flatten.2 ⟨L.map (ph a b),?_,(zGG hl f hB hL (.inr ⟨hb,rfl⟩)).2 ⟨u,huL,rfl⟩⟩;unfold zRf;rw [if_neg hb];exact zU.2 ⟨L,hL,rfl⟩
end
end S1
namespace S1
open Classical in
noncomputable def clV (l:List P3) (Vs:List Int) (u:Int):Nat:=Vs.countP fun v=>decide (VC l u v)
def inC (l:List P3) (u:Int) (t:P3):Prop:= ∃ v,zV t v/\VC l u v
open Classical in
noncomputable def clF (l:List P3) (u:Int):Nat:=l.countP fun t=>decide (inC l u t)
open Classical in
noncomputable def clB (l:List P3) (Ls:List (List Int)) (u:Int):Nat:=Ls.flatten.countP fun v=>decide (VC l u v)
open Classical in
noncomputable def clL (l:List P3) (Ls:List (List Int)) (u:Int):Nat:=Ls.countP fun L=>decide (∃ v∈L,VC l u v)
section
variable {V:Int->Prop} {l:List P3} {a b:Int}
theorem z3y (f:zH6 l a b) {v:Int} (h:v≠a) {u:Int} (hs:j5 V l):VC (zDG a b l) (ph a b u) v↔VC l u v:=by
 have:=zI5 hs f (u:=u) (w:=v);rwa [zMJ h] at this
theorem zGc {p q:Int->Bool} {a:Int} : ∀ {L:List Int},L.Nodup->(∀ v,v≠a->q v=p v)->(L.filter fun v=>decide (v≠a)).countP q+(if a∈L/\p a=true then 1 else 0)=L.countP p
 | [],_,_=>by simp
 | c ::L,hn,h=>by
   obtain ⟨h1,h2⟩:=yU.1 hn;have ih:=zGc h2 h
   by_cases e:c=a
   ·subst e;rw [if_neg fun k=>h1 k.1] at ih;rw [qM (by simp),List.countP_cons,<- ih]
    by_cases k:p c=true
    ·rw [if_pos ⟨zR ..,k⟩,if_pos k]
    ·rw [if_neg fun q=>k q.2,if_neg k]
   ·rw [yZ (by simpa using e),List.countP_cons,List.countP_cons,<- ih,h c e]
    have:(a∈c::L/\p a=true)↔(a∈L/\p a=true):=by
     rw [zS];exact ⟨fun ⟨k1,k2⟩=>⟨k1.resolve_left (Ne.symm e),k2⟩,fun ⟨k1,k2⟩=>⟨.inr k1,k2⟩⟩
    simp only [this];omega
open Classical in
theorem z0S (h:j5 V l) (f:zH6 l a b) {Vs:List Int} (hn:Vs.Nodup) (ha:a∈Vs) (u:Int):clV (zDG a b l) (Vs.filter fun v=>decide (v≠a)) (ph a b u)+(if VC l u a then 1 else 0)=clV l Vs u:=by
 unfold clV;rw [<- zGc (p:=fun v=>decide (VC l u v)) (a:=a) hn (q:=fun v=>decide (VC (zDG a b l) (ph a b u) v)) fun v hv=>decide_eq_decide.2 (z3y f hv h)]
 congr 1
 simp only [ha,true_and,zB]
open Classical in
theorem z08 (h:j5 V l) (f:zH6 l a b) (u:Int):clF (zDG a b l) (ph a b u)+(if VC l u a then (l.filter (both a b)).length else 0)=clF l u:=by
 unfold clF zDG
 have e1:((l.filter fun t=> !both a b t).map (phT a b)).countP (fun t=>decide (inC ((l.filter fun t=> !both a b t).map (phT a b)) (ph a b u) t))=(l.filter fun t=> !both a b t).countP fun t=>decide (inC l u t):=by
  rw [List.countP_map];refine List.countP_congr fun t _=> ?_;show decide (inC (zDG a b l) (ph a b u) (phT a b t))=true↔decide (inC l u t)=true;rw [zB,zB];constructor
  ·rintro ⟨v',hv',k⟩;obtain ⟨v,hv,rfl⟩:=zEz hv';exact ⟨v,hv,(zI5 h f).1 k⟩
  ·rintro ⟨v,hv,k⟩;exact ⟨_,zDi hv,(zI5 h f).2 k⟩
 rw [e1]
 have e2:(l.filter (both a b)).countP (fun t=>decide (inC l u t))=if VC l u a then (l.filter (both a b)).length else 0:=by
  have key: ∀ t∈l.filter (both a b),(inC l u t↔VC l u a):=fun t ht=>by
   obtain ⟨t1,t2⟩:=yR.1 ht;have t2:=(zXU.1 t2).1;exact ⟨fun ⟨v,hv,k⟩=>k.trans (.tri t1 hv t2),fun k=>⟨a,t2,k⟩⟩
  split
  ·rename_i k;exact List.countP_eq_length.2 fun t ht=>decide_eq_true ((key t ht).2 k)
  ·rename_i k;exact List.countP_eq_zero.2 fun t ht=>by rw [zB,key t ht];exact k
 rw [<- e2,Nat.add_comm];have:=List.countP_eq_countP_filter_add l (fun t=>decide (inC l u t)) (both a b);rw [this]
open Classical in
theorem z0l (h:j5 V l) (f:zH6 l a b) {Ls:List (List Int)} (hl:zGs l Ls) (u:Int):clB (zDG a b l) (zRf a b Ls) (ph a b u)+(if (a∈Ls.flatten/\b∈Ls.flatten)/\VC l u a then 1 else 0)=clB l Ls u:=by
 unfold clB zRf
 by_cases hb:b∈Ls.flatten
 ·rw [if_pos hb,<- List.filter_flatten,<- zGc (p:=fun v=>decide (VC l u v)) (a:=a) hl.nd (q:=fun v=>decide (VC (zDG a b l) (ph a b u) v)) fun v hv=>decide_eq_decide.2 (z3y f hv h)]
  congr 1
  simp only [hb,and_true,zB]
 ·rw [if_neg hb,if_neg fun k=>hb k.1.2,<- List.map_flatten,List.countP_map,zB5];refine List.countP_congr fun v _=> ?_;show decide (VC (zDG a b l) (ph a b u) (ph a b v))=true↔_;rw [zB,zB];exact zI5 h f
open Classical in
theorem z1c (h:j5 V l) (f:zH6 l a b) (hB:zRO l a b) {Ls:List (List Int)} (hl:zGs l Ls) (u:Int):clL (zDG a b l) (zRf a b Ls) (ph a b u)=clL l Ls u:=by
 have key: ∀ L∈Ls,∀ L',((b∈Ls.flatten/\L'=L.filter fun v=>decide (v≠a))\/(b∉Ls.flatten/\L'=L.map (ph a b)))->((∃ v∈L',VC (zDG a b l) (ph a b u) v)↔∃ v∈L,VC l u v):=fun L hL L' hk=>by
  constructor
  ·rintro ⟨v',hv',k⟩;obtain ⟨v,hv,rfl⟩:=(zGG hl f hB hL hk).1 hv';exact ⟨v,hv,(zI5 h f).1 k⟩
  ·rintro ⟨v,hv,k⟩;exact ⟨_,(zGG hl f hB hL hk).2 ⟨v,hv,rfl⟩,(zI5 h f).2 k⟩
 unfold clL
 by_cases hb:b∈Ls.flatten
 ·have e:zRf a b Ls=Ls.map fun L=>L.filter fun v=>decide (v≠a):=by unfold zRf;rw [if_pos hb]
  rw [e,List.countP_map];refine List.countP_congr fun L hL=> ?_;show decide (∃ v∈L.filter fun v=>decide (v≠a),VC (zDG a b l) (ph a b u) v)=true↔_;rw [zB,zB];exact key L hL _ (.inl ⟨hb,rfl⟩)
 ·have e:zRf a b Ls=Ls.map fun L=>L.map (ph a b):=by unfold zRf;rw [if_neg hb]
  rw [e,List.countP_map];refine List.countP_congr fun L hL=> ?_;show decide (∃ v∈L.map (ph a b),VC (zDG a b l) (ph a b u) v)=true↔_;rw [zB,zB];exact key L hL _ (.inr ⟨hb,rfl⟩)
end
section
variable {V:Int->Prop} {l:List P3} {r:Int->Int}
theorem zJH (h:j5 V l) (hi: ∀ v w,V v->V w->r v=r w->v=w) {u w:Int} (hu:V u) (hw:V w):VC (l.map (zFb r)) (r u) (r w)↔VC l u w:=by
 constructor
 ·intro hc
  obtain ⟨v,hv,e,k⟩:=hc (fun v'=> ∃ v,V v/\r v=v'/\VC l u v) (fun t' ht' p' q' hp' hq' ⟨v,hv,e,k⟩=>by
   obtain ⟨t,ht,rfl⟩:=zU.1 ht';obtain ⟨p,hp,ep⟩:=zAs.1 hp';obtain ⟨q,hq,eq⟩:=zAs.1 hq';have:v=p:=hi v p hv (h.ent t ht p hp) (e.trans ep.symm);subst this
   exact ⟨q,h.ent t ht q hq,eq,k.trans (.tri ht hp hq)⟩) ⟨u,hu,rfl,.refl u⟩
  rw [<- hi v w hv hw e];exact k
 ·intro hc Q hQ hq;exact hc (fun v=>Q (r v)) (fun t ht p q hp hq k=>hQ _ (zU.2 ⟨t,ht,rfl⟩) _ _ (zAs.2 ⟨p,hp,rfl⟩) (zAs.2 ⟨q,hq,rfl⟩) k) hq
theorem zQ8 (h:j5 V l) (hi: ∀ v w,V v->V w->r v=r w->v=w) {w u:Int} (hw:V w) (hu:V u):bL (l.map (zFb r)) (r w) (r u)↔bL l w u:=by
 have key: ∀ {p q:Int},V p->V q->((∃ t∈l.map (zFb r),dE t (r p) (r q))↔∃ t∈l,dE t p q):=fun {p q} hp hq=>by
  constructor
  ·rintro ⟨t',ht',hd⟩;obtain ⟨t,ht,rfl⟩:=zU.1 ht';obtain ⟨p0,q0,d,e1,e2⟩:=zIh.1 hd;have k:=qC d;rw [hi p0 p (h.ent t ht _ k.1) hp e1,hi q0 q (h.ent t ht _ k.2) hq e2] at d;exact ⟨t,ht,d⟩
  ·rintro ⟨t,ht,d⟩;exact ⟨_,zU.2 ⟨t,ht,rfl⟩,zIh.2 ⟨p,q,d,rfl,rfl⟩⟩
 unfold bL;rw [key hw hu,key hu hw]
theorem z2e (h:j5 V l) {w u:Int} (k:bL l w u):V w/\V u:=by
 obtain ⟨⟨t,ht,d⟩,_⟩:=k;exact ⟨h.ent t ht _ (qC d).1,h.ent t ht _ (qC d).2⟩
theorem zTq (h:j5 V l) {w' u':Int} (k:bL (l.map (zFb r)) w' u'): ∃ w u,V w/\V u/\r w=w'/\r u=u':=by
 obtain ⟨⟨t',ht',hd⟩,_⟩:=k;obtain ⟨t,ht,rfl⟩:=zU.1 ht';obtain ⟨p0,q0,d,e1,e2⟩:=zIh.1 hd;exact ⟨p0,q0,h.ent t ht _ (qC d).1,h.ent t ht _ (qC d).2,e1,e2⟩
theorem z1L (h:j5 V l) (hi: ∀ v w,V v->V w->r v=r w->v=w) {Ls:List (List Int)} (hl:zGs l Ls):zGs (l.map (zFb r)) (Ls.map fun L=>L.map r):=by
 have hV: ∀ {u:Int},u∈Ls.flatten->V u:=fun hu=>by
  obtain ⟨w,hw⟩:=(zDA hl).1 hu;exact (z2e h hw).2
 have hinj: ∀ {L:List Int},(∀ u∈L,V u)->L.Nodup->(L.map r).Nodup:=fun hL hn =>
  List.Pairwise.map _ (fun v w hvw=>hvw) (hn.imp_of_mem fun {v w} hv hw ne e=>ne (hi v w (hL v hv) (hL w hw) e))
 refine ⟨fun L' hL'=> ?_,?_,fun u' ⟨w',hw'⟩=> ?_⟩
 ·obtain ⟨L,hL,rfl⟩:=zU.1 hL';have ok:=hl.ok L hL;have hLV: ∀ u∈L,V u:=fun u hu=>hV (List.mem_flatten.2 ⟨L,hL,hu⟩);refine ⟨fun e=>ok.ne (List.map_eq_nil_iff.1 e),hinj hLV ok.nd,fun u' hu'=> ?_,fun u' hu' w' hb=> ?_,fun Q ⟨u',hu',q⟩ hs v' hv'=> ?_⟩
  ·obtain ⟨u,hu,rfl⟩:=zU.1 hu';obtain ⟨w,hw⟩:=ok.brd u hu;exact ⟨r w,(zQ8 h hi (z2e h hw).1 (hLV u hu)).2 hw⟩
  ·obtain ⟨u,hu,rfl⟩:=zU.1 hu';obtain ⟨w,u2,hw,_,rfl,_⟩:=zTq h hb;exact zU.2 ⟨w,ok.clo u hu w ((zQ8 h hi hw (hLV u hu)).1 hb),rfl⟩
  ·obtain ⟨u,hu,rfl⟩:=zU.1 hu';obtain ⟨v,hv,rfl⟩:=zU.1 hv';exact ok.ind (fun v=>Q (r v)) ⟨u,hu,q⟩ (fun u w hb k=>hs _ _ ((zQ8 h hi (z2e h hb).1 (z2e h hb).2).2 hb) k) v hv
 ·rw [<- List.map_flatten];exact hinj (fun u hu=>hV hu) hl.nd
 ·obtain ⟨w,u,hw,hu,rfl,rfl⟩:=zTq h hw';rw [<- List.map_flatten];exact zU.2 ⟨u,hl.all u ⟨w,(zQ8 h hi hw hu).1 hw'⟩,rfl⟩
open Classical in
theorem z4S (h:j5 V l) (hi: ∀ v w,V v->V w->r v=r w->v=w) {Vs:List Int} (hVs: ∀ v∈Vs,V v) {Ls:List (List Int)} (hl:zGs l Ls) {u:Int} (hu:V u) :
 clV (l.map (zFb r)) (Vs.map r) (r u)=clV l Vs u/\clF (l.map (zFb r)) (r u)=clF l u/\clB (l.map (zFb r)) (Ls.map fun L=>L.map r) (r u)=clB l Ls u/\clL (l.map (zFb r)) (Ls.map fun L=>L.map r) (r u)=clL l Ls u:=by
 have hV: ∀ {u:Int},u∈Ls.flatten->V u:=fun hu=>by
  obtain ⟨w,hw⟩:=(zDA hl).1 hu;exact (z2e h hw).2
 refine ⟨?_,?_,?_,?_⟩
 ·unfold clV;rw [List.countP_map];refine List.countP_congr fun v hv=> ?_;show decide (VC _ (r u) (r v))=true↔_;rw [zB,zB];exact zJH h hi hu (hVs v hv)
 ·unfold clF;rw [List.countP_map];refine List.countP_congr fun t ht=> ?_;show decide (inC _ (r u) (zFb r t))=true↔_;rw [zB,zB];constructor
  ·rintro ⟨v',hv',k⟩;obtain ⟨v,hv,rfl⟩:=zAs.1 hv';exact ⟨v,hv,(zJH h hi hu (h.ent t ht v hv)).1 k⟩
  ·rintro ⟨v,hv,k⟩;exact ⟨_,zAs.2 ⟨v,hv,rfl⟩,(zJH h hi hu (h.ent t ht v hv)).2 k⟩
 ·unfold clB;rw [<- List.map_flatten,List.countP_map];refine List.countP_congr fun v hv=> ?_;show decide (VC _ (r u) (r v))=true↔_;rw [zB,zB];exact zJH h hi hu (hV hv)
 ·unfold clL;rw [List.countP_map];refine List.countP_congr fun L hL=> ?_;show decide (∃ v'∈L.map r,VC _ (r u) v')=true↔_;rw [zB,zB];constructor
  ·rintro ⟨v',hv',k⟩;obtain ⟨v,hv,rfl⟩:=zU.1 hv';exact ⟨v,hv,(zJH h hi hu (hV (List.mem_flatten.2 ⟨L,hL,hv⟩))).1 k⟩
  ·rintro ⟨v,hv,k⟩;exact ⟨_,zU.2 ⟨v,hv,rfl⟩,(zJH h hi hu (hV (List.mem_flatten.2 ⟨L,hL,hv⟩))).2 k⟩
end
end S1
namespace S1
section
variable {x:z6.T}
def zDI (x:z6.T) (j:Nat):Int:=(ofR x).getD j 0
def zOH (x:z6.T) (v:Int):Int:=zDI x (yL x v / 3).toNat
def nF (x:z6.T) (s:Int):Nat:=(List.range x.1.2.length).countP fun j=>decide (zDI x j=s)
def nV (x:z6.T) (s:Int):Nat:=(List.range x.1.1.toNat).countP fun (v:Nat)=>decide (zOH x v=s)
def nB (x:z6.T) (s:Int):Nat:=(List.range (3*x.1.2.length)).countP fun (c:Nat)=>decide (zA2 x c<0)&&decide (zDI x (c / 3)=s)
def nL (x:z6.T) (s:Int):Nat:=(zAH x).countP fun L=>decide (zOH x (L.getD 0 0)=s)
def vsX (x:z6.T):List Int:=(List.range x.1.1.toNat).map fun (v:Nat)=>(v:Int)
theorem z0T {L:List Int} {i:Nat} (h:i<L.length):L.getD i 0∈L:=by
 rw [gdE,gE h];exact qF _
theorem zCV (g:Full x) (hs:j5 (InN x.1.1) x.1.2) {i j:Nat} (hi:i<x.1.2.length) (hj:j<x.1.2.length) {u w:Int} (h1:zV (tg x.1.2 i) u) (h2:zV (tg x.1.2 j) w):zDI x j=zDI x i↔VC x.1.2 u w:=by
 rw [<- z1j g hs hi hj h1 h2,<- zEG g hi hj];exact ⟨fun e=>e.symm,fun e=>e.symm⟩
theorem zY8 (g:Full x) (hs:j5 (InN x.1.1) x.1.2) {v:Int} (hv:InN x.1.1 v):(yL x v / 3).toNat<x.1.2.length/\zV (tg x.1.2 (yL x v / 3).toNat) v:=by
 obtain ⟨k1,k2⟩:=g.vtx v hv.1 hv.2;have:=zAl k1;rw [k2] at this;exact this
theorem zMM (g:Full x) (hs:j5 (InN x.1.1) x.1.2) {i:Nat} (hi:i<x.1.2.length) {u v:Int} (h1:zV (tg x.1.2 i) u) (hv:InN x.1.1 v):zOH x v=zDI x i↔VC x.1.2 u v:=by
 obtain ⟨k1,k2⟩:=zY8 g hs hv;exact zCV g hs hi k1 h1 k2
open Classical in
theorem z38 (g:Full x) (hs:j5 (InN x.1.1) x.1.2) {i:Nat} (hi:i<x.1.2.length) {u:Int} (h1:zV (tg x.1.2 i) u):nV x (zDI x i)=clV x.1.2 (vsX x) u:=by
 unfold nV clV vsX;rw [List.countP_map];refine List.countP_congr fun v hv=> ?_;have hr:=zQ.1 hv;show decide (zOH x v=zDI x i)=true↔decide (VC x.1.2 u v)=true;rw [zB,zB];exact zMM g hs hi h1 ⟨by omega,by omega⟩
theorem z3I (l:List P3):(List.range l.length).map (tg l)=l:=zEw (0,0,0) l
open Classical in
theorem z36 (g:Full x) (hs:j5 (InN x.1.1) x.1.2) {i:Nat} (hi:i<x.1.2.length) {u:Int} (h1:zV (tg x.1.2 i) u):nF x (zDI x i)=clF x.1.2 u:=by
 unfold clF;have e:=List.countP_map (p:=fun t=>decide (inC x.1.2 u t)) (f:=tg x.1.2) (l:=List.range x.1.2.length);rw [z3I] at e;rw [e];refine List.countP_congr fun j hj=> ?_;have hr:=zQ.1 hj;show decide (zDI x j=zDI x i)=true↔decide (inC x.1.2 u (tg x.1.2 j))=true;rw [zB,zB];constructor
 ·intro k;exact ⟨_,.inl rfl,(zCV g hs hi hr h1 (.inl rfl)).1 k⟩
 ·rintro ⟨v,hv,k⟩;exact (zCV g hs hi hr h1 hv).2 k
theorem zTK (g:Full x) {w u:Int} :bE x w u↔bL x.1.2 w u:=by
 rw [zNB g,zDP,zDP];rfl
theorem zPb (g:Full x) {L:List Int} (h:zFQ x L):z2z x.1.2 L:=by
 have nxt: ∀ {u:Int},u∈L->∃ i,i<L.length/\L.getD i 0=u:=fun hu=>zLJ hu;refine ⟨fun e=> ?_,h.nd,fun u hu=> ?_,fun u hu w hw=> ?_,fun Q ⟨u,hu,q⟩ hs v hv=> ?_⟩
 ·have:=h.ne;rw [e] at this;exact absurd this (by decide)
 ·obtain ⟨i,hi,e⟩:=nxt hu;exact ⟨_,(zTK g).1 (by rw [<- e];exact h.cyc i hi)⟩
 ·obtain ⟨i,hi,e⟩:=nxt hu;have:=h.cyc i hi;rw [e] at this;rw [zNw g ((zTK g).2 hw) this];exact z0T (Nat.mod_lt _ h.ne)
 ·obtain ⟨i,hi,e⟩:=nxt hu;obtain ⟨j,hj,e2⟩:=nxt hv
  have key: ∀ d,Q (L.getD ((i+d) % L.length) 0):=fun d=>by
   induction d with
   | zero=>rw [zB5,Nat.mod_eq_of_lt hi,e];exact q
   | succ d ih =>
     have hm:=Nat.mod_lt (i+d) h.ne;have:=hs _ _ ((zTK g).1 (h.cyc _ hm)) ih;rwa [Nat.mod_add_mod,zAQ] at this
  have:=key (j+L.length - i);rw [show i+(j+L.length - i)=j+L.length by omega,Nat.add_mod_right,Nat.mod_eq_of_lt hj,e2] at this;exact this
theorem zTQ (g:Full x):zGs x.1.2 (zAH x):=by
 have h:=zEL g;refine ⟨fun L hL=>zPb g (h.ok L hL),h.nd,fun u ⟨w,hw⟩=> ?_⟩;exact (zIJ g).2 ⟨w,(zTK g).2 hw⟩
open Classical in
theorem z3a (g:Full x) (hs:j5 (InN x.1.1) x.1.2) {i:Nat} (hi:i<x.1.2.length) {u:Int} (h1:zV (tg x.1.2 i) u):nL x (zDI x i)=clL x.1.2 (zAH x) u:=by
 unfold nL clL;refine List.countP_congr fun L hL=> ?_;rw [zB,zB];have ok:=(zEL g).ok L hL;have h0:L.getD 0 0∈L:=z0T ok.ne
 have hin: ∀ {v:Int},v∈L->InN x.1.1 v:=fun hv=>by
  obtain ⟨w,hw⟩:=ok.bord hv;exact (zPQ g hw).2.1
 rw [zMM g hs hi h1 (hin h0)];constructor
 ·exact fun k=>⟨_,h0,k⟩
 ·rintro ⟨v,hv,k⟩;refine k.trans ?_;have hq:=zPb g ok
  exact (hq.ind (fun w=>VC x.1.2 v w) ⟨v,hv,.refl v⟩ (fun p w hb kp=>by
   obtain ⟨⟨t,ht,d⟩,_⟩:=hb
   exact kp.trans (.tri ht (qC d).2 (qC d).1)) _ h0)
open Classical in
theorem z37 (g:Full x) (hs:j5 (InN x.1.1) x.1.2) {i:Nat} (hi:i<x.1.2.length) {u:Int} (h1:zV (tg x.1.2 i) u):nB x (zDI x i)=clB x.1.2 (zAH x) u:=by
 unfold nB clB;rw [List.countP_eq_length_filter,List.countP_eq_length_filter]
 have hb: ∀ {c:Nat},c∈(List.range (3*x.1.2.length)).filter (fun (c:Nat)=>decide (zA2 x c<0)&&decide (zDI x (c / 3)=zDI x i))->zAY x (c:Int)=true/\zA2 x c<0/\zDI x (c / 3)=zDI x i:=fun {c} hc=>by
  obtain ⟨k1,k2⟩:=yR.1 hc;rw [zA,zB,zB] at k2;have:=zQ.1 k1;exact ⟨z7.2 ⟨by omega,by omega⟩,k2⟩
 rw [<- jF (f:=fun (c:Nat)=>(jP x c).2)];refine zSf ?_ ((zEL g).nd.sublist List.filter_sublist) fun v=> ?_
 ·refine List.Pairwise.map _ (fun c d h=>h) ((List.nodup_range.sublist List.filter_sublist).imp_of_mem fun {c d} hc hd ne e=>ne ?_);obtain ⟨c1,c2,_⟩:=hb hc;obtain ⟨d1,d2,_⟩:=hb hd;have e2:(jP x c).2=(jP x d).2:=e;have b1:bE x (jP x c).1 (jP x c).2:=⟨c,c1,c2,rfl⟩;have b2:bE x (jP x d).1 (jP x d).2:=⟨d,d1,d2,rfl⟩;rw [<- e2] at b2;have e1:=zNw g b1 b2;have:=g.facing c1;rw [show jP x c=jP x d from Prod.ext e1 e2,g.facing d1] at this
  omega
 ·rw [zU,yR,zB];constructor
  ·rintro ⟨c,hc,rfl⟩;obtain ⟨c1,c2,c3⟩:=hb hc;have hcl:=(z7.1 c1);refine ⟨(zIJ g).2 ⟨_,⟨c,c1,c2,rfl⟩⟩,?_⟩;have hk:=zDw c1;have ec:((c:Int) / 3).toNat=c / 3:=by omega
   rw [ec] at hk;exact (zCV g hs hi hk.1 h1 (qC hk.2).2).1 c3
  ·rintro ⟨hv,k⟩;obtain ⟨w,c,c1,c2,c3⟩:=(zIJ g).1 hv;have hcl:=(z7.1 c1);have hk:=zDw c1;rw [c3] at hk;refine ⟨c.toNat,yR.2 ⟨zQ.2 (by omega),?_⟩,?_⟩
   ·rw [zA,zB,zB,show ((c.toNat:Nat):Int)=c by omega];refine ⟨c2,?_⟩;have ec:(c / 3).toNat=c.toNat / 3:=by omega
    rw [<- ec];exact (zCV g hs hi hk.1 h1 (qC hk.2).2).2 k
   ·show (jP x ((c.toNat:Nat):Int)).2=v;rw [show ((c.toNat:Nat):Int)=c by omega,c3]
end
end S1
namespace S1
section
variable {l:List P3}
open Classical in
theorem zTh {Vs:List Int} {u w:Int} (h:VC l u w):clV l Vs u=clV l Vs w:=by
 unfold clV;exact List.countP_congr fun v _=>by rw [zB,zB];exact ⟨fun k=>h.symm.trans k,fun k=>h.trans k⟩
open Classical in
theorem zSw {u w:Int} (h:VC l u w):clF l u=clF l w:=by
 unfold clF
 exact List.countP_congr fun t _=>by
  rw [zB,zB];exact ⟨fun ⟨v,hv,k⟩=>⟨v,hv,h.symm.trans k⟩,fun ⟨v,hv,k⟩=>⟨v,hv,h.trans k⟩⟩
open Classical in
theorem zTO {Ls:List (List Int)} {u w:Int} (h:VC l u w):clB l Ls u=clB l Ls w:=by
 unfold clB;exact List.countP_congr fun v _=>by rw [zB,zB];exact ⟨fun k=>h.symm.trans k,fun k=>h.trans k⟩
open Classical in
theorem zVi {Ls:List (List Int)} {u w:Int} (h:VC l u w):clL l Ls u=clL l Ls w:=by
 unfold clL
 exact List.countP_congr fun L _=>by
  rw [zB,zB];exact ⟨fun ⟨v,hv,k⟩=>⟨v,hv,h.symm.trans k⟩,fun ⟨v,hv,k⟩=>⟨v,hv,h.trans k⟩⟩
open Classical in
theorem zY0 {Vs Vs':List Int} (h:Vs.Perm Vs') (u:Int):clV l Vs u=clV l Vs' u:=h.countP_eq _
theorem zWy {Ls Ls':List (List Int)} (h:zGs l Ls) (h':zGs l Ls'):Ls.flatten.Perm Ls'.flatten :=
 (List.perm_ext_iff_of_nodup h.nd h'.nd).2 fun u=>by rw [zDA h,zDA h']
open Classical in
theorem zWh {Ls Ls':List (List Int)} (h:zGs l Ls) (h':zGs l Ls') (u:Int):clB l Ls u=clB l Ls' u:=(zWy h h').countP_eq _
theorem zQl {Ls Ls':List (List Int)} (h:zGs l Ls) (h':zGs l Ls') {L L':List Int} (hL:L∈Ls) (hL':L'∈Ls') {v:Int} (h1:v∈L) (h2:v∈L'): ∀ u,u∈L↔u∈L':=by
 have key: ∀ {Ls Ls':List (List Int)} (_:zGs l Ls) (_:zGs l Ls') {L L':List Int} (_:L∈Ls) (_:L'∈Ls') (_:v∈L) (_:v∈L'),∀ u∈L,u∈L':=fun {_ _} h h' {_ _} hL hL' h1 h2 =>
  (h.ok _ hL).ind _ ⟨v,h1,h2⟩ fun u w hb k=>(h'.ok _ hL').clo u k w hb
 exact fun u=>⟨key h h' hL hL' h1 h2 u,key h' h hL' hL h2 h1 u⟩
open Classical in
theorem zWf {Ls Ls':List (List Int)} (h:zGs l Ls) (h':zGs l Ls') (u:Int):clL l Ls u=clL l Ls' u:=by
 have ex: ∀ {Ls Ls':List (List Int)} (_:zGs l Ls) (_:zGs l Ls'),∀ L∈Ls,∃ L'∈Ls',∃ v,v∈L/\v∈L':=fun h h' L hL=>by
  obtain ⟨v,hv⟩:=List.exists_mem_of_ne_nil L (h.ok L hL).ne;obtain ⟨w,hw⟩:=(h.ok L hL).brd v hv;obtain ⟨L',hL',hv'⟩:=List.mem_flatten.1 (h'.all v ⟨w,hw⟩);exact ⟨L',hL',v,hv,hv'⟩
 have pw: ∀ {Ls Ls':List (List Int)} (_:zGs l Ls) (_:zGs l Ls'),Ls.Pairwise fun L M=> ∀ L'∈Ls',(∃ v,v∈L/\v∈L')->(∃ v,v∈M/\v∈L')->False:=fun {Ls Ls'} h h'=>by
  have hp:=(List.pairwise_flatten.1 h.nd).2;refine hp.imp_of_mem fun {L M} hL hM hd L' hL' ⟨v,v1,v2⟩ ⟨w,w1,w2⟩=> ?_;have m1:=(zQl h h' hL hL' v1 v2 w).2 w2;exact hd w m1 w w1 rfl
 have hE: ∀ (L L':List Int),(L∈Ls/\L'∈Ls'/\∃ v,v∈L/\v∈L')->decide (∃ v∈L,VC l u v)=decide (∃ v∈L',VC l u v):=fun L L' ⟨a,b,v,v1,v2⟩=>by
  have hm:=zQl h h' a b v1 v2;refine decide_eq_decide.2 ⟨fun ⟨w,hw,k⟩=>⟨w,(hm w).1 hw,k⟩,fun ⟨w,hw,k⟩=>⟨w,(hm w).2 hw,k⟩⟩
 have hm:=zId (E:=fun L L'=>L∈Ls/\L'∈Ls'/\∃ v,v∈L/\v∈L') hE (A:=Ls) (B:=Ls')
  (fun L hL=>by
    obtain ⟨L',hL',v⟩:=ex h h' L hL
    exact ⟨L',hL',hL,hL',v⟩)
  (fun L' hL'=>by
    obtain ⟨L,hL,v,v1,v2⟩:=ex h' h L' hL'
    exact ⟨L,hL,hL,hL',v,v2,v1⟩)
  ((pw h h').imp fun k L' hL' a b=>k L' hL' a.2.2 b.2.2)
  ((pw h' h).imp fun k L hL a b=>k L hL (let ⟨v,p,q⟩:=a.2.2;⟨v,q,p⟩) (let ⟨v,p,q⟩:=b.2.2;⟨v,q,p⟩))
 have e:=hm.countP_eq (fun b=>b);rw [List.countP_map,List.countP_map] at e;exact e
end
section
variable {x y:z6.T}
def nSh (x:z6.T):Nat:=(ofL x x.1.2.length).2.toNat
theorem zKz (g:Full x): ∀ i,i<=x.1.2.length->∀ s:Int,0<=s->s<(ofL x i).2->∃ t,t<x.1.2.length/\lb (ofL x i).1 t=s
 | 0,_,s,h0,h1=>by
   have:s<0:=h1;omega
 | i + 1,hi,s,h0,h1=>by
   obtain ⟨k1,k2,k3⟩:=zLK g i (by omega);have e:ofL x (i+1)=ofI x (ofL x i) i:=rfl;rw [e] at h1 ⊢;unfold ofI at h1 ⊢;split at h1
   ·rename_i hg;rw [if_pos hg];exact zKz g i (by omega) s h0 h1
   ·rename_i hg;rw [if_neg hg];obtain ⟨_,m2,m3,_⟩:=zQt g k2 k1 (by omega) hg;have h1:s<(ofL x i).2+1:=h1
    by_cases es:s=(ofL x i).2
    ·exact ⟨i,by omega,by rw [es];exact m2⟩
    ·obtain ⟨t,ht,et⟩:=zKz g i (by omega) s h0 (by omega);exact ⟨t,ht,by rw [<- et];exact m3 t ht (by omega)⟩
theorem zLr (g:Full x) {s:Nat} (h:s<nSh x): ∃ t,t<x.1.2.length/\zDI x t=s:=by
 unfold nSh at h;exact zKz g _ (zH _) s (by omega) (by omega)
theorem zF0 (g:Full x) {t:Nat} (h:t<x.1.2.length):0<=zDI x t/\zDI x t<nSh x:=by
 obtain ⟨k1,k2,k3⟩:=zLK g _ (zH x.1.2.length);have a:=k3 t h;have b:=k1.lt t h;unfold nSh;show 0<=lb (ofL x x.1.2.length).1 t/\lb (ofL x x.1.2.length).1 t<_;omega
structure zYp (x y:z6.T) (r:Int->Int):Prop where
 rng: ∀ u,InN x.1.1 u->InN y.1.1 (r u)
 vc: ∀ u w,InN x.1.1 u->InN x.1.1 w->(VC y.1.2 (r u) (r w)↔VC x.1.2 u w)
 sur: ∀ w,InN y.1.1 w->∃ u,InN x.1.1 u/\VC y.1.2 (r u) w
structure z4v (x y:z6.T) (r:Int->Int) (s t:Nat) (i j:Nat) (u w:Int):Prop where
 hi:i<x.1.2.length
 hj:j<y.1.2.length
 li:zDI x i=s
 lj:zDI y j=t
 hu:zV (tg x.1.2 i) u
 hw:zV (tg y.1.2 j) w
 vc:VC y.1.2 (r u) w
theorem zMF {γ:Type} (g:Full x) (hs:j5 (InN x.1.1) x.1.2) (g':Full y) (hs':j5 (InN y.1.1) y.1.2) {r:Int->Int} (h:zYp x y r) {F G:Nat->γ}
 (hk: ∀ s t i j u w,z4v x y r s t i j u w->F s=G t):((List.range (nSh x)).map F).Perm ((List.range (nSh y)).map G):=by
 have inX: ∀ {i:Nat} {u:Int},i<x.1.2.length->zV (tg x.1.2 i) u->InN x.1.1 u:=fun hi hu=>hs.ent _ (qZ hi) _ hu;have inY: ∀ {i:Nat} {u:Int},i<y.1.2.length->zV (tg y.1.2 i) u->InN y.1.1 u:=fun hi hu=>hs'.ent _ (qZ hi) _ hu;refine zId (E:=fun s t=> ∃ i j u w,z4v x y r s t i j u w) (fun s t ⟨i,j,u,w,m⟩=>hk s t i j u w m) (fun s hsx=> ?_) (fun t hty=> ?_) ?_ ?_
 ·obtain ⟨i,hi,li⟩:=zLr g (zQ.1 hsx);have hu:zV (tg x.1.2 i) (tg x.1.2 i).1:= .inl rfl;obtain ⟨t,ht,tw⟩:=hs'.use _ (h.rng _ (inX hi hu));obtain ⟨j,hj,rfl⟩:=zAj ht;obtain ⟨l1,l2⟩:=zF0 g' hj;exact ⟨(zDI y j).toNat,zQ.2 (by omega),i,j,_,_,⟨hi,hj,li,by omega,hu,tw,.refl _⟩⟩
 ·obtain ⟨j,hj,lj⟩:=zLr g' (zQ.1 hty);have hw:zV (tg y.1.2 j) (tg y.1.2 j).1:= .inl rfl;obtain ⟨u,hu,k⟩:=h.sur _ (inY hj hw);obtain ⟨t,ht,tu⟩:=hs.use u hu;obtain ⟨i,hi,rfl⟩:=zAj ht;obtain ⟨l1,l2⟩:=zF0 g hi;exact ⟨(zDI x i).toNat,zQ.2 (by omega),i,j,_,_,⟨hi,hj,by omega,lj,tu,hw,k⟩⟩
 ·refine (List.nodup_range (n:=nSh x)).imp fun {s s'} ne t _ ⟨i,j,u,w,m⟩ ⟨i',j',u',w',m'⟩=>ne ?_;have e1:VC y.1.2 w w':=(zCV g' hs' m.hj m'.hj m.hw m'.hw).1 (by rw [m.lj,m'.lj]);have e2:VC y.1.2 (r u) (r u'):=(m.vc.trans e1).trans m'.vc.symm;have e3:=(h.vc u u' (inX m.hi m.hu) (inX m'.hi m'.hu)).1 e2;have:=(zCV g hs m.hi m'.hi m.hu m'.hu).2 e3;rw [m.li,m'.li] at this;exact (Int.ofNat.inj this).symm
 ·refine (List.nodup_range (n:=nSh y)).imp fun {t t'} ne s _ ⟨i,j,u,w,m⟩ ⟨i',j',u',w',m'⟩=>ne ?_;have e1:VC x.1.2 u u':=(zCV g hs m.hi m'.hi m.hu m'.hu).1 (by rw [m.li,m'.li]);have e2:=(h.vc u u' (inX m.hi m.hu) (inX m'.hi m'.hu)).2 e1;have:=(zCV g' hs' m.hj m'.hj m.hw m'.hw).2 ((m.vc.symm.trans e2).trans m'.vc);rw [m.lj,m'.lj] at this;exact (Int.ofNat.inj this).symm
end
end S1
namespace S1
def z2R (a b v:Int):Int:=dn a (ph a b v)
section
variable {x:z6.T} {a b:Int}
theorem zKg (g:Full x) (hs:j5 (InN x.1.1) x.1.2) (hab:a≠b) (hn: ∃ t∈x.1.2,zV t a/\zV t b):((x.1.2.filter (both a b)).length=2/\¬ (bL x.1.2 a b\/bL x.1.2 b a))\/((x.1.2.filter (both a b)).length=1/\(bL x.1.2 a b\/bL x.1.2 b a)):=by
 have hk:=zJL g hs ((zCT g hab).2 hn);rw [<- hk];have e1:qR x (a,b)>=0↔∃ t∈x.1.2,dE t a b:=by rw [zCD g,zDP]
 have e2:qR x (b,a)>=0↔∃ t∈x.1.2,dE t b a:=by rw [zCD g,zDP]
 have hor:(∃ t∈x.1.2,dE t a b)\/∃ t∈x.1.2,dE t b a:=by
  obtain ⟨t,ht,h1,h2⟩:=hn;rcases zKG hab h1 h2 with k|k
  ·exact .inl ⟨t,ht,k⟩
  ·exact .inr ⟨t,ht,k⟩
 unfold zDy bL
 by_cases k1: ∃ t∈x.1.2,dE t a b
 ·by_cases k2: ∃ t∈x.1.2,dE t b a
  ·rw [if_pos (e1.2 k1),if_pos (e2.2 k2)];exact .inl ⟨rfl,fun q=>q.elim (fun q=>q.2 k2) fun q=>q.2 k1⟩
  ·rw [if_pos (e1.2 k1),if_neg fun q=>k2 (e2.1 q)];exact .inr ⟨rfl,.inl ⟨k1,k2⟩⟩
 ·have k2:=hor.resolve_left k1;rw [if_neg fun q=>k1 (e1.1 q),if_pos (e2.2 k2)];exact .inr ⟨rfl,.inr ⟨k2,k1⟩⟩
theorem z3n (g:Full x) (hs:j5 (InN x.1.1) x.1.2) (k:zNP x.1.2 a b):zRO x.1.2 a b:=by
 rintro ⟨w,hw⟩ ⟨z,hz⟩;rcases zKg g hs k.ne k.near with ⟨h2,_⟩|⟨_,h⟩
 ·exfalso
  have key: ∀ {v w:Int},bL x.1.2 w v->¬ z3l x.1.2 v:=fun {v w} hb hi=>by
   have hv:=(z2e hs hb).2;have:=(zIC g hs hv).2 hi;exact ((zD5 g).1 this).2 ⟨w,(zTK g).2 hb⟩
  rcases k.brd h2 with q|q
  ·exact key hw q
  ·exact key hz q
 ·exact h
end
section
variable {s:Int×List P3} {a b:Int}
structure z2g (s:Int×List P3) (a b:Int):Prop where
 gx:Full (j8 s)
 mx:j5 (InN (j8 s).1.1) (j8 s).1.2
 ex:(j8 s).1=s
 gy:Full (j8 (zFI s a b))
 my:j5 (InN (j8 (zFI s a b)).1.1) (j8 (zFI s a b)).1.2
 ey:(j8 (zFI s a b)).1=zFI s a b
 fr:zH6 s.2 a b
 ia:InN s.1 a
 ib:InN s.1 b
 mc:j5 (fun v=>InN s.1 v/\v≠a) (zDG a b s.2)
 br:zRO s.2 a b
theorem z5g (hs:zDM s) (k:zNP s.2 a b):z2g s a b:=by
 obtain ⟨_,g,e⟩:=zCO hs;have hm:=zAy hs;have hc:=zU7 hs k;obtain ⟨_,g',e'⟩:=zCO hc;have hi:=z0Z hs k;have fr:=(zKR hs k).2;have mx:j5 (InN (j8 s).1.1) (j8 s).1.2:=zAy (s:=(j8 s).1) (by rw [e];exact hs);refine ⟨g,mx,e,g',zAy (s:=(j8 (zFI s a b)).1) (by rw [e'];exact hc),e',fr,hi.1,hi.2,zQe hm fr hi.1 hi.2,?_⟩;have:=z3n (a:=a) (b:=b) g mx (by rw [e];exact k);rwa [e] at this
theorem z4j (c:z2g s a b) {u:Int} (h:InN s.1 u):InN s.1 (ph a b u)/\ph a b u≠a:=by
 by_cases e:u=a
 ·rw [e,z1v];exact ⟨c.ib,c.fr.ne.symm⟩
 ·rw [zMJ e];exact ⟨h,e⟩
theorem dnI: ∀ v w,(InN s.1 v/\v≠a)->(InN s.1 w/\w≠a)->dn a v=dn a w->v=w:=fun v w hv hw e=>by
 have h1:=hv.2;have h2:=hw.2;unfold dn at e;split at e<;>split at e<;>omega
theorem z07 (hs:zDM s) (c:z2g s a b):zYp (j8 s) (j8 (zFI s a b)) (z2R a b):=by
 have hm:=zAy hs;have e1:(j8 s).1.1=s.1:=by rw [c.ex]
 have e2:(j8 s).1.2=s.2:=by rw [c.ex]
 have e3:(j8 (zFI s a b)).1.1=s.1 - 1:=by rw [c.ey];rfl
 have e4:(j8 (zFI s a b)).1.2=(zDG a b s.2).map (zFb (dn a)):=by rw [c.ey];rfl
 have ia:=c.ia;unfold InN at ia;refine ⟨fun u hu=> ?_,fun u w hu hw=> ?_,fun w hw=> ?_⟩
 ·rw [e1] at hu;rw [e3];obtain ⟨h1,h2⟩:=z4j c hu;unfold InN at *;unfold z2R dn;split<;>omega
 ·rw [e1] at hu hw;rw [e2,e4];unfold z2R;rw [zJH c.mc dnI (z4j c hu) (z4j c hw),zI5 hm c.fr]
 ·rw [e3] at hw;rw [e4,e1];unfold InN at *
  by_cases q:w<a
  ·refine ⟨w,⟨by omega,by omega⟩,?_⟩;unfold z2R;rw [zMJ (by omega)];unfold dn;rw [if_neg (by omega)];exact .refl _
  ·refine ⟨w+1,⟨by omega,by omega⟩,?_⟩;unfold z2R;rw [zMJ (by omega)];unfold dn;rw [if_pos (by omega),show w+1 - 1=w by omega];exact .refl _
theorem z4A (c:z2g s a b):(vsX (j8 (zFI s a b))).Perm (((vsX (j8 s)).filter fun v=>decide (v≠a)).map (dn a)):=by
 have e1:(j8 s).1.1=s.1:=by rw [c.ex]
 have e3:(j8 (zFI s a b)).1.1=s.1 - 1:=by rw [c.ey];rfl
 have ia:=c.ia;unfold InN at ia
 have nd: ∀ x:z6.T,(vsX x).Nodup:=fun x=>by
  unfold vsX;exact List.Pairwise.map _ (fun i j h e=>h (Int.ofNat.inj e)) List.nodup_range
 have mem: ∀ (x:z6.T) (v:Int),v∈vsX x↔0<=v/\v<x.1.1:=fun x v=>by
  unfold vsX;rw [zU];constructor
  ·rintro ⟨i,hi,rfl⟩;have:=zQ.1 hi;omega
  ·intro h;exact ⟨v.toNat,zQ.2 (by omega),by omega⟩
 refine (List.perm_ext_iff_of_nodup (nd _) ?_).2 fun v=> ?_
 ·refine List.Pairwise.map _ (fun v w h=>h) (((nd _).sublist List.filter_sublist).imp_of_mem fun {v w} hv hw ne e=>ne ?_);have h1:=(yR.1 hv).2;have h2:=(yR.1 hw).2;rw [zB] at h1 h2;unfold dn at e;split at e<;>split at e<;>omega
 ·rw [mem,e3,zU];constructor
  ·intro h
   by_cases q:v<a
   ·refine ⟨v,yR.2 ⟨(mem _ _).2 (by rw [e1];omega),by rw [zB];omega⟩,?_⟩;unfold dn;rw [if_neg (by omega)]
   ·refine ⟨v+1,yR.2 ⟨(mem _ _).2 (by rw [e1];omega),by rw [zB];omega⟩,?_⟩;unfold dn;rw [if_pos (by omega)];omega
  ·rintro ⟨w,hw,rfl⟩;obtain ⟨h1,h2⟩:=yR.1 hw;rw [zB] at h2;have:=(mem _ _).1 h1;rw [e1] at this;unfold dn;split<;>omega
open Classical in
theorem zXs (hs:zDM s) (c:z2g s a b) {p q i j:Nat} {u w:Int} (m:z4v (j8 s) (j8 (zFI s a b)) (z2R a b) p q i j u w) :
 nV (j8 (zFI s a b)) q+(if VC s.2 u a then 1 else 0)=nV (j8 s) p/\
 nF (j8 (zFI s a b)) q+(if VC s.2 u a then (s.2.filter (both a b)).length else 0)=nF (j8 s) p/\
 nB (j8 (zFI s a b)) q+(if VC s.2 u a then 2 - (s.2.filter (both a b)).length else 0)=nB (j8 s) p/\
 nL (j8 (zFI s a b)) q=nL (j8 s) p:=by
 have hm:=zAy hs;have e1:(j8 s).1.1=s.1:=by rw [c.ex]
 have e2:(j8 s).1.2=s.2:=by rw [c.ex]
 have e4:(j8 (zFI s a b)).1.2=(zDG a b s.2).map (zFb (dn a)):=by rw [c.ey];rfl
 have hlx:=zTQ c.gx;rw [e2] at hlx;have hly:=zTQ c.gy;rw [e4] at hly;have hlc:=z19 hm c.fr c.br hlx;have hlm:=z1L c.mc dnI hlc;have hu0:InN s.1 u:=by rw [<- e1];exact c.mx.ent _ (qZ m.hi) _ m.hu
 have hu:=z4j c hu0
 have hia:a∈vsX (j8 s):=by
  have:=c.ia;unfold InN at this;unfold vsX;rw [zU];exact ⟨a.toNat,zQ.2 (by rw [e1];omega),by omega⟩
 have ndx:(vsX (j8 s)).Nodup:=by
  unfold vsX;exact List.Pairwise.map _ (fun i j h e=>h (Int.ofNat.inj e)) List.nodup_range
 obtain ⟨n1,n2,n3,n4⟩:=z4S c.mc dnI (Vs:=(vsX (j8 s)).filter fun v=>decide (v≠a)) (fun v hv=>by
  obtain ⟨h1,h2⟩:=yR.1 hv;rw [zB] at h2;refine ⟨?_,h2⟩;unfold vsX at h1;obtain ⟨k,hk,rfl⟩:=zU.1 h1;have:=zQ.1 hk;rw [e1] at this
  exact ⟨by omega,by omega⟩) hlc hu
 have hvc:VC ((zDG a b s.2).map (zFb (dn a))) w (dn a (ph a b u)):=by
  have:=m.vc.symm;rw [e4] at this;exact this
 have rx1:=z38 c.gx c.mx m.hi m.hu;have rx2:=z36 c.gx c.mx m.hi m.hu;have rx3:=z37 c.gx c.mx m.hi m.hu;have rx4:=z3a c.gx c.mx m.hi m.hu;have ry1:=z38 c.gy c.my m.hj m.hw;have ry2:=z36 c.gy c.my m.hj m.hw;have ry3:=z37 c.gy c.my m.hj m.hw;have ry4:=z3a c.gy c.my m.hj m.hw;rw [m.li,e2] at rx1 rx2 rx3 rx4;rw [m.lj,e4] at ry1 ry2 ry3 ry4;rw [zY0 (z4A c),zTh hvc,n1] at ry1;rw [zSw hvc,n2] at ry2;rw [zWh hly hlm,zTO hvc,n3] at ry3
 rw [zWf hly hlm,zVi hvc,n4] at ry4;rw [rx1,rx2,rx3,rx4,ry1,ry2,ry3,ry4];refine ⟨z0S hm c.fr ndx hia u,z08 hm c.fr u,?_,z1c hm c.fr c.br hlx u⟩;rw [<- z0l hm c.fr hlx u]
 congr 1
 have hfc:=zKg (x:=j8 s) (a:=a) (b:=b) c.gx c.mx c.fr.ne (by rw [e2];exact c.fr.near);rw [e2] at hfc
 have hbb:(a∈(zAH (j8 s)).flatten/\b∈(zAH (j8 s)).flatten)↔(bL s.2 a b\/bL s.2 b a):=by
  rw [zDA hlx,zDA hlx];constructor
  ·exact fun ⟨h1,h2⟩=>c.br h1 h2
  ·have nxt: ∀ {p q:Int},bL s.2 q p->∃ z,bL s.2 z q:=fun {p q} h=>by
    obtain ⟨L,hL,hp⟩:=List.mem_flatten.1 (hlx.all p ⟨q,h⟩);exact (hlx.ok L hL).brd q ((hlx.ok L hL).clo p hp q h)
   rintro (h|h)
   ·exact ⟨nxt h,a,h⟩
   ·exact ⟨⟨b,h⟩,nxt h⟩
 by_cases v:VC s.2 u a
 ·rcases hfc with ⟨h2,hno⟩|⟨h1,hy⟩
  ·rw [if_pos v,if_neg fun k=>hno (hbb.1 k.1),h2]
  ·rw [if_pos v,if_pos ⟨hbb.2 hy,v⟩,h1]
 ·rw [if_neg v,if_neg fun k=>v k.2]
end
structure GN where
 V:Int
 E:Int
 F:Int
 B:Int
 Eu:Int
 Ge:Int
def z6D (V F T L:Nat):GN:=⟨V,((3*F+T) / 2:Nat),F,L,(V:Int) - ((3*F+T) / 2:Nat)+F,(2 - (L:Int) - ((V:Int) - ((3*F+T) / 2:Nat)+F)).tdiv 2⟩
def gnT (x:z6.T) (s:Nat):GN:=z6D (nV x s) (nF x s) (nB x s) (nL x s)
def z2d (x:z6.T):List GN:=(List.range (nSh x)).map (gnT x)
def z1g (g:GN):Int×Int:=(g.B,g.Ge)
section
variable {s:Int×List P3} {a b:Int}
open Classical in
theorem z4X (hs:zDM s) (c:z2g s a b) {p q i j:Nat} {u w:Int} (m:z4v (j8 s) (j8 (zFI s a b)) (z2R a b) p q i j u w) :
 (gnT (j8 (zFI s a b)) q).V=(gnT (j8 s) p).V - (if VC s.2 u a then 1 else 0)/\
 (gnT (j8 (zFI s a b)) q).E=(gnT (j8 s) p).E - (if VC s.2 u a then (s.2.filter (both a b)).length+1 else 0:Nat)/\
 (gnT (j8 (zFI s a b)) q).F=(gnT (j8 s) p).F - (if VC s.2 u a then (s.2.filter (both a b)).length else 0:Nat)/\
 (gnT (j8 (zFI s a b)) q).B=(gnT (j8 s) p).B/\(gnT (j8 (zFI s a b)) q).Eu=(gnT (j8 s) p).Eu/\(gnT (j8 (zFI s a b)) q).Ge=(gnT (j8 s) p).Ge:=by
 obtain ⟨h1,h2,h3,h4⟩:=zXs hs c m;have e2:(j8 s).1.2=s.2:=by rw [c.ex]
 have hfc:=zKg (x:=j8 s) (a:=a) (b:=b) c.gx c.mx c.fr.ne (by rw [e2];exact c.fr.near);rw [e2] at hfc
 have hf:(s.2.filter (both a b)).length=1\/(s.2.filter (both a b)).length=2:=by
  rcases hfc with k|k
  ·exact .inr k.1
  ·exact .inl k.1
 generalize (s.2.filter (both a b)).length=fc at *;unfold gnT z6D;dsimp only;rw [h4]
 by_cases hv:VC s.2 u a
 ·simp only [if_pos hv] at *
  have e:(3*nF (j8 (zFI s a b)) q+nB (j8 (zFI s a b)) q) / 2+(fc+1)=(3*nF (j8 s) p+nB (j8 s) p) / 2:=by
   rcases hf with k|k<;>subst k<;>omega
  have eu:((nV (j8 (zFI s a b)) q:Nat):Int) - ((3*nF (j8 (zFI s a b)) q+nB (j8 (zFI s a b)) q) / 2:Nat)+(nF (j8 (zFI s a b)) q:Nat)=((nV (j8 s) p:Nat):Int) - ((3*nF (j8 s) p+nB (j8 s) p) / 2:Nat)+(nF (j8 s) p:Nat):=by omega
  refine ⟨by omega,by omega,by omega,by first|rfl|trivial,eu,by rw [eu]⟩
 ·simp only [if_neg hv,zB5] at *;rw [h1,h2,h3];refine ⟨by omega,by omega,by omega,by first|rfl|trivial,by first|rfl|trivial,by first|rfl|trivial⟩
theorem zWZ (hs:zDM s) (k:zNP s.2 a b):((z2d (j8 s)).map z1g).Perm ((z2d (j8 (zFI s a b))).map z1g):=by
 have c:=z5g hs k;unfold z2d;rw [zCr,zCr];refine zMF c.gx c.mx c.gy c.my (z07 hs c) fun p q i j u w m=> ?_;obtain ⟨_,_,_,h4,_,h6⟩:=z4X hs c m;show (_,_)=(_,_);rw [h4,h6]
end
end S1
namespace S1
section
variable {s:Int×List P3} {a b:Int}
end
section
variable {x y:z6.T}
end
end S1
namespace S1
def cntF (l:List Int):Nat->Int
 | 0=>0
 | i+1=>max (cntF l i) (l.getD i 0+1)
def zTr (l:List Int):Spec Nat where
 inv i:=i<=l.length
 live i:=[(9,.s (.int .i64 i)),(3,.s (.int .i64 (cntF l i)))]
 keep:=[0,7,8]
 heap _:=[]
 keepH:=[]
 mu i:=l.length - i
theorem z3A (l:List Int) (i:Nat):cntF l (i+1)=max (cntF l i) (l.getD i 0+1):=rfl
theorem zHa {x:z6.T} (g:Good x):(ofR x).length=x.1.2.length:=(zJt g _ (zH _)).1
theorem zVo {x:z6.T} (g:Good x):nSh x<=x.1.2.length:=by
 have:=(zJt g _ (zH _)).2;unfold nSh;omega
theorem z3w {x:z6.T} (g:Full x) {i:Nat} (h:i<(ofR x).length):0<=(ofR x).getD i 0/\(ofR x).getD i 0<=8192:=by
 rw [zHa g.toGood] at h;have r:0<=(ofR x).getD i 0/\(ofR x).getD i 0<nSh x:=zF0 g h;have:=zVo g.toGood;have:=g.fit.2.2.1;omega
attribute [local irreducible] cntF ofR
theorem zXb (x:z6.T) (g:Full x):zAk ⟨tyL,[(107,zRo)],[]⟩ f108 [(ETy.pt z6).av (some x)] (fun r=>r= .s (.int .i64 (cntF (ofR x) (ofR x).length))):=by
 repeat' (conv=>whnf
          first|done|refine qy ?_|refine qG fun _=> ?_|refine qw (fun _=> ?_) (fun _=> ?_)|apply qt|refine qi (fun _=> ?_) (fun _=> ?_)|(refine jS 3 rfl (zTr (ofR x)) (0) ?_ ?_ ?_ fun i hi=> ?_)|with_reducible refine jK (zTr _) (i+1) ?_ ?_ ?_ ?_|refine qu ?_|refine qv ?_ ?_|exact zL)
 all_goals try first|refine qz ?_|apply qz5
 all_goals try simp only [qn0,zY,zX,ETy.dflt,Int.reduceToNat,Int.reduceAdd,Int.reduceSub,Int.reduceNeg,Nat.reduceAdd,zTr] at *
 all_goals try (refine qh ?_;omega)
 all_goals try exact z3A _ _
 all_goals try (unfold cntF;rfl)
 all_goals try exact qh g.toGood
 all_goals try
  have ei:i=(ofR x).length:=by omega
  subst ei;rfl
 have hl:=z3w g (i:=i) (by omega);refine qh ?_;unfold zAZ;omega
attribute [local semireducible] cntF ofR
theorem z1O {x:z6.T} (g:Full x):cntF (ofR x) (ofR x).length=nSh x:=by
 have hlen:=zHa g.toGood
 have h1: ∀ i,i<=x.1.2.length->cntF (ofR x) i<=nSh x/\∀ j,j<i->zDI x j+1<=cntF (ofR x) i:=fun i=>by
  induction i with
  | zero=>exact fun _=>⟨by show (0:Int)<=_;omega,fun j hj=>absurd hj (Nat.not_lt_zero _)⟩
  | succ i ih =>
    intro hi;obtain ⟨a,b⟩:=ih (by omega);have r:=zF0 g (t:=i) (by omega);have e:cntF (ofR x) (i+1)=max (cntF (ofR x) i) (zDI x i+1):=rfl;rw [e];refine ⟨by omega,fun j hj=> ?_⟩
    by_cases q:j=i
    ·subst q;omega
    ·have:=b j (by omega);omega
 rw [hlen];obtain ⟨a,b⟩:=h1 _ (zH _)
 by_cases h0:nSh x=0
 ·have:(0:Int)<=cntF (ofR x) x.1.2.length:=by
   have: ∀ i,(0:Int)<=cntF (ofR x) i:=fun i=>by
    induction i with
    | zero=>exact Int.le_refl 0
    | succ i ih=>show (0:Int)<=max (cntF (ofR x) i) _;omega
   exact this _
  omega
 ·obtain ⟨t,ht,et⟩:=zLr g (s:=nSh x - 1) (by omega);have:=b t ht;omega
def zWQ:List AV->Option Res:=zRU z6 (fun x=>some (none,some (Full x),.s (.int .i64 (nSh x))))
theorem zWa:jN prog 108 zWQ:=mkR (zG8 fun x r h=>by
 cases h
 exact fb (fn:=[(107,zRo)]) ⟨zOp,trivial⟩ func108 fun _ h=>by rw [<- z1O h];exact zXb x h) func108
end S1
namespace S1
abbrev gnE:ETy:= .pair (.int .i64) (.pair (.int .i64) (.pair (.int .i64) (.pair (.int .i64) (.pair (.int .i64) (.int .i64)))))
abbrev GT:=Int×Int×Int×Int×Int×Int
def gn6 (g:GN):GT:=(g.V,g.E,g.F,g.B,g.Eu,g.Ge)
theorem z59 (l:List Int) (x:z6.T) (v:Int) (h:(0<=yL x v/\yL x v<3*(l.length:Int))/\(l.length:Int)<=8192/\Good x):zAk ⟨tyL,[(96,zE6)],[]⟩ f109 [qX.av v,(ETy.pt (.sl qX)).av (some l),(ETy.pt (.pt z6)).av (some (some x))] (fun r=>r= .s (.int .i64 (l.getD (yL x v / 3).toNat 0))):=by
 repeat' (conv=>whnf
          first|done|refine qy ?_|refine qG fun _=> ?_|refine qw (fun _=> ?_) (fun _=> ?_)|apply qt|refine qi (fun _=> ?_) (fun _=> ?_)|refine qu ?_|refine qv ?_ ?_|exact zL)
 all_goals try first|refine qz ?_|apply qz5
 all_goals try simp only [qn0,zY,zX,ETy.dflt,Int.reduceToNat,Int.reduceAdd,Int.reduceSub,Int.reduceNeg,Nat.reduceAdd] at *
 all_goals have t3:=td3 h.1.1
 all_goals try (rw [t3];rfl)
 all_goals try (exact qh h.1)
 all_goals try (refine qh ?_)
 all_goals try (exact h.2.2)
 all_goals try (rw [t3])
 all_goals try (show _/\_<(l.length:Int))
 all_goals try (unfold zAZ at *)
 all_goals obtain ⟨h1,h2,_⟩:=h
 all_goals try omega
def atC:List AV->Option Res:=zOs qX (.pt (.sl qX)) (.pt (.pt z6)) (fun v o p=>match o with
 | some l=>(match p with
   | some (some x)=>some (none,some ((0<=yL x v/\yL x v<3*(l.length:Int))/\(l.length:Int)<=8192/\Good x),.s (.int .i64 (l.getD (yL x v / 3).toNat 0)))
   | _=>none)
 | none=>none)
theorem z5L:jN prog 109 atC:=mkR (zEa fun v o p r h=>by
 cases o with
 | none=>cases h
 | some l =>
   cases p with
   | none=>cases h
   | some q =>
     cases q with
     | none=>cases h
     | some x=>cases h;exact fb (fn:=[(96,zE6)]) ⟨zEH,trivial⟩ func109 fun _ h=>z59 l x v h) func109
theorem zGf {α:Type} (n:Nat) (f:Nat->α) (k:Nat) (v:α):((List.range n).map f).set k v=(List.range n).map fun s=>if s=k then v else f s:=by
 apply List.ext_getElem (by simp);intro i h1 h2;simp only [List.getElem_set,List.getElem_map,List.getElem_range]
 by_cases q:k=i
 ·rw [if_pos q,if_pos q.symm]
 ·rw [if_neg q,if_neg (fun e=>q e.symm)]
theorem zGa {α:Type} {n:Nat} (f:Nat->α) {k:Nat} (d:α) (h:k<n):((List.range n).map f).getD k d=f k:=by
 rw [gdE,gE (by simpa using h)];simp
theorem zGr {α:Type} {n:Nat} {f g:Nat->α} (h: ∀ s,s<n->f s=g s):(List.range n).map f=(List.range n).map g:=qJ fun s hs=>h s (zQ.1 hs)
def cF (x:z6.T) (i s:Nat):Nat:=(List.range i).countP fun j=>decide (zDI x j=s)
def cT (x:z6.T) (c s:Nat):Nat:=((List.range c).countP fun c=>decide (zDI x (c / 3)=s))+(List.range c).countP fun (c:Nat)=>decide (zA2 x c<0)&&decide (zDI x (c / 3)=s)
def cV (x:z6.T) (v s:Nat):Nat:=(List.range v).countP fun (v:Nat)=>decide (zOH x v=s)
def cL (x:z6.T) (k s:Nat):Nat:=((zAH x).take k).countP fun L=>decide (zOH x (L.getD 0 0)=s)
def oF (x:z6.T) (i:Nat):List GT:=(List.range (nSh x)).map fun (s:Nat)=>(0,0,(cF x i s:Int),0,0,0)
def tw (x:z6.T) (c:Nat):List Int:=(List.range (nSh x)).map fun (s:Nat)=>(cT x c s:Int)
def oV (x:z6.T) (v:Nat):List GT:=(List.range (nSh x)).map fun (s:Nat)=>((cV x v s:Int),0,(nF x s:Int),0,0,0)
def oL (x:z6.T) (k:Nat):List GT:=(List.range (nSh x)).map fun (s:Nat)=>((nV x s:Int),0,(nF x s:Int),(cL x k s:Int),0,0)
def oD (x:z6.T) (k:Nat):List GT:=(List.range (nSh x)).map fun (s:Nat)=>if s<k then gn6 (gnT x s) else ((nV x s:Int),0,(nF x s:Int),(nL x s:Int),0,0)
theorem zMq (p:Nat->Bool) (i:Nat):(List.range (i+1)).countP p=(List.range i).countP p+if p i=true then 1 else 0:=by
 rw [List.range_succ,List.countP_append,List.countP_cons,List.countP_nil,yK]
theorem zIg (p:Nat->Bool) (i:Nat):(List.range i).countP p<=i:=by
 have:=List.countP_le_length (p:=p) (l:=List.range i);rwa [zDs] at this
theorem bump {α:Type} {n:Nat} {f f':Nat->α} {k:Nat} (d:α) (G:α->α) (hk:k<n) (h: ∀ s,s<n->f' s=if s=k then G (f k) else f s):(List.range n).map f'=((List.range n).map f).set k (G (((List.range n).map f).getD k d)):=by
 rw [zGf,zGa f d hk];exact zGr h
theorem zDH {x:z6.T} (g:Full x) {i:Nat} (h:i<(ofR x).length): ∃ k:Nat,k<nSh x/\(ofR x).getD i 0=(k:Int)/\zDI x i=(k:Int):=by
 rw [zHa g.toGood] at h;have r:=zF0 g h;refine ⟨(zDI x i).toNat,by omega,?_,by omega⟩;show zDI x i=_;omega
theorem zSM {x:z6.T} (g:Full x) {i:Nat} (h:i<(ofR x).length):0<=(ofR x).getD i 0/\(ofR x).getD i 0<(nSh x:Int):=by
 rw [zHa g.toGood] at h;exact zF0 g h
theorem g0 (x:z6.T):oF x 0=List.replicate (nSh x) (0,0,0,0,0,0):=by
 apply List.ext_getElem (by simp [oF]);intro i h1 h2;simp [oF,cF]
theorem t0 (x:z6.T):tw x (3*0)=List.replicate (nSh x) 0:=by
 apply List.ext_getElem (by simp [tw]);intro i h1 h2;simp [tw,cT]
theorem z2C {x:z6.T} (g:Full x) {i:Nat} (h:i<(ofR x).length):oF x (i+1)=(oF x i).set ((ofR x).getD i 0).toNat ((fun t:GT=>(t.1,t.2.1,t.2.2.1+1,t.2.2.2)) ((oF x i).getD ((ofR x).getD i 0).toNat (0,0,0,0,0,0))):=by
 obtain ⟨k,hk,e1,e2⟩:=zDH g h;rw [e1,Int.toNat_natCast];refine bump (0,0,0,0,0,0) (fun t:GT=>(t.1,t.2.1,t.2.2.1+1,t.2.2.2)) hk fun s hs=> ?_;show ((0:Int),(0:Int),((cF x (i+1) s:Nat):Int),(0:Int),(0:Int),(0:Int))=_;unfold cF;rw [zMq,e2]
 by_cases q:s=k
 ·subst q;rw [if_pos rfl,if_pos (by simp)];rfl
 ·rw [if_neg q,if_neg (by rw [zB];omega)];rfl
theorem z5l {x:z6.T} (g:Full x) {i:Nat} (h:i<(ofR x).length):zAZ (((oF x i).getD ((ofR x).getD i 0).toNat (0,0,0,0,0,0)).2.2.1+1):=by
 obtain ⟨k,hk,e1,e2⟩:=zDH g h;rw [e1,Int.toNat_natCast];unfold oF;rw [zGa _ _ hk];rw [zHa g.toGood] at h;have h1:=zIg (fun j=>decide (zDI x j=(k:Int))) i;have h2:x.1.2.length<=8192:=g.fit.2.2.1;show zAZ (((List.range i).countP (fun j=>decide (zDI x j=(k:Int))):Int)+1);unfold zAZ;omega
theorem z6E (x:z6.T) (c s:Nat):cT x (c+1) s=cT x c s+(if zDI x (c / 3)=(s:Int) then 1 else 0)+if zA2 x c<0/\zDI x (c / 3)=(s:Int) then 1 else 0:=by
 unfold cT;rw [zMq,zMq];simp only [zB,zA];omega
theorem z30 (x:z6.T) (c s:Nat):cT x c s<=2*c:=by
 unfold cT;have h1:=zIg (fun c=>decide (zDI x (c / 3)=(s:Int))) c;have h2:=zIg (fun (c:Nat)=>decide (zA2 x c<0)&&decide (zDI x (c / 3)=(s:Int))) c;omega
theorem zV1 {x:z6.T} {c k:Nat} (h:k<nSh x):(tw x c).getD k 0=(cT x c k:Int):=zGa _ _ h
theorem zZR (x:z6.T) (c:Nat):(tw x c).length=nSh x:=by unfold tw;simp
theorem sg {α:Type} {l:List α} {m:Nat} (v d:α) (h:m<l.length):(l.set m v).getD m d=v:=by
 rw [gdE,yW h];rfl
theorem z5s {x:z6.T} (g:Full x) {i c:Nat} (h:i<(ofR x).length) (h1:c<=3*i+3):zAZ ((tw x c).getD ((ofR x).getD i 0).toNat 0+1):=by
 obtain ⟨k,hk,e1,e2⟩:=zDH g h;rw [e1,Int.toNat_natCast,zV1 hk];rw [zHa g.toGood] at h;have h2:x.1.2.length<=8192:=g.fit.2.2.1;have:=z30 x c k;unfold zAZ;omega
theorem z3d {x:z6.T} (g:Full x) {i c:Nat} (h:i<(ofR x).length) (h1:c<=3*i+3):zAZ (((tw x c).set ((ofR x).getD i 0).toNat ((tw x c).getD ((ofR x).getD i 0).toNat 0+1)).getD ((ofR x).getD i 0).toNat 0+1):=by
 obtain ⟨k,hk,e1,e2⟩:=zDH g h;rw [e1,Int.toNat_natCast,sg _ _ (by rw [zZR];exact hk),zV1 hk];rw [zHa g.toGood] at h;have h2:x.1.2.length<=8192:=g.fit.2.2.1;have:=z30 x c k;unfold zAZ;omega
theorem z3v {x:z6.T} (g:Full x) {i c:Nat} (h:i<(ofR x).length) (h1:3*i<=c) (h2:c<3*i+3) (ho: ¬ zA2 x c<0):tw x (c+1)=(tw x c).set ((ofR x).getD i 0).toNat ((tw x c).getD ((ofR x).getD i 0).toNat 0+1):=by
 obtain ⟨k,hk,e1,e2⟩:=zDH g h;rw [e1,Int.toNat_natCast];refine bump (0:Int) (fun t=>t+1) hk fun s hs=> ?_;show ((cT x (c+1) s:Nat):Int)=if s=k then ((cT x c k:Nat):Int)+1 else ((cT x c s:Nat):Int);rw [z6E,show c / 3=i by omega,e2]
 by_cases q:s=k
 ·subst q;rw [if_pos rfl,if_neg (fun e=>ho e.1),if_pos rfl];omega
 ·rw [if_neg (by omega),if_neg (fun e=>ho e.1),if_neg q];omega
theorem z3E {x:z6.T} (g:Full x) {i c:Nat} (h:i<(ofR x).length) (h1:3*i<=c) (h2:c<3*i+3) (ho:zA2 x c<0):tw x (c+1)=((tw x c).set ((ofR x).getD i 0).toNat ((tw x c).getD ((ofR x).getD i 0).toNat 0+1)).set ((ofR x).getD i 0).toNat (((tw x c).set ((ofR x).getD i 0).toNat ((tw x c).getD ((ofR x).getD i 0).toNat 0+1)).getD ((ofR x).getD i 0).toNat 0+1):=by
 obtain ⟨k,hk,e1,e2⟩:=zDH g h;rw [e1,Int.toNat_natCast,sg _ _ (by rw [zZR];exact hk),List.set_set];refine bump (0:Int) (fun t=>t+1+1) hk fun s hs=> ?_;show ((cT x (c+1) s:Nat):Int)=if s=k then ((cT x c k:Nat):Int)+1+1 else ((cT x c s:Nat):Int);rw [z6E,show c / 3=i by omega,e2]
 by_cases q:s=k
 ·subst q;rw [if_pos rfl,if_pos ⟨ho,rfl⟩,if_pos rfl];omega
 ·rw [if_neg (by omega),if_neg (fun e=>by omega),if_neg q];omega
theorem z6T {x:z6.T} (g:Full x) {i:Nat} (h:i=(ofR x).length):oV x 0=oF x i:=by
 rw [zHa g.toGood] at h;subst h;refine zGr fun s _=> ?_;show (((cV x 0 s:Nat):Int),(0:Int),_,_,_,_)=_;rfl
theorem zZC {x:z6.T} (g:Full x) {v:Int} (h0:0<=v) (h1:v<x.1.1):0<=yL x v/\yL x v<3*((ofR x).length:Int):=by
 rw [zHa g.toGood];exact z7.1 (g.vtx v h0 h1).1
theorem zJs {x:z6.T} (g:Full x) {v:Int} (h0:0<=v) (h1:v<x.1.1):(yL x v / 3).toNat<(ofR x).length:=by
 have:=zZC g h0 h1;omega
theorem zVr {x:z6.T} (g:Full x) {v:Int} (h0:0<=v) (h1:v<x.1.1):(0<=yL x v/\yL x v<3*((ofR x).length:Int))/\((ofR x).length:Int)<=8192/\Good x:=by
 refine ⟨zZC g h0 h1,?_,g.toGood⟩;rw [zHa g.toGood];have h2:x.1.2.length<=8192:=g.fit.2.2.1;omega
theorem z5a {x:z6.T} (g:Full x) {v:Nat} (h:(v:Int)<x.1.1):zAZ (((oV x v).getD ((ofR x).getD (yL x v / 3).toNat 0).toNat (0,0,0,0,0,0)).1+1):=by
 obtain ⟨k,hk,e1,e2⟩:=zDH g (zJs g (by omega) h);rw [e1,Int.toNat_natCast];unfold oV;rw [zGa _ _ hk];have h1:=zIg (fun (v:Nat)=>decide (zOH x v=(k:Int))) v;have h2: @LE.le Int _ x.1.1 4096:=g.fit.2.1;show zAZ (((List.range v).countP (fun (v:Nat)=>decide (zOH x v=(k:Int))):Int)+1);unfold zAZ;omega
theorem z1R {x:z6.T} (g:Full x) {v:Nat} (h:(v:Int)<x.1.1):oV x (v+1)=(oV x v).set ((ofR x).getD (yL x v / 3).toNat 0).toNat ((fun t:GT=>(t.1+1,t.2)) ((oV x v).getD ((ofR x).getD (yL x v / 3).toNat 0).toNat (0,0,0,0,0,0))):=by
 obtain ⟨k,hk,e1,e2⟩:=zDH g (zJs g (by omega) h);rw [e1,Int.toNat_natCast];refine bump (0,0,0,0,0,0) (fun t:GT=>(t.1+1,t.2)) hk fun s hs=> ?_;show (((cV x (v+1) s:Nat):Int),_,_,_,_,_)=_;unfold cV;rw [zMq,show zOH x v=_ from e2]
 by_cases q:s=k
 ·subst q;rw [if_pos rfl,if_pos (by simp)];rfl
 ·rw [if_neg q,if_neg (by rw [zB];omega)];rfl
theorem z62 {x:z6.T} {v:Nat} (h:v=x.1.1.toNat):oL x 0=oV x v:=by
 subst h;refine zGr fun s _=> ?_;show (_,_,_,((cL x 0 s:Nat):Int),_,_)=_;rfl
theorem zFf {x:z6.T} (g:Full x) {k:Nat} (h:k<(zAH x).length):0<((zAH x).getD k []).length/\0<=((zAH x).getD k []).getD 0 0/\((zAH x).getD k []).getD 0 0<x.1.1:=by
 have hm:(zAH x).getD k []∈zAH x:=by
  rw [gdE,gE h];exact qF _
 have ok:=(zEL g).ok _ hm;have hv:((zAH x).getD k []).getD 0 0∈(zAH x).getD k []:=z0T ok.ne;obtain ⟨w,hw⟩:=ok.bord hv;exact ⟨ok.ne,(zPQ g hw).2.1⟩
theorem z5Z {x:z6.T} (g:Full x) {k:Nat} (h:k<(zAH x).length):zAZ (((oL x k).getD ((ofR x).getD (yL x (((zAH x).getD k []).getD 0 0) / 3).toNat 0).toNat (0,0,0,0,0,0)).2.2.2.1+1):=by
 obtain ⟨h1,h2,h3⟩:=zFf g h;obtain ⟨s,hs,e1,e2⟩:=zDH g (zJs g h2 h3);rw [e1,Int.toNat_natCast];unfold oL;rw [zGa _ _ hs];have h4:=List.countP_le_length (p:=fun L=>decide (zOH x (L.getD 0 0)=(s:Int))) (l:=(zAH x).take k);have h5:(zAH x).length<=x.1.1.toNat:=zKh x x.1.1.toNat;have h6: @LE.le Int _ x.1.1 4096:=g.fit.2.1;rw [zAO] at h4;show zAZ ((((zAH x).take k).countP (fun L=>decide (zOH x (L.getD 0 0)=(s:Int))):Int)+1)
 unfold zAZ;omega
theorem z0v {x:z6.T} (g:Full x) {k:Nat} (h:k<(zAH x).length):oL x (k+1)=(oL x k).set ((ofR x).getD (yL x (((zAH x).getD k []).getD 0 0) / 3).toNat 0).toNat ((fun t:GT=>(t.1,t.2.1,t.2.2.1,t.2.2.2.1+1,t.2.2.2.2)) ((oL x k).getD ((ofR x).getD (yL x (((zAH x).getD k []).getD 0 0) / 3).toNat 0).toNat (0,0,0,0,0,0))):=by
 obtain ⟨h1,h2,h3⟩:=zFf g h;obtain ⟨r,hr,e1,e2⟩:=zDH g (zJs g h2 h3);rw [e1,Int.toNat_natCast];refine bump (0,0,0,0,0,0) (fun t:GT=>(t.1,t.2.1,t.2.2.1,t.2.2.2.1+1,t.2.2.2.2)) hr fun s hs=> ?_;show (_,_,_,((cL x (k+1) s:Nat):Int),_,_)=_;unfold cL;rw [yH h,List.countP_append,List.countP_cons,List.countP_nil,yK]
 have e3:zOH x (((zAH x)[k]'h).getD 0 0)=(r:Int):=by
  have:(zAH x)[k]'h=(zAH x).getD k []:=by rw [gdE,gE h];rfl
  rw [this];exact e2
 rw [e3]
 by_cases q:s=r
 ·subst q;rw [if_pos rfl,if_pos (by simp)];rfl
 ·rw [if_neg q,if_neg (by rw [zB];omega)];rfl
theorem z68 {x:z6.T} {k:Nat} (h:k=(zAH x).length):oD x 0=oL x k:=by
 subst h;refine zGr fun s _=> ?_;rw [if_neg (Nat.not_lt_zero _)];show _=(_,_,_,((cL x (zAH x).length s:Nat):Int),_,_);unfold cL;rw [qI];rfl
theorem z3Y (x:z6.T) (s n:Nat):cT x (3*n) s=3*((List.range n).countP fun j=>decide (zDI x j=(s:Int)))+(List.range (3*n)).countP fun (c:Nat)=>decide (zA2 x c<0)&&decide (zDI x (c / 3)=(s:Int)):=by
 unfold cT
 congr 1
 induction n with
 | zero=>rfl
 | succ n ih =>
   rw [show 3*(n+1)=3*n+1+1+1 by omega,zMq,zMq,zMq,ih,zMq,show (3*n+1+1) / 3=n by omega,show (3*n+1) / 3=n by omega,show 3*n / 3=n by omega];omega
theorem z2r {x:z6.T} (g:Full x) {i:Nat} (h:i=(ofR x).length) (s:Nat):cT x (3*i) s=3*nF x s+nB x s:=by
 rw [zHa g.toGood] at h;subst h;exact z3Y x s _
theorem zYt (x:z6.T) (m:Nat):(oD x m).length=nSh x:=by unfold oD;simp
theorem z4R {x:z6.T} {m:Nat} (h:m<nSh x):(oD x m).getD m (0,0,0,0,0,0)=((nV x m:Int),0,(nF x m:Int),(nL x m:Int),0,0):=by
 unfold oD;rw [zGa _ _ h,if_neg (Nat.lt_irrefl _)]
theorem z2n (x:z6.T) {m:Nat} (h:m=nSh x):(oD x m).take (nSh x)=(List.range (nSh x)).map fun (s:Nat)=>gn6 (gnT x s):=by
 subst h;rw [q9 (Nat.le_of_eq (zYt x _))];exact zGr fun s hs=>if_pos hs
theorem z4H {x:z6.T} (g:Full x) (s:Nat):nV x s<=4096/\nF x s<=8192/\nB x s<=24576/\nL x s<=4096:=by
 have h1:=zIg (fun (v:Nat)=>decide (zOH x v=(s:Int))) x.1.1.toNat;have h2: @LE.le Int _ x.1.1 4096:=g.fit.2.1;have h3:=zIg (fun j=>decide (zDI x j=(s:Int))) x.1.2.length;have h4:x.1.2.length<=8192:=g.fit.2.2.1;have h5:=zIg (fun (c:Nat)=>decide (zA2 x c<0)&&decide (zDI x (c / 3)=(s:Int))) (3*x.1.2.length);have h6:=List.countP_le_length (p:=fun L=>decide (zOH x (L.getD 0 0)=(s:Int))) (l:=zAH x);have h7:(zAH x).length<=x.1.1.toNat:=zKh x x.1.1.toNat
 unfold nV nF nB nL;refine ⟨?_,?_,?_,?_⟩<;>omega
theorem z1x {x:z6.T} {m:Nat} (h:m<nSh x):oD x (m+1)=(oD x m).set m (gn6 (gnT x m)):=by
 unfold oD;rw [zGf];refine zGr fun s hs=> ?_
 by_cases q:s=m
 ·subst q;rw [if_pos (Nat.lt_succ_self _),if_pos rfl]
 ·rw [if_neg q]
  by_cases q2:s<m
  ·rw [if_pos (by omega),if_pos q2]
  ·rw [if_neg (by omega),if_neg q2]
def zT4 (x:z6.T):Spec Nat where
 inv i:=i<=(ofR x).length
 live i:=[(25,.s (.int .i64 i))]
 keep:=[1,3,4,5,6,23,24]
 heap i:=[(3,.row gnE 116 (oF x i)),(4,.row qX 3 (tw x (3*i)))]
 keepH:=[0,1,2]
 mu i:=(ofR x).length - i
def zVw (x:z6.T) (i:Nat):Spec Nat where
 inv c:=3*i<=c/\c<=3*i+3
 live c:=[(9,.s (.int .i64 c))]
 keep:=[1,3,4,5,6,7,8,23,24,25]
 heap c:=[(4,.row qX 3 (tw x c))]
 keepH:=[0,1,2,3]
 mu c:=3*i+3 - c
def zUk (x:z6.T):Spec Nat where
 inv v:=(v:Int)<=x.1.1
 live v:=[(66,.s (.int .i64 v))]
 keep:=[1,3,4,5,6,65]
 heap v:=[(3,.row gnE 116 (oV x v))]
 keepH:=[0,1,2,4]
 mu v:=x.1.1.toNat - v
def zSS (x:z6.T):Spec Nat where
 inv k:=k<=(zAH x).length
 live k:=[(83,.s (.int .i64 k))]
 keep:=[1,3,4,5,6,81,82]
 heap k:=[(3,.row gnE 116 (oL x k))]
 keepH:=[0,1,2,4]
 mu k:=(zAH x).length - k
def zSz (x:z6.T):Spec Nat where
 inv k:=k<=nSh x
 live k:=[(102,.s (.int .i64 k))]
 keep:=[4,5,101]
 heap k:=[(3,.row gnE 116 (oD x k))]
 keepH:=[0,1,2,4]
 mu k:=nSh x - k
def z3B:List AV->St->(AV->St->Prop)->Prop:=zQS ⟨tyL,[],[]⟩ f110
theorem z1A : zH9 prog 110 z3B ∧ ∃ fn, Tryz.prog.funcs[110]? = some fn ∧ (fn.name == "runtime.NumGoroutine") = false ∧ fn.body.isNone = false :=
 ⟨zNm (zCv (fn:=[]) (fr:=[]) trivial trivial) func110 rfl (by kernel_rfl),_,func110,by kernel_rfl,by kernel_rfl⟩
attribute [local irreducible] cF cT cV cL oF tw oV oL oD nSh zDI zOH zAH ofR nV nF nB nL
theorem z5i (x:z6.T) (g:Full x) (hb:nSh x<=8192):zAk ⟨tyL,[(107,zRo),(108,zWQ),(109,atC),(26,zWO),(95,zTV),(65,zB0)],[(110,.run z3B)]⟩ f75 [(ETy.pt z6).av (some x)] (fun r=>r= .s (.sl gnE ((List.range (nSh x)).map fun (s:Nat)=>gn6 (gnT x s)))):=by
 have hlen:(ofR x).length<=8192:=by rw [zHa g.toGood];exact g.fit.2.2.1
 have hN: @LE.le Int _ x.1.1 4096:=g.fit.2.1;have hN0: @LE.le Int _ 0 x.1.1:=g.fit.1
 repeat' (conv=>whnf
          first|done|refine qy ?_|refine qG fun _=> ?_|refine qw (fun _=> ?_) (fun _=> ?_)|apply qt|refine qi (fun _=> ?_) (fun _=> ?_)|(refine (fun (X:Array Value)=> ?_))|(refine jS 6 rfl (zT4 x) (0) ?_ ?_ ?_ fun i hi=> ?_)|with_reducible refine jK (zT4 _) (i+1) ?_ ?_ ?_ ?_|(refine jS 10 rfl (zVw x i) (3*i) ?_ ?_ ?_ fun c hc=> ?_)|with_reducible refine jK (zVw _ _) (c+1) ?_ ?_ ?_ ?_|(refine jS 17 rfl (zUk x) (0) ?_ ?_ ?_ fun v hv=> ?_)|with_reducible refine jK (zUk _) (v+1) ?_ ?_ ?_ ?_|(refine jS 22 rfl (zSS x) (0) ?_ ?_ ?_ fun k hk=> ?_)|with_reducible refine jK (zSS _) (k+1) ?_ ?_ ?_ ?_|(refine jS 27 rfl (zSz x) (0) ?_ ?_ ?_ fun m hm=> ?_)|with_reducible refine jK (zSz _) (m+1) ?_ ?_ ?_ ?_|refine qu ?_|refine qv ?_ ?_|exact zL)
 all_goals try first|refine qz ?_|apply qz5
 all_goals try simp only [qn0,zY,zX,ETy.dflt,Int.reduceToNat,Int.reduceAdd,Int.reduceSub,Int.reduceNeg,Nat.reduceAdd,zT4,zVw,zUk,zSS,zSz] at *
 all_goals try exact qh g.toGood
 all_goals try exact g0 x
 all_goals try exact t0 x
 all_goals try exact qh (y7 _)
 all_goals try exact qh g.fit.1
 all_goals try exact qh fun y e=>by cases e;exact g
 all_goals try exact qh (by omega)
 all_goals try
  have q:i<(ofR x).length:=Int.ofNat_lt.1 (by assumption)
  first
  | exact qh (zSM g q)
  | exact qh (z5l g q)
  | exact z2C g q
  | exact qh (z5s g q (by omega))
  | exact qh (z3d g q (by omega))
  | exact z3E g q (by omega) (by omega) (by assumption)
  | exact z3v g q (by omega) (by omega) (by assumption)
  | exact qh (show (c:Int)<=1000000 by omega)
  | exact qh (by omega)
  | (rw [show c=3*(i+1) by omega])
 all_goals try
  have q: ¬ ((i:Int)<((ofR x).length:Int)):=by assumption
  exact z6T g (by omega)
 all_goals try
  have q: @LT.lt Int _ (v:Int) x.1.1:=by assumption
  first
  | exact qh (zVr g (by omega) q)
  | exact qh (zSM g (zJs g (by omega) q))
  | exact qh (z5a g q)
  | exact z1R g q
  | exact qh (show @LE.le Int _ ((v+1:Nat):Int) x.1.1 by omega)
  | (refine qh ?_;unfold zAZ;omega)
  | (refine qh ?_;have:(x.1.1.toNat:Int)=x.1.1:=zA6 hN0;omega)
 all_goals try
  have q: ¬ @LT.lt Int _ (v:Int) x.1.1:=by assumption
  have q2: @LE.le Int _ (v:Int) x.1.1:=hv;exact z62 (by omega)
 all_goals try
  have q:k<(zAH x).length:=Int.ofNat_lt.1 (by assumption)
  first
  | exact qh ⟨Int.le_refl _,Int.ofNat_lt.2 (zFf g q).1⟩
  | exact qh (zVr g (zFf g q).2.1 (zFf g q).2.2)
  | exact qh (zSM g (zJs g (zFf g q).2.1 (zFf g q).2.2))
  | exact qh (z5Z g q)
  | exact z0v g q
  | exact qh (by omega)
 all_goals try
  have q: ¬ ((k:Int)<((zAH x).length:Int)):=by assumption
  exact z68 (by omega)
 all_goals try
  have q: ¬ ((m:Int)<(nSh x:Int)):=by assumption
  exact z2n x (by omega)
 all_goals
  have q:m<nSh x:=Int.ofNat_lt.1 (by assumption)
  have hi2:i=(ofR x).length:=by
   have q: ¬ ((i:Int)<((ofR x).length:Int)):=by assumption
   omega
  have sgl: ∀ v d:GT,((oD x m).set m v).getD m d=v:=fun v d=>sg v d (by rw [zYt];exact q);simp only [List.set_set,sgl,z4R q,zV1 q,z2r g hi2];obtain ⟨b1,b2,b3,b4⟩:=z4H g m;have e2:Int.tdiv ((3*nF x m+nB x m:Nat):Int) 2=((3*nF x m+nB x m) / 2:Nat):=rfl;have e3:=Int.natAbs_tdiv_le_natAbs (2 - (nL x m:Int) - ((nV x m:Int) - ((3*nF x m+nB x m) / 2:Nat)+(nF x m:Int))) 2
  try rw [e2]
  first
  | exact z1x q
  | exact qh (by omega)
  | (refine qh ?_;unfold zAZ;omega)
  | (refine zA9.intro ⟨by decide,?_⟩;unfold zAZ;omega)
end S1
namespace S1
def zMA (x:z6.T):List GT:=(List.range (nSh x)).map fun (s:Nat)=>gn6 (gnT x s)
def z1e:List AV->Option Res:=zRU z6 (fun x=>some (none,some (Full x),.s (.sl gnE (zMA x))))
theorem z0H:jN prog 75 z1e:=mkR (zG8 fun x r h=>by
 cases h
 exact fb (fn:=[(107,zRo),(108,zWQ),(109,atC),(26,zWO),(95,zTV),(65,zB0)]) ⟨zOp,zWa,z5L,zW7,zI0,zCb,trivial⟩ func75 (p2:=by exact ⟨z1A,trivial⟩) fun _ h=>z5i x h (by have:=zVo h.toGood;have:=h.fit.2.2.1;omega)) func75
theorem zYD (x:z6.T):zMA x=(z2d x).map gn6:=by unfold zMA z2d;rw [zCr];rfl
theorem zPg (x:z6.T):(zMA x).length=nSh x:=by unfold zMA;simp
end S1
namespace S1
def cmpL:List Int->List Int->Int
 | [],[]=>0
 | [],_::_=> -1
 | _::_,[]=>1
 | x::a,y::b=>if zNp x y=0 then cmpL a b else zNp x y
def zSN (a b:List Int):Spec Nat where
 inv i:=i<=a.length/\i<=b.length/\cmpL a b=cmpL (a.drop i) (b.drop i)
 live i:=[(11,.s (.int .i64 i))]
 keep:=[0,1,9,10]
 heap _:=[]
 keepH:=[]
 mu i:=a.length - i
theorem zKY {l:List Int} {i:Nat} (h:i<l.length):l.drop i=l.getD i 0::l.drop (i+1):=by
 rw [List.drop_eq_getElem_cons h,gdE,gE h];rfl
theorem zYS (a b:List Int):zAk ⟨tyL,[(113,z5X)],[]⟩ f78 [(ETy.sl qX).av a,(ETy.sl qX).av b] (fun r=>r= .s (.int .i64 (cmpL a b))):=by
 repeat' (conv=>whnf
          first|done|refine qy ?_|refine qG fun _=> ?_|refine qw (fun _=> ?_) (fun _=> ?_)|apply qt|refine qi (fun _=> ?_) (fun _=> ?_)|(refine jS 2 rfl (zSN a b) (0) ?_ ?_ ?_ fun i hi=> ?_)|with_reducible refine jK (zSN _ _) (i+1) ?_ ?_ ?_ ?_|refine qu ?_|refine qv ?_ ?_|exact zL)
 all_goals try first|refine qz ?_|apply qz5
 all_goals try simp only [qn0,zY,zX,ETy.dflt,Int.reduceToNat,Int.reduceAdd,Int.reduceSub,Int.reduceNeg,Nat.reduceAdd,zSN] at *
 ·exact qh ⟨y7 _,y7 _,rfl⟩
 all_goals try (refine qh ?_;omega)
 ·rw [hi.2.2,zKY (l:=a) (by omega),y9 (show b.length<=i by omega)];rfl
 ·rw [hi.2.2,zKY (l:=a) (by omega),zKY (l:=b) (by omega)];show _=if _ then _ else _;rw [if_neg (by assumption)]
 ·refine zA9.intro ⟨by omega,by omega,?_⟩;rw [hi.2.2,zKY (l:=a) (by omega),zKY (l:=b) (by omega)];show (if _ then _ else _)=_;rw [if_pos (by assumption)]
 ·rw [hi.2.2,y9 (show a.length<=i by omega),zKY (l:=b) (by omega)];rfl
 ·rw [hi.2.2,y9 (show a.length<=i by omega),y9 (show b.length<=i by omega)];rfl
def zZX:List AV->Option Res:=zFm (.sl qX) (.sl qX) (fun a b=>some (none,none,.s (.int .i64 (cmpL a b))))
theorem zXl:jN prog 78 zZX:=mkR (zA4 fun a b r h=>by cases h;exact fb (by exact ⟨zZ2,trivial⟩) func78 fun _ _=>zYS a b) func78
def cfK (a b:Int×Int):Int:=cmpL [a.1,a.2] [b.1,b.2]
theorem z29 (a b:Int×Int):zAk ⟨tyL,[(78,zZX)],[]⟩ f77 [ETy.arr2.av a,ETy.arr2.av b] (fun v=>v= .s (.int .i64 (cfK a b))):=by
 repeat' (conv=>whnf
          first|done|refine qy ?_|refine qG fun _=> ?_|refine qw (fun _=> ?_) (fun _=> ?_)|apply qt|refine qi (fun _=> ?_) (fun _=> ?_)|refine qu ?_|refine qv ?_ ?_|exact zL)
 all_goals try first|refine qz ?_|apply qz5
 all_goals try simp only [qn0,zY,zX,ETy.dflt,Int.reduceToNat,Int.reduceAdd,Int.reduceSub,Int.reduceNeg,Nat.reduceAdd,cfK] at *
 try rfl
def z5E:List AV->Option Res:=zFm .arr2 .arr2 (fun a b=>some (none,none,.s (.int .i64 (cfK a b))))
theorem z2H:jN prog 77 z5E:=mkR (zA4 fun a b r h=>by cases h;exact fb (by exact ⟨zXl,trivial⟩) func77 fun _ _=>z29 a b) func77
theorem z4e (a b:Int×Int):cfK a b=if a.1=b.1 then zNp a.2 b.2 else zNp a.1 b.1:=by
 simp only [cfK,cmpL,zNp]
 repeat' split
 all_goals first|rfl|omega
theorem z4k (a b:RT ETy.arr2):ltOf (fun a b:RT ETy.arr2=>cfK a.1 b.1) a b=lt2 a.1.1 a.1.2 b.1.1 b.1.2:=by
 show decide (cfK a.1 b.1<0)=_;rw [z4e];exact zZL _ _ _ _
theorem z4r:z05 .arr2 cfK:=by
 refine ⟨fun x=>by rw [z4k];exact zTt _ _,fun x y z h1 h2=> ?_,fun x y z h1 h2=> ?_⟩
 ·rw [z4k] at h1 h2 ⊢;exact lt2_trans _ _ _ _ _ _ h1 h2
 ·rw [z4k] at h1 h2 ⊢;exact zKJ _ _ _ _ _ _ h1 h2
theorem zWA {d:Array (RT ETy.arr2)} (h: @Go.Sort.SortedIn (RT ETy.arr2) rtInh (ltOf fun a b:RT ETy.arr2=>cfK a.1 b.1) 0 d.size d):d.toList.Pairwise fun x y=>lt2 y.1.1 y.1.2 x.1.1 x.1.2=false:=by
 rw [List.pairwise_iff_getElem];intro i j hi hj hij;have:=h i j (y7 _) hij (by simpa using hj);rw [z4k] at this;rw [@getElem!_pos _ _ _ _ _ _ rtInh d i (by simpa using hi),@getElem!_pos _ _ _ _ _ _ rtInh d j (by simpa using hj)] at this;exact this
theorem zRm {l m:List (Int×Int)} (h:l.Perm m):zEJ .arr2 cfK l=zEJ .arr2 cfK m:=by
 obtain ⟨d1,e1,p1,s1⟩:=zEv z4r l;obtain ⟨d2,e2,p2,s2⟩:=zEv z4r m;rw [e1,e2]
 congr 1
 refine (p1.trans ((h.map _).trans p2.symm)).eq_of_pairwise (fun a b _ _ h1 h2=> ?_) (zWA s1) (zWA s2);apply Subtype.ext;unfold lt2 at h1 h2;rw [yX] at h1 h2;apply Prod.ext<;>omega
def kdL (x:z6.T):List (Int×Int):=(zMA x).map fun t=>(t.2.2.2.1,t.2.2.2.2.2)
def zM5 (x:z6.T):List (Int×Int):=zEJ .arr2 cfK (kdL x)
def z0g:List AV->Option Res:=zF4 jQ (fun s=>some (none,some (zHO s=some (j8 s)),.tup [(ETy.pt z6).av (some (j8 s)),zCp.av (0,0,0)]))
theorem z04:jN prog 21 z0g:=mkR (zAm fun s r h=>by
 cases h;intro I vals w hag hv;refine ⟨trivial,fun hq=> ?_⟩;have:=(newRow.1 _ _ (rfl:z4y [jQ.av s]=_) I vals w hag hv).2 trivial
 have h0:zHh s=(0,0,0):=by
  have hq:zHO s=some (j8 s):=hq;unfold zHO at hq;split at hq
  ·exact zMb (by assumption)
  ·cases hq
 rw [show zHO s=some (j8 s) from hq,h0] at this
 exact this) func21
def zTk (x:z6.T):Spec Nat where
 inv i:=i<=(zMA x).length
 live i:=[(19,.s (.int .i64 i)),(6,.s (.own 3 0 i))]
 keep:=[17,18]
 heap i:=[(3,.row .arr2 56 ((kdL x).take i))]
 keepH:=[0,1,2]
 mu i:=(zMA x).length - i
theorem zVk (x:z6.T):(kdL x).length=(zMA x).length:=by unfold kdL;simp
theorem z5Y (x:z6.T) {i:Nat} (h:i<(zMA x).length):(kdL x).take (i+1)=(kdL x).take i++[(((zMA x).getD i (0,0,0,0,0,0)).2.2.2.1,((zMA x).getD i (0,0,0,0,0,0)).2.2.2.2.2)]:=by
 rw [yH (by rw [zVk];exact h)];unfold kdL;rw [List.getElem_map,gdE,gE h];rfl
attribute [local irreducible] zMA kdL j8
attribute [local semireducible] zMA kdL j8
def zT3 (a b:List (Int×Int)):Spec Nat where
 inv x:=x<=a.length/\∀ i,i<x->a.getD i (0,0)=b.getD i (0,0)
 live x:=[(13,.s (.int .i64 x))]
 keep:=[0,1,12]
 heap _:=[]
 keepH:=[]
 mu x:=a.length - x
theorem z4I {fn} (a b:List (Int×Int)):zAk ⟨tyL,fn,[]⟩ f45 [(ETy.sl .arr2).av a,(ETy.sl .arr2).av b] (fun v=>v= .s (.bool (decide (a=b)))):=by
 repeat' (conv=>whnf
          first|done|refine qy ?_|refine qG fun _=> ?_|refine qw (fun _=> ?_) (fun _=> ?_)|apply qt|refine qi (fun _=> ?_) (fun _=> ?_)|(refine jS 4 rfl (zT3 a b) (0) ?_ ?_ ?_ fun x hx=> ?_)|with_reducible refine jK (zT3 _ _) (x+1) ?_ ?_ ?_ ?_|refine qu ?_|refine qv ?_ ?_|exact zL)
 all_goals try first|refine qz ?_|apply qz5
 all_goals try simp only [qn0,zY,zX,ETy.dflt,Int.reduceToNat,Int.reduceAdd,Int.reduceSub,Int.reduceNeg,Nat.reduceAdd,zT3] at *
 ·symm;rw [yX];intro e;subst e;exact absurd rfl (by assumption)
 ·exact qh ⟨y7 _,fun i hi=>by omega⟩
 all_goals try (refine qh ?_;omega)
 ·refine zA9.intro ⟨by omega,fun i hi=> ?_⟩
  by_cases e:i=x
  ·subst e;exact Prod.ext (by assumption) (by assumption)
  ·exact hx.2 i (by omega)
 ·symm;rw [yX];intro e;subst e;exact absurd rfl (by assumption)
 ·symm;rw [yX];intro e;subst e;exact absurd rfl (by assumption)
 ·symm;rw [zB];apply List.ext_getElem
  ·omega
  ·intro i h1 h2;have:=hx.2 i (by omega);rw [gdE,gdE,gE h1,gE h2] at this;exact this
def z5v:List AV->Option Res:=zFm (.sl .arr2) (.sl .arr2) (fun a b=>some (none,none,.s (.bool (decide (a=b)))))
theorem z3T:jN prog 45 z5v:=mkR (zA4 fun a b r h=>by cases h;exact fb (fn:=[]) trivial func45 fun _ _=>z4I a b) func45
def gsR (a b:Int×List P3):Bool:=decide (zM5 (j8 a)=zM5 (j8 b))
theorem zZI (x:z6.T):kdL x=(z2d x).map z1g:=by
 unfold kdL;rw [zYD,zCr];rfl
theorem z3O {s:Int×List P3} {a b:Int} (hs:zDM s) (k:zNP s.2 a b):gsR s (zFI s a b)=true:=by
 unfold gsR zM5;rw [zB,zZI,zZI];exact zRm (zWZ hs k)
end S1
namespace S1
theorem set_self {α:Type} {a:Array α} {i:Nat} {v:α} (h:a[i]? =some v):a.setIfInBounds i v=a:=by
 apply Array.ext_getElem?;intro j;rw [qW];split
 ·rename_i e;subst e;have:=(zT.1 h).1;rw [if_pos this,h]
 ·rfl
theorem zcE {P:Program} {f:FuncId} {e:ETy} {ex:List Value} {g:List e.T->List e.T} (hC:z0i P f e ex g 1) (hN: ∀ (a:Option Addr) (cap:Nat) (w:World),Calls P f (Value.slice a 0 cap::ex).toArray w fun r w'=>r= .returned (.tuple #[])/\w'=w) (hg:g []=[]):z0i P f e ex g 0:=by
 intro w blk off cap xs c u _ hin hb hlen hc;cases xs with
 | nil =>
   refine (hN (some ⟨blk,off,none⟩) cap w).mono fun r w' ⟨e1,e2⟩=>⟨e1,0,#[],c,?_,rfl,fun i x hx=>by (rw [hg] at hx;cases hx),fun k _=>rfl⟩;rw [e2,set_self hb,Array.append_empty];rfl
 | cons x r=>exact hC w blk off cap (x::r) c u (by simp) hin hb hlen hc
def zby:List AV->St->(AV->St->Prop)->Prop:=zFd .arr2 (zEJ .arr2 cfK) (z4o 77) 0
theorem zbN : zH9 prog 76 zby ∧ ∃ fn, Tryz.prog.funcs[76]? = some fn ∧ (fn.name == "runtime.NumGoroutine") = false ∧ fn.body.isNone = false :=
 ⟨zJu (e:= .arr2) (g:=zEJ .arr2 cfK) rfl (ex:=[.func (.func 77) #[] #[]]) (fun rest vals I Z h hv=>by
   unfold z4o at h;split at h
   ·rename_i g';obtain rfl:=zC h
    match vals,hv with
    | [v],hv=>rw [show v=_ from hv.1.1]
   ·cases h) (zGT z4r) (zMP z4r)
   (zcE (z21 (ρ:=Go.Proofs.S1.laySortG_ren) Go.Proofs.S1.laySortG (e:= .arr2) rfl rfl (by decide) (fun w=>((zYT (fn:=[]) trivial).ty 56 _ rfl).run_isAgg) (fun w=>((zYT (fn:=[]) trivial).ty 56 _ rfl).run_sizeOf) (enters_of func77 (by kernel_rfl) rfl) z4r (fun x y=>z2H.1 _ _ rfl))
     (fun a cap w=>AnyF.slices_SortFunc_none (ρ:=Go.Proofs.S1.laySortG_ren) Go.Proofs.S1.laySortG a cap _ w) (zDN.1 (zGT z4r [])))
   fun _ a cap w=>AnyF.slices_SortFunc_none (ρ:=Go.Proofs.S1.laySortG_ren) Go.Proofs.S1.laySortG a cap _ w,
   _,func76,by kernel_rfl,by kernel_rfl⟩
attribute [local irreducible] zMA kdL j8
theorem zaS (n:Int) (l:List P3) (hs:zDM (n,l)):zAk ⟨tyL,[(21,z0g),(75,z1e)],[(76,.run zby)]⟩ f44 [jQ.av (n,l)] (fun r=>r= .tup [.s (.sl .arr2 (zM5 (j8 (n,l)))),.s (.bool true)]):=by
 have hg:(zMA (j8 (n,l))).length<=8192:=by
  rw [zPg];have:=zVo (zCO hs).2.1.toGood;have:=(zCO hs).2.1.fit.2.2.1;omega
 repeat' (conv=>whnf
          first|done|refine qy ?_|refine qG fun _=> ?_|refine qw (fun _=> ?_) (fun _=> ?_)|apply qt|refine qi (fun _=> ?_) (fun _=> ?_)|(refine jS 6 rfl (zTk (j8 (n,l))) (0) ?_ ?_ ?_ fun i hi=> ?_)|with_reducible refine jK (zTk _) (i+1) ?_ ?_ ?_ ?_|refine qu ?_|refine qv ?_ ?_|exact zL)
 all_goals try first|refine qz ?_|apply qz5
 all_goals try simp only [qn0,zY,zX,ETy.dflt,Int.reduceToNat,Int.reduceAdd,Int.reduceSub,Int.reduceNeg,Nat.reduceAdd,zTk] at *
 all_goals try (refine qh ?_;omega)
 ·exact qh (zCO hs).1
 ·exact qh (zCO hs).2.1
 ·have hi1:i<(zMA (j8 (n,l))).length:=Int.ofNat_lt.1 (by assumption);rw [z5Y _ hi1,jJ,List.take_take,Nat.min_self]
 ·have hk:=zVk (j8 (n,l));rw [show i=(kdL (j8 (n,l))).length by omega];refine jE.intro ?_;simp only [List.take_zero,zAr,jJ,qI,List.drop_length,yJ];rw [q9 (Nat.le_of_eq (zGT z4r _))];rfl
attribute [local semireducible] zMA kdL j8
def z88:List AV->Option Res:=zF4 jQ (fun s=>some (none,some (zDM s),.tup [.s (.sl .arr2 (zM5 (j8 s))),.s (.bool true)]))
theorem z9u:jN prog 44 z88:=mkR (zAm fun s r h=>by
 cases h
 exact fb (fn:=[(21,z0g),(75,z1e)]) ⟨z04,z0H,trivial⟩ func44 (p2:=by exact ⟨zbN,trivial⟩) fun _ h=>zaS s.1 s.2 h) func44
theorem z9Z (n m:Int) (l k:List P3) (h1:zDM (n,l)) (h2:zDM (m,k)):zAk ⟨tyL,[(44,z88),(45,z5v)],[]⟩ f13 [jQ.av (n,l),jQ.av (m,k)] (fun r=>r= .s (.bool (gsR (n,l) (m,k)))):=by
 repeat' (conv=>whnf
          first|done|refine qy ?_|refine qG fun _=> ?_|refine qw (fun _=> ?_) (fun _=> ?_)|apply qt|refine qi (fun _=> ?_) (fun _=> ?_)|refine qu ?_|refine qv ?_ ?_|exact zL)
 all_goals try first|refine qz ?_|apply qz5
 all_goals try simp only [qn0,zY,zX,ETy.dflt,Int.reduceToNat,Int.reduceAdd,Int.reduceSub,Int.reduceNeg,Nat.reduceAdd] at *
 all_goals first|exact qh h1|exact qh h2|rfl
def z86:List AV->Option Res:=zFm jQ jQ (fun a b=>some (none,some (zDM a/\zDM b),.s (.bool (gsR a b))))
theorem za7:jN prog 13 z86:=mkR (zA4 fun a b r h=>by
 cases h
 exact fb (fn:=[(44,z88),(45,z5v)]) ⟨z9u,z3T,trivial⟩ func13 fun _ h=>z9Z a.1 b.1 a.2 b.2 h.1 h.2) func13
end S1
namespace S1
theorem z9D {s:SoT} {l:EdB} (h:z6n s l=false):s.2.length<=30/\s.1<=100/\l.length<=12:=by
 unfold z6n at h;rw [Bool.or_eq_false_iff,Bool.or_eq_false_iff,yX,yX,yX] at h;omega
theorem z9O (x:z6.T) (l:EdB):(z6i x l).length<=l.length:=z7q x l l.length
theorem z8s {s:SoT} {l:EdB} (h:z9P s l): ∀ k,k<=l.length->zM5 (j8 (doK s l k).1)=zM5 (j8 s)
 | 0,_=>rfl
 | k+1,hk=>by
   have d:=z7R h k (by omega);obtain ⟨_,e,_⟩:=z7Z d (by omega);have hb:=d.bat;rw [z8W (0,0) (show k<l.length by omega),jT] at hb;have hf:=hb.free _ (zR ..);have:=z3O hb.surf hf;unfold gsR at this;rw [zB] at this;rw [e,<- z8s h k (by omega)];exact this.symm
structure BkF (s:SoT) (l:EdB):Prop where
 hs:zDM s
 u:zDM (doB s l).1
 e0:(doB s l).2.2=0
 num:(doB s l).1.1=s.1 - l.length
 gs:gsR s (doB s l).1=true
theorem zbF {s:SoT} {l:EdB} (h:z9P s l):BkF s l:=by
 have b:=zdW h rfl;have hd:=z7R h l.length (zH _)
 have e:z8Z s l=0:=by
  unfold z8Z;rw [if_pos ((zGw s).2 h.surf),if_pos ((z71 h.surf).2 h)]
 have e1:=congrArg Prod.fst (zaJ e);have e1:(doB s l).1=(doK s l l.length).1:=e1;refine ⟨h.surf,by rw [e1];exact hd.bat.surf,b.1,b.2.2.1,?_⟩;rw [e1];unfold gsR;rw [zB];exact (z8s h l.length (zH _)).symm
attribute [local irreducible] doB z6i j8 isR z6n gsR
theorem lawBK_vc (n:Int) (l:List P3) (es:EdB):zAk ⟨tyL,[(7,z7t),(8,z7h),(9,zcZ),(11,zcj),(10,z7C),(12,zcz),(13,z86)],[]⟩ Tryz.f3 [jQ.av (n,l),(ETy.sl .arr2).av es] (fun r=>r= .s (.bool true)):=by
 repeat' (conv=>whnf
          first|done|refine qy ?_|refine qG fun _=> ?_|refine qw (fun _=> ?_) (fun _=> ?_)|apply qt|refine qi (fun _=> ?_) (fun _=> ?_)|refine qu ?_|refine qv ?_ ?_|exact zL)
 all_goals try first|refine qz ?_|apply qz5
 all_goals try simp only [qn0,zY,zX,ETy.dflt,Int.reduceToNat,Int.reduceAdd,Int.reduceSub,Int.reduceNeg,Nat.reduceAdd] at *
 all_goals
  have hg36:=z9D (show z6n (n,l) es=false by assumption);have hl30:l.length<=30:=hg36.1;have hes:List.length es<=12:=hg36.2.2;have hs:zDM (n,l):=(zGw (n,l)).1 (by assumption);have hCl:(z6i (j8 (n,l)) es).length<=List.length es:=z9O _ _;have f:=zbF (z9L hs es);have hn:n<=4096:=hs.fit.2.1;have hn0:0<=n:=hs.fit.1
 ·exact qh ⟨hs,by omega⟩
 ·exact qh ⟨fun y h=>by cases h;exact zar hs,by omega⟩
 ·exact qh ⟨hs,by omega⟩
 ·exact qh ⟨hs,f.u⟩
 ·refine qh ?_;unfold zAZ;omega
 ·exact beq_iff_eq.2 f.num
 ·have h:gsR (n,l) (doB (n,l) (z6i (j8 (n,l)) es)).1=false:=by assumption
  rw [f.gs] at h;cases h
 ·have h:isR (doB (n,l) (z6i (j8 (n,l)) es)).1=false:=by assumption
  rw [(zGw _).2 f.u] at h;cases h
 ·exact absurd f.e0 (by assumption)
def lawBKC:List AV->Option Res:=zFm jQ (.sl .arr2) (fun _ _=>some (none,none,.s (.bool true)))
theorem lawBKRow:jN prog 3 lawBKC:=mkR (zA4 fun s es r h=>by
 cases h
 exact fb (fn:=[(7,z7t),(8,z7h),(9,zcZ),(11,zcj),(10,z7C),(12,zcz),(13,z86)]) ⟨z9F,z9G,zcG,zbg,z7Y,zbd,za7,trivial⟩ func3 fun _ _=>lawBK_vc s.1 s.2 es) func3
end S1
