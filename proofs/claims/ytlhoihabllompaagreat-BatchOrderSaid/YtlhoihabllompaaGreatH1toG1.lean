/- A part of the proofs of the laws. -/
import Derived.Test.YtlhoihabllompaaGreatW4toY3
import Derived.Test.YtlhoihabllompaaGreatVmRng3toF5
import Derived.Test.YtlhoihabllompaaGreatT22toF5a
import Derived.Test.YtlhoihabllompaaGreatVmRngMtoVmSeq
import Derived.Test.YtlhoihabllompaaGreatF8atoW3
set_option linter.unusedSimpArgs false
set_option linter.unusedVariables false
set_option maxHeartbeats 8000000
set_option maxRecDepth 100000
open Go Go.Vm Go.Proofs
namespace S1
def zYy (m:ReM) (l:List Int):ReM:=l.foldl (fun m c=>zAB (.int .i64) m (c.tdiv 3) true) m
def stK (x:yI.T) (e:Int×Int):Nat->ReM
 | 0=>[]
 | k+1=>zYy (stK x e k) (yU (some x) ([e.1,e.2].getD k 0))
def zCt (x:yI.T) (e:Int×Int):ReM:=stK x e 2
def zXp (x:yI.T) (e:Int×Int):Spec Nat where
 inv k:=k<=2
 live k:=[(11,.s (.int .i64 k))]
 keep:=[0,3,5,10]
 heap k:=[(1,.map y8 .bool (stK x e k))]
 keepH:=[0,2]
 mu k:=2 - k
def z2G (m:ReM) (L:List Int):Spec Nat where
 inv _:=True
 live _:=[]
 keep:=[0,3,5,10,11]
 heap k:=[(1,.map y8 .bool (zYy m (L.take k)))]
 keepH:=[0,2,3,4]
 mu _:=0
theorem z6M {m:ReM} {L:List Int} {j:Nat} (hj:j<L.length):zYy m (L.take (j+1))=zAB (.int .i64) (zYy m (L.take j)) ((L.getD j 0).tdiv 3) true:=by
 unfold zYy;rw [yB hj,List.foldl_append,zR,zG hj];rfl
theorem z0S {c:Int} (h:InK .i64 c):yP (c.tdiv 3):=by
 have h:=InK.i64.1 h;unfold yP at *;rcases Int.le_total 0 c with k|k
 ·rw [Int.tdiv_eq_ediv_of_nonneg k];omega
 ·have e:(-c).tdiv 3= -(c.tdiv 3):=Int.neg_tdiv ..;rw [Int.tdiv_eq_ediv_of_nonneg (by omega)] at e;omega
attribute [local irreducible] zYy yU
theorem z4N (x:yI.T) (a b:Int) (g:Good x):zH7 ⟨tyL,[(90,zFO)],[]⟩ z8P Tryz.f57 [(ETy.pt yI).av (some x),ETy.arr2.av (a,b)] (fun r=>r= .s (.mp y8 .bool (zCt x (a,b)))):=by
 repeat' (conv=>whnf
          first|done|refine qN ?_|apply qH|refine qG fun _=> ?_|apply qB|apply qa|apply qo|refine qe (fun _=> ?_) (fun _=> ?_)|refine qn (fun _=> ?_) (fun _=> ?_)|refine qd (fun _=> ?_) (fun _=> ?_)|apply qt|refine qi (fun _=> ?_) (fun _=> ?_)|refine zB (Nat) (zB (zXp x (a,b)) (zA (zB (0) (zA (yJ.out ?_) (zA ?_ (zA ?_ rfl)))) (fun k hk=> ?_)))|with_reducible refine zaA (zXp _ _) (k+1) ?_ ?_ ?_ ?_|refine zB (yU (some x) ([a,b].getD k 0)) (zA (yJ.out ?_) (zB (z2G (stK x (a,b) k) (yU (some x) ([a,b].getD k 0))) ?_))|(refine zA (fun X=> ?_) (fun X=> ?_))|(refine zA (zA ?_ (zA ?_ rfl)) (fun j hj=> ?_))|(refine zA ?_ (zA ?_ rfl))|refine zA rfl ?_|apply qE|apply qO|exact zO|apply qq|apply qs|refine qK (by kernel_rfl) ?_|apply qr)
 all_goals try first|refine qz ?_|apply qz5
 all_goals try simp only [z6,zS,yE,zZ,qn1,z7,qn2,zX,ETy.dflt,qn3,qn4,Int.reduceToNat,Int.reduceAdd,Int.reduceSub,Int.reduceNeg,Nat.reduceAdd,zD,zXp,z2G] at *
 all_goals try (refine yJ.intro ?_;omega)
 ·have hk2:k<2:=by omega
  refine yJ.intro ⟨rfl,some x,[a,b].getD k 0,rfl,fun y e=>by cases e;exact g,rfl⟩
 ·rw [List.take_zero];with_unfolding_all rfl
 ·exact yJ.intro ⟨by decide,z0S (zKV g _ _ (jB hj))⟩
 ·exact z6M hj
 ·rw [List.take_length];rfl
 ·have e:k=2:=by omega
  subst e;exact y9.intro rfl
def zMW:List AV->Option Res:=zCr (.pt yI) .arr2 (fun o e=>match o with|none=>none|some x=>some (none,some (Good x),.s (.mp y8 .bool (zCt x e))))
theorem zLu:qM Tryz.prog 57 zMW:=⟨jD fun o e r h=>by
 cases o with
 | none=>cases h
 | some x=>cases h;exact zHL (yN (fn:=[(90,zFO)]) (fr:=[]) ⟨zI1,trivial⟩ trivial) z9Z Tryz.func57 rfl (by kernel_rfl) (zU rfl) fun _ h=>z4N x e.1 e.2 h,_,Tryz.func57,by kernel_rfl,by kernel_rfl⟩
def z8R:zDE:=fun _ _ _=>False
theorem zVc:zDb Tryz.prog z8R:=fun _ _ _ h=>h.elim
def zKk (a b:ReM):Bool:=a.all fun p=> !had b p.1
def zTe (b:ReM):Spec IBM where
 inv pre:= ∀ p∈pre,had b p.1=false
 live _:=[]
 keep:=[1,7]
 heap _:=[]
 keepH:=[]
 mu _:=0
theorem z0L (a b:ReM):zH7 ⟨tyL,[],[]⟩ z8R Tryz.f56 [(ETy.mp y8 .bool).av a,(ETy.mp y8 .bool).av b] (fun r=>r= .s (.bool (zKk a b))):=by
 repeat' (conv=>whnf
          first|done|refine qN ?_|apply qH|refine qG fun _=> ?_|apply qB|apply qa|apply qo|refine qe (fun _=> ?_) (fun _=> ?_)|refine qn (fun _=> ?_) (fun _=> ?_)|refine qd (fun _=> ?_) (fun _=> ?_)|apply qt|refine qi (fun _=> ?_) (fun _=> ?_)|refine (fun (rIt:Nat)=> ?_)|refine z8H.intro (it:=7) (zB (zTe b) (zA (zA (yJ.out ?_) (zA ?_ (zA ?_ rfl))) (zA (fun pre e he=>zA rfl ?_) (fun pre hp=>zA rfl ?_))))|((with_reducible show (And (Spec.inv (zTe b) _) _));refine zA (yJ.out ?_) (zA ?_ (zA ?_ rfl)))|refine zA rfl ?_|apply qE|apply qO|exact zO|apply qq|apply qs|refine qK (by kernel_rfl) ?_|apply qr)
 all_goals try first|refine qz ?_|apply qz5
 all_goals try simp only [z6,zS,yE,zZ,qn1,z7,qn2,zX,ETy.dflt,qn3,qn4,Int.reduceToNat,Int.reduceAdd,Int.reduceSub,Int.reduceNeg,Nat.reduceAdd,zD,zTe] at *
 ·exact yJ.intro fun p h=>by cases h
 ·rename_i h;refine Eq.symm (Bool.eq_false_iff.2 fun k=> ?_);have:=zJ.1 k _ he.2.2.2.1;rw [show had b e.fst=true from h] at this;cases this
 ·rename_i h;refine yJ.intro fun p hp=> ?_;rcases yD.1 hp with k|k
  ·exact he.1 p k
  ·rw [zF.1 k];exact h
 ·exact (zJ.2 fun p k=>by rw [hp.1 p ((hp.2.2 p).2 k)];rfl).symm
def zNP:List AV->Option Res:=zCr (.mp y8 .bool) (.mp y8 .bool) (fun a b=>some (none,none,.s (.bool (zKk a b))))
theorem zSP:qM Tryz.prog 56 zNP:=⟨jD fun a b r h=>by
 cases h;exact zHL (yN (fn:=[]) (fr:=[]) trivial trivial) zVc Tryz.func56 rfl (by kernel_rfl) (zU rfl) fun _ _=>z0L a b,_,Tryz.func56,by kernel_rfl,by kernel_rfl⟩
def apB (x:yI.T) (e f:Int×Int):Bool:=zAQ x e.1 e.2&&(zAQ x f.1 f.2&&zKk (zCt x e) (zCt x f))
attribute [local irreducible] zCt zKk zAQ
theorem zUj (x:yI.T) (a b c d:Int) (g:Good x):zAG ⟨tyL,[(55,zLo),(57,zMW),(56,zNP)],[]⟩ Tryz.f17 [(ETy.pt yI).av (some x),ETy.arr2.av (a,b),ETy.arr2.av (c,d)] (fun r=>r= .s (.bool (apB x (a,b) (c,d)))):=by
 repeat' (conv=>whnf
          first|done|refine qN ?_|apply qH|refine qG fun _=> ?_|apply qB|apply qa|apply qo|refine qe (fun _=> ?_) (fun _=> ?_)|refine qn (fun _=> ?_) (fun _=> ?_)|refine qd (fun _=> ?_) (fun _=> ?_)|apply qt|refine qi (fun _=> ?_) (fun _=> ?_)|refine zA rfl ?_|apply qE|apply qO|exact zO|apply qq|apply qs|refine qK (by kernel_rfl) ?_|apply qr)
 all_goals try first|refine qz ?_|apply qz5
 all_goals try simp only [z6,zS,yE,zZ,qn1,z7,qn2,zX,ETy.dflt,qn3,qn4,Int.reduceToNat,Int.reduceAdd,Int.reduceSub,Int.reduceNeg,Nat.reduceAdd,zD,apB] at *
 all_goals try first
  | exact yJ.intro g
  | exact yJ.intro (fun y h=>by cases h;exact g)
 ·rw [show zAQ x a b=true by assumption,show zAQ x c d=true by assumption];rfl
 ·rw [show zAQ x a b=true by assumption,show zAQ x c d=false by assumption];rfl
 ·rw [show zAQ x a b=false by assumption];rfl
theorem zSY (a b c d:Int):zAG ⟨tyL,[(55,zLo),(57,zMW),(56,zNP)],[]⟩ Tryz.f17 [(ETy.pt yI).av none,ETy.arr2.av (a,b),ETy.arr2.av (c,d)] (fun r=>r= .s (.bool false)):=by
 repeat' (conv=>whnf
          first|done|refine qN ?_|apply qH|refine qG fun _=> ?_|apply qB|apply qa|apply qo|refine qe (fun _=> ?_) (fun _=> ?_)|refine qn (fun _=> ?_) (fun _=> ?_)|refine qd (fun _=> ?_) (fun _=> ?_)|apply qt|refine qi (fun _=> ?_) (fun _=> ?_)|refine zA rfl ?_|apply qE|apply qO|exact zO|apply qq|apply qs|refine qK (by kernel_rfl) ?_|apply qr)
 all_goals try first|refine qz ?_|apply qz5
 all_goals try simp only [z6,zS,yE,zZ,qn1,z7,qn2,zX,ETy.dflt,qn3,qn4,Int.reduceToNat,Int.reduceAdd,Int.reduceSub,Int.reduceNeg,Nat.reduceAdd,zD] at *
 all_goals rfl
def zPe:List AV->Option Res:=zOw (.pt yI) .arr2 .arr2 (fun o e f=>some (none,some (∀ x,o=some x->Good x),.s (.bool (match o with|some x=>apB x e f|none=>false))))
theorem zWl:qM Tryz.prog 17 zPe:=⟨zDZ fun o e f r h=>by
 cases h;cases o with
 | none=>exact qL (yN (fn:=[(55,zLo),(57,zMW),(56,zNP)]) (fr:=[]) ⟨zLw,zLu,zSP,trivial⟩ trivial) Tryz.func17 (by kernel_rfl) fun _ _=>zSY e.1 e.2 f.1 f.2
 | some x=>exact qL (yN (fn:=[(55,zLo),(57,zMW),(56,zNP)]) (fr:=[]) ⟨zLw,zLu,zSP,trivial⟩ trivial) Tryz.func17 (by kernel_rfl) fun _ h=>zUj x e.1 e.2 f.1 f.2 (h x rfl),_,Tryz.func17,by kernel_rfl,by kernel_rfl⟩
end S1
open Go Go.Vm Go.Proofs
namespace S1
def zYx (x:yI.T) (c:Nat):Option (Int×Int):=if zAI x c<0 then some (jR x c) else none
def zLv (x:yI.T):List (Int×Int):=(List.range (3*x.1.2.length)).filterMap (zYx x)
def z6g (o:Option yI.T):List (Int×Int):=onO o [] zLv
def zYX (x:yI.T):Spec Nat where
 inv k:=k<=3*x.1.2.length
 live k:=[(10,.s (.int .i64 k)),(3,.s (.own 1 0 ((List.range k).filterMap (zYx x)).length))]
 keep:=[0,9]
 heap k:=[(1,.row .arr2 33 ((List.range k).filterMap (zYx x)))]
 keepH:=[0]
 mu k:=3*x.1.2.length - k
theorem z0j (x:yI.T) (g:Good x):zAG ⟨tyL,[(74,zB3),(37,zSa),(77,zLK)],[]⟩ Tryz.f99 [(ETy.pt yI).av (some x)] (fun r=>r= .s (.sl .arr2 (zLv x))):=by
 have hl:x.1.2.length<=8192:=g.fit.2.2.1
 repeat' (conv=>whnf
          first|done|refine qN ?_|apply qH|refine qG fun _=> ?_|apply qB|apply qa|apply qo|refine qe (fun _=> ?_) (fun _=> ?_)|refine qn (fun _=> ?_) (fun _=> ?_)|refine qd (fun _=> ?_) (fun _=> ?_)|apply qt|refine qi (fun _=> ?_) (fun _=> ?_)|(refine zaB 5 rfl (zYX x) (0) ?_ ?_ ?_ fun k hk=> ?_)|with_reducible refine zaA (zYX _) (k+1) ?_ ?_ ?_ ?_|refine zA rfl ?_|apply qE|apply qO|exact zO|apply qq|apply qs|refine qK (by kernel_rfl) ?_|apply qr)
 all_goals try first|refine qz ?_|apply qz5
 all_goals try simp only [z6,zS,yE,zZ,qn1,z7,qn2,zX,ETy.dflt,qn3,qn4,Int.reduceToNat,Int.reduceAdd,Int.reduceSub,Int.reduceNeg,Nat.reduceAdd,zD,zYX] at *
 all_goals try first|(refine yJ.intro ?_;omega)|(refine yJ.intro ?_;have:=zC7 (zYx x) k;omega)
 ·exact yJ.intro (show (k:Int)<=1000000 by omega)
 ·exact yJ.intro (show (k:Int)<=1000000 by omega)
 ·rename_i h;rw [q9,zYx,if_pos h,zN];rfl
 ·rename_i h;rw [q9];conv=>lhs;rhs;rw [zYx,if_pos h]
  rfl
 ·rename_i h;rw [q9];conv=>lhs;rhs;rhs;rw [zYx,if_neg h]
  simp
 ·rename_i h;rw [q9];conv=>lhs;rhs;rw [zYx,if_neg h]
  simp
 ·have e:k=3*x.1.2.length:=by omega
  rw [e];rfl
theorem zXE:zAG ⟨tyL,[(74,zB3),(37,zSa),(77,zLK)],[]⟩ Tryz.f99 [(ETy.pt yI).av none] (fun r=>r= .s (.sl .arr2 [])):=by
 repeat' (conv=>whnf
          first|done|refine qN ?_|apply qH|refine qG fun _=> ?_|apply qB|apply qa|apply qo|refine qe (fun _=> ?_) (fun _=> ?_)|refine qn (fun _=> ?_) (fun _=> ?_)|refine qd (fun _=> ?_) (fun _=> ?_)|apply qt|refine qi (fun _=> ?_) (fun _=> ?_)|refine zA rfl ?_|apply qE|apply qO|exact zO|apply qq|apply qs|refine qK (by kernel_rfl) ?_|apply qr)
 all_goals try first|refine qz ?_|apply qz5
 all_goals try simp only [z6,zS,yE,zZ,qn1,z7,qn2,zX,ETy.dflt,qn3,qn4,Int.reduceToNat,Int.reduceAdd,Int.reduceSub,Int.reduceNeg,Nat.reduceAdd,zD] at *
 rfl
def zIq:List AV->Option Res:=zEz (.pt yI) (fun o=>some (none,some (∀ x,o=some x->Good x),.s (.sl .arr2 (z6g o))))
theorem zLe:qM Tryz.prog 99 zIq:=⟨zA1 fun o r h=>by
 cases h;cases o with
 | none=>exact qL (yN (fn:=[(74,zB3),(37,zSa),(77,zLK)]) (fr:=[]) ⟨zE5,zKP,zMb,trivial⟩ trivial) Tryz.func99 (by kernel_rfl) fun _ _=>zXE
 | some x=>exact qL (yN (fn:=[(74,zB3),(37,zSa),(77,zLK)]) (fr:=[]) ⟨zE5,zKP,zMb,trivial⟩ trivial) Tryz.func99 (by kernel_rfl) fun _ h=>z0j x (h x rfl),_,Tryz.func99,by kernel_rfl,by kernel_rfl⟩
abbrev NxM:=List ((ETy.int .i64).T×(ETy.int .i64).T)
def z3g (es:List (Int×Int)) (k:Nat):NxM:=qA (fun m j=>zAB (.int .i64) m (es.getD j (0,0)).2 (es.getD j (0,0)).1) [] k
def zBm (o:Option yI.T):NxM:=z3g (z6g o) (z6g o).length
def zUy (es:List (Int×Int)):Spec Nat where
 inv k:=k<=es.length
 live k:=[(10,.s (.int .i64 k))]
 keep:=[3,8,9]
 heap k:=[(0,.map y8 y8 (z3g es k))]
 keepH:=[]
 mu k:=es.length - k
theorem zVv (o:Option yI.T) (hg: ∀ x,o=some x->Good x):zAG ⟨tyL,[(99,zIq)],[]⟩ Tryz.f127 [(ETy.pt yI).av o] (fun r=>r= .s (.mp y8 y8 (zBm o))):=by
 repeat' (conv=>whnf
          first|done|refine qN ?_|apply qH|refine qG fun _=> ?_|apply qB|apply qa|apply qo|refine qe (fun _=> ?_) (fun _=> ?_)|refine qn (fun _=> ?_) (fun _=> ?_)|refine qd (fun _=> ?_) (fun _=> ?_)|apply qt|refine qi (fun _=> ?_) (fun _=> ?_)|(refine zaB 3 rfl (zUy (z6g o)) (0) ?_ ?_ ?_ fun k hk=> ?_)|with_reducible refine zaA (zUy _) (k+1) ?_ ?_ ?_ ?_|refine zA rfl ?_|apply qE|apply qO|exact zO|apply qq|apply qs|refine qK (by kernel_rfl) ?_|apply qr)
 all_goals try first|refine qz ?_|apply qz5
 all_goals try simp only [z6,zS,yE,zZ,qn1,z7,qn2,zX,ETy.dflt,qn3,qn4,Int.reduceToNat,Int.reduceAdd,Int.reduceSub,Int.reduceNeg,Nat.reduceAdd,zD,zUy] at *
 all_goals try (refine yJ.intro ?_;omega)
 ·have e:k=(z6g o).length:=by omega
  rw [e];exact y9.intro rfl
def zIt:List AV->Option Res:=zEz (.pt yI) (fun o=>some (none,some (∀ x,o=some x->Good x),.s (.mp y8 y8 (zBm o))))
theorem zNe:qM Tryz.prog 127 zIt:=⟨zA1 fun o r h=>by cases h;exact qL (yN (fn:=[(99,zIq)]) (fr:=[]) ⟨zLe,trivial⟩ trivial) Tryz.func127 (by kernel_rfl) fun _ h=>zVv o h,_,Tryz.func127,by kernel_rfl,by kernel_rfl⟩
theorem z43 {fn} (o:Option yI.T) (v:Int):zAG ⟨tyL,fn,[]⟩ Tryz.f87 [(ETy.pt yI).av o,y8.av v] (fun r=>r= .s (.clo 126 [⟨.pt yI,o⟩,⟨y8,v⟩])):=by
 repeat' (conv=>whnf
          first|done|refine qN ?_|apply qH|refine qG fun _=> ?_|apply qB|apply qa|apply qo|refine qe (fun _=> ?_) (fun _=> ?_)|refine qn (fun _=> ?_) (fun _=> ?_)|refine qd (fun _=> ?_) (fun _=> ?_)|apply qt|refine qi (fun _=> ?_) (fun _=> ?_)|refine zA rfl ?_|apply qE|apply qO|exact zO|apply qq|apply qs|refine qK (by kernel_rfl) ?_|apply qr)
 all_goals try first|refine qz ?_|apply qz5
 all_goals try simp only [z6,zS,yE,zZ,qn1,z7,qn2,zX,ETy.dflt,qn3,qn4,Int.reduceToNat,Int.reduceAdd,Int.reduceSub,Int.reduceNeg,Nat.reduceAdd,zD] at *
def zUx:List AV->Option Res:=zCr (.pt yI) y8 (fun o v=>some (none,none,.s (.clo 126 [⟨.pt yI,o⟩,⟨y8,v⟩])))
theorem zU4:qM Tryz.prog 87 zUx:=⟨jD fun o v r h=>by cases h;exact qL (yN (fn:=[]) (fr:=[]) trivial trivial) Tryz.func87 (by kernel_rfl) fun _ _=>z43 o v,_,Tryz.func87,by kernel_rfl,by kernel_rfl⟩
def nxt (m:NxM) (u:Int):Int:=(jS y8 m u).getD 0
def zD7 (m:NxM) (v:Int):Nat->Int->List Int
 | 0,_=>[]
 | n+1,u=>if u=v then [] else u::zD7 m v n (nxt m u)
def zA7 (o:Option yI.T) (v:Int):List Int:=if (jS y8 (zBm o) v).isSome then v::zD7 (zBm o) v 10000 (nxt (zBm o) v) else []
end S1
open Go Go.Vm Go.Proofs
namespace S1
section
variable {x:yI.T}
theorem zGJ {e:Int×Int} :e∈zLv x↔bE x e.1 e.2:=by
 unfold zLv;rw [List.mem_filterMap];constructor
 ·rintro ⟨c,hc,h⟩;have hc:=zV.1 hc;unfold zYx at h;split at h
  ·rename_i ho;cases h;exact ⟨c,yH.2 ⟨by omega,by omega⟩,ho,rfl⟩
  ·cases h
 ·rintro ⟨c,h1,h2,h3⟩;have hc:=yH.1 h1;have e1:((c.toNat:Nat):Int)=c:=by omega
  refine ⟨c.toNat,zV.2 (by omega),?_⟩;unfold zYx;rw [e1,if_pos h2,h3]
end
theorem zSB (es:List (Int×Int)) (u:Int): ∀ k,(∀ w,jS y8 (z3g es k) u=some w->∃ j,j<k/\es.getD j (0,0)=(w,u))/\((∃ j,j<k/\(es.getD j (0,0)).2=u)->(jS y8 (z3g es k) u).isSome=true)
 | 0=>⟨fun w h=>(by cases h),fun ⟨j,h,_⟩=>by omega⟩
 | k + 1=>by
   obtain ⟨h1,h2⟩:=zSB es u k;have e:z3g es (k+1)=zAB y8 (z3g es k) (es.getD k (0,0)).2 (es.getD k (0,0)).1:=rfl;rw [e]
   by_cases he:(es.getD k (0,0)).2=u
   ·rw [he,zAT];exact ⟨fun w hw=>⟨k,by omega,by injection hw with hw;exact Prod.ext hw he⟩,fun _=>rfl⟩
   ·rw [zA4 _ he];refine ⟨fun w hw=> ?_,fun ⟨j,hj,hju⟩=>h2 ⟨j,?_,hju⟩⟩
    ·obtain ⟨j,hj,e⟩:=h1 w hw;exact ⟨j,by omega,e⟩
    ·by_cases e:j=k
     ·subst e;exact absurd hju he
     ·omega
theorem zFQ {x:yI.T} (g:Full x) {w u:Int} :jS y8 (zBm (some x)) u=some w↔bE x w u:=by
 obtain ⟨h1,h2⟩:=zSB (zLv x) u (zLv x).length
 have mem: ∀ j,j<(zLv x).length->(zLv x).getD j (0,0)∈zLv x:=fun j hj=>by
  rw [zR,zG hj];exact yQ hj
 have fw: ∀ w,jS y8 (zBm (some x)) u=some w->bE x w u:=fun w h=>by
  obtain ⟨j,hj,e⟩:=h1 w h;have:=zGJ.1 (mem j hj);rw [e] at this;exact this
 refine ⟨fw w,fun h=> ?_⟩;obtain ⟨j,hj,e⟩:=yG.1 ((zGJ (x:=x) (e:=(w,u))).2 h);have:=h2 ⟨j,hj,by rw [zR,zG hj];show ((zLv x)[j]).2=u;rw [e]⟩;have e3:zBm (some x)=z3g (zLv x) (zLv x).length:=rfl;rw [<- e3] at this;cases h4:jS y8 (zBm (some x)) u with
 | none=>rw [h4] at this;cases this
 | some w'=>rw [zWo g h (fw w' h4)]
theorem zDd {x:yI.T} (g:Full x) {w u:Int} (h:bE x w u):nxt (zBm (some x)) u=w:=by
 unfold nxt;rw [(zFQ g).2 h];rfl
theorem zRm {x:yI.T} (g:Full x) {v:Int} (hv: ∃ w,bE x w v) {k:Nat} (h: ∀ j,1<=j->j<=k->iter (nxt (zBm (some x))) v j≠v):k<=4096:=by
 have key: ∀ j,∃ w,bE x w (iter (nxt (zBm (some x))) v j):=fun j=>by
  induction j with
  | zero=>exact hv
  | succ j ih =>
    obtain ⟨w,hw⟩:=ih;show ∃ w,bE x w (nxt (zBm (some x)) (iter (nxt (zBm (some x))) v j));rw [zDd g hw];exact zCo g hw
 let f:Int->Int:=fun u=>(jS y8 (zBm (some x)) u).getD (-1)
 have hf: ∀ j,iter f v j=iter (nxt (zBm (some x))) v j:=fun j=>by
  induction j with
  | zero=>rfl
  | succ j ih =>
    obtain ⟨w,hw⟩:=key j;show f (iter f v j)=nxt _ _;rw [ih,zDd g hw];show (jS y8 (zBm (some x)) _).getD (-1)=w;rw [(zFQ g).2 hw];rfl
 have fsome: ∀ c,0<=f c->bE x (f c) c:=fun c hc=>by
  cases e:jS y8 (zBm (some x)) c with
  | none => have:f c= -1:=by show (jS y8 (zBm (some x)) c).getD (-1)= -1;rw [e];rfl
            omega
  | some w =>
    have:f c=w:=by show (jS y8 (zBm (some x)) c).getD (-1)=w;rw [e];rfl
    rw [this];exact (zFQ g).1 e
 have hn:=g.fit
 have:=pig (f:=f) (L:=x.1.1.toNat) (c:=v) (k:=k) (fun c hc=>by have:=(zJf g (fsome c hc)).1;omega) (fun a b ha e=>by
  have k1:=fsome a ha;have k2:=fsome b (by omega);rw [<- e] at k2
  exact zHi g k1 k2) (fun j h1 h2=>by
  rw [hf];obtain ⟨w,hw⟩:=key j
  exact ⟨(zJf g hw).2.1.1,h j h1 h2⟩)
 have h1:x.1.1<=4096:=hn.2.1;have h2:x.1.1.toNat<=4096:=Int.toNat_le_toNat h1;exact Nat.le_trans this h2
theorem zHl {x:yI.T} (g:Full x) {v:Int} (hv: ∃ w,bE x w v): ∀ j,∃ w,bE x w (iter (nxt (zBm (some x))) v j)
 | 0=>hv
 | j+1=>by
   obtain ⟨w,hw⟩:=zHl g hv j;show ∃ w,bE x w (nxt (zBm (some x)) (iter (nxt (zBm (some x))) v j));rw [zDd g hw];exact zCo g hw
end S1
open Go Go.Vm Go.Proofs
namespace S1
theorem zEn {m:NxM} {v u:Int} {k:Nat} (h:k<=4096):zD7 m v (10000 - k) u=if u=v then [] else u::zD7 m v (10000 - (k+1)) (nxt m u):=by
 rw [show 10000 - k=(10000 - (k+1))+1 by omega];rfl
def zWR (m:NxM) (v:Int):Spec Nat where
 inv k:=(∀ j,1<=j->j<=k->iter (nxt m) v j≠v)/\(zD7 m v 10000 (nxt m v)).drop k=zD7 m v (10000 - k) (iter (nxt m) v (k+1))
 live k:=[(5,.s (.int .i64 (iter (nxt m) v (k+1))))]
 keep:=[0,1,2,4]
 heap _:=[]
 keepH:=[]
 mu k:=10000 - k
theorem z0K (x:yI.T) (v:Int) (g:Full x):zQ0 ⟨tyL,[(127,zIt)],[]⟩ Tryz.f126 [⟨.pt yI,some x⟩,⟨y8,v⟩] (zA7 (some x) v):=by
 repeat' (conv=>whnf
          first|done|refine qN ?_|apply qH|refine qG fun _=> ?_|apply qB|apply qa|apply qo|refine qe (fun _=> ?_) (fun _=> ?_)|refine qn (fun _=> ?_) (fun _=> ?_)|refine qd (fun _=> ?_) (fun _=> ?_)|apply qt|refine qi (fun _=> ?_) (fun _=> ?_)|refine (fun (l:Nat)=> ?_)|refine zB Nat (zB (zWR (zBm (some x)) v) (zB (fun k=>v::(zD7 (zBm (some x)) v 10000 (nxt (zBm (some x)) v)).take k) (zA (zB 0 (zA (yJ.out ?_) (zA (zAp.out ?_) (zA ?_ (zA ?_ rfl))))) (fun k hk=> ?_))))|((with_reducible show (∃ y,And (Spec.inv (zWR _ _) y) _));refine zB (k+1) (zA (yJ.out ?_) (zA (zAp.out ?_) (zA (zA ?_ (zA ?_ rfl)) (yJ.out ?_)))))|refine zA (yJ.out (p:=(_++[_]) <+: _) ?_) ?_|refine zAp.out ?_|refine zA rfl ?_|apply qE|apply qO|exact zO|apply qq|apply qs|refine qK (by kernel_rfl) ?_|apply qr)
 all_goals try first|refine qz ?_|apply qz5
 all_goals try simp only [z6,zS,yE,zZ,qn1,z7,qn2,zX,ETy.dflt,qn3,qn4,Int.reduceToNat,Int.reduceAdd,Int.reduceSub,Int.reduceNeg,Nat.reduceAdd,zD,zWR] at *
 ·exact yJ.intro (fun y h=>by cases h;exact g.toGood)
 all_goals try
  have hsome:(jS y8 (zBm (some x)) v).isSome=true:=by assumption
 all_goals try
  have hw: ∃ w,bE x w v:=by
   cases e:jS y8 (zBm (some x)) v with
   | none=>rw [e] at hsome;cases hsome
   | some w=>exact ⟨w,(zFQ g).1 e⟩
 all_goals try have hL:zA7 (some x) v=v::zD7 (zBm (some x)) v 10000 (nxt (zBm (some x)) v):=by unfold zA7;rw [if_pos hsome]
 ·rw [hL];exact yJ.intro ⟨_,rfl⟩
 ·exact yJ.intro ⟨fun j a b=>by omega,rfl⟩
 ·exact zAp.intro rfl
 all_goals try have h24:=zRm g hw hk.1
 ·have hne:iter (nxt (zBm (some x))) v (k+1)≠v:=by assumption
  rw [hL];have:=hk.2;rw [zEn h24,if_neg hne] at this;exact yJ.intro (zQp (L:=v::zD7 (zBm (some x)) v 10000 (nxt (zBm (some x)) v)) (k:=k+1) this)
 ·have hne:iter (nxt (zBm (some x))) v (k+1)≠v:=by assumption
  have:=hk.2;rw [zEn h24,if_neg hne] at this;refine yJ.intro ⟨fun j a b=> ?_,(zDA this).2⟩
  by_cases e:j=k+1
  ·subst e;exact hne
  ·exact hk.1 j a (by omega)
 ·have hne:iter (nxt (zBm (some x))) v (k+1)≠v:=by assumption
  have:=hk.2;rw [zEn h24,if_neg hne] at this;exact zAp.intro (by rw [(zDA this).1];rfl)
 ·refine yJ.intro ?_;omega
 ·have he:iter (nxt (zBm (some x))) v (k+1)=v:=by assumption
  have:=hk.2;rw [zEn h24,if_pos he] at this;rw [hL];refine zAp.intro ?_;have h2:=jE k (zD7 (zBm (some x)) v 10000 (nxt (zBm (some x)) v));rw [this,List.append_nil] at h2;rw [h2]
 ·rename_i hn;refine zAp.intro ?_;unfold zA7;have hn:(jS y8 (zBm (some x)) v).isSome=false:=hn;rw [if_neg (by rw [hn];simp)]
theorem zW5 (v:Int):zQ0 ⟨tyL,[(127,zIt)],[]⟩ Tryz.f126 [⟨.pt yI,none⟩,⟨y8,v⟩] (zA7 none v):=by
 repeat' (conv=>whnf
          first|done|refine qN ?_|apply qH|refine qG fun _=> ?_|apply qB|apply qa|apply qo|refine qe (fun _=> ?_) (fun _=> ?_)|refine qn (fun _=> ?_) (fun _=> ?_)|refine qd (fun _=> ?_) (fun _=> ?_)|apply qt|refine qi (fun _=> ?_) (fun _=> ?_)|refine (fun (l:Nat)=> ?_)|refine zAp.out ?_|refine zA rfl ?_|apply qE|apply qO|exact zO|apply qq|apply qs|refine qK (by kernel_rfl) ?_|apply qr)
 all_goals try first|refine qz ?_|apply qz5
 all_goals try simp only [z6,zS,yE,zZ,qn1,z7,qn2,zX,ETy.dflt,qn3,qn4,Int.reduceToNat,Int.reduceAdd,Int.reduceSub,Int.reduceNeg,Nat.reduceAdd,zD] at *
 ·exact yJ.intro (fun y h=>by cases h)
 ·exact zAp.intro rfl
theorem zRb {x:yI.T} (g:Full x) {v:Int} : ∀ n u,(∃ w,bE x w u)->∀ a∈zD7 (zBm (some x)) v n u,0<=a/\a<x.1.1
 | 0,u,_,a,h=>by cases h
 | n + 1,u,⟨w,hw⟩,a,h=>by
   unfold zD7 at h;split at h
   ·cases h
   ·rcases zT.1 h with e|h
    ·rw [e];exact (zJf g hw).2.1
    ·rw [zDd g hw] at h;exact zRb g n w (zCo g hw) a h
theorem z0D {x:yI.T} (g:Full x) {v:Int} : ∀ a∈zA7 (some x) v,0<=a/\a<x.1.1:=fun a h=>by
 unfold zA7 at h;split at h
 ·rename_i hs
  obtain ⟨w,hw⟩: ∃ w,bE x w v:=by
   cases e:jS y8 (zBm (some x)) v with
   | none=>rw [e] at hs;cases hs
   | some w=>exact ⟨w,(zFQ g).1 e⟩
  rcases zT.1 h with e|h
  ·rw [e];exact (zJf g hw).2.1
  ·rw [zDd g hw] at h;exact zRb g _ w (zCo g hw) a h
 ·cases h
theorem z0T {x:yI.T} (g:Full x) (v:Int): ∀ a∈zA7 (some x) v,InK .i64 a:=fun a h=>by
 have h1:=z0D g a h;have h2:x.1.1<=4096:=g.fit.2.1;have h3:a<=4096:=Int.le_trans (Int.le_of_lt h1.2) h2;exact InK.i64.2 (by unfold yP;omega)
def z8J:zDE:=fun f ps L=>f=126/\∃ (o:Option yI.T) (v:Int),ps=[⟨.pt yI,o⟩,⟨y8,v⟩]/\(∀ x,o=some x->Full x)/\L=zA7 o v
theorem zW7:zDb Tryz.prog z8J:=fun f ps L h=>by
 obtain ⟨rfl,o,v,rfl,hg,rfl⟩:=h;cases o with
 | none=>exact seq_ok (yN (fn:=[(127,zIt)]) (fr:=[]) ⟨zNe,trivial⟩ trivial) Tryz.func126 rfl (by kernel_rfl) rfl (by kernel_rfl) (zU rfl) (fun a h=>by cases h) fun _=>zW5 v
 | some x=>exact seq_ok (yN (fn:=[(127,zIt)]) (fr:=[]) ⟨zNe,trivial⟩ trivial) Tryz.func126 rfl (by kernel_rfl) rfl (by kernel_rfl) (zU rfl) (z0T (hg x rfl) v) fun _=>z0K x v (hg x rfl)
theorem zUY {o:Option yI.T} {v:Int} :(zA7 o v).length<=10001:=by
 have key: ∀ n u,(zD7 (zBm o) v n u).length<=n:=fun n=>by
  induction n with
  | zero=>exact fun u=>zI _
  | succ n ih =>
    intro u;unfold zD7;split
    ·exact Nat.zero_le _
    ·have:=ih (nxt (zBm o) u);rw [yA];omega
 unfold zA7;split
 ·have:=key 10000 (nxt (zBm o) v);rw [yA];omega
 ·exact Nat.zero_le _
def z2H (L:List Int):Spec Nat where
 inv _:=True
 live _:=[]
 keep:=[1,2,4]
 heap k:=[(0,.flat 54 [.own 2 0 k]),(2,.row y8 3 (L.take k))]
 keepH:=[1,3]
 mu _:=0
theorem z62 (o:Option yI.T) (v:Int) (hg: ∀ x,o=some x->Full x):zH7 ⟨tyL,[],[]⟩ z8J Tryz.f125 [.s (.val (.slice none 0 0)),.s (.clo 126 [⟨.pt yI,o⟩,⟨y8,v⟩])] (fun r=>r= .s (.sl y8 (zA7 o v))):=by
 have hlen:=zUY (o:=o) (v:=v)
 repeat' (conv=>whnf
          first|done|refine qN ?_|apply qH|refine qG fun _=> ?_|apply qB|apply qa|apply qo|refine qe (fun _=> ?_) (fun _=> ?_)|refine qn (fun _=> ?_) (fun _=> ?_)|refine qd (fun _=> ?_) (fun _=> ?_)|apply qt|refine qi (fun _=> ?_) (fun _=> ?_)|refine zB (zA7 o v) (zA (yJ.out ?_) (zB (z2H (zA7 o v)) ?_))|(refine zA (fun X=> ?_) (fun X=> ?_))|(refine zA (zA ?_ (zA ?_ rfl)) (fun k hk=> ?_))|(refine zA ?_ (zA ?_ rfl))|refine zA rfl ?_|apply qE|apply qO|exact zO|apply qq|apply qs|refine qK (by kernel_rfl) ?_|apply qr)
 all_goals try first|refine qz ?_|apply qz5
 all_goals try simp only [z6,zS,yE,zZ,qn1,z7,qn2,zX,ETy.dflt,qn3,qn4,Int.reduceToNat,Int.reduceAdd,Int.reduceSub,Int.reduceNeg,Nat.reduceAdd,zD,z2H] at *
 ·exact yJ.intro ⟨rfl,o,v,rfl,hg,rfl⟩
 ·refine yJ.intro ?_;omega
 ·rw [List.drop_zero,List.take_take,Nat.min_self,yB hk,zR,zG hk];rfl
 ·rw [List.drop_zero,List.take_length,List.take_length]
def z5P (f:List AV):Option ((Option yI.T)×Int) :=
 match f with
 | [.s (.clo f [⟨.pt (.pair (.pair (.int .i64) (.sl .arr3)) (.pair (.mp .arr2 (.int .i64)) (.sl (.int .i64)))),o⟩,⟨.int .i64,v⟩])]=>match Nat.beq f 126 with
   | true=>some (o,v)
   | false=>none
 | _=>none
theorem zQn {l:List AV} {o:Option yI.T} {v:Int} (h:z5P l=some (o,v)):l=[.s (.clo 126 [⟨.pt yI,o⟩,⟨y8,v⟩])]:=by
 unfold z5P at h;split at h
 ·split at h
  ·rename_i e;cases h;rw [zH e]
  ·cases h
 ·cases h
def zLx (f:List AV):Option Res:=match z5P f with
 | some (o,v)=>some (none,some (∀ x,o=some x->Full x),.s (.sl y8 (zA7 o v)))
 | none=>none
def z8O:List AV->Option Res
 | .s (.val (.slice none 0 0))::f=>zLx f
 | _=>none
theorem z7P:qM Tryz.prog 125 z8O:=⟨fun args r h=>by
 unfold z8O at h;split at h
 case h_2=>cases h
 unfold zLx at h;split at h
 case h_2=>cases h
 rename_i he;rw [zQn he];cases h
 exact zHL (yN (fn:=[]) (fr:=[]) trivial trivial) zW7 Tryz.func125 rfl (by kernel_rfl) (zU rfl) fun _ h=>z62 _ _ h,_,Tryz.func125,by kernel_rfl,by kernel_rfl⟩
theorem z7e (o:Option yI.T) (v:Int) (hg: ∀ x,o=some x->Full x):zAG ⟨tyL,[(125,z8O)],[]⟩ Tryz.f86 [.s (.clo 126 [⟨.pt yI,o⟩,⟨y8,v⟩])] (fun r=>r= .s (.sl y8 (zA7 o v))):=by
 repeat' (conv=>whnf
          first|done|refine qN ?_|apply qH|refine qG fun _=> ?_|apply qB|apply qa|apply qo|refine qe (fun _=> ?_) (fun _=> ?_)|refine qn (fun _=> ?_) (fun _=> ?_)|refine qd (fun _=> ?_) (fun _=> ?_)|apply qt|refine qi (fun _=> ?_) (fun _=> ?_)|refine zA rfl ?_|apply qE|apply qO|exact zO|apply qq|apply qs|refine qK (by kernel_rfl) ?_|apply qr)
 all_goals try first|refine qz ?_|apply qz5
 all_goals try simp only [z6,zS,yE,zZ,qn1,z7,qn2,zX,ETy.dflt,qn3,qn4,Int.reduceToNat,Int.reduceAdd,Int.reduceSub,Int.reduceNeg,Nat.reduceAdd,zD] at *
 all_goals exact yJ.intro hg
def z5x:List AV->Option Res:=zLx
theorem z2O:qM Tryz.prog 86 z5x:=⟨fun args r h=>by
 unfold z5x zLx at h;split at h
 case h_2=>cases h
 rename_i he;rw [zQn he];cases h
 exact qL (yN (fn:=[(125,z8O)]) (fr:=[]) ⟨z7P,trivial⟩ trivial) Tryz.func86 (by kernel_rfl) fun _ h=>z7e _ _ h,_,Tryz.func86,by kernel_rfl,by kernel_rfl⟩
abbrev LpS:=ReM×List (List Int)
def lpI (x:yI.T) (s:LpS) (v:Nat):LpS :=
 if had s.1 v=true then s else ((zA7 (some x) v).foldl (fun m u=>zAB (.int .i64) m u true) s.1,if (zA7 (some x) v).length>0 then s.2++[zA7 (some x) v] else s.2)
def lpS (x:yI.T) (i:Nat):LpS:=qA (lpI x) ([],[]) i
def qW (x:yI.T):List (List Int):=(lpS x x.1.1.toNat).2
def z2U (o:Option yI.T):List (List Int):=onO o [] qW
def zYi (x:yI.T):Spec Nat where
 inv k:=(k:Int)<=x.1.1
 live k:=[(13,.s (.int .i64 k)),(3,.s (.own 1 0 (lpS x k).2.length))]
 keep:=[0,2,4,12]
 heap k:=[(1,.row (.sl y8) 54 (lpS x k).2),(2,.map y8 .bool (lpS x k).1)]
 keepH:=[0,3]
 mu k:=x.1.1.toNat - k
theorem z5d {x:yI.T} {k:Nat} (h:had (lpS x k).1 k=true):lpS x (k+1)=lpS x k:=by
 show lpI x (lpS x k) k=_;unfold lpI;rw [if_pos h]
theorem zOV {x:yI.T} {k:Nat} (h:had (lpS x k).1 k=false):lpS x (k+1)=((zA7 (some x) k).foldl (fun m u=>zAB (.int .i64) m u true) (lpS x k).1,if (zA7 (some x) k).length>0 then (lpS x k).2++[zA7 (some x) k] else (lpS x k).2):=by
 show lpI x (lpS x k) k=_;unfold lpI;rw [if_neg (by rw [h];simp)]
theorem zPX (x:yI.T): ∀ k,(lpS x k).2.length<=k
 | 0=>zI _
 | k +1=>by
   have ih:=zPX x k;cases h:had (lpS x k).1 k with
   | true=>rw [z5d h];omega
   | false =>
     rw [zOV h];show (if _ then _ else _:List (List Int)).length<=_;split
     ·rw [zN,List.length_singleton];omega
     ·omega
def zRZ (m:ReM) (l:List Int):ReM:=l.foldl (fun m u=>zAB (.int .i64) m u true) m
def z2o (m:ReM) (L:List Int):Spec Nat where
 inv _:=True
 live _:=[]
 keep:=[0,2,3,4,5,6,12,13]
 heap k:=[(2,.map y8 .bool (zRZ m (L.take k)))]
 keepH:=[0,1,3,4]
 mu _:=0
theorem z1A (x:yI.T) (g:Full x):zH7 ⟨tyL,[(85,zBn),(87,zUx),(86,z5x)],[]⟩ z8J Tryz.f45 [(ETy.pt yI).av (some x)] (fun r=>r= .s (.sl (.sl y8) (qW x))):=by
 repeat' (conv=>whnf
          first|done|refine qN ?_|apply qH|refine qG fun _=> ?_|apply qB|apply qa|apply qo|refine qe (fun _=> ?_) (fun _=> ?_)|refine qn (fun _=> ?_) (fun _=> ?_)|refine qd (fun _=> ?_) (fun _=> ?_)|apply qt|refine qi (fun _=> ?_) (fun _=> ?_)|refine zB (Nat) (zB (zYi x) (zA (zB (0) (zA (yJ.out ?_) (zA ?_ (zA ?_ rfl)))) (fun k hk=> ?_)))|with_reducible refine zaA (zYi _) (k+1) ?_ ?_ ?_ ?_|refine zB (zA7 (some x) k) (zA (yJ.out ?_) (zB (z2o (lpS x k).1 (zA7 (some x) k)) ?_))|(refine zA (fun X=> ?_) (fun X=> ?_))|(refine zA (zA ?_ (zA ?_ rfl)) (fun j hj=> ?_))|(refine zA ?_ (zA ?_ rfl))|refine zA rfl ?_|apply qE|apply qO|exact zO|apply qq|apply qs|refine qK (by kernel_rfl) ?_|apply qr)
 all_goals try first|refine qz ?_|apply qz5
 all_goals try simp only [z6,zS,yE,zZ,qn1,z7,qn2,zX,ETy.dflt,qn3,qn4,Int.reduceToNat,Int.reduceAdd,Int.reduceSub,Int.reduceNeg,Nat.reduceAdd,zD,zYi,z2o] at *
 all_goals have hn: @LE.le Int _ x.1.1 4096:=g.fit.2.1
 all_goals have h0: @LE.le Int _ 0 x.1.1:=g.fit.1
 all_goals try (refine yJ.intro ?_;first|omega|(unfold yP;omega))
 all_goals try have hlen:=zPX x k
 all_goals try
  have ht:had (lpS x k).1 k=true:=by assumption
  have e:=z5d ht
  (first|(rw [e];done)|(rw [e]))
 all_goals try have hf:had (lpS x k).1 k=false:=by assumption
 ·exact yJ.intro (fun y h=>by cases h;exact g)
 ·exact yJ.intro ⟨rfl,some x,k,rfl,fun y h=>(by cases h;exact g),rfl⟩
 ·unfold zRZ;rw [yB hj,List.foldl_append,zR,zG hj];rfl
 ·refine yJ.intro ?_;omega
 ·have hp:((zA7 (some x) k).length:Int)>0:=by assumption
  rw [zOV hf,if_pos (by omega),zN];rfl
 ·have hp:((zA7 (some x) k).length:Int)>0:=by assumption
  rw [zOV hf,if_pos (by omega)]
 ·rw [zOV hf,List.take_length];rfl
 ·have hp: ¬ ((zA7 (some x) k).length:Int)>0:=by assumption
  rw [zOV hf,if_neg (by omega)]
 ·have hp: ¬ ((zA7 (some x) k).length:Int)>0:=by assumption
  rw [zOV hf,if_neg (by omega)]
 ·rw [zOV hf,List.take_length];rfl
 ·have e:k=x.1.1.toNat:=by omega
  rw [e];rfl
theorem zYW:zH7 ⟨tyL,[(85,zBn),(87,zUx),(86,z5x)],[]⟩ z8J Tryz.f45 [(ETy.pt yI).av none] (fun r=>r= .s (.sl (.sl y8) [])):=by
 repeat' (conv=>whnf
          first|done|refine qN ?_|apply qH|refine qG fun _=> ?_|apply qB|apply qa|apply qo|refine qe (fun _=> ?_) (fun _=> ?_)|refine qn (fun _=> ?_) (fun _=> ?_)|refine qd (fun _=> ?_) (fun _=> ?_)|apply qt|refine qi (fun _=> ?_) (fun _=> ?_)|refine zA rfl ?_|apply qE|apply qO|exact zO|apply qq|apply qs|refine qK (by kernel_rfl) ?_|apply qr)
 all_goals try first|refine qz ?_|apply qz5
 all_goals try simp only [z6,zS,yE,zZ,qn1,z7,qn2,zX,ETy.dflt,qn3,qn4,Int.reduceToNat,Int.reduceAdd,Int.reduceSub,Int.reduceNeg,Nat.reduceAdd,zD] at *
 rfl
def zUB:List AV->Option Res:=zEz (.pt yI) (fun o=>some (none,some (∀ x,o=some x->Full x),.s (.sl (.sl y8) (z2U o))))
theorem zZF:qM Tryz.prog 45 zUB:=⟨zA1 fun o r h=>by
 cases h;cases o with
 | none=>exact zHL (yN (fn:=[(85,zBn),(87,zUx),(86,z5x)]) (fr:=[]) ⟨zD0,zU4,z2O,trivial⟩ trivial) zW7 Tryz.func45 rfl (by kernel_rfl) (zU rfl) fun _ _=>zYW
 | some x=>exact zHL (yN (fn:=[(85,zBn),(87,zUx),(86,z5x)]) (fr:=[]) ⟨zD0,zU4,z2O,trivial⟩ trivial) zW7 Tryz.func45 rfl (by kernel_rfl) (zU rfl) fun _ h=>z1A x (h x rfl),_,Tryz.func45,by kernel_rfl,by kernel_rfl⟩
end S1
open Go Go.Vm Go.Proofs
namespace S1
abbrev nx (x:yI.T) (u:Int):Int:=nxt (zBm (some x)) u
structure zCA (x:yI.T) (L:List Int):Prop where
 ne:0<L.length
 cyc: ∀ i,i<L.length->bE x (L.getD ((i+1) % L.length) 0) (L.getD i 0)
 nd:L.Nodup
theorem zNI (m:NxM) (v:Int) {p:Nat} (hp:iter (nxt m) v p=v) (hl: ∀ j,1<=j->j<p->iter (nxt m) v j≠v): ∀ (r k n:Nat),k+1+r=p->r<n->zD7 m v n (iter (nxt m) v (k+1))=(List.range r).map fun j=>iter (nxt m) v (k+1+j)
 | 0,k,n,h1,h2=>by
   obtain ⟨n,rfl⟩: ∃ n',n=n'+1:=⟨n - 1,by omega⟩;unfold zD7;rw [show k+1=p by omega,if_pos hp];rfl
 | r+1,k,n,h1,h2=>by
   obtain ⟨n,rfl⟩: ∃ n',n=n'+1:=⟨n - 1,by omega⟩;unfold zD7;rw [if_neg (hl (k+1) (by omega) (by omega))];have:=zNI m v hp hl r (k+1) n (by omega) (by omega);show _::zD7 m v n (iter (nxt m) v (k+1+1))=_;rw [this,List.range_succ_eq_map,List.map_cons,List.map_map]
   congr 1
   refine List.map_congr_left fun j _=> ?_;show _=iter (nxt m) v (k+1+(j+1));rw [show k+1+1+j=k+1+(j+1) by omega]
theorem z6N {x:yI.T} (g:Full x) {u u':Int} (h: ∃ w,bE x w u) (h': ∃ w,bE x w u') (e:nx x u=nx x u'):u=u':=by
 obtain ⟨w,hw⟩:=h;obtain ⟨w',hw'⟩:=h';have e:nxt (zBm (some x)) u=nxt (zBm (some x)) u':=e;rw [zDd g hw,zDd g hw'] at e;subst e;exact zHi g hw hw'
theorem zI6 {x:yI.T} (g:Full x) {v:Int} (hv: ∃ w,bE x w v): ∀ i d,iter (nx x) v i=iter (nx x) v (i+d)->v=iter (nx x) v d
 | 0,d,h=>by rw [zD] at h;exact h
 | i+1,d,h=>by
   refine zI6 g hv i d (z6N g (zHl g hv i) (zHl g hv (i+d)) ?_);rw [show i+1+d=(i+d)+1 by omega] at h;exact h
theorem zPt {x:yI.T} (g:Full x) {v:Int} (hv: ∃ w,bE x w v): ∃ p,0<p/\iter (nx x) v p=v/\(∀ j,1<=j->j<p->iter (nx x) v j≠v)/\zA7 (some x) v=(List.range p).map fun j=>iter (nx x) v j:=by
 have hex: ∃ n,n<=4097/\(1<=n/\iter (nx x) v n=v):=by
  apply yF;intro h;have:=zRm g hv (k:=4097) fun j h1 h2 e=>h ⟨j,h2,h1,e⟩;omega
 obtain ⟨n,hn,h⟩:=hex;obtain ⟨p,⟨h1,h2⟩,h3,h4⟩:=exists_least (P:=fun n=>1<=n/\iter (nx x) v n=v) h;have hl: ∀ j,1<=j->j<p->iter (nx x) v j≠v:=fun j a b e=>h4 j b ⟨a,e⟩;refine ⟨p,h1,h2,hl,?_⟩;have:=zNI (zBm (some x)) v h2 hl (p - 1) 0 10000 (by omega) (by omega);obtain ⟨w,hw⟩:=hv;unfold zA7;rw [if_pos (by rw [(zFQ g).2 hw];rfl)];have e:zD7 (zBm (some x)) v 10000 (nxt (zBm (some x)) v)=_:=this;rw [e];obtain ⟨q,rfl⟩: ∃ q,p=q+1:=⟨p - 1,by omega⟩
 rw [List.range_succ_eq_map,List.map_cons,List.map_map];refine congrArg (v:: ·) ?_;show (List.range (q+1 - 1)).map _=_;rw [Nat.add_sub_cancel];refine List.map_congr_left fun j _=> ?_;show iter _ v (0+1+j)=iter _ v (j+1);rw [show 0+1+j=j+1 by omega]
theorem zRs {f:Nat->Int} {p i:Nat} (h:i<p):((List.range p).map f).getD i 0=f i:=by
 rw [zR,List.getElem?_map,List.getElem?_range h];rfl
theorem z5l {x:yI.T} (g:Full x) {v:Int} (hv: ∃ w,bE x w v):zCA x (zA7 (some x) v):=by
 obtain ⟨p,h1,h2,h3,e⟩:=zPt g hv;rw [e];have hlen:((List.range p).map fun j=>iter (nx x) v j).length=p:=by rw [yV,zAD]
 refine ⟨by rw [hlen];exact h1,fun i hi=> ?_,?_⟩
 ·rw [hlen] at hi ⊢;rw [zRs hi,zRs (Nat.mod_lt _ h1)];obtain ⟨w,hw⟩:=zHl g hv i
  have e1:iter (nx x) v ((i+1) % p)=nx x (iter (nx x) v i):=by
   by_cases hl:i+1<p
   ·rw [Nat.mod_eq_of_lt hl];rfl
   ·rw [show i+1=p by omega,Nat.mod_self];have:iter (nx x) v p=nx x (iter (nx x) v i):=by rw [show p=i+1 by omega];rfl
    rw [<- this,h2];rfl
  rw [e1];show bE x (nxt (zBm (some x)) (iter (nxt (zBm (some x))) v i)) _;rw [zDd g hw];exact hw
 ·have key: ∀ i j,i<j->j<p->iter (nx x) v i≠iter (nx x) v j:=fun i j h4 h5 e=>by
   have:=zI6 g hv i (j - i) (by rw [e];congr 1;omega);exact h3 (j - i) (by omega) (by omega) this.symm
  refine List.Pairwise.map _ (fun i j h=> ?_) (List.nodup_range (n:=p) |>.imp_of_mem (S:=fun i j=>i≠j/\i<p/\j<p) fun hi hj hn=>⟨hn,zV.1 hi,zV.1 hj⟩);obtain ⟨hn,hi,hj⟩:=h;rcases Nat.lt_or_gt_of_ne hn with hlt|hgt
  ·exact key i j hlt hj
  ·exact (key j i hgt hi).symm
theorem z3c {x:yI.T} (g:Full x) {v:Int} (hv: ¬ ∃ w,bE x w v):zA7 (some x) v=[]:=by
 unfold zA7;rw [if_neg];intro h;cases e:jS y8 (zBm (some x)) v with
 | none=>rw [e] at h;cases h
 | some w=>exact hv ⟨w,(zFQ g).1 e⟩
theorem zLa {L:List Int} {u:Int} (h:u∈L): ∃ i,i<L.length/\L.getD i 0=u:=by
 obtain ⟨i,hi,e⟩:=yG.1 h;exact ⟨i,hi,by rw [zR,zG hi];exact e⟩
section
variable {x:yI.T}
theorem zCA.bord {L:List Int} (h:zCA x L) {u:Int} (hu:u∈L): ∃ w,bE x w u:=by
 obtain ⟨i,hi,e⟩:=zLa hu;have:=h.cyc i hi;rw [e] at this;exact ⟨_,this⟩
theorem zCA.next {L:List Int} (h:zCA x L) (g:Full x) {u:Int} (hu:u∈L):nx x u∈L:=by
 obtain ⟨i,hi,e⟩:=zLa hu;have:=h.cyc i hi;rw [e] at this;show nxt (zBm (some x)) u∈L;rw [zDd g this];exact jB (Nat.mod_lt _ h.ne)
theorem zCA.iters {L:List Int} (h:zCA x L) (g:Full x) {u:Int} (hu:u∈L): ∀ k,iter (nx x) u k∈L
 | 0=>hu
 | k+1=>h.next g (h.iters g hu k)
theorem zYA (g:Full x) {v:Int} (hv: ∃ w,bE x w v) {L:List Int} (h:zCA x L) {u:Int} (h1:u∈zA7 (some x) v) (h2:u∈L):v∈L:=by
 obtain ⟨p,p1,p2,p3,e⟩:=zPt g hv;rw [e] at h1;obtain ⟨i,hi,rfl⟩:=yC.1 h1;have hi:=zV.1 hi;have:=h.iters g h2 (p - i);rw [zLt,show i+(p - i)=p by omega,p2] at this;exact this
theorem zXO (g:Full x) {v:Int} (hv: ∃ w,bE x w v):v∈zA7 (some x) v:=by
 obtain ⟨p,p1,p2,p3,e⟩:=zPt g hv;rw [e];exact yC.2 ⟨0,zV.2 p1,rfl⟩
theorem zLM (l:List Int): ∀ (m:ReM) (v:Int),had (l.foldl (fun m u=>zAB (.int .i64) m u true) m) v=true↔had m v=true\/v∈l:=by
 induction l with
 | nil=>intro m v;simp
 | cons a r ih =>
   intro m v;rw [List.foldl_cons,ih]
   by_cases e:a=v
   ·subst e
    have:had (zAB (.int .i64) m a true) a=true:=by
     show (jS (.int .i64) (zAB (.int .i64) m a true) a).getD false=true;rw [zAT];rfl
    simp [this]
   ·have:had (zAB (.int .i64) m a true) v=had m v:=by
     show (jS (.int .i64) (zAB (.int .i64) m a true) v).getD false=_;rw [zA4 _ e];rfl
    rw [this,zT];constructor
    ·rintro (h|h)
     ·exact .inl h
     ·exact .inr (.inr h)
    ·rintro (h|h|h)
     ·exact .inl h
     ·exact absurd h.symm e
     ·exact .inr h
structure Lps (x:yI.T) (Ls:List (List Int)) (k:Int):Prop where
 ok: ∀ L∈Ls,zCA x L
 nd:Ls.flatten.Nodup
 all: ∀ u,0<=u->u<k->(∃ w,bE x w u)->u∈Ls.flatten
theorem zUP (g:Full x): ∀ k,Lps x (lpS x k).2 k/\∀ u,had (lpS x k).1 u=true↔u∈(lpS x k).2.flatten
 | 0=>⟨⟨fun L h=>(by cases h),List.nodup_nil,fun u h1 h2 _=>by omega⟩,fun u=>⟨fun h=>(by cases h),fun h=>(by cases h)⟩⟩
 | k + 1 =>by
   obtain ⟨ih,ihm⟩:=zUP g k;cases hh:had (lpS x k).1 k with
   | true =>
     rw [z5d hh];refine ⟨⟨ih.ok,ih.nd,fun u h1 h2 h3=> ?_⟩,ihm⟩
     by_cases e:u=k
     ·rw [e];exact (ihm k).1 hh
     ·exact ih.all u h1 (by omega) h3
   | false =>
     rw [zOV hh]
     by_cases hv: ∃ w,bE x w (k:Int)
     ·have hw:=z5l g hv;rw [if_pos hw.ne]
      have hdis: ∀ u∈zA7 (some x) k,u∉(lpS x k).2.flatten:=fun u hu hf=>by
       obtain ⟨L,hL,huL⟩:=List.mem_flatten.1 hf;have:=zYA g hv (ih.ok L hL) hu huL;rw [(ihm k).2 (List.mem_flatten.2 ⟨L,hL,this⟩)] at hh;cases hh
      refine ⟨⟨fun L hL=> ?_,?_,fun u h1 h2 h3=> ?_⟩,fun u=> ?_⟩
      ·rcases yD.1 hL with hL|hL
       ·exact ih.ok L hL
       ·rw [zF] at hL;rw [hL];exact hw
      ·rw [List.flatten_append,List.nodup_append];refine ⟨ih.nd,by simpa using hw.nd,fun a ha b hb e=> ?_⟩;have hb:b∈zA7 (some x) k:=by simpa using hb
       subst e;exact hdis a hb ha
      ·rw [List.flatten_append,yD]
       by_cases e:u=k
       ·rw [e];exact .inr (by simpa using zXO g hv)
       ·exact .inl (ih.all u h1 (by omega) h3)
      ·rw [List.flatten_append,yD,zLM,ihm u];simp
     ·rw [z3c g hv];rw [if_neg (by simp)];refine ⟨⟨ih.ok,ih.nd,fun u h1 h2 h3=> ?_⟩,ihm⟩
      by_cases e:u=k
      ·rw [e] at h3;exact absurd h3 hv
      ·exact ih.all u h1 (by omega) h3
theorem zJa (g:Full x):Lps x (qW x) x.1.1:=by
 have:=(zUP g x.1.1.toNat).1;have h0:0<=x.1.1:=g.fit.1;rw [zAC h0] at this;exact this
theorem zTs (g:Full x) {u:Int} :u∈(qW x).flatten↔∃ w,bE x w u:=by
 have h:=zJa g;constructor
 ·intro hu;obtain ⟨L,hL,huL⟩:=List.mem_flatten.1 hu;exact (h.ok L hL).bord huL
 ·rintro ⟨w,hw⟩;have:=zJf g hw;exact h.all u this.2.1.1 this.2.1.2 ⟨w,hw⟩
end
end S1
open Go Go.Vm Go.Proofs
namespace S1
def atV (v:Int) (t:P3):Bool:=decide (z8 t v)
end S1
open Go Go.Vm Go.Proofs
namespace S1
theorem zNE (a b:Int) (t:P3):both a b t=(atV a t&&atV b t):=by unfold both atV;exact Bool.decide_and _ _
theorem zLn {p q:P3->Bool} (h: ∀ t,p t=q t) (l:List P3):(l.filter p).length=(l.filter q).length:=by rw [show p=q from funext h]
theorem z1P {x:yI.T} (g:Full x) (hs:jV (InN x.1.1) x.1.2) {a b:Int} (hn:zAQ x a b=true):(x.1.2.filter (both a b)).length=if qJ x (a,b)<0\/zAI x (qJ x (a,b))<0 then 1 else 2:=by
 by_cases h:qJ x (a,b)<0
 ·rw [if_pos (.inl h)];obtain ⟨d,d1,d2⟩:=(zHf g).1 hn;rcases d2 with e|e
  ·have:=g.facing d1;rw [e] at this;rw [this] at h;exact absurd (yH.1 d1).1 (by omega)
  ·have k:=zRT g hs d1;rw [e] at k
   have ho: ¬ 0<=zAI x d:=fun h0=>by
    obtain ⟨_,h2,h3⟩:=g.opp h0;have:=g.facing h2;rw [h3,e] at this;have h2:=(yH.1 h2).1;have this:qJ x (a,b)=zAI x d:=this;omega
   rw [if_neg ho] at k;rw [<- k];exact zLn (fun t=>by rw [zNE,zNE,Bool.and_comm]) _
 ·have hf:qJ x (a,b)>=0:=by omega
  obtain ⟨c,c1,c2⟩:=zED.1 ((zCk g).1 hf);have e:=g.facing c1;rw [c2] at e;have k:=zRT g hs c1;rw [c2] at k;rw [e] at h ⊢;have k:(x.1.2.filter (both a b)).length=if 0<=zAI x c then 2 else 1:=k;rw [k]
  by_cases ho:0<=zAI x c
  ·rw [if_pos ho,if_neg (by omega)]
  ·rw [if_neg ho,if_pos (by omega)]
end S1
