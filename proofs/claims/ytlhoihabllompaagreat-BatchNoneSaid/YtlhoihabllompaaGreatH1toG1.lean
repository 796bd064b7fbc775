/- A part of the proofs of the laws. -/
import Derived.Test.YtlhoihabllompaaGreatW4toY3
import Derived.Test.YtlhoihabllompaaGreatVmRng3toF5
import Derived.Test.YtlhoihabllompaaGreatT22toF5a
import Derived.Test.YtlhoihabllompaaGreatVmRngMtoVmSeq
import Derived.Test.YtlhoihabllompaaGreatF8atoW3
set_option linter.unusedSimpArgs false
set_option linter.unusedVariables false
set_option maxHeartbeats 8000000
set_option maxRecDepth 100000
open Go Go.Vm Go.Proofs
namespace S1
def zY1 (m:ReM) (l:List Int):ReM:=l.foldl (fun m c=>zAB (.int .i64) m (c.tdiv 3) true) m
def stK (x:yI.T) (e:Int×Int):Nat->ReM
 | 0=>[]
 | k+1=>zY1 (stK x e k) (yT (some x) ([e.1,e.2].getD k 0))
def zCm (x:yI.T) (e:Int×Int):ReM:=stK x e 2
def zV0 (x:yI.T) (e:Int×Int):Spec Nat where
 inv k:=k<=2
 live k:=[(11,.s (.int .i64 k))]
 keep:=[0,3,5,10]
 heap k:=[(1,.map y7 .bool (stK x e k))]
 keepH:=[0,2]
 mu k:=2 - k
def z1I (m:ReM) (L:List Int):Spec Nat where
 inv _:=True
 live _:=[]
 keep:=[0,3,5,10,11]
 heap k:=[(1,.map y7 .bool (zY1 m (L.take k)))]
 keepH:=[0,2,3,4]
 mu _:=0
theorem z6p {m:ReM} {L:List Int} {j:Nat} (hj:j<L.length):zY1 m (L.take (j+1))=zAB (.int .i64) (zY1 m (L.take j)) ((L.getD j 0).tdiv 3) true:=by
 unfold zY1;rw [yB hj,List.foldl_append,zQ,zG hj];rfl
theorem z07 {c:Int} (h:InK .i64 c):yO (c.tdiv 3):=by
 have h:=InK.i64.1 h;unfold yO at *;rcases Int.le_total 0 c with k|k
 ·rw [Int.tdiv_eq_ediv_of_nonneg k];omega
 ·have e:(-c).tdiv 3= -(c.tdiv 3):=Int.neg_tdiv ..;rw [Int.tdiv_eq_ediv_of_nonneg (by omega)] at e;omega
attribute [local irreducible] zY1 yT
theorem z44 (x:yI.T) (a b:Int) (g:Good x):zHO ⟨tyL,[(90,zF0)],[]⟩ z7b Tryz.f57 [(ETy.pt yI).av (some x),ETy.arr2.av (a,b)] (fun r=>r= .s (.mp y7 .bool (zCm x (a,b)))):=by
 repeat' (conv=>whnf
          first|done|refine qN (by first|rfl|omega|(simp only [yO] at *;omega)) ?_|apply qH|refine qG fun _=> ?_|apply qB|apply qa|apply qo|refine qe (fun _=> ?_) (fun _=> ?_)|refine qn (fun _=> ?_) (fun _=> ?_)|refine qd (fun _=> ?_) (fun _=> ?_)|apply qt|refine qi (fun _=> ?_) (fun _=> ?_)|refine zB (Nat) (zB (zV0 x (a,b)) (zA (zB (0) (zA (yJ.out ?_) (zA ?_ (zA ?_ rfl)))) (fun k hk=> ?_)))|((with_reducible show (∃ y,And (Spec.inv (zV0 _ _) y) _));refine zB (k+1) (zA (yJ.out ?_) (zA (zA ?_ (zA ?_ rfl)) (yJ.out ?_))))|refine zB (yT (some x) ([a,b].getD k 0)) (zA (yJ.out ?_) (zB (z1I (stK x (a,b) k) (yT (some x) ([a,b].getD k 0))) ?_))|(refine zA (fun X=> ?_) (fun X=> ?_))|(refine zA (zA ?_ (zA ?_ rfl)) (fun j hj=> ?_))|(refine zA ?_ (zA ?_ rfl))|refine zA rfl ?_|apply qE|apply qO|exact zN|apply qq|apply qs|refine qK (by kernel_rfl) ?_|apply qr)
 all_goals try first|apply qz1|apply qz2|apply qz3|apply qz4|apply qz5|apply qz6|apply qz7|apply qz8|apply qz9|apply qz0
 all_goals try simp only [zZ,zR,yE,z6,qn1,zY,qn2,zX,ETy.dflt,qn3,qn4,Int.reduceToNat,Int.reduceAdd,Int.reduceSub,Int.reduceNeg,Nat.reduceAdd,zD,zV0,z1I] at *
 all_goals try (refine yJ.intro ?_;omega)
 ·have hk2:k<2:=by omega
  refine yJ.intro ⟨rfl,some x,[a,b].getD k 0,rfl,fun y e=>by cases e;exact g,rfl⟩
 ·rw [List.take_zero];with_unfolding_all rfl
 ·exact yJ.intro ⟨by decide,z07 (zK4 g _ _ (jA hj))⟩
 ·exact z6p hj
 ·rw [List.take_length];rfl
 ·have e:k=2:=by omega
  subst e;exact y9.intro rfl
def zLp:List AV->Option Res:=zCs (.pt yI) .arr2 (fun o e=>match o with|none=>none|some x=>some (none,some (Good x),.s (.mp y7 .bool (zCm x e))))
theorem zLF:qM Tryz.prog 57 zLp:=⟨jC fun o e r h=>by
 cases o with
 | none=>cases h
 | some x=>cases h;exact zHA (yM (fn:=[(90,zF0)]) (fr:=[]) ⟨zIK,trivial⟩ trivial) z8T Tryz.func57 rfl (by kernel_rfl) (zU rfl) fun _ h=>z44 x e.1 e.2 h,_,Tryz.func57,by kernel_rfl,by kernel_rfl⟩
def z7U:zCv:=fun _ _ _=>False
theorem zUS:zD3 Tryz.prog z7U:=fun _ _ _ h=>h.elim
def zJi (a b:ReM):Bool:=a.all fun p=> !had b p.1
def zTX (b:ReM):Spec IBM where
 inv pre:= ∀ p∈pre,had b p.1=false
 live _:=[]
 keep:=[1,7]
 heap _:=[]
 keepH:=[]
 mu _:=0
theorem z0X (a b:ReM):zHO ⟨tyL,[],[]⟩ z7U Tryz.f56 [(ETy.mp y7 .bool).av a,(ETy.mp y7 .bool).av b] (fun r=>r= .s (.bool (zJi a b))):=by
 repeat' (conv=>whnf
          first|done|refine qN (by first|rfl|omega|(simp only [yO] at *;omega)) ?_|apply qH|refine qG fun _=> ?_|apply qB|apply qa|apply qo|refine qe (fun _=> ?_) (fun _=> ?_)|refine qn (fun _=> ?_) (fun _=> ?_)|refine qd (fun _=> ?_) (fun _=> ?_)|apply qt|refine qi (fun _=> ?_) (fun _=> ?_)|refine (fun (rIt:Nat)=> ?_)|refine z7S.intro (it:=7) (zB (zTX b) (zA (zA (yJ.out ?_) (zA ?_ (zA ?_ rfl))) (zA (fun pre e he=>zA rfl ?_) (fun pre hp=>zA rfl ?_))))|((with_reducible show (And (Spec.inv (zTX b) _) _));refine zA (yJ.out ?_) (zA ?_ (zA ?_ rfl)))|refine zA rfl ?_|apply qE|apply qO|exact zN|apply qq|apply qs|refine qK (by kernel_rfl) ?_|apply qr)
 all_goals try first|apply qz1|apply qz2|apply qz3|apply qz4|apply qz5|apply qz6|apply qz7|apply qz8|apply qz9|apply qz0
 all_goals try simp only [zZ,zR,yE,z6,qn1,zY,qn2,zX,ETy.dflt,qn3,qn4,Int.reduceToNat,Int.reduceAdd,Int.reduceSub,Int.reduceNeg,Nat.reduceAdd,zD,zTX] at *
 ·exact yJ.intro fun p h=>by cases h
 ·rename_i h;refine Eq.symm (Bool.eq_false_iff.2 fun k=> ?_);have:=zK.1 k _ he.2.2.2.1;rw [show had b e.fst=true from h] at this;cases this
 ·rename_i h;refine yJ.intro fun p hp=> ?_;rcases yC.1 hp with k|k
  ·exact he.1 p k
  ·rw [zF.1 k];exact h
 ·exact (zK.2 fun p k=>by rw [hp.1 p ((hp.2.2 p).2 k)];rfl).symm
def zNy:List AV->Option Res:=zCs (.mp y7 .bool) (.mp y7 .bool) (fun a b=>some (none,none,.s (.bool (zJi a b))))
theorem zRv:qM Tryz.prog 56 zNy:=⟨jC fun a b r h=>by
 cases h;exact zHA (yM (fn:=[]) (fr:=[]) trivial trivial) zUS Tryz.func56 rfl (by kernel_rfl) (zU rfl) fun _ _=>z0X a b,_,Tryz.func56,by kernel_rfl,by kernel_rfl⟩
def apB (x:yI.T) (e f:Int×Int):Bool:=zAO x e.1 e.2&&(zAO x f.1 f.2&&zJi (zCm x e) (zCm x f))
attribute [local irreducible] zCm zJi zAO
theorem zV1 (x:yI.T) (a b c d:Int) (g:Good x):zAG ⟨tyL,[(55,zMJ),(57,zLp),(56,zNy)],[]⟩ Tryz.f17 [(ETy.pt yI).av (some x),ETy.arr2.av (a,b),ETy.arr2.av (c,d)] (fun r=>r= .s (.bool (apB x (a,b) (c,d)))):=by
 repeat' (conv=>whnf
          first|done|refine qN (by first|rfl|omega|(simp only [yO] at *;omega)) ?_|apply qH|refine qG fun _=> ?_|apply qB|apply qa|apply qo|refine qe (fun _=> ?_) (fun _=> ?_)|refine qn (fun _=> ?_) (fun _=> ?_)|refine qd (fun _=> ?_) (fun _=> ?_)|apply qt|refine qi (fun _=> ?_) (fun _=> ?_)|refine zA rfl ?_|apply qE|apply qO|exact zN|apply qq|apply qs|refine qK (by kernel_rfl) ?_|apply qr)
 all_goals try first|apply qz1|apply qz2|apply qz3|apply qz4|apply qz5|apply qz6|apply qz7|apply qz8|apply qz9|apply qz0
 all_goals try simp only [zZ,zR,yE,z6,qn1,zY,qn2,zX,ETy.dflt,qn3,qn4,Int.reduceToNat,Int.reduceAdd,Int.reduceSub,Int.reduceNeg,Nat.reduceAdd,zD,apB] at *
 all_goals try first
  | exact yJ.intro g
  | exact yJ.intro (fun y h=>by cases h;exact g)
 ·rw [show zAO x a b=true by assumption,show zAO x c d=true by assumption];rfl
 ·rw [show zAO x a b=true by assumption,show zAO x c d=false by assumption];rfl
 ·rw [show zAO x a b=false by assumption];rfl
theorem zSb (a b c d:Int):zAG ⟨tyL,[(55,zMJ),(57,zLp),(56,zNy)],[]⟩ Tryz.f17 [(ETy.pt yI).av none,ETy.arr2.av (a,b),ETy.arr2.av (c,d)] (fun r=>r= .s (.bool false)):=by
 repeat' (conv=>whnf
          first|done|refine qN (by first|rfl|omega|(simp only [yO] at *;omega)) ?_|apply qH|refine qG fun _=> ?_|apply qB|apply qa|apply qo|refine qe (fun _=> ?_) (fun _=> ?_)|refine qn (fun _=> ?_) (fun _=> ?_)|refine qd (fun _=> ?_) (fun _=> ?_)|apply qt|refine qi (fun _=> ?_) (fun _=> ?_)|refine zA rfl ?_|apply qE|apply qO|exact zN|apply qq|apply qs|refine qK (by kernel_rfl) ?_|apply qr)
 all_goals try first|apply qz1|apply qz2|apply qz3|apply qz4|apply qz5|apply qz6|apply qz7|apply qz8|apply qz9|apply qz0
 all_goals try simp only [zZ,zR,yE,z6,qn1,zY,qn2,zX,ETy.dflt,qn3,qn4,Int.reduceToNat,Int.reduceAdd,Int.reduceSub,Int.reduceNeg,Nat.reduceAdd,zD] at *
 all_goals rfl
def zJG:List AV->Option Res:=zOb (.pt yI) .arr2 .arr2 (fun o e f=>some (none,some (∀ x,o=some x->Good x),.s (.bool (match o with|some x=>apB x e f|none=>false))))
theorem zNm:qM Tryz.prog 17 zJG:=⟨zDM fun o e f r h=>by
 cases h;cases o with
 | none=>exact qL (yM (fn:=[(55,zMJ),(57,zLp),(56,zNy)]) (fr:=[]) ⟨zMI,zLF,zRv,trivial⟩ trivial) Tryz.func17 (by kernel_rfl) fun _ _=>zSb e.1 e.2 f.1 f.2
 | some x=>exact qL (yM (fn:=[(55,zMJ),(57,zLp),(56,zNy)]) (fr:=[]) ⟨zMI,zLF,zRv,trivial⟩ trivial) Tryz.func17 (by kernel_rfl) fun _ h=>zV1 x e.1 e.2 f.1 f.2 (h x rfl),_,Tryz.func17,by kernel_rfl,by kernel_rfl⟩
end S1
open Go Go.Vm Go.Proofs
namespace S1
def zY3 (x:yI.T) (c:Nat):Option (Int×Int):=if zAF x c<0 then some (jP x c) else none
def zLm (x:yI.T):List (Int×Int):=(List.range (3*x.1.2.length)).filterMap (zY3 x)
def z5w (o:Option yI.T):List (Int×Int):=onO o [] zLm
def zWT (x:yI.T):Spec Nat where
 inv k:=k<=3*x.1.2.length
 live k:=[(10,.s (.int .i64 k)),(3,.s (.own 1 0 ((List.range k).filterMap (zY3 x)).length))]
 keep:=[0,9]
 heap k:=[(1,.row .arr2 33 ((List.range k).filterMap (zY3 x)))]
 keepH:=[0]
 mu k:=3*x.1.2.length - k
theorem z0z (x:yI.T) (g:Good x):zAG ⟨tyL,[(74,zB8),(37,zS7),(77,zLr)],[]⟩ Tryz.f99 [(ETy.pt yI).av (some x)] (fun r=>r= .s (.sl .arr2 (zLm x))):=by
 have hl:x.1.2.length<=8192:=g.fit.2.2.1
 repeat' (conv=>whnf
          first|done|refine qN (by first|rfl|omega|(simp only [yO] at *;omega)) ?_|apply qH|refine qG fun _=> ?_|apply qB|apply qa|apply qo|refine qe (fun _=> ?_) (fun _=> ?_)|refine qn (fun _=> ?_) (fun _=> ?_)|refine qd (fun _=> ?_) (fun _=> ?_)|apply qt|refine qi (fun _=> ?_) (fun _=> ?_)|(refine qS 5 rfl ?_;refine Or.inr (zB (Nat) (zB (zWT x) (zA (zB (0) (zA (yJ.out ?_) (zA ?_ (zA ?_ rfl)))) (fun k hk=> ?_)))))|((with_reducible show (∃ y,And (Spec.inv (zWT _) y) _));refine zB (k+1) (zA (yJ.out ?_) (zA (zA ?_ (zA ?_ rfl)) (yJ.out ?_))))|refine zA rfl ?_|apply qE|apply qO|exact zN|apply qq|apply qs|refine qK (by kernel_rfl) ?_|apply qr)
 all_goals try first|apply qz1|apply qz2|apply qz3|apply qz4|apply qz5|apply qz6|apply qz7|apply qz8|apply qz9|apply qz0
 all_goals try simp only [zZ,zR,yE,z6,qn1,zY,qn2,zX,ETy.dflt,qn3,qn4,Int.reduceToNat,Int.reduceAdd,Int.reduceSub,Int.reduceNeg,Nat.reduceAdd,zD,zWT] at *
 all_goals try first|(refine yJ.intro ?_;omega)|(refine yJ.intro ?_;have:=zCd (zY3 x) k;omega)
 ·exact yJ.intro (show (k:Int)<=1000000 by omega)
 ·exact yJ.intro (show (k:Int)<=1000000 by omega)
 ·rename_i h;rw [qZ,zY3,if_pos h,zO];rfl
 ·rename_i h;rw [qZ];conv=>lhs;rhs;rw [zY3,if_pos h]
  rfl
 ·rename_i h;rw [qZ];conv=>lhs;rhs;rhs;rw [zY3,if_neg h]
  simp
 ·rename_i h;rw [qZ];conv=>lhs;rhs;rw [zY3,if_neg h]
  simp
 ·have e:k=3*x.1.2.length:=by omega
  rw [e];rfl
theorem zUb:zAG ⟨tyL,[(74,zB8),(37,zS7),(77,zLr)],[]⟩ Tryz.f99 [(ETy.pt yI).av none] (fun r=>r= .s (.sl .arr2 [])):=by
 repeat' (conv=>whnf
          first|done|refine qN (by first|rfl|omega|(simp only [yO] at *;omega)) ?_|apply qH|refine qG fun _=> ?_|apply qB|apply qa|apply qo|refine qe (fun _=> ?_) (fun _=> ?_)|refine qn (fun _=> ?_) (fun _=> ?_)|refine qd (fun _=> ?_) (fun _=> ?_)|apply qt|refine qi (fun _=> ?_) (fun _=> ?_)|refine zA rfl ?_|apply qE|apply qO|exact zN|apply qq|apply qs|refine qK (by kernel_rfl) ?_|apply qr)
 all_goals try first|apply qz1|apply qz2|apply qz3|apply qz4|apply qz5|apply qz6|apply qz7|apply qz8|apply qz9|apply qz0
 all_goals try simp only [zZ,zR,yE,z6,qn1,zY,qn2,zX,ETy.dflt,qn3,qn4,Int.reduceToNat,Int.reduceAdd,Int.reduceSub,Int.reduceNeg,Nat.reduceAdd,zD] at *
 rfl
def zIm:List AV->Option Res:=zEv (.pt yI) (fun o=>some (none,some (∀ x,o=some x->Good x),.s (.sl .arr2 (z5w o))))
theorem zLD:qM Tryz.prog 99 zIm:=⟨zAW fun o r h=>by
 cases h;cases o with
 | none=>exact qL (yM (fn:=[(74,zB8),(37,zS7),(77,zLr)]) (fr:=[]) ⟨zEO,zJz,zKq,trivial⟩ trivial) Tryz.func99 (by kernel_rfl) fun _ _=>zUb
 | some x=>exact qL (yM (fn:=[(74,zB8),(37,zS7),(77,zLr)]) (fr:=[]) ⟨zEO,zJz,zKq,trivial⟩ trivial) Tryz.func99 (by kernel_rfl) fun _ h=>z0z x (h x rfl),_,Tryz.func99,by kernel_rfl,by kernel_rfl⟩
abbrev NxM:=List ((ETy.int .i64).T×(ETy.int .i64).T)
def z34 (es:List (Int×Int)) (k:Nat):NxM:=qA (fun m j=>zAB (.int .i64) m (es.getD j (0,0)).2 (es.getD j (0,0)).1) [] k
def zBf (o:Option yI.T):NxM:=z34 (z5w o) (z5w o).length
def zVZ (es:List (Int×Int)):Spec Nat where
 inv k:=k<=es.length
 live k:=[(10,.s (.int .i64 k))]
 keep:=[3,8,9]
 heap k:=[(0,.map y7 y7 (z34 es k))]
 keepH:=[]
 mu k:=es.length - k
theorem zYF (o:Option yI.T) (hg: ∀ x,o=some x->Good x):zAG ⟨tyL,[(99,zIm)],[]⟩ Tryz.f127 [(ETy.pt yI).av o] (fun r=>r= .s (.mp y7 y7 (zBf o))):=by
 repeat' (conv=>whnf
          first|done|refine qN (by first|rfl|omega|(simp only [yO] at *;omega)) ?_|apply qH|refine qG fun _=> ?_|apply qB|apply qa|apply qo|refine qe (fun _=> ?_) (fun _=> ?_)|refine qn (fun _=> ?_) (fun _=> ?_)|refine qd (fun _=> ?_) (fun _=> ?_)|apply qt|refine qi (fun _=> ?_) (fun _=> ?_)|(refine qS 3 rfl ?_;refine Or.inr (zB (Nat) (zB (zVZ (z5w o)) (zA (zB (0) (zA (yJ.out ?_) (zA ?_ (zA ?_ rfl)))) (fun k hk=> ?_)))))|((with_reducible show (∃ y,And (Spec.inv (zVZ _) y) _));refine zB (k+1) (zA (yJ.out ?_) (zA (zA ?_ (zA ?_ rfl)) (yJ.out ?_))))|refine zA rfl ?_|apply qE|apply qO|exact zN|apply qq|apply qs|refine qK (by kernel_rfl) ?_|apply qr)
 all_goals try first|apply qz1|apply qz2|apply qz3|apply qz4|apply qz5|apply qz6|apply qz7|apply qz8|apply qz9|apply qz0
 all_goals try simp only [zZ,zR,yE,z6,qn1,zY,qn2,zX,ETy.dflt,qn3,qn4,Int.reduceToNat,Int.reduceAdd,Int.reduceSub,Int.reduceNeg,Nat.reduceAdd,zD,zVZ] at *
 all_goals try (refine yJ.intro ?_;omega)
 ·have e:k=(z5w o).length:=by omega
  rw [e];exact y9.intro rfl
def zIr:List AV->Option Res:=zEv (.pt yI) (fun o=>some (none,some (∀ x,o=some x->Good x),.s (.mp y7 y7 (zBf o))))
theorem zOJ:qM Tryz.prog 127 zIr:=⟨zAW fun o r h=>by cases h;exact qL (yM (fn:=[(99,zIm)]) (fr:=[]) ⟨zLD,trivial⟩ trivial) Tryz.func127 (by kernel_rfl) fun _ h=>zYF o h,_,Tryz.func127,by kernel_rfl,by kernel_rfl⟩
theorem z2T {fn} (o:Option yI.T) (v:Int):zAG ⟨tyL,fn,[]⟩ Tryz.f87 [(ETy.pt yI).av o,y7.av v] (fun r=>r= .s (.clo 126 [⟨.pt yI,o⟩,⟨y7,v⟩])):=by
 repeat' (conv=>whnf
          first|done|refine qN (by first|rfl|omega|(simp only [yO] at *;omega)) ?_|apply qH|refine qG fun _=> ?_|apply qB|apply qa|apply qo|refine qe (fun _=> ?_) (fun _=> ?_)|refine qn (fun _=> ?_) (fun _=> ?_)|refine qd (fun _=> ?_) (fun _=> ?_)|apply qt|refine qi (fun _=> ?_) (fun _=> ?_)|refine zA rfl ?_|apply qE|apply qO|exact zN|apply qq|apply qs|refine qK (by kernel_rfl) ?_|apply qr)
 all_goals try first|apply qz1|apply qz2|apply qz3|apply qz4|apply qz5|apply qz6|apply qz7|apply qz8|apply qz9|apply qz0
 all_goals try simp only [zZ,zR,yE,z6,qn1,zY,qn2,zX,ETy.dflt,qn3,qn4,Int.reduceToNat,Int.reduceAdd,Int.reduceSub,Int.reduceNeg,Nat.reduceAdd,zD] at *
def zUV:List AV->Option Res:=zCs (.pt yI) y7 (fun o v=>some (none,none,.s (.clo 126 [⟨.pt yI,o⟩,⟨y7,v⟩])))
theorem zWu:qM Tryz.prog 87 zUV:=⟨jC fun o v r h=>by cases h;exact qL (yM (fn:=[]) (fr:=[]) trivial trivial) Tryz.func87 (by kernel_rfl) fun _ _=>z2T o v,_,Tryz.func87,by kernel_rfl,by kernel_rfl⟩
def nxt (m:NxM) (u:Int):Int:=(jS y7 m u).getD 0
def zDP (m:NxM) (v:Int):Nat->Int->List Int
 | 0,_=>[]
 | n+1,u=>if u=v then [] else u::zDP m v n (nxt m u)
def zA4 (o:Option yI.T) (v:Int):List Int:=if (jS y7 (zBf o) v).isSome then v::zDP (zBf o) v 10000 (nxt (zBf o) v) else []
end S1
open Go Go.Vm Go.Proofs
namespace S1
section
variable {x:yI.T}
theorem zFf {e:Int×Int} :e∈zLm x↔bE x e.1 e.2:=by
 unfold zLm;rw [List.mem_filterMap];constructor
 ·rintro ⟨c,hc,h⟩;have hc:=zV.1 hc;unfold zY3 at h;split at h
  ·rename_i ho;cases h;exact ⟨c,yH.2 ⟨by omega,by omega⟩,ho,rfl⟩
  ·cases h
 ·rintro ⟨c,h1,h2,h3⟩;have hc:=yH.1 h1;have e1:((c.toNat:Nat):Int)=c:=by omega
  refine ⟨c.toNat,zV.2 (by omega),?_⟩;unfold zY3;rw [e1,if_pos h2,h3]
end
theorem zR6 (es:List (Int×Int)) (u:Int): ∀ k,(∀ w,jS y7 (z34 es k) u=some w->∃ j,j<k/\es.getD j (0,0)=(w,u))/\((∃ j,j<k/\(es.getD j (0,0)).2=u)->(jS y7 (z34 es k) u).isSome=true)
 | 0=>⟨fun w h=>(by cases h),fun ⟨j,h,_⟩=>by omega⟩
 | k + 1=>by
   obtain ⟨h1,h2⟩:=zR6 es u k;have e:z34 es (k+1)=zAB y7 (z34 es k) (es.getD k (0,0)).2 (es.getD k (0,0)).1:=rfl;rw [e]
   by_cases he:(es.getD k (0,0)).2=u
   ·rw [he,zAQ];exact ⟨fun w hw=>⟨k,by omega,by injection hw with hw;exact Prod.ext hw he⟩,fun _=>rfl⟩
   ·rw [zA1 _ he];refine ⟨fun w hw=> ?_,fun ⟨j,hj,hju⟩=>h2 ⟨j,?_,hju⟩⟩
    ·obtain ⟨j,hj,e⟩:=h1 w hw;exact ⟨j,by omega,e⟩
    ·by_cases e:j=k
     ·subst e;exact absurd hju he
     ·omega
theorem zFU {x:yI.T} (g:Full x) {w u:Int} :jS y7 (zBf (some x)) u=some w↔bE x w u:=by
 obtain ⟨h1,h2⟩:=zR6 (zLm x) u (zLm x).length
 have mem: ∀ j,j<(zLm x).length->(zLm x).getD j (0,0)∈zLm x:=fun j hj=>by
  rw [zQ,zG hj];exact yU hj
 have fw: ∀ w,jS y7 (zBf (some x)) u=some w->bE x w u:=fun w h=>by
  obtain ⟨j,hj,e⟩:=h1 w h;have:=zFf.1 (mem j hj);rw [e] at this;exact this
 refine ⟨fw w,fun h=> ?_⟩;obtain ⟨j,hj,e⟩:=yG.1 ((zFf (x:=x) (e:=(w,u))).2 h);have:=h2 ⟨j,hj,by rw [zQ,zG hj];show ((zLm x)[j]).2=u;rw [e]⟩;have e3:zBf (some x)=z34 (zLm x) (zLm x).length:=rfl;rw [<- e3] at this;cases h4:jS y7 (zBf (some x)) u with
 | none=>rw [h4] at this;cases this
 | some w'=>rw [zT5 g h (fw w' h4)]
theorem zDd {x:yI.T} (g:Full x) {w u:Int} (h:bE x w u):nxt (zBf (some x)) u=w:=by
 unfold nxt;rw [(zFU g).2 h];rfl
theorem zQ5 {x:yI.T} (g:Full x) {v:Int} (hv: ∃ w,bE x w v) {k:Nat} (h: ∀ j,1<=j->j<=k->iter (nxt (zBf (some x))) v j≠v):k<=4096:=by
 have key: ∀ j,∃ w,bE x w (iter (nxt (zBf (some x))) v j):=fun j=>by
  induction j with
  | zero=>exact hv
  | succ j ih =>
    obtain ⟨w,hw⟩:=ih;show ∃ w,bE x w (nxt (zBf (some x)) (iter (nxt (zBf (some x))) v j));rw [zDd g hw];exact zCj g hw
 let f:Int->Int:=fun u=>(jS y7 (zBf (some x)) u).getD (-1)
 have hf: ∀ j,iter f v j=iter (nxt (zBf (some x))) v j:=fun j=>by
  induction j with
  | zero=>rfl
  | succ j ih =>
    obtain ⟨w,hw⟩:=key j;show f (iter f v j)=nxt _ _;rw [ih,zDd g hw];show (jS y7 (zBf (some x)) _).getD (-1)=w;rw [(zFU g).2 hw];rfl
 have fsome: ∀ c,0<=f c->bE x (f c) c:=fun c hc=>by
  cases e:jS y7 (zBf (some x)) c with
  | none => have:f c= -1:=by show (jS y7 (zBf (some x)) c).getD (-1)= -1;rw [e];rfl
            omega
  | some w =>
    have:f c=w:=by show (jS y7 (zBf (some x)) c).getD (-1)=w;rw [e];rfl
    rw [this];exact (zFU g).1 e
 have hn:=g.fit
 have:=pig (f:=f) (L:=x.1.1.toNat) (c:=v) (k:=k) (fun c hc=>by have:=(zJ8 g (fsome c hc)).1;omega) (fun a b ha e=>by
  have k1:=fsome a ha;have k2:=fsome b (by omega);rw [<- e] at k2
  exact zH6 g k1 k2) (fun j h1 h2=>by
  rw [hf];obtain ⟨w,hw⟩:=key j
  exact ⟨(zJ8 g hw).2.1.1,h j h1 h2⟩)
 have h1:x.1.1<=4096:=hn.2.1;have h2:x.1.1.toNat<=4096:=Int.toNat_le_toNat h1;exact Nat.le_trans this h2
theorem zH8 {x:yI.T} (g:Full x) {v:Int} (hv: ∃ w,bE x w v): ∀ j,∃ w,bE x w (iter (nxt (zBf (some x))) v j)
 | 0=>hv
 | j+1=>by
   obtain ⟨w,hw⟩:=zH8 g hv j;show ∃ w,bE x w (nxt (zBf (some x)) (iter (nxt (zBf (some x))) v j));rw [zDd g hw];exact zCj g hw
end S1
open Go Go.Vm Go.Proofs
namespace S1
theorem zE6 {m:NxM} {v u:Int} {k:Nat} (h:k<=4096):zDP m v (10000 - k) u=if u=v then [] else u::zDP m v (10000 - (k+1)) (nxt m u):=by
 rw [show 10000 - k=(10000 - (k+1))+1 by omega];rfl
def zUF (m:NxM) (v:Int):Spec Nat where
 inv k:=(∀ j,1<=j->j<=k->iter (nxt m) v j≠v)/\(zDP m v 10000 (nxt m v)).drop k=zDP m v (10000 - k) (iter (nxt m) v (k+1))
 live k:=[(5,.s (.int .i64 (iter (nxt m) v (k+1))))]
 keep:=[0,1,2,4]
 heap _:=[]
 keepH:=[]
 mu k:=10000 - k
theorem z0T (x:yI.T) (v:Int) (g:Full x):zPK ⟨tyL,[(127,zIr)],[]⟩ Tryz.f126 [⟨.pt yI,some x⟩,⟨y7,v⟩] (zA4 (some x) v):=by
 repeat' (conv=>whnf
          first|done|refine qN (by first|rfl|omega|(simp only [yO] at *;omega)) ?_|apply qH|refine qG fun _=> ?_|apply qB|apply qa|apply qo|refine qe (fun _=> ?_) (fun _=> ?_)|refine qn (fun _=> ?_) (fun _=> ?_)|refine qd (fun _=> ?_) (fun _=> ?_)|apply qt|refine qi (fun _=> ?_) (fun _=> ?_)|refine (fun (l:Nat)=> ?_)|refine zB Nat (zB (zUF (zBf (some x)) v) (zB (fun k=>v::(zDP (zBf (some x)) v 10000 (nxt (zBf (some x)) v)).take k) (zA (zB 0 (zA (yJ.out ?_) (zA (zAk.out ?_) (zA ?_ (zA ?_ rfl))))) (fun k hk=> ?_))))|((with_reducible show (∃ y,And (Spec.inv (zUF _ _) y) _));refine zB (k+1) (zA (yJ.out ?_) (zA (zAk.out ?_) (zA (zA ?_ (zA ?_ rfl)) (yJ.out ?_)))))|refine zA (yJ.out (p:=(_++[_]) <+: _) ?_) ?_|refine zAk.out ?_|refine zA rfl ?_|apply qE|apply qO|exact zN|apply qq|apply qs|refine qK (by kernel_rfl) ?_|apply qr)
 all_goals try first|apply qz1|apply qz2|apply qz3|apply qz4|apply qz5|apply qz6|apply qz7|apply qz8|apply qz9|apply qz0
 all_goals try simp only [zZ,zR,yE,z6,qn1,zY,qn2,zX,ETy.dflt,qn3,qn4,Int.reduceToNat,Int.reduceAdd,Int.reduceSub,Int.reduceNeg,Nat.reduceAdd,zD,zUF] at *
 ·exact yJ.intro (fun y h=>by cases h;exact g.toGood)
 all_goals try
  have hsome:(jS y7 (zBf (some x)) v).isSome=true:=by assumption
 all_goals try
  have hw: ∃ w,bE x w v:=by
   cases e:jS y7 (zBf (some x)) v with
   | none=>rw [e] at hsome;cases hsome
   | some w=>exact ⟨w,(zFU g).1 e⟩
 all_goals try have hL:zA4 (some x) v=v::zDP (zBf (some x)) v 10000 (nxt (zBf (some x)) v):=by unfold zA4;rw [if_pos hsome]
 ·rw [hL];exact yJ.intro ⟨_,rfl⟩
 ·exact yJ.intro ⟨fun j a b=>by omega,rfl⟩
 ·exact zAk.intro rfl
 all_goals try have h24:=zQ5 g hw hk.1
 ·have hne:iter (nxt (zBf (some x))) v (k+1)≠v:=by assumption
  rw [hL];have:=hk.2;rw [zE6 h24,if_neg hne] at this;exact yJ.intro (zRf (L:=v::zDP (zBf (some x)) v 10000 (nxt (zBf (some x)) v)) (k:=k+1) this)
 ·have hne:iter (nxt (zBf (some x))) v (k+1)≠v:=by assumption
  have:=hk.2;rw [zE6 h24,if_neg hne] at this;refine yJ.intro ⟨fun j a b=> ?_,(zDG this).2⟩
  by_cases e:j=k+1
  ·subst e;exact hne
  ·exact hk.1 j a (by omega)
 ·have hne:iter (nxt (zBf (some x))) v (k+1)≠v:=by assumption
  have:=hk.2;rw [zE6 h24,if_neg hne] at this;exact zAk.intro (by rw [(zDG this).1];rfl)
 ·refine yJ.intro ?_;omega
 ·have he:iter (nxt (zBf (some x))) v (k+1)=v:=by assumption
  have:=hk.2;rw [zE6 h24,if_pos he] at this;rw [hL];refine zAk.intro ?_;have h2:=jQ k (zDP (zBf (some x)) v 10000 (nxt (zBf (some x)) v));rw [this,List.append_nil] at h2;rw [h2]
 ·rename_i hn;refine zAk.intro ?_;unfold zA4;have hn:(jS y7 (zBf (some x)) v).isSome=false:=hn;rw [if_neg (by rw [hn];simp)]
theorem zT3 (v:Int):zPK ⟨tyL,[(127,zIr)],[]⟩ Tryz.f126 [⟨.pt yI,none⟩,⟨y7,v⟩] (zA4 none v):=by
 repeat' (conv=>whnf
          first|done|refine qN (by first|rfl|omega|(simp only [yO] at *;omega)) ?_|apply qH|refine qG fun _=> ?_|apply qB|apply qa|apply qo|refine qe (fun _=> ?_) (fun _=> ?_)|refine qn (fun _=> ?_) (fun _=> ?_)|refine qd (fun _=> ?_) (fun _=> ?_)|apply qt|refine qi (fun _=> ?_) (fun _=> ?_)|refine (fun (l:Nat)=> ?_)|refine zAk.out ?_|refine zA rfl ?_|apply qE|apply qO|exact zN|apply qq|apply qs|refine qK (by kernel_rfl) ?_|apply qr)
 all_goals try first|apply qz1|apply qz2|apply qz3|apply qz4|apply qz5|apply qz6|apply qz7|apply qz8|apply qz9|apply qz0
 all_goals try simp only [zZ,zR,yE,z6,qn1,zY,qn2,zX,ETy.dflt,qn3,qn4,Int.reduceToNat,Int.reduceAdd,Int.reduceSub,Int.reduceNeg,Nat.reduceAdd,zD] at *
 ·exact yJ.intro (fun y h=>by cases h)
 ·exact zAk.intro rfl
theorem zQd {x:yI.T} (g:Full x) {v:Int} : ∀ n u,(∃ w,bE x w u)->∀ a∈zDP (zBf (some x)) v n u,0<=a/\a<x.1.1
 | 0,u,_,a,h=>by cases h
 | n + 1,u,⟨w,hw⟩,a,h=>by
   unfold zDP at h;split at h
   ·cases h
   ·rcases zT.1 h with e|h
    ·rw [e];exact (zJ8 g hw).2.1
    ·rw [zDd g hw] at h;exact zQd g n w (zCj g hw) a h
theorem z0P {x:yI.T} (g:Full x) {v:Int} : ∀ a∈zA4 (some x) v,0<=a/\a<x.1.1:=fun a h=>by
 unfold zA4 at h;split at h
 ·rename_i hs
  obtain ⟨w,hw⟩: ∃ w,bE x w v:=by
   cases e:jS y7 (zBf (some x)) v with
   | none=>rw [e] at hs;cases hs
   | some w=>exact ⟨w,(zFU g).1 e⟩
  rcases zT.1 h with e|h
  ·rw [e];exact (zJ8 g hw).2.1
  ·rw [zDd g hw] at h;exact zQd g _ w (zCj g hw) a h
 ·cases h
theorem z0w {x:yI.T} (g:Full x) (v:Int): ∀ a∈zA4 (some x) v,InK .i64 a:=fun a h=>by
 have h1:=z0P g a h;have h2:x.1.1<=4096:=g.fit.2.1;have h3:a<=4096:=Int.le_trans (Int.le_of_lt h1.2) h2;exact InK.i64.2 (by unfold yO;omega)
def z71:zCv:=fun f ps L=>f=126/\∃ (o:Option yI.T) (v:Int),ps=[⟨.pt yI,o⟩,⟨y7,v⟩]/\(∀ x,o=some x->Full x)/\L=zA4 o v
theorem zXp:zD3 Tryz.prog z71:=fun f ps L h=>by
 obtain ⟨rfl,o,v,rfl,hg,rfl⟩:=h;cases o with
 | none=>exact seq_ok (yM (fn:=[(127,zIr)]) (fr:=[]) ⟨zOJ,trivial⟩ trivial) Tryz.func126 rfl (by kernel_rfl) rfl (by kernel_rfl) (zU rfl) (fun a h=>by cases h) fun _=>zT3 v
 | some x=>exact seq_ok (yM (fn:=[(127,zIr)]) (fr:=[]) ⟨zOJ,trivial⟩ trivial) Tryz.func126 rfl (by kernel_rfl) rfl (by kernel_rfl) (zU rfl) (z0w (hg x rfl) v) fun _=>z0T x v (hg x rfl)
theorem zT2 {o:Option yI.T} {v:Int} :(zA4 o v).length<=10001:=by
 have key: ∀ n u,(zDP (zBf o) v n u).length<=n:=fun n=>by
  induction n with
  | zero=>exact fun u=>zI _
  | succ n ih =>
    intro u;unfold zDP;split
    ·exact Nat.zero_le _
    ·have:=ih (nxt (zBf o) u);rw [z8];omega
 unfold zA4;split
 ·have:=key 10000 (nxt (zBf o) v);rw [z8];omega
 ·exact Nat.zero_le _
def z1X (L:List Int):Spec Nat where
 inv _:=True
 live _:=[]
 keep:=[1,2,4]
 heap k:=[(0,.flat 54 [.own 2 0 k]),(2,.row y7 3 (L.take k))]
 keepH:=[1,3]
 mu _:=0
theorem z6s (o:Option yI.T) (v:Int) (hg: ∀ x,o=some x->Full x):zHO ⟨tyL,[],[]⟩ z71 Tryz.f125 [.s (.val (.slice none 0 0)),.s (.clo 126 [⟨.pt yI,o⟩,⟨y7,v⟩])] (fun r=>r= .s (.sl y7 (zA4 o v))):=by
 have hlen:=zT2 (o:=o) (v:=v)
 repeat' (conv=>whnf
          first|done|refine qN (by first|rfl|omega|(simp only [yO] at *;omega)) ?_|apply qH|refine qG fun _=> ?_|apply qB|apply qa|apply qo|refine qe (fun _=> ?_) (fun _=> ?_)|refine qn (fun _=> ?_) (fun _=> ?_)|refine qd (fun _=> ?_) (fun _=> ?_)|apply qt|refine qi (fun _=> ?_) (fun _=> ?_)|refine zB (zA4 o v) (zA (yJ.out ?_) (zB (z1X (zA4 o v)) ?_))|(refine zA (fun X=> ?_) (fun X=> ?_))|(refine zA (zA ?_ (zA ?_ rfl)) (fun k hk=> ?_))|(refine zA ?_ (zA ?_ rfl))|refine zA rfl ?_|apply qE|apply qO|exact zN|apply qq|apply qs|refine qK (by kernel_rfl) ?_|apply qr)
 all_goals try first|apply qz1|apply qz2|apply qz3|apply qz4|apply qz5|apply qz6|apply qz7|apply qz8|apply qz9|apply qz0
 all_goals try simp only [zZ,zR,yE,z6,qn1,zY,qn2,zX,ETy.dflt,qn3,qn4,Int.reduceToNat,Int.reduceAdd,Int.reduceSub,Int.reduceNeg,Nat.reduceAdd,zD,z1X] at *
 ·exact yJ.intro ⟨rfl,o,v,rfl,hg,rfl⟩
 ·refine yJ.intro ?_;omega
 ·rw [List.drop_zero,List.take_take,Nat.min_self,yB hk,zQ,zG hk];rfl
 ·rw [List.drop_zero,List.take_length,List.take_length]
def z4u (f:List AV):Option ((Option yI.T)×Int) :=
 match f with
 | [.s (.clo f [⟨.pt (.pair (.pair (.int .i64) (.sl .arr3)) (.pair (.mp .arr2 (.int .i64)) (.sl (.int .i64)))),o⟩,⟨.int .i64,v⟩])]=>match Nat.beq f 126 with
   | true=>some (o,v)
   | false=>none
 | _=>none
theorem zQ1 {l:List AV} {o:Option yI.T} {v:Int} (h:z4u l=some (o,v)):l=[.s (.clo 126 [⟨.pt yI,o⟩,⟨y7,v⟩])]:=by
 unfold z4u at h;split at h
 ·split at h
  ·rename_i e;cases h;rw [zH e]
  ·cases h
 ·cases h
def zLx (f:List AV):Option Res:=match z4u f with
 | some (o,v)=>some (none,some (∀ x,o=some x->Full x),.s (.sl y7 (zA4 o v)))
 | none=>none
def z7T:List AV->Option Res
 | .s (.val (.slice none 0 0))::f=>zLx f
 | _=>none
theorem z5u:qM Tryz.prog 125 z7T:=⟨fun args r h=>by
 unfold z7T at h;split at h
 case h_2=>cases h
 unfold zLx at h;split at h
 case h_2=>cases h
 rename_i he;rw [zQ1 he];cases h
 exact zHA (yM (fn:=[]) (fr:=[]) trivial trivial) zXp Tryz.func125 rfl (by kernel_rfl) (zU rfl) fun _ h=>z6s _ _ h,_,Tryz.func125,by kernel_rfl,by kernel_rfl⟩
theorem z5i (o:Option yI.T) (v:Int) (hg: ∀ x,o=some x->Full x):zAG ⟨tyL,[(125,z7T)],[]⟩ Tryz.f86 [.s (.clo 126 [⟨.pt yI,o⟩,⟨y7,v⟩])] (fun r=>r= .s (.sl y7 (zA4 o v))):=by
 repeat' (conv=>whnf
          first|done|refine qN (by first|rfl|omega|(simp only [yO] at *;omega)) ?_|apply qH|refine qG fun _=> ?_|apply qB|apply qa|apply qo|refine qe (fun _=> ?_) (fun _=> ?_)|refine qn (fun _=> ?_) (fun _=> ?_)|refine qd (fun _=> ?_) (fun _=> ?_)|apply qt|refine qi (fun _=> ?_) (fun _=> ?_)|refine zA rfl ?_|apply qE|apply qO|exact zN|apply qq|apply qs|refine qK (by kernel_rfl) ?_|apply qr)
 all_goals try first|apply qz1|apply qz2|apply qz3|apply qz4|apply qz5|apply qz6|apply qz7|apply qz8|apply qz9|apply qz0
 all_goals try simp only [zZ,zR,yE,z6,qn1,zY,qn2,zX,ETy.dflt,qn3,qn4,Int.reduceToNat,Int.reduceAdd,Int.reduceSub,Int.reduceNeg,Nat.reduceAdd,zD] at *
 all_goals exact yJ.intro hg
def z5Q:List AV->Option Res:=zLx
theorem z1V:qM Tryz.prog 86 z5Q:=⟨fun args r h=>by
 unfold z5Q zLx at h;split at h
 case h_2=>cases h
 rename_i he;rw [zQ1 he];cases h
 exact qL (yM (fn:=[(125,z7T)]) (fr:=[]) ⟨z5u,trivial⟩ trivial) Tryz.func86 (by kernel_rfl) fun _ h=>z5i _ _ h,_,Tryz.func86,by kernel_rfl,by kernel_rfl⟩
abbrev LpS:=ReM×List (List Int)
def lpI (x:yI.T) (s:LpS) (v:Nat):LpS :=
 if had s.1 v=true then s else ((zA4 (some x) v).foldl (fun m u=>zAB (.int .i64) m u true) s.1,if (zA4 (some x) v).length>0 then s.2++[zA4 (some x) v] else s.2)
def lpS (x:yI.T) (i:Nat):LpS:=qA (lpI x) ([],[]) i
def qW (x:yI.T):List (List Int):=(lpS x x.1.1.toNat).2
def z1e (o:Option yI.T):List (List Int):=onO o [] qW
def zX0 (x:yI.T):Spec Nat where
 inv k:=(k:Int)<=x.1.1
 live k:=[(13,.s (.int .i64 k)),(3,.s (.own 1 0 (lpS x k).2.length))]
 keep:=[0,2,4,12]
 heap k:=[(1,.row (.sl y7) 54 (lpS x k).2),(2,.map y7 .bool (lpS x k).1)]
 keepH:=[0,3]
 mu k:=x.1.1.toNat - k
theorem z3O {x:yI.T} {k:Nat} (h:had (lpS x k).1 k=true):lpS x (k+1)=lpS x k:=by
 show lpI x (lpS x k) k=_;unfold lpI;rw [if_pos h]
theorem zO5 {x:yI.T} {k:Nat} (h:had (lpS x k).1 k=false):lpS x (k+1)=((zA4 (some x) k).foldl (fun m u=>zAB (.int .i64) m u true) (lpS x k).1,if (zA4 (some x) k).length>0 then (lpS x k).2++[zA4 (some x) k] else (lpS x k).2):=by
 show lpI x (lpS x k) k=_;unfold lpI;rw [if_neg (by rw [h];simp)]
theorem zQI (x:yI.T): ∀ k,(lpS x k).2.length<=k
 | 0=>zI _
 | k +1=>by
   have ih:=zQI x k;cases h:had (lpS x k).1 k with
   | true=>rw [z3O h];omega
   | false =>
     rw [zO5 h];show (if _ then _ else _:List (List Int)).length<=_;split
     ·rw [zO,List.length_singleton];omega
     ·omega
def zRg (m:ReM) (l:List Int):ReM:=l.foldl (fun m u=>zAB (.int .i64) m u true) m
def z2F (m:ReM) (L:List Int):Spec Nat where
 inv _:=True
 live _:=[]
 keep:=[0,2,3,4,5,6,12,13]
 heap k:=[(2,.map y7 .bool (zRg m (L.take k)))]
 keepH:=[0,1,3,4]
 mu _:=0
theorem zZ7 (x:yI.T) (g:Full x):zHO ⟨tyL,[(85,zBo),(87,zUV),(86,z5Q)],[]⟩ z71 Tryz.f45 [(ETy.pt yI).av (some x)] (fun r=>r= .s (.sl (.sl y7) (qW x))):=by
 repeat' (conv=>whnf
          first|done|refine qN (by first|rfl|omega|(simp only [yO] at *;omega)) ?_|apply qH|refine qG fun _=> ?_|apply qB|apply qa|apply qo|refine qe (fun _=> ?_) (fun _=> ?_)|refine qn (fun _=> ?_) (fun _=> ?_)|refine qd (fun _=> ?_) (fun _=> ?_)|apply qt|refine qi (fun _=> ?_) (fun _=> ?_)|refine zB (Nat) (zB (zX0 x) (zA (zB (0) (zA (yJ.out ?_) (zA ?_ (zA ?_ rfl)))) (fun k hk=> ?_)))|((with_reducible show (∃ y,And (Spec.inv (zX0 _) y) _));refine zB (k+1) (zA (yJ.out ?_) (zA (zA ?_ (zA ?_ rfl)) (yJ.out ?_))))|refine zB (zA4 (some x) k) (zA (yJ.out ?_) (zB (z2F (lpS x k).1 (zA4 (some x) k)) ?_))|(refine zA (fun X=> ?_) (fun X=> ?_))|(refine zA (zA ?_ (zA ?_ rfl)) (fun j hj=> ?_))|(refine zA ?_ (zA ?_ rfl))|refine zA rfl ?_|apply qE|apply qO|exact zN|apply qq|apply qs|refine qK (by kernel_rfl) ?_|apply qr)
 all_goals try first|apply qz1|apply qz2|apply qz3|apply qz4|apply qz5|apply qz6|apply qz7|apply qz8|apply qz9|apply qz0
 all_goals try simp only [zZ,zR,yE,z6,qn1,zY,qn2,zX,ETy.dflt,qn3,qn4,Int.reduceToNat,Int.reduceAdd,Int.reduceSub,Int.reduceNeg,Nat.reduceAdd,zD,zX0,z2F] at *
 all_goals have hn: @LE.le Int _ x.1.1 4096:=g.fit.2.1
 all_goals have h0: @LE.le Int _ 0 x.1.1:=g.fit.1
 all_goals try (refine yJ.intro ?_;first|omega|(unfold yO;omega))
 all_goals try have hlen:=zQI x k
 all_goals try
  have ht:had (lpS x k).1 k=true:=by assumption
  have e:=z3O ht
  (first|(rw [e];done)|(rw [e]))
 all_goals try have hf:had (lpS x k).1 k=false:=by assumption
 ·exact yJ.intro (fun y h=>by cases h;exact g)
 ·exact yJ.intro ⟨rfl,some x,k,rfl,fun y h=>(by cases h;exact g),rfl⟩
 ·unfold zRg;rw [yB hj,List.foldl_append,zQ,zG hj];rfl
 ·refine yJ.intro ?_;omega
 ·have hp:((zA4 (some x) k).length:Int)>0:=by assumption
  rw [zO5 hf,if_pos (by omega),zO];rfl
 ·have hp:((zA4 (some x) k).length:Int)>0:=by assumption
  rw [zO5 hf,if_pos (by omega)]
 ·rw [zO5 hf,List.take_length];rfl
 ·have hp: ¬ ((zA4 (some x) k).length:Int)>0:=by assumption
  rw [zO5 hf,if_neg (by omega)]
 ·have hp: ¬ ((zA4 (some x) k).length:Int)>0:=by assumption
  rw [zO5 hf,if_neg (by omega)]
 ·rw [zO5 hf,List.take_length];rfl
 ·have e:k=x.1.1.toNat:=by omega
  rw [e];rfl
theorem zVB:zHO ⟨tyL,[(85,zBo),(87,zUV),(86,z5Q)],[]⟩ z71 Tryz.f45 [(ETy.pt yI).av none] (fun r=>r= .s (.sl (.sl y7) [])):=by
 repeat' (conv=>whnf
          first|done|refine qN (by first|rfl|omega|(simp only [yO] at *;omega)) ?_|apply qH|refine qG fun _=> ?_|apply qB|apply qa|apply qo|refine qe (fun _=> ?_) (fun _=> ?_)|refine qn (fun _=> ?_) (fun _=> ?_)|refine qd (fun _=> ?_) (fun _=> ?_)|apply qt|refine qi (fun _=> ?_) (fun _=> ?_)|refine zA rfl ?_|apply qE|apply qO|exact zN|apply qq|apply qs|refine qK (by kernel_rfl) ?_|apply qr)
 all_goals try first|apply qz1|apply qz2|apply qz3|apply qz4|apply qz5|apply qz6|apply qz7|apply qz8|apply qz9|apply qz0
 all_goals try simp only [zZ,zR,yE,z6,qn1,zY,qn2,zX,ETy.dflt,qn3,qn4,Int.reduceToNat,Int.reduceAdd,Int.reduceSub,Int.reduceNeg,Nat.reduceAdd,zD] at *
 rfl
def zVK:List AV->Option Res:=zEv (.pt yI) (fun o=>some (none,some (∀ x,o=some x->Full x),.s (.sl (.sl y7) (z1e o))))
theorem zYj:qM Tryz.prog 45 zVK:=⟨zAW fun o r h=>by
 cases h;cases o with
 | none=>exact zHA (yM (fn:=[(85,zBo),(87,zUV),(86,z5Q)]) (fr:=[]) ⟨zDV,zWu,z1V,trivial⟩ trivial) zXp Tryz.func45 rfl (by kernel_rfl) (zU rfl) fun _ _=>zVB
 | some x=>exact zHA (yM (fn:=[(85,zBo),(87,zUV),(86,z5Q)]) (fr:=[]) ⟨zDV,zWu,z1V,trivial⟩ trivial) zXp Tryz.func45 rfl (by kernel_rfl) (zU rfl) fun _ h=>zZ7 x (h x rfl),_,Tryz.func45,by kernel_rfl,by kernel_rfl⟩
end S1
open Go Go.Vm Go.Proofs
namespace S1
abbrev nx (x:yI.T) (u:Int):Int:=nxt (zBf (some x)) u
structure zBx (x:yI.T) (L:List Int):Prop where
 ne:0<L.length
 cyc: ∀ i,i<L.length->bE x (L.getD ((i+1) % L.length) 0) (L.getD i 0)
 nd:L.Nodup
theorem zOa (m:NxM) (v:Int) {p:Nat} (hp:iter (nxt m) v p=v) (hl: ∀ j,1<=j->j<p->iter (nxt m) v j≠v): ∀ (r k n:Nat),k+1+r=p->r<n->zDP m v n (iter (nxt m) v (k+1))=(List.range r).map fun j=>iter (nxt m) v (k+1+j)
 | 0,k,n,h1,h2=>by
   obtain ⟨n,rfl⟩: ∃ n',n=n'+1:=⟨n - 1,by omega⟩;unfold zDP;rw [show k+1=p by omega,if_pos hp];rfl
 | r+1,k,n,h1,h2=>by
   obtain ⟨n,rfl⟩: ∃ n',n=n'+1:=⟨n - 1,by omega⟩;unfold zDP;rw [if_neg (hl (k+1) (by omega) (by omega))];have:=zOa m v hp hl r (k+1) n (by omega) (by omega);show _::zDP m v n (iter (nxt m) v (k+1+1))=_;rw [this,List.range_succ_eq_map,List.map_cons,List.map_map]
   congr 1
   refine List.map_congr_left fun j _=> ?_;show _=iter (nxt m) v (k+1+(j+1));rw [show k+1+1+j=k+1+(j+1) by omega]
theorem z52 {x:yI.T} (g:Full x) {u u':Int} (h: ∃ w,bE x w u) (h': ∃ w,bE x w u') (e:nx x u=nx x u'):u=u':=by
 obtain ⟨w,hw⟩:=h;obtain ⟨w',hw'⟩:=h';have e:nxt (zBf (some x)) u=nxt (zBf (some x)) u':=e;rw [zDd g hw,zDd g hw'] at e;subst e;exact zH6 g hw hw'
theorem zIP {x:yI.T} (g:Full x) {v:Int} (hv: ∃ w,bE x w v): ∀ i d,iter (nx x) v i=iter (nx x) v (i+d)->v=iter (nx x) v d
 | 0,d,h=>by rw [zD] at h;exact h
 | i+1,d,h=>by
   refine zIP g hv i d (z52 g (zH8 g hv i) (zH8 g hv (i+d)) ?_);rw [show i+1+d=(i+d)+1 by omega] at h;exact h
theorem zOy {x:yI.T} (g:Full x) {v:Int} (hv: ∃ w,bE x w v): ∃ p,0<p/\iter (nx x) v p=v/\(∀ j,1<=j->j<p->iter (nx x) v j≠v)/\zA4 (some x) v=(List.range p).map fun j=>iter (nx x) v j:=by
 have hex: ∃ n,n<=4097/\(1<=n/\iter (nx x) v n=v):=by
  apply yF;intro h;have:=zQ5 g hv (k:=4097) fun j h1 h2 e=>h ⟨j,h2,h1,e⟩;omega
 obtain ⟨n,hn,h⟩:=hex;obtain ⟨p,⟨h1,h2⟩,h3,h4⟩:=exists_least (P:=fun n=>1<=n/\iter (nx x) v n=v) h;have hl: ∀ j,1<=j->j<p->iter (nx x) v j≠v:=fun j a b e=>h4 j b ⟨a,e⟩;refine ⟨p,h1,h2,hl,?_⟩;have:=zOa (zBf (some x)) v h2 hl (p - 1) 0 10000 (by omega) (by omega);obtain ⟨w,hw⟩:=hv;unfold zA4;rw [if_pos (by rw [(zFU g).2 hw];rfl)];have e:zDP (zBf (some x)) v 10000 (nxt (zBf (some x)) v)=_:=this;rw [e];obtain ⟨q,rfl⟩: ∃ q,p=q+1:=⟨p - 1,by omega⟩
 rw [List.range_succ_eq_map,List.map_cons,List.map_map];refine congrArg (v:: ·) ?_;show (List.range (q+1 - 1)).map _=_;rw [Nat.add_sub_cancel];refine List.map_congr_left fun j _=> ?_;show iter _ v (0+1+j)=iter _ v (j+1);rw [show 0+1+j=j+1 by omega]
theorem zQl {f:Nat->Int} {p i:Nat} (h:i<p):((List.range p).map f).getD i 0=f i:=by
 rw [zQ,List.getElem?_map,List.getElem?_range h];rfl
theorem z3Z {x:yI.T} (g:Full x) {v:Int} (hv: ∃ w,bE x w v):zBx x (zA4 (some x) v):=by
 obtain ⟨p,h1,h2,h3,e⟩:=zOy g hv;rw [e];have hlen:((List.range p).map fun j=>iter (nx x) v j).length=p:=by rw [y8,zAv]
 refine ⟨by rw [hlen];exact h1,fun i hi=> ?_,?_⟩
 ·rw [hlen] at hi ⊢;rw [zQl hi,zQl (Nat.mod_lt _ h1)];obtain ⟨w,hw⟩:=zH8 g hv i
  have e1:iter (nx x) v ((i+1) % p)=nx x (iter (nx x) v i):=by
   by_cases hl:i+1<p
   ·rw [Nat.mod_eq_of_lt hl];rfl
   ·rw [show i+1=p by omega,Nat.mod_self];have:iter (nx x) v p=nx x (iter (nx x) v i):=by rw [show p=i+1 by omega];rfl
    rw [<- this,h2];rfl
  rw [e1];show bE x (nxt (zBf (some x)) (iter (nxt (zBf (some x))) v i)) _;rw [zDd g hw];exact hw
 ·have key: ∀ i j,i<j->j<p->iter (nx x) v i≠iter (nx x) v j:=fun i j h4 h5 e=>by
   have:=zIP g hv i (j - i) (by rw [e];congr 1;omega);exact h3 (j - i) (by omega) (by omega) this.symm
  refine List.Pairwise.map _ (fun i j h=> ?_) (List.nodup_range (n:=p) |>.imp_of_mem (S:=fun i j=>i≠j/\i<p/\j<p) fun hi hj hn=>⟨hn,zV.1 hi,zV.1 hj⟩);obtain ⟨hn,hi,hj⟩:=h;rcases Nat.lt_or_gt_of_ne hn with hlt|hgt
  ·exact key i j hlt hj
  ·exact (key j i hgt hi).symm
theorem z49 {x:yI.T} (g:Full x) {v:Int} (hv: ¬ ∃ w,bE x w v):zA4 (some x) v=[]:=by
 unfold zA4;rw [if_neg];intro h;cases e:jS y7 (zBf (some x)) v with
 | none=>rw [e] at h;cases h
 | some w=>exact hv ⟨w,(zFU g).1 e⟩
theorem zLU {L:List Int} {u:Int} (h:u∈L): ∃ i,i<L.length/\L.getD i 0=u:=by
 obtain ⟨i,hi,e⟩:=yG.1 h;exact ⟨i,hi,by rw [zQ,zG hi];exact e⟩
section
variable {x:yI.T}
theorem zBx.bord {L:List Int} (h:zBx x L) {u:Int} (hu:u∈L): ∃ w,bE x w u:=by
 obtain ⟨i,hi,e⟩:=zLU hu;have:=h.cyc i hi;rw [e] at this;exact ⟨_,this⟩
theorem zBx.next {L:List Int} (h:zBx x L) (g:Full x) {u:Int} (hu:u∈L):nx x u∈L:=by
 obtain ⟨i,hi,e⟩:=zLU hu;have:=h.cyc i hi;rw [e] at this;show nxt (zBf (some x)) u∈L;rw [zDd g this];exact jA (Nat.mod_lt _ h.ne)
theorem zBx.iters {L:List Int} (h:zBx x L) (g:Full x) {u:Int} (hu:u∈L): ∀ k,iter (nx x) u k∈L
 | 0=>hu
 | k+1=>h.next g (h.iters g hu k)
theorem zV7 (g:Full x) {v:Int} (hv: ∃ w,bE x w v) {L:List Int} (h:zBx x L) {u:Int} (h1:u∈zA4 (some x) v) (h2:u∈L):v∈L:=by
 obtain ⟨p,p1,p2,p3,e⟩:=zOy g hv;rw [e] at h1;obtain ⟨i,hi,rfl⟩:=yD.1 h1;have hi:=zV.1 hi;have:=h.iters g h2 (p - i);rw [zLK,show i+(p - i)=p by omega,p2] at this;exact this
theorem zUW (g:Full x) {v:Int} (hv: ∃ w,bE x w v):v∈zA4 (some x) v:=by
 obtain ⟨p,p1,p2,p3,e⟩:=zOy g hv;rw [e];exact yD.2 ⟨0,zV.2 p1,rfl⟩
theorem zMT (l:List Int): ∀ (m:ReM) (v:Int),had (l.foldl (fun m u=>zAB (.int .i64) m u true) m) v=true↔had m v=true\/v∈l:=by
 induction l with
 | nil=>intro m v;simp
 | cons a r ih =>
   intro m v;rw [List.foldl_cons,ih]
   by_cases e:a=v
   ·subst e
    have:had (zAB (.int .i64) m a true) a=true:=by
     show (jS (.int .i64) (zAB (.int .i64) m a true) a).getD false=true;rw [zAQ];rfl
    simp [this]
   ·have:had (zAB (.int .i64) m a true) v=had m v:=by
     show (jS (.int .i64) (zAB (.int .i64) m a true) v).getD false=_;rw [zA1 _ e];rfl
    rw [this,zT];constructor
    ·rintro (h|h)
     ·exact .inl h
     ·exact .inr (.inr h)
    ·rintro (h|h|h)
     ·exact .inl h
     ·exact absurd h.symm e
     ·exact .inr h
structure Lps (x:yI.T) (Ls:List (List Int)) (k:Int):Prop where
 ok: ∀ L∈Ls,zBx x L
 nd:Ls.flatten.Nodup
 all: ∀ u,0<=u->u<k->(∃ w,bE x w u)->u∈Ls.flatten
theorem zT8 (g:Full x): ∀ k,Lps x (lpS x k).2 k/\∀ u,had (lpS x k).1 u=true↔u∈(lpS x k).2.flatten
 | 0=>⟨⟨fun L h=>(by cases h),List.nodup_nil,fun u h1 h2 _=>by omega⟩,fun u=>⟨fun h=>(by cases h),fun h=>(by cases h)⟩⟩
 | k + 1 =>by
   obtain ⟨ih,ihm⟩:=zT8 g k;cases hh:had (lpS x k).1 k with
   | true =>
     rw [z3O hh];refine ⟨⟨ih.ok,ih.nd,fun u h1 h2 h3=> ?_⟩,ihm⟩
     by_cases e:u=k
     ·rw [e];exact (ihm k).1 hh
     ·exact ih.all u h1 (by omega) h3
   | false =>
     rw [zO5 hh]
     by_cases hv: ∃ w,bE x w (k:Int)
     ·have hw:=z3Z g hv;rw [if_pos hw.ne]
      have hdis: ∀ u∈zA4 (some x) k,u∉(lpS x k).2.flatten:=fun u hu hf=>by
       obtain ⟨L,hL,huL⟩:=List.mem_flatten.1 hf;have:=zV7 g hv (ih.ok L hL) hu huL;rw [(ihm k).2 (List.mem_flatten.2 ⟨L,hL,this⟩)] at hh;cases hh
      refine ⟨⟨fun L hL=> ?_,?_,fun u h1 h2 h3=> ?_⟩,fun u=> ?_⟩
      ·rcases yC.1 hL with hL|hL
       ·exact ih.ok L hL
       ·rw [zF] at hL;rw [hL];exact hw
      ·rw [List.flatten_append,List.nodup_append];refine ⟨ih.nd,by simpa using hw.nd,fun a ha b hb e=> ?_⟩;have hb:b∈zA4 (some x) k:=by simpa using hb
       subst e;exact hdis a hb ha
      ·rw [List.flatten_append,yC]
       by_cases e:u=k
       ·rw [e];exact .inr (by simpa using zUW g hv)
       ·exact .inl (ih.all u h1 (by omega) h3)
      ·rw [List.flatten_append,yC,zMT,ihm u];simp
     ·rw [z49 g hv];rw [if_neg (by simp)];refine ⟨⟨ih.ok,ih.nd,fun u h1 h2 h3=> ?_⟩,ihm⟩
      by_cases e:u=k
      ·rw [e] at h3;exact absurd h3 hv
      ·exact ih.all u h1 (by omega) h3
theorem zI2 (g:Full x):Lps x (qW x) x.1.1:=by
 have:=(zT8 g x.1.1.toNat).1;have h0:0<=x.1.1:=g.fit.1;rw [zAZ h0] at this;exact this
theorem zXr (g:Full x) {u:Int} :u∈(qW x).flatten↔∃ w,bE x w u:=by
 have h:=zI2 g;constructor
 ·intro hu;obtain ⟨L,hL,huL⟩:=List.mem_flatten.1 hu;exact (h.ok L hL).bord huL
 ·rintro ⟨w,hw⟩;have:=zJ8 g hw;exact h.all u this.2.1.1 this.2.1.2 ⟨w,hw⟩
end
end S1
open Go Go.Vm Go.Proofs
namespace S1
def atV (v:Int) (t:P3):Bool:=decide (z7 t v)
end S1
open Go Go.Vm Go.Proofs
namespace S1
theorem zNb (a b:Int) (t:P3):both a b t=(atV a t&&atV b t):=by unfold both atV;exact Bool.decide_and _ _
theorem zKk {p q:P3->Bool} (h: ∀ t,p t=q t) (l:List P3):(l.filter p).length=(l.filter q).length:=by rw [show p=q from funext h]
theorem z0Z {x:yI.T} (g:Full x) (hs:jU (InN x.1.1) x.1.2) {a b:Int} (hn:zAO x a b=true):(x.1.2.filter (both a b)).length=if qJ x (a,b)<0\/zAF x (qJ x (a,b))<0 then 1 else 2:=by
 by_cases h:qJ x (a,b)<0
 ·rw [if_pos (.inl h)];obtain ⟨d,d1,d2⟩:=(zHg g).1 hn;rcases d2 with e|e
  ·have:=g.facing d1;rw [e] at this;rw [this] at h;exact absurd (yH.1 d1).1 (by omega)
  ·have k:=zR3 g hs d1;rw [e] at k
   have ho: ¬ 0<=zAF x d:=fun h0=>by
    obtain ⟨_,h2,h3⟩:=g.opp h0;have:=g.facing h2;rw [h3,e] at this;have h2:=(yH.1 h2).1;have this:qJ x (a,b)=zAF x d:=this;omega
   rw [if_neg ho] at k;rw [<- k];exact zKk (fun t=>by rw [zNb,zNb,Bool.and_comm]) _
 ·have hf:qJ x (a,b)>=0:=by omega
  obtain ⟨c,c1,c2⟩:=zEX.1 ((zC7 g).1 hf);have e:=g.facing c1;rw [c2] at e;have k:=zR3 g hs c1;rw [c2] at k;rw [e] at h ⊢;have k:(x.1.2.filter (both a b)).length=if 0<=zAF x c then 2 else 1:=k;rw [k]
  by_cases ho:0<=zAF x c
  ·rw [if_pos ho,if_neg (by omega)]
  ·rw [if_neg ho,if_pos (by omega)]
end S1
