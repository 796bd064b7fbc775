/- A part of the proofs of the laws. -/
import Derived.Test.YtlhoihabllompaaGreatW4toY3
import Derived.Test.YtlhoihabllompaaGreatVmRng3toF5
import Derived.Test.YtlhoihabllompaaGreatT22toF5a
import Derived.Test.YtlhoihabllompaaGreatVmRngMtoVmSeq
import Derived.Test.YtlhoihabllompaaGreatF8atoW3
set_option linter.unusedSimpArgs false
set_option linter.unusedVariables false
set_option maxHeartbeats 8000000
set_option maxRecDepth 100000
open Go Go.Vm Go.Proofs
namespace S1
def zY2 (m:ReM) (l:List Int):ReM:=l.foldl (fun m c=>zAB (.int .i64) m (c.tdiv 3) true) m
def stK (x:yI.T) (e:Int×Int):Nat->ReM
 | 0=>[]
 | k+1=>zY2 (stK x e k) (yT (some x) ([e.1,e.2].getD k 0))
def zCp (x:yI.T) (e:Int×Int):ReM:=stK x e 2
def zWu (x:yI.T) (e:Int×Int):Spec Nat where
 inv k:=k<=2
 live k:=[(11,.s (.int .i64 k))]
 keep:=[0,3,5,10]
 heap k:=[(1,.map y7 .bool (stK x e k))]
 keepH:=[0,2]
 mu k:=2 - k
def z1K (m:ReM) (L:List Int):Spec Nat where
 inv _:=True
 live _:=[]
 keep:=[0,3,5,10,11]
 heap k:=[(1,.map y7 .bool (zY2 m (L.take k)))]
 keepH:=[0,2,3,4]
 mu _:=0
theorem z6W {m:ReM} {L:List Int} {j:Nat} (hj:j<L.length):zY2 m (L.take (j+1))=zAB (.int .i64) (zY2 m (L.take j)) ((L.getD j 0).tdiv 3) true:=by
 unfold zY2;rw [yB hj,List.foldl_append,zQ,zG hj];rfl
theorem z0X {c:Int} (h:InK .i64 c):yP (c.tdiv 3):=by
 have h:=InK.i64.1 h;unfold yP at *;rcases Int.le_total 0 c with k|k
 ·rw [Int.tdiv_eq_ediv_of_nonneg k];omega
 ·have e:(-c).tdiv 3= -(c.tdiv 3):=Int.neg_tdiv ..;rw [Int.tdiv_eq_ediv_of_nonneg (by omega)] at e;omega
attribute [local irreducible] zY2 yT
theorem z3a (x:yI.T) (a b:Int) (g:Good x):zHZ ⟨tyL,[(90,zFG)],[]⟩ z7Y Tryz.f57 [(ETy.pt yI).av (some x),ETy.arr2.av (a,b)] (fun r=>r= .s (.mp y7 .bool (zCp x (a,b)))):=by
 repeat' (conv=>whnf
          first|done|refine qN (by first|rfl|omega|(simp only [yP] at *;omega)) ?_|apply qH|refine qG fun _=> ?_|apply qB|apply qa|apply qo|refine qe (fun _=> ?_) (fun _=> ?_)|refine qn (fun _=> ?_) (fun _=> ?_)|refine qd (fun _=> ?_) (fun _=> ?_)|apply qt|refine qi (fun _=> ?_) (fun _=> ?_)|refine zB (Nat) (zB (zWu x (a,b)) (zA (zB (0) (zA (yK.out ?_) (zA ?_ (zA ?_ rfl)))) (fun k hk=> ?_)))|((with_reducible show (∃ y,And (Spec.inv (zWu _ _) y) _));refine zB (k+1) (zA (yK.out ?_) (zA (zA ?_ (zA ?_ rfl)) (yK.out ?_))))|refine zB (yT (some x) ([a,b].getD k 0)) (zA (yK.out ?_) (zB (z1K (stK x (a,b) k) (yT (some x) ([a,b].getD k 0))) ?_))|(refine zA (fun X=> ?_) (fun X=> ?_))|(refine zA (zA ?_ (zA ?_ rfl)) (fun j hj=> ?_))|(refine zA ?_ (zA ?_ rfl))|refine zA rfl ?_|apply qE|apply qO|exact zN|apply qq|apply qs|refine qK (by kernel_rfl) ?_|apply qr)
 all_goals try first|apply qz1|apply qz2|apply qz3|apply qz4|apply qz5|apply qz6|apply qz7|apply qz8|apply qz9|apply qz0
 all_goals try simp only [zZ,zR,yD,z6,qn1,zY,qn2,zX,ETy.dflt,qn3,qn4,Int.reduceToNat,Int.reduceAdd,Int.reduceSub,Int.reduceNeg,Nat.reduceAdd,zD,zWu,z1K] at *
 all_goals try (refine yK.intro ?_;omega)
 ·have hk2:k<2:=by omega
  refine yK.intro ⟨rfl,some x,[a,b].getD k 0,rfl,fun y e=>by cases e;exact g,rfl⟩
 ·rw [List.take_zero];with_unfolding_all rfl
 ·exact yK.intro ⟨by decide,z0X (zK6 g _ _ (jA hj))⟩
 ·exact z6W hj
 ·rw [List.take_length];rfl
 ·have e:k=2:=by omega
  subst e;exact y9.intro rfl
def zLO:List AV->Option Res:=zCs (.pt yI) .arr2 (fun o e=>match o with|none=>none|some x=>some (none,some (Good x),.s (.mp y7 .bool (zCp x e))))
theorem zLB:qL Tryz.prog 57 zLO:=⟨jC fun o e r h=>by
 cases o with
 | none=>cases h
 | some x=>cases h;exact zHE (yN (fn:=[(90,zFG)]) (fr:=[]) ⟨zIy,trivial⟩ trivial) z7b Tryz.func57 rfl (by kernel_rfl) (zU rfl) fun _ h=>z3a x e.1 e.2 h,_,Tryz.func57,by kernel_rfl,by kernel_rfl⟩
def z7V:zCt:=fun _ _ _=>False
theorem zWp:zDR Tryz.prog z7V:=fun _ _ _ h=>h.elim
def zJq (a b:ReM):Bool:=a.all fun p=> !had b p.1
def zUG (b:ReM):Spec IBM where
 inv pre:= ∀ p∈pre,had b p.1=false
 live _:=[]
 keep:=[1,7]
 heap _:=[]
 keepH:=[]
 mu _:=0
theorem zZL (a b:ReM):zHZ ⟨tyL,[],[]⟩ z7V Tryz.f56 [(ETy.mp y7 .bool).av a,(ETy.mp y7 .bool).av b] (fun r=>r= .s (.bool (zJq a b))):=by
 repeat' (conv=>whnf
          first|done|refine qN (by first|rfl|omega|(simp only [yP] at *;omega)) ?_|apply qH|refine qG fun _=> ?_|apply qB|apply qa|apply qo|refine qe (fun _=> ?_) (fun _=> ?_)|refine qn (fun _=> ?_) (fun _=> ?_)|refine qd (fun _=> ?_) (fun _=> ?_)|apply qt|refine qi (fun _=> ?_) (fun _=> ?_)|refine (fun (rIt:Nat)=> ?_)|refine z7M.intro (it:=7) (zB (zUG b) (zA (zA (yK.out ?_) (zA ?_ (zA ?_ rfl))) (zA (fun pre e he=>zA rfl ?_) (fun pre hp=>zA rfl ?_))))|((with_reducible show (And (Spec.inv (zUG b) _) _));refine zA (yK.out ?_) (zA ?_ (zA ?_ rfl)))|refine zA rfl ?_|apply qE|apply qO|exact zN|apply qq|apply qs|refine qK (by kernel_rfl) ?_|apply qr)
 all_goals try first|apply qz1|apply qz2|apply qz3|apply qz4|apply qz5|apply qz6|apply qz7|apply qz8|apply qz9|apply qz0
 all_goals try simp only [zZ,zR,yD,z6,qn1,zY,qn2,zX,ETy.dflt,qn3,qn4,Int.reduceToNat,Int.reduceAdd,Int.reduceSub,Int.reduceNeg,Nat.reduceAdd,zD,zUG] at *
 ·exact yK.intro fun p h=>by cases h
 ·rename_i h;refine Eq.symm (Bool.eq_false_iff.2 fun k=> ?_);have:=zK.1 k _ he.2.2.2.1;rw [show had b e.fst=true from h] at this;cases this
 ·rename_i h;refine yK.intro fun p hp=> ?_;rcases yC.1 hp with k|k
  ·exact he.1 p k
  ·rw [zF.1 k];exact h
 ·exact (zK.2 fun p k=>by rw [hp.1 p ((hp.2.2 p).2 k)];rfl).symm
def zNs:List AV->Option Res:=zCs (.mp y7 .bool) (.mp y7 .bool) (fun a b=>some (none,none,.s (.bool (zJq a b))))
theorem zQn:qL Tryz.prog 56 zNs:=⟨jC fun a b r h=>by
 cases h;exact zHE (yN (fn:=[]) (fr:=[]) trivial trivial) zWp Tryz.func56 rfl (by kernel_rfl) (zU rfl) fun _ _=>zZL a b,_,Tryz.func56,by kernel_rfl,by kernel_rfl⟩
def apB (x:yI.T) (e f:Int×Int):Bool:=zAN x e.1 e.2&&(zAN x f.1 f.2&&zJq (zCp x e) (zCp x f))
attribute [local irreducible] zCp zJq zAN
theorem zWU (x:yI.T) (a b c d:Int) (g:Good x):zAF ⟨tyL,[(55,zKy),(57,zLO),(56,zNs)],[]⟩ Tryz.f17 [(ETy.pt yI).av (some x),ETy.arr2.av (a,b),ETy.arr2.av (c,d)] (fun r=>r= .s (.bool (apB x (a,b) (c,d)))):=by
 repeat' (conv=>whnf
          first|done|refine qN (by first|rfl|omega|(simp only [yP] at *;omega)) ?_|apply qH|refine qG fun _=> ?_|apply qB|apply qa|apply qo|refine qe (fun _=> ?_) (fun _=> ?_)|refine qn (fun _=> ?_) (fun _=> ?_)|refine qd (fun _=> ?_) (fun _=> ?_)|apply qt|refine qi (fun _=> ?_) (fun _=> ?_)|refine zA rfl ?_|apply qE|apply qO|exact zN|apply qq|apply qs|refine qK (by kernel_rfl) ?_|apply qr)
 all_goals try first|apply qz1|apply qz2|apply qz3|apply qz4|apply qz5|apply qz6|apply qz7|apply qz8|apply qz9|apply qz0
 all_goals try simp only [zZ,zR,yD,z6,qn1,zY,qn2,zX,ETy.dflt,qn3,qn4,Int.reduceToNat,Int.reduceAdd,Int.reduceSub,Int.reduceNeg,Nat.reduceAdd,zD,apB] at *
 all_goals try first
  | exact yK.intro g
  | exact yK.intro (fun y h=>by cases h;exact g)
 ·rw [show zAN x a b=true by assumption,show zAN x c d=true by assumption];rfl
 ·rw [show zAN x a b=true by assumption,show zAN x c d=false by assumption];rfl
 ·rw [show zAN x a b=false by assumption];rfl
theorem zSn (a b c d:Int):zAF ⟨tyL,[(55,zKy),(57,zLO),(56,zNs)],[]⟩ Tryz.f17 [(ETy.pt yI).av none,ETy.arr2.av (a,b),ETy.arr2.av (c,d)] (fun r=>r= .s (.bool false)):=by
 repeat' (conv=>whnf
          first|done|refine qN (by first|rfl|omega|(simp only [yP] at *;omega)) ?_|apply qH|refine qG fun _=> ?_|apply qB|apply qa|apply qo|refine qe (fun _=> ?_) (fun _=> ?_)|refine qn (fun _=> ?_) (fun _=> ?_)|refine qd (fun _=> ?_) (fun _=> ?_)|apply qt|refine qi (fun _=> ?_) (fun _=> ?_)|refine zA rfl ?_|apply qE|apply qO|exact zN|apply qq|apply qs|refine qK (by kernel_rfl) ?_|apply qr)
 all_goals try first|apply qz1|apply qz2|apply qz3|apply qz4|apply qz5|apply qz6|apply qz7|apply qz8|apply qz9|apply qz0
 all_goals try simp only [zZ,zR,yD,z6,qn1,zY,qn2,zX,ETy.dflt,qn3,qn4,Int.reduceToNat,Int.reduceAdd,Int.reduceSub,Int.reduceNeg,Nat.reduceAdd,zD] at *
 all_goals rfl
def zPE:List AV->Option Res:=zOh (.pt yI) .arr2 .arr2 (fun o e f=>some (none,some (∀ x,o=some x->Good x),.s (.bool (match o with|some x=>apB x e f|none=>false))))
theorem zVf:qL Tryz.prog 17 zPE:=⟨zDV fun o e f r h=>by
 cases h;cases o with
 | none=>exact qM (yN (fn:=[(55,zKy),(57,zLO),(56,zNs)]) (fr:=[]) ⟨zMA,zLB,zQn,trivial⟩ trivial) Tryz.func17 (by kernel_rfl) fun _ _=>zSn e.1 e.2 f.1 f.2
 | some x=>exact qM (yN (fn:=[(55,zKy),(57,zLO),(56,zNs)]) (fr:=[]) ⟨zMA,zLB,zQn,trivial⟩ trivial) Tryz.func17 (by kernel_rfl) fun _ h=>zWU x e.1 e.2 f.1 f.2 (h x rfl),_,Tryz.func17,by kernel_rfl,by kernel_rfl⟩
end S1
open Go Go.Vm Go.Proofs
namespace S1
def zY3 (x:yI.T) (c:Nat):Option (Int×Int):=if zAG x c<0 then some (jP x c) else none
def zL6 (x:yI.T):List (Int×Int):=(List.range (3*x.1.2.length)).filterMap (zY3 x)
def z5U (o:Option yI.T):List (Int×Int):=onO o [] zL6
def zVO (x:yI.T):Spec Nat where
 inv k:=k<=3*x.1.2.length
 live k:=[(10,.s (.int .i64 k)),(3,.s (.own 1 0 ((List.range k).filterMap (zY3 x)).length))]
 keep:=[0,9]
 heap k:=[(1,.row .arr2 33 ((List.range k).filterMap (zY3 x)))]
 keepH:=[0]
 mu k:=3*x.1.2.length - k
theorem zZK (x:yI.T) (g:Good x):zAF ⟨tyL,[(74,zB2),(37,zSv),(77,zLw)],[]⟩ Tryz.f99 [(ETy.pt yI).av (some x)] (fun r=>r= .s (.sl .arr2 (zL6 x))):=by
 have hl:x.1.2.length<=8192:=g.fit.2.2.1
 repeat' (conv=>whnf
          first|done|refine qN (by first|rfl|omega|(simp only [yP] at *;omega)) ?_|apply qH|refine qG fun _=> ?_|apply qB|apply qa|apply qo|refine qe (fun _=> ?_) (fun _=> ?_)|refine qn (fun _=> ?_) (fun _=> ?_)|refine qd (fun _=> ?_) (fun _=> ?_)|apply qt|refine qi (fun _=> ?_) (fun _=> ?_)|(refine qT 5 rfl ?_;refine Or.inr (zB (Nat) (zB (zVO x) (zA (zB (0) (zA (yK.out ?_) (zA ?_ (zA ?_ rfl)))) (fun k hk=> ?_)))))|((with_reducible show (∃ y,And (Spec.inv (zVO _) y) _));refine zB (k+1) (zA (yK.out ?_) (zA (zA ?_ (zA ?_ rfl)) (yK.out ?_))))|refine zA rfl ?_|apply qE|apply qO|exact zN|apply qq|apply qs|refine qK (by kernel_rfl) ?_|apply qr)
 all_goals try first|apply qz1|apply qz2|apply qz3|apply qz4|apply qz5|apply qz6|apply qz7|apply qz8|apply qz9|apply qz0
 all_goals try simp only [zZ,zR,yD,z6,qn1,zY,qn2,zX,ETy.dflt,qn3,qn4,Int.reduceToNat,Int.reduceAdd,Int.reduceSub,Int.reduceNeg,Nat.reduceAdd,zD,zVO] at *
 all_goals try first|(refine yK.intro ?_;omega)|(refine yK.intro ?_;have:=zC6 (zY3 x) k;omega)
 ·exact yK.intro (show (k:Int)<=1000000 by omega)
 ·exact yK.intro (show (k:Int)<=1000000 by omega)
 ·rename_i h;rw [qZ,zY3,if_pos h,zO];rfl
 ·rename_i h;rw [qZ];conv=>lhs;rhs;rw [zY3,if_pos h]
  rfl
 ·rename_i h;rw [qZ];conv=>lhs;rhs;rhs;rw [zY3,if_neg h]
  simp
 ·rename_i h;rw [qZ];conv=>lhs;rhs;rw [zY3,if_neg h]
  simp
 ·have e:k=3*x.1.2.length:=by omega
  rw [e];rfl
theorem zT6:zAF ⟨tyL,[(74,zB2),(37,zSv),(77,zLw)],[]⟩ Tryz.f99 [(ETy.pt yI).av none] (fun r=>r= .s (.sl .arr2 [])):=by
 repeat' (conv=>whnf
          first|done|refine qN (by first|rfl|omega|(simp only [yP] at *;omega)) ?_|apply qH|refine qG fun _=> ?_|apply qB|apply qa|apply qo|refine qe (fun _=> ?_) (fun _=> ?_)|refine qn (fun _=> ?_) (fun _=> ?_)|refine qd (fun _=> ?_) (fun _=> ?_)|apply qt|refine qi (fun _=> ?_) (fun _=> ?_)|refine zA rfl ?_|apply qE|apply qO|exact zN|apply qq|apply qs|refine qK (by kernel_rfl) ?_|apply qr)
 all_goals try first|apply qz1|apply qz2|apply qz3|apply qz4|apply qz5|apply qz6|apply qz7|apply qz8|apply qz9|apply qz0
 all_goals try simp only [zZ,zR,yD,z6,qn1,zY,qn2,zX,ETy.dflt,qn3,qn4,Int.reduceToNat,Int.reduceAdd,Int.reduceSub,Int.reduceNeg,Nat.reduceAdd,zD] at *
 rfl
def zIH:List AV->Option Res:=zEv (.pt yI) (fun o=>some (none,some (∀ x,o=some x->Good x),.s (.sl .arr2 (z5U o))))
theorem zMF:qL Tryz.prog 99 zIH:=⟨zAV fun o r h=>by
 cases h;cases o with
 | none=>exact qM (yN (fn:=[(74,zB2),(37,zSv),(77,zLw)]) (fr:=[]) ⟨zDr,zKJ,zLI,trivial⟩ trivial) Tryz.func99 (by kernel_rfl) fun _ _=>zT6
 | some x=>exact qM (yN (fn:=[(74,zB2),(37,zSv),(77,zLw)]) (fr:=[]) ⟨zDr,zKJ,zLI,trivial⟩ trivial) Tryz.func99 (by kernel_rfl) fun _ h=>zZK x (h x rfl),_,Tryz.func99,by kernel_rfl,by kernel_rfl⟩
abbrev NxM:=List ((ETy.int .i64).T×(ETy.int .i64).T)
def z23 (es:List (Int×Int)) (k:Nat):NxM:=qA (fun m j=>zAB (.int .i64) m (es.getD j (0,0)).2 (es.getD j (0,0)).1) [] k
def zBg (o:Option yI.T):NxM:=z23 (z5U o) (z5U o).length
def zUJ (es:List (Int×Int)):Spec Nat where
 inv k:=k<=es.length
 live k:=[(10,.s (.int .i64 k))]
 keep:=[3,8,9]
 heap k:=[(0,.map y7 y7 (z23 es k))]
 keepH:=[]
 mu k:=es.length - k
theorem zVb (o:Option yI.T) (hg: ∀ x,o=some x->Good x):zAF ⟨tyL,[(99,zIH)],[]⟩ Tryz.f127 [(ETy.pt yI).av o] (fun r=>r= .s (.mp y7 y7 (zBg o))):=by
 repeat' (conv=>whnf
          first|done|refine qN (by first|rfl|omega|(simp only [yP] at *;omega)) ?_|apply qH|refine qG fun _=> ?_|apply qB|apply qa|apply qo|refine qe (fun _=> ?_) (fun _=> ?_)|refine qn (fun _=> ?_) (fun _=> ?_)|refine qd (fun _=> ?_) (fun _=> ?_)|apply qt|refine qi (fun _=> ?_) (fun _=> ?_)|(refine qT 3 rfl ?_;refine Or.inr (zB (Nat) (zB (zUJ (z5U o)) (zA (zB (0) (zA (yK.out ?_) (zA ?_ (zA ?_ rfl)))) (fun k hk=> ?_)))))|((with_reducible show (∃ y,And (Spec.inv (zUJ _) y) _));refine zB (k+1) (zA (yK.out ?_) (zA (zA ?_ (zA ?_ rfl)) (yK.out ?_))))|refine zA rfl ?_|apply qE|apply qO|exact zN|apply qq|apply qs|refine qK (by kernel_rfl) ?_|apply qr)
 all_goals try first|apply qz1|apply qz2|apply qz3|apply qz4|apply qz5|apply qz6|apply qz7|apply qz8|apply qz9|apply qz0
 all_goals try simp only [zZ,zR,yD,z6,qn1,zY,qn2,zX,ETy.dflt,qn3,qn4,Int.reduceToNat,Int.reduceAdd,Int.reduceSub,Int.reduceNeg,Nat.reduceAdd,zD,zUJ] at *
 all_goals try (refine yK.intro ?_;omega)
 ·have e:k=(z5U o).length:=by omega
  rw [e];exact y9.intro rfl
def zIZ:List AV->Option Res:=zEv (.pt yI) (fun o=>some (none,some (∀ x,o=some x->Good x),.s (.mp y7 y7 (zBg o))))
theorem zNl:qL Tryz.prog 127 zIZ:=⟨zAV fun o r h=>by cases h;exact qM (yN (fn:=[(99,zIH)]) (fr:=[]) ⟨zMF,trivial⟩ trivial) Tryz.func127 (by kernel_rfl) fun _ h=>zVb o h,_,Tryz.func127,by kernel_rfl,by kernel_rfl⟩
theorem z3D {fn} (o:Option yI.T) (v:Int):zAF ⟨tyL,fn,[]⟩ Tryz.f87 [(ETy.pt yI).av o,y7.av v] (fun r=>r= .s (.clo 126 [⟨.pt yI,o⟩,⟨y7,v⟩])):=by
 repeat' (conv=>whnf
          first|done|refine qN (by first|rfl|omega|(simp only [yP] at *;omega)) ?_|apply qH|refine qG fun _=> ?_|apply qB|apply qa|apply qo|refine qe (fun _=> ?_) (fun _=> ?_)|refine qn (fun _=> ?_) (fun _=> ?_)|refine qd (fun _=> ?_) (fun _=> ?_)|apply qt|refine qi (fun _=> ?_) (fun _=> ?_)|refine zA rfl ?_|apply qE|apply qO|exact zN|apply qq|apply qs|refine qK (by kernel_rfl) ?_|apply qr)
 all_goals try first|apply qz1|apply qz2|apply qz3|apply qz4|apply qz5|apply qz6|apply qz7|apply qz8|apply qz9|apply qz0
 all_goals try simp only [zZ,zR,yD,z6,qn1,zY,qn2,zX,ETy.dflt,qn3,qn4,Int.reduceToNat,Int.reduceAdd,Int.reduceSub,Int.reduceNeg,Nat.reduceAdd,zD] at *
def zXJ:List AV->Option Res:=zCs (.pt yI) y7 (fun o v=>some (none,none,.s (.clo 126 [⟨.pt yI,o⟩,⟨y7,v⟩])))
theorem zUH:qL Tryz.prog 87 zXJ:=⟨jC fun o v r h=>by cases h;exact qM (yN (fn:=[]) (fr:=[]) trivial trivial) Tryz.func87 (by kernel_rfl) fun _ _=>z3D o v,_,Tryz.func87,by kernel_rfl,by kernel_rfl⟩
def nxt (m:NxM) (u:Int):Int:=(jS y7 m u).getD 0
def zD5 (m:NxM) (v:Int):Nat->Int->List Int
 | 0,_=>[]
 | n+1,u=>if u=v then [] else u::zD5 m v n (nxt m u)
def zA5 (o:Option yI.T) (v:Int):List Int:=if (jS y7 (zBg o) v).isSome then v::zD5 (zBg o) v 10000 (nxt (zBg o) v) else []
end S1
open Go Go.Vm Go.Proofs
namespace S1
section
variable {x:yI.T}
theorem zGQ {e:Int×Int} :e∈zL6 x↔bE x e.1 e.2:=by
 unfold zL6;rw [List.mem_filterMap];constructor
 ·rintro ⟨c,hc,h⟩;have hc:=zW.1 hc;unfold zY3 at h;split at h
  ·rename_i ho;cases h;exact ⟨c,yH.2 ⟨by omega,by omega⟩,ho,rfl⟩
  ·cases h
 ·rintro ⟨c,h1,h2,h3⟩;have hc:=yH.1 h1;have e1:((c.toNat:Nat):Int)=c:=by omega
  refine ⟨c.toNat,zW.2 (by omega),?_⟩;unfold zY3;rw [e1,if_pos h2,h3]
end
theorem zRB (es:List (Int×Int)) (u:Int): ∀ k,(∀ w,jS y7 (z23 es k) u=some w->∃ j,j<k/\es.getD j (0,0)=(w,u))/\((∃ j,j<k/\(es.getD j (0,0)).2=u)->(jS y7 (z23 es k) u).isSome=true)
 | 0=>⟨fun w h=>(by cases h),fun ⟨j,h,_⟩=>by omega⟩
 | k + 1=>by
   obtain ⟨h1,h2⟩:=zRB es u k;have e:z23 es (k+1)=zAB y7 (z23 es k) (es.getD k (0,0)).2 (es.getD k (0,0)).1:=rfl;rw [e]
   by_cases he:(es.getD k (0,0)).2=u
   ·rw [he,zAQ];exact ⟨fun w hw=>⟨k,by omega,by injection hw with hw;exact Prod.ext hw he⟩,fun _=>rfl⟩
   ·rw [zA1 _ he];refine ⟨fun w hw=> ?_,fun ⟨j,hj,hju⟩=>h2 ⟨j,?_,hju⟩⟩
    ·obtain ⟨j,hj,e⟩:=h1 w hw;exact ⟨j,by omega,e⟩
    ·by_cases e:j=k
     ·subst e;exact absurd hju he
     ·omega
theorem zFX {x:yI.T} (g:Full x) {w u:Int} :jS y7 (zBg (some x)) u=some w↔bE x w u:=by
 obtain ⟨h1,h2⟩:=zRB (zL6 x) u (zL6 x).length
 have mem: ∀ j,j<(zL6 x).length->(zL6 x).getD j (0,0)∈zL6 x:=fun j hj=>by
  rw [zQ,zG hj];exact yU hj
 have fw: ∀ w,jS y7 (zBg (some x)) u=some w->bE x w u:=fun w h=>by
  obtain ⟨j,hj,e⟩:=h1 w h;have:=zGQ.1 (mem j hj);rw [e] at this;exact this
 refine ⟨fw w,fun h=> ?_⟩;obtain ⟨j,hj,e⟩:=yG.1 ((zGQ (x:=x) (e:=(w,u))).2 h);have:=h2 ⟨j,hj,by rw [zQ,zG hj];show ((zL6 x)[j]).2=u;rw [e]⟩;have e3:zBg (some x)=z23 (zL6 x) (zL6 x).length:=rfl;rw [<- e3] at this;cases h4:jS y7 (zBg (some x)) u with
 | none=>rw [h4] at this;cases this
 | some w'=>rw [zYW g h (fw w' h4)]
theorem zDf {x:yI.T} (g:Full x) {w u:Int} (h:bE x w u):nxt (zBg (some x)) u=w:=by
 unfold nxt;rw [(zFX g).2 h];rfl
theorem zQ1 {x:yI.T} (g:Full x) {v:Int} (hv: ∃ w,bE x w v) {k:Nat} (h: ∀ j,1<=j->j<=k->iter (nxt (zBg (some x))) v j≠v):k<=4096:=by
 have key: ∀ j,∃ w,bE x w (iter (nxt (zBg (some x))) v j):=fun j=>by
  induction j with
  | zero=>exact hv
  | succ j ih =>
    obtain ⟨w,hw⟩:=ih;show ∃ w,bE x w (nxt (zBg (some x)) (iter (nxt (zBg (some x))) v j));rw [zDf g hw];exact zCn g hw
 let f:Int->Int:=fun u=>(jS y7 (zBg (some x)) u).getD (-1)
 have hf: ∀ j,iter f v j=iter (nxt (zBg (some x))) v j:=fun j=>by
  induction j with
  | zero=>rfl
  | succ j ih =>
    obtain ⟨w,hw⟩:=key j;show f (iter f v j)=nxt _ _;rw [ih,zDf g hw];show (jS y7 (zBg (some x)) _).getD (-1)=w;rw [(zFX g).2 hw];rfl
 have fsome: ∀ c,0<=f c->bE x (f c) c:=fun c hc=>by
  cases e:jS y7 (zBg (some x)) c with
  | none => have:f c= -1:=by show (jS y7 (zBg (some x)) c).getD (-1)= -1;rw [e];rfl
            omega
  | some w =>
    have:f c=w:=by show (jS y7 (zBg (some x)) c).getD (-1)=w;rw [e];rfl
    rw [this];exact (zFX g).1 e
 have hn:=g.fit
 have:=pig (f:=f) (L:=x.1.1.toNat) (c:=v) (k:=k) (fun c hc=>by have:=(zJ8 g (fsome c hc)).1;omega) (fun a b ha e=>by
  have k1:=fsome a ha;have k2:=fsome b (by omega);rw [<- e] at k2
  exact zHs g k1 k2) (fun j h1 h2=>by
  rw [hf];obtain ⟨w,hw⟩:=key j
  exact ⟨(zJ8 g hw).2.1.1,h j h1 h2⟩)
 have h1:x.1.1<=4096:=hn.2.1;have h2:x.1.1.toNat<=4096:=Int.toNat_le_toNat h1;exact Nat.le_trans this h2
theorem zHf {x:yI.T} (g:Full x) {v:Int} (hv: ∃ w,bE x w v): ∀ j,∃ w,bE x w (iter (nxt (zBg (some x))) v j)
 | 0=>hv
 | j+1=>by
   obtain ⟨w,hw⟩:=zHf g hv j;show ∃ w,bE x w (nxt (zBg (some x)) (iter (nxt (zBg (some x))) v j));rw [zDf g hw];exact zCn g hw
end S1
open Go Go.Vm Go.Proofs
namespace S1
theorem zEh {m:NxM} {v u:Int} {k:Nat} (h:k<=4096):zD5 m v (10000 - k) u=if u=v then [] else u::zD5 m v (10000 - (k+1)) (nxt m u):=by
 rw [show 10000 - k=(10000 - (k+1))+1 by omega];rfl
def zTP (m:NxM) (v:Int):Spec Nat where
 inv k:=(∀ j,1<=j->j<=k->iter (nxt m) v j≠v)/\(zD5 m v 10000 (nxt m v)).drop k=zD5 m v (10000 - k) (iter (nxt m) v (k+1))
 live k:=[(5,.s (.int .i64 (iter (nxt m) v (k+1))))]
 keep:=[0,1,2,4]
 heap _:=[]
 keepH:=[]
 mu k:=10000 - k
theorem z0m (x:yI.T) (v:Int) (g:Full x):zOs ⟨tyL,[(127,zIZ)],[]⟩ Tryz.f126 [⟨.pt yI,some x⟩,⟨y7,v⟩] (zA5 (some x) v):=by
 repeat' (conv=>whnf
          first|done|refine qN (by first|rfl|omega|(simp only [yP] at *;omega)) ?_|apply qH|refine qG fun _=> ?_|apply qB|apply qa|apply qo|refine qe (fun _=> ?_) (fun _=> ?_)|refine qn (fun _=> ?_) (fun _=> ?_)|refine qd (fun _=> ?_) (fun _=> ?_)|apply qt|refine qi (fun _=> ?_) (fun _=> ?_)|refine (fun (l:Nat)=> ?_)|refine zB Nat (zB (zTP (zBg (some x)) v) (zB (fun k=>v::(zD5 (zBg (some x)) v 10000 (nxt (zBg (some x)) v)).take k) (zA (zB 0 (zA (yK.out ?_) (zA (zAl.out ?_) (zA ?_ (zA ?_ rfl))))) (fun k hk=> ?_))))|((with_reducible show (∃ y,And (Spec.inv (zTP _ _) y) _));refine zB (k+1) (zA (yK.out ?_) (zA (zAl.out ?_) (zA (zA ?_ (zA ?_ rfl)) (yK.out ?_)))))|refine zA (yK.out (p:=(_++[_]) <+: _) ?_) ?_|refine zAl.out ?_|refine zA rfl ?_|apply qE|apply qO|exact zN|apply qq|apply qs|refine qK (by kernel_rfl) ?_|apply qr)
 all_goals try first|apply qz1|apply qz2|apply qz3|apply qz4|apply qz5|apply qz6|apply qz7|apply qz8|apply qz9|apply qz0
 all_goals try simp only [zZ,zR,yD,z6,qn1,zY,qn2,zX,ETy.dflt,qn3,qn4,Int.reduceToNat,Int.reduceAdd,Int.reduceSub,Int.reduceNeg,Nat.reduceAdd,zD,zTP] at *
 ·exact yK.intro (fun y h=>by cases h;exact g.toGood)
 all_goals try
  have hsome:(jS y7 (zBg (some x)) v).isSome=true:=by assumption
 all_goals try
  have hw: ∃ w,bE x w v:=by
   cases e:jS y7 (zBg (some x)) v with
   | none=>rw [e] at hsome;cases hsome
   | some w=>exact ⟨w,(zFX g).1 e⟩
 all_goals try have hL:zA5 (some x) v=v::zD5 (zBg (some x)) v 10000 (nxt (zBg (some x)) v):=by unfold zA5;rw [if_pos hsome]
 ·rw [hL];exact yK.intro ⟨_,rfl⟩
 ·exact yK.intro ⟨fun j a b=>by omega,rfl⟩
 ·exact zAl.intro rfl
 all_goals try have h24:=zQ1 g hw hk.1
 ·have hne:iter (nxt (zBg (some x))) v (k+1)≠v:=by assumption
  rw [hL];have:=hk.2;rw [zEh h24,if_neg hne] at this;exact yK.intro (zSF (L:=v::zD5 (zBg (some x)) v 10000 (nxt (zBg (some x)) v)) (k:=k+1) this)
 ·have hne:iter (nxt (zBg (some x))) v (k+1)≠v:=by assumption
  have:=hk.2;rw [zEh h24,if_neg hne] at this;refine yK.intro ⟨fun j a b=> ?_,(zDF this).2⟩
  by_cases e:j=k+1
  ·subst e;exact hne
  ·exact hk.1 j a (by omega)
 ·have hne:iter (nxt (zBg (some x))) v (k+1)≠v:=by assumption
  have:=hk.2;rw [zEh h24,if_neg hne] at this;exact zAl.intro (by rw [(zDF this).1];rfl)
 ·refine yK.intro ?_;omega
 ·have he:iter (nxt (zBg (some x))) v (k+1)=v:=by assumption
  have:=hk.2;rw [zEh h24,if_pos he] at this;rw [hL];refine zAl.intro ?_;have h2:=jQ k (zD5 (zBg (some x)) v 10000 (nxt (zBg (some x)) v));rw [this,List.append_nil] at h2;rw [h2]
 ·rename_i hn;refine zAl.intro ?_;unfold zA5;have hn:(jS y7 (zBg (some x)) v).isSome=false:=hn;rw [if_neg (by rw [hn];simp)]
theorem zVd (v:Int):zOs ⟨tyL,[(127,zIZ)],[]⟩ Tryz.f126 [⟨.pt yI,none⟩,⟨y7,v⟩] (zA5 none v):=by
 repeat' (conv=>whnf
          first|done|refine qN (by first|rfl|omega|(simp only [yP] at *;omega)) ?_|apply qH|refine qG fun _=> ?_|apply qB|apply qa|apply qo|refine qe (fun _=> ?_) (fun _=> ?_)|refine qn (fun _=> ?_) (fun _=> ?_)|refine qd (fun _=> ?_) (fun _=> ?_)|apply qt|refine qi (fun _=> ?_) (fun _=> ?_)|refine (fun (l:Nat)=> ?_)|refine zAl.out ?_|refine zA rfl ?_|apply qE|apply qO|exact zN|apply qq|apply qs|refine qK (by kernel_rfl) ?_|apply qr)
 all_goals try first|apply qz1|apply qz2|apply qz3|apply qz4|apply qz5|apply qz6|apply qz7|apply qz8|apply qz9|apply qz0
 all_goals try simp only [zZ,zR,yD,z6,qn1,zY,qn2,zX,ETy.dflt,qn3,qn4,Int.reduceToNat,Int.reduceAdd,Int.reduceSub,Int.reduceNeg,Nat.reduceAdd,zD] at *
 ·exact yK.intro (fun y h=>by cases h)
 ·exact zAl.intro rfl
theorem zQd {x:yI.T} (g:Full x) {v:Int} : ∀ n u,(∃ w,bE x w u)->∀ a∈zD5 (zBg (some x)) v n u,0<=a/\a<x.1.1
 | 0,u,_,a,h=>by cases h
 | n + 1,u,⟨w,hw⟩,a,h=>by
   unfold zD5 at h;split at h
   ·cases h
   ·rcases zT.1 h with e|h
    ·rw [e];exact (zJ8 g hw).2.1
    ·rw [zDf g hw] at h;exact zQd g n w (zCn g hw) a h
theorem zZY {x:yI.T} (g:Full x) {v:Int} : ∀ a∈zA5 (some x) v,0<=a/\a<x.1.1:=fun a h=>by
 unfold zA5 at h;split at h
 ·rename_i hs
  obtain ⟨w,hw⟩: ∃ w,bE x w v:=by
   cases e:jS y7 (zBg (some x)) v with
   | none=>rw [e] at hs;cases hs
   | some w=>exact ⟨w,(zFX g).1 e⟩
  rcases zT.1 h with e|h
  ·rw [e];exact (zJ8 g hw).2.1
  ·rw [zDf g hw] at h;exact zQd g _ w (zCn g hw) a h
 ·cases h
theorem z0Y {x:yI.T} (g:Full x) (v:Int): ∀ a∈zA5 (some x) v,InK .i64 a:=fun a h=>by
 have h1:=zZY g a h;have h2:x.1.1<=4096:=g.fit.2.1;have h3:a<=4096:=Int.le_trans (Int.le_of_lt h1.2) h2;exact InK.i64.2 (by unfold yP;omega)
def z7Z:zCt:=fun f ps L=>f=126/\∃ (o:Option yI.T) (v:Int),ps=[⟨.pt yI,o⟩,⟨y7,v⟩]/\(∀ x,o=some x->Full x)/\L=zA5 o v
theorem zWA:zDR Tryz.prog z7Z:=fun f ps L h=>by
 obtain ⟨rfl,o,v,rfl,hg,rfl⟩:=h;cases o with
 | none=>exact seq_ok (yN (fn:=[(127,zIZ)]) (fr:=[]) ⟨zNl,trivial⟩ trivial) Tryz.func126 rfl (by kernel_rfl) rfl (by kernel_rfl) (zU rfl) (fun a h=>by cases h) fun _=>zVd v
 | some x=>exact seq_ok (yN (fn:=[(127,zIZ)]) (fr:=[]) ⟨zNl,trivial⟩ trivial) Tryz.func126 rfl (by kernel_rfl) rfl (by kernel_rfl) (zU rfl) (z0Y (hg x rfl) v) fun _=>z0m x v (hg x rfl)
theorem zX7 {o:Option yI.T} {v:Int} :(zA5 o v).length<=10001:=by
 have key: ∀ n u,(zD5 (zBg o) v n u).length<=n:=fun n=>by
  induction n with
  | zero=>exact fun u=>zI _
  | succ n ih =>
    intro u;unfold zD5;split
    ·exact Nat.zero_le _
    ·have:=ih (nxt (zBg o) u);rw [z8];omega
 unfold zA5;split
 ·have:=key 10000 (nxt (zBg o) v);rw [z8];omega
 ·exact Nat.zero_le _
def z1Z (L:List Int):Spec Nat where
 inv _:=True
 live _:=[]
 keep:=[1,2,4]
 heap k:=[(0,.flat 54 [.own 2 0 k]),(2,.row y7 3 (L.take k))]
 keepH:=[1,3]
 mu _:=0
theorem z6b (o:Option yI.T) (v:Int) (hg: ∀ x,o=some x->Full x):zHZ ⟨tyL,[],[]⟩ z7Z Tryz.f125 [.s (.val (.slice none 0 0)),.s (.clo 126 [⟨.pt yI,o⟩,⟨y7,v⟩])] (fun r=>r= .s (.sl y7 (zA5 o v))):=by
 have hlen:=zX7 (o:=o) (v:=v)
 repeat' (conv=>whnf
          first|done|refine qN (by first|rfl|omega|(simp only [yP] at *;omega)) ?_|apply qH|refine qG fun _=> ?_|apply qB|apply qa|apply qo|refine qe (fun _=> ?_) (fun _=> ?_)|refine qn (fun _=> ?_) (fun _=> ?_)|refine qd (fun _=> ?_) (fun _=> ?_)|apply qt|refine qi (fun _=> ?_) (fun _=> ?_)|refine zB (zA5 o v) (zA (yK.out ?_) (zB (z1Z (zA5 o v)) ?_))|(refine zA (fun X=> ?_) (fun X=> ?_))|(refine zA (zA ?_ (zA ?_ rfl)) (fun k hk=> ?_))|(refine zA ?_ (zA ?_ rfl))|refine zA rfl ?_|apply qE|apply qO|exact zN|apply qq|apply qs|refine qK (by kernel_rfl) ?_|apply qr)
 all_goals try first|apply qz1|apply qz2|apply qz3|apply qz4|apply qz5|apply qz6|apply qz7|apply qz8|apply qz9|apply qz0
 all_goals try simp only [zZ,zR,yD,z6,qn1,zY,qn2,zX,ETy.dflt,qn3,qn4,Int.reduceToNat,Int.reduceAdd,Int.reduceSub,Int.reduceNeg,Nat.reduceAdd,zD,z1Z] at *
 ·exact yK.intro ⟨rfl,o,v,rfl,hg,rfl⟩
 ·refine yK.intro ?_;omega
 ·rw [List.drop_zero,List.take_take,Nat.min_self,yB hk,zQ,zG hk];rfl
 ·rw [List.drop_zero,List.take_length,List.take_length]
def z4r (f:List AV):Option ((Option yI.T)×Int) :=
 match f with
 | [.s (.clo f [⟨.pt (.pair (.pair (.int .i64) (.sl .arr3)) (.pair (.mp .arr2 (.int .i64)) (.sl (.int .i64)))),o⟩,⟨.int .i64,v⟩])]=>match Nat.beq f 126 with
   | true=>some (o,v)
   | false=>none
 | _=>none
theorem zQ6 {l:List AV} {o:Option yI.T} {v:Int} (h:z4r l=some (o,v)):l=[.s (.clo 126 [⟨.pt yI,o⟩,⟨y7,v⟩])]:=by
 unfold z4r at h;split at h
 ·split at h
  ·rename_i e;cases h;rw [zH e]
  ·cases h
 ·cases h
def zKo (f:List AV):Option Res:=match z4r f with
 | some (o,v)=>some (none,some (∀ x,o=some x->Full x),.s (.sl y7 (zA5 o v)))
 | none=>none
def z7Q:List AV->Option Res
 | .s (.val (.slice none 0 0))::f=>zKo f
 | _=>none
theorem z5M:qL Tryz.prog 125 z7Q:=⟨fun args r h=>by
 unfold z7Q at h;split at h
 case h_2=>cases h
 unfold zKo at h;split at h
 case h_2=>cases h
 rename_i he;rw [zQ6 he];cases h
 exact zHE (yN (fn:=[]) (fr:=[]) trivial trivial) zWA Tryz.func125 rfl (by kernel_rfl) (zU rfl) fun _ h=>z6b _ _ h,_,Tryz.func125,by kernel_rfl,by kernel_rfl⟩
theorem z6B (o:Option yI.T) (v:Int) (hg: ∀ x,o=some x->Full x):zAF ⟨tyL,[(125,z7Q)],[]⟩ Tryz.f86 [.s (.clo 126 [⟨.pt yI,o⟩,⟨y7,v⟩])] (fun r=>r= .s (.sl y7 (zA5 o v))):=by
 repeat' (conv=>whnf
          first|done|refine qN (by first|rfl|omega|(simp only [yP] at *;omega)) ?_|apply qH|refine qG fun _=> ?_|apply qB|apply qa|apply qo|refine qe (fun _=> ?_) (fun _=> ?_)|refine qn (fun _=> ?_) (fun _=> ?_)|refine qd (fun _=> ?_) (fun _=> ?_)|apply qt|refine qi (fun _=> ?_) (fun _=> ?_)|refine zA rfl ?_|apply qE|apply qO|exact zN|apply qq|apply qs|refine qK (by kernel_rfl) ?_|apply qr)
 all_goals try first|apply qz1|apply qz2|apply qz3|apply qz4|apply qz5|apply qz6|apply qz7|apply qz8|apply qz9|apply qz0
 all_goals try simp only [zZ,zR,yD,z6,qn1,zY,qn2,zX,ETy.dflt,qn3,qn4,Int.reduceToNat,Int.reduceAdd,Int.reduceSub,Int.reduceNeg,Nat.reduceAdd,zD] at *
 all_goals exact yK.intro hg
def z4y:List AV->Option Res:=zKo
theorem z16:qL Tryz.prog 86 z4y:=⟨fun args r h=>by
 unfold z4y zKo at h;split at h
 case h_2=>cases h
 rename_i he;rw [zQ6 he];cases h
 exact qM (yN (fn:=[(125,z7Q)]) (fr:=[]) ⟨z5M,trivial⟩ trivial) Tryz.func86 (by kernel_rfl) fun _ h=>z6B _ _ h,_,Tryz.func86,by kernel_rfl,by kernel_rfl⟩
abbrev LpS:=ReM×List (List Int)
def lpI (x:yI.T) (s:LpS) (v:Nat):LpS :=
 if had s.1 v=true then s else ((zA5 (some x) v).foldl (fun m u=>zAB (.int .i64) m u true) s.1,if (zA5 (some x) v).length>0 then s.2++[zA5 (some x) v] else s.2)
def lpS (x:yI.T) (i:Nat):LpS:=qA (lpI x) ([],[]) i
def qW (x:yI.T):List (List Int):=(lpS x x.1.1.toNat).2
def z1a (o:Option yI.T):List (List Int):=onO o [] qW
def zYH (x:yI.T):Spec Nat where
 inv k:=(k:Int)<=x.1.1
 live k:=[(13,.s (.int .i64 k)),(3,.s (.own 1 0 (lpS x k).2.length))]
 keep:=[0,2,4,12]
 heap k:=[(1,.row (.sl y7) 54 (lpS x k).2),(2,.map y7 .bool (lpS x k).1)]
 keepH:=[0,3]
 mu k:=x.1.1.toNat - k
theorem z4p {x:yI.T} {k:Nat} (h:had (lpS x k).1 k=true):lpS x (k+1)=lpS x k:=by
 show lpI x (lpS x k) k=_;unfold lpI;rw [if_pos h]
theorem zO9 {x:yI.T} {k:Nat} (h:had (lpS x k).1 k=false):lpS x (k+1)=((zA5 (some x) k).foldl (fun m u=>zAB (.int .i64) m u true) (lpS x k).1,if (zA5 (some x) k).length>0 then (lpS x k).2++[zA5 (some x) k] else (lpS x k).2):=by
 show lpI x (lpS x k) k=_;unfold lpI;rw [if_neg (by rw [h];simp)]
theorem zQH (x:yI.T): ∀ k,(lpS x k).2.length<=k
 | 0=>zI _
 | k +1=>by
   have ih:=zQH x k;cases h:had (lpS x k).1 k with
   | true=>rw [z4p h];omega
   | false =>
     rw [zO9 h];show (if _ then _ else _:List (List Int)).length<=_;split
     ·rw [zO,List.length_singleton];omega
     ·omega
def zRP (m:ReM) (l:List Int):ReM:=l.foldl (fun m u=>zAB (.int .i64) m u true) m
def z2D (m:ReM) (L:List Int):Spec Nat where
 inv _:=True
 live _:=[]
 keep:=[0,2,3,4,5,6,12,13]
 heap k:=[(2,.map y7 .bool (zRP m (L.take k)))]
 keepH:=[0,1,3,4]
 mu _:=0
theorem zZ8 (x:yI.T) (g:Full x):zHZ ⟨tyL,[(85,zBk),(87,zXJ),(86,z4y)],[]⟩ z7Z Tryz.f45 [(ETy.pt yI).av (some x)] (fun r=>r= .s (.sl (.sl y7) (qW x))):=by
 repeat' (conv=>whnf
          first|done|refine qN (by first|rfl|omega|(simp only [yP] at *;omega)) ?_|apply qH|refine qG fun _=> ?_|apply qB|apply qa|apply qo|refine qe (fun _=> ?_) (fun _=> ?_)|refine qn (fun _=> ?_) (fun _=> ?_)|refine qd (fun _=> ?_) (fun _=> ?_)|apply qt|refine qi (fun _=> ?_) (fun _=> ?_)|refine zB (Nat) (zB (zYH x) (zA (zB (0) (zA (yK.out ?_) (zA ?_ (zA ?_ rfl)))) (fun k hk=> ?_)))|((with_reducible show (∃ y,And (Spec.inv (zYH _) y) _));refine zB (k+1) (zA (yK.out ?_) (zA (zA ?_ (zA ?_ rfl)) (yK.out ?_))))|refine zB (zA5 (some x) k) (zA (yK.out ?_) (zB (z2D (lpS x k).1 (zA5 (some x) k)) ?_))|(refine zA (fun X=> ?_) (fun X=> ?_))|(refine zA (zA ?_ (zA ?_ rfl)) (fun j hj=> ?_))|(refine zA ?_ (zA ?_ rfl))|refine zA rfl ?_|apply qE|apply qO|exact zN|apply qq|apply qs|refine qK (by kernel_rfl) ?_|apply qr)
 all_goals try first|apply qz1|apply qz2|apply qz3|apply qz4|apply qz5|apply qz6|apply qz7|apply qz8|apply qz9|apply qz0
 all_goals try simp only [zZ,zR,yD,z6,qn1,zY,qn2,zX,ETy.dflt,qn3,qn4,Int.reduceToNat,Int.reduceAdd,Int.reduceSub,Int.reduceNeg,Nat.reduceAdd,zD,zYH,z2D] at *
 all_goals have hn: @LE.le Int _ x.1.1 4096:=g.fit.2.1
 all_goals have h0: @LE.le Int _ 0 x.1.1:=g.fit.1
 all_goals try (refine yK.intro ?_;first|omega|(unfold yP;omega))
 all_goals try have hlen:=zQH x k
 all_goals try
  have ht:had (lpS x k).1 k=true:=by assumption
  have e:=z4p ht
  (first|(rw [e];done)|(rw [e]))
 all_goals try have hf:had (lpS x k).1 k=false:=by assumption
 ·exact yK.intro (fun y h=>by cases h;exact g)
 ·exact yK.intro ⟨rfl,some x,k,rfl,fun y h=>(by cases h;exact g),rfl⟩
 ·unfold zRP;rw [yB hj,List.foldl_append,zQ,zG hj];rfl
 ·refine yK.intro ?_;omega
 ·have hp:((zA5 (some x) k).length:Int)>0:=by assumption
  rw [zO9 hf,if_pos (by omega),zO];rfl
 ·have hp:((zA5 (some x) k).length:Int)>0:=by assumption
  rw [zO9 hf,if_pos (by omega)]
 ·rw [zO9 hf,List.take_length];rfl
 ·have hp: ¬ ((zA5 (some x) k).length:Int)>0:=by assumption
  rw [zO9 hf,if_neg (by omega)]
 ·have hp: ¬ ((zA5 (some x) k).length:Int)>0:=by assumption
  rw [zO9 hf,if_neg (by omega)]
 ·rw [zO9 hf,List.take_length];rfl
 ·have e:k=x.1.1.toNat:=by omega
  rw [e];rfl
theorem zXt:zHZ ⟨tyL,[(85,zBk),(87,zXJ),(86,z4y)],[]⟩ z7Z Tryz.f45 [(ETy.pt yI).av none] (fun r=>r= .s (.sl (.sl y7) [])):=by
 repeat' (conv=>whnf
          first|done|refine qN (by first|rfl|omega|(simp only [yP] at *;omega)) ?_|apply qH|refine qG fun _=> ?_|apply qB|apply qa|apply qo|refine qe (fun _=> ?_) (fun _=> ?_)|refine qn (fun _=> ?_) (fun _=> ?_)|refine qd (fun _=> ?_) (fun _=> ?_)|apply qt|refine qi (fun _=> ?_) (fun _=> ?_)|refine zA rfl ?_|apply qE|apply qO|exact zN|apply qq|apply qs|refine qK (by kernel_rfl) ?_|apply qr)
 all_goals try first|apply qz1|apply qz2|apply qz3|apply qz4|apply qz5|apply qz6|apply qz7|apply qz8|apply qz9|apply qz0
 all_goals try simp only [zZ,zR,yD,z6,qn1,zY,qn2,zX,ETy.dflt,qn3,qn4,Int.reduceToNat,Int.reduceAdd,Int.reduceSub,Int.reduceNeg,Nat.reduceAdd,zD] at *
 rfl
def zWf:List AV->Option Res:=zEv (.pt yI) (fun o=>some (none,some (∀ x,o=some x->Full x),.s (.sl (.sl y7) (z1a o))))
theorem z0s:qL Tryz.prog 45 zWf:=⟨zAV fun o r h=>by
 cases h;cases o with
 | none=>exact zHE (yN (fn:=[(85,zBk),(87,zXJ),(86,z4y)]) (fr:=[]) ⟨zDU,zUH,z16,trivial⟩ trivial) zWA Tryz.func45 rfl (by kernel_rfl) (zU rfl) fun _ _=>zXt
 | some x=>exact zHE (yN (fn:=[(85,zBk),(87,zXJ),(86,z4y)]) (fr:=[]) ⟨zDU,zUH,z16,trivial⟩ trivial) zWA Tryz.func45 rfl (by kernel_rfl) (zU rfl) fun _ h=>zZ8 x (h x rfl),_,Tryz.func45,by kernel_rfl,by kernel_rfl⟩
end S1
open Go Go.Vm Go.Proofs
namespace S1
abbrev nx (x:yI.T) (u:Int):Int:=nxt (zBg (some x)) u
structure zBy (x:yI.T) (L:List Int):Prop where
 ne:0<L.length
 cyc: ∀ i,i<L.length->bE x (L.getD ((i+1) % L.length) 0) (L.getD i 0)
 nd:L.Nodup
theorem zO3 (m:NxM) (v:Int) {p:Nat} (hp:iter (nxt m) v p=v) (hl: ∀ j,1<=j->j<p->iter (nxt m) v j≠v): ∀ (r k n:Nat),k+1+r=p->r<n->zD5 m v n (iter (nxt m) v (k+1))=(List.range r).map fun j=>iter (nxt m) v (k+1+j)
 | 0,k,n,h1,h2=>by
   obtain ⟨n,rfl⟩: ∃ n',n=n'+1:=⟨n - 1,by omega⟩;unfold zD5;rw [show k+1=p by omega,if_pos hp];rfl
 | r+1,k,n,h1,h2=>by
   obtain ⟨n,rfl⟩: ∃ n',n=n'+1:=⟨n - 1,by omega⟩;unfold zD5;rw [if_neg (hl (k+1) (by omega) (by omega))];have:=zO3 m v hp hl r (k+1) n (by omega) (by omega);show _::zD5 m v n (iter (nxt m) v (k+1+1))=_;rw [this,List.range_succ_eq_map,List.map_cons,List.map_map]
   congr 1
   refine List.map_congr_left fun j _=> ?_;show _=iter (nxt m) v (k+1+(j+1));rw [show k+1+1+j=k+1+(j+1) by omega]
theorem z6J {x:yI.T} (g:Full x) {u u':Int} (h: ∃ w,bE x w u) (h': ∃ w,bE x w u') (e:nx x u=nx x u'):u=u':=by
 obtain ⟨w,hw⟩:=h;obtain ⟨w',hw'⟩:=h';have e:nxt (zBg (some x)) u=nxt (zBg (some x)) u':=e;rw [zDf g hw,zDf g hw'] at e;subst e;exact zHs g hw hw'
theorem zIQ {x:yI.T} (g:Full x) {v:Int} (hv: ∃ w,bE x w v): ∀ i d,iter (nx x) v i=iter (nx x) v (i+d)->v=iter (nx x) v d
 | 0,d,h=>by rw [zD] at h;exact h
 | i+1,d,h=>by
   refine zIQ g hv i d (z6J g (zHf g hv i) (zHf g hv (i+d)) ?_);rw [show i+1+d=(i+d)+1 by omega] at h;exact h
theorem zPD {x:yI.T} (g:Full x) {v:Int} (hv: ∃ w,bE x w v): ∃ p,0<p/\iter (nx x) v p=v/\(∀ j,1<=j->j<p->iter (nx x) v j≠v)/\zA5 (some x) v=(List.range p).map fun j=>iter (nx x) v j:=by
 have hex: ∃ n,n<=4097/\(1<=n/\iter (nx x) v n=v):=by
  apply yE;intro h;have:=zQ1 g hv (k:=4097) fun j h1 h2 e=>h ⟨j,h2,h1,e⟩;omega
 obtain ⟨n,hn,h⟩:=hex;obtain ⟨p,⟨h1,h2⟩,h3,h4⟩:=exists_least (P:=fun n=>1<=n/\iter (nx x) v n=v) h;have hl: ∀ j,1<=j->j<p->iter (nx x) v j≠v:=fun j a b e=>h4 j b ⟨a,e⟩;refine ⟨p,h1,h2,hl,?_⟩;have:=zO3 (zBg (some x)) v h2 hl (p - 1) 0 10000 (by omega) (by omega);obtain ⟨w,hw⟩:=hv;unfold zA5;rw [if_pos (by rw [(zFX g).2 hw];rfl)];have e:zD5 (zBg (some x)) v 10000 (nxt (zBg (some x)) v)=_:=this;rw [e];obtain ⟨q,rfl⟩: ∃ q,p=q+1:=⟨p - 1,by omega⟩
 rw [List.range_succ_eq_map,List.map_cons,List.map_map];refine congrArg (v:: ·) ?_;show (List.range (q+1 - 1)).map _=_;rw [Nat.add_sub_cancel];refine List.map_congr_left fun j _=> ?_;show iter _ v (0+1+j)=iter _ v (j+1);rw [show 0+1+j=j+1 by omega]
theorem zRe {f:Nat->Int} {p i:Nat} (h:i<p):((List.range p).map f).getD i 0=f i:=by
 rw [zQ,List.getElem?_map,List.getElem?_range h];rfl
theorem z30 {x:yI.T} (g:Full x) {v:Int} (hv: ∃ w,bE x w v):zBy x (zA5 (some x) v):=by
 obtain ⟨p,h1,h2,h3,e⟩:=zPD g hv;rw [e];have hlen:((List.range p).map fun j=>iter (nx x) v j).length=p:=by rw [y8,zBq]
 refine ⟨by rw [hlen];exact h1,fun i hi=> ?_,?_⟩
 ·rw [hlen] at hi ⊢;rw [zRe hi,zRe (Nat.mod_lt _ h1)];obtain ⟨w,hw⟩:=zHf g hv i
  have e1:iter (nx x) v ((i+1) % p)=nx x (iter (nx x) v i):=by
   by_cases hl:i+1<p
   ·rw [Nat.mod_eq_of_lt hl];rfl
   ·rw [show i+1=p by omega,Nat.mod_self];have:iter (nx x) v p=nx x (iter (nx x) v i):=by rw [show p=i+1 by omega];rfl
    rw [<- this,h2];rfl
  rw [e1];show bE x (nxt (zBg (some x)) (iter (nxt (zBg (some x))) v i)) _;rw [zDf g hw];exact hw
 ·have key: ∀ i j,i<j->j<p->iter (nx x) v i≠iter (nx x) v j:=fun i j h4 h5 e=>by
   have:=zIQ g hv i (j - i) (by rw [e];congr 1;omega);exact h3 (j - i) (by omega) (by omega) this.symm
  refine List.Pairwise.map _ (fun i j h=> ?_) (List.nodup_range (n:=p) |>.imp_of_mem (S:=fun i j=>i≠j/\i<p/\j<p) fun hi hj hn=>⟨hn,zW.1 hi,zW.1 hj⟩);obtain ⟨hn,hi,hj⟩:=h;rcases Nat.lt_or_gt_of_ne hn with hlt|hgt
  ·exact key i j hlt hj
  ·exact (key j i hgt hi).symm
theorem z2y {x:yI.T} (g:Full x) {v:Int} (hv: ¬ ∃ w,bE x w v):zA5 (some x) v=[]:=by
 unfold zA5;rw [if_neg];intro h;cases e:jS y7 (zBg (some x)) v with
 | none=>rw [e] at h;cases h
 | some w=>exact hv ⟨w,(zFX g).1 e⟩
theorem zMV {L:List Int} {u:Int} (h:u∈L): ∃ i,i<L.length/\L.getD i 0=u:=by
 obtain ⟨i,hi,e⟩:=yG.1 h;exact ⟨i,hi,by rw [zQ,zG hi];exact e⟩
section
variable {x:yI.T}
theorem zBy.bord {L:List Int} (h:zBy x L) {u:Int} (hu:u∈L): ∃ w,bE x w u:=by
 obtain ⟨i,hi,e⟩:=zMV hu;have:=h.cyc i hi;rw [e] at this;exact ⟨_,this⟩
theorem zBy.next {L:List Int} (h:zBy x L) (g:Full x) {u:Int} (hu:u∈L):nx x u∈L:=by
 obtain ⟨i,hi,e⟩:=zMV hu;have:=h.cyc i hi;rw [e] at this;show nxt (zBg (some x)) u∈L;rw [zDf g this];exact jA (Nat.mod_lt _ h.ne)
theorem zBy.iters {L:List Int} (h:zBy x L) (g:Full x) {u:Int} (hu:u∈L): ∀ k,iter (nx x) u k∈L
 | 0=>hu
 | k+1=>h.next g (h.iters g hu k)
theorem zUb (g:Full x) {v:Int} (hv: ∃ w,bE x w v) {L:List Int} (h:zBy x L) {u:Int} (h1:u∈zA5 (some x) v) (h2:u∈L):v∈L:=by
 obtain ⟨p,p1,p2,p3,e⟩:=zPD g hv;rw [e] at h1;obtain ⟨i,hi,rfl⟩:=yF.1 h1;have hi:=zW.1 hi;have:=h.iters g h2 (p - i);rw [zLu,show i+(p - i)=p by omega,p2] at this;exact this
theorem zUN (g:Full x) {v:Int} (hv: ∃ w,bE x w v):v∈zA5 (some x) v:=by
 obtain ⟨p,p1,p2,p3,e⟩:=zPD g hv;rw [e];exact yF.2 ⟨0,zW.2 p1,rfl⟩
theorem zLi (l:List Int): ∀ (m:ReM) (v:Int),had (l.foldl (fun m u=>zAB (.int .i64) m u true) m) v=true↔had m v=true\/v∈l:=by
 induction l with
 | nil=>intro m v;simp
 | cons a r ih =>
   intro m v;rw [List.foldl_cons,ih]
   by_cases e:a=v
   ·subst e
    have:had (zAB (.int .i64) m a true) a=true:=by
     show (jS (.int .i64) (zAB (.int .i64) m a true) a).getD false=true;rw [zAQ];rfl
    simp [this]
   ·have:had (zAB (.int .i64) m a true) v=had m v:=by
     show (jS (.int .i64) (zAB (.int .i64) m a true) v).getD false=_;rw [zA1 _ e];rfl
    rw [this,zT];constructor
    ·rintro (h|h)
     ·exact .inl h
     ·exact .inr (.inr h)
    ·rintro (h|h|h)
     ·exact .inl h
     ·exact absurd h.symm e
     ·exact .inr h
structure Lps (x:yI.T) (Ls:List (List Int)) (k:Int):Prop where
 ok: ∀ L∈Ls,zBy x L
 nd:Ls.flatten.Nodup
 all: ∀ u,0<=u->u<k->(∃ w,bE x w u)->u∈Ls.flatten
theorem zUQ (g:Full x): ∀ k,Lps x (lpS x k).2 k/\∀ u,had (lpS x k).1 u=true↔u∈(lpS x k).2.flatten
 | 0=>⟨⟨fun L h=>(by cases h),List.nodup_nil,fun u h1 h2 _=>by omega⟩,fun u=>⟨fun h=>(by cases h),fun h=>(by cases h)⟩⟩
 | k + 1 =>by
   obtain ⟨ih,ihm⟩:=zUQ g k;cases hh:had (lpS x k).1 k with
   | true =>
     rw [z4p hh];refine ⟨⟨ih.ok,ih.nd,fun u h1 h2 h3=> ?_⟩,ihm⟩
     by_cases e:u=k
     ·rw [e];exact (ihm k).1 hh
     ·exact ih.all u h1 (by omega) h3
   | false =>
     rw [zO9 hh]
     by_cases hv: ∃ w,bE x w (k:Int)
     ·have hw:=z30 g hv;rw [if_pos hw.ne]
      have hdis: ∀ u∈zA5 (some x) k,u∉(lpS x k).2.flatten:=fun u hu hf=>by
       obtain ⟨L,hL,huL⟩:=List.mem_flatten.1 hf;have:=zUb g hv (ih.ok L hL) hu huL;rw [(ihm k).2 (List.mem_flatten.2 ⟨L,hL,this⟩)] at hh;cases hh
      refine ⟨⟨fun L hL=> ?_,?_,fun u h1 h2 h3=> ?_⟩,fun u=> ?_⟩
      ·rcases yC.1 hL with hL|hL
       ·exact ih.ok L hL
       ·rw [zF] at hL;rw [hL];exact hw
      ·rw [List.flatten_append,List.nodup_append];refine ⟨ih.nd,by simpa using hw.nd,fun a ha b hb e=> ?_⟩;have hb:b∈zA5 (some x) k:=by simpa using hb
       subst e;exact hdis a hb ha
      ·rw [List.flatten_append,yC]
       by_cases e:u=k
       ·rw [e];exact .inr (by simpa using zUN g hv)
       ·exact .inl (ih.all u h1 (by omega) h3)
      ·rw [List.flatten_append,yC,zLi,ihm u];simp
     ·rw [z2y g hv];rw [if_neg (by simp)];refine ⟨⟨ih.ok,ih.nd,fun u h1 h2 h3=> ?_⟩,ihm⟩
      by_cases e:u=k
      ·rw [e] at h3;exact absurd h3 hv
      ·exact ih.all u h1 (by omega) h3
theorem zIp (g:Full x):Lps x (qW x) x.1.1:=by
 have:=(zUQ g x.1.1.toNat).1;have h0:0<=x.1.1:=g.fit.1;rw [zAZ h0] at this;exact this
theorem zYM (g:Full x) {u:Int} :u∈(qW x).flatten↔∃ w,bE x w u:=by
 have h:=zIp g;constructor
 ·intro hu;obtain ⟨L,hL,huL⟩:=List.mem_flatten.1 hu;exact (h.ok L hL).bord huL
 ·rintro ⟨w,hw⟩;have:=zJ8 g hw;exact h.all u this.2.1.1 this.2.1.2 ⟨w,hw⟩
end
end S1
open Go Go.Vm Go.Proofs
namespace S1
def atV (v:Int) (t:P3):Bool:=decide (z7 t v)
end S1
open Go Go.Vm Go.Proofs
namespace S1
theorem zMu (a b:Int) (t:P3):both a b t=(atV a t&&atV b t):=by unfold both atV;exact Bool.decide_and _ _
theorem zLG {p q:P3->Bool} (h: ∀ t,p t=q t) (l:List P3):(l.filter p).length=(l.filter q).length:=by rw [show p=q from funext h]
theorem zZB {x:yI.T} (g:Full x) (hs:jV (InN x.1.1) x.1.2) {a b:Int} (hn:zAN x a b=true):(x.1.2.filter (both a b)).length=if qJ x (a,b)<0\/zAG x (qJ x (a,b))<0 then 1 else 2:=by
 by_cases h:qJ x (a,b)<0
 ·rw [if_pos (.inl h)];obtain ⟨d,d1,d2⟩:=(zHk g).1 hn;rcases d2 with e|e
  ·have:=g.facing d1;rw [e] at this;rw [this] at h;exact absurd (yH.1 d1).1 (by omega)
  ·have k:=zQ2 g hs d1;rw [e] at k
   have ho: ¬ 0<=zAG x d:=fun h0=>by
    obtain ⟨_,h2,h3⟩:=g.opp h0;have:=g.facing h2;rw [h3,e] at this;have h2:=(yH.1 h2).1;have this:qJ x (a,b)=zAG x d:=this;omega
   rw [if_neg ho] at k;rw [<- k];exact zLG (fun t=>by rw [zMu,zMu,Bool.and_comm]) _
 ·have hf:qJ x (a,b)>=0:=by omega
  obtain ⟨c,c1,c2⟩:=zEU.1 ((zCd g).1 hf);have e:=g.facing c1;rw [c2] at e;have k:=zQ2 g hs c1;rw [c2] at k;rw [e] at h ⊢;have k:(x.1.2.filter (both a b)).length=if 0<=zAG x c then 2 else 1:=k;rw [k]
  by_cases ho:0<=zAG x c
  ·rw [if_pos ho,if_neg (by omega)]
  ·rw [if_neg ho,if_pos (by omega)]
end S1
