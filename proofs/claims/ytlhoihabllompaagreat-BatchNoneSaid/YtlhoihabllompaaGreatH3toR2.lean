/- A part of the proofs of the laws. -/
import Derived.Test.YtlhoihabllompaaGreatY6toVmOut
import Derived.Test.YtlhoihabllompaaGreatH1toG1
import Derived.Test.YtlhoihabllompaaGreatVmRngMtoVmSeq
import Derived.Test.YtlhoihabllompaaGreatZ1ptoY5
import Derived.Test.YtlhoihabllompaaGreatT5toT11
set_option linter.unusedSimpArgs false
set_option linter.unusedVariables false
set_option maxHeartbeats 8000000
set_option maxRecDepth 100000
open Go Go.Vm Go.Proofs
namespace S1
def zVS:List AV->St->(AV->St->Prop)->Prop:=zQX ⟨tyL,[(45,zVK)],[]⟩ Tryz.f62
theorem zV8 : zJU Tryz.prog 62 zVS ∧ ∃ fn, Tryz.prog.funcs[62]? = some fn ∧ (fn.name == "runtime.NumGoroutine") = false ∧ fn.body.isNone = false :=
 ⟨zMl (yM (fn:=[(45,zVK)]) (fr:=[]) ⟨zYj,trivial⟩ trivial) Tryz.func62 rfl (by kernel_rfl),_,Tryz.func62,by kernel_rfl,by kernel_rfl⟩
def zXR (Ls:List (List Int)):Spec Nat where
 inv i:=i<=Ls.length
 live i:=[(12,.s (.int .i64 i)),(3,.s (.own 2 0 (lfK Ls i).length))]
 keep:=[2,10,11]
 heap i:=[(3,.map y7 y7 (ofK Ls i)),(2,.row y7 3 (lfK Ls i))]
 keepH:=[0,1]
 mu i:=Ls.length - i
def zXM (Ls:List (List Int)) (i:Nat):Spec Nat where
 inv j:=j<=(Ls.getD i []).length
 live j:=[(19,.s (.int .i64 j))]
 keep:=[2,3,4,5,10,11,12,17,18]
 heap j:=[(3,.map y7 y7 (ofV (ofK Ls i) i ((Ls.getD i []).take j)))]
 keepH:=[0,1,2]
 mu j:=(Ls.getD i []).length - j
def zUG (x:yI.T) (l:List (Int×Int)):Spec (Nat×ReM×List Int) where
 inv y:=y.1<=l.length/\zEs x l y.1 y.2.1 y.2.2
 live y:=[(24,.s (.int .i64 y.1)),(8,.s (.own 5 0 (chK x l y.1).length))]
 keep:=[0,5,6,7,22,23]
 heap y:=[(4,.map y7 .bool y.2.1),(2,.row y7 3 y.2.2),(5,.row .arr2 33 (chK x l y.1))]
 keepH:=[0,3]
 mu y:=l.length - y.1
def zXc (u:ReM):Spec IBM where
 inv pre:= ∀ p∈pre,had u p.1=false
 live _:=[]
 keep:=[0,5,6,7,8,10,11,22,23,24,39]
 heap _:=[]
 keepH:=[0,2,3,4,5,6]
 mu _:=0
def zXO (u:ReM):Spec IBM where
 inv _:=True
 live _:=[]
 keep:=[0,5,6,7,8,10,11,22,23,24,81]
 heap pre:=[(4,.map y7 .bool (zRg u (pre.map (·.1))))]
 keepH:=[0,2,3,5,6]
 mu _:=0
attribute [local irreducible] chK zD2 zCm z1o zRg ofK lfK ofV qW
theorem zWX (x:yI.T) (l:List (Int×Int)) (g:Full x) (hs:jU (InN x.1.1) x.1.2) (hl9:l.length<=100000):zHO ⟨tyL,[(27,z6A),(57,zLp),(63,zW2)],[(62,.run zVS)]⟩ z7U Tryz.f22 [(ETy.pt yI).av (some x),(ETy.sl .arr2).av l] (fun r=>r= .s (.sl .arr2 (zD7 x l))):=by
 refine z5l rfl ?_
 repeat' (first
           | ((with_reducible show qC _ _ (Code.seq _ _) _ _);first|refine z6j rfl ?_|refine z6u rfl ?_)
           | with_reducible refine zUf ?_
           | with_reducible refine zWd ?_
           | with_reducible refine zQ7 ?_
           | with_reducible refine z2C ?_
           | with_reducible refine zVF ?_
           | with_reducible refine z1q ?_
           | with_reducible refine z6C ?_
           | ((with_reducible show qC _ _ (Code.cond _ _ _) _ _);first|refine z1O rfl ?_|refine zWc rfl ?_)
           | ((with_reducible show qC _ _ (Code.loop _) _ _);refine z5V rfl (Nat×ReM×List Int) (zUG x l) ((0,[],lfK (qW x) (qW x).length)) (yJ.out ?_) (zA ?_ (zA ?_ rfl)) (fun y hy=> ?_))
           | with_reducible refine zRH ?_
           | with_reducible refine zRC ?_
           | with_reducible refine zQi ?_
           | with_reducible refine zRj ?_
           | ((with_reducible show z1w _ _ (Exit.exit _) _);first|refine z1H rfl ?_|refine z1c rfl ?_)
           | with_reducible refine z1d ?_
           | with_reducible refine z16 ?_
           | with_reducible refine z1v ?_
           | with_reducible refine zLT ?_
           | with_reducible refine zMH ?_
           | with_reducible refine zXI ?_
           | with_reducible refine zHZ ?_
           | (conv=>whnf
              first
           | done
           | refine qN (by first|rfl|omega|(simp only [yO] at *;omega)) ?_
           | apply qH
           | refine qG fun _=> ?_
           | apply qB
           | apply qa
           | apply qo
           | refine qe (fun _=> ?_) (fun _=> ?_)
           | refine qn (fun _=> ?_) (fun _=> ?_)
           | refine qd (fun _=> ?_) (fun _=> ?_)
           | apply qt
           | refine qi (fun _=> ?_) (fun _=> ?_)
           | with_reducible refine zRH ?_
           | with_reducible refine zRC ?_
           | with_reducible refine zQi ?_
           | with_reducible refine zRj ?_
           | with_reducible refine zLT ?_
           | with_reducible refine zMH ?_
           | with_reducible refine zHZ ?_
           | ((with_reducible show (∃ y,And (Spec.inv (zUG _ _) y) _));refine zB (y.1+1,_,_) (zA (yJ.out ?_) (zA (zA ?_ (zA (zA rfl (zA rfl ?_)) rfl)) (yJ.out ?_))))
           | refine (fun (XF:Array Value)=> ?_)
           | (refine qS 3 rfl ?_;refine Or.inr (zB (Nat) (zB (zXR (qW x)) (zA (zB (0) (zA (yJ.out ?_) (zA ?_ (zA ?_ rfl)))) (fun i hi=>zNf ?_)))))
           | ((with_reducible show (∃ y,And (Spec.inv (zXR _) y) _));refine zB (i+1) (zA (yJ.out ?_) (zA (zA ?_ (zA ?_ rfl)) (yJ.out ?_))))
           | (refine qS 6 rfl ?_;refine Or.inr (zB (Nat) (zB (zXM (qW x) i) (zA (zB (0) (zA (yJ.out ?_) (zA ?_ (zA ?_ rfl)))) (fun j hj=>zNf ?_)))))
           | ((with_reducible show (∃ y,And (Spec.inv (zXM _ _) y) _));refine zB (j+1) (zA (yJ.out ?_) (zA (zA ?_ (zA ?_ rfl)) (yJ.out ?_))))
           | refine (fun (rIt:Nat)=> ?_)
           | refine z7S.intro (it:=39) (zB (zXc y.2.1) (zA (zA (yJ.out ?_) (zA ?_ (zA ?_ rfl))) (zA (fun preu eu heu=>zA rfl ?_) (fun preu hpu=>zA rfl ?_))))
           | ((with_reducible show (And (Spec.inv (zXc y.2.1) _) _));refine zA (yJ.out ?_) (zA ?_ (zA ?_ rfl)))
           | refine (fun (rIt:Nat)=> ?_)
           | refine z7S.intro (it:=81) (zB (zXO y.2.1) (zA (zA (yJ.out ?_) (zA ?_ (zA ?_ rfl))) (zA (fun prew ew hew=>zA rfl ?_) (fun prew hpw=>zA rfl ?_))))
           | ((with_reducible show (And (Spec.inv (zXO y.2.1) _) _));refine zA (yJ.out ?_) (zA ?_ (zA ?_ rfl)))
           | refine zA rfl ?_
           | apply qE
           | apply qO
           | exact zN
           | apply qq
           | apply qs
           | refine qK (by kernel_rfl) ?_
           | apply qr))
 all_goals try first|apply qz1|apply qz2|apply qz3|apply qz4|apply qz5|apply qz6|apply qz7|apply qz8|apply qz9|apply qz0
 all_goals try simp only [zZ,zR,yE,z6,qn1,zY,qn2,zX,ETy.dflt,qn3,qn4,Int.reduceToNat,Int.reduceAdd,Int.reduceSub,Int.reduceNeg,Nat.reduceAdd,zD,zXR,zXM,zUG,zXc,zXO] at *
 all_goals have hLl:=zX7 g
 all_goals try simp only [show z1e (some x)=qW x from rfl] at *
 all_goals try exact yJ.intro (fun y h=>by cases h;exact g)
 all_goals try exact yJ.intro (fun y h=>by cases h;exact g.toGood)
 all_goals try exact yJ.intro g.toGood
 all_goals try exact yJ.intro trivial
 all_goals try exact yJ.intro (fun p h=>by cases h)
 all_goals try (refine yJ.intro ?_;omega)
 all_goals try first
  | (unfold lfK;rfl)
  | (unfold ofK;rfl)
  | (unfold chK;rfl)
  | (rw [List.take_zero];unfold ofV;rfl)
  | (rw [List.map_nil];unfold zRg;rfl)
  | exact zWj _ _ _
  | exact z8A (by omega)
  | exact z7o (by omega)
  | (rw [zKv _ _ (by omega),zKv _ _ (by omega)];done)
 all_goals try (have hlf:=zKv (qW x) i (by omega);refine yJ.intro ?_;omega)
 all_goals try
  have ej:j=((qW x).getD i []).length:=by omega
  subst ej;rw [List.take_length];conv=>lhs;unfold ofK
  done
 all_goals have ei:i=(qW x).length:=by omega
 all_goals subst ei
 all_goals try exact yJ.intro ⟨Nat.zero_le _,z2v⟩
 all_goals try rfl
 all_goals try
  have hn : ¬ okE x (chK x l y.1) (l.getD y.1 (0,0))=true:=by
            first|exact z58 (by assumption)|exact z4W g hs hy.2 heu.2.2.2.1 (by assumption)
  first
  | exact yJ.intro ⟨by omega,z8S hy.2 hn⟩
  | (rw [zYy hn];done)
 all_goals try
  refine yJ.intro fun p hp=> ?_;rcases yC.1 hp with k|k
  ·exact heu.1 p k
  ·rw [zF.1 k];assumption
 all_goals try
  have e9:y.1=l.length:=by omega
  rw [e9];unfold zD7;rfl
 all_goals have hcl:=zOp x l y.1
 all_goals have hw:zD2 x (l.getD y.1 (0,0)).1 (l.getD y.1 (0,0)).2=0:=by assumption
 all_goals have hOk:=z2U g hs hy.2 hw (fun p q=>hpu.1 p ((hpu.2.2 p).2 q))
 all_goals try first
  | (rw [zN4 hOk,zO];rfl)
  | exact zN4 hOk
  | (refine yJ.intro ?_;omega)
 all_goals try
  have hb:zI7 x (l.getD y.1 (0,0)):=(z19 g hs hw).1 (by first|exact .inl (by assumption)|exact .inr (by assumption));obtain ⟨q1,q2,q3,q4⟩:=zTW g hs hOk hb hy.2
  first
  | exact yJ.intro q1
  | exact yJ.intro q2
  | exact absurd (by assumption) q3
  | exact yJ.intro ⟨by omega,q4 _ hpw.2.2⟩
 all_goals
  have hb: ¬ zI7 x (l.getD y.1 (0,0)):=fun q=>((z19 g hs hw).2 q).elim (by assumption) (by assumption);exact yJ.intro ⟨by omega,z7w g hy.2 hOk hb hpw.2.2⟩
theorem zSL (l:List (Int×Int)):zHO ⟨tyL,[(27,z6A),(57,zLp),(63,zW2)],[(62,.run zVS)]⟩ z7U Tryz.f22 [(ETy.pt yI).av none,(ETy.sl .arr2).av l] (fun r=>r= .s (.sl .arr2 [])):=by
 refine z5l rfl ?_
 repeat' (first
           | ((with_reducible show qC _ _ (Code.seq _ _) _ _);first|refine z6j rfl ?_|refine z6u rfl ?_)
           | with_reducible refine zUf ?_
           | with_reducible refine zWd ?_
           | with_reducible refine zQ7 ?_
           | with_reducible refine z2C ?_
           | with_reducible refine zVF ?_
           | with_reducible refine z1q ?_
           | with_reducible refine z6C ?_
           | ((with_reducible show qC _ _ (Code.cond _ _ _) _ _);first|refine z1O rfl ?_|refine zWc rfl ?_)
           | with_reducible refine zRH ?_
           | with_reducible refine zRC ?_
           | with_reducible refine zQi ?_
           | with_reducible refine zRj ?_
           | ((with_reducible show z1w _ _ (Exit.exit _) _);first|refine z1H rfl ?_|refine z1c rfl ?_)
           | with_reducible refine z1d ?_
           | with_reducible refine z16 ?_
           | with_reducible refine z1v ?_
           | with_reducible refine zLT ?_
           | with_reducible refine zMH ?_
           | with_reducible refine zXI ?_
           | with_reducible refine zHZ ?_
           | (conv=>whnf
              first
           | done
           | refine qN (by first|rfl|omega|(simp only [yO] at *;omega)) ?_
           | apply qH
           | refine qG fun _=> ?_
           | apply qB
           | apply qa
           | apply qo
           | refine qe (fun _=> ?_) (fun _=> ?_)
           | refine qn (fun _=> ?_) (fun _=> ?_)
           | refine qd (fun _=> ?_) (fun _=> ?_)
           | apply qt
           | refine qi (fun _=> ?_) (fun _=> ?_)
           | with_reducible refine zRH ?_
           | with_reducible refine zRC ?_
           | with_reducible refine zQi ?_
           | with_reducible refine zRj ?_
           | with_reducible refine zLT ?_
           | with_reducible refine zMH ?_
           | with_reducible refine zHZ ?_
           | refine zA rfl ?_
           | apply qE
           | apply qO
           | exact zN
           | apply qq
           | apply qs
           | refine qK (by kernel_rfl) ?_
           | apply qr))
 all_goals try first|apply qz1|apply qz2|apply qz3|apply qz4|apply qz5|apply qz6|apply qz7|apply qz8|apply qz9|apply qz0
 all_goals try simp only [zZ,zR,yE,z6,qn1,zY,qn2,zX,ETy.dflt,qn3,qn4,Int.reduceToNat,Int.reduceAdd,Int.reduceSub,Int.reduceNeg,Nat.reduceAdd,zD] at *
 all_goals rfl
def zFV:List AV->Option Res:=zCs (.pt yI) (.sl .arr2) (fun o l=>some (none,some ((∀ x,o=some x->Full x/\jU (InN x.1.1) x.1.2)/\l.length<=100000),.s (.sl .arr2 (match o with|some x=>zD7 x l|none=>[]))))
theorem zJZ:qM Tryz.prog 22 zFV:=⟨jC fun o l r h=>by
 cases h;cases o with
 | none=>exact zHA (yM (fn:=[(27,z6A),(57,zLp),(63,zW2)]) (fr:=[(62,.run zVS)]) ⟨z11,zLF,zTk,trivial⟩ ⟨zV8,trivial⟩) zUS Tryz.func22 rfl (by kernel_rfl) (zU rfl) fun _ _=>zSL l
 | some x=>exact zHA (yM (fn:=[(27,z6A),(57,zLp),(63,zW2)]) (fr:=[(62,.run zVS)]) ⟨z11,zLF,zTk,trivial⟩ ⟨zV8,trivial⟩) zUS Tryz.func22 rfl (by kernel_rfl) (zU rfl) fun _ h=>zWX x l (h.1 x rfl).1 (h.1 x rfl).2 h.2,_,Tryz.func22,by kernel_rfl,by kernel_rfl⟩
end S1
open Go Go.Vm Go.Proofs
namespace S1
def bwL (n:Nat):List Int:=(List.range n).map fun (j:Nat)=>(n:Int) - 1 - j
theorem zFQ (n:Nat):(bwL n).length=n:=by unfold bwL;rw [y8,zAv]
theorem zPe {n k:Nat} (h:k<n):(bwL n).getD k 0=(n:Int) - 1 - k:=by
 unfold bwL;rw [zQ,List.getElem?_map,List.getElem?_range h];rfl
theorem zRU {n k:Nat} (h:k<n):(bwL n).take k++[(n:Int) - 1 - k]=(bwL n).take (k+1):=by
 rw [yB (by rw [zFQ];exact h)];have:=zPe h;rw [zQ,zG (by rw [zFQ];exact h)] at this;rw [<- show (bwL n)[k]'(by rw [zFQ];exact h)=(n:Int) - 1 - k from this]
def zWK (R:List zAK):Spec Nat where
 inv k:=k<=R.length
 live k:=[(3,.s (.int .i64 ((R.length:Int) - 1 - k)))]
 keep:=[0,1]
 heap _:=[]
 keepH:=[]
 mu k:=R.length - k
theorem z6L (R:List zAK) (hn:R.length<=100000):zPK ⟨tyL,[],[]⟩ Tryz.f105 [⟨.sl zGR,R⟩] (bwL R.length):=by
 repeat' (conv=>whnf
          first|done|refine qN (by first|rfl|omega|(simp only [yO] at *;omega)) ?_|apply qH|refine qG fun _=> ?_|apply qB|apply qa|apply qo|refine qe (fun _=> ?_) (fun _=> ?_)|refine qn (fun _=> ?_) (fun _=> ?_)|refine qd (fun _=> ?_) (fun _=> ?_)|apply qt|refine qi (fun _=> ?_) (fun _=> ?_)|refine (fun (l:Nat)=> ?_)|refine zB Nat (zB (zWK R) (zB (fun k=>(bwL R.length).take k) (zA (zB 0 (zA (yJ.out ?_) (zA (zAk.out ?_) (zA ?_ (zA ?_ rfl))))) (fun k hk=> ?_))))|((with_reducible show (∃ y,And (Spec.inv (zWK _) y) _));refine zB (k+1) (zA (yJ.out ?_) (zA (zAk.out ?_) (zA (zA ?_ (zA ?_ rfl)) (yJ.out ?_)))))|refine zA (yJ.out (p:=(_++[_]) <+: _) ?_) ?_|refine zA (zAk.intro (y9.out ?_)) ?_|refine zAk.out ?_|refine zA rfl ?_|apply qE|apply qO|exact zN|apply qq|apply qs|refine qK (by kernel_rfl) ?_|apply qr)
 all_goals try first|apply qz1|apply qz2|apply qz3|apply qz4|apply qz5|apply qz6|apply qz7|apply qz8|apply qz9|apply qz0
 all_goals try simp only [zZ,zR,yE,z6,qn1,zY,qn2,zX,ETy.dflt,qn3,qn4,Int.reduceToNat,Int.reduceAdd,Int.reduceSub,Int.reduceNeg,Nat.reduceAdd,zD,zWK] at *
 all_goals have eR:List.length ((some R).getD [])=R.length:=rfl
 all_goals have hlb:=zFQ R.length
 ·exact yJ.intro (Nat.zero_le _)
 ·exact zAk.intro rfl
 ·rw [eR];omega
 ·refine yJ.intro ?_;rw [eR];omega
 all_goals try have hk1:k<R.length:=by omega
 ·rw [zRU hk1];exact yJ.intro (List.take_prefix _ _)
 ·exact y9.intro rfl
 ·exact yJ.intro hk1
 ·exact zAk.intro (zRU hk1).symm
 ·omega
 ·refine yJ.intro ?_;omega
 ·exact zAk.intro (List.take_of_length_le (by omega))
theorem z6W {n:Nat} (h:n<=100000): ∀ x∈bwL n,InK .i64 x:=fun x hx=>by
 obtain ⟨j,hj,rfl⟩:=yD.1 hx;have:=zV.1 hj;exact InK.i64.2 (by unfold yO;omega)
def seqB:zCv:=fun f ps L=>f=105/\∃ R:List zAK,ps=[⟨.sl zGR,R⟩]/\R.length<=100000/\L=bwL R.length
theorem z7C:zD3 Tryz.prog seqB:=fun f ps L h=>by
 obtain ⟨rfl,R,rfl,hn,rfl⟩:=h;exact seq_ok (yM (fn:=[]) (fr:=[]) trivial trivial) Tryz.func105 rfl (by kernel_rfl) rfl (by kernel_rfl) (zU rfl) (z6W hn) fun _=>z6L R hn
theorem z7t {fn} (R:List zAK):zAG ⟨tyL,fn,[]⟩ Tryz.f67 [(ETy.sl zGR).av R] (fun r=>r= .s (.clo 105 [⟨.sl zGR,R⟩])):=by
 repeat' (conv=>whnf
          first|done|refine qN (by first|rfl|omega|(simp only [yO] at *;omega)) ?_|apply qH|refine qG fun _=> ?_|apply qB|apply qa|apply qo|refine qe (fun _=> ?_) (fun _=> ?_)|refine qn (fun _=> ?_) (fun _=> ?_)|refine qd (fun _=> ?_) (fun _=> ?_)|apply qt|refine qi (fun _=> ?_) (fun _=> ?_)|refine zA rfl ?_|apply qE|apply qO|exact zN|apply qq|apply qs|refine qK (by kernel_rfl) ?_|apply qr)
 all_goals try first|apply qz1|apply qz2|apply qz3|apply qz4|apply qz5|apply qz6|apply qz7|apply qz8|apply qz9|apply qz0
 all_goals try simp only [zZ,zR,yE,z6,qn1,zY,qn2,zX,ETy.dflt,qn3,qn4,Int.reduceToNat,Int.reduceAdd,Int.reduceSub,Int.reduceNeg,Nat.reduceAdd,zD] at *
def bwC:List AV->Option Res:=zEv (.sl zGR) (fun R=>some (none,none,.s (.clo 105 [⟨.sl zGR,R⟩])))
theorem z8Q:qM Tryz.prog 67 bwC:=⟨zAW fun R r h=>by cases h;exact qL (yM (fn:=[]) (fr:=[]) trivial trivial) Tryz.func67 (by kernel_rfl) fun _ _=>z7t R,_,Tryz.func67,by kernel_rfl,by kernel_rfl⟩
inductive ChB (s:SoT):SoT->List zAK->Prop
 | nil:ChB s s []
 | snoc {x y:SoT} {R:List zAK} {r:zAK} :ChB s y R->doR y r.1 r.2.1=(x,r,0)->ChB s x (R++[r])
theorem ChB.back {s x:SoT} {R:List zAK} {r:zAK} (h:ChB s x (R++[r])):(zBp x r).2=0/\ChB s (zBp x r).1 R:=by
 generalize e:R++[r]=Q at h;cases h with
 | nil=>simp at e
 | snoc h1 h2 =>
   obtain ⟨e1,e2⟩:=List.append_inj' e rfl;cases e2;subst e1;have:=zRV h2;rw [this];exact ⟨rfl,h1⟩
theorem ChB.zero {s x:SoT} (h:ChB s x []):x=s:=by
 generalize e:([]:List zAK)=Q at h;cases h with
 | nil=>rfl
 | snoc=>simp at e
noncomputable def unS (x:SoT) (R:List zAK):Nat->SoT
 | 0=>x
 | k+1=>(zBp (unS x R k) (R.getD (R.length - 1 - k) zOh)).1
theorem zK6 {R:List zAK} {k:Nat} (h:k<R.length):R.take (k+1)=R.take k++[R.getD k zOh]:=by
 rw [yB h,zQ,zG h];rfl
theorem zWW {s x:SoT} {R:List zAK} (h:ChB s x R): ∀ k,k<=R.length->ChB s (unS x R k) (R.take (R.length - k))
 | 0,_=>by rw [Nat.sub_zero,List.take_length];exact h
 | k+1,hk=>by
   have ih:=zWW h k (by omega);rw [show R.length - k=(R.length - (k+1))+1 by omega,zK6 (by omega)] at ih;have:=ih.back.2;unfold unS;rw [show R.length - 1 - k=R.length - (k+1) by omega];exact this
theorem z7L {s x:SoT} {R:List zAK} (h:ChB s x R) {k:Nat} (hk:k<R.length):(zBp (unS x R k) (R.getD (R.length - 1 - k) zOh)).2=0:=by
 have ih:=zWW h k (by omega);rw [show R.length - k=(R.length - 1 - k)+1 by omega,zK6 (by omega)] at ih;exact ih.back.1
theorem z2Q {s x:SoT} {R:List zAK} (h:ChB s x R):unS x R R.length=s:=by
 have:=zWW h R.length (zI _);rw [Nat.sub_self,List.take_zero] at this;exact this.zero
noncomputable def z1g (x:SoT) (R:List zAK):Spec Nat where
 inv _:=True
 live _:=[]
 keep:=[1,2,4,5]
 heap k:=[(0,.flat 24 [.int .i64 (unS x R k).1,.sl .arr3 (unS x R k).2])]
 keepH:=[1,2,3,4]
 mu _:=0
theorem z2N {s x:SoT} {R:List zAK} (h:ChB s x R) {k:Nat} (hk:k<(bwL R.length).length):(zBp (unS x R k) (R.getD ((bwL R.length).getD k 0).toNat zOh)).2=0:=by
 rw [zFQ] at hk;have:=z7L h hk;rw [zPe hk,show ((R.length:Int) - 1 - k).toNat=R.length - 1 - k by omega];exact this
attribute [local irreducible] zBp unS
theorem zZL (n:Int) (l:List P3) (R:List zAK) (s:SoT) (h:ChB s (n,l) R) (hn:R.length<=100000) (hl:l.length<=8192):zHO ⟨tyL,[(64,zHz),(67,bwC),(68,zWV)],[]⟩ seqB Tryz.f25 [qR.av (n,l),(ETy.sl zGR).av R] (fun r=>r=zS1 (s,0)):=by
 repeat' (conv=>whnf
          first|done|refine qN (by first|rfl|omega|(simp only [yO] at *;omega)) ?_|apply qH|refine qG fun _=> ?_|apply qB|apply qa|apply qo|refine qe (fun _=> ?_) (fun _=> ?_)|refine qn (fun _=> ?_) (fun _=> ?_)|refine qd (fun _=> ?_) (fun _=> ?_)|apply qt|refine qi (fun _=> ?_) (fun _=> ?_)|refine zB (bwL R.length) (zA (yJ.out ?_) (zB (z1g (n,l) R) ?_))|(refine zA (fun X=> ?_) (fun X=> ?_))|(refine zA (zA ?_ (zA ?_ rfl)) (fun k hk=> ?_))|(refine zA ?_ (zA ?_ rfl))|exact absurd (z2N h hk) (by assumption)|refine zA rfl ?_|apply qE|apply qO|exact zN|apply qq|apply qs|refine qK (by kernel_rfl) ?_|apply qr)
 all_goals try first|apply qz1|apply qz2|apply qz3|apply qz4|apply qz5|apply qz6|apply qz7|apply qz8|apply qz9|apply qz0
 all_goals try simp only [zZ,zR,yE,z6,qn1,zY,qn2,zX,ETy.dflt,qn3,qn4,Int.reduceToNat,Int.reduceAdd,Int.reduceSub,Int.reduceNeg,Nat.reduceAdd,zD,z1g] at *
 ·exact yJ.intro ⟨rfl,R,rfl,hn,rfl⟩
 ·rw [show unS (n,l) R 0=(n,l) by unfold unS;rfl];exact jL.intro rfl
 ·have e:unS (n,l) R (k+1)=(zBp (unS (n,l) R k) (R.getD ((bwL R.length).getD k 0).toNat zOh)).1:=by
   have hk1:k<R.length:=by rw [zFQ] at hk;exact hk
   rw [zPe hk1,show ((R.length:Int) - 1 - k).toNat=R.length - 1 - k by omega];conv=>lhs;unfold unS
  rw [e];exact jL.intro rfl
 ·rw [zFQ,z2Q h];exact y9.intro rfl
def zN0 (s0:SoT):List AV->Option Res:=zCs qR (.sl zGR) (fun s R=>some (none,some (ChB s0 s R/\R.length<=100000/\s.2.length<=8192),zS1 (s0,0)))
theorem zSB (s0:SoT):qM Tryz.prog 25 (zN0 s0):=⟨jC fun s R r h=>by
 cases h;exact zHA (yM (fn:=[(64,zHz),(67,bwC),(68,zWV)]) (fr:=[]) ⟨zMB,z8Q,z0u,trivial⟩ trivial) z7C Tryz.func25 rfl (by kernel_rfl) (zU rfl) fun _ h=>zZL s.1 s.2 R s0 h.1 h.2.1 h.2.2,_,Tryz.func25,by kernel_rfl,by kernel_rfl⟩
end S1
open Go Go.Vm Go.Proofs
namespace S1
abbrev EdB:=List (Int×Int)
def zZK (R:List zAK) (e:Int×Int):Int×Int:=(zAx R e.1,zAx R e.2)
def doK (s:SoT) (l:EdB):Nat->SoT×List zAK
 | 0=>(s,[])
 | k+1=>((doR (doK s l k).1 (zAx (doK s l k).2 (l.getD k (0,0)).1) (zAx (doK s l k).2 (l.getD k (0,0)).2)).1,
   (doK s l k).2++[(doR (doK s l k).1 (zAx (doK s l k).2 (l.getD k (0,0)).1) (zAx (doK s l k).2 (l.getD k (0,0)).2)).2.1])
theorem zOP (r:zAK): ∀ (R:List zAK) (v:Int),zAx (R++[r]) v=if zJ7 (zAx R v) r.1 r.2.1<0 then -1 else zJ7 (zAx R v) r.1 r.2.1
 | [],v=>by
   show zAx [r] v=_;unfold zAx;split
   ·rfl
   ·rfl
 | q::l,v=>by
   show zAx (q::(l++[r])) v=_;unfold zAx;split
   ·rw [if_pos (by unfold zJ7;rw [if_pos (by decide)];decide)]
   ·exact zOP r l _
theorem z0d {s:SoT} {a b:Int} (hs:zBC s) (k:zBN s.2 a b):doE s a b=0/\(doR s a b).1=z1L s a b/\(doR s a b).2.1.1=a/\(doR s a b).2.1.2.1=b:=by
 have hi:=zDo hs k
 have h0:doE s a b=0:=by
  rw [zHd hs,if_pos ⟨hi.1,hi.2⟩,(zEj hs k).1];rfl
 rw [zS0 h0];refine ⟨h0,?_,rfl,rfl⟩;show (s.1 - 1,drL a b s.2 s.2.length)=_;rw [zXy];rfl
theorem z7v {a v:Int} (hv:0<=v) (ha:0<=a):0<=dn a v:=by unfold dn;split<;>omega
theorem zTz {α:Type} {l:List α} {k:Nat} (d:α) (h:k<l.length):l.drop k=l.getD k d::l.drop (k+1):=by
 rw [List.drop_eq_getElem_cons h,zQ,zG h];rfl
structure z72 (s:SoT) (l:EdB) (k:Nat):Prop where
 bat:z0j (doK s l k).1 ((l.drop k).map (zZK (doK s l k).2))
 len:(doK s l k).2.length=k
 num:(doK s l k).1.1=s.1 - k
 ch:ChB s (doK s l k).1 (doK s l k).2
 ok:okR (doK s l k).2
 tri:(doK s l k).1.2.length<=s.2.length
theorem zZ0 (a b:Int) (l:List P3):(zIX a b l).length<=l.length:=by
 unfold zIX;rw [y8];exact List.length_filter_le _ _
theorem zMG {s:SoT} {l:EdB} {k:Nat} (h:z72 s l k) (hk:k<l.length):(doR (doK s l k).1 (zAx (doK s l k).2 (l.getD k (0,0)).1) (zAx (doK s l k).2 (l.getD k (0,0)).2)).2.2=0/\
 (doK s l (k+1)).1=z1L (doK s l k).1 (zAx (doK s l k).2 (l.getD k (0,0)).1) (zAx (doK s l k).2 (l.getD k (0,0)).2)/\
 (∀ v,0<=zAx (doK s l k).2 v->zAx (doK s l (k+1)).2 v=dn (zAx (doK s l k).2 (l.getD k (0,0)).1) (ph (zAx (doK s l k).2 (l.getD k (0,0)).1) (zAx (doK s l k).2 (l.getD k (0,0)).2) (zAx (doK s l k).2 v))/\0<=zAx (doK s l (k+1)).2 v)/\z72 s l (k+1):=by
 have hb:=h.bat;rw [zTz (0,0) hk,List.map_cons] at hb;obtain ⟨a,ea⟩: ∃ a,a=zAx (doK s l k).2 (l.getD k (0,0)).1:=⟨_,rfl⟩;obtain ⟨b,eb⟩: ∃ b,b=zAx (doK s l k).2 (l.getD k (0,0)).2:=⟨_,rfl⟩;have hb:z0j (doK s l k).1 ((a,b)::(l.drop (k+1)).map (zZK (doK s l k).2)):=by rw [ea,eb];exact hb
 have hf:zBN (doK s l k).1.2 a b:=hb.free (a,b) (yA ..);have hi:=zDo hb.surf hf;have ia:0<=a/\a<(doK s l k).1.1:=hi.1;have ib:0<=b/\b<(doK s l k).1.1:=hi.2;obtain ⟨d1,d2,d3,d4⟩:=z0d hb.surf hf;have e1:(doK s l (k+1)).1=(doR (doK s l k).1 a b).1:=by rw [ea,eb];rfl
 have e2:(doK s l (k+1)).2=(doK s l k).2++[(doR (doK s l k).1 a b).2.1]:=by rw [ea,eb];rfl
 have hn: ∀ v,0<=zAx (doK s l k).2 v->zAx (doK s l (k+1)).2 v=dn a (ph a b (zAx (doK s l k).2 v))/\0<=zAx (doK s l (k+1)).2 v:=fun v hv=>by
  have hw:0<=dn a (ph a b (zAx (doK s l k).2 v)):=z7v (by unfold ph;split<;>omega) ia.1
  have e:zAx (doK s l (k+1)).2 v=dn a (ph a b (zAx (doK s l k).2 v)):=by
   rw [e2,zOP,d3,d4,zKg hv,if_neg (by omega)]
  exact ⟨e,by rw [e];exact hw⟩
 rw [<- ea,<- eb];refine ⟨by rw [zKf];exact d1,by rw [e1,d2],hn,⟨?_,?_,?_,?_,?_,?_⟩⟩
 ·have hs:=zWU hb;rw [e1,d2];rw [List.map_map] at hs
  have ec:(l.drop (k+1)).map (zZK (doK s l (k+1)).2)=(l.drop (k+1)).map (dn2 a ∘ zZK (doK s l k).2):=by
   refine List.map_congr_left fun e he=> ?_;have hm:zZK (doK s l k).2 e∈(l.drop (k+1)).map (zZK (doK s l k).2):=yD.2 ⟨e,he,rfl⟩;have hf2:zBN (doK s l k).1.2 (zZK (doK s l k).2 e).1 (zZK (doK s l k).2 e).2:=hb.free _ (zS _ hm);have hap:=(List.pairwise_cons.1 hb.apart).1 _ hm;have hne:=zH1 hf2 hap;have hi2:=zDo hb.surf hf2;show (zAx _ e.1,zAx _ e.2)=(dn a (zAx _ e.1),dn a (zAx _ e.2));rw [(hn e.1 hi2.1.1).1,(hn e.2 hi2.2.1).1,zTH (show zAx _ e.1≠a from hne.1.1),zTH (show zAx _ e.2≠a from hne.2.1)]
  rw [ec];exact hs
 ·rw [e2,zO,h.len];rfl
 ·rw [e1,d2];show (doK s l k).1.1 - 1=_;rw [h.num];omega
 ·rw [e1,e2];refine .snoc h.ch ?_;rw [d3,d4];have e0:=zS0 d1;rw [e0]
 ·intro r hr;rw [e2] at hr;rcases yC.1 hr with k|k
  ·exact h.ok r k
  ·rw [zF.1 k,d4];have:=hb.surf.fit.2.1;omega
 ·rw [e1,d2];show ((zIX a b (doK s l k).1.2).map _).length<=_;rw [y8];exact Nat.le_trans (zZ0 _ _ _) h.tri
theorem zRQ {s:SoT} {l:EdB} (h:z0j s l): ∀ k,k<=l.length->z72 s l k
 | 0,_=>by
   refine ⟨?_,rfl,(Int.sub_zero _).symm,.nil,fun r hr=>(by cases hr),zI _⟩
   have e:(l.drop 0).map (zZK (doK s l 0).2)=l:=by
    rw [List.drop_zero];exact (List.map_congr_left (fun e _=>show (zAx [] e.1,zAx [] e.2)=e from rfl)).trans (List.map_id l)
   rw [e];exact h
 | k+1,hk=>(zMG (zRQ h k (by omega)) (by omega)).2.2.2
end S1
open Go Go.Vm Go.Proofs
namespace S1
def zM3 (o:Option yI.T) (l:List (Int×Int)):Bool:=match o with
 | some x=>decide (((zD7 x l).length:Int)=l.length)
 | none=>false
attribute [local irreducible] zD7
theorem z7B (x:yI.T) (l:List (Int×Int)) (g:Full x) (hs:jU (InN x.1.1) x.1.2) (hl9:l.length<=100000):zAG ⟨tyL,[(22,zFV)],[]⟩ Tryz.f19 [(ETy.pt yI).av (some x),(ETy.sl .arr2).av l] (fun r=>r= .s (.bool (zM3 (some x) l))):=by
 repeat' (conv=>whnf
          first|done|refine qN (by first|rfl|omega|(simp only [yO] at *;omega)) ?_|apply qH|refine qG fun _=> ?_|apply qB|apply qa|apply qo|refine qe (fun _=> ?_) (fun _=> ?_)|refine qn (fun _=> ?_) (fun _=> ?_)|refine qd (fun _=> ?_) (fun _=> ?_)|apply qt|refine qi (fun _=> ?_) (fun _=> ?_)|refine zA rfl ?_|apply qE|apply qO|exact zN|apply qq|apply qs|refine qK (by kernel_rfl) ?_|apply qr)
 all_goals try first|apply qz1|apply qz2|apply qz3|apply qz4|apply qz5|apply qz6|apply qz7|apply qz8|apply qz9|apply qz0
 all_goals try simp only [zZ,zR,yE,z6,qn1,zY,qn2,zX,ETy.dflt,qn3,qn4,Int.reduceToNat,Int.reduceAdd,Int.reduceSub,Int.reduceNeg,Nat.reduceAdd,zD,zM3] at *
 all_goals try exact yJ.intro ⟨fun y h=>by cases h;exact ⟨g,hs⟩,hl9⟩
 all_goals (rw [Bool.eq_iff_iff,beq_iff_eq,zP];done)
theorem z47 (l:List (Int×Int)):zAG ⟨tyL,[(22,zFV)],[]⟩ Tryz.f19 [(ETy.pt yI).av none,(ETy.sl .arr2).av l] (fun r=>r= .s (.bool (zM3 none l))):=by
 repeat' (conv=>whnf
          first|done|refine qN (by first|rfl|omega|(simp only [yO] at *;omega)) ?_|apply qH|refine qG fun _=> ?_|apply qB|apply qa|apply qo|refine qe (fun _=> ?_) (fun _=> ?_)|refine qn (fun _=> ?_) (fun _=> ?_)|refine qd (fun _=> ?_) (fun _=> ?_)|apply qt|refine qi (fun _=> ?_) (fun _=> ?_)|refine zA rfl ?_|apply qE|apply qO|exact zN|apply qq|apply qs|refine qK (by kernel_rfl) ?_|apply qr)
 all_goals try first|apply qz1|apply qz2|apply qz3|apply qz4|apply qz5|apply qz6|apply qz7|apply qz8|apply qz9|apply qz0
 all_goals try simp only [zZ,zR,yE,z6,qn1,zY,qn2,zX,ETy.dflt,qn3,qn4,Int.reduceToNat,Int.reduceAdd,Int.reduceSub,Int.reduceNeg,Nat.reduceAdd,zD,zM3] at *
 all_goals try rfl
def z3x:List AV->Option Res:=zCs (.pt yI) (.sl .arr2) (fun o l=>some (none,some ((∀ x,o=some x->Full x/\jU (InN x.1.1) x.1.2)/\l.length<=100000),.s (.bool (zM3 o l))))
theorem zT1:qM Tryz.prog 19 z3x:=⟨jC fun o l r h=>by
 cases h;cases o with
 | none=>exact qL (yM (fn:=[(22,zFV)]) (fr:=[]) ⟨zJZ,trivial⟩ trivial) Tryz.func19 (by kernel_rfl) fun _ _=>z47 l
 | some x=>exact qL (yM (fn:=[(22,zFV)]) (fr:=[]) ⟨zJZ,trivial⟩ trivial) Tryz.func19 (by kernel_rfl) fun _ h=>z7B x l (h.1 x rfl).1 (h.1 x rfl).2 h.2,_,Tryz.func19,by kernel_rfl,by kernel_rfl⟩
def zRo (s:SoT) (l:EdB):Int:=if isR s=true then (if zM3 (some (zAr s)) l=true then 0 else 14) else 11
def doB (s:SoT) (l:EdB):SoT×List zAK×Int:=if zRo s l=0 then ((doK s l l.length).1,(doK s l l.length).2,0) else ((0,[]),[],zRo s l)
def z8a (r:SoT×List zAK×Int):AV:= .tup [qR.av r.1,.s (.sl zGR r.2.1),.s (.int .i64 r.2.2)]
def z6k (r:SoT×List zAK×Int):AV:=if r.2.2=0 then z8a r else .tup [.agg [.int .i64 0,.val (.slice none 0 0)],.s (.sl zGR []),.s (.int .i64 r.2.2)]
theorem zZN {s:SoT} {l:EdB} (h:zRo s l=0):doB s l=((doK s l l.length).1,(doK s l l.length).2,0):=if_pos h
theorem z6e {s:SoT} {l:EdB} {e:Int} (h:zRo s l=e) (he:e≠0):doB s l=((0,[]),[],e):=by unfold doB;rw [if_neg (by rw [h];exact he),h]
theorem z2A {s:SoT} {l:EdB} {e:Int} (h:zRo s l=e) (he:e≠0):z6k (doB s l)= .tup [.agg [.int .i64 0,.val (.slice none 0 0)],.s (.sl zGR []),.s (.int .i64 e)]:=by
 rw [z6e h he];unfold z6k;rw [if_neg he]
theorem zQU {σ:Sig} {s:SoT} {l:EdB} {v:Value} (h:y5 σ [] (z6k (doB s l)) v):y5 σ [] (z8a (doB s l)) v:=by
 by_cases he:zRo s l=0
 ·rw [zZN he] at *;exact h
 ·rw [z2A rfl he] at h;rw [z6e rfl he];obtain ⟨vs,e1,h⟩:=h
  match vs,h with
  | [x,y,z],⟨⟨ds,ea,h1⟩,h2,h3⟩ =>
    refine ⟨_,e1,⟨ds,ea,?_⟩,h2,h3⟩
    match ds,h1 with
    | [d1,d2],⟨k1,k2,k3⟩=>exact ⟨k1,zJK k2,k3⟩
theorem zLO {s:SoT} (hs:zBC s) {l:EdB} :zM3 (some (zAr s)) l=true↔z0j s l:=by
 obtain ⟨_,g,e⟩:=zAy hs;have hm:jU (InN (zAr s).1.1) (zAr s).1.2:=zA8 (s:=(zAr s).1) (by rw [e];exact hs);have:=zPW g hm (l:=l);unfold zM3;rw [zP];constructor
 ·intro h;have b:=this.1 (by omega);exact ⟨hs,by rw [<- e];exact b.free,by rw [<- e];exact b.apart⟩
 ·intro h;have:=this.2 ⟨by rw [e];exact h.free,by rw [e];exact h.apart⟩;omega
theorem zYq (s:SoT) (l:EdB) (k:Nat):doK s l (k+1)=((doR (doK s l k).1 (zAx (doK s l k).2 (l.getD k (0,0)).1) (zAx (doK s l k).2 (l.getD k (0,0)).2)).1,
 (doK s l k).2++[(doR (doK s l k).1 (zAx (doK s l k).2 (l.getD k (0,0)).1) (zAx (doK s l k).2 (l.getD k (0,0)).2)).2.1]):=rfl
theorem z4j (s:SoT) (l:EdB):doK s l 0=(s,[]):=rfl
def zUA (s:SoT) (l:EdB):Spec Nat where
 inv k:=k<=l.length
 live k:=[(35,.s (.int .i64 k)),(9,.s (.own 4 0 (doK s l k).2.length))]
 keep:=[2,4,33,34]
 heap k:=[(0,.flat 24 [.int .i64 (doK s l k).1.1,.sl .arr3 (doK s l k).1.2]),(4,.row zGR 103 (doK s l k).2)]
 keepH:=[1,2,3]
 mu k:=l.length - k
attribute [local irreducible] doR zAx doK zM3
theorem z6J (n:Int) (l:List P3) (es:EdB) (x:yI.T) (hx:zGn (n,l)=some x) (hl9:es.length<=100000):zAG ⟨tyL,[(54,zKz x),(19,z3x),(64,zHz),(66,z68),(65,z3Q)],[]⟩ Tryz.f24 [qR.av (n,l),(ETy.sl .arr2).av es] (fun r=>r=z6k (doB (n,l) es)):=by
 obtain ⟨e0,g,hs⟩:=zHf hx
 repeat' (conv=>whnf
          first|done|refine qN (by first|rfl|omega|(simp only [yO] at *;omega)) ?_|apply qH|refine qG fun _=> ?_|apply qB|apply qa|apply qo|refine qe (fun _=> ?_) (fun _=> ?_)|refine qn (fun _=> ?_) (fun _=> ?_)|refine qd (fun _=> ?_) (fun _=> ?_)|apply qt|refine qi (fun _=> ?_) (fun _=> ?_)|(refine qS 9 rfl ?_;refine Or.inr (zB (Nat) (zB (zUA (n,l) es) (zA (zB (0) (zA (yJ.out ?_) (zA ?_ (zA ?_ rfl)))) (fun k hk=> ?_)))))|((with_reducible show (∃ y,And (Spec.inv (zUA _ _) y) _));refine zB (k+1) (zA (yJ.out ?_) (zA (zA ?_ (zA ?_ rfl)) (yJ.out ?_))))|refine zA rfl ?_|apply qE|apply qO|exact zN|apply qq|apply qs|refine qK (by kernel_rfl) ?_|apply qr)
 all_goals try first|apply qz1|apply qz2|apply qz3|apply qz4|apply qz5|apply qz6|apply qz7|apply qz8|apply qz9|apply qz0
 all_goals try simp only [zZ,zR,yE,z6,qn1,zY,qn2,zX,ETy.dflt,qn3,qn4,Int.reduceToNat,Int.reduceAdd,Int.reduceSub,Int.reduceNeg,Nat.reduceAdd,zD,zUA] at *
 all_goals have hsm:jU (InN x.1.1) x.1.2:=by
            obtain ⟨_,_,e⟩:=zAy hs;rw [e0];exact zA8 (s:=(zAr (n,l)).1) (by rw [e];exact hs)
 all_goals try exact yJ.intro ⟨fun y h=>by cases h;exact ⟨g,hsm⟩,hl9⟩
 all_goals try
  have hB0:zM3 (some x) es=false:=by assumption
  have h14:zRo (n,l) es=14:=by
        unfold zRo;rw [if_pos ((zCW (n,l)).2 hs),<- e0,if_neg (by rw [hB0];decide)]
  exact y9.intro (z2A h14 (by decide)).symm
 all_goals have hB:zM3 (some x) es=true:=by assumption
 all_goals have hb:z0j (n,l) es:=(zLO hs).1 (by rw [<- e0];exact hB)
 all_goals have h0:zRo (n,l) es=0:=by
            unfold zRo;rw [if_pos ((zCW (n,l)).2 hs),<- e0,if_pos hB]
 all_goals try exact yJ.intro (show l.length<=8192 from hs.fit.2.2.1)
 all_goals try (refine yJ.intro ?_;omega)
 all_goals try first
  | (rw [z4j];done)
  | (rw [z4j];rfl)
  | (rw [z4j];exact jL.intro rfl)
 all_goals have hd:=zRQ hb k hk
 all_goals have hdl:=hd.len
 all_goals try (refine yJ.intro ?_;omega)
 all_goals try
  have e9:k=List.length es:=by omega
  subst e9;refine y9.intro ?_;rw [zZN h0];unfold z6k;rw [if_pos rfl];rfl
 all_goals have hk1:k<List.length es:=by omega
 all_goals have hst:=zMG hd hk1
 all_goals try exact absurd hst.1 (by assumption)
 all_goals try first
  | (rw [zYq,zO];done)
  | (rw [zYq,zO];rfl)
  | (rw [zYq];done)
  | (rw [zYq];exact jL.intro rfl)
 all_goals
  have hm : List.getD es k (0,0)∈es:=by
            rw [zQ,zG hk1];exact yU hk1
  have hi:=zDo hs (hb.free _ hm);have hn: @LE.le Int _ n 4096:=hs.fit.2.1;have h1: @LE.le Int _ 0 (List.getD es k (0,0)).1/\@LT.lt Int _ (List.getD es k (0,0)).1 n:=hi.1;have h2: @LE.le Int _ 0 (List.getD es k (0,0)).2/\@LT.lt Int _ (List.getD es k (0,0)).2 n:=hi.2;exact yJ.intro ⟨⟨by omega,by omega⟩,hd.ok⟩
def z5m:List AV->Option Res:=zCs qR (.sl .arr2) (fun s es=>some (none,some (zBC s/\es.length<=100000),z8a (doB s es)))
theorem z2J:qM Tryz.prog 24 z5m:=⟨jC fun s es r h=>by
 cases h;cases e:zGn s with
 | none=>exact zCr.res (fun σ vals w hag hv=>⟨trivial,fun hq=>absurd (zAy (show zBC s from hq.1)).1 (by rw [e];simp)⟩) fun σ v h=>zQU h
 | some x=>exact zCr.res (qL (yM (fn:=[(54,zKz x),(19,z3x),(64,zHz),(66,z68),(65,z3Q)]) (fr:=[]) ⟨(zLM x),zT1,zMB,z1n,zTi,trivial⟩ trivial) Tryz.func24 (by kernel_rfl) fun _ h=>z6J s.1 s.2 es x e h.2) fun σ v h=>zQU h,_,Tryz.func24,by kernel_rfl,by kernel_rfl⟩
end S1
open Go Go.Vm Go.Proofs
namespace S9
open S1
@[irreducible] def zF2 (t:P3) (v:Int):Bool:=t.1==v|| (t.2.1==v|| t.2.2==v)
@[irreducible] def zMm (t:P3) (a b:Int):Bool:=(t.1==a&&t.2.1==b)|| ((t.2.1==a&&t.2.2==b)|| (t.2.2==a&&t.1==b))
theorem zZu {fn} (t:P3) (a b:Int):zAG ⟨tyL,fn,[]⟩ Tryz.f178 [ETy.arr3.av t,(ETy.int .i64).av a,(ETy.int .i64).av b] (fun r=>r= .s (.bool (zMm t a b))):=by
 repeat' (conv=>whnf
          first|done|refine qN (by first|rfl|omega|(simp only [yO] at *;omega)) ?_|apply qH|refine qG fun _=> ?_|apply qB|apply qa|apply qo|refine qe (fun _=> ?_) (fun _=> ?_)|refine qn (fun _=> ?_) (fun _=> ?_)|refine qd (fun _=> ?_) (fun _=> ?_)|apply qt|refine qi (fun _=> ?_) (fun _=> ?_)|refine zA rfl ?_|apply qE|apply qO|exact zN|apply qq|apply qs|refine qK (by kernel_rfl) ?_|apply qr)
 all_goals try first|apply qz1|apply qz2|apply qz3|apply qz4|apply qz5|apply qz6|apply qz7|apply qz8|apply qz9|apply qz0
 all_goals try simp only [zZ,zR,yE,z6,qn1,zY,qn2,zX,ETy.dflt,qn3,qn4,Int.reduceToNat,Int.reduceAdd,Int.reduceSub,Int.reduceNeg,Nat.reduceAdd,zD,zMm] at *
 all_goals rw [Bool.eq_iff_iff];simp only [Bool.or_eq_true,zC,beq_iff_eq,Bool.false_eq_true,true_iff,iff_true,false_iff,iff_false];omega
def zWA:List AV->Option Res:=zOb .arr3 (.int .i64) (.int .i64) (fun t a b=>some (none,none,.s (.bool (zMm t a b))))
theorem zYp:qM Tryz.prog 178 zWA:=⟨zDM fun t a b r h=>by cases h;exact qL (yM (fn:=[]) (fr:=[]) trivial trivial) Tryz.func178 (by kernel_rfl) fun _ _=>zZu t a b,_,Tryz.func178,by kernel_rfl,by kernel_rfl⟩
theorem z20 {fn} (t:P3) (v:Int):zAG ⟨tyL,fn,[]⟩ Tryz.f133 [ETy.arr3.av t,(ETy.int .i64).av v] (fun r=>r= .s (.bool (zF2 t v))):=by
 repeat' (conv=>whnf
          first|done|refine qN (by first|rfl|omega|(simp only [yO] at *;omega)) ?_|apply qH|refine qG fun _=> ?_|apply qB|apply qa|apply qo|refine qe (fun _=> ?_) (fun _=> ?_)|refine qn (fun _=> ?_) (fun _=> ?_)|refine qd (fun _=> ?_) (fun _=> ?_)|apply qt|refine qi (fun _=> ?_) (fun _=> ?_)|refine zA rfl ?_|apply qE|apply qO|exact zN|apply qq|apply qs|refine qK (by kernel_rfl) ?_|apply qr)
 all_goals try first|apply qz1|apply qz2|apply qz3|apply qz4|apply qz5|apply qz6|apply qz7|apply qz8|apply qz9|apply qz0
 all_goals try simp only [zZ,zR,yE,z6,qn1,zY,qn2,zX,ETy.dflt,qn3,qn4,Int.reduceToNat,Int.reduceAdd,Int.reduceSub,Int.reduceNeg,Nat.reduceAdd,zD,zF2] at *
 ·rename_i h;rw [h];simp
 ·rename_i h1 h;rw [h];simp
 ·rename_i h1 h2;rw [beq_false_of_ne h1,beq_false_of_ne h2];rfl
def zOk:List AV->Option Res:=zCs .arr3 (.int .i64) (fun t v=>some (none,none,.s (.bool (zF2 t v))))
theorem zOn:qM Tryz.prog 133 zOk:=⟨jC fun t v r h=>by cases h;exact qL (yM (fn:=[]) (fr:=[]) trivial trivial) Tryz.func133 (by kernel_rfl) fun _ _=>z20 t v,_,Tryz.func133,by kernel_rfl,by kernel_rfl⟩
@[irreducible] def zIB (t u:P3):Bool:=zMm u t.1 t.2.1|| (zMm u t.2.1 t.2.2|| zMm u t.2.2 t.1)
theorem zTo (t u:P3):zAG ⟨tyL,[(178,zWA)],[]⟩ Tryz.f159 [ETy.arr3.av t,ETy.arr3.av u] (fun r=>r= .s (.bool (zIB t u))):=by
 repeat' (conv=>whnf
          first|done|refine qN (by first|rfl|omega|(simp only [yO] at *;omega)) ?_|apply qH|refine qG fun _=> ?_|apply qB|apply qa|apply qo|refine qe (fun _=> ?_) (fun _=> ?_)|refine qn (fun _=> ?_) (fun _=> ?_)|refine qd (fun _=> ?_) (fun _=> ?_)|apply qt|refine qi (fun _=> ?_) (fun _=> ?_)|refine zA rfl ?_|apply qE|apply qO|exact zN|apply qq|apply qs|refine qK (by kernel_rfl) ?_|apply qr)
 all_goals try first|apply qz1|apply qz2|apply qz3|apply qz4|apply qz5|apply qz6|apply qz7|apply qz8|apply qz9|apply qz0
 all_goals try simp only [zZ,zR,yE,z6,qn1,zY,qn2,zX,ETy.dflt,qn3,qn4,Int.reduceToNat,Int.reduceAdd,Int.reduceSub,Int.reduceNeg,Nat.reduceAdd,zD,zIB] at *
 all_goals simp [*]
def zPZ:List AV->Option Res:=zCs .arr3 .arr3 (fun t u=>some (none,none,.s (.bool (zIB t u))))
theorem zUE:qM Tryz.prog 159 zPZ:=⟨jC fun t u r h=>by cases h;exact qL (yM (fn:=[(178,zWA)]) (fr:=[]) ⟨zYp,trivial⟩ trivial) Tryz.func159 (by kernel_rfl) fun _ _=>zTo t u,_,Tryz.func159,by kernel_rfl,by kernel_rfl⟩
def zH7 (n:Int):Nat->List P3->List Wit
 | _,[]=>[]
 | i,t::r=>if zCq n t then zH7 n (i+1) r else (1,(i:Int),0)::zH7 n (i+1) r
def zGp (s:Int×List P3):Bool:=decide (s.1<0)|| (decide (s.1>4096)|| decide ((s.2.length:Int)>8192))
def jD (s:Int×List P3):List Wit:=if zGp s then [(1,-1,0)] else zH7 s.1 0 s.2
def zPd (n:Int) (l:List P3):Spec (Nat×List Wit) where
 inv x:=x.1<=l.length/\x.2.length<=x.1/\zH7 n 0 l=x.2++zH7 n x.1 (l.drop x.1)
 live x:=[(4,.s (.int .i64 x.1)),(3,.s (.own 2 0 x.2.length))]
 keep:=[1]
 heap x:=[(2,.row zBY 165 x.2)]
 keepH:=[0]
 mu x:=l.length - x.1
theorem zPT {n:Int} {t:P3} (h:t.1<0\/t.1>=n\/t.2.1<0\/t.2.1>=n\/t.2.2<0\/t.2.2>=n):zCq n t=false:=by
 rw [<- Bool.not_eq_true];intro e;have:=zAE e;omega
theorem zGN {n:Int} {t:P3} (h: ¬ (t.1<0\/t.1>=n\/t.2.1<0\/t.2.1>=n\/t.2.2<0\/t.2.2>=n)):zCq n t=true:=by
 simp only [zCq,vIn,zC,Bool.not_eq_true',Bool.or_eq_false_iff,yP];omega
theorem zTn {fn} (n:Int) (l:List P3):zEu ⟨tyL,fn,[]⟩ Tryz.f131 [qR.av (n,l)] (fun v obs=>v= .s (.own 0 0 (jD (n,l)).length)/\obs=[.row zBY 165 (jD (n,l))]):=by
 repeat' (conv=>whnf
          first|done|refine qN (by first|rfl|omega|(simp only [yO] at *;omega)) ?_|apply qH|refine qG fun _=> ?_|apply qB|apply qa|apply qo|refine qe (fun _=> ?_) (fun _=> ?_)|refine qn (fun _=> ?_) (fun _=> ?_)|refine qd (fun _=> ?_) (fun _=> ?_)|apply qt|refine qi (fun _=> ?_) (fun _=> ?_)|(refine qS 5 rfl ?_;refine Or.inr (zB (Nat×List Wit) (zB (zPd n l) (zA (zB ((0,[])) (zA (yJ.out ?_) (zA ?_ (zA ?_ rfl)))) (fun x hx=> ?_)))))|(refine qS 9 rfl ?_;refine Or.inl (zB (4) ?_))|((with_reducible show (∃ y,And (Spec.inv (zPd _ _) y) _));refine zB ((x.1+1,if zCq n (l.getD x.1 (0,0,0)) then x.2 else x.2++[(1,(x.1:Int),0)])) (zA (yJ.out ?_) (zA (zA ?_ (zA ?_ rfl)) (yJ.out ?_))))|refine zA rfl ?_|apply qE|apply qO|exact zN|apply qq|apply qs|refine qK (by kernel_rfl) ?_|apply qr)
 all_goals try first|apply qz1|apply qz2|apply qz3|apply qz4|apply qz5|apply qz6|apply qz7|apply qz8|apply qz9|apply qz0
 all_goals try simp only [zZ,zR,yE,z6,qn1,zY,qn2,zX,ETy.dflt,qn3,qn4,Int.reduceToNat,Int.reduceAdd,Int.reduceSub,Int.reduceNeg,Nat.reduceAdd,zD,zPd] at *
 all_goals try (refine yJ.intro ?_;omega)
 all_goals try (refine yJ.intro ?_;simp only [List.length_singleton];omega)
 ·rename_i h;simp only [jD,zGp,decide_eq_true h,Bool.true_or,if_true];rfl
 ·rename_i h;simp only [jD,zGp,decide_eq_true h,Bool.true_or,if_true]
 ·rename_i h;simp only [jD,zGp,decide_eq_true h,Bool.true_or,Bool.or_true,if_true];rfl
 ·rename_i h;simp only [jD,zGp,decide_eq_true h,Bool.true_or,Bool.or_true,if_true]
 ·rename_i h;simp only [jD,zGp,decide_eq_true h,Bool.true_or,Bool.or_true,if_true];rfl
 ·rename_i h;simp only [jD,zGp,decide_eq_true h,Bool.true_or,Bool.or_true,if_true]
 ·exact yJ.intro ⟨Nat.zero_le _,zI _,rfl⟩
 all_goals try
  (have ht:zCq n (l.getD x.1 (0,0,0))=false:=zPT (by omega)
   (simp only [ht,Bool.false_eq_true,if_false,zO,List.length_singleton]) <;>
   (refine yJ.intro ⟨by omega,by omega,?_⟩;rw [hx.2.2,zBM (0,0,0) (by assumption),zH7,ht];simp;done))
 all_goals try
  (have ht:zCq n (l.getD x.1 (0,0,0))=true:=zGN (by omega)
   (simp only [ht,if_true]) <;>
   (refine yJ.intro ⟨by omega,by omega,?_⟩;rw [hx.2.2,zBM (0,0,0) (by assumption),zH7,ht];simp;done))
 all_goals
  have e:jD (n,l)=x.2:=by
   have hb:zGp (n,l)=false:=by simp only [zGp,Bool.or_eq_false_iff,yP];omega
   simp only [jD,hb,Bool.false_eq_true,if_false];rw [hx.2.2,zE3 (by assumption)];simp [zH7]
  rw [e]
def zOu:List AV->Option zKI:=zEv qR (fun s=>some (none,none,.s (.own 0 0 (jD s).length),[.row zBY 165 (jD s)]))
theorem zVJ:zDB Tryz.prog 131 zOu:=⟨zCC fun s r h=>by cases h;exact zDc (yM (fn:=[]) (fr:=[]) trivial trivial) Tryz.func131 (by kernel_rfl) fun _ _=>zTn s.1 s.2,_,Tryz.func131,by kernel_rfl,by kernel_rfl⟩
end S9
open Go Go.Vm Go.Proofs
namespace S9
open S1
@[irreducible] def ptR (k:Int) (t u:P3):Bool:=(k==3&&zIB t u)|| (k==4&&(zF2 u t.1&&(zF2 u t.2.1&&zF2 u t.2.2)))
def prG (l:List P3) (k:Int) (b a:Nat):Option Wit:=if ptR k (l.getD a (0,0,0)) (l.getD b (0,0,0)) then some (k,(a:Int),(b:Int)) else none
def prI (l:List P3) (k:Int) (b a:Nat):List Wit:=(List.range a).filterMap (prG l k b)
def prO (l:List P3) (k:Int) (b:Nat):List Wit:=(List.range b).flatMap fun b=>prI l k b b
theorem zMZ (l:List P3) (k:Int) (b a:Nat):prI l k b (a+1)=prI l k b a++(prG l k b a).toList:=by
 unfold prI;rw [List.range_succ,List.filterMap_append];simp only [List.filterMap_cons,List.filterMap_nil];cases prG l k b a<;>rfl
theorem zRy (l:List P3) (k:Int) (b:Nat):prO l k (b+1)=prO l k b++prI l k b b:=by
 unfold prO;rw [List.range_succ,List.flatMap_append];simp
theorem zTt (l:List P3) (k:Int) (b a:Nat):(prI l k b a).length<=a:=by
 unfold prI;exact Nat.le_trans (List.length_filterMap_le _ _) (by simp)
theorem zXh (l:List P3) (k:Int): ∀ b:Nat,b<=8192->(prO l k b).length<=b*8192
 | 0,_=>by simp [prO]
 | b+1,h=>by
   rw [zRy,zO];have:=zXh l k b (by omega);have:=zTt l k b b;omega
def zEw (l:List P3) (k:Int):Spec Nat where
 inv b:=b<=l.length
 live b:=[(6,.s (.int .i64 b)),(5,.s (.own 2 0 (prO l k b).length))]
 keep:=[1,2]
 heap b:=[(2,.row zBY 165 (prO l k b))]
 keepH:=[0]
 mu b:=l.length - b
def zEz (l:List P3) (k:Int) (b:Nat):Spec Nat where
 inv a:=a<=b
 live a:=[(7,.s (.int .i64 a)),(5,.s (.own 2 0 (prO l k b++prI l k b a).length))]
 keep:=[1,2,6]
 heap a:=[(2,.row zBY 165 (prO l k b++prI l k b a))]
 keepH:=[0]
 mu a:=b - a
theorem zUv (n:Int) (l:List P3) (k:Int) (hl:l.length<=8192):zEu ⟨tyL,[(159,zPZ),(133,zOk)],[]⟩ Tryz.f132 [qR.av (n,l),(ETy.int .i64).av k] (fun v obs=>v= .s (.own 0 0 (prO l k l.length).length)/\obs=[.row zBY 165 (prO l k l.length)]):=by
 repeat' (conv=>whnf
          first|done|refine qN (by first|rfl|omega|(simp only [yO] at *;omega)) ?_|apply qH|refine qG fun _=> ?_|apply qB|apply qa|apply qo|refine qe (fun _=> ?_) (fun _=> ?_)|refine qn (fun _=> ?_) (fun _=> ?_)|refine qd (fun _=> ?_) (fun _=> ?_)|apply qt|refine qi (fun _=> ?_) (fun _=> ?_)|(refine qS 3 rfl ?_;refine Or.inr (zB (Nat) (zB (zEw l k) (zA (zB (0) (zA (yJ.out ?_) (zA ?_ (zA ?_ rfl)))) (fun b hb=> ?_)))))|((with_reducible show (∃ y,And (Spec.inv (zEw _ _) y) _));refine zB (b+1) (zA (yJ.out ?_) (zA (zA ?_ (zA ?_ rfl)) (yJ.out ?_))))|(refine qS 6 rfl ?_;refine Or.inr (zB (Nat) (zB (zEz l k b) (zA (zB (0) (zA (yJ.out ?_) (zA ?_ (zA ?_ rfl)))) (fun a ha=> ?_)))))|((with_reducible show (∃ y,And (Spec.inv (zEz _ _ _) y) _));refine zB (a+1) (zA (yJ.out ?_) (zA (zA ?_ (zA ?_ rfl)) (yJ.out ?_))))|refine zA rfl ?_|apply qE|apply qO|exact zN|apply qq|apply qs|refine qK (by kernel_rfl) ?_|apply qr)
 all_goals try first|apply qz1|apply qz2|apply qz3|apply qz4|apply qz5|apply qz6|apply qz7|apply qz8|apply qz9|apply qz0
 all_goals try simp only [zZ,zR,yE,z6,qn1,zY,qn2,zX,ETy.dflt,qn3,qn4,Int.reduceToNat,Int.reduceAdd,Int.reduceSub,Int.reduceNeg,Nat.reduceAdd,zD,zEw,zEz] at *
 all_goals try (refine yJ.intro ?_;omega)
 all_goals try
  (have h1:=zXh l k b (by omega)
   have h2:=zTt l k b a
   refine yJ.intro ?_;rw [zO];omega)
 all_goals try (simp [prI];done)
 all_goals try (exfalso;omega)
 all_goals try
  (have hp:ptR k (l.getD a (0,0,0)) (l.getD b (0,0,0))=true:=by unfold ptR;simp only [*];simp
   rw [zMZ,prG,if_pos hp];simp [Nat.add_assoc];done)
 all_goals try
  (have hp:ptR k (l.getD a (0,0,0)) (l.getD b (0,0,0))=false:=by unfold ptR;simp only [*];simp [*]
   rw [zMZ,prG,if_neg (by rw [hp];decide)];simp;done)
 all_goals try
  (have hp:ptR k (l.getD a (0,0,0)) (l.getD b (0,0,0))=false:=by
    unfold ptR;rw [beq_false_of_ne (by assumption:k≠3),beq_false_of_ne (by assumption:k≠4)];rfl
   rw [zMZ,prG,if_neg (by rw [hp];decide)];simp;done)
 all_goals try
  (have e:a=b:=by omega
   subst e;rw [zRy])
 all_goals
  have e:b=l.length:=by omega
  rw [e]
def zPp:List AV->Option zKI:=zCs qR (.int .i64) (fun s k=>some (none,some (s.2.length<=8192),.s (.own 0 0 (prO s.2 k s.2.length).length),[.row zBY 165 (prO s.2 k s.2.length)]))
theorem zWx:zDB Tryz.prog 132 zPp:=⟨zQk fun s k r h=>by cases h;exact zDc (yM (fn:=[(159,zPZ),(133,zOk)]) (fr:=[]) ⟨zUE,zOn,trivial⟩ trivial) Tryz.func132 (by kernel_rfl) fun _ h=>zUv s.1 s.2 k h,_,Tryz.func132,by kernel_rfl,by kernel_rfl⟩
def zAT (l:List P3) (v:Int):List P3:=l.filter (zF2 · v)
def tch (v w:Int) (u:P3):Bool:=decide (w≠v)&&zF2 u w
@[irreducible] def touch (m:List P3) (v:Int) (i k:Nat):Bool :=
  tch v (m.getD i (0,0,0)).1 (m.getD k (0,0,0))|| (tch v (m.getD i (0,0,0)).2.1 (m.getD k (0,0,0))|| tch v (m.getD i (0,0,0)).2.2 (m.getD k (0,0,0)))
def pk (m:List P3) (v:Int) (i:Nat) (s:List Bool) (k:Nat):List Bool:=if s.getD i false=false\/s.getD k false=true then s else if touch m v i k then s.set k true else s
def zHM (m:List P3) (v:Int) (i:Nat) (s:List Bool) (k:Nat):List Bool:=(List.range k).foldl (pk m v i) s
def zG7 (m:List P3) (v:Int) (s:List Bool) (i:Nat):List Bool:=(List.range i).foldl (fun s i=>zHM m v i s m.length) s
def zFN (m:List P3) (v:Int) (r:Nat):List Bool:=(List.range r).foldl (fun s _=>zG7 m v s m.length) ((List.replicate m.length false).set 0 true)
@[irreducible] def zEy (l:List P3) (v:Int):Bool:= !(List.range (zAT l v).length).all fun j=>(zFN (zAT l v) v (zAT l v).length).getD j false
theorem zAn (m:List P3) (v:Int) (i:Nat) (s:List Bool) (k:Nat):zHM m v i s (k+1)=pk m v i (zHM m v i s k) k:=by
 unfold zHM;rw [List.range_succ,List.foldl_append];rfl
theorem zCJ (m:List P3) (v:Int) (s:List Bool) (i:Nat):zG7 m v s (i+1)=zHM m v i (zG7 m v s i) m.length:=by
 unfold zG7;rw [List.range_succ,List.foldl_append];rfl
theorem zBe (m:List P3) (v:Int) (r:Nat):zFN m v (r+1)=zG7 m v (zFN m v r) m.length:=by
 unfold zFN;rw [List.range_succ,List.foldl_append];rfl
theorem zEb (l:List P3) (v:Int) {i:Nat} (h:(i:Int)<l.length):zAT (l.take (i+1)) v=zAT (l.take i) v++(if zF2 (l.getD i (0,0,0)) v then [l.getD i (0,0,0)] else []):=by
 have h:i<l.length:=by omega
 unfold zAT;rw [List.take_add_one,List.filter_append,zQ,zG h];simp only [Option.toList_some,Option.getD_some,List.filter_cons,List.filter_nil]
theorem zYL (l:List P3) (v:Int) (i:Nat):(zAT (l.take i) v).length<=l.length:=by
 unfold zAT;exact Nat.le_trans (List.length_filter_le _ _) (by simp;omega)
theorem zL4 {s:List Bool} {i k:Nat} (h1:s.getD i false=true) (h2:s.getD k false=false): ¬ (s.getD i false=false\/s.getD k false=true):=by
 rw [h1,h2];decide
theorem z2V {m:List P3} {v:Int} {i k:Nat} (h:((m.getD i (0,0,0)).1≠v/\zF2 (m.getD k (0,0,0)) (m.getD i (0,0,0)).1=true)\/((m.getD i (0,0,0)).2.1≠v/\zF2 (m.getD k (0,0,0)) (m.getD i (0,0,0)).2.1=true)\/
 ((m.getD i (0,0,0)).2.2≠v/\zF2 (m.getD k (0,0,0)) (m.getD i (0,0,0)).2.2=true)):touch m v i k=true:=by
 unfold touch tch;simp only [Bool.or_eq_true,zC,zP];exact h
theorem z4I {m:List P3} {v:Int} {i k:Nat} (h1:(m.getD i (0,0,0)).1=v\/zF2 (m.getD k (0,0,0)) (m.getD i (0,0,0)).1=false) (h2:(m.getD i (0,0,0)).2.1=v\/zF2 (m.getD k (0,0,0)) (m.getD i (0,0,0)).2.1=false)
 (h3:(m.getD i (0,0,0)).2.2=v\/zF2 (m.getD k (0,0,0)) (m.getD i (0,0,0)).2.2=false): ¬ touch m v i k=true:=by
 have key: ∀ {w:Int} {u:P3},w=v\/zF2 u w=false->¬ (w≠v/\zF2 u w=true):=by
  rintro w u (h|h) ⟨a,b⟩
  ·exact a h
  ·rw [h] at b;cases b
 unfold touch tch;simp only [Bool.or_eq_true,zC,zP];rintro (h|h|h)
 ·exact key h1 h
 ·exact key h2 h
 ·exact key h3 h
def zJJ (l:List P3) (v:Int):Spec Nat where
 inv i:=i<=l.length
 live i:=[(6,.s (.int .i64 i)),(5,.s (.own 1 0 (zAT (l.take i) v).length))]
 keep:=[1,2]
 heap i:=[(1,.row .arr3 86 (zAT (l.take i) v))]
 keepH:=[0]
 mu i:=l.length - i
def zIk (m:List P3) (v:Int):Spec Nat where
 inv r:=r<=m.length
 live r:=[(45,.s (.int .i64 r))]
 keep:=[1,5,7,44]
 heap r:=[(2,.row .bool 4 (zFN m v r))]
 keepH:=[1]
 mu r:=m.length - r
def zXv (m:List P3) (v:Int) (s:List Bool):Spec Nat where
 inv i:=i<=m.length
 live i:=[(8,.s (.int .i64 i))]
 keep:=[1,5,7,44,45]
 heap i:=[(2,.row .bool 4 (zG7 m v s i))]
 keepH:=[1]
 mu i:=m.length - i
def zYA (m:List P3) (v:Int) (i:Nat) (s:List Bool):Spec Nat where
 inv k:=k<=m.length
 live k:=[(9,.s (.int .i64 k))]
 keep:=[1,5,7,8,44,45]
 heap k:=[(2,.row .bool 4 (zHM m v i s k))]
 keepH:=[1]
 mu k:=m.length - k
def zWw (n:Nat) (s:List Bool):Spec Nat where
 inv i:=i<=n/\∀ j,j<i->s.getD j false=true
 live i:=[(12,.s (.int .i64 i))]
 keep:=[1,5,7]
 heap _:=[]
 keepH:=[1,2]
 mu i:=n - i
theorem zXG (n:Int) (l:List P3) (v:Int) (hl:l.length<=8192):zAG ⟨tyL,[(133,zOk)],[]⟩ Tryz.f134 [qR.av (n,l),(ETy.int .i64).av v] (fun r=>r= .s (.bool (zEy l v))):=by
 repeat' (conv=>whnf
          first|done|refine qN (by first|rfl|omega|(simp only [yO] at *;omega)) ?_|apply qH|refine qG fun _=> ?_|apply qB|apply qa|apply qo|refine qe (fun _=> ?_) (fun _=> ?_)|refine qn (fun _=> ?_) (fun _=> ?_)|refine qd (fun _=> ?_) (fun _=> ?_)|apply qt|refine qi (fun _=> ?_) (fun _=> ?_)|(refine qS 3 rfl ?_;refine Or.inr (zB (Nat) (zB (zJJ l v) (zA (zB (0) (zA (yJ.out ?_) (zA ?_ (zA ?_ rfl)))) (fun i hi=> ?_)))))|((with_reducible show (∃ y,And (Spec.inv (zJJ _ _) y) _));refine zB (i+1) (zA (yJ.out ?_) (zA (zA ?_ (zA ?_ rfl)) (yJ.out ?_))))|(refine qS 12 rfl ?_;refine Or.inr (zB (Nat) (zB (zIk (zAT (l.take i) v) v) (zA (zB (0) (zA (yJ.out ?_) (zA ?_ (zA ?_ rfl)))) (fun r hr=> ?_)))))|((with_reducible show (∃ y,And (Spec.inv (zIk _ _) y) _));refine zB (r+1) (zA (yJ.out ?_) (zA (zA ?_ (zA ?_ rfl)) (yJ.out ?_))))|(refine qS 14 rfl ?_;refine Or.inr (zB (Nat) (zB (zXv (zAT (l.take i) v) v (zFN (zAT (l.take i) v) v r)) (zA (zB (0) (zA (yJ.out ?_) (zA ?_ (zA ?_ rfl)))) (fun x hx=> ?_)))))|((with_reducible show (∃ y,And (Spec.inv (zXv _ _ _) y) _));refine zB (x+1) (zA (yJ.out ?_) (zA (zA ?_ (zA ?_ rfl)) (yJ.out ?_))))|(refine qS 17 rfl ?_;refine Or.inr (zB (Nat) (zB (zYA (zAT (l.take i) v) v x (zG7 (zAT (l.take i) v) v (zFN (zAT (l.take i) v) v r) x)) (zA (zB (0) (zA (yJ.out ?_) (zA ?_ (zA ?_ rfl)))) (fun k hk=> ?_)))))|((with_reducible show (∃ y,And (Spec.inv (zYA _ _ _ _) y) _));refine zB (k+1) (zA (yJ.out ?_) (zA (zA ?_ (zA ?_ rfl)) (yJ.out ?_))))|(refine qS 21 rfl ?_;refine Or.inl (zB (4) ?_))|(refine qS 28 rfl ?_;refine Or.inr (zB (Nat) (zB (zWw (zAT (l.take i) v).length (zFN (zAT (l.take i) v) v r)) (zA (zB (0) (zA (yJ.out ?_) (zA ?_ (zA ?_ rfl)))) (fun y hy=> ?_)))))|((with_reducible show (∃ y,And (Spec.inv (zWw _ _) y) _));refine zB (y+1) (zA (yJ.out ?_) (zA (zA ?_ (zA ?_ rfl)) (yJ.out ?_))))|refine zA rfl ?_|apply qE|apply qO|exact zN|apply qq|apply qs|refine qK (by kernel_rfl) ?_|apply qr)
 all_goals try first|apply qz1|apply qz2|apply qz3|apply qz4|apply qz5|apply qz6|apply qz7|apply qz8|apply qz9|apply qz0
 all_goals try simp only [zZ,zR,yE,z6,qn1,zY,qn2,zX,ETy.dflt,qn3,qn4,Int.reduceToNat,Int.reduceAdd,Int.reduceSub,Int.reduceNeg,Nat.reduceAdd,zD,zJJ,zIk,zXv,zYA,zWw] at *
 all_goals try (refine yJ.intro ?_;omega)
 all_goals try rfl
 all_goals try
  (have h:=zYL l v i
   refine yJ.intro ?_;omega)
 all_goals try (rw [zAn,pk,if_pos (Or.inl (by assumption))];done)
 all_goals try (rw [zAn,pk,if_pos (Or.inr (by assumption))];done)
 all_goals try (rw [zAn,pk,if_neg (zL4 (by assumption) (by assumption)),if_pos (z2V (by first|exact .inl ⟨by assumption,by assumption⟩|exact .inr (.inl ⟨by assumption,by assumption⟩)|exact .inr (.inr ⟨by assumption,by assumption⟩)))];(try simp only [List.set_set]);done)
 all_goals try (rw [zAn,pk,if_neg (zL4 (by assumption) (by assumption)),if_neg (z4I (by first|exact .inl (by assumption)|exact .inr (by assumption)) (by first|exact .inl (by assumption)|exact .inr (by assumption)) (by first|exact .inl (by assumption)|exact .inr (by assumption)))];done)
 all_goals try
  (have e:k=(zAT (l.take i) v).length:=by omega
   rw [zCJ,<- e];done)
 all_goals try
  (have e:x=(zAT (l.take i) v).length:=by omega
   rw [zBe,<- e];done)
 ·rw [zEb _ _ (by assumption),if_pos (by assumption)];simp
 ·rw [zEb _ _ (by assumption),if_pos (by assumption)]
 ·rw [zEb _ _ (by assumption),if_neg (by rw [‹zF2 _ _=false›];decide)];simp
 ·rw [zEb _ _ (by assumption),if_neg (by rw [‹zF2 _ _=false›];decide)];simp
 ·have e:l.take i=l:=List.take_of_length_le (by omega);rename_i h;rw [e] at h;have h:(zAT l v).length=0:=by omega
  unfold zEy;rw [h];rfl
 ·exact yJ.intro ⟨Nat.zero_le _,fun j hj=>absurd hj (by omega)⟩
 ·refine yJ.intro ⟨by omega,fun j hj=> ?_⟩
  by_cases e:j=y
  ·subst e;assumption
  ·exact hy.2 j (by omega)
 all_goals
  have e:l.take i=l:=List.take_of_length_le (by omega);have er:r=(zAT (l.take i) v).length:=by omega
  rw [er] at hy;rw [e] at hy
 ·rename_i h;have hyl:y<(zAT l v).length:=by rw [<- e];omega
  rw [er,e] at h;unfold zEy;symm;rw [Bool.not_eq_true',<- Bool.not_eq_true,zK];intro hh;rw [hh y (zV.2 hyl)] at h;cases h
 ·rename_i h;rw [e] at h;have hyl:(zAT l v).length<=y:=by omega
  unfold zEy;symm;rw [Bool.not_eq_false',zK];intro j hj;exact hy.2 j (by have:=zV.1 hj;omega)
def zPk:List AV->Option Res:=zCs qR (.int .i64) (fun s v=>some (none,some (s.2.length<=8192),.s (.bool (zEy s.2 v))))
theorem zXu:qM Tryz.prog 134 zPk:=⟨jC fun s v r h=>by cases h;exact qL (yM (fn:=[(133,zOk)]) (fr:=[]) ⟨zOn,trivial⟩ trivial) Tryz.func134 (by kernel_rfl) fun _ h=>zXG s.1 s.2 v h,_,Tryz.func134,by kernel_rfl,by kernel_rfl⟩
end S9
