/- A part of the proofs of the laws. -/
import Derived.Test.YtlhoihabllompaaGreatY6toVmOut
import Derived.Test.YtlhoihabllompaaGreatH1toG1
import Derived.Test.YtlhoihabllompaaGreatVmRngMtoVmSeq
import Derived.Test.YtlhoihabllompaaGreatZ1ptoY5
import Derived.Test.YtlhoihabllompaaGreatT5toT11
set_option linter.unusedSimpArgs false
set_option linter.unusedVariables false
set_option maxHeartbeats 8000000
set_option maxRecDepth 100000
open Go Go.Vm Go.Proofs
namespace S1
def zY2:List AV->St->(AV->St->Prop)->Prop:=zR3 ⟨tyL,[(45,zUB)],[]⟩ Tryz.f62
theorem zY3 : zJM Tryz.prog 62 zY2 ∧ ∃ fn, Tryz.prog.funcs[62]? = some fn ∧ (fn.name == "runtime.NumGoroutine") = false ∧ fn.body.isNone = false :=
 ⟨zOG (yN (fn:=[(45,zUB)]) (fr:=[]) ⟨zZF,trivial⟩ trivial) Tryz.func62 rfl (by kernel_rfl),_,Tryz.func62,by kernel_rfl,by kernel_rfl⟩
def zUn (Ls:List (List Int)):Spec Nat where
 inv i:=i<=Ls.length
 live i:=[(12,.s (.int .i64 i)),(3,.s (.own 2 0 (lfK Ls i).length))]
 keep:=[2,10,11]
 heap i:=[(3,.map y8 y8 (ofK Ls i)),(2,.row y8 3 (lfK Ls i))]
 keepH:=[0,1]
 mu i:=Ls.length - i
def zUd (Ls:List (List Int)) (i:Nat):Spec Nat where
 inv j:=j<=(Ls.getD i []).length
 live j:=[(19,.s (.int .i64 j))]
 keep:=[2,3,4,5,10,11,12,17,18]
 heap j:=[(3,.map y8 y8 (ofV (ofK Ls i) i ((Ls.getD i []).take j)))]
 keepH:=[0,1,2]
 mu j:=(Ls.getD i []).length - j
def zT9 (x:yI.T) (l:List (Int×Int)):Spec (Nat×ReM×List Int) where
 inv y:=y.1<=l.length/\zFA x l y.1 y.2.1 y.2.2
 live y:=[(24,.s (.int .i64 y.1)),(8,.s (.own 5 0 (chK x l y.1).length))]
 keep:=[0,5,6,7,22,23]
 heap y:=[(4,.map y8 .bool y.2.1),(2,.row y8 3 y.2.2),(5,.row .arr2 33 (chK x l y.1))]
 keepH:=[0,3]
 mu y:=l.length - y.1
def zWt (u:ReM):Spec IBM where
 inv pre:= ∀ p∈pre,had u p.1=false
 live _:=[]
 keep:=[0,5,6,7,8,10,11,22,23,24,39]
 heap _:=[]
 keepH:=[0,2,3,4,5,6]
 mu _:=0
def zWO (u:ReM):Spec IBM where
 inv _:=True
 live _:=[]
 keep:=[0,5,6,7,8,10,11,22,23,24,81]
 heap pre:=[(4,.map y8 .bool (zRZ u (pre.map (·.1))))]
 keepH:=[0,2,3,5,6]
 mu _:=0
attribute [local irreducible] chK zDV zCt z1m zRZ ofK lfK ofV qW
theorem zYQ (x:yI.T) (l:List (Int×Int)) (g:Full x) (hs:jV (InN x.1.1) x.1.2) (hl9:l.length<=100000):zH7 ⟨tyL,[(27,z7M),(57,zMW),(63,zYk)],[(62,.run zY2)]⟩ z8R Tryz.f22 [(ETy.pt yI).av (some x),(ETy.sl .arr2).av l] (fun r=>r= .s (.sl .arr2 (zAh x l))):=by
 refine z7K rfl ?_
 repeat' (first
           | ((with_reducible show qC _ _ (Code.seq _ _) _ _);first|refine z6c rfl ?_|refine z7c rfl ?_)
           | with_reducible refine zY1 ?_
           | with_reducible refine zWS ?_
           | with_reducible refine zSD ?_
           | with_reducible refine z2I ?_
           | with_reducible refine zXb ?_
           | with_reducible refine z2P ?_
           | with_reducible refine z7m ?_
           | ((with_reducible show qC _ _ (Code.cond _ _ _) _ _);first|refine z2a rfl ?_|refine zVt rfl ?_)
           | ((with_reducible show qC _ _ (Code.loop _) _ _);refine z79 rfl (Nat×ReM×List Int) (zT9 x l) ((0,[],lfK (qW x) (qW x).length)) (yJ.out ?_) (zA ?_ (zA ?_ rfl)) (fun y hy=> ?_))
           | with_reducible refine zRr ?_
           | with_reducible refine zSR ?_
           | with_reducible refine zR2 ?_
           | with_reducible refine zRJ ?_
           | ((with_reducible show z2d _ _ (Exit.exit _) _);first|refine z2Z rfl ?_|refine z1y rfl ?_)
           | with_reducible refine z1w ?_
           | with_reducible refine z2e ?_
           | with_reducible refine z2i ?_
           | with_reducible refine zMT ?_
           | with_reducible refine zM7 ?_
           | with_reducible refine zXM ?_
           | with_reducible refine zHd ?_
           | (conv=>whnf
              first
           | done
           | refine qN ?_
           | apply qH
           | refine qG fun _=> ?_
           | apply qB
           | apply qa
           | apply qo
           | refine qe (fun _=> ?_) (fun _=> ?_)
           | refine qn (fun _=> ?_) (fun _=> ?_)
           | refine qd (fun _=> ?_) (fun _=> ?_)
           | apply qt
           | refine qi (fun _=> ?_) (fun _=> ?_)
           | with_reducible refine zRr ?_
           | with_reducible refine zSR ?_
           | with_reducible refine zR2 ?_
           | with_reducible refine zRJ ?_
           | with_reducible refine zMT ?_
           | with_reducible refine zM7 ?_
           | with_reducible refine zHd ?_
           | ((with_reducible show (∃ y,And (Spec.inv (zT9 _ _) y) _));refine zB (y.1+1,_,_) (zA (yJ.out ?_) (zA (zA ?_ (zA (zA rfl (zA rfl ?_)) rfl)) (yJ.out ?_))))
           | refine (fun (XF:Array Value)=> ?_)
           | (refine qS 3 rfl ?_;refine Or.inr (zB (Nat) (zB (zUn (qW x)) (zA (zB (0) (zA (yJ.out ?_) (zA ?_ (zA ?_ rfl)))) (fun i hi=>zN7 ?_)))))
           | with_reducible refine zaA (zUn _) (i+1) ?_ ?_ ?_ ?_
           | (refine qS 6 rfl ?_;refine Or.inr (zB (Nat) (zB (zUd (qW x) i) (zA (zB (0) (zA (yJ.out ?_) (zA ?_ (zA ?_ rfl)))) (fun j hj=>zN7 ?_)))))
           | with_reducible refine zaA (zUd _ _) (j+1) ?_ ?_ ?_ ?_
           | refine (fun (rIt:Nat)=> ?_)
           | refine z8H.intro (it:=39) (zB (zWt y.2.1) (zA (zA (yJ.out ?_) (zA ?_ (zA ?_ rfl))) (zA (fun preu eu heu=>zA rfl ?_) (fun preu hpu=>zA rfl ?_))))
           | ((with_reducible show (And (Spec.inv (zWt y.2.1) _) _));refine zA (yJ.out ?_) (zA ?_ (zA ?_ rfl)))
           | refine (fun (rIt:Nat)=> ?_)
           | refine z8H.intro (it:=81) (zB (zWO y.2.1) (zA (zA (yJ.out ?_) (zA ?_ (zA ?_ rfl))) (zA (fun prew ew hew=>zA rfl ?_) (fun prew hpw=>zA rfl ?_))))
           | ((with_reducible show (And (Spec.inv (zWO y.2.1) _) _));refine zA (yJ.out ?_) (zA ?_ (zA ?_ rfl)))
           | refine zA rfl ?_
           | apply qE
           | apply qO
           | exact zO
           | apply qq
           | apply qs
           | refine qK (by kernel_rfl) ?_
           | apply qr))
 all_goals try first|refine qz ?_|apply qz5
 all_goals try simp only [z6,zS,yE,zZ,qn1,z7,qn2,zX,ETy.dflt,qn3,qn4,Int.reduceToNat,Int.reduceAdd,Int.reduceSub,Int.reduceNeg,Nat.reduceAdd,zD,zUn,zUd,zT9,zWt,zWO] at *
 all_goals have hLl:=zWZ g
 all_goals try simp only [show z2U (some x)=qW x from rfl] at *
 all_goals try exact yJ.intro (fun y h=>by cases h;exact g)
 all_goals try exact yJ.intro (fun y h=>by cases h;exact g.toGood)
 all_goals try exact yJ.intro g.toGood
 all_goals try exact yJ.intro trivial
 all_goals try exact yJ.intro (fun p h=>by cases h)
 all_goals try (refine yJ.intro ?_;omega)
 all_goals try first
  | (unfold lfK;rfl)
  | (unfold ofK;rfl)
  | (unfold chK;rfl)
  | (rw [List.take_zero];unfold ofV;rfl)
  | (rw [List.map_nil];unfold zRZ;rfl)
  | exact zYR _ _ _
  | exact z9c (by omega)
  | exact z9O (by omega)
  | (rw [zLR _ _ (by omega),zLR _ _ (by omega)];done)
 all_goals try (have hlf:=zLR (qW x) i (by omega);refine yJ.intro ?_;omega)
 all_goals try
  have ej:j=((qW x).getD i []).length:=by omega
  subst ej;rw [List.take_length];conv=>lhs;unfold ofK
  done
 all_goals have ei:i=(qW x).length:=by omega
 all_goals subst ei
 all_goals try exact yJ.intro ⟨Nat.zero_le _,z3n⟩
 all_goals try rfl
 all_goals try
  have hn : ¬ okE x (chK x l y.1) (l.getD y.1 (0,0))=true:=by
            first|exact z7d (by assumption)|exact z5I g hs hy.2 heu.2.2.2.1 (by assumption)
  first
  | exact yJ.intro ⟨by omega,z8s hy.2 hn⟩
  | (rw [zZW hn];done)
 all_goals try
  refine yJ.intro fun p hp=> ?_;rcases yD.1 hp with k|k
  ·exact heu.1 p k
  ·rw [zF.1 k];assumption
 all_goals try
  have e9:y.1=l.length:=by omega
  rw [e9];unfold zAh;rfl
 all_goals have hcl:=zM1 x l y.1
 all_goals have hw:zDV x (l.getD y.1 (0,0)).1 (l.getD y.1 (0,0)).2=0:=by assumption
 all_goals have hOk:=z34 g hs hy.2 hw (fun p q=>hpu.1 p ((hpu.2.2 p).2 q))
 all_goals try first
  | (rw [zNJ hOk,zN];rfl)
  | exact zNJ hOk
  | (refine yJ.intro ?_;omega)
 all_goals try
  have hb:zJJ x (l.getD y.1 (0,0)):=(z24 g hs hw).1 (by first|exact .inl (by assumption)|exact .inr (by assumption));obtain ⟨q1,q2,q3,q4⟩:=zWw g hs hOk hb hy.2
  first
  | exact yJ.intro q1
  | exact yJ.intro q2
  | exact absurd (by assumption) q3
  | exact yJ.intro ⟨by omega,q4 _ hpw.2.2⟩
 all_goals
  have hb: ¬ zJJ x (l.getD y.1 (0,0)):=fun q=>((z24 g hs hw).2 q).elim (by assumption) (by assumption);exact yJ.intro ⟨by omega,z81 g hy.2 hOk hb hpw.2.2⟩
theorem zSr (l:List (Int×Int)):zH7 ⟨tyL,[(27,z7M),(57,zMW),(63,zYk)],[(62,.run zY2)]⟩ z8R Tryz.f22 [(ETy.pt yI).av none,(ETy.sl .arr2).av l] (fun r=>r= .s (.sl .arr2 [])):=by
 refine z7K rfl ?_
 repeat' (first
           | ((with_reducible show qC _ _ (Code.seq _ _) _ _);first|refine z6c rfl ?_|refine z7c rfl ?_)
           | with_reducible refine zY1 ?_
           | with_reducible refine zWS ?_
           | with_reducible refine zSD ?_
           | with_reducible refine z2I ?_
           | with_reducible refine zXb ?_
           | with_reducible refine z2P ?_
           | with_reducible refine z7m ?_
           | ((with_reducible show qC _ _ (Code.cond _ _ _) _ _);first|refine z2a rfl ?_|refine zVt rfl ?_)
           | with_reducible refine zRr ?_
           | with_reducible refine zSR ?_
           | with_reducible refine zR2 ?_
           | with_reducible refine zRJ ?_
           | ((with_reducible show z2d _ _ (Exit.exit _) _);first|refine z2Z rfl ?_|refine z1y rfl ?_)
           | with_reducible refine z1w ?_
           | with_reducible refine z2e ?_
           | with_reducible refine z2i ?_
           | with_reducible refine zMT ?_
           | with_reducible refine zM7 ?_
           | with_reducible refine zXM ?_
           | with_reducible refine zHd ?_
           | (conv=>whnf
              first
           | done
           | refine qN ?_
           | apply qH
           | refine qG fun _=> ?_
           | apply qB
           | apply qa
           | apply qo
           | refine qe (fun _=> ?_) (fun _=> ?_)
           | refine qn (fun _=> ?_) (fun _=> ?_)
           | refine qd (fun _=> ?_) (fun _=> ?_)
           | apply qt
           | refine qi (fun _=> ?_) (fun _=> ?_)
           | with_reducible refine zRr ?_
           | with_reducible refine zSR ?_
           | with_reducible refine zR2 ?_
           | with_reducible refine zRJ ?_
           | with_reducible refine zMT ?_
           | with_reducible refine zM7 ?_
           | with_reducible refine zHd ?_
           | refine zA rfl ?_
           | apply qE
           | apply qO
           | exact zO
           | apply qq
           | apply qs
           | refine qK (by kernel_rfl) ?_
           | apply qr))
 all_goals try first|refine qz ?_|apply qz5
 all_goals try simp only [z6,zS,yE,zZ,qn1,z7,qn2,zX,ETy.dflt,qn3,qn4,Int.reduceToNat,Int.reduceAdd,Int.reduceSub,Int.reduceNeg,Nat.reduceAdd,zD] at *
 all_goals rfl
def zFe:List AV->Option Res:=zCr (.pt yI) (.sl .arr2) (fun o l=>some (none,some ((∀ x,o=some x->Full x/\jV (InN x.1.1) x.1.2)/\l.length<=100000),.s (.sl .arr2 (match o with|some x=>zAh x l|none=>[]))))
theorem zI8:qM Tryz.prog 22 zFe:=⟨jD fun o l r h=>by
 cases h;cases o with
 | none=>exact zHL (yN (fn:=[(27,z7M),(57,zMW),(63,zYk)]) (fr:=[(62,.run zY2)]) ⟨z26,zLu,zVp,trivial⟩ ⟨zY3,trivial⟩) zVc Tryz.func22 rfl (by kernel_rfl) (zU rfl) fun _ _=>zSr l
 | some x=>exact zHL (yN (fn:=[(27,z7M),(57,zMW),(63,zYk)]) (fr:=[(62,.run zY2)]) ⟨z26,zLu,zVp,trivial⟩ ⟨zY3,trivial⟩) zVc Tryz.func22 rfl (by kernel_rfl) (zU rfl) fun _ h=>zYQ x l (h.1 x rfl).1 (h.1 x rfl).2 h.2,_,Tryz.func22,by kernel_rfl,by kernel_rfl⟩
end S1
open Go Go.Vm Go.Proofs
namespace S1
def bwL (n:Nat):List Int:=(List.range n).map fun (j:Nat)=>(n:Int) - 1 - j
theorem zFN (n:Nat):(bwL n).length=n:=by unfold bwL;rw [yV,zAD]
theorem zPH {n k:Nat} (h:k<n):(bwL n).getD k 0=(n:Int) - 1 - k:=by
 unfold bwL;rw [zR,List.getElem?_map,List.getElem?_range h];rfl
theorem zR7 {n k:Nat} (h:k<n):(bwL n).take k++[(n:Int) - 1 - k]=(bwL n).take (k+1):=by
 rw [yB (by rw [zFN];exact h)];have:=zPH h;rw [zR,zG (by rw [zFN];exact h)] at this;rw [<- show (bwL n)[k]'(by rw [zFN];exact h)=(n:Int) - 1 - k from this]
def zVG (R:List zAJ):Spec Nat where
 inv k:=k<=R.length
 live k:=[(3,.s (.int .i64 ((R.length:Int) - 1 - k)))]
 keep:=[0,1]
 heap _:=[]
 keepH:=[]
 mu k:=R.length - k
theorem z8B (R:List zAJ) (hn:R.length<=100000):zQ0 ⟨tyL,[],[]⟩ Tryz.f105 [⟨.sl zG3,R⟩] (bwL R.length):=by
 repeat' (conv=>whnf
          first|done|refine qN ?_|apply qH|refine qG fun _=> ?_|apply qB|apply qa|apply qo|refine qe (fun _=> ?_) (fun _=> ?_)|refine qn (fun _=> ?_) (fun _=> ?_)|refine qd (fun _=> ?_) (fun _=> ?_)|apply qt|refine qi (fun _=> ?_) (fun _=> ?_)|refine (fun (l:Nat)=> ?_)|refine zB Nat (zB (zVG R) (zB (fun k=>(bwL R.length).take k) (zA (zB 0 (zA (yJ.out ?_) (zA (zAp.out ?_) (zA ?_ (zA ?_ rfl))))) (fun k hk=> ?_))))|((with_reducible show (∃ y,And (Spec.inv (zVG _) y) _));refine zB (k+1) (zA (yJ.out ?_) (zA (zAp.out ?_) (zA (zA ?_ (zA ?_ rfl)) (yJ.out ?_)))))|refine zA (yJ.out (p:=(_++[_]) <+: _) ?_) ?_|refine zA (zAp.intro (y9.out ?_)) ?_|refine zAp.out ?_|refine zA rfl ?_|apply qE|apply qO|exact zO|apply qq|apply qs|refine qK (by kernel_rfl) ?_|apply qr)
 all_goals try first|refine qz ?_|apply qz5
 all_goals try simp only [z6,zS,yE,zZ,qn1,z7,qn2,zX,ETy.dflt,qn3,qn4,Int.reduceToNat,Int.reduceAdd,Int.reduceSub,Int.reduceNeg,Nat.reduceAdd,zD,zVG] at *
 all_goals have eR:List.length ((some R).getD [])=R.length:=rfl
 all_goals have hlb:=zFN R.length
 ·exact yJ.intro (Nat.zero_le _)
 ·exact zAp.intro rfl
 ·rw [eR];omega
 ·refine yJ.intro ?_;rw [eR];omega
 all_goals try have hk1:k<R.length:=by omega
 ·rw [zR7 hk1];exact yJ.intro (List.take_prefix _ _)
 ·exact y9.intro rfl
 ·exact yJ.intro hk1
 ·exact zAp.intro (zR7 hk1).symm
 ·omega
 ·refine yJ.intro ?_;omega
 ·exact zAp.intro (List.take_of_length_le (by omega))
theorem z7C {n:Nat} (h:n<=100000): ∀ x∈bwL n,InK .i64 x:=fun x hx=>by
 obtain ⟨j,hj,rfl⟩:=yC.1 hx;have:=zV.1 hj;exact InK.i64.2 (by unfold yP;omega)
def seqB:zDE:=fun f ps L=>f=105/\∃ R:List zAJ,ps=[⟨.sl zG3,R⟩]/\R.length<=100000/\L=bwL R.length
theorem z6h:zDb Tryz.prog seqB:=fun f ps L h=>by
 obtain ⟨rfl,R,rfl,hn,rfl⟩:=h;exact seq_ok (yN (fn:=[]) (fr:=[]) trivial trivial) Tryz.func105 rfl (by kernel_rfl) rfl (by kernel_rfl) (zU rfl) (z7C hn) fun _=>z8B R hn
theorem z9R {fn} (R:List zAJ):zAG ⟨tyL,fn,[]⟩ Tryz.f67 [(ETy.sl zG3).av R] (fun r=>r= .s (.clo 105 [⟨.sl zG3,R⟩])):=by
 repeat' (conv=>whnf
          first|done|refine qN ?_|apply qH|refine qG fun _=> ?_|apply qB|apply qa|apply qo|refine qe (fun _=> ?_) (fun _=> ?_)|refine qn (fun _=> ?_) (fun _=> ?_)|refine qd (fun _=> ?_) (fun _=> ?_)|apply qt|refine qi (fun _=> ?_) (fun _=> ?_)|refine zA rfl ?_|apply qE|apply qO|exact zO|apply qq|apply qs|refine qK (by kernel_rfl) ?_|apply qr)
 all_goals try first|refine qz ?_|apply qz5
 all_goals try simp only [z6,zS,yE,zZ,qn1,z7,qn2,zX,ETy.dflt,qn3,qn4,Int.reduceToNat,Int.reduceAdd,Int.reduceSub,Int.reduceNeg,Nat.reduceAdd,zD] at *
def bwC:List AV->Option Res:=zEz (.sl zG3) (fun R=>some (none,none,.s (.clo 105 [⟨.sl zG3,R⟩])))
theorem z9C:qM Tryz.prog 67 bwC:=⟨zA1 fun R r h=>by cases h;exact qL (yN (fn:=[]) (fr:=[]) trivial trivial) Tryz.func67 (by kernel_rfl) fun _ _=>z9R R,_,Tryz.func67,by kernel_rfl,by kernel_rfl⟩
inductive ChB (s:SoT):SoT->List zAJ->Prop
 | nil:ChB s s []
 | snoc {x y:SoT} {R:List zAJ} {r:zAJ} :ChB s y R->doR y r.1 r.2.1=(x,r,0)->ChB s x (R++[r])
theorem ChB.back {s x:SoT} {R:List zAJ} {r:zAJ} (h:ChB s x (R++[r])):(zBe x r).2=0/\ChB s (zBe x r).1 R:=by
 generalize e:R++[r]=Q at h;cases h with
 | nil=>simp at e
 | snoc h1 h2 =>
   obtain ⟨e1,e2⟩:=List.append_inj' e rfl;cases e2;subst e1;have:=zSW h2;rw [this];exact ⟨rfl,h1⟩
theorem ChB.zero {s x:SoT} (h:ChB s x []):x=s:=by
 generalize e:([]:List zAJ)=Q at h;cases h with
 | nil=>rfl
 | snoc=>simp at e
noncomputable def unS (x:SoT) (R:List zAJ):Nat->SoT
 | 0=>x
 | k+1=>(zBe (unS x R k) (R.getD (R.length - 1 - k) zOr)).1
theorem zKA {R:List zAJ} {k:Nat} (h:k<R.length):R.take (k+1)=R.take k++[R.getD k zOr]:=by
 rw [yB h,zR,zG h];rfl
theorem zVf {s x:SoT} {R:List zAJ} (h:ChB s x R): ∀ k,k<=R.length->ChB s (unS x R k) (R.take (R.length - k))
 | 0,_=>by rw [Nat.sub_zero,List.take_length];exact h
 | k+1,hk=>by
   have ih:=zVf h k (by omega);rw [show R.length - k=(R.length - (k+1))+1 by omega,zKA (by omega)] at ih;have:=ih.back.2;unfold unS;rw [show R.length - 1 - k=R.length - (k+1) by omega];exact this
theorem z6O {s x:SoT} {R:List zAJ} (h:ChB s x R) {k:Nat} (hk:k<R.length):(zBe (unS x R k) (R.getD (R.length - 1 - k) zOr)).2=0:=by
 have ih:=zVf h k (by omega);rw [show R.length - k=(R.length - 1 - k)+1 by omega,zKA (by omega)] at ih;exact ih.back.1
theorem z32 {s x:SoT} {R:List zAJ} (h:ChB s x R):unS x R R.length=s:=by
 have:=zVf h R.length (zI _);rw [Nat.sub_self,List.take_zero] at this;exact this.zero
noncomputable def z2n (x:SoT) (R:List zAJ):Spec Nat where
 inv _:=True
 live _:=[]
 keep:=[1,2,4,5]
 heap k:=[(0,.flat 24 [.int .i64 (unS x R k).1,.sl .arr3 (unS x R k).2])]
 keepH:=[1,2,3,4]
 mu _:=0
theorem z3M {s x:SoT} {R:List zAJ} (h:ChB s x R) {k:Nat} (hk:k<(bwL R.length).length):(zBe (unS x R k) (R.getD ((bwL R.length).getD k 0).toNat zOr)).2=0:=by
 rw [zFN] at hk;have:=z6O h hk;rw [zPH hk,show ((R.length:Int) - 1 - k).toNat=R.length - 1 - k by omega];exact this
attribute [local irreducible] zBe unS
theorem z1d (n:Int) (l:List P3) (R:List zAJ) (s:SoT) (h:ChB s (n,l) R) (hn:R.length<=100000) (hl:l.length<=8192):zH7 ⟨tyL,[(64,zIF),(67,bwC),(68,zWc)],[]⟩ seqB Tryz.f25 [qP.av (n,l),(ETy.sl zG3).av R] (fun r=>r=zS4 (s,0)):=by
 repeat' (conv=>whnf
          first|done|refine qN ?_|apply qH|refine qG fun _=> ?_|apply qB|apply qa|apply qo|refine qe (fun _=> ?_) (fun _=> ?_)|refine qn (fun _=> ?_) (fun _=> ?_)|refine qd (fun _=> ?_) (fun _=> ?_)|apply qt|refine qi (fun _=> ?_) (fun _=> ?_)|refine zB (bwL R.length) (zA (yJ.out ?_) (zB (z2n (n,l) R) ?_))|(refine zA (fun X=> ?_) (fun X=> ?_))|(refine zA (zA ?_ (zA ?_ rfl)) (fun k hk=> ?_))|(refine zA ?_ (zA ?_ rfl))|exact absurd (z3M h hk) (by assumption)|refine zA rfl ?_|apply qE|apply qO|exact zO|apply qq|apply qs|refine qK (by kernel_rfl) ?_|apply qr)
 all_goals try first|refine qz ?_|apply qz5
 all_goals try simp only [z6,zS,yE,zZ,qn1,z7,qn2,zX,ETy.dflt,qn3,qn4,Int.reduceToNat,Int.reduceAdd,Int.reduceSub,Int.reduceNeg,Nat.reduceAdd,zD,z2n] at *
 ·exact yJ.intro ⟨rfl,R,rfl,hn,rfl⟩
 ·rw [show unS (n,l) R 0=(n,l) by unfold unS;rfl];exact jL.intro rfl
 ·have e:unS (n,l) R (k+1)=(zBe (unS (n,l) R k) (R.getD ((bwL R.length).getD k 0).toNat zOr)).1:=by
   have hk1:k<R.length:=by rw [zFN] at hk;exact hk
   rw [zPH hk1,show ((R.length:Int) - 1 - k).toNat=R.length - 1 - k by omega];conv=>lhs;unfold unS
  rw [e];exact jL.intro rfl
 ·rw [zFN,z32 h];exact y9.intro rfl
def zY6 (s0:SoT):List AV->Option Res:=zCr qP (.sl zG3) (fun s R=>some (none,some (ChB s0 s R/\R.length<=100000/\s.2.length<=8192),zS4 (s0,0)))
theorem z1b (s0:SoT):qM Tryz.prog 25 (zY6 s0):=⟨jD fun s R r h=>by
 cases h;exact zHL (yN (fn:=[(64,zIF),(67,bwC),(68,zWc)]) (fr:=[]) ⟨zMV,z9C,zYz,trivial⟩ trivial) z6h Tryz.func25 rfl (by kernel_rfl) (zU rfl) fun _ h=>z1d s.1 s.2 R s0 h.1 h.2.1 h.2.2,_,Tryz.func25,by kernel_rfl,by kernel_rfl⟩
end S1
open Go Go.Vm Go.Proofs
namespace S1
abbrev EdB:=List (Int×Int)
def zJh (R:List zAJ) (e:Int×Int):Int×Int:=(zAV R e.1,zAV R e.2)
def doK (s:SoT) (l:EdB):Nat->SoT×List zAJ
 | 0=>(s,[])
 | k+1=>((doR (doK s l k).1 (zAV (doK s l k).2 (l.getD k (0,0)).1) (zAV (doK s l k).2 (l.getD k (0,0)).2)).1,
   (doK s l k).2++[(doR (doK s l k).1 (zAV (doK s l k).2 (l.getD k (0,0)).1) (zAV (doK s l k).2 (l.getD k (0,0)).2)).2.1])
theorem zOk (r:zAJ): ∀ (R:List zAJ) (v:Int),zAV (R++[r]) v=if zJs (zAV R v) r.1 r.2.1<0 then -1 else zJs (zAV R v) r.1 r.2.1
 | [],v=>by
   show zAV [r] v=_;unfold zAV;split
   ·rfl
   ·rfl
 | q::l,v=>by
   show zAV (q::(l++[r])) v=_;unfold zAV;split
   ·rw [if_pos (by unfold zJs;rw [if_pos (by decide)];decide)]
   ·exact zOk r l _
theorem zZb {s:SoT} {a b:Int} (hs:zBK s) (k:zBN s.2 a b):doE s a b=0/\(doR s a b).1=zZv s a b/\(doR s a b).2.1.1=a/\(doR s a b).2.1.2.1=b:=by
 have hi:=zCW hs k
 have h0:doE s a b=0:=by
  rw [zIA hs,if_pos ⟨hi.1,hi.2⟩,(zEm hs k).1];rfl
 rw [zSy h0];refine ⟨h0,?_,rfl,rfl⟩;show (s.1 - 1,drL a b s.2 s.2.length)=_;rw [zXa];rfl
theorem z82 {a v:Int} (hv:0<=v) (ha:0<=a):0<=dn a v:=by unfold dn;split<;>omega
theorem zIU {α:Type} {l:List α} {k:Nat} (d:α) (h:k<l.length):l.drop k=l.getD k d::l.drop (k+1):=by
 rw [List.drop_eq_getElem_cons h,zR,zG h];rfl
structure z7x (s:SoT) (l:EdB) (k:Nat):Prop where
 bat:zFG (doK s l k).1 ((l.drop k).map (zJh (doK s l k).2))
 len:(doK s l k).2.length=k
 num:(doK s l k).1.1=s.1 - k
 ch:ChB s (doK s l k).1 (doK s l k).2
 ok:okR (doK s l k).2
 tri:(doK s l k).1.2.length<=s.2.length
theorem z1Q (a b:Int) (l:List P3):(zIZ a b l).length<=l.length:=by
 unfold zIZ;rw [yV];exact List.length_filter_le _ _
theorem zFT {s:SoT} {l:EdB} {k:Nat} (h:z7x s l k) (hk:k<l.length):(doR (doK s l k).1 (zAV (doK s l k).2 (l.getD k (0,0)).1) (zAV (doK s l k).2 (l.getD k (0,0)).2)).2.2=0/\
 (doK s l (k+1)).1=zZv (doK s l k).1 (zAV (doK s l k).2 (l.getD k (0,0)).1) (zAV (doK s l k).2 (l.getD k (0,0)).2)/\
 (∀ v,0<=zAV (doK s l k).2 v->zAV (doK s l (k+1)).2 v=dn (zAV (doK s l k).2 (l.getD k (0,0)).1) (ph (zAV (doK s l k).2 (l.getD k (0,0)).1) (zAV (doK s l k).2 (l.getD k (0,0)).2) (zAV (doK s l k).2 v))/\0<=zAV (doK s l (k+1)).2 v)/\z7x s l (k+1):=by
 have hb:=h.bat;rw [zIU (0,0) hk,List.map_cons] at hb;obtain ⟨a,ea⟩: ∃ a,a=zAV (doK s l k).2 (l.getD k (0,0)).1:=⟨_,rfl⟩;obtain ⟨b,eb⟩: ∃ b,b=zAV (doK s l k).2 (l.getD k (0,0)).2:=⟨_,rfl⟩;have hb:zFG (doK s l k).1 ((a,b)::(l.drop (k+1)).map (zJh (doK s l k).2)):=by rw [ea,eb];exact hb
 have hf:zBN (doK s l k).1.2 a b:=hb.free (a,b) (zY ..);have hi:=zCW hb.surf hf;have ia:0<=a/\a<(doK s l k).1.1:=hi.1;have ib:0<=b/\b<(doK s l k).1.1:=hi.2;obtain ⟨d1,d2,d3,d4⟩:=zZb hb.surf hf;have e1:(doK s l (k+1)).1=(doR (doK s l k).1 a b).1:=by rw [ea,eb];rfl
 have e2:(doK s l (k+1)).2=(doK s l k).2++[(doR (doK s l k).1 a b).2.1]:=by rw [ea,eb];rfl
 have hn: ∀ v,0<=zAV (doK s l k).2 v->zAV (doK s l (k+1)).2 v=dn a (ph a b (zAV (doK s l k).2 v))/\0<=zAV (doK s l (k+1)).2 v:=fun v hv=>by
  have hw:0<=dn a (ph a b (zAV (doK s l k).2 v)):=z82 (by unfold ph;split<;>omega) ia.1
  have e:zAV (doK s l (k+1)).2 v=dn a (ph a b (zAV (doK s l k).2 v)):=by
   rw [e2,zOk,d3,d4,zMP hv,if_neg (by omega)]
  exact ⟨e,by rw [e];exact hw⟩
 rw [<- ea,<- eb];refine ⟨by rw [zLI];exact d1,by rw [e1,d2],hn,⟨?_,?_,?_,?_,?_,?_⟩⟩
 ·have hs:=zXK hb;rw [e1,d2];rw [List.map_map] at hs
  have ec:(l.drop (k+1)).map (zJh (doK s l (k+1)).2)=(l.drop (k+1)).map (dn2 a ∘ zJh (doK s l k).2):=by
   refine List.map_congr_left fun e he=> ?_;have hm:zJh (doK s l k).2 e∈(l.drop (k+1)).map (zJh (doK s l k).2):=yC.2 ⟨e,he,rfl⟩;have hf2:zBN (doK s l k).1.2 (zJh (doK s l k).2 e).1 (zJh (doK s l k).2 e).2:=hb.free _ (zQ _ hm);have hap:=(List.pairwise_cons.1 hb.apart).1 _ hm;have hne:=zD1 hf2 hap;have hi2:=zCW hb.surf hf2;show (zAV _ e.1,zAV _ e.2)=(dn a (zAV _ e.1),dn a (zAV _ e.2));rw [(hn e.1 hi2.1.1).1,(hn e.2 hi2.2.1).1,zLT (show zAV _ e.1≠a from hne.1.1),zLT (show zAV _ e.2≠a from hne.2.1)]
  rw [ec];exact hs
 ·rw [e2,zN,h.len];rfl
 ·rw [e1,d2];show (doK s l k).1.1 - 1=_;rw [h.num];omega
 ·rw [e1,e2];refine .snoc h.ch ?_;rw [d3,d4];have e0:=zSy d1;rw [e0]
 ·intro r hr;rw [e2] at hr;rcases yD.1 hr with k|k
  ·exact h.ok r k
  ·rw [zF.1 k,d4];have:=hb.surf.fit.2.1;omega
 ·rw [e1,d2];show ((zIZ a b (doK s l k).1.2).map _).length<=_;rw [yV];exact Nat.le_trans (z1Q _ _ _) h.tri
theorem zFF {s:SoT} {l:EdB} (h:zFG s l): ∀ k,k<=l.length->z7x s l k
 | 0,_=>by
   refine ⟨?_,rfl,(Int.sub_zero _).symm,.nil,fun r hr=>(by cases hr),zI _⟩
   have e:(l.drop 0).map (zJh (doK s l 0).2)=l:=by
    rw [List.drop_zero];exact (List.map_congr_left (fun e _=>show (zAV [] e.1,zAV [] e.2)=e from rfl)).trans (List.map_id l)
   rw [e];exact h
 | k+1,hk=>(zFT (zFF h k (by omega)) (by omega)).2.2.2
theorem zUJ {s:SoT} {l:EdB} (h:zFG s l) {v:Int} (hv:0<=v): ∀ k,k<=l.length->0<=zAV (doK s l k).2 v
 | 0,_=>hv
 | k+1,hk=>((zFT (zFF h k (by omega)) (by omega)).2.2.1 v (zUJ h hv k (by omega))).2
end S1
open Go Go.Vm Go.Proofs
namespace S1
def zMj (o:Option yI.T) (l:List (Int×Int)):Bool:=match o with
 | some x=>decide (((zAh x l).length:Int)=l.length)
 | none=>false
attribute [local irreducible] zAh
theorem z69 (x:yI.T) (l:List (Int×Int)) (g:Full x) (hs:jV (InN x.1.1) x.1.2) (hl9:l.length<=100000):zAG ⟨tyL,[(22,zFe)],[]⟩ Tryz.f19 [(ETy.pt yI).av (some x),(ETy.sl .arr2).av l] (fun r=>r= .s (.bool (zMj (some x) l))):=by
 repeat' (conv=>whnf
          first|done|refine qN ?_|apply qH|refine qG fun _=> ?_|apply qB|apply qa|apply qo|refine qe (fun _=> ?_) (fun _=> ?_)|refine qn (fun _=> ?_) (fun _=> ?_)|refine qd (fun _=> ?_) (fun _=> ?_)|apply qt|refine qi (fun _=> ?_) (fun _=> ?_)|refine zA rfl ?_|apply qE|apply qO|exact zO|apply qq|apply qs|refine qK (by kernel_rfl) ?_|apply qr)
 all_goals try first|refine qz ?_|apply qz5
 all_goals try simp only [z6,zS,yE,zZ,qn1,z7,qn2,zX,ETy.dflt,qn3,qn4,Int.reduceToNat,Int.reduceAdd,Int.reduceSub,Int.reduceNeg,Nat.reduceAdd,zD,zMj] at *
 all_goals try exact yJ.intro ⟨fun y h=>by cases h;exact ⟨g,hs⟩,hl9⟩
 all_goals (rw [Bool.eq_iff_iff,beq_iff_eq,zP];done)
theorem z3X (l:List (Int×Int)):zAG ⟨tyL,[(22,zFe)],[]⟩ Tryz.f19 [(ETy.pt yI).av none,(ETy.sl .arr2).av l] (fun r=>r= .s (.bool (zMj none l))):=by
 repeat' (conv=>whnf
          first|done|refine qN ?_|apply qH|refine qG fun _=> ?_|apply qB|apply qa|apply qo|refine qe (fun _=> ?_) (fun _=> ?_)|refine qn (fun _=> ?_) (fun _=> ?_)|refine qd (fun _=> ?_) (fun _=> ?_)|apply qt|refine qi (fun _=> ?_) (fun _=> ?_)|refine zA rfl ?_|apply qE|apply qO|exact zO|apply qq|apply qs|refine qK (by kernel_rfl) ?_|apply qr)
 all_goals try first|refine qz ?_|apply qz5
 all_goals try simp only [z6,zS,yE,zZ,qn1,z7,qn2,zX,ETy.dflt,qn3,qn4,Int.reduceToNat,Int.reduceAdd,Int.reduceSub,Int.reduceNeg,Nat.reduceAdd,zD,zMj] at *
 all_goals try rfl
def z7L:List AV->Option Res:=zCr (.pt yI) (.sl .arr2) (fun o l=>some (none,some ((∀ x,o=some x->Full x/\jV (InN x.1.1) x.1.2)/\l.length<=100000),.s (.bool (zMj o l))))
theorem z2S:qM Tryz.prog 19 z7L:=⟨jD fun o l r h=>by
 cases h;cases o with
 | none=>exact qL (yN (fn:=[(22,zFe)]) (fr:=[]) ⟨zI8,trivial⟩ trivial) Tryz.func19 (by kernel_rfl) fun _ _=>z3X l
 | some x=>exact qL (yN (fn:=[(22,zFe)]) (fr:=[]) ⟨zI8,trivial⟩ trivial) Tryz.func19 (by kernel_rfl) fun _ h=>z69 x l (h.1 x rfl).1 (h.1 x rfl).2 h.2,_,Tryz.func19,by kernel_rfl,by kernel_rfl⟩
def zMh (s:SoT) (l:EdB):Int:=if isR s=true then (if zMj (some (zAa s)) l=true then 0 else 14) else 11
def doB (s:SoT) (l:EdB):SoT×List zAJ×Int:=if zMh s l=0 then ((doK s l l.length).1,(doK s l l.length).2,0) else ((0,[]),[],zMh s l)
def z84 (r:SoT×List zAJ×Int):AV:= .tup [qP.av r.1,.s (.sl zG3 r.2.1),.s (.int .i64 r.2.2)]
def z7h (r:SoT×List zAJ×Int):AV:=if r.2.2=0 then z84 r else .tup [.agg [.int .i64 0,.val (.slice none 0 0)],.s (.sl zG3 []),.s (.int .i64 r.2.2)]
theorem zSZ {s:SoT} {l:EdB} (h:zMh s l=0):doB s l=((doK s l l.length).1,(doK s l l.length).2,0):=if_pos h
theorem z7q {s:SoT} {l:EdB} {e:Int} (h:zMh s l=e) (he:e≠0):doB s l=((0,[]),[],e):=by unfold doB;rw [if_neg (by rw [h];exact he),h]
theorem z2W {s:SoT} {l:EdB} {e:Int} (h:zMh s l=e) (he:e≠0):z7h (doB s l)= .tup [.agg [.int .i64 0,.val (.slice none 0 0)],.s (.sl zG3 []),.s (.int .i64 e)]:=by
 rw [z7q h he];unfold z7h;rw [if_neg he]
theorem zQt {σ:Sig} {s:SoT} {l:EdB} {v:Value} (h:y6 σ [] (z7h (doB s l)) v):y6 σ [] (z84 (doB s l)) v:=by
 by_cases he:zMh s l=0
 ·rw [zSZ he] at *;exact h
 ·rw [z2W rfl he] at h;rw [z7q rfl he];obtain ⟨vs,e1,h⟩:=h
  match vs,h with
  | [x,y,z],⟨⟨ds,ea,h1⟩,h2,h3⟩ =>
    refine ⟨_,e1,⟨ds,ea,?_⟩,h2,h3⟩
    match ds,h1 with
    | [d1,d2],⟨k1,k2,k3⟩=>exact ⟨k1,zIo k2,k3⟩
theorem zGf {s:SoT} (hs:zBK s) {l:EdB} :zMj (some (zAa s)) l=true↔zFG s l:=by
 obtain ⟨_,g,e⟩:=zAu hs;have hm:jV (InN (zAa s).1.1) (zAa s).1.2:=zAc (s:=(zAa s).1) (by rw [e];exact hs);have:=zQM g hm (l:=l);unfold zMj;rw [zP];constructor
 ·intro h;have b:=this.1 (by omega);exact ⟨hs,by rw [<- e];exact b.free,by rw [<- e];exact b.apart⟩
 ·intro h;have:=this.2 ⟨by rw [e];exact h.free,by rw [e];exact h.apart⟩;omega
theorem z1L (s:SoT) (l:EdB) (k:Nat):doK s l (k+1)=((doR (doK s l k).1 (zAV (doK s l k).2 (l.getD k (0,0)).1) (zAV (doK s l k).2 (l.getD k (0,0)).2)).1,
 (doK s l k).2++[(doR (doK s l k).1 (zAV (doK s l k).2 (l.getD k (0,0)).1) (zAV (doK s l k).2 (l.getD k (0,0)).2)).2.1]):=rfl
theorem z4D (s:SoT) (l:EdB):doK s l 0=(s,[]):=rfl
def zWx (s:SoT) (l:EdB):Spec Nat where
 inv k:=k<=l.length
 live k:=[(35,.s (.int .i64 k)),(9,.s (.own 4 0 (doK s l k).2.length))]
 keep:=[2,4,33,34]
 heap k:=[(0,.flat 24 [.int .i64 (doK s l k).1.1,.sl .arr3 (doK s l k).1.2]),(4,.row zG3 103 (doK s l k).2)]
 keepH:=[1,2,3]
 mu k:=l.length - k
attribute [local irreducible] doR zAV doK zMj
theorem z75 (n:Int) (l:List P3) (es:EdB) (x:yI.T) (hx:zHP (n,l)=some x) (hl9:es.length<=100000):zAG ⟨tyL,[(54,zKs x),(19,z7L),(64,zIF),(66,z60),(65,z5p)],[]⟩ Tryz.f24 [qP.av (n,l),(ETy.sl .arr2).av es] (fun r=>r=z7h (doB (n,l) es)):=by
 obtain ⟨e0,g,hs⟩:=zHj hx
 repeat' (conv=>whnf
          first|done|refine qN ?_|apply qH|refine qG fun _=> ?_|apply qB|apply qa|apply qo|refine qe (fun _=> ?_) (fun _=> ?_)|refine qn (fun _=> ?_) (fun _=> ?_)|refine qd (fun _=> ?_) (fun _=> ?_)|apply qt|refine qi (fun _=> ?_) (fun _=> ?_)|(refine zaB 9 rfl (zWx (n,l) es) (0) ?_ ?_ ?_ fun k hk=> ?_)|with_reducible refine zaA (zWx _ _) (k+1) ?_ ?_ ?_ ?_|refine zA rfl ?_|apply qE|apply qO|exact zO|apply qq|apply qs|refine qK (by kernel_rfl) ?_|apply qr)
 all_goals try first|refine qz ?_|apply qz5
 all_goals try simp only [z6,zS,yE,zZ,qn1,z7,qn2,zX,ETy.dflt,qn3,qn4,Int.reduceToNat,Int.reduceAdd,Int.reduceSub,Int.reduceNeg,Nat.reduceAdd,zD,zWx] at *
 all_goals have hsm:jV (InN x.1.1) x.1.2:=by
            obtain ⟨_,_,e⟩:=zAu hs;rw [e0];exact zAc (s:=(zAa (n,l)).1) (by rw [e];exact hs)
 all_goals try exact yJ.intro ⟨fun y h=>by cases h;exact ⟨g,hsm⟩,hl9⟩
 all_goals try
  have hB0:zMj (some x) es=false:=by assumption
  have h14:zMh (n,l) es=14:=by
        unfold zMh;rw [if_pos ((zB4 (n,l)).2 hs),<- e0,if_neg (by rw [hB0];decide)]
  exact y9.intro (z2W h14 (by decide)).symm
 all_goals have hB:zMj (some x) es=true:=by assumption
 all_goals have hb:zFG (n,l) es:=(zGf hs).1 (by rw [<- e0];exact hB)
 all_goals have h0:zMh (n,l) es=0:=by
            unfold zMh;rw [if_pos ((zB4 (n,l)).2 hs),<- e0,if_pos hB]
 all_goals try exact yJ.intro (show l.length<=8192 from hs.fit.2.2.1)
 all_goals try (refine yJ.intro ?_;omega)
 all_goals try first
  | (rw [z4D];done)
  | (rw [z4D];rfl)
  | (rw [z4D];exact jL.intro rfl)
 all_goals have hd:=zFF hb k hk
 all_goals have hdl:=hd.len
 all_goals try (refine yJ.intro ?_;omega)
 all_goals try
  have e9:k=List.length es:=by omega
  subst e9;refine y9.intro ?_;rw [zSZ h0];unfold z7h;rw [if_pos rfl];rfl
 all_goals have hk1:k<List.length es:=by omega
 all_goals have hst:=zFT hd hk1
 all_goals try exact absurd hst.1 (by assumption)
 all_goals try first
  | (rw [z1L,zN];done)
  | (rw [z1L,zN];rfl)
  | (rw [z1L];done)
  | (rw [z1L];exact jL.intro rfl)
 all_goals
  have hm : List.getD es k (0,0)∈es:=by
            rw [zR,zG hk1];exact yQ hk1
  have hi:=zCW hs (hb.free _ hm);have hn: @LE.le Int _ n 4096:=hs.fit.2.1;have h1: @LE.le Int _ 0 (List.getD es k (0,0)).1/\@LT.lt Int _ (List.getD es k (0,0)).1 n:=hi.1;have h2: @LE.le Int _ 0 (List.getD es k (0,0)).2/\@LT.lt Int _ (List.getD es k (0,0)).2 n:=hi.2;exact yJ.intro ⟨⟨by omega,by omega⟩,hd.ok⟩
def z6P:List AV->Option Res:=zCr qP (.sl .arr2) (fun s es=>some (none,some (zBK s/\es.length<=100000),z84 (doB s es)))
theorem z2N:qM Tryz.prog 24 z6P:=⟨jD fun s es r h=>by
 cases h;cases e:zHP s with
 | none=>exact zCn.res (fun σ vals w hag hv=>⟨trivial,fun hq=>absurd (zAu (show zBK s from hq.1)).1 (by rw [e];simp)⟩) fun σ v h=>zQt h
 | some x=>exact zCn.res (qL (yN (fn:=[(54,zKs x),(19,z7L),(64,zIF),(66,z60),(65,z5p)]) (fr:=[]) ⟨(zMB x),z2S,zMV,z2u,zVA,trivial⟩ trivial) Tryz.func24 (by kernel_rfl) fun _ h=>z75 s.1 s.2 es x e h.2) fun σ v h=>zQt h,_,Tryz.func24,by kernel_rfl,by kernel_rfl⟩
end S1
open Go Go.Vm Go.Proofs
namespace S9
open S1
@[irreducible] def zFd (t:P3) (v:Int):Bool:=t.1==v|| (t.2.1==v|| t.2.2==v)
@[irreducible] def zOj (t:P3) (a b:Int):Bool:=(t.1==a&&t.2.1==b)|| ((t.2.1==a&&t.2.2==b)|| (t.2.2==a&&t.1==b))
theorem zZf {fn} (t:P3) (a b:Int):zAG ⟨tyL,fn,[]⟩ Tryz.f178 [ETy.arr3.av t,(ETy.int .i64).av a,(ETy.int .i64).av b] (fun r=>r= .s (.bool (zOj t a b))):=by
 repeat' (conv=>whnf
          first|done|refine qN ?_|apply qH|refine qG fun _=> ?_|apply qB|apply qa|apply qo|refine qe (fun _=> ?_) (fun _=> ?_)|refine qn (fun _=> ?_) (fun _=> ?_)|refine qd (fun _=> ?_) (fun _=> ?_)|apply qt|refine qi (fun _=> ?_) (fun _=> ?_)|refine zA rfl ?_|apply qE|apply qO|exact zO|apply qq|apply qs|refine qK (by kernel_rfl) ?_|apply qr)
 all_goals try first|refine qz ?_|apply qz5
 all_goals try simp only [z6,zS,yE,zZ,qn1,z7,qn2,zX,ETy.dflt,qn3,qn4,Int.reduceToNat,Int.reduceAdd,Int.reduceSub,Int.reduceNeg,Nat.reduceAdd,zD,zOj] at *
 all_goals rw [Bool.eq_iff_iff];simp only [Bool.or_eq_true,zC,beq_iff_eq,Bool.false_eq_true,true_iff,iff_true,false_iff,iff_false];omega
def zWV:List AV->Option Res:=zOw .arr3 (.int .i64) (.int .i64) (fun t a b=>some (none,none,.s (.bool (zOj t a b))))
theorem z1g:qM Tryz.prog 178 zWV:=⟨zDZ fun t a b r h=>by cases h;exact qL (yN (fn:=[]) (fr:=[]) trivial trivial) Tryz.func178 (by kernel_rfl) fun _ _=>zZf t a b,_,Tryz.func178,by kernel_rfl,by kernel_rfl⟩
theorem z4X {fn} (t:P3) (v:Int):zAG ⟨tyL,fn,[]⟩ Tryz.f133 [ETy.arr3.av t,(ETy.int .i64).av v] (fun r=>r= .s (.bool (zFd t v))):=by
 repeat' (conv=>whnf
          first|done|refine qN ?_|apply qH|refine qG fun _=> ?_|apply qB|apply qa|apply qo|refine qe (fun _=> ?_) (fun _=> ?_)|refine qn (fun _=> ?_) (fun _=> ?_)|refine qd (fun _=> ?_) (fun _=> ?_)|apply qt|refine qi (fun _=> ?_) (fun _=> ?_)|refine zA rfl ?_|apply qE|apply qO|exact zO|apply qq|apply qs|refine qK (by kernel_rfl) ?_|apply qr)
 all_goals try first|refine qz ?_|apply qz5
 all_goals try simp only [z6,zS,yE,zZ,qn1,z7,qn2,zX,ETy.dflt,qn3,qn4,Int.reduceToNat,Int.reduceAdd,Int.reduceSub,Int.reduceNeg,Nat.reduceAdd,zD,zFd] at *
 ·rename_i h;rw [h];simp
 ·rename_i h1 h;rw [h];simp
 ·rename_i h1 h2;rw [beq_false_of_ne h1,beq_false_of_ne h2];rfl
def zQI:List AV->Option Res:=zCr .arr3 (.int .i64) (fun t v=>some (none,none,.s (.bool (zFd t v))))
theorem zPc:qM Tryz.prog 133 zQI:=⟨jD fun t v r h=>by cases h;exact qL (yN (fn:=[]) (fr:=[]) trivial trivial) Tryz.func133 (by kernel_rfl) fun _ _=>z4X t v,_,Tryz.func133,by kernel_rfl,by kernel_rfl⟩
@[irreducible] def zJb (t u:P3):Bool:=zOj u t.1 t.2.1|| (zOj u t.2.1 t.2.2|| zOj u t.2.2 t.1)
theorem zU9 (t u:P3):zAG ⟨tyL,[(178,zWV)],[]⟩ Tryz.f159 [ETy.arr3.av t,ETy.arr3.av u] (fun r=>r= .s (.bool (zJb t u))):=by
 repeat' (conv=>whnf
          first|done|refine qN ?_|apply qH|refine qG fun _=> ?_|apply qB|apply qa|apply qo|refine qe (fun _=> ?_) (fun _=> ?_)|refine qn (fun _=> ?_) (fun _=> ?_)|refine qd (fun _=> ?_) (fun _=> ?_)|apply qt|refine qi (fun _=> ?_) (fun _=> ?_)|refine zA rfl ?_|apply qE|apply qO|exact zO|apply qq|apply qs|refine qK (by kernel_rfl) ?_|apply qr)
 all_goals try first|refine qz ?_|apply qz5
 all_goals try simp only [z6,zS,yE,zZ,qn1,z7,qn2,zX,ETy.dflt,qn3,qn4,Int.reduceToNat,Int.reduceAdd,Int.reduceSub,Int.reduceNeg,Nat.reduceAdd,zD,zJb] at *
 all_goals simp [*]
def zQY:List AV->Option Res:=zCr .arr3 .arr3 (fun t u=>some (none,none,.s (.bool (zJb t u))))
theorem zVj:qM Tryz.prog 159 zQY:=⟨jD fun t u r h=>by cases h;exact qL (yN (fn:=[(178,zWV)]) (fr:=[]) ⟨z1g,trivial⟩ trivial) Tryz.func159 (by kernel_rfl) fun _ _=>zU9 t u,_,Tryz.func159,by kernel_rfl,by kernel_rfl⟩
def zHq (n:Int):Nat->List P3->List Wit
 | _,[]=>[]
 | i,t::r=>if zCm n t then zHq n (i+1) r else (1,(i:Int),0)::zHq n (i+1) r
def zHN (s:Int×List P3):Bool:=decide (s.1<0)|| (decide (s.1>4096)|| decide ((s.2.length:Int)>8192))
def jF (s:Int×List P3):List Wit:=if zHN s then [(1,-1,0)] else zHq s.1 0 s.2
def zPj (n:Int) (l:List P3):Spec (Nat×List Wit) where
 inv x:=x.1<=l.length/\x.2.length<=x.1/\zHq n 0 l=x.2++zHq n x.1 (l.drop x.1)
 live x:=[(4,.s (.int .i64 x.1)),(3,.s (.own 2 0 x.2.length))]
 keep:=[1]
 heap x:=[(2,.row zB0 165 x.2)]
 keepH:=[0]
 mu x:=l.length - x.1
theorem zP6 {n:Int} {t:P3} (h:t.1<0\/t.1>=n\/t.2.1<0\/t.2.1>=n\/t.2.2<0\/t.2.2>=n):zCm n t=false:=by
 rw [<- Bool.not_eq_true];intro e;have:=zAH e;omega
theorem zG0 {n:Int} {t:P3} (h: ¬ (t.1<0\/t.1>=n\/t.2.1<0\/t.2.1>=n\/t.2.2<0\/t.2.2>=n)):zCm n t=true:=by
 simp only [zCm,vIn,zC,Bool.not_eq_true',Bool.or_eq_false_iff,yM];omega
theorem zVu {fn} (n:Int) (l:List P3):zFB ⟨tyL,fn,[]⟩ Tryz.f131 [qP.av (n,l)] (fun v obs=>v= .s (.own 0 0 (jF (n,l)).length)/\obs=[.row zB0 165 (jF (n,l))]):=by
 repeat' (conv=>whnf
          first|done|refine qN ?_|apply qH|refine qG fun _=> ?_|apply qB|apply qa|apply qo|refine qe (fun _=> ?_) (fun _=> ?_)|refine qn (fun _=> ?_) (fun _=> ?_)|refine qd (fun _=> ?_) (fun _=> ?_)|apply qt|refine qi (fun _=> ?_) (fun _=> ?_)|(refine zaB 5 rfl (zPj n l) ((0,[])) ?_ ?_ ?_ fun x hx=> ?_)|(refine qS 9 rfl ?_;refine Or.inl (zB (4) ?_))|with_reducible refine zaA (zPj _ _) ((x.1+1,if zCm n (l.getD x.1 (0,0,0)) then x.2 else x.2++[(1,(x.1:Int),0)])) ?_ ?_ ?_ ?_|refine zA rfl ?_|apply qE|apply qO|exact zO|apply qq|apply qs|refine qK (by kernel_rfl) ?_|apply qr)
 all_goals try first|refine qz ?_|apply qz5
 all_goals try simp only [z6,zS,yE,zZ,qn1,z7,qn2,zX,ETy.dflt,qn3,qn4,Int.reduceToNat,Int.reduceAdd,Int.reduceSub,Int.reduceNeg,Nat.reduceAdd,zD,zPj] at *
 all_goals try (refine yJ.intro ?_;omega)
 all_goals try (refine yJ.intro ?_;simp only [List.length_singleton];omega)
 ·rename_i h;simp only [jF,zHN,decide_eq_true h,Bool.true_or,if_true];rfl
 ·rename_i h;simp only [jF,zHN,decide_eq_true h,Bool.true_or,if_true]
 ·rename_i h;simp only [jF,zHN,decide_eq_true h,Bool.true_or,Bool.or_true,if_true];rfl
 ·rename_i h;simp only [jF,zHN,decide_eq_true h,Bool.true_or,Bool.or_true,if_true]
 ·rename_i h;simp only [jF,zHN,decide_eq_true h,Bool.true_or,Bool.or_true,if_true];rfl
 ·rename_i h;simp only [jF,zHN,decide_eq_true h,Bool.true_or,Bool.or_true,if_true]
 ·exact yJ.intro ⟨Nat.zero_le _,zI _,rfl⟩
 all_goals try
  (have ht:zCm n (l.getD x.1 (0,0,0))=false:=zP6 (by omega)
   (simp only [ht,Bool.false_eq_true,if_false,zN,List.length_singleton]) <;>
   (refine yJ.intro ⟨by omega,by omega,?_⟩;rw [hx.2.2,zBU (0,0,0) (by assumption),zHq,ht];simp;done))
 all_goals try
  (have ht:zCm n (l.getD x.1 (0,0,0))=true:=zG0 (by omega)
   (simp only [ht,if_true]) <;>
   (refine yJ.intro ⟨by omega,by omega,?_⟩;rw [hx.2.2,zBU (0,0,0) (by assumption),zHq,ht];simp;done))
 all_goals
  have e:jF (n,l)=x.2:=by
   have hb:zHN (n,l)=false:=by simp only [zHN,Bool.or_eq_false_iff,yM];omega
   simp only [jF,hb,Bool.false_eq_true,if_false];rw [hx.2.2,zE9 (by assumption)];simp [zHq]
  rw [e]
def zQD:List AV->Option zKQ:=zEz qP (fun s=>some (none,none,.s (.own 0 0 (jF s).length),[.row zB0 165 (jF s)]))
theorem zVF:zDM Tryz.prog 131 zQD:=⟨zCC fun s r h=>by cases h;exact zDk (yN (fn:=[]) (fr:=[]) trivial trivial) Tryz.func131 (by kernel_rfl) fun _ _=>zVu s.1 s.2,_,Tryz.func131,by kernel_rfl,by kernel_rfl⟩
end S9
open Go Go.Vm Go.Proofs
namespace S9
open S1
@[irreducible] def ptR (k:Int) (t u:P3):Bool:=(k==3&&zJb t u)|| (k==4&&(zFd u t.1&&(zFd u t.2.1&&zFd u t.2.2)))
def prG (l:List P3) (k:Int) (b a:Nat):Option Wit:=if ptR k (l.getD a (0,0,0)) (l.getD b (0,0,0)) then some (k,(a:Int),(b:Int)) else none
def prI (l:List P3) (k:Int) (b a:Nat):List Wit:=(List.range a).filterMap (prG l k b)
def prO (l:List P3) (k:Int) (b:Nat):List Wit:=(List.range b).flatMap fun b=>prI l k b b
theorem zMR (l:List P3) (k:Int) (b a:Nat):prI l k b (a+1)=prI l k b a++(prG l k b a).toList:=by
 unfold prI;rw [List.range_succ,List.filterMap_append];simp only [List.filterMap_cons,List.filterMap_nil];cases prG l k b a<;>rfl
theorem zRe (l:List P3) (k:Int) (b:Nat):prO l k (b+1)=prO l k b++prI l k b b:=by
 unfold prO;rw [List.range_succ,List.flatMap_append];simp
theorem zVB (l:List P3) (k:Int) (b a:Nat):(prI l k b a).length<=a:=by
 unfold prI;exact Nat.le_trans (List.length_filterMap_le _ _) (by simp)
theorem zWA (l:List P3) (k:Int): ∀ b:Nat,b<=8192->(prO l k b).length<=b*8192
 | 0,_=>by simp [prO]
 | b+1,h=>by
   rw [zRe,zN];have:=zWA l k b (by omega);have:=zVB l k b b;omega
def zFJ (l:List P3) (k:Int):Spec Nat where
 inv b:=b<=l.length
 live b:=[(6,.s (.int .i64 b)),(5,.s (.own 2 0 (prO l k b).length))]
 keep:=[1,2]
 heap b:=[(2,.row zB0 165 (prO l k b))]
 keepH:=[0]
 mu b:=l.length - b
def zFE (l:List P3) (k:Int) (b:Nat):Spec Nat where
 inv a:=a<=b
 live a:=[(7,.s (.int .i64 a)),(5,.s (.own 2 0 (prO l k b++prI l k b a).length))]
 keep:=[1,2,6]
 heap a:=[(2,.row zB0 165 (prO l k b++prI l k b a))]
 keepH:=[0]
 mu a:=b - a
theorem zTw (n:Int) (l:List P3) (k:Int) (hl:l.length<=8192):zFB ⟨tyL,[(159,zQY),(133,zQI)],[]⟩ Tryz.f132 [qP.av (n,l),(ETy.int .i64).av k] (fun v obs=>v= .s (.own 0 0 (prO l k l.length).length)/\obs=[.row zB0 165 (prO l k l.length)]):=by
 repeat' (conv=>whnf
          first|done|refine qN ?_|apply qH|refine qG fun _=> ?_|apply qB|apply qa|apply qo|refine qe (fun _=> ?_) (fun _=> ?_)|refine qn (fun _=> ?_) (fun _=> ?_)|refine qd (fun _=> ?_) (fun _=> ?_)|apply qt|refine qi (fun _=> ?_) (fun _=> ?_)|(refine zaB 3 rfl (zFJ l k) (0) ?_ ?_ ?_ fun b hb=> ?_)|with_reducible refine zaA (zFJ _ _) (b+1) ?_ ?_ ?_ ?_|(refine zaB 6 rfl (zFE l k b) (0) ?_ ?_ ?_ fun a ha=> ?_)|with_reducible refine zaA (zFE _ _ _) (a+1) ?_ ?_ ?_ ?_|refine zA rfl ?_|apply qE|apply qO|exact zO|apply qq|apply qs|refine qK (by kernel_rfl) ?_|apply qr)
 all_goals try first|refine qz ?_|apply qz5
 all_goals try simp only [z6,zS,yE,zZ,qn1,z7,qn2,zX,ETy.dflt,qn3,qn4,Int.reduceToNat,Int.reduceAdd,Int.reduceSub,Int.reduceNeg,Nat.reduceAdd,zD,zFJ,zFE] at *
 all_goals try (refine yJ.intro ?_;omega)
 all_goals try
  (have h1:=zWA l k b (by omega)
   have h2:=zVB l k b a
   refine yJ.intro ?_;rw [zN];omega)
 all_goals try (simp [prI];done)
 all_goals try (exfalso;omega)
 all_goals try
  (have hp:ptR k (l.getD a (0,0,0)) (l.getD b (0,0,0))=true:=by unfold ptR;simp only [*];simp
   rw [zMR,prG,if_pos hp];simp [Nat.add_assoc];done)
 all_goals try
  (have hp:ptR k (l.getD a (0,0,0)) (l.getD b (0,0,0))=false:=by unfold ptR;simp only [*];simp [*]
   rw [zMR,prG,if_neg (by rw [hp];decide)];simp;done)
 all_goals try
  (have hp:ptR k (l.getD a (0,0,0)) (l.getD b (0,0,0))=false:=by
    unfold ptR;rw [beq_false_of_ne (by assumption:k≠3),beq_false_of_ne (by assumption:k≠4)];rfl
   rw [zMR,prG,if_neg (by rw [hp];decide)];simp;done)
 all_goals try
  (have e:a=b:=by omega
   subst e;rw [zRe])
 all_goals
  have e:b=l.length:=by omega
  rw [e]
def zP3:List AV->Option zKQ:=zCr qP (.int .i64) (fun s k=>some (none,some (s.2.length<=8192),.s (.own 0 0 (prO s.2 k s.2.length).length),[.row zB0 165 (prO s.2 k s.2.length)]))
theorem zXe:zDM Tryz.prog 132 zP3:=⟨zSK fun s k r h=>by cases h;exact zDk (yN (fn:=[(159,zQY),(133,zQI)]) (fr:=[]) ⟨zVj,zPc,trivial⟩ trivial) Tryz.func132 (by kernel_rfl) fun _ h=>zTw s.1 s.2 k h,_,Tryz.func132,by kernel_rfl,by kernel_rfl⟩
def zAX (l:List P3) (v:Int):List P3:=l.filter (zFd · v)
def tch (v w:Int) (u:P3):Bool:=decide (w≠v)&&zFd u w
@[irreducible] def touch (m:List P3) (v:Int) (i k:Nat):Bool :=
  tch v (m.getD i (0,0,0)).1 (m.getD k (0,0,0))|| (tch v (m.getD i (0,0,0)).2.1 (m.getD k (0,0,0))|| tch v (m.getD i (0,0,0)).2.2 (m.getD k (0,0,0)))
def pk (m:List P3) (v:Int) (i:Nat) (s:List Bool) (k:Nat):List Bool:=if s.getD i false=false\/s.getD k false=true then s else if touch m v i k then s.set k true else s
def zH5 (m:List P3) (v:Int) (i:Nat) (s:List Bool) (k:Nat):List Bool:=(List.range k).foldl (pk m v i) s
def zGm (m:List P3) (v:Int) (s:List Bool) (i:Nat):List Bool:=(List.range i).foldl (fun s i=>zH5 m v i s m.length) s
def zF9 (m:List P3) (v:Int) (r:Nat):List Bool:=(List.range r).foldl (fun s _=>zGm m v s m.length) ((List.replicate m.length false).set 0 true)
@[irreducible] def zFI (l:List P3) (v:Int):Bool:= !(List.range (zAX l v).length).all fun j=>(zF9 (zAX l v) v (zAX l v).length).getD j false
theorem zAq (m:List P3) (v:Int) (i:Nat) (s:List Bool) (k:Nat):zH5 m v i s (k+1)=pk m v i (zH5 m v i s k) k:=by
 unfold zH5;rw [List.range_succ,List.foldl_append];rfl
theorem zCM (m:List P3) (v:Int) (s:List Bool) (i:Nat):zGm m v s (i+1)=zH5 m v i (zGm m v s i) m.length:=by
 unfold zGm;rw [List.range_succ,List.foldl_append];rfl
theorem zBb (m:List P3) (v:Int) (r:Nat):zF9 m v (r+1)=zGm m v (zF9 m v r) m.length:=by
 unfold zF9;rw [List.range_succ,List.foldl_append];rfl
theorem zEx (l:List P3) (v:Int) {i:Nat} (h:(i:Int)<l.length):zAX (l.take (i+1)) v=zAX (l.take i) v++(if zFd (l.getD i (0,0,0)) v then [l.getD i (0,0,0)] else []):=by
 have h:i<l.length:=by omega
 unfold zAX;rw [List.take_add_one,List.filter_append,zR,zG h];simp only [Option.toList_some,Option.getD_some,List.filter_cons,List.filter_nil]
theorem zUC (l:List P3) (v:Int) (i:Nat):(zAX (l.take i) v).length<=l.length:=by
 unfold zAX;exact Nat.le_trans (List.length_filter_le _ _) (by simp;omega)
theorem zM2 {s:List Bool} {i k:Nat} (h1:s.getD i false=true) (h2:s.getD k false=false): ¬ (s.getD i false=false\/s.getD k false=true):=by
 rw [h1,h2];decide
theorem z5Q {m:List P3} {v:Int} {i k:Nat} (h:((m.getD i (0,0,0)).1≠v/\zFd (m.getD k (0,0,0)) (m.getD i (0,0,0)).1=true)\/((m.getD i (0,0,0)).2.1≠v/\zFd (m.getD k (0,0,0)) (m.getD i (0,0,0)).2.1=true)\/
 ((m.getD i (0,0,0)).2.2≠v/\zFd (m.getD k (0,0,0)) (m.getD i (0,0,0)).2.2=true)):touch m v i k=true:=by
 unfold touch tch;simp only [Bool.or_eq_true,zC,zP];exact h
theorem z3C {m:List P3} {v:Int} {i k:Nat} (h1:(m.getD i (0,0,0)).1=v\/zFd (m.getD k (0,0,0)) (m.getD i (0,0,0)).1=false) (h2:(m.getD i (0,0,0)).2.1=v\/zFd (m.getD k (0,0,0)) (m.getD i (0,0,0)).2.1=false)
 (h3:(m.getD i (0,0,0)).2.2=v\/zFd (m.getD k (0,0,0)) (m.getD i (0,0,0)).2.2=false): ¬ touch m v i k=true:=by
 have key: ∀ {w:Int} {u:P3},w=v\/zFd u w=false->¬ (w≠v/\zFd u w=true):=by
  rintro w u (h|h) ⟨a,b⟩
  ·exact a h
  ·rw [h] at b;cases b
 unfold touch tch;simp only [Bool.or_eq_true,zC,zP];rintro (h|h|h)
 ·exact key h1 h
 ·exact key h2 h
 ·exact key h3 h
def zJZ (l:List P3) (v:Int):Spec Nat where
 inv i:=i<=l.length
 live i:=[(6,.s (.int .i64 i)),(5,.s (.own 1 0 (zAX (l.take i) v).length))]
 keep:=[1,2]
 heap i:=[(1,.row .arr3 86 (zAX (l.take i) v))]
 keepH:=[0]
 mu i:=l.length - i
def zIJ (m:List P3) (v:Int):Spec Nat where
 inv r:=r<=m.length
 live r:=[(45,.s (.int .i64 r))]
 keep:=[1,5,7,44]
 heap r:=[(2,.row .bool 4 (zF9 m v r))]
 keepH:=[1]
 mu r:=m.length - r
def zWX (m:List P3) (v:Int) (s:List Bool):Spec Nat where
 inv i:=i<=m.length
 live i:=[(8,.s (.int .i64 i))]
 keep:=[1,5,7,44,45]
 heap i:=[(2,.row .bool 4 (zGm m v s i))]
 keepH:=[1]
 mu i:=m.length - i
def zXn (m:List P3) (v:Int) (i:Nat) (s:List Bool):Spec Nat where
 inv k:=k<=m.length
 live k:=[(9,.s (.int .i64 k))]
 keep:=[1,5,7,8,44,45]
 heap k:=[(2,.row .bool 4 (zH5 m v i s k))]
 keepH:=[1]
 mu k:=m.length - k
def zXz (n:Nat) (s:List Bool):Spec Nat where
 inv i:=i<=n/\∀ j,j<i->s.getD j false=true
 live i:=[(12,.s (.int .i64 i))]
 keep:=[1,5,7]
 heap _:=[]
 keepH:=[1,2]
 mu i:=n - i
theorem zWC (n:Int) (l:List P3) (v:Int) (hl:l.length<=8192):zAG ⟨tyL,[(133,zQI)],[]⟩ Tryz.f134 [qP.av (n,l),(ETy.int .i64).av v] (fun r=>r= .s (.bool (zFI l v))):=by
 repeat' (conv=>whnf
          first|done|refine qN ?_|apply qH|refine qG fun _=> ?_|apply qB|apply qa|apply qo|refine qe (fun _=> ?_) (fun _=> ?_)|refine qn (fun _=> ?_) (fun _=> ?_)|refine qd (fun _=> ?_) (fun _=> ?_)|apply qt|refine qi (fun _=> ?_) (fun _=> ?_)|(refine zaB 3 rfl (zJZ l v) (0) ?_ ?_ ?_ fun i hi=> ?_)|with_reducible refine zaA (zJZ _ _) (i+1) ?_ ?_ ?_ ?_|(refine zaB 12 rfl (zIJ (zAX (l.take i) v) v) (0) ?_ ?_ ?_ fun r hr=> ?_)|with_reducible refine zaA (zIJ _ _) (r+1) ?_ ?_ ?_ ?_|(refine zaB 14 rfl (zWX (zAX (l.take i) v) v (zF9 (zAX (l.take i) v) v r)) (0) ?_ ?_ ?_ fun x hx=> ?_)|with_reducible refine zaA (zWX _ _ _) (x+1) ?_ ?_ ?_ ?_|(refine zaB 17 rfl (zXn (zAX (l.take i) v) v x (zGm (zAX (l.take i) v) v (zF9 (zAX (l.take i) v) v r) x)) (0) ?_ ?_ ?_ fun k hk=> ?_)|with_reducible refine zaA (zXn _ _ _ _) (k+1) ?_ ?_ ?_ ?_|(refine qS 21 rfl ?_;refine Or.inl (zB (4) ?_))|(refine zaB 28 rfl (zXz (zAX (l.take i) v).length (zF9 (zAX (l.take i) v) v r)) (0) ?_ ?_ ?_ fun y hy=> ?_)|with_reducible refine zaA (zXz _ _) (y+1) ?_ ?_ ?_ ?_|refine zA rfl ?_|apply qE|apply qO|exact zO|apply qq|apply qs|refine qK (by kernel_rfl) ?_|apply qr)
 all_goals try first|refine qz ?_|apply qz5
 all_goals try simp only [z6,zS,yE,zZ,qn1,z7,qn2,zX,ETy.dflt,qn3,qn4,Int.reduceToNat,Int.reduceAdd,Int.reduceSub,Int.reduceNeg,Nat.reduceAdd,zD,zJZ,zIJ,zWX,zXn,zXz] at *
 all_goals try (refine yJ.intro ?_;omega)
 all_goals try rfl
 all_goals try
  (have h:=zUC l v i
   refine yJ.intro ?_;omega)
 all_goals try (rw [zAq,pk,if_pos (Or.inl (by assumption))];done)
 all_goals try (rw [zAq,pk,if_pos (Or.inr (by assumption))];done)
 all_goals try (rw [zAq,pk,if_neg (zM2 (by assumption) (by assumption)),if_pos (z5Q (by first|exact .inl ⟨by assumption,by assumption⟩|exact .inr (.inl ⟨by assumption,by assumption⟩)|exact .inr (.inr ⟨by assumption,by assumption⟩)))];(try simp only [List.set_set]);done)
 all_goals try (rw [zAq,pk,if_neg (zM2 (by assumption) (by assumption)),if_neg (z3C (by first|exact .inl (by assumption)|exact .inr (by assumption)) (by first|exact .inl (by assumption)|exact .inr (by assumption)) (by first|exact .inl (by assumption)|exact .inr (by assumption)))];done)
 all_goals try
  (have e:k=(zAX (l.take i) v).length:=by omega
   rw [zCM,<- e];done)
 all_goals try
  (have e:x=(zAX (l.take i) v).length:=by omega
   rw [zBb,<- e];done)
 ·rw [zEx _ _ (by assumption),if_pos (by assumption)];simp
 ·rw [zEx _ _ (by assumption),if_pos (by assumption)]
 ·rw [zEx _ _ (by assumption),if_neg (by rw [‹zFd _ _=false›];decide)];simp
 ·rw [zEx _ _ (by assumption),if_neg (by rw [‹zFd _ _=false›];decide)];simp
 ·have e:l.take i=l:=List.take_of_length_le (by omega);rename_i h;rw [e] at h;have h:(zAX l v).length=0:=by omega
  unfold zFI;rw [h];rfl
 ·exact yJ.intro ⟨Nat.zero_le _,fun j hj=>absurd hj (by omega)⟩
 ·refine yJ.intro ⟨by omega,fun j hj=> ?_⟩
  by_cases e:j=y
  ·subst e;assumption
  ·exact hy.2 j (by omega)
 all_goals
  have e:l.take i=l:=List.take_of_length_le (by omega);have er:r=(zAX (l.take i) v).length:=by omega
  rw [er] at hy;rw [e] at hy
 ·rename_i h;have hyl:y<(zAX l v).length:=by rw [<- e];omega
  rw [er,e] at h;unfold zFI;symm;rw [Bool.not_eq_true',<- Bool.not_eq_true,zJ];intro hh;rw [hh y (zV.2 hyl)] at h;cases h
 ·rename_i h;rw [e] at h;have hyl:(zAX l v).length<=y:=by omega
  unfold zFI;symm;rw [Bool.not_eq_false',zJ];intro j hj;exact hy.2 j (by have:=zV.1 hj;omega)
def zPi:List AV->Option Res:=zCr qP (.int .i64) (fun s v=>some (none,some (s.2.length<=8192),.s (.bool (zFI s.2 v))))
theorem zYT:qM Tryz.prog 134 zPi:=⟨jD fun s v r h=>by cases h;exact qL (yN (fn:=[(133,zQI)]) (fr:=[]) ⟨zPc,trivial⟩ trivial) Tryz.func134 (by kernel_rfl) fun _ h=>zWC s.1 s.2 v h,_,Tryz.func134,by kernel_rfl,by kernel_rfl⟩
end S9
