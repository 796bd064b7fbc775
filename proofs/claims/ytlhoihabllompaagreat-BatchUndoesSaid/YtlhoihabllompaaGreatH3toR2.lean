/- A part of the proofs of the laws. -/
import Derived.Test.YtlhoihabllompaaGreatY6toVmOut
import Derived.Test.YtlhoihabllompaaGreatH1toG1
import Derived.Test.YtlhoihabllompaaGreatVmRngMtoVmSeq
import Derived.Test.YtlhoihabllompaaGreatZ1ptoY5
import Derived.Test.YtlhoihabllompaaGreatT5toT11
set_option linter.unusedSimpArgs false
set_option linter.unusedVariables false
set_option maxHeartbeats 8000000
set_option maxRecDepth 100000
open Go Go.Vm Go.Proofs
namespace S1
def zVz:List AV->St->(AV->St->Prop)->Prop:=zRJ ⟨tyL,[(45,zWf)],[]⟩ Tryz.f62
theorem zV0 : zIO Tryz.prog 62 zVz ∧ ∃ fn, Tryz.prog.funcs[62]? = some fn ∧ (fn.name == "runtime.NumGoroutine") = false ∧ fn.body.isNone = false :=
 ⟨zOc (yN (fn:=[(45,zWf)]) (fr:=[]) ⟨z0s,trivial⟩ trivial) Tryz.func62 rfl (by kernel_rfl),_,Tryz.func62,by kernel_rfl,by kernel_rfl⟩
def zUD (Ls:List (List Int)):Spec Nat where
 inv i:=i<=Ls.length
 live i:=[(12,.s (.int .i64 i)),(3,.s (.own 2 0 (lfK Ls i).length))]
 keep:=[2,10,11]
 heap i:=[(3,.map y7 y7 (ofK Ls i)),(2,.row y7 3 (lfK Ls i))]
 keepH:=[0,1]
 mu i:=Ls.length - i
def zUv (Ls:List (List Int)) (i:Nat):Spec Nat where
 inv j:=j<=(Ls.getD i []).length
 live j:=[(19,.s (.int .i64 j))]
 keep:=[2,3,4,5,10,11,12,17,18]
 heap j:=[(3,.map y7 y7 (ofV (ofK Ls i) i ((Ls.getD i []).take j)))]
 keepH:=[0,1,2]
 mu j:=(Ls.getD i []).length - j
def zXR (x:yI.T) (l:List (Int×Int)):Spec (Nat×ReM×List Int) where
 inv y:=y.1<=l.length/\zEw x l y.1 y.2.1 y.2.2
 live y:=[(24,.s (.int .i64 y.1)),(8,.s (.own 5 0 (chK x l y.1).length))]
 keep:=[0,5,6,7,22,23]
 heap y:=[(4,.map y7 .bool y.2.1),(2,.row y7 3 y.2.2),(5,.row .arr2 33 (chK x l y.1))]
 keepH:=[0,3]
 mu y:=l.length - y.1
def zVD (u:ReM):Spec IBM where
 inv pre:= ∀ p∈pre,had u p.1=false
 live _:=[]
 keep:=[0,5,6,7,8,10,11,22,23,24,39]
 heap _:=[]
 keepH:=[0,2,3,4,5,6]
 mu _:=0
def zUi (u:ReM):Spec IBM where
 inv _:=True
 live _:=[]
 keep:=[0,5,6,7,8,10,11,22,23,24,81]
 heap pre:=[(4,.map y7 .bool (zRP u (pre.map (·.1))))]
 keepH:=[0,2,3,5,6]
 mu _:=0
attribute [local irreducible] chK zD8 zCp z1w zRP ofK lfK ofV qW
theorem zTX (x:yI.T) (l:List (Int×Int)) (g:Full x) (hs:jV (InN x.1.1) x.1.2) (hl9:l.length<=100000):zHZ ⟨tyL,[(27,z5a),(57,zLO),(63,zVs)],[(62,.run zVz)]⟩ z7V Tryz.f22 [(ETy.pt yI).av (some x),(ETy.sl .arr2).av l] (fun r=>r= .s (.sl .arr2 (zBx x l))):=by
 refine z6x rfl ?_
 repeat' (first
           | ((with_reducible show qC _ _ (Code.seq _ _) _ _);first|refine z56 rfl ?_|refine z5z rfl ?_)
           | with_reducible refine zVa ?_
           | with_reducible refine zXD ?_
           | with_reducible refine zRC ?_
           | with_reducible refine z1b ?_
           | with_reducible refine zWi ?_
           | with_reducible refine z2F ?_
           | with_reducible refine z7C ?_
           | ((with_reducible show qC _ _ (Code.cond _ _ _) _ _);first|refine z1M rfl ?_|refine zVi rfl ?_)
           | ((with_reducible show qC _ _ (Code.loop _) _ _);refine z6i rfl (Nat×ReM×List Int) (zXR x l) ((0,[],lfK (qW x) (qW x).length)) (yK.out ?_) (zA ?_ (zA ?_ rfl)) (fun y hy=> ?_))
           | with_reducible refine zQp ?_
           | with_reducible refine zQ7 ?_
           | with_reducible refine zRV ?_
           | with_reducible refine zSD ?_
           | ((with_reducible show z1f _ _ (Exit.exit _) _);first|refine z12 rfl ?_|refine z1H rfl ?_)
           | with_reducible refine z1T ?_
           | with_reducible refine z2G ?_
           | with_reducible refine z1V ?_
           | with_reducible refine zMP ?_
           | with_reducible refine zLE ?_
           | with_reducible refine zVH ?_
           | with_reducible refine zHn ?_
           | (conv=>whnf
              first
           | done
           | refine qN (by first|rfl|omega|(simp only [yP] at *;omega)) ?_
           | apply qH
           | refine qG fun _=> ?_
           | apply qB
           | apply qa
           | apply qo
           | refine qe (fun _=> ?_) (fun _=> ?_)
           | refine qn (fun _=> ?_) (fun _=> ?_)
           | refine qd (fun _=> ?_) (fun _=> ?_)
           | apply qt
           | refine qi (fun _=> ?_) (fun _=> ?_)
           | with_reducible refine zQp ?_
           | with_reducible refine zQ7 ?_
           | with_reducible refine zRV ?_
           | with_reducible refine zSD ?_
           | with_reducible refine zMP ?_
           | with_reducible refine zLE ?_
           | with_reducible refine zHn ?_
           | ((with_reducible show (∃ y,And (Spec.inv (zXR _ _) y) _));refine zB (y.1+1,_,_) (zA (yK.out ?_) (zA (zA ?_ (zA (zA rfl (zA rfl ?_)) rfl)) (yK.out ?_))))
           | refine (fun (XF:Array Value)=> ?_)
           | (refine qT 3 rfl ?_;refine Or.inr (zB (Nat) (zB (zUD (qW x)) (zA (zB (0) (zA (yK.out ?_) (zA ?_ (zA ?_ rfl)))) (fun i hi=>zNZ ?_)))))
           | ((with_reducible show (∃ y,And (Spec.inv (zUD _) y) _));refine zB (i+1) (zA (yK.out ?_) (zA (zA ?_ (zA ?_ rfl)) (yK.out ?_))))
           | (refine qT 6 rfl ?_;refine Or.inr (zB (Nat) (zB (zUv (qW x) i) (zA (zB (0) (zA (yK.out ?_) (zA ?_ (zA ?_ rfl)))) (fun j hj=>zNZ ?_)))))
           | ((with_reducible show (∃ y,And (Spec.inv (zUv _ _) y) _));refine zB (j+1) (zA (yK.out ?_) (zA (zA ?_ (zA ?_ rfl)) (yK.out ?_))))
           | refine (fun (rIt:Nat)=> ?_)
           | refine z7M.intro (it:=39) (zB (zVD y.2.1) (zA (zA (yK.out ?_) (zA ?_ (zA ?_ rfl))) (zA (fun preu eu heu=>zA rfl ?_) (fun preu hpu=>zA rfl ?_))))
           | ((with_reducible show (And (Spec.inv (zVD y.2.1) _) _));refine zA (yK.out ?_) (zA ?_ (zA ?_ rfl)))
           | refine (fun (rIt:Nat)=> ?_)
           | refine z7M.intro (it:=81) (zB (zUi y.2.1) (zA (zA (yK.out ?_) (zA ?_ (zA ?_ rfl))) (zA (fun prew ew hew=>zA rfl ?_) (fun prew hpw=>zA rfl ?_))))
           | ((with_reducible show (And (Spec.inv (zUi y.2.1) _) _));refine zA (yK.out ?_) (zA ?_ (zA ?_ rfl)))
           | refine zA rfl ?_
           | apply qE
           | apply qO
           | exact zN
           | apply qq
           | apply qs
           | refine qK (by kernel_rfl) ?_
           | apply qr))
 all_goals try first|apply qz1|apply qz2|apply qz3|apply qz4|apply qz5|apply qz6|apply qz7|apply qz8|apply qz9|apply qz0
 all_goals try simp only [zZ,zR,yD,z6,qn1,zY,qn2,zX,ETy.dflt,qn3,qn4,Int.reduceToNat,Int.reduceAdd,Int.reduceSub,Int.reduceNeg,Nat.reduceAdd,zD,zUD,zUv,zXR,zVD,zUi] at *
 all_goals have hLl:=zWN g
 all_goals try simp only [show z1a (some x)=qW x from rfl] at *
 all_goals try exact yK.intro (fun y h=>by cases h;exact g)
 all_goals try exact yK.intro (fun y h=>by cases h;exact g.toGood)
 all_goals try exact yK.intro g.toGood
 all_goals try exact yK.intro trivial
 all_goals try exact yK.intro (fun p h=>by cases h)
 all_goals try (refine yK.intro ?_;omega)
 all_goals try first
  | (unfold lfK;rfl)
  | (unfold ofK;rfl)
  | (unfold chK;rfl)
  | (rw [List.take_zero];unfold ofV;rfl)
  | (rw [List.map_nil];unfold zRP;rfl)
  | exact zXz _ _ _
  | exact z86 (by omega)
  | exact z8M (by omega)
  | (rw [zKv _ _ (by omega),zKv _ _ (by omega)];done)
 all_goals try (have hlf:=zKv (qW x) i (by omega);refine yK.intro ?_;omega)
 all_goals try
  have ej:j=((qW x).getD i []).length:=by omega
  subst ej;rw [List.take_length];conv=>lhs;unfold ofK
  done
 all_goals have ei:i=(qW x).length:=by omega
 all_goals subst ei
 all_goals try exact yK.intro ⟨Nat.zero_le _,z2X⟩
 all_goals try rfl
 all_goals try
  have hn : ¬ okE x (chK x l y.1) (l.getD y.1 (0,0))=true:=by
            first|exact z65 (by assumption)|exact z3G g hs hy.2 heu.2.2.2.1 (by assumption)
  first
  | exact yK.intro ⟨by omega,z7h hy.2 hn⟩
  | (rw [zZi hn];done)
 all_goals try
  refine yK.intro fun p hp=> ?_;rcases yC.1 hp with k|k
  ·exact heu.1 p k
  ·rw [zF.1 k];assumption
 all_goals try
  have e9:y.1=l.length:=by omega
  rw [e9];unfold zBx;rfl
 all_goals have hcl:=zLf x l y.1
 all_goals have hw:zD8 x (l.getD y.1 (0,0)).1 (l.getD y.1 (0,0)).2=0:=by assumption
 all_goals have hOk:=z2p g hs hy.2 hw (fun p q=>hpu.1 p ((hpu.2.2 p).2 q))
 all_goals try first
  | (rw [zNN hOk,zO];rfl)
  | exact zNN hOk
  | (refine yK.intro ?_;omega)
 all_goals try
  have hb:zHy x (l.getD y.1 (0,0)):=(z1n g hs hw).1 (by first|exact .inl (by assumption)|exact .inr (by assumption));obtain ⟨q1,q2,q3,q4⟩:=zTN g hs hOk hb hy.2
  first
  | exact yK.intro q1
  | exact yK.intro q2
  | exact absurd (by assumption) q3
  | exact yK.intro ⟨by omega,q4 _ hpw.2.2⟩
 all_goals
  have hb: ¬ zHy x (l.getD y.1 (0,0)):=fun q=>((z1n g hs hw).2 q).elim (by assumption) (by assumption);exact yK.intro ⟨by omega,z7f g hy.2 hOk hb hpw.2.2⟩
theorem zSz (l:List (Int×Int)):zHZ ⟨tyL,[(27,z5a),(57,zLO),(63,zVs)],[(62,.run zVz)]⟩ z7V Tryz.f22 [(ETy.pt yI).av none,(ETy.sl .arr2).av l] (fun r=>r= .s (.sl .arr2 [])):=by
 refine z6x rfl ?_
 repeat' (first
           | ((with_reducible show qC _ _ (Code.seq _ _) _ _);first|refine z56 rfl ?_|refine z5z rfl ?_)
           | with_reducible refine zVa ?_
           | with_reducible refine zXD ?_
           | with_reducible refine zRC ?_
           | with_reducible refine z1b ?_
           | with_reducible refine zWi ?_
           | with_reducible refine z2F ?_
           | with_reducible refine z7C ?_
           | ((with_reducible show qC _ _ (Code.cond _ _ _) _ _);first|refine z1M rfl ?_|refine zVi rfl ?_)
           | with_reducible refine zQp ?_
           | with_reducible refine zQ7 ?_
           | with_reducible refine zRV ?_
           | with_reducible refine zSD ?_
           | ((with_reducible show z1f _ _ (Exit.exit _) _);first|refine z12 rfl ?_|refine z1H rfl ?_)
           | with_reducible refine z1T ?_
           | with_reducible refine z2G ?_
           | with_reducible refine z1V ?_
           | with_reducible refine zMP ?_
           | with_reducible refine zLE ?_
           | with_reducible refine zVH ?_
           | with_reducible refine zHn ?_
           | (conv=>whnf
              first
           | done
           | refine qN (by first|rfl|omega|(simp only [yP] at *;omega)) ?_
           | apply qH
           | refine qG fun _=> ?_
           | apply qB
           | apply qa
           | apply qo
           | refine qe (fun _=> ?_) (fun _=> ?_)
           | refine qn (fun _=> ?_) (fun _=> ?_)
           | refine qd (fun _=> ?_) (fun _=> ?_)
           | apply qt
           | refine qi (fun _=> ?_) (fun _=> ?_)
           | with_reducible refine zQp ?_
           | with_reducible refine zQ7 ?_
           | with_reducible refine zRV ?_
           | with_reducible refine zSD ?_
           | with_reducible refine zMP ?_
           | with_reducible refine zLE ?_
           | with_reducible refine zHn ?_
           | refine zA rfl ?_
           | apply qE
           | apply qO
           | exact zN
           | apply qq
           | apply qs
           | refine qK (by kernel_rfl) ?_
           | apply qr))
 all_goals try first|apply qz1|apply qz2|apply qz3|apply qz4|apply qz5|apply qz6|apply qz7|apply qz8|apply qz9|apply qz0
 all_goals try simp only [zZ,zR,yD,z6,qn1,zY,qn2,zX,ETy.dflt,qn3,qn4,Int.reduceToNat,Int.reduceAdd,Int.reduceSub,Int.reduceNeg,Nat.reduceAdd,zD] at *
 all_goals rfl
def zFJ:List AV->Option Res:=zCs (.pt yI) (.sl .arr2) (fun o l=>some (none,some ((∀ x,o=some x->Full x/\jV (InN x.1.1) x.1.2)/\l.length<=100000),.s (.sl .arr2 (match o with|some x=>zBx x l|none=>[]))))
theorem zIS:qL Tryz.prog 22 zFJ:=⟨jC fun o l r h=>by
 cases h;cases o with
 | none=>exact zHE (yN (fn:=[(27,z5a),(57,zLO),(63,zVs)]) (fr:=[(62,.run zVz)]) ⟨z2E,zLB,zWz,trivial⟩ ⟨zV0,trivial⟩) zWp Tryz.func22 rfl (by kernel_rfl) (zU rfl) fun _ _=>zSz l
 | some x=>exact zHE (yN (fn:=[(27,z5a),(57,zLO),(63,zVs)]) (fr:=[(62,.run zVz)]) ⟨z2E,zLB,zWz,trivial⟩ ⟨zV0,trivial⟩) zWp Tryz.func22 rfl (by kernel_rfl) (zU rfl) fun _ h=>zTX x l (h.1 x rfl).1 (h.1 x rfl).2 h.2,_,Tryz.func22,by kernel_rfl,by kernel_rfl⟩
end S1
open Go Go.Vm Go.Proofs
namespace S1
def bwL (n:Nat):List Int:=(List.range n).map fun (j:Nat)=>(n:Int) - 1 - j
theorem zFP (n:Nat):(bwL n).length=n:=by unfold bwL;rw [y8,zBq]
theorem zOj {n k:Nat} (h:k<n):(bwL n).getD k 0=(n:Int) - 1 - k:=by
 unfold bwL;rw [zQ,List.getElem?_map,List.getElem?_range h];rfl
theorem zQX {n k:Nat} (h:k<n):(bwL n).take k++[(n:Int) - 1 - k]=(bwL n).take (k+1):=by
 rw [yB (by rw [zFP];exact h)];have:=zOj h;rw [zQ,zG (by rw [zFP];exact h)] at this;rw [<- show (bwL n)[k]'(by rw [zFP];exact h)=(n:Int) - 1 - k from this]
def zYV (R:List zAU):Spec Nat where
 inv k:=k<=R.length
 live k:=[(3,.s (.int .i64 ((R.length:Int) - 1 - k)))]
 keep:=[0,1]
 heap _:=[]
 keepH:=[]
 mu k:=R.length - k
theorem z6s (R:List zAU) (hn:R.length<=100000):zOs ⟨tyL,[],[]⟩ Tryz.f105 [⟨.sl zGp,R⟩] (bwL R.length):=by
 repeat' (conv=>whnf
          first|done|refine qN (by first|rfl|omega|(simp only [yP] at *;omega)) ?_|apply qH|refine qG fun _=> ?_|apply qB|apply qa|apply qo|refine qe (fun _=> ?_) (fun _=> ?_)|refine qn (fun _=> ?_) (fun _=> ?_)|refine qd (fun _=> ?_) (fun _=> ?_)|apply qt|refine qi (fun _=> ?_) (fun _=> ?_)|refine (fun (l:Nat)=> ?_)|refine zB Nat (zB (zYV R) (zB (fun k=>(bwL R.length).take k) (zA (zB 0 (zA (yK.out ?_) (zA (zAl.out ?_) (zA ?_ (zA ?_ rfl))))) (fun k hk=> ?_))))|((with_reducible show (∃ y,And (Spec.inv (zYV _) y) _));refine zB (k+1) (zA (yK.out ?_) (zA (zAl.out ?_) (zA (zA ?_ (zA ?_ rfl)) (yK.out ?_)))))|refine zA (yK.out (p:=(_++[_]) <+: _) ?_) ?_|refine zA (zAl.intro (y9.out ?_)) ?_|refine zAl.out ?_|refine zA rfl ?_|apply qE|apply qO|exact zN|apply qq|apply qs|refine qK (by kernel_rfl) ?_|apply qr)
 all_goals try first|apply qz1|apply qz2|apply qz3|apply qz4|apply qz5|apply qz6|apply qz7|apply qz8|apply qz9|apply qz0
 all_goals try simp only [zZ,zR,yD,z6,qn1,zY,qn2,zX,ETy.dflt,qn3,qn4,Int.reduceToNat,Int.reduceAdd,Int.reduceSub,Int.reduceNeg,Nat.reduceAdd,zD,zYV] at *
 all_goals have eR:List.length ((some R).getD [])=R.length:=rfl
 all_goals have hlb:=zFP R.length
 ·exact yK.intro (Nat.zero_le _)
 ·exact zAl.intro rfl
 ·rw [eR];omega
 ·refine yK.intro ?_;rw [eR];omega
 all_goals try have hk1:k<R.length:=by omega
 ·rw [zQX hk1];exact yK.intro (List.take_prefix _ _)
 ·exact y9.intro rfl
 ·exact yK.intro hk1
 ·exact zAl.intro (zQX hk1).symm
 ·omega
 ·refine yK.intro ?_;omega
 ·exact zAl.intro (List.take_of_length_le (by omega))
theorem z7F {n:Nat} (h:n<=100000): ∀ x∈bwL n,InK .i64 x:=fun x hx=>by
 obtain ⟨j,hj,rfl⟩:=yF.1 hx;have:=zW.1 hj;exact InK.i64.2 (by unfold yP;omega)
def seqB:zCt:=fun f ps L=>f=105/\∃ R:List zAU,ps=[⟨.sl zGp,R⟩]/\R.length<=100000/\L=bwL R.length
theorem z6A:zDR Tryz.prog seqB:=fun f ps L h=>by
 obtain ⟨rfl,R,rfl,hn,rfl⟩:=h;exact seq_ok (yN (fn:=[]) (fr:=[]) trivial trivial) Tryz.func105 rfl (by kernel_rfl) rfl (by kernel_rfl) (zU rfl) (z7F hn) fun _=>z6s R hn
theorem z7w {fn} (R:List zAU):zAF ⟨tyL,fn,[]⟩ Tryz.f67 [(ETy.sl zGp).av R] (fun r=>r= .s (.clo 105 [⟨.sl zGp,R⟩])):=by
 repeat' (conv=>whnf
          first|done|refine qN (by first|rfl|omega|(simp only [yP] at *;omega)) ?_|apply qH|refine qG fun _=> ?_|apply qB|apply qa|apply qo|refine qe (fun _=> ?_) (fun _=> ?_)|refine qn (fun _=> ?_) (fun _=> ?_)|refine qd (fun _=> ?_) (fun _=> ?_)|apply qt|refine qi (fun _=> ?_) (fun _=> ?_)|refine zA rfl ?_|apply qE|apply qO|exact zN|apply qq|apply qs|refine qK (by kernel_rfl) ?_|apply qr)
 all_goals try first|apply qz1|apply qz2|apply qz3|apply qz4|apply qz5|apply qz6|apply qz7|apply qz8|apply qz9|apply qz0
 all_goals try simp only [zZ,zR,yD,z6,qn1,zY,qn2,zX,ETy.dflt,qn3,qn4,Int.reduceToNat,Int.reduceAdd,Int.reduceSub,Int.reduceNeg,Nat.reduceAdd,zD] at *
def bwC:List AV->Option Res:=zEv (.sl zGp) (fun R=>some (none,none,.s (.clo 105 [⟨.sl zGp,R⟩])))
theorem z80:qL Tryz.prog 67 bwC:=⟨zAV fun R r h=>by cases h;exact qM (yN (fn:=[]) (fr:=[]) trivial trivial) Tryz.func67 (by kernel_rfl) fun _ _=>z7w R,_,Tryz.func67,by kernel_rfl,by kernel_rfl⟩
inductive ChB (s:SoT):SoT->List zAU->Prop
 | nil:ChB s s []
 | snoc {x y:SoT} {R:List zAU} {r:zAU} :ChB s y R->doR y r.1 r.2.1=(x,r,0)->ChB s x (R++[r])
theorem ChB.back {s x:SoT} {R:List zAU} {r:zAU} (h:ChB s x (R++[r])):(zBn x r).2=0/\ChB s (zBn x r).1 R:=by
 generalize e:R++[r]=Q at h;cases h with
 | nil=>simp at e
 | snoc h1 h2 =>
   obtain ⟨e1,e2⟩:=List.append_inj' e rfl;cases e2;subst e1;have:=zR9 h2;rw [this];exact ⟨rfl,h1⟩
theorem ChB.zero {s x:SoT} (h:ChB s x []):x=s:=by
 generalize e:([]:List zAU)=Q at h;cases h with
 | nil=>rfl
 | snoc=>simp at e
noncomputable def unS (x:SoT) (R:List zAU):Nat->SoT
 | 0=>x
 | k+1=>(zBn (unS x R k) (R.getD (R.length - 1 - k) zOe)).1
theorem zK2 {R:List zAU} {k:Nat} (h:k<R.length):R.take (k+1)=R.take k++[R.getD k zOe]:=by
 rw [yB h,zQ,zG h];rfl
theorem zUe {s x:SoT} {R:List zAU} (h:ChB s x R): ∀ k,k<=R.length->ChB s (unS x R k) (R.take (R.length - k))
 | 0,_=>by rw [Nat.sub_zero,List.take_length];exact h
 | k+1,hk=>by
   have ih:=zUe h k (by omega);rw [show R.length - k=(R.length - (k+1))+1 by omega,zK2 (by omega)] at ih;have:=ih.back.2;unfold unS;rw [show R.length - 1 - k=R.length - (k+1) by omega];exact this
theorem z5k {s x:SoT} {R:List zAU} (h:ChB s x R) {k:Nat} (hk:k<R.length):(zBn (unS x R k) (R.getD (R.length - 1 - k) zOe)).2=0:=by
 have ih:=zUe h k (by omega);rw [show R.length - k=(R.length - 1 - k)+1 by omega,zK2 (by omega)] at ih;exact ih.back.1
theorem z2i {s x:SoT} {R:List zAU} (h:ChB s x R):unS x R R.length=s:=by
 have:=zUe h R.length (zI _);rw [Nat.sub_self,List.take_zero] at this;exact this.zero
noncomputable def z15 (x:SoT) (R:List zAU):Spec Nat where
 inv _:=True
 live _:=[]
 keep:=[1,2,4,5]
 heap k:=[(0,.flat 24 [.int .i64 (unS x R k).1,.sl .arr3 (unS x R k).2])]
 keepH:=[1,2,3,4]
 mu _:=0
theorem z3I {s x:SoT} {R:List zAU} (h:ChB s x R) {k:Nat} (hk:k<(bwL R.length).length):(zBn (unS x R k) (R.getD ((bwL R.length).getD k 0).toNat zOe)).2=0:=by
 rw [zFP] at hk;have:=z5k h hk;rw [zOj hk,show ((R.length:Int) - 1 - k).toNat=R.length - 1 - k by omega];exact this
attribute [local irreducible] zBn unS
theorem zYr (n:Int) (l:List P3) (R:List zAU) (s:SoT) (h:ChB s (n,l) R) (hn:R.length<=100000) (hl:l.length<=8192):zHZ ⟨tyL,[(64,zHu),(67,bwC),(68,zYB)],[]⟩ seqB Tryz.f25 [qP.av (n,l),(ETy.sl zGp).av R] (fun r=>r=zSm (s,0)):=by
 repeat' (conv=>whnf
          first|done|refine qN (by first|rfl|omega|(simp only [yP] at *;omega)) ?_|apply qH|refine qG fun _=> ?_|apply qB|apply qa|apply qo|refine qe (fun _=> ?_) (fun _=> ?_)|refine qn (fun _=> ?_) (fun _=> ?_)|refine qd (fun _=> ?_) (fun _=> ?_)|apply qt|refine qi (fun _=> ?_) (fun _=> ?_)|refine zB (bwL R.length) (zA (yK.out ?_) (zB (z15 (n,l) R) ?_))|(refine zA (fun X=> ?_) (fun X=> ?_))|(refine zA (zA ?_ (zA ?_ rfl)) (fun k hk=> ?_))|(refine zA ?_ (zA ?_ rfl))|exact absurd (z3I h hk) (by assumption)|refine zA rfl ?_|apply qE|apply qO|exact zN|apply qq|apply qs|refine qK (by kernel_rfl) ?_|apply qr)
 all_goals try first|apply qz1|apply qz2|apply qz3|apply qz4|apply qz5|apply qz6|apply qz7|apply qz8|apply qz9|apply qz0
 all_goals try simp only [zZ,zR,yD,z6,qn1,zY,qn2,zX,ETy.dflt,qn3,qn4,Int.reduceToNat,Int.reduceAdd,Int.reduceSub,Int.reduceNeg,Nat.reduceAdd,zD,z15] at *
 ·exact yK.intro ⟨rfl,R,rfl,hn,rfl⟩
 ·rw [show unS (n,l) R 0=(n,l) by unfold unS;rfl];exact jM.intro rfl
 ·have e:unS (n,l) R (k+1)=(zBn (unS (n,l) R k) (R.getD ((bwL R.length).getD k 0).toNat zOe)).1:=by
   have hk1:k<R.length:=by rw [zFP] at hk;exact hk
   rw [zOj hk1,show ((R.length:Int) - 1 - k).toNat=R.length - 1 - k by omega];conv=>lhs;unfold unS
  rw [e];exact jM.intro rfl
 ·rw [zFP,z2i h];exact y9.intro rfl
def zNc (s0:SoT):List AV->Option Res:=zCs qP (.sl zGp) (fun s R=>some (none,some (ChB s0 s R/\R.length<=100000/\s.2.length<=8192),zSm (s0,0)))
theorem zRc (s0:SoT):qL Tryz.prog 25 (zNc s0):=⟨jC fun s R r h=>by
 cases h;exact zHE (yN (fn:=[(64,zHu),(67,bwC),(68,zYB)]) (fr:=[]) ⟨zMS,z80,zZb,trivial⟩ trivial) z6A Tryz.func25 rfl (by kernel_rfl) (zU rfl) fun _ h=>zYr s.1 s.2 R s0 h.1 h.2.1 h.2.2,_,Tryz.func25,by kernel_rfl,by kernel_rfl⟩
end S1
open Go Go.Vm Go.Proofs
namespace S1
abbrev EdB:=List (Int×Int)
def zYx (R:List zAU) (e:Int×Int):Int×Int:=(zBK R e.1,zBK R e.2)
def doK (s:SoT) (l:EdB):Nat->SoT×List zAU
 | 0=>(s,[])
 | k+1=>((doR (doK s l k).1 (zBK (doK s l k).2 (l.getD k (0,0)).1) (zBK (doK s l k).2 (l.getD k (0,0)).2)).1,
   (doK s l k).2++[(doR (doK s l k).1 (zBK (doK s l k).2 (l.getD k (0,0)).1) (zBK (doK s l k).2 (l.getD k (0,0)).2)).2.1])
theorem zNK (r:zAU): ∀ (R:List zAU) (v:Int),zBK (R++[r]) v=if zJ3 (zBK R v) r.1 r.2.1<0 then -1 else zJ3 (zBK R v) r.1 r.2.1
 | [],v=>by
   show zBK [r] v=_;unfold zBK;split
   ·rfl
   ·rfl
 | q::l,v=>by
   show zBK (q::(l++[r])) v=_;unfold zBK;split
   ·rw [if_pos (by unfold zJ3;rw [if_pos (by decide)];decide)]
   ·exact zNK r l _
theorem z08 {s:SoT} {a b:Int} (hs:zBI s) (k:zBN s.2 a b):doE s a b=0/\(doR s a b).1=z2B s a b/\(doR s a b).2.1.1=a/\(doR s a b).2.1.2.1=b:=by
 have hi:=zEX hs k
 have h0:doE s a b=0:=by
  rw [zHd hs,if_pos ⟨hi.1,hi.2⟩,(zEl hs k).1];rfl
 rw [zS4 h0];refine ⟨h0,?_,rfl,rfl⟩;show (s.1 - 1,drL a b s.2 s.2.length)=_;rw [zTe];rfl
theorem z7l {a v:Int} (hv:0<=v) (ha:0<=a):0<=dn a v:=by unfold dn;split<;>omega
theorem zUl {α:Type} {l:List α} {k:Nat} (d:α) (h:k<l.length):l.drop k=l.getD k d::l.drop (k+1):=by
 rw [List.drop_eq_getElem_cons h,zQ,zG h];rfl
structure z7T (s:SoT) (l:EdB) (k:Nat):Prop where
 bat:zY4 (doK s l k).1 ((l.drop k).map (zYx (doK s l k).2))
 len:(doK s l k).2.length=k
 num:(doK s l k).1.1=s.1 - k
 ch:ChB s (doK s l k).1 (doK s l k).2
 ok:okR (doK s l k).2
 tri:(doK s l k).1.2.length<=s.2.length
theorem zZN (a b:Int) (l:List P3):(zIf a b l).length<=l.length:=by
 unfold zIf;rw [y8];exact List.length_filter_le _ _
theorem zKt {s:SoT} {l:EdB} {k:Nat} (h:z7T s l k) (hk:k<l.length):(doR (doK s l k).1 (zBK (doK s l k).2 (l.getD k (0,0)).1) (zBK (doK s l k).2 (l.getD k (0,0)).2)).2.2=0/\
 (doK s l (k+1)).1=z2B (doK s l k).1 (zBK (doK s l k).2 (l.getD k (0,0)).1) (zBK (doK s l k).2 (l.getD k (0,0)).2)/\
 (∀ v,0<=zBK (doK s l k).2 v->zBK (doK s l (k+1)).2 v=dn (zBK (doK s l k).2 (l.getD k (0,0)).1) (ph (zBK (doK s l k).2 (l.getD k (0,0)).1) (zBK (doK s l k).2 (l.getD k (0,0)).2) (zBK (doK s l k).2 v))/\0<=zBK (doK s l (k+1)).2 v)/\z7T s l (k+1):=by
 have hb:=h.bat;rw [zUl (0,0) hk,List.map_cons] at hb;obtain ⟨a,ea⟩: ∃ a,a=zBK (doK s l k).2 (l.getD k (0,0)).1:=⟨_,rfl⟩;obtain ⟨b,eb⟩: ∃ b,b=zBK (doK s l k).2 (l.getD k (0,0)).2:=⟨_,rfl⟩;have hb:zY4 (doK s l k).1 ((a,b)::(l.drop (k+1)).map (zYx (doK s l k).2)):=by rw [ea,eb];exact hb
 have hf:zBN (doK s l k).1.2 a b:=hb.free (a,b) (yA ..);have hi:=zEX hb.surf hf;have ia:0<=a/\a<(doK s l k).1.1:=hi.1;have ib:0<=b/\b<(doK s l k).1.1:=hi.2;obtain ⟨d1,d2,d3,d4⟩:=z08 hb.surf hf;have e1:(doK s l (k+1)).1=(doR (doK s l k).1 a b).1:=by rw [ea,eb];rfl
 have e2:(doK s l (k+1)).2=(doK s l k).2++[(doR (doK s l k).1 a b).2.1]:=by rw [ea,eb];rfl
 have hn: ∀ v,0<=zBK (doK s l k).2 v->zBK (doK s l (k+1)).2 v=dn a (ph a b (zBK (doK s l k).2 v))/\0<=zBK (doK s l (k+1)).2 v:=fun v hv=>by
  have hw:0<=dn a (ph a b (zBK (doK s l k).2 v)):=z7l (by unfold ph;split<;>omega) ia.1
  have e:zBK (doK s l (k+1)).2 v=dn a (ph a b (zBK (doK s l k).2 v)):=by
   rw [e2,zNK,d3,d4,zLb hv,if_neg (by omega)]
  exact ⟨e,by rw [e];exact hw⟩
 rw [<- ea,<- eb];refine ⟨by rw [zMB];exact d1,by rw [e1,d2],hn,⟨?_,?_,?_,?_,?_,?_⟩⟩
 ·have hs:=zUc hb;rw [e1,d2];rw [List.map_map] at hs
  have ec:(l.drop (k+1)).map (zYx (doK s l (k+1)).2)=(l.drop (k+1)).map (dn2 a ∘ zYx (doK s l k).2):=by
   refine List.map_congr_left fun e he=> ?_;have hm:zYx (doK s l k).2 e∈(l.drop (k+1)).map (zYx (doK s l k).2):=yF.2 ⟨e,he,rfl⟩;have hf2:zBN (doK s l k).1.2 (zYx (doK s l k).2 e).1 (zYx (doK s l k).2 e).2:=hb.free _ (zS _ hm);have hap:=(List.pairwise_cons.1 hb.apart).1 _ hm;have hne:=zHp hf2 hap;have hi2:=zEX hb.surf hf2;show (zBK _ e.1,zBK _ e.2)=(dn a (zBK _ e.1),dn a (zBK _ e.2));rw [(hn e.1 hi2.1.1).1,(hn e.2 hi2.2.1).1,zTH (show zBK _ e.1≠a from hne.1.1),zTH (show zBK _ e.2≠a from hne.2.1)]
  rw [ec];exact hs
 ·rw [e2,zO,h.len];rfl
 ·rw [e1,d2];show (doK s l k).1.1 - 1=_;rw [h.num];omega
 ·rw [e1,e2];refine .snoc h.ch ?_;rw [d3,d4];have e0:=zS4 d1;rw [e0]
 ·intro r hr;rw [e2] at hr;rcases yC.1 hr with k|k
  ·exact h.ok r k
  ·rw [zF.1 k,d4];have:=hb.surf.fit.2.1;omega
 ·rw [e1,d2];show ((zIf a b (doK s l k).1.2).map _).length<=_;rw [y8];exact Nat.le_trans (zZN _ _ _) h.tri
theorem zOQ {s:SoT} {l:EdB} (h:zY4 s l): ∀ k,k<=l.length->z7T s l k
 | 0,_=>by
   refine ⟨?_,rfl,(Int.sub_zero _).symm,.nil,fun r hr=>(by cases hr),zI _⟩
   have e:(l.drop 0).map (zYx (doK s l 0).2)=l:=by
    rw [List.drop_zero];exact (List.map_congr_left (fun e _=>show (zBK [] e.1,zBK [] e.2)=e from rfl)).trans (List.map_id l)
   rw [e];exact h
 | k+1,hk=>(zKt (zOQ h k (by omega)) (by omega)).2.2.2
end S1
open Go Go.Vm Go.Proofs
namespace S1
def zM7 (o:Option yI.T) (l:List (Int×Int)):Bool:=match o with
 | some x=>decide (((zBx x l).length:Int)=l.length)
 | none=>false
attribute [local irreducible] zBx
theorem z5O (x:yI.T) (l:List (Int×Int)) (g:Full x) (hs:jV (InN x.1.1) x.1.2) (hl9:l.length<=100000):zAF ⟨tyL,[(22,zFJ)],[]⟩ Tryz.f19 [(ETy.pt yI).av (some x),(ETy.sl .arr2).av l] (fun r=>r= .s (.bool (zM7 (some x) l))):=by
 repeat' (conv=>whnf
          first|done|refine qN (by first|rfl|omega|(simp only [yP] at *;omega)) ?_|apply qH|refine qG fun _=> ?_|apply qB|apply qa|apply qo|refine qe (fun _=> ?_) (fun _=> ?_)|refine qn (fun _=> ?_) (fun _=> ?_)|refine qd (fun _=> ?_) (fun _=> ?_)|apply qt|refine qi (fun _=> ?_) (fun _=> ?_)|refine zA rfl ?_|apply qE|apply qO|exact zN|apply qq|apply qs|refine qK (by kernel_rfl) ?_|apply qr)
 all_goals try first|apply qz1|apply qz2|apply qz3|apply qz4|apply qz5|apply qz6|apply qz7|apply qz8|apply qz9|apply qz0
 all_goals try simp only [zZ,zR,yD,z6,qn1,zY,qn2,zX,ETy.dflt,qn3,qn4,Int.reduceToNat,Int.reduceAdd,Int.reduceSub,Int.reduceNeg,Nat.reduceAdd,zD,zM7] at *
 all_goals try exact yK.intro ⟨fun y h=>by cases h;exact ⟨g,hs⟩,hl9⟩
 all_goals (rw [Bool.eq_iff_iff,beq_iff_eq,zP];done)
theorem z2U (l:List (Int×Int)):zAF ⟨tyL,[(22,zFJ)],[]⟩ Tryz.f19 [(ETy.pt yI).av none,(ETy.sl .arr2).av l] (fun r=>r= .s (.bool (zM7 none l))):=by
 repeat' (conv=>whnf
          first|done|refine qN (by first|rfl|omega|(simp only [yP] at *;omega)) ?_|apply qH|refine qG fun _=> ?_|apply qB|apply qa|apply qo|refine qe (fun _=> ?_) (fun _=> ?_)|refine qn (fun _=> ?_) (fun _=> ?_)|refine qd (fun _=> ?_) (fun _=> ?_)|apply qt|refine qi (fun _=> ?_) (fun _=> ?_)|refine zA rfl ?_|apply qE|apply qO|exact zN|apply qq|apply qs|refine qK (by kernel_rfl) ?_|apply qr)
 all_goals try first|apply qz1|apply qz2|apply qz3|apply qz4|apply qz5|apply qz6|apply qz7|apply qz8|apply qz9|apply qz0
 all_goals try simp only [zZ,zR,yD,z6,qn1,zY,qn2,zX,ETy.dflt,qn3,qn4,Int.reduceToNat,Int.reduceAdd,Int.reduceSub,Int.reduceNeg,Nat.reduceAdd,zD,zM7] at *
 all_goals try rfl
def z7G:List AV->Option Res:=zCs (.pt yI) (.sl .arr2) (fun o l=>some (none,some ((∀ x,o=some x->Full x/\jV (InN x.1.1) x.1.2)/\l.length<=100000),.s (.bool (zM7 o l))))
theorem z1R:qL Tryz.prog 19 z7G:=⟨jC fun o l r h=>by
 cases h;cases o with
 | none=>exact qM (yN (fn:=[(22,zFJ)]) (fr:=[]) ⟨zIS,trivial⟩ trivial) Tryz.func19 (by kernel_rfl) fun _ _=>z2U l
 | some x=>exact qM (yN (fn:=[(22,zFJ)]) (fr:=[]) ⟨zIS,trivial⟩ trivial) Tryz.func19 (by kernel_rfl) fun _ h=>z5O x l (h.1 x rfl).1 (h.1 x rfl).2 h.2,_,Tryz.func19,by kernel_rfl,by kernel_rfl⟩
def zRZ (s:SoT) (l:EdB):Int:=if isR s=true then (if zM7 (some (zAj s)) l=true then 0 else 14) else 11
def doB (s:SoT) (l:EdB):SoT×List zAU×Int:=if zRZ s l=0 then ((doK s l l.length).1,(doK s l l.length).2,0) else ((0,[]),[],zRZ s l)
def z8Z (r:SoT×List zAU×Int):AV:= .tup [qP.av r.1,.s (.sl zGp r.2.1),.s (.int .i64 r.2.2)]
def z6N (r:SoT×List zAU×Int):AV:=if r.2.2=0 then z8Z r else .tup [.agg [.int .i64 0,.val (.slice none 0 0)],.s (.sl zGp []),.s (.int .i64 r.2.2)]
theorem z0O {s:SoT} {l:EdB} (h:zRZ s l=0):doB s l=((doK s l l.length).1,(doK s l l.length).2,0):=if_pos h
theorem z6p {s:SoT} {l:EdB} {e:Int} (h:zRZ s l=e) (he:e≠0):doB s l=((0,[]),[],e):=by unfold doB;rw [if_neg (by rw [h];exact he),h]
theorem z1v {s:SoT} {l:EdB} {e:Int} (h:zRZ s l=e) (he:e≠0):z6N (doB s l)= .tup [.agg [.int .i64 0,.val (.slice none 0 0)],.s (.sl zGp []),.s (.int .i64 e)]:=by
 rw [z6p h he];unfold z6N;rw [if_neg he]
theorem zQi {σ:Sig} {s:SoT} {l:EdB} {v:Value} (h:y5 σ [] (z6N (doB s l)) v):y5 σ [] (z8Z (doB s l)) v:=by
 by_cases he:zRZ s l=0
 ·rw [z0O he] at *;exact h
 ·rw [z1v rfl he] at h;rw [z6p rfl he];obtain ⟨vs,e1,h⟩:=h
  match vs,h with
  | [x,y,z],⟨⟨ds,ea,h1⟩,h2,h3⟩ =>
    refine ⟨_,e1,⟨ds,ea,?_⟩,h2,h3⟩
    match ds,h1 with
    | [d1,d2],⟨k1,k2,k3⟩=>exact ⟨k1,zJS k2,k3⟩
theorem zMX {s:SoT} (hs:zBI s) {l:EdB} :zM7 (some (zAj s)) l=true↔zY4 s l:=by
 obtain ⟨_,g,e⟩:=zAs hs;have hm:jV (InN (zAj s).1.1) (zAj s).1.2:=zA9 (s:=(zAj s).1) (by rw [e];exact hs);have:=zPY g hm (l:=l);unfold zM7;rw [zP];constructor
 ·intro h;have b:=this.1 (by omega);exact ⟨hs,by rw [<- e];exact b.free,by rw [<- e];exact b.apart⟩
 ·intro h;have:=this.2 ⟨by rw [e];exact h.free,by rw [e];exact h.apart⟩;omega
theorem zZk (s:SoT) (l:EdB) (k:Nat):doK s l (k+1)=((doR (doK s l k).1 (zBK (doK s l k).2 (l.getD k (0,0)).1) (zBK (doK s l k).2 (l.getD k (0,0)).2)).1,
 (doK s l k).2++[(doR (doK s l k).1 (zBK (doK s l k).2 (l.getD k (0,0)).1) (zBK (doK s l k).2 (l.getD k (0,0)).2)).2.1]):=rfl
theorem z3W (s:SoT) (l:EdB):doK s l 0=(s,[]):=rfl
def zWo (s:SoT) (l:EdB):Spec Nat where
 inv k:=k<=l.length
 live k:=[(35,.s (.int .i64 k)),(9,.s (.own 4 0 (doK s l k).2.length))]
 keep:=[2,4,33,34]
 heap k:=[(0,.flat 24 [.int .i64 (doK s l k).1.1,.sl .arr3 (doK s l k).1.2]),(4,.row zGp 103 (doK s l k).2)]
 keepH:=[1,2,3]
 mu k:=l.length - k
attribute [local irreducible] doR zBK doK zM7
theorem z6M (n:Int) (l:List P3) (es:EdB) (x:yI.T) (hx:zGy (n,l)=some x) (hl9:es.length<=100000):zAF ⟨tyL,[(54,zL1 x),(19,z7G),(64,zHu),(66,z71),(65,z3l)],[]⟩ Tryz.f24 [qP.av (n,l),(ETy.sl .arr2).av es] (fun r=>r=z6N (doB (n,l) es)):=by
 obtain ⟨e0,g,hs⟩:=zH9 hx
 repeat' (conv=>whnf
          first|done|refine qN (by first|rfl|omega|(simp only [yP] at *;omega)) ?_|apply qH|refine qG fun _=> ?_|apply qB|apply qa|apply qo|refine qe (fun _=> ?_) (fun _=> ?_)|refine qn (fun _=> ?_) (fun _=> ?_)|refine qd (fun _=> ?_) (fun _=> ?_)|apply qt|refine qi (fun _=> ?_) (fun _=> ?_)|(refine qT 9 rfl ?_;refine Or.inr (zB (Nat) (zB (zWo (n,l) es) (zA (zB (0) (zA (yK.out ?_) (zA ?_ (zA ?_ rfl)))) (fun k hk=> ?_)))))|((with_reducible show (∃ y,And (Spec.inv (zWo _ _) y) _));refine zB (k+1) (zA (yK.out ?_) (zA (zA ?_ (zA ?_ rfl)) (yK.out ?_))))|refine zA rfl ?_|apply qE|apply qO|exact zN|apply qq|apply qs|refine qK (by kernel_rfl) ?_|apply qr)
 all_goals try first|apply qz1|apply qz2|apply qz3|apply qz4|apply qz5|apply qz6|apply qz7|apply qz8|apply qz9|apply qz0
 all_goals try simp only [zZ,zR,yD,z6,qn1,zY,qn2,zX,ETy.dflt,qn3,qn4,Int.reduceToNat,Int.reduceAdd,Int.reduceSub,Int.reduceNeg,Nat.reduceAdd,zD,zWo] at *
 all_goals have hsm:jV (InN x.1.1) x.1.2:=by
            obtain ⟨_,_,e⟩:=zAs hs;rw [e0];exact zA9 (s:=(zAj (n,l)).1) (by rw [e];exact hs)
 all_goals try exact yK.intro ⟨fun y h=>by cases h;exact ⟨g,hsm⟩,hl9⟩
 all_goals try
  have hB0:zM7 (some x) es=false:=by assumption
  have h14:zRZ (n,l) es=14:=by
        unfold zRZ;rw [if_pos ((zCP (n,l)).2 hs),<- e0,if_neg (by rw [hB0];decide)]
  exact y9.intro (z1v h14 (by decide)).symm
 all_goals have hB:zM7 (some x) es=true:=by assumption
 all_goals have hb:zY4 (n,l) es:=(zMX hs).1 (by rw [<- e0];exact hB)
 all_goals have h0:zRZ (n,l) es=0:=by
            unfold zRZ;rw [if_pos ((zCP (n,l)).2 hs),<- e0,if_pos hB]
 all_goals try exact yK.intro (show l.length<=8192 from hs.fit.2.2.1)
 all_goals try (refine yK.intro ?_;omega)
 all_goals try first
  | (rw [z3W];done)
  | (rw [z3W];rfl)
  | (rw [z3W];exact jM.intro rfl)
 all_goals have hd:=zOQ hb k hk
 all_goals have hdl:=hd.len
 all_goals try (refine yK.intro ?_;omega)
 all_goals try
  have e9:k=List.length es:=by omega
  subst e9;refine y9.intro ?_;rw [z0O h0];unfold z6N;rw [if_pos rfl];rfl
 all_goals have hk1:k<List.length es:=by omega
 all_goals have hst:=zKt hd hk1
 all_goals try exact absurd hst.1 (by assumption)
 all_goals try first
  | (rw [zZk,zO];done)
  | (rw [zZk,zO];rfl)
  | (rw [zZk];done)
  | (rw [zZk];exact jM.intro rfl)
 all_goals
  have hm : List.getD es k (0,0)∈es:=by
            rw [zQ,zG hk1];exact yU hk1
  have hi:=zEX hs (hb.free _ hm);have hn: @LE.le Int _ n 4096:=hs.fit.2.1;have h1: @LE.le Int _ 0 (List.getD es k (0,0)).1/\@LT.lt Int _ (List.getD es k (0,0)).1 n:=hi.1;have h2: @LE.le Int _ 0 (List.getD es k (0,0)).2/\@LT.lt Int _ (List.getD es k (0,0)).2 n:=hi.2;exact yK.intro ⟨⟨by omega,by omega⟩,hd.ok⟩
def z6F:List AV->Option Res:=zCs qP (.sl .arr2) (fun s es=>some (none,some (zBI s/\es.length<=100000),z8Z (doB s es)))
theorem z1s:qL Tryz.prog 24 z6F:=⟨jC fun s es r h=>by
 cases h;cases e:zGy s with
 | none=>exact zDL.res (fun σ vals w hag hv=>⟨trivial,fun hq=>absurd (zAs (show zBI s from hq.1)).1 (by rw [e];simp)⟩) fun σ v h=>zQi h
 | some x=>exact zDL.res (qM (yN (fn:=[(54,zL1 x),(19,z7G),(64,zHu),(66,z71),(65,z3l)]) (fr:=[]) ⟨(zKx x),z1R,zMS,z60,zXr,trivial⟩ trivial) Tryz.func24 (by kernel_rfl) fun _ h=>z6M s.1 s.2 es x e h.2) fun σ v h=>zQi h,_,Tryz.func24,by kernel_rfl,by kernel_rfl⟩
end S1
open Go Go.Vm Go.Proofs
namespace S9
open S1
@[irreducible] def zFM (t:P3) (v:Int):Bool:=t.1==v|| (t.2.1==v|| t.2.2==v)
@[irreducible] def zNr (t:P3) (a b:Int):Bool:=(t.1==a&&t.2.1==b)|| ((t.2.1==a&&t.2.2==b)|| (t.2.2==a&&t.1==b))
theorem zZH {fn} (t:P3) (a b:Int):zAF ⟨tyL,fn,[]⟩ Tryz.f178 [ETy.arr3.av t,(ETy.int .i64).av a,(ETy.int .i64).av b] (fun r=>r= .s (.bool (zNr t a b))):=by
 repeat' (conv=>whnf
          first|done|refine qN (by first|rfl|omega|(simp only [yP] at *;omega)) ?_|apply qH|refine qG fun _=> ?_|apply qB|apply qa|apply qo|refine qe (fun _=> ?_) (fun _=> ?_)|refine qn (fun _=> ?_) (fun _=> ?_)|refine qd (fun _=> ?_) (fun _=> ?_)|apply qt|refine qi (fun _=> ?_) (fun _=> ?_)|refine zA rfl ?_|apply qE|apply qO|exact zN|apply qq|apply qs|refine qK (by kernel_rfl) ?_|apply qr)
 all_goals try first|apply qz1|apply qz2|apply qz3|apply qz4|apply qz5|apply qz6|apply qz7|apply qz8|apply qz9|apply qz0
 all_goals try simp only [zZ,zR,yD,z6,qn1,zY,qn2,zX,ETy.dflt,qn3,qn4,Int.reduceToNat,Int.reduceAdd,Int.reduceSub,Int.reduceNeg,Nat.reduceAdd,zD,zNr] at *
 all_goals rw [Bool.eq_iff_iff];simp only [Bool.or_eq_true,zC,beq_iff_eq,Bool.false_eq_true,true_iff,iff_true,false_iff,iff_false];omega
def zVw:List AV->Option Res:=zOh .arr3 (.int .i64) (.int .i64) (fun t a b=>some (none,none,.s (.bool (zNr t a b))))
theorem zZT:qL Tryz.prog 178 zVw:=⟨zDV fun t a b r h=>by cases h;exact qM (yN (fn:=[]) (fr:=[]) trivial trivial) Tryz.func178 (by kernel_rfl) fun _ _=>zZH t a b,_,Tryz.func178,by kernel_rfl,by kernel_rfl⟩
theorem z2Z {fn} (t:P3) (v:Int):zAF ⟨tyL,fn,[]⟩ Tryz.f133 [ETy.arr3.av t,(ETy.int .i64).av v] (fun r=>r= .s (.bool (zFM t v))):=by
 repeat' (conv=>whnf
          first|done|refine qN (by first|rfl|omega|(simp only [yP] at *;omega)) ?_|apply qH|refine qG fun _=> ?_|apply qB|apply qa|apply qo|refine qe (fun _=> ?_) (fun _=> ?_)|refine qn (fun _=> ?_) (fun _=> ?_)|refine qd (fun _=> ?_) (fun _=> ?_)|apply qt|refine qi (fun _=> ?_) (fun _=> ?_)|refine zA rfl ?_|apply qE|apply qO|exact zN|apply qq|apply qs|refine qK (by kernel_rfl) ?_|apply qr)
 all_goals try first|apply qz1|apply qz2|apply qz3|apply qz4|apply qz5|apply qz6|apply qz7|apply qz8|apply qz9|apply qz0
 all_goals try simp only [zZ,zR,yD,z6,qn1,zY,qn2,zX,ETy.dflt,qn3,qn4,Int.reduceToNat,Int.reduceAdd,Int.reduceSub,Int.reduceNeg,Nat.reduceAdd,zD,zFM] at *
 ·rename_i h;rw [h];simp
 ·rename_i h1 h;rw [h];simp
 ·rename_i h1 h2;rw [beq_false_of_ne h1,beq_false_of_ne h2];rfl
def zP1:List AV->Option Res:=zCs .arr3 (.int .i64) (fun t v=>some (none,none,.s (.bool (zFM t v))))
theorem zPW:qL Tryz.prog 133 zP1:=⟨jC fun t v r h=>by cases h;exact qM (yN (fn:=[]) (fr:=[]) trivial trivial) Tryz.func133 (by kernel_rfl) fun _ _=>z2Z t v,_,Tryz.func133,by kernel_rfl,by kernel_rfl⟩
@[irreducible] def zJI (t u:P3):Bool:=zNr u t.1 t.2.1|| (zNr u t.2.1 t.2.2|| zNr u t.2.2 t.1)
theorem zXI (t u:P3):zAF ⟨tyL,[(178,zVw)],[]⟩ Tryz.f159 [ETy.arr3.av t,ETy.arr3.av u] (fun r=>r= .s (.bool (zJI t u))):=by
 repeat' (conv=>whnf
          first|done|refine qN (by first|rfl|omega|(simp only [yP] at *;omega)) ?_|apply qH|refine qG fun _=> ?_|apply qB|apply qa|apply qo|refine qe (fun _=> ?_) (fun _=> ?_)|refine qn (fun _=> ?_) (fun _=> ?_)|refine qd (fun _=> ?_) (fun _=> ?_)|apply qt|refine qi (fun _=> ?_) (fun _=> ?_)|refine zA rfl ?_|apply qE|apply qO|exact zN|apply qq|apply qs|refine qK (by kernel_rfl) ?_|apply qr)
 all_goals try first|apply qz1|apply qz2|apply qz3|apply qz4|apply qz5|apply qz6|apply qz7|apply qz8|apply qz9|apply qz0
 all_goals try simp only [zZ,zR,yD,z6,qn1,zY,qn2,zX,ETy.dflt,qn3,qn4,Int.reduceToNat,Int.reduceAdd,Int.reduceSub,Int.reduceNeg,Nat.reduceAdd,zD,zJI] at *
 all_goals simp [*]
def zPg:List AV->Option Res:=zCs .arr3 .arr3 (fun t u=>some (none,none,.s (.bool (zJI t u))))
theorem zV7:qL Tryz.prog 159 zPg:=⟨jC fun t u r h=>by cases h;exact qM (yN (fn:=[(178,zVw)]) (fr:=[]) ⟨zZT,trivial⟩ trivial) Tryz.func159 (by kernel_rfl) fun _ _=>zXI t u,_,Tryz.func159,by kernel_rfl,by kernel_rfl⟩
def zHc (n:Int):Nat->List P3->List Wit
 | _,[]=>[]
 | i,t::r=>if zCl n t then zHc n (i+1) r else (1,(i:Int),0)::zHc n (i+1) r
def zGo (s:Int×List P3):Bool:=decide (s.1<0)|| (decide (s.1>4096)|| decide ((s.2.length:Int)>8192))
def jD (s:Int×List P3):List Wit:=if zGo s then [(1,-1,0)] else zHc s.1 0 s.2
def zOk (n:Int) (l:List P3):Spec (Nat×List Wit) where
 inv x:=x.1<=l.length/\x.2.length<=x.1/\zHc n 0 l=x.2++zHc n x.1 (l.drop x.1)
 live x:=[(4,.s (.int .i64 x.1)),(3,.s (.own 2 0 x.2.length))]
 keep:=[1]
 heap x:=[(2,.row zBW 165 x.2)]
 keepH:=[0]
 mu x:=l.length - x.1
theorem zP0 {n:Int} {t:P3} (h:t.1<0\/t.1>=n\/t.2.1<0\/t.2.1>=n\/t.2.2<0\/t.2.2>=n):zCl n t=false:=by
 rw [<- Bool.not_eq_true];intro e;have:=zAE e;omega
theorem zFn {n:Int} {t:P3} (h: ¬ (t.1<0\/t.1>=n\/t.2.1<0\/t.2.1>=n\/t.2.2<0\/t.2.2>=n)):zCl n t=true:=by
 simp only [zCl,vIn,zC,Bool.not_eq_true',Bool.or_eq_false_iff,yM];omega
theorem zXs {fn} (n:Int) (l:List P3):zEt ⟨tyL,fn,[]⟩ Tryz.f131 [qP.av (n,l)] (fun v obs=>v= .s (.own 0 0 (jD (n,l)).length)/\obs=[.row zBW 165 (jD (n,l))]):=by
 repeat' (conv=>whnf
          first|done|refine qN (by first|rfl|omega|(simp only [yP] at *;omega)) ?_|apply qH|refine qG fun _=> ?_|apply qB|apply qa|apply qo|refine qe (fun _=> ?_) (fun _=> ?_)|refine qn (fun _=> ?_) (fun _=> ?_)|refine qd (fun _=> ?_) (fun _=> ?_)|apply qt|refine qi (fun _=> ?_) (fun _=> ?_)|(refine qT 5 rfl ?_;refine Or.inr (zB (Nat×List Wit) (zB (zOk n l) (zA (zB ((0,[])) (zA (yK.out ?_) (zA ?_ (zA ?_ rfl)))) (fun x hx=> ?_)))))|(refine qT 9 rfl ?_;refine Or.inl (zB (4) ?_))|((with_reducible show (∃ y,And (Spec.inv (zOk _ _) y) _));refine zB ((x.1+1,if zCl n (l.getD x.1 (0,0,0)) then x.2 else x.2++[(1,(x.1:Int),0)])) (zA (yK.out ?_) (zA (zA ?_ (zA ?_ rfl)) (yK.out ?_))))|refine zA rfl ?_|apply qE|apply qO|exact zN|apply qq|apply qs|refine qK (by kernel_rfl) ?_|apply qr)
 all_goals try first|apply qz1|apply qz2|apply qz3|apply qz4|apply qz5|apply qz6|apply qz7|apply qz8|apply qz9|apply qz0
 all_goals try simp only [zZ,zR,yD,z6,qn1,zY,qn2,zX,ETy.dflt,qn3,qn4,Int.reduceToNat,Int.reduceAdd,Int.reduceSub,Int.reduceNeg,Nat.reduceAdd,zD,zOk] at *
 all_goals try (refine yK.intro ?_;omega)
 all_goals try (refine yK.intro ?_;simp only [List.length_singleton];omega)
 ·rename_i h;simp only [jD,zGo,decide_eq_true h,Bool.true_or,if_true];rfl
 ·rename_i h;simp only [jD,zGo,decide_eq_true h,Bool.true_or,if_true]
 ·rename_i h;simp only [jD,zGo,decide_eq_true h,Bool.true_or,Bool.or_true,if_true];rfl
 ·rename_i h;simp only [jD,zGo,decide_eq_true h,Bool.true_or,Bool.or_true,if_true]
 ·rename_i h;simp only [jD,zGo,decide_eq_true h,Bool.true_or,Bool.or_true,if_true];rfl
 ·rename_i h;simp only [jD,zGo,decide_eq_true h,Bool.true_or,Bool.or_true,if_true]
 ·exact yK.intro ⟨Nat.zero_le _,zI _,rfl⟩
 all_goals try
  (have ht:zCl n (l.getD x.1 (0,0,0))=false:=zP0 (by omega)
   (simp only [ht,Bool.false_eq_true,if_false,zO,List.length_singleton]) <;>
   (refine yK.intro ⟨by omega,by omega,?_⟩;rw [hx.2.2,zBU (0,0,0) (by assumption),zHc,ht];simp;done))
 all_goals try
  (have ht:zCl n (l.getD x.1 (0,0,0))=true:=zFn (by omega)
   (simp only [ht,if_true]) <;>
   (refine yK.intro ⟨by omega,by omega,?_⟩;rw [hx.2.2,zBU (0,0,0) (by assumption),zHc,ht];simp;done))
 all_goals
  have e:jD (n,l)=x.2:=by
   have hb:zGo (n,l)=false:=by simp only [zGo,Bool.or_eq_false_iff,yM];omega
   simp only [jD,hb,Bool.false_eq_true,if_false];rw [hx.2.2,zE7 (by assumption)];simp [zHc]
  rw [e]
def zPs:List AV->Option zJf:=zEv qP (fun s=>some (none,none,.s (.own 0 0 (jD s).length),[.row zBW 165 (jD s)]))
theorem zW8:zDE Tryz.prog 131 zPs:=⟨zCB fun s r h=>by cases h;exact zDe (yN (fn:=[]) (fr:=[]) trivial trivial) Tryz.func131 (by kernel_rfl) fun _ _=>zXs s.1 s.2,_,Tryz.func131,by kernel_rfl,by kernel_rfl⟩
end S9
open Go Go.Vm Go.Proofs
namespace S9
open S1
@[irreducible] def ptR (k:Int) (t u:P3):Bool:=(k==3&&zJI t u)|| (k==4&&(zFM u t.1&&(zFM u t.2.1&&zFM u t.2.2)))
def prG (l:List P3) (k:Int) (b a:Nat):Option Wit:=if ptR k (l.getD a (0,0,0)) (l.getD b (0,0,0)) then some (k,(a:Int),(b:Int)) else none
def prI (l:List P3) (k:Int) (b a:Nat):List Wit:=(List.range a).filterMap (prG l k b)
def prO (l:List P3) (k:Int) (b:Nat):List Wit:=(List.range b).flatMap fun b=>prI l k b b
theorem zLz (l:List P3) (k:Int) (b a:Nat):prI l k b (a+1)=prI l k b a++(prG l k b a).toList:=by
 unfold prI;rw [List.range_succ,List.filterMap_append];simp only [List.filterMap_cons,List.filterMap_nil];cases prG l k b a<;>rfl
theorem zQe (l:List P3) (k:Int) (b:Nat):prO l k (b+1)=prO l k b++prI l k b b:=by
 unfold prO;rw [List.range_succ,List.flatMap_append];simp
theorem zXE (l:List P3) (k:Int) (b a:Nat):(prI l k b a).length<=a:=by
 unfold prI;exact Nat.le_trans (List.length_filterMap_le _ _) (by simp)
theorem zU3 (l:List P3) (k:Int): ∀ b:Nat,b<=8192->(prO l k b).length<=b*8192
 | 0,_=>by simp [prO]
 | b+1,h=>by
   rw [zQe,zO];have:=zU3 l k b (by omega);have:=zXE l k b b;omega
def zFA (l:List P3) (k:Int):Spec Nat where
 inv b:=b<=l.length
 live b:=[(6,.s (.int .i64 b)),(5,.s (.own 2 0 (prO l k b).length))]
 keep:=[1,2]
 heap b:=[(2,.row zBW 165 (prO l k b))]
 keepH:=[0]
 mu b:=l.length - b
def zEx (l:List P3) (k:Int) (b:Nat):Spec Nat where
 inv a:=a<=b
 live a:=[(7,.s (.int .i64 a)),(5,.s (.own 2 0 (prO l k b++prI l k b a).length))]
 keep:=[1,2,6]
 heap a:=[(2,.row zBW 165 (prO l k b++prI l k b a))]
 keepH:=[0]
 mu a:=b - a
theorem zXf (n:Int) (l:List P3) (k:Int) (hl:l.length<=8192):zEt ⟨tyL,[(159,zPg),(133,zP1)],[]⟩ Tryz.f132 [qP.av (n,l),(ETy.int .i64).av k] (fun v obs=>v= .s (.own 0 0 (prO l k l.length).length)/\obs=[.row zBW 165 (prO l k l.length)]):=by
 repeat' (conv=>whnf
          first|done|refine qN (by first|rfl|omega|(simp only [yP] at *;omega)) ?_|apply qH|refine qG fun _=> ?_|apply qB|apply qa|apply qo|refine qe (fun _=> ?_) (fun _=> ?_)|refine qn (fun _=> ?_) (fun _=> ?_)|refine qd (fun _=> ?_) (fun _=> ?_)|apply qt|refine qi (fun _=> ?_) (fun _=> ?_)|(refine qT 3 rfl ?_;refine Or.inr (zB (Nat) (zB (zFA l k) (zA (zB (0) (zA (yK.out ?_) (zA ?_ (zA ?_ rfl)))) (fun b hb=> ?_)))))|((with_reducible show (∃ y,And (Spec.inv (zFA _ _) y) _));refine zB (b+1) (zA (yK.out ?_) (zA (zA ?_ (zA ?_ rfl)) (yK.out ?_))))|(refine qT 6 rfl ?_;refine Or.inr (zB (Nat) (zB (zEx l k b) (zA (zB (0) (zA (yK.out ?_) (zA ?_ (zA ?_ rfl)))) (fun a ha=> ?_)))))|((with_reducible show (∃ y,And (Spec.inv (zEx _ _ _) y) _));refine zB (a+1) (zA (yK.out ?_) (zA (zA ?_ (zA ?_ rfl)) (yK.out ?_))))|refine zA rfl ?_|apply qE|apply qO|exact zN|apply qq|apply qs|refine qK (by kernel_rfl) ?_|apply qr)
 all_goals try first|apply qz1|apply qz2|apply qz3|apply qz4|apply qz5|apply qz6|apply qz7|apply qz8|apply qz9|apply qz0
 all_goals try simp only [zZ,zR,yD,z6,qn1,zY,qn2,zX,ETy.dflt,qn3,qn4,Int.reduceToNat,Int.reduceAdd,Int.reduceSub,Int.reduceNeg,Nat.reduceAdd,zD,zFA,zEx] at *
 all_goals try (refine yK.intro ?_;omega)
 all_goals try
  (have h1:=zU3 l k b (by omega)
   have h2:=zXE l k b a
   refine yK.intro ?_;rw [zO];omega)
 all_goals try (simp [prI];done)
 all_goals try (exfalso;omega)
 all_goals try
  (have hp:ptR k (l.getD a (0,0,0)) (l.getD b (0,0,0))=true:=by unfold ptR;simp only [*];simp
   rw [zLz,prG,if_pos hp];simp [Nat.add_assoc];done)
 all_goals try
  (have hp:ptR k (l.getD a (0,0,0)) (l.getD b (0,0,0))=false:=by unfold ptR;simp only [*];simp [*]
   rw [zLz,prG,if_neg (by rw [hp];decide)];simp;done)
 all_goals try
  (have hp:ptR k (l.getD a (0,0,0)) (l.getD b (0,0,0))=false:=by
    unfold ptR;rw [beq_false_of_ne (by assumption:k≠3),beq_false_of_ne (by assumption:k≠4)];rfl
   rw [zLz,prG,if_neg (by rw [hp];decide)];simp;done)
 all_goals try
  (have e:a=b:=by omega
   subst e;rw [zQe])
 all_goals
  have e:b=l.length:=by omega
  rw [e]
def zPA:List AV->Option zJf:=zCs qP (.int .i64) (fun s k=>some (none,some (s.2.length<=8192),.s (.own 0 0 (prO s.2 k s.2.length).length),[.row zBW 165 (prO s.2 k s.2.length)]))
theorem zT1:zDE Tryz.prog 132 zPA:=⟨zQj fun s k r h=>by cases h;exact zDe (yN (fn:=[(159,zPg),(133,zP1)]) (fr:=[]) ⟨zV7,zPW,trivial⟩ trivial) Tryz.func132 (by kernel_rfl) fun _ h=>zXf s.1 s.2 k h,_,Tryz.func132,by kernel_rfl,by kernel_rfl⟩
def zAS (l:List P3) (v:Int):List P3:=l.filter (zFM · v)
def tch (v w:Int) (u:P3):Bool:=decide (w≠v)&&zFM u w
@[irreducible] def touch (m:List P3) (v:Int) (i k:Nat):Bool :=
  tch v (m.getD i (0,0,0)).1 (m.getD k (0,0,0))|| (tch v (m.getD i (0,0,0)).2.1 (m.getD k (0,0,0))|| tch v (m.getD i (0,0,0)).2.2 (m.getD k (0,0,0)))
def pk (m:List P3) (v:Int) (i:Nat) (s:List Bool) (k:Nat):List Bool:=if s.getD i false=false\/s.getD k false=true then s else if touch m v i k then s.set k true else s
def zHT (m:List P3) (v:Int) (i:Nat) (s:List Bool) (k:Nat):List Bool:=(List.range k).foldl (pk m v i) s
def zG4 (m:List P3) (v:Int) (s:List Bool) (i:Nat):List Bool:=(List.range i).foldl (fun s i=>zHT m v i s m.length) s
def zFV (m:List P3) (v:Int) (r:Nat):List Bool:=(List.range r).foldl (fun s _=>zG4 m v s m.length) ((List.replicate m.length false).set 0 true)
@[irreducible] def zFB (l:List P3) (v:Int):Bool:= !(List.range (zAS l v).length).all fun j=>(zFV (zAS l v) v (zAS l v).length).getD j false
theorem zAp (m:List P3) (v:Int) (i:Nat) (s:List Bool) (k:Nat):zHT m v i s (k+1)=pk m v i (zHT m v i s k) k:=by
 unfold zHT;rw [List.range_succ,List.foldl_append];rfl
theorem zCI (m:List P3) (v:Int) (s:List Bool) (i:Nat):zG4 m v s (i+1)=zHT m v i (zG4 m v s i) m.length:=by
 unfold zG4;rw [List.range_succ,List.foldl_append];rfl
theorem zB1 (m:List P3) (v:Int) (r:Nat):zFV m v (r+1)=zG4 m v (zFV m v r) m.length:=by
 unfold zFV;rw [List.range_succ,List.foldl_append];rfl
theorem zEr (l:List P3) (v:Int) {i:Nat} (h:(i:Int)<l.length):zAS (l.take (i+1)) v=zAS (l.take i) v++(if zFM (l.getD i (0,0,0)) v then [l.getD i (0,0,0)] else []):=by
 have h:i<l.length:=by omega
 unfold zAS;rw [List.take_add_one,List.filter_append,zQ,zG h];simp only [Option.toList_some,Option.getD_some,List.filter_cons,List.filter_nil]
theorem zUX (l:List P3) (v:Int) (i:Nat):(zAS (l.take i) v).length<=l.length:=by
 unfold zAS;exact Nat.le_trans (List.length_filter_le _ _) (by simp;omega)
theorem zM2 {s:List Bool} {i k:Nat} (h1:s.getD i false=true) (h2:s.getD k false=false): ¬ (s.getD i false=false\/s.getD k false=true):=by
 rw [h1,h2];decide
theorem z4U {m:List P3} {v:Int} {i k:Nat} (h:((m.getD i (0,0,0)).1≠v/\zFM (m.getD k (0,0,0)) (m.getD i (0,0,0)).1=true)\/((m.getD i (0,0,0)).2.1≠v/\zFM (m.getD k (0,0,0)) (m.getD i (0,0,0)).2.1=true)\/
 ((m.getD i (0,0,0)).2.2≠v/\zFM (m.getD k (0,0,0)) (m.getD i (0,0,0)).2.2=true)):touch m v i k=true:=by
 unfold touch tch;simp only [Bool.or_eq_true,zC,zP];exact h
theorem z4R {m:List P3} {v:Int} {i k:Nat} (h1:(m.getD i (0,0,0)).1=v\/zFM (m.getD k (0,0,0)) (m.getD i (0,0,0)).1=false) (h2:(m.getD i (0,0,0)).2.1=v\/zFM (m.getD k (0,0,0)) (m.getD i (0,0,0)).2.1=false)
 (h3:(m.getD i (0,0,0)).2.2=v\/zFM (m.getD k (0,0,0)) (m.getD i (0,0,0)).2.2=false): ¬ touch m v i k=true:=by
 have key: ∀ {w:Int} {u:P3},w=v\/zFM u w=false->¬ (w≠v/\zFM u w=true):=by
  rintro w u (h|h) ⟨a,b⟩
  ·exact a h
  ·rw [h] at b;cases b
 unfold touch tch;simp only [Bool.or_eq_true,zC,zP];rintro (h|h|h)
 ·exact key h1 h
 ·exact key h2 h
 ·exact key h3 h
def zIN (l:List P3) (v:Int):Spec Nat where
 inv i:=i<=l.length
 live i:=[(6,.s (.int .i64 i)),(5,.s (.own 1 0 (zAS (l.take i) v).length))]
 keep:=[1,2]
 heap i:=[(1,.row .arr3 86 (zAS (l.take i) v))]
 keepH:=[0]
 mu i:=l.length - i
def zIl (m:List P3) (v:Int):Spec Nat where
 inv r:=r<=m.length
 live r:=[(45,.s (.int .i64 r))]
 keep:=[1,5,7,44]
 heap r:=[(2,.row .bool 4 (zFV m v r))]
 keepH:=[1]
 mu r:=m.length - r
def zYJ (m:List P3) (v:Int) (s:List Bool):Spec Nat where
 inv i:=i<=m.length
 live i:=[(8,.s (.int .i64 i))]
 keep:=[1,5,7,44,45]
 heap i:=[(2,.row .bool 4 (zG4 m v s i))]
 keepH:=[1]
 mu i:=m.length - i
def zXU (m:List P3) (v:Int) (i:Nat) (s:List Bool):Spec Nat where
 inv k:=k<=m.length
 live k:=[(9,.s (.int .i64 k))]
 keep:=[1,5,7,8,44,45]
 heap k:=[(2,.row .bool 4 (zHT m v i s k))]
 keepH:=[1]
 mu k:=m.length - k
def zYT (n:Nat) (s:List Bool):Spec Nat where
 inv i:=i<=n/\∀ j,j<i->s.getD j false=true
 live i:=[(12,.s (.int .i64 i))]
 keep:=[1,5,7]
 heap _:=[]
 keepH:=[1,2]
 mu i:=n - i
theorem zXP (n:Int) (l:List P3) (v:Int) (hl:l.length<=8192):zAF ⟨tyL,[(133,zP1)],[]⟩ Tryz.f134 [qP.av (n,l),(ETy.int .i64).av v] (fun r=>r= .s (.bool (zFB l v))):=by
 repeat' (conv=>whnf
          first|done|refine qN (by first|rfl|omega|(simp only [yP] at *;omega)) ?_|apply qH|refine qG fun _=> ?_|apply qB|apply qa|apply qo|refine qe (fun _=> ?_) (fun _=> ?_)|refine qn (fun _=> ?_) (fun _=> ?_)|refine qd (fun _=> ?_) (fun _=> ?_)|apply qt|refine qi (fun _=> ?_) (fun _=> ?_)|(refine qT 3 rfl ?_;refine Or.inr (zB (Nat) (zB (zIN l v) (zA (zB (0) (zA (yK.out ?_) (zA ?_ (zA ?_ rfl)))) (fun i hi=> ?_)))))|((with_reducible show (∃ y,And (Spec.inv (zIN _ _) y) _));refine zB (i+1) (zA (yK.out ?_) (zA (zA ?_ (zA ?_ rfl)) (yK.out ?_))))|(refine qT 12 rfl ?_;refine Or.inr (zB (Nat) (zB (zIl (zAS (l.take i) v) v) (zA (zB (0) (zA (yK.out ?_) (zA ?_ (zA ?_ rfl)))) (fun r hr=> ?_)))))|((with_reducible show (∃ y,And (Spec.inv (zIl _ _) y) _));refine zB (r+1) (zA (yK.out ?_) (zA (zA ?_ (zA ?_ rfl)) (yK.out ?_))))|(refine qT 14 rfl ?_;refine Or.inr (zB (Nat) (zB (zYJ (zAS (l.take i) v) v (zFV (zAS (l.take i) v) v r)) (zA (zB (0) (zA (yK.out ?_) (zA ?_ (zA ?_ rfl)))) (fun x hx=> ?_)))))|((with_reducible show (∃ y,And (Spec.inv (zYJ _ _ _) y) _));refine zB (x+1) (zA (yK.out ?_) (zA (zA ?_ (zA ?_ rfl)) (yK.out ?_))))|(refine qT 17 rfl ?_;refine Or.inr (zB (Nat) (zB (zXU (zAS (l.take i) v) v x (zG4 (zAS (l.take i) v) v (zFV (zAS (l.take i) v) v r) x)) (zA (zB (0) (zA (yK.out ?_) (zA ?_ (zA ?_ rfl)))) (fun k hk=> ?_)))))|((with_reducible show (∃ y,And (Spec.inv (zXU _ _ _ _) y) _));refine zB (k+1) (zA (yK.out ?_) (zA (zA ?_ (zA ?_ rfl)) (yK.out ?_))))|(refine qT 21 rfl ?_;refine Or.inl (zB (4) ?_))|(refine qT 28 rfl ?_;refine Or.inr (zB (Nat) (zB (zYT (zAS (l.take i) v).length (zFV (zAS (l.take i) v) v r)) (zA (zB (0) (zA (yK.out ?_) (zA ?_ (zA ?_ rfl)))) (fun y hy=> ?_)))))|((with_reducible show (∃ y,And (Spec.inv (zYT _ _) y) _));refine zB (y+1) (zA (yK.out ?_) (zA (zA ?_ (zA ?_ rfl)) (yK.out ?_))))|refine zA rfl ?_|apply qE|apply qO|exact zN|apply qq|apply qs|refine qK (by kernel_rfl) ?_|apply qr)
 all_goals try first|apply qz1|apply qz2|apply qz3|apply qz4|apply qz5|apply qz6|apply qz7|apply qz8|apply qz9|apply qz0
 all_goals try simp only [zZ,zR,yD,z6,qn1,zY,qn2,zX,ETy.dflt,qn3,qn4,Int.reduceToNat,Int.reduceAdd,Int.reduceSub,Int.reduceNeg,Nat.reduceAdd,zD,zIN,zIl,zYJ,zXU,zYT] at *
 all_goals try (refine yK.intro ?_;omega)
 all_goals try rfl
 all_goals try
  (have h:=zUX l v i
   refine yK.intro ?_;omega)
 all_goals try (rw [zAp,pk,if_pos (Or.inl (by assumption))];done)
 all_goals try (rw [zAp,pk,if_pos (Or.inr (by assumption))];done)
 all_goals try (rw [zAp,pk,if_neg (zM2 (by assumption) (by assumption)),if_pos (z4U (by first|exact .inl ⟨by assumption,by assumption⟩|exact .inr (.inl ⟨by assumption,by assumption⟩)|exact .inr (.inr ⟨by assumption,by assumption⟩)))];(try simp only [List.set_set]);done)
 all_goals try (rw [zAp,pk,if_neg (zM2 (by assumption) (by assumption)),if_neg (z4R (by first|exact .inl (by assumption)|exact .inr (by assumption)) (by first|exact .inl (by assumption)|exact .inr (by assumption)) (by first|exact .inl (by assumption)|exact .inr (by assumption)))];done)
 all_goals try
  (have e:k=(zAS (l.take i) v).length:=by omega
   rw [zCI,<- e];done)
 all_goals try
  (have e:x=(zAS (l.take i) v).length:=by omega
   rw [zB1,<- e];done)
 ·rw [zEr _ _ (by assumption),if_pos (by assumption)];simp
 ·rw [zEr _ _ (by assumption),if_pos (by assumption)]
 ·rw [zEr _ _ (by assumption),if_neg (by rw [‹zFM _ _=false›];decide)];simp
 ·rw [zEr _ _ (by assumption),if_neg (by rw [‹zFM _ _=false›];decide)];simp
 ·have e:l.take i=l:=List.take_of_length_le (by omega);rename_i h;rw [e] at h;have h:(zAS l v).length=0:=by omega
  unfold zFB;rw [h];rfl
 ·exact yK.intro ⟨Nat.zero_le _,fun j hj=>absurd hj (by omega)⟩
 ·refine yK.intro ⟨by omega,fun j hj=> ?_⟩
  by_cases e:j=y
  ·subst e;assumption
  ·exact hy.2 j (by omega)
 all_goals
  have e:l.take i=l:=List.take_of_length_le (by omega);have er:r=(zAS (l.take i) v).length:=by omega
  rw [er] at hy;rw [e] at hy
 ·rename_i h;have hyl:y<(zAS l v).length:=by rw [<- e];omega
  rw [er,e] at h;unfold zFB;symm;rw [Bool.not_eq_true',<- Bool.not_eq_true,zK];intro hh;rw [hh y (zW.2 hyl)] at h;cases h
 ·rename_i h;rw [e] at h;have hyl:(zAS l v).length<=y:=by omega
  unfold zFB;symm;rw [Bool.not_eq_false',zK];intro j hj;exact hy.2 j (by have:=zW.1 hj;omega)
def zPt:List AV->Option Res:=zCs qP (.int .i64) (fun s v=>some (none,some (s.2.length<=8192),.s (.bool (zFB s.2 v))))
theorem zUV:qL Tryz.prog 134 zPt:=⟨jC fun s v r h=>by cases h;exact qM (yN (fn:=[(133,zP1)]) (fr:=[]) ⟨zPW,trivial⟩ trivial) Tryz.func134 (by kernel_rfl) fun _ h=>zXP s.1 s.2 v h,_,Tryz.func134,by kernel_rfl,by kernel_rfl⟩
end S9
