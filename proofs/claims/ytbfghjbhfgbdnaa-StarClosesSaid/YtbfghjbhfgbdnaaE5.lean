/- A part of the proofs of the laws. -/
import Derived.Test.YtbfghjbhfgbdnaaE2toQ9p
set_option linter.unusedSimpArgs false
set_option linter.unusedVariables false
set_option maxHeartbeats 8000000
set_option maxRecDepth 100000
open Go.Proofs.Try
open Go Go.Vm Go.Proofs
open S9 (z4Y z4L z4X z3p z4d)
namespace S1
structure ScF (x y:zX.T):Prop where
 edg:zRJ y=[]
 sh:nSh x=nSh y
 gen: ∀ i,i<nSh x->((zEu x).getD i (0,0,0,0,0,0)).2.2.2.2.2=((zEu y).getD i (0,0,0,0,0,0)).2.2.2.2.2/\((zEu y).getD i (0,0,0,0,0,0)).2.2.2.1=0
theorem z5F {x:zX.T} {i:Nat} (h:i<nSh x):(zEu x).getD i (0,0,0,0,0,0)=gn6 (gnT x i):=zGZ _ _ h
theorem z6q {x y:zX.T} (g:Full x) (hs:zJh x.1) (f:z5K x y):ScF x y:=by
 have c:=z7m g hs f.full f.surf f.one;have l:=z6J c;refine ⟨?_,l.1.symm,fun i hi=> ?_⟩
 ·exact List.eq_nil_iff_forall_not_mem.2 fun e he=>f.nob _ _ (zPY.1 he)
 ·have k:=z7J c hi;rw [z5F hi,z5F (by rw [l.1];exact hi)];exact ⟨k.1.symm,k.2⟩
theorem z68 {n:Int} {l:List P3} (h:zJh (n,l)) (hc: ¬ (l.length>40\/n>120)): ∃ x':zX.T,z5K (jO (n,l)) x'/\z3f (n,l)=(x'.1,apx n (zAC (jO (n,l))).length,0)/\jO (z3f (n,l)).1=x':=by
 obtain ⟨k1,k2,k3⟩:=zJm h;obtain ⟨x',f⟩:=filled (x:=jO (n,l)) k2 (by rw [k3];exact h) (by show l.length<=40;omega) (by show n<=120;omega);have e:z3f (n,l)=(x'.1,apx n (zAC (jO (n,l))).length,0):=by rw [z62 h];exact f.eq
 refine ⟨x',f,e,?_⟩;rw [e];exact (zQF f.new).1.symm
def z5j (x:zX.T):Spec Nat where
 inv i:=i<=(zEu x).length
 live i:=[(85,.s (.int .i64 i))]
 keep:=[10,11,84]
 heap _:=[]
 keepH:=[0,1,2,3]
 mu i:=(zEu x).length - i
attribute [local irreducible] zAC zRJ nSh zEu
theorem lawSL_vc (n:Int) (l:List P3) (F:Int×List P3->FoR) (hF:F=z3f) (N:Int×List P3->zX.T) (hN:N=jO):zB7 ⟨tyL,[(14,z49),(15,z47),(16,z4Y),(17,z73 F),(10,z75 N),(18,zXf),(19,zTF),(20,zSL),(21,zZ4)],[]⟩ Try.f4 [zAa.av (n,l)] (fun r=>r= .s (.bool true)):=by
 repeat' (conv=>whnf
          first|done|refine qy ?_|refine qG fun _=> ?_|refine qw (fun _=> ?_) (fun _=> ?_)|apply qt|refine qi (fun _=> ?_) (fun _=> ?_)|(refine j6 12 rfl (z5j (N (n,l))) (0) ?_ ?_ ?_ fun i hi=> ?_)|with_reducible refine jX (z5j _) (i+1) ?_ ?_ ?_ ?_|refine qu ?_|refine qv ?_ ?_|exact zT)
 all_goals try first|refine qz ?_|apply qz5
 all_goals try simp only [qn0,yC,yA,ETy.dflt,Int.reduceToNat,Int.reduceAdd,Int.reduceSub,Int.reduceNeg,Nat.reduceAdd,z5j] at *
 all_goals
  have hS:zJh (n,l):=(z3p (n,l)).1 (by unfold z4X;rw [beq_iff_eq];assumption);obtain ⟨k1,g,k3⟩:=zJm hS;obtain ⟨x',f,e1,hy⟩:=z68 hS (by assumption);subst hF hN;have ha:(z3f (n,l)).2.1=apx n (zAC (jO (n,l))).length:=by rw [e1]
  have hal:(z3f (n,l)).2.1.length=(zAC (jO (n,l))).length:=by rw [ha,z4c]
  have hg:Full (jO (z3f (n,l)).1):=by rw [hy];exact f.full
  have sc:=z6q g (by rw [k3];exact hS) f;rw [<- hy] at sc;have q1:=zWq (jO (n,l));have q2:=zWq (jO (z3f (n,l)).1);have q3:=sc.sh
 all_goals try exact jQ.intro k1
 all_goals try (refine jQ.intro ?_;rw [hy,e1];exact f.new)
 all_goals try exact jQ.intro g
 all_goals try exact jQ.intro hg
 all_goals try exact jQ.intro (fun y h=>by cases h;exact g)
 all_goals try exact jQ.intro (fun y h=>by cases h;exact hg.toGood)
 all_goals try exact absurd (congrArg (fun r=>r.2.2) e1) (by assumption)
 all_goals try exact absurd (show (((z3f (n,l)).2.1.length:Nat):Int)=(zAC (jO (n,l))).length by rw [hal]) (by assumption)
 all_goals try exact absurd (congrArg (fun k:Nat=>(k:Int)) q3) (by assumption)
 all_goals try exact absurd (show ((zRJ (jO (z3f (n,l)).1)).length:Int)=0 by rw [sc.edg];rfl) (by assumption)
 all_goals try exact absurd (show ((zEu (jO (n,l))).length:Int)=(zEu (jO (z3f (n,l)).1)).length by rw [q1,q2,q3]) (by assumption)
 all_goals try (refine jQ.intro ?_;omega)
 all_goals have k:=sc.gen i (by omega)
 ·exact absurd k.1 (by assumption)
 ·exact absurd k.2 (by assumption)
def lawSLC:List AV->Option Res:=zGM zAa (fun _=>some (none,none,.s (.bool true)))
theorem lawSLRow:zAI prog 4 lawSLC:=mkR (zBJ fun s r h=>by
 cases h
 exact fb (fn:=[(14,z49),(15,z47),(16,z4Y),(17,z73 z3f),(10,z75 jO),(18,zXf),(19,zTF),(20,zSL),(21,zZ4)]) ⟨z5W,z5S,z4L,(z7G z3f),(z79 jO),zVN,zWi,zWB,zYM,trivial⟩ func4 fun _ _=>lawSL_vc s.1 s.2 z3f rfl jO rfl) func4
end S1
