/- A part of the proofs of the laws. -/
import Derived.Test.YtbfghjbhfgbdnaaGreatW4toY5
import Derived.Test.YtbfghjbhfgbdnaaGreatT5toT22
import Derived.Test.YtbfghjbhfgbdnaaGreatFan1toW3
set_option linter.unusedSimpArgs false
set_option linter.unusedVariables false
set_option maxHeartbeats 8000000
set_option maxRecDepth 100000
open Go.Proofs.Tryz
open Go Go.Vm Go.Proofs
namespace S1
theorem z0a (x:z6.T) (a b:Int):zFS x a b=0\/zFS x a b=1\/zFS x a b=2\/zFS x a b=3\/zFS x a b=4:=by
 unfold zFS
 (repeat' split)<;>simp
theorem zPC {w:SoT} {a b:Int} (h:doE w a b=0):zDM w/\InN w.1 a/\InN w.1 b/\zFS (j8 w) a b=0/\a≠b:=by
 have hs:zDM w:=by
  apply yE;intro k;unfold doE at h;rw [if_neg (fun e=>k ((zGw w).1 e))] at h;cases h
 rw [zHm hs] at h;split at h
 case isFalse=>cases h
 rename_i hr
 have h0:zFS (j8 w) a b=0:=by
  rcases z0a (j8 w) a b with e|e|e|e|e
  ·exact e
  all_goals (rw [e] at h;exact absurd h (by decide))
 refine ⟨hs,hr.1,hr.2,h0,fun e=> ?_⟩;subst e;rw [z1J (zEe (zCO hs).2.1.toGood a)] at h0;cases h0
theorem zS4 {w s:SoT} {r:zDZ} {a b:Int} (h:doR w a b=(s,r,0)):Was w a b/\s=(w.1 - 1,drL a b w.2 w.2.length)/\r=zLV w a b/\zFS (j8 w) a b=0:=by
 have he:doE w a b=0:=by rw [<- zOj,h]
 rw [zR8 he] at h;obtain ⟨h1,h2,h3,h4,h5⟩:=zPC he;have e1:=congrArg Prod.fst h;have e2:=congrArg (fun z=>z.2.1) h;exact ⟨⟨h1,h2,h3,h5⟩,e1.symm,e2.symm,h4⟩
theorem zL2 {w s:SoT} {r:zDZ} {a b:Int} (h:doR w a b=(s,r,0)):bkR s r=(w,true)/\rbk s r=some w:=by
 obtain ⟨h1,h2,h3,_⟩:=zS4 h;subst h2 h3;exact ⟨z4P h1,z2V h1⟩
theorem zYP {w s:SoT} {r:zDZ} {a b:Int} (h:doR w a b=(s,r,0)):zDM s:=by
 obtain ⟨h1,h2,h3,h4⟩:=zS4 h;have:=zIn (zCO h1.surf).2.1 h1.surf h4;rw [h2,zIO];exact this
open Classical in
noncomputable def zD0 (s:SoT) (r:zDZ):SoT×Int:=if h: ∃ w,doR w r.1 r.2.1=(s,r,0) then (Classical.choose h,0) else ((0,[]),if isR s=true then 3 else 11)
theorem zQL {w s:SoT} {r:zDZ} (h:doR w r.1 r.2.1=(s,r,0)):zD0 s r=(w,0):=by
 have hh: ∃ w,doR w r.1 r.2.1=(s,r,0):=⟨w,h⟩;unfold zD0;rw [dif_pos hh];have k:=(zL2 (Classical.choose_spec hh)).1;rw [(zL2 h).1] at k;exact Prod.ext (congrArg (fun z=>z.1) k).symm rfl
theorem zQH {s:SoT} {r:zDZ} (h: ¬ ∃ w,doR w r.1 r.2.1=(s,r,0)):zD0 s r=((0,[]),if isR s=true then 3 else 11):=by
 unfold zD0;rw [dif_neg h]
theorem zYi {s:SoT} {r:zDZ} (h:zHO s=none):zD0 s r=((0,[]),11):=by
 have hn: ¬ isR s=true:=fun k=>by have:=(zCO ((zGw s).1 k)).1;rw [h] at this;cases this
 rw [zQH (fun ⟨w,hw⟩=>hn ((zGw s).2 (zYP hw))),if_neg hn]
theorem z0M {s:SoT} {r:zDZ} (hs:zDM s) (h: ∀ w,bkR s r=(w,true)->doR w r.1 r.2.1≠(s,r,0)):zD0 s r=((0,[]),3):=by
 rw [zQH (fun ⟨w,hw⟩=>h w (zL2 hw).1 hw),if_pos ((zGw s).2 hs)]
def bkV (r:SoT×Bool):AV:= .tup [jQ.av r.1,.s (.bool r.2)]
def bkW (s:SoT) (r:zDZ):AV:=if bkC s r/\kF (bkG r) (bkN s r)<=s.2.length/\zUs (bkN s r) r.2.2.2.2=true then bkV (bkR s r) else .tup [.agg [.int .i64 0,.val (.slice none 0 0)],.s (.bool false)]
theorem z0p {I:Sig} {s:SoT} {r:zDZ} {v:Value} (h:qD I [] (bkW s r) v):qD I [] (bkV (bkR s r)) v:=by
 unfold bkW at h;split at h
 ·exact h
 ·rename_i hn;unfold bkR;rw [if_neg hn];obtain ⟨vs,e1,h⟩:=h
  match vs,h with
  | [x,y],⟨⟨ds,ea,h1⟩,h3⟩ =>
    refine ⟨_,e1,⟨ds,ea,?_⟩,h3⟩
    match ds,h1 with
    | [d1,d2],⟨k1,k2,k3⟩=>exact ⟨k1,zK1 k2,k3⟩
def z2c (r:zDZ) (k:Nat):GoT:=z1E r.2.2.1 r.2.2.2.1 k
theorem z47 (r:zDZ):z2c r 0=[]:=rfl
theorem z4c (r:zDZ) (k:Nat):z2c r (k+1)=zAe (.int .i64) (z2c r k) (r.2.2.1.getD k 0) (r.2.2.2.1.getD k (0,0,0)):=rfl
theorem zZ7 (g:GoT) (T:List P3) (A:Int):zJ9 g T A 0=[]:=rfl
theorem zYu (g:GoT) (T:List P3) (A:Int) (i:Nat):zJ9 g T A (i+1)=zJ9 g T A i++[bkT g T A i]:=by
 unfold zJ9;rw [List.range_succ,zBZ];rfl
theorem zQs (g:GoT) (T:List P3) (A:Int) (i:Nat):(zJ9 g T A i).length=i:=by unfold zJ9;simp
theorem zPZ (A:Int) (fan:List Int) (o:List P3): ∀ j,(zRR A fan o j).length=o.length
 | 0=>rfl
 | j+1=>by
   show (zUe A (zRR A fan o j) (fan.getD j 0)).length=_;unfold zUe;rw [qY];exact zPZ A fan o j
theorem z3J (A:Int) (fan:List Int) (o:List P3) (j:Nat):zRR A fan o (j+1)=(zRR A fan o j).set ((fan.getD j 0).tdiv 3).toNat (z2k ((zRR A fan o j).getD ((fan.getD j 0).tdiv 3).toNat (0,0,0)) ((fan.getD j 0).tmod 3).toNat A):=rfl
def zS8 (r:zDZ):Spec Nat where
 inv i:=i<=r.2.2.1.length
 live i:=[(59,.s (.int .i64 i))]
 keep:=[2,3,4,5,6,7,57,58]
 heap i:=[(3,.map qX .arr3 (z2c r i))]
 keepH:=[0,1,2]
 mu i:=r.2.2.1.length - i
def zTc (n:Int) (l:List P3) (r:zDZ):Spec Nat where
 inv i:=i<=bkN (n,l) r/\kF (bkG r) i<=l.length
 live i:=[(77,.s (.int .i64 i)),(11,.s (.int .i64 (kF (bkG r) i)))]
 keep:=[2,3,4,5,6,7,10,76]
 heap i:=[(4,.flat 24 [.int .i64 (n+1),.own 5 0 (zJ9 (bkG r) l r.1 i).length]),(5,.row .arr3 68 (zJ9 (bkG r) l r.1 i))]
 keepH:=[0,1,2,3]
 mu i:=bkN (n,l) r - i
 nils:=[4]
def zSs (n:Int) (l:List P3) (r:zDZ):Spec Nat where
 inv j:=j<=r.2.2.2.2.length/\∀ k,k<j->0<=r.2.2.2.2.getD k 0/\r.2.2.2.2.getD k 0<3*(bkN (n,l) r:Int)
 live j:=[(125,.s (.int .i64 j))]
 keep:=[2,3,4,5,6,7,10,11,123,124]
 heap j:=[(5,.row .arr3 68 (zRR r.1 r.2.2.2.2 (zJ9 (bkG r) l r.1 (bkN (n,l) r)) j))]
 keepH:=[0,1,2,3,4]
 mu j:=r.2.2.2.2.length - j
theorem zV0 {n:Nat} {fan:List Int} {k:Nat} (hk:k<fan.length) (h:fan.getD k 0<0\/fan.getD k 0>=3*(n:Int)): ¬ zUs n fan=true:=fun e=>by
 unfold zUs at e;have:=zM.1 e _ (zA0 hk);rw [zB] at this;omega
theorem zXS {n:Nat} {fan:List Int} (h: ∀ k,k<fan.length->0<=fan.getD k 0/\fan.getD k 0<3*(n:Int)):zUs n fan=true:=by
 unfold zUs;rw [zM];intro c hc;obtain ⟨i,hi,e⟩:=yI.1 hc;have:=h i hi;rw [gdE,gE hi] at this;have this:0<=fan[i]/\fan[i]<3*(n:Int):=this;rw [e] at this;rw [zB];exact this
theorem zPS {s:SoT} {r:zDZ} (h: ¬ (bkC s r/\kF (bkG r) (bkN s r)<=s.2.length/\zUs (bkN s r) r.2.2.2.2=true)):bkW s r= .tup [.agg [.int .i64 0,.val (.slice none 0 0)],.s (.bool false)]:=if_neg h
theorem z1u {s:SoT} {r:zDZ} (h:bkC s r/\kF (bkG r) (bkN s r)<=s.2.length/\zUs (bkN s r) r.2.2.2.2=true):bkW s r= .tup [jQ.av (s.1+1,zRR r.1 r.2.2.2.2 (zJ9 (bkG r) s.2 r.1 (bkN s r)) r.2.2.2.2.length),.s (.bool (decide (kF (bkG r) (bkN s r)=s.2.length)))]:=by
 unfold bkW bkR;rw [if_pos h,if_pos h];rfl
theorem zZ3 {g:GoT} {j:Nat} (h:(zAR (.int .i64) g (j:Int)).isSome=true):kF g (j+1)=kF g j:=by rw [z4h,if_pos h]
theorem zOO {g:GoT} {j:Nat} (h:(zAR (.int .i64) g (j:Int)).isSome=false):kF g (j+1)=kF g j+1:=by rw [z4h,if_neg (by rw [h];simp)]
theorem zPU {g:GoT} {T:List P3} {A:Int} {j:Nat} (h:(zAR (.int .i64) g (j:Int)).isSome=true):zJ9 g T A (j+1)=zJ9 g T A j++[(zAR (.int .i64) g (j:Int)).getD (0,0,0)]:=by
 rw [zYu];unfold bkT;cases e:zAR (.int .i64) g (j:Int) with
 | none=>rw [e] at h;cases h
 | some t=>rfl
theorem zML {g:GoT} {T:List P3} {A:Int} {j:Nat} (h:(zAR (.int .i64) g (j:Int)).isSome=false):zJ9 g T A (j+1)=zJ9 g T A j++[(upV A (T.getD (kF g j) (0,0,0)).1,upV A (T.getD (kF g j) (0,0,0)).2.1,upV A (T.getD (kF g j) (0,0,0)).2.2)]:=by
 rw [zYu];unfold bkT;cases e:zAR (.int .i64) g (j:Int) with
 | none=>rfl
 | some t=>rw [e] at h;cases h
theorem zVl {A v:Int} (h:v>=A):upV A v=v+1:=if_pos h
theorem zWP {A v:Int} (h: ¬ v>=A):upV A v=v:=if_neg h
theorem zS2 {n:Int} {l:List P3} {A B:Int} {at_:List Int} {ts:List P3} {fan:List Int} :bkC (n,l) (A,B,at_,ts,fan)↔at_.length=ts.length/\0<=A/\A<=n/\n<4096/\l.length+at_.length<=8192:=Iff.rfl
theorem z3c (A:Int) (fan:List Int) (o:List P3):zRR A fan o 0=o:=rfl
theorem z6N (g:GoT):kF g 0=0:=rfl
theorem z44 (A B:Int) (at_:List Int) (ts:List P3) (fan:List Int):z2c (A,B,at_,ts,fan) at_.length=bkG (A,B,at_,ts,fan):=rfl
attribute [local irreducible] bkW z2c kF zJ9 zRR bkG
theorem z0A {fn} (n:Int) (l:List P3) (A B:Int) (at_:List Int) (ts:List P3) (fan:List Int) (hs:zDM (n,l)):zAk ⟨tyL,fn,[]⟩ f79 [jQ.av (n,l),zSF.av (A,B,at_,ts,fan)] (fun r=>r=bkW (n,l) (A,B,at_,ts,fan)):=by
 have hf:=hs.fit;have hn:0<=n/\n<=4096:=⟨hf.1,hf.2.1⟩;have hl:l.length<=8192:=hf.2.2.1
 repeat' (conv=>whnf
          first|done|refine qy ?_|refine qG fun _=> ?_|refine qw (fun _=> ?_) (fun _=> ?_)|apply qt|refine qi (fun _=> ?_) (fun _=> ?_)|(refine jS 6 rfl (zS8 (A,B,at_,ts,fan)) (0) ?_ ?_ ?_ fun i hi=> ?_)|with_reducible refine jK (zS8 _) (i+1) ?_ ?_ ?_ ?_|(refine zJa 13 rfl ?_;refine Or.inr (yM (Nat) (yM (zTc n l (A,B,at_,ts,fan)) (yA (yM (0) (yA (zA9.out ?_) (yA ?_ (yA ?_ rfl)))) (fun j hj=> ?_)))))|with_reducible refine jK (zTc _ _ _) (j+1) ?_ ?_ ?_ ?_|(refine zJa 20 rfl ?_;refine Or.inl (yM (4) ?_))|(refine jS 30 rfl (zSs n l (A,B,at_,ts,fan)) (0) ?_ ?_ ?_ fun k hk=> ?_)|with_reducible refine jK (zSs _ _ _) (k+1) ?_ ?_ ?_ ?_|refine qu ?_|refine qv ?_ ?_|exact zL)
 all_goals try first|refine qz ?_|apply qz5
 all_goals try simp only [qn0,zY,zX,ETy.dflt,Int.reduceToNat,Int.reduceAdd,Int.reduceSub,Int.reduceNeg,Nat.reduceAdd,zS8,zTc,zSs] at *
 all_goals have eN:bkN (n,l) (A,B,at_,ts,fan)=l.length+at_.length:=rfl
 all_goals try exact jE.intro (zPS (fun k=>by have c:=zS2.1 k.1;omega)).symm
 all_goals try exact z47 _
 all_goals try exact z4c _ _
 all_goals try exact zZ7 _ _ _
 all_goals try exact z3J _ _ _ _
 all_goals try (rw [z6N];rfl)
 all_goals try (rw [zZ7];exact zAF.intro rfl)
 all_goals try (refine qh ?_;omega)
 all_goals try (rw [z6N];exact qh ⟨y7 _,y7 _⟩)
 all_goals have ei:i=at_.length:=by omega
 all_goals subst ei
 all_goals try simp only [z44] at *
 all_goals have eO:(zJ9 (bkG (A,B,at_,ts,fan)) l A j).length=j:=zQs _ _ _ _
 all_goals have hj1:=hj.1
 all_goals rw [eN] at hj1
 all_goals have hj2:=hj.2
 all_goals try (refine qh ?_;rw [eO];omega)
 all_goals try (refine qh ?_;unfold zAZ;omega)
 all_goals try
  have hit:(zAR (.int .i64) (bkG (A,B,at_,ts,fan)) (j:Int)).isSome=true:=by assumption
  first
  | (rw [zZ3 hit];refine zA9.intro (yA ?_ ?_)<;>omega)
  | (rw [zZ3 hit];done)
  | exact zPU hit
  | (rw [zPU hit];exact zAF.intro (by rw [zO];rfl))
 all_goals try
  have miss:(zAR (.int .i64) (bkG (A,B,at_,ts,fan)) (j:Int)).isSome=false:=by assumption
  have e1:((kF (bkG (A,B,at_,ts,fan)) j:Nat):Int)=(l.length:Int):=by assumption
  refine jE.intro (zPS (fun k=> ?_)).symm;have k2:kF (bkG (A,B,at_,ts,fan)) (bkN (n,l) (A,B,at_,ts,fan))<=l.length:=k.2.1;have k3:=zVc (bkG (A,B,at_,ts,fan)) (i:=j+1) (j:=bkN (n,l) (A,B,at_,ts,fan)) (by omega);rw [zOO miss] at k3;omega
 all_goals try
  have miss:(zAR (.int .i64) (bkG (A,B,at_,ts,fan)) (j:Int)).isSome=false:=by assumption
  have e1:((kF (bkG (A,B,at_,ts,fan)) j:Nat):Int)≠(l.length:Int):=by assumption
  have hk:kF (bkG (A,B,at_,ts,fan)) j<l.length:=by omega
  have ht:(0<=(l.getD (kF (bkG (A,B,at_,ts,fan)) j) (0,0,0)).1/\(l.getD (kF (bkG (A,B,at_,ts,fan)) j) (0,0,0)).1<n)/\(0<=(l.getD (kF (bkG (A,B,at_,ts,fan)) j) (0,0,0)).2.1/\(l.getD (kF (bkG (A,B,at_,ts,fan)) j) (0,0,0)).2.1<n)/\(0<=(l.getD (kF (bkG (A,B,at_,ts,fan)) j) (0,0,0)).2.2/\(l.getD (kF (bkG (A,B,at_,ts,fan)) j) (0,0,0)).2.2<n):=zAv (hf.2.2.2 _ hk)
  first
  | (rw [zOO miss];refine zA9.intro (yA ?_ ?_)<;>omega)
  | (refine zA9.intro (yA ?_ ?_)<;>omega)
  | (refine qh ?_;unfold zAZ;omega)
  | (rw [zOO miss];exact Int.natCast_add _ _)
  | (rw [zML miss];exact zAF.intro (by rw [zO];rfl))
  | (rw [zML miss]
     first|rw [zVl (v:=(l.getD (kF (bkG (A,B,at_,ts,fan)) j) (0,0,0)).1) (by assumption)]|rw [zWP (v:=(l.getD (kF (bkG (A,B,at_,ts,fan)) j) (0,0,0)).1) (by assumption)]
     first|rw [zVl (v:=(l.getD (kF (bkG (A,B,at_,ts,fan)) j) (0,0,0)).2.1) (by assumption)]|rw [zWP (v:=(l.getD (kF (bkG (A,B,at_,ts,fan)) j) (0,0,0)).2.1) (by assumption)]
     first|rw [zVl (v:=(l.getD (kF (bkG (A,B,at_,ts,fan)) j) (0,0,0)).2.2) (by assumption)]|rw [zWP (v:=(l.getD (kF (bkG (A,B,at_,ts,fan)) j) (0,0,0)).2.2) (by assumption)]
     rfl)
 all_goals have ej:j=l.length+at_.length:=by omega
 all_goals subst ej
 all_goals try exact z3c _ _ _
 all_goals try (refine zA9.intro (yA (y7 _) ?_);intro k hk;omega)
 all_goals have hk2:=hk.2
 all_goals try
  have hkl:(k:Int)<fan.length:=by assumption
  have hkl:k<fan.length:=by omega
  first
  | exact jE.intro (zPS (fun q=>zV0 hkl (.inl (by assumption)) q.2.2)).symm
  | (have hge:fan.getD k 0>=3*((bkN (n,l) (A,B,at_,ts,fan):Nat):Int):=by rw [eN];omega
     exact jE.intro (zPS (fun q=>zV0 hkl (.inr hge) q.2.2)).symm)
 all_goals try
  have h0: ¬ fan.getD k 0<0:=by assumption
  have e3:(fan.getD k 0).tdiv 3=fan.getD k 0 / 3:=Int.tdiv_eq_ediv_of_nonneg (by omega);have e4:(fan.getD k 0).tmod 3=fan.getD k 0 % 3:=Int.tmod_eq_emod_of_nonneg (by omega);rw [eN] at hk2
  first
  | (rw [e3];refine zA9.intro (yA (by decide) ?_);unfold zAZ;omega)
  | (rw [e3];refine zA9.intro (yA ?_ ?_)<;>omega)
  | (rw [e4];refine zA9.intro (yA ?_ ?_)<;>omega)
  | (rw [eN]
     refine zA9.intro (yA ?_ ?_)
     ·omega
     ·intro q hq
      by_cases e:q=k
      ·subst e;omega
      ·have:=hk2 q (by omega);omega)
 all_goals
  have ek:k=fan.length:=by omega
  subst ek;have hC:bkC (n,l) (A,B,at_,ts,fan):=zS2.2 (by omega);have hF:zUs (bkN (n,l) (A,B,at_,ts,fan)) fan=true:=zXS hk2;refine jE.intro ?_;rw [z1u ⟨hC,by rw [eN];exact hj2,hF⟩];rw [jJ,q9 (by rw [zPZ,zQs];rw [eO];exact zH _)]
  have e5:((kF (bkG (A,B,at_,ts,fan)) (l.length+at_.length):Int)==(l.length:Int))=decide (kF (bkG (A,B,at_,ts,fan)) (bkN (n,l) (A,B,at_,ts,fan))=l.length):=by
   rw [Bool.eq_iff_iff,beq_iff_eq,zB,eN];omega
  rw [e5];rfl
def backC:List AV->Option Res:=zFm jQ zSF (fun s r=>some (none,some (zDM s),bkV (bkR s r)))
theorem zUp:jN prog 79 backC:=mkR (zA4 fun s r q h=>by
 cases h
 exact zDY.res (fb (fn:=[]) trivial func79 fun _ h=>z0A s.1 s.2 r.1 r.2.1 r.2.2.1 r.2.2.2.1 r.2.2.2.2 h) fun I v h=>z0p h) func79
end S1
namespace S1
theorem zYj (a b:Int) (l m:List P3):zAk ⟨tyL,[(87,zPx)],[]⟩ f55 [jQ.av (a,l),jQ.av (b,m)] (fun r=>r= .s (.bool (eqS (a,l) (b,m)))):=by
 repeat' (conv=>whnf
          first|done|refine qy ?_|refine qG fun _=> ?_|refine qw (fun _=> ?_) (fun _=> ?_)|apply qt|refine qi (fun _=> ?_) (fun _=> ?_)|refine qu ?_|refine qv ?_ ?_|exact zL)
 all_goals try first|refine qz ?_|apply qz5
 all_goals try simp only [qn0,zY,zX,ETy.dflt,Int.reduceToNat,Int.reduceAdd,Int.reduceSub,Int.reduceNeg,Nat.reduceAdd,eqS,eqR] at *
 ·rename_i h;subst h;rw [decide_eq_decide];exact ⟨fun e=>by rw [e],fun e=>congrArg Prod.snd e⟩
 ·rename_i h;symm;rw [yX];exact fun e=>h (congrArg Prod.fst e)
def zMz:List AV->Option Res:=zFm jQ jQ (fun a b=>some (none,none,.s (.bool (eqS a b))))
theorem zPu:jN prog 55 zMz:=mkR (zA4 fun a b r h=>by cases h;exact fb (by exact ⟨zRA,trivial⟩) func55 fun _ _=>zYj a.1 b.1 a.2 b.2) func55
def zFh (a b:zDZ):Bool:=decide (a.1=b.1)&&(decide (a.2.1=b.2.1)&&(eqL a.2.2.1 b.2.2.1&&(eqR a.2.2.2.1 b.2.2.2.1&&eqL a.2.2.2.2 b.2.2.2.2)))
theorem zFj {a b:zDZ} :zFh a b=true↔a=b:=by
 unfold zFh eqL eqR;simp only [zA,zB];exact ⟨fun ⟨h1,h2,h3,h4,h5⟩=>Prod.ext h1 (Prod.ext h2 (Prod.ext h3 (Prod.ext h4 h5))),fun h=>by subst h;exact ⟨rfl,rfl,rfl,rfl,rfl⟩⟩
theorem zXh (a1 b1 a2 b2:Int) (t1 f1 t2 f2:List Int) (r1 r2:List P3):zAk ⟨tyL,[(87,zPx),(114,zOV)],[]⟩ f80 [zSF.av (a1,b1,t1,r1,f1),zSF.av (a2,b2,t2,r2,f2)] (fun r=>r= .s (.bool (zFh (a1,b1,t1,r1,f1) (a2,b2,t2,r2,f2)))):=by
 repeat' (conv=>whnf
          first|done|refine qy ?_|refine qG fun _=> ?_|refine qw (fun _=> ?_) (fun _=> ?_)|apply qt|refine qi (fun _=> ?_) (fun _=> ?_)|refine qu ?_|refine qv ?_ ?_|exact zL)
 all_goals try first|refine qz ?_|apply qz5
 all_goals try simp only [qn0,zY,zX,ETy.dflt,Int.reduceToNat,Int.reduceAdd,Int.reduceSub,Int.reduceNeg,Nat.reduceAdd] at *
 all_goals
  rw [Bool.eq_iff_iff,zFj]
  try unfold eqL
  simp only [zB,yX,zBC,Bool.false_eq_true,false_iff] at *;simp [*]
def zN1:List AV->Option Res:=zFm zSF zSF (fun a b=>some (none,none,.s (.bool (zFh a b))))
theorem zQp:jN prog 80 zN1:=mkR (zA4 fun a b r h=>by
 cases h;exact fb (fn:=[(87,zPx),(114,zOV)]) ⟨zRA,zSp,trivial⟩ func80 fun _ _=>zXh a.1 a.2.1 b.1 b.2.1 a.2.2.1 a.2.2.2.2 b.2.2.1 b.2.2.2.2 a.2.2.2.1 b.2.2.2.1) func80
def zYn (r:SoT×Int):AV:= .tup [jQ.av r.1,.s (.int .i64 r.2)]
def zMW (r:SoT×Int):AV:=if r.2=0 then zYn r else .tup [.agg [.int .i64 0,.val (.slice none 0 0)],.s (.int .i64 r.2)]
theorem zXy (s:SoT) (r:zDZ) (h:(zD0 s r).2≠0):(zD0 s r).1=(0,[]):=by
 unfold zD0 at *;split
 ·rename_i hh;rw [dif_pos hh] at h;exact absurd rfl h
 ·rfl
theorem zNQ {I:Sig} {s:SoT} {r:zDZ} {v:Value} (h:qD I [] (zMW (zD0 s r)) v):qD I [] (zYn (zD0 s r)) v:=by
 unfold zMW at h;split at h
 ·exact h
 ·rename_i hn;have e:=zXy s r hn;obtain ⟨vs,e1,h⟩:=h;unfold zYn;rw [e]
  match vs,h with
  | [x,y],⟨⟨ds,ea,h1⟩,h3⟩ =>
    refine ⟨_,e1,⟨ds,ea,?_⟩,h3⟩
    match ds,h1 with
    | [d1,d2],⟨k1,k2,k3⟩=>exact ⟨k1,zK1 k2,k3⟩
theorem z0O {s:SoT} {r:zDZ} (hs:zDM s) (h: ∀ w,bkR s r=(w,true)->doR w r.1 r.2.1≠(s,r,0)):zMW (zD0 s r)= .tup [.agg [.int .i64 0,.val (.slice none 0 0)],.s (.int .i64 3)]:=by
 rw [z0M hs h];rfl
theorem zXz {s:SoT} {r:zDZ} (h:zHO s=none):zMW (zD0 s r)= .tup [.agg [.int .i64 0,.val (.slice none 0 0)],.s (.int .i64 11)]:=by
 rw [zYi h];rfl
theorem z0b {s w:SoT} {r:zDZ} (h:doR w r.1 r.2.1=(s,r,0)):zMW (zD0 s r)= .tup [jQ.av w,.s (.int .i64 0)]:=by
 rw [zQL h];rfl
theorem zWR {a b:SoT} :eqS a b=true↔a=b:=by unfold eqS;exact decide_eq_true_iff
theorem zPa (a:SoT):eqS a a=true:=zWR.2 rfl
theorem zNa (a:zDZ):zFh a a=true:=zFj.2 rfl
attribute [local irreducible] zMW bkR doR eqS zFh zDp
theorem zYH (n:Int) (l:List P3) (A B:Int) (at_:List Int) (ts:List P3) (fan:List Int) (x:z6.T) (hx:zHO (n,l)=some x):zAk ⟨tyL,[(21,zTG x),(48,zL8),(79,backC),(16,zTE),(55,zMz),(80,zN1)],[]⟩ Tryz.f46 [jQ.av (n,l),zSF.av (A,B,at_,ts,fan)] (fun v=>v=zMW (zD0 (n,l) (A,B,at_,ts,fan))):=by
 obtain ⟨e0,g,hs⟩:=zQB hx
 repeat' (conv=>whnf
          first|done|refine qy ?_|refine qG fun _=> ?_|refine qw (fun _=> ?_) (fun _=> ?_)|apply qt|refine qi (fun _=> ?_) (fun _=> ?_)|refine qu ?_|refine qv ?_ ?_|exact zL)
 all_goals try first|refine qz ?_|apply qz5
 all_goals try simp only [qn0,zY,zX,ETy.dflt,Int.reduceToNat,Int.reduceAdd,Int.reduceSub,Int.reduceNeg,Nat.reduceAdd] at *
 all_goals try exact absurd (zN9 hs) (by rw [show zDp (n,l)=false by assumption];decide)
 all_goals try
  refine jE.intro (z0O hs (fun w hw hd=> ?_)).symm;have hd:doR w A B=((n,l),(A,B,at_,ts,fan),0):=hd;simp only [hw,hd,zPa,zNa,ne_eq,not_true_eq_false,Bool.true_eq_false,reduceCtorEq] at *
  done
 all_goals
  have h3:(doR (bkR (n,l) (A,B,at_,ts,fan)).1 A B).2.2=0:=by assumption
  have h1:eqS (doR (bkR (n,l) (A,B,at_,ts,fan)).1 A B).1 (n,l)=true:=by assumption
  have h2:zFh (doR (bkR (n,l) (A,B,at_,ts,fan)).1 A B).2.1 (A,B,at_,ts,fan)=true:=by assumption
  have h:doR (bkR (n,l) (A,B,at_,ts,fan)).1 A B=((n,l),(A,B,at_,ts,fan),0):=Prod.ext (zWR.1 h1) (Prod.ext (zFj.1 h2) h3);exact jE.intro (z0b h).symm
theorem zVh (n:Int) (l:List P3) (r:zDZ) (hx:zHO (n,l)=none):zAk ⟨tyL,[(21,zWY),(48,zL8),(79,backC),(16,zTE),(55,zMz),(80,zN1)],[]⟩ Tryz.f46 [jQ.av (n,l),zSF.av r] (fun v=>v=zMW (zD0 (n,l) r)):=by
 have e:=zXz (r:=r) hx
 repeat' (conv=>whnf
          first|done|refine qy ?_|refine qG fun _=> ?_|refine qw (fun _=> ?_) (fun _=> ?_)|apply qt|refine qi (fun _=> ?_) (fun _=> ?_)|refine qu ?_|refine qv ?_ ?_|exact zL)
 all_goals try first|refine qz ?_|apply qz5
 all_goals try simp only [qn0,zY,zX,ETy.dflt,Int.reduceToNat,Int.reduceAdd,Int.reduceSub,Int.reduceNeg,Nat.reduceAdd] at *
 all_goals try exact qh hx
 all_goals exact jE.intro e.symm
noncomputable def zS7:List AV->Option Res:=zFm jQ zSF (fun s r=>some (none,none,zYn (zD0 s r)))
theorem zY1:jN prog 46 zS7:=mkR (zA4 fun s r q h=>by
 cases h;cases e:zHO s with
 | none=>exact zDY.res (fb (fn:=[(21,zWY),(48,zL8),(79,backC),(16,zTE),(55,zMz),(80,zN1)]) ⟨zTv,zLI,zUp,zMa,zPu,zQp,trivial⟩ func46 fun _ _=>zVh s.1 s.2 r e) fun I v h=>zNQ h
 | some x=>exact zDY.res (fb (fn:=[(21,zTG x),(48,zL8),(79,backC),(16,zTE),(55,zMz),(80,zN1)]) ⟨(zSQ x),zLI,zUp,zMa,zPu,zQp,trivial⟩ func46 fun _ _=>zYH s.1 s.2 r.1 r.2.1 r.2.2.1 r.2.2.2.1 r.2.2.2.2 x e) fun I v h=>zNQ h) func46
end S1
namespace S1
def z9Q (v:Int):List (Int×Int)->Int
 | []=> -1
 | e::r=>if e.2=v then e.1 else z9Q v r
def zbo (x:z6.T) (v:Int):Int:=z9Q v (zSB x)
def zad (L:List (Int×Int)) (v:Int):Spec Nat where
 inv k:=k<=L.length/\z9Q v L=z9Q v (L.drop k)
 live k:=[(10,.s (.int .i64 k))]
 keep:=[1,8,9]
 heap _:=[]
 keepH:=[]
 mu k:=L.length - k
theorem z8G {l:List (Int×Int)} {x:Nat} (h:x<l.length):l.drop x=l.getD x (0,0)::l.drop (x+1):=by
 rw [List.drop_eq_getElem_cons h,gdE,gE h];rfl
attribute [local irreducible] zSB z9Q
theorem zaQ (x:z6.T) (v:Int) (g:Good x):zAk ⟨tyL,[(74,zZ4)],[]⟩ f41 [(ETy.pt z6).av (some x),qX.av v] (fun r=>r= .s (.int .i64 (zbo x v))):=by
 repeat' (conv=>whnf
          first|done|refine qy ?_|refine qG fun _=> ?_|refine qw (fun _=> ?_) (fun _=> ?_)|apply qt|refine qi (fun _=> ?_) (fun _=> ?_)|(refine jS 2 rfl (zad (zSB x) v) (0) ?_ ?_ ?_ fun k hk=> ?_)|with_reducible refine jK (zad _ _) (k+1) ?_ ?_ ?_ ?_|refine qu ?_|refine qv ?_ ?_|exact zL)
 all_goals try first|refine qz ?_|apply qz5
 all_goals try simp only [qn0,zY,zX,ETy.dflt,Int.reduceToNat,Int.reduceAdd,Int.reduceSub,Int.reduceNeg,Nat.reduceAdd,zad,zbo] at *
 ·exact qh (fun y h=>by cases h;exact g)
 ·exact qh ⟨y7 _,by rw [jJ]⟩
 all_goals try have hk1:k<(zSB x).length:=Int.ofNat_lt.1 (by assumption)
 ·have h:((zSB x).getD k (0,0)).2=v:=by assumption
  rw [hk.2,z8G hk1];unfold z9Q;rw [if_pos h];rfl
 ·have h:((zSB x).getD k (0,0)).2≠v:=by assumption
  refine zA9.intro ⟨hk1,?_⟩;rw [hk.2,z8G hk1];conv=>lhs;unfold z9Q
  rw [if_neg h]
 ·refine qh ?_;omega
 ·have h: ¬ (k:Int)<(zSB x).length:=by assumption
  rw [hk.2,y9 (by omega)];unfold z9Q;rfl
theorem z9N (v:Int):zAk ⟨tyL,[(74,zZ4)],[]⟩ f41 [(ETy.pt z6).av none,qX.av v] (fun r=>r= .s (.int .i64 (-1))):=by
 repeat' (conv=>whnf
          first|done|refine qy ?_|refine qG fun _=> ?_|refine qw (fun _=> ?_) (fun _=> ?_)|apply qt|refine qi (fun _=> ?_) (fun _=> ?_)|(refine zJa 2 rfl ?_;refine Or.inl (yM (1) ?_))|refine qu ?_|refine qv ?_ ?_|exact zL)
 all_goals try first|refine qz ?_|apply qz5
 all_goals try simp only [qn0,zY,zX,ETy.dflt,Int.reduceToNat,Int.reduceAdd,Int.reduceSub,Int.reduceNeg,Nat.reduceAdd] at *
 all_goals try exact qh (fun y h=>by cases h)
 all_goals try rfl
 all_goals exact absurd (show (0:Int)<(0:Nat) by assumption) (by decide)
def zaH:List AV->Option Res:=zFm (.pt z6) qX (fun o v=>some (none,some (∀ x,o=some x->Good x),.s (.int .i64 (match o with|some x=>zbo x v|none=> -1))))
theorem zaD:jN prog 41 zaH:=mkR (zA4 fun o v r h=>by
 cases h;cases o with
 | none=>exact fb (fn:=[(74,zZ4)]) ⟨zY9,trivial⟩ func41 fun _ _=>z9N v
 | some x=>exact fb (fn:=[(74,zZ4)]) ⟨zY9,trivial⟩ func41 fun _ h=>zaQ x v (h x rfl)) func41
def z6f:List zDZ->Int->Int
 | [],v=>v
 | r::l,v=>if zS0 v r.1 r.2.1<0 then -1 else z6f l (zS0 v r.1 r.2.1)
def z8Y:zDZ:=(0,0,[],[],[])
def nwK (R:List zDZ) (v:Int):Nat->Int
 | 0=>v
 | k+1=>zS0 (nwK R v k) (R.getD k z8Y).1 (R.getD k z8Y).2.1
theorem z8I {l:List zDZ} {x:Nat} (h:x<l.length):l.drop x=l.getD x z8Y::l.drop (x+1):=by
 rw [List.drop_eq_getElem_cons h,gdE,gE h];rfl
theorem z8N {R:List zDZ} {k:Nat} (h:k<R.length):R.getD k z8Y∈R:=by
 rw [gdE,gE h];exact qF h
theorem zcV {v a b:Int} (hv:v<=1000000) (hb:b<=1000000):zS0 v a b<=1000000:=by
 unfold zS0
 (repeat' split)<;>omega
def okR (R:List zDZ):Prop:= ∀ r∈R,-1000000<=r.2.1/\r.2.1<=1000000
def zaM (R:List zDZ) (v:Int):Spec Nat where
 inv k:=k<=R.length/\z6f R v=z6f (R.drop k) (nwK R v k)/\(-1000000<=nwK R v k/\nwK R v k<=1000000)
 live k:=[(0,.s (.int .i64 (nwK R v k))),(9,.s (.int .i64 k))]
 keep:=[7,8]
 heap _:=[]
 keepH:=[]
 mu k:=R.length - k
attribute [local irreducible] zS0 z6f nwK
theorem zc9 (R:List zDZ) (v:Int) (hR:okR R) (hv: -1000000<=v/\v<=1000000):zAk ⟨tyL,[(53,zUG)],[]⟩ f43 [qX.av v,(ETy.sl zSF).av R] (fun r=>r= .s (.int .i64 (z6f R v))):=by
 repeat' (conv=>whnf
          first|done|refine qy ?_|refine qG fun _=> ?_|refine qw (fun _=> ?_) (fun _=> ?_)|apply qt|refine qi (fun _=> ?_) (fun _=> ?_)|(refine jS 2 rfl (zaM R v) (0) ?_ ?_ ?_ fun k hk=> ?_)|with_reducible refine jK (zaM _ _) (k+1) ?_ ?_ ?_ ?_|refine qu ?_|refine qv ?_ ?_|exact zL)
 all_goals try first|refine qz ?_|apply qz5
 all_goals try simp only [qn0,zY,zX,ETy.dflt,Int.reduceToNat,Int.reduceAdd,Int.reduceSub,Int.reduceNeg,Nat.reduceAdd,zaM] at *
 ·refine zA9.intro ⟨y7 _,by rw [jJ];unfold nwK;rfl,?_⟩;unfold nwK;exact hv
 ·unfold nwK;rfl
 all_goals try have hk1:k<R.length:=Int.ofNat_lt.1 (by assumption)
 ·exact qh ⟨hk.2.2,hR _ (z8N hk1)⟩
 ·have h:zS0 (nwK R v k) (R.getD k z8Y).1 (R.getD k z8Y).2.1<0:=by assumption
  rw [hk.2.1,z8I hk1];unfold z6f;rw [if_pos h]
 ·have h: ¬ zS0 (nwK R v k) (R.getD k z8Y).1 (R.getD k z8Y).2.1<0:=by assumption
  have e:nwK R v (k+1)=zS0 (nwK R v k) (R.getD k z8Y).1 (R.getD k z8Y).2.1:=by conv=>lhs;unfold nwK
  have hb:=zcV (a:=(R.getD k z8Y).1) hk.2.2.2 (hR _ (z8N hk1)).2;refine zA9.intro ⟨hk1,?_,by rw [e];exact ⟨by omega,hb⟩⟩;rw [hk.2.1,z8I hk1,e];conv=>lhs;unfold z6f
  rw [if_neg h]
 ·conv=>lhs;unfold nwK
  rfl
 ·refine qh ?_;omega
 ·have h: ¬ (k:Int)<R.length:=by assumption
  rw [hk.2.1,y9 (by omega)];unfold z6f;rfl
def zd0:List AV->Option Res:=zFm qX (.sl zSF) (fun (v:Int) (R:List zDZ)=>some (none,some ((-1000000<=v/\v<=1000000)/\okR R),.s (.int .i64 (z6f R v))))
theorem zck:jN prog 43 zd0:=mkR (zA4 fun v R r h=>by
 cases h;exact fb (fn:=[(53,zUG)]) ⟨zTi,trivial⟩ func43 fun _ h=>zc9 R v h.2 h.1) func43
end S1
namespace S1
def ofV (m:NxM) (i:Int) (L:List Int):NxM:=L.foldl (fun m v=>zAe (.int .i64) m v i) m
def ofK (Ls:List (List Int)):Nat->NxM
 | 0=>[]
 | i+1=>ofV (ofK Ls i) i (Ls.getD i [])
def lfK (Ls:List (List Int)) (i:Nat):List Int:=(Ls.take i).map fun L=>(L.length:Int) - 3
theorem z93: ∀ (L:List Int) (m:NxM) (i u:Int),zAR qX (ofV m i L) u=if u∈L then some i else zAR qX m u
 | [],m,i,u=>by rw [if_neg (by simp)];rfl
 | a ::r,m,i,u=>by
   show zAR qX (ofV (zAe qX m a i) i r) u=_;rw [z93 r]
   by_cases h:u∈r
   ·rw [if_pos h,if_pos (zN _ h)]
   ·rw [if_neg h]
    by_cases e:a=u
    ·subst e;rw [zAt,if_pos (zR ..)]
    ·rw [zBM _ e,if_neg];intro k;rcases zS.1 k with k|k
     ·exact e k.symm
     ·exact h k
theorem z7y {Ls:List (List Int)} (hn:Ls.flatten.Nodup) {i:Nat} {u:Int} (hu:u∈Ls.getD i []): ∀ k,i<k->k<=Ls.length->zAR qX (ofK Ls k) u=some (i:Int)
 | 0,h,_=>absurd h (Nat.not_lt_zero _)
 | k +1,h,hk=>by
   show zAR qX (ofV (ofK Ls k) k (Ls.getD k [])) u=_;rw [z93]
   by_cases e:i=k
   ·subst e;rw [if_pos hu]
   ·rw [if_neg,z7y hn hu k (by omega) (by omega)];intro hk2
    -- u lies in two loops
    have hi:i<Ls.length:=by omega
    have hkl:k<Ls.length:=by omega
    have gi:Ls.getD i []=Ls[i]:=by rw [gdE,gE hi];rfl
    have gk:Ls.getD k []=Ls[k]:=by rw [gdE,gE hkl];rfl
    rw [gi] at hu;rw [gk] at hk2;have hp:=flat_pair hn;have:=List.pairwise_iff_getElem.1 hp;rcases Nat.lt_or_gt_of_ne e with q|q
    ·exact this i k hi hkl q u hu hk2
    ·exact this k i hkl hi q u hk2 hu
where
 flat_pair: ∀ {Ls:List (List Int)},Ls.flatten.Nodup->Ls.Pairwise (fun a b=> ∀ x∈a,x∉b)
  | [],_=>List.Pairwise.nil
  | a::r,hn=>by
    rw [List.flatten_cons,List.nodup_append] at hn;exact List.pairwise_cons.2 ⟨fun b hb x hx hxb=>hn.2.2 x hx x (List.mem_flatten.2 ⟨b,hb,hxb⟩) rfl,flat_pair hn.2.1⟩
open Classical in
noncomputable def zc8 (x:z6.T) (C:List (Int×Int)) (i:Nat):Nat:=(C.filter fun c=>decide (z7T x c/\c.1∈(zAH x).getD i [])).length
structure z6y (x:z6.T) (l:List (Int×Int)) (k:Nat) (u:ReM) (f:List Int):Prop where
 used: ∀ n,had u n=true↔∃ c∈chK x l k,z7M x c n
 len:f.length=(zAH x).length
 left: ∀ i,i<(zAH x).length->f.getD i 0=((zAH x).getD i []).length - 3 - (zc8 x (chK x l k) i:Int)
theorem zbi {x:z6.T} (g:Full x) {w u:Int} (h:bE x w u):zbo x u=w:=by
 have key: ∀ l:List (Int×Int),(∀ e∈l,bE x e.1 e.2)->(w,u)∈l->z9Q u l=w:=fun l=>by
  induction l with
  | nil=>intro _ k;cases k
  | cons e r ih =>
    intro ha k;unfold z9Q;split
    ·rename_i h2;have:=ha e (zR ..);rw [h2] at this;exact zNw g this h
    ·rename_i h2;refine ih (fun e he=>ha e (zN _ he)) ((zS.1 k).resolve_left fun q=>h2 ?_);rw [<- q]
 exact key _ (fun e he=>zQO.1 he) (zQO.2 h)
theorem zbu {x:z6.T} {w u:Int} (h:zbo x u=w) (hw:0<=w):bE x w u:=by
 have key: ∀ l:List (Int×Int),(∀ e∈l,bE x e.1 e.2)->z9Q u l=w->bE x w u:=fun l=>by
  induction l with
  | nil=>intro _ k;have:(-1:Int)=w:=k;omega
  | cons e r ih =>
    intro ha k;unfold z9Q at k;split at k
    ·rename_i h2;have:=ha e (zR ..);rw [h2,k] at this;exact this
    ·exact ih (fun e he=>ha e (zN _ he)) k
 exact key _ (fun e he=>zQO.1 he) h
section
variable {x:z6.T} {l:List (Int×Int)} {k:Nat} {u:ReM} {f:List Int}
theorem zcT:z6y x l 0 [] (lfK (zAH x) (zAH x).length):=by
 refine ⟨fun n=>⟨fun h=>(by cases h),fun ⟨c,h,_⟩=>(by cases h)⟩,?_,fun i hi=> ?_⟩
 ·unfold lfK;rw [jF,qI]
 ·unfold lfK;rw [qI,gdE,j0,gE hi,gdE,gE hi];have e0:zc8 x (chK x l 0) i=0:=rfl;rw [e0];simp
theorem zdX (h:z6y x l k u f) (c: ¬ okE x (chK x l k) (l.getD k (0,0))=true):z6y x l (k+1) u f:=by
 have e:=zbE c;exact ⟨by rw [e];exact h.used,h.len,by rw [e];exact h.left⟩
theorem zcC (g:Full x) (hs:j5 (InN x.1.1) x.1.2) (h:z6y x l k u f) (hw:zFS x (l.getD k (0,0)).1 (l.getD k (0,0)).2=0) (hu: ∀ p∈z6m x (l.getD k (0,0)),had u p.1=false):okE x (chK x l k) (l.getD k (0,0))=true:=by
 refine (z7Q g hs).2 ⟨(zYy g hs).1 hw,fun c hc t ht a b=> ?_⟩;obtain ⟨j,hj,rfl⟩:=zAj ht;obtain ⟨p,hp,e⟩:=zU.1 ((z7H g).2 (⟨j,hj,rfl,b⟩:z7M x (l.getD k (0,0)) j));have:=hu p hp;rw [show p.1=(j:Int) from e,(h.used j).2 ⟨c,hc,j,hj,rfl,a⟩] at this;cases this
theorem zcR (g:Full x) (hs:j5 (InN x.1.1) x.1.2) (h:z6y x l k u f) {p:(ETy.int .i64).T×ETy.bool.T} (hp:p∈z6m x (l.getD k (0,0))) (hu:had u p.1=true): ¬ okE x (chK x l k) (l.getD k (0,0))=true:=by
 intro c;obtain ⟨_,h2⟩:=(z7Q g hs).1 c;obtain ⟨d,hd,j,hj,e,a⟩:=(h.used p.1).1 hu;obtain ⟨i,hi,e2,b⟩:=(z7H g).1 (zU.2 ⟨p,hp,rfl⟩);have:i=j:=by omega
 subst this;exact h2 d hd _ (qZ hi) a b
theorem zcc (c: ¬ zFS x (l.getD k (0,0)).1 (l.getD k (0,0)).2=0): ¬ okE x (chK x l k) (l.getD k (0,0))=true:=fun h=>by
 unfold okE at h;rw [zA,zB] at h;exact c h.1
theorem z9x (g:Full x) (h:z6y x l k u f) (c:okE x (chK x l k) (l.getD k (0,0))=true) {pre:IBM} (hp: ∀ p,p∈pre↔p∈z6m x (l.getD k (0,0))) (n:Int):had (z6G u (pre.map (·.1))) n=true↔∃ c∈chK x l (k+1),z7M x c n:=by
 unfold z6G;rw [zXu,h.used,z8A c]
 have e1:n∈pre.map (·.1)↔z7M x (l.getD k (0,0)) n:=by
  rw [<- z7H g];show _↔n∈(z6m x (l.getD k (0,0))).map Prod.fst;rw [zU,zU];exact ⟨fun ⟨p,a,b⟩=>⟨p,(hp p).1 a,b⟩,fun ⟨p,a,b⟩=>⟨p,(hp p).2 a,b⟩⟩
 rw [e1];constructor
 ·rintro (⟨d,a,b⟩|a)
  ·exact ⟨d,zAJ _ a,b⟩
  ·exact ⟨_,zAa _ (zF.2 rfl),a⟩
 ·rintro ⟨d,a,b⟩;rcases z8.1 a with a|a
  ·exact .inl ⟨d,a,b⟩
  ·rw [zF.1 a] at b;exact .inr b
open Classical in
theorem zbf (C:List (Int×Int)) (e:Int×Int) (i:Nat):zc8 x (C++[e]) i=zc8 x C i+(if z7T x e/\e.1∈(zAH x).getD i [] then 1 else 0):=by
 unfold zc8;rw [zDO,zO]
 congr 1
 by_cases q:z7T x e/\e.1∈(zAH x).getD i []
 ·rw [if_pos q,yZ (by rw [zB];exact q)];rfl
 ·rw [if_neg q,qM (by rw [zB];exact q)];rfl
theorem zd3 (g:Full x) (h:z6y x l k u f) (c:okE x (chK x l k) (l.getD k (0,0))=true) (hb: ¬ z7T x (l.getD k (0,0))) {pre:IBM} (hp: ∀ p,p∈pre↔p∈z6m x (l.getD k (0,0))):z6y x l (k+1) (z6G u (pre.map (·.1))) f:=by
 refine ⟨z9x g h c hp,h.len,fun i hi=> ?_⟩;rw [h.left i hi,z8A c,zbf,if_neg (fun q=>hb q.1)];rfl
theorem zcv (g:Full x) {e:Int×Int} (h:z7T x e): ∃ i,i<(zAH x).length/\e.1∈(zAH x).getD i []/\zAR qX (ofK (zAH x) (zAH x).length) e.1=some (i:Int)/\zFQ x ((zAH x).getD i []):=by
 have hw: ∃ w,bE x w e.1:=by
  rcases h with k|k
  ·exact zFk g k
  ·exact ⟨_,k⟩
 obtain ⟨L,hL,hu⟩:=List.mem_flatten.1 ((zIJ g).2 hw);obtain ⟨i,hi,rfl⟩:=yI.1 hL;have gi:(zAH x).getD i []=(zAH x)[i]:=by rw [gdE,gE hi];rfl
 have lp:=zEL g;refine ⟨i,hi,by rw [gi];exact hu,z7y lp.nd (by rw [gi];exact hu) _ hi (zH _),by rw [gi];exact lp.ok _ hL⟩
theorem zcN (g:Full x) (hs:j5 (InN x.1.1) x.1.2) (h:z6y x l k u f) (c:okE x (chK x l k) (l.getD k (0,0))=true) (hb:z7T x (l.getD k (0,0))) {i:Nat} (hi:i<(zAH x).length) (hm:(l.getD k (0,0)).1∈(zAH x).getD i []) (hL:zFQ x ((zAH x).getD i [])):1<=f.getD i 0:=by
 classical
 obtain ⟨h1,h2⟩:=(z7Q g hs).1 c;have hbat:=z7x g hs l k
 have:=zdC g hs hL hb h1 hm (D:=(chK x l k).filter fun c=>decide (z7T x c/\c.1∈(zAH x).getD i [])) (fun d hd=>by
  obtain ⟨a,b⟩:=yR.1 hd;rw [zB] at b
  exact ⟨b.1,hbat.free d a,b.2⟩) (hbat.apart.sublist List.filter_sublist) fun d hd=>h2 d (yR.1 hd).1
 rw [h.left i hi];unfold zc8;have e: ∀ (p q:Int×Int->Bool),(∀ c,p c=q c)->((chK x l k).filter p).length=((chK x l k).filter q).length:=fun p q h=>by rw [show p=q from funext h]
 rw [e _ (fun c=>decide (z7T x c/\c.1∈(zAH x).getD i [])) (fun c=>by congr)];omega
theorem zdG (g:Full x) (h:z6y x l k u f) (c:okE x (chK x l k) (l.getD k (0,0))=true) (hb:z7T x (l.getD k (0,0))) {i:Nat} (hi:i<(zAH x).length) (hm:(l.getD k (0,0)).1∈(zAH x).getD i []) {pre:IBM} (hp: ∀ p,p∈pre↔p∈z6m x (l.getD k (0,0))) :
 z6y x l (k+1) (z6G u (pre.map (·.1))) (f.set i (f.getD i 0 - 1)):=by
 refine ⟨z9x g h c hp,by rw [qY];exact h.len,fun j hj=> ?_⟩;rw [z8A c,zbf,gdE,qS]
 by_cases e:i=j
 ·subst e;rw [if_pos rfl,if_pos (by rw [h.len];exact hi),if_pos ⟨hb,hm⟩];show f.getD i 0 - 1=_;rw [h.left i hi];omega
 ·rw [if_neg e,if_neg]
  ·have:=h.left j hj;rw [gdE] at this;rw [this];rfl
  ·rintro ⟨_,hm2⟩;have lp:=(zEL g).nd;have a:=z7y lp hm _ hi (zH _);have b:=z7y lp hm2 _ hj (zH _);rw [a] at b;have:(i:Int)=j:=Option.some.inj b;omega
theorem zbe (g:Full x) (hs:j5 (InN x.1.1) x.1.2) {e:Int×Int} (hw:zFS x e.1 e.2=0):(zbo x e.1=e.2\/zbo x e.2=e.1)↔z7T x e:=by
 obtain ⟨t,ht,t1,t2⟩:=((zYy g hs).1 hw).near;have i1:=hs.ent t ht _ t1;have i2:=hs.ent t ht _ t2;constructor
 ·rintro (h|h)
  ·exact .inr (zbu h i2.1)
  ·exact .inl (zbu h i1.1)
 ·rintro (h|h)
  ·exact .inr (zbi g h)
  ·exact .inl (zbi g h)
theorem zb0 (g:Full x) {L:List Int} (hL:zFQ x L):L.length<=4096:=by
 have:=zGb L ((List.range 4096).map fun (j:Nat)=>(j:Int)) hL.nd fun v hv=>by
  obtain ⟨w,hw⟩:=hL.bord hv;have h1:=(zPQ g hw).2.1;have h2: @LE.le Int _ x.1.1 4096:=g.fit.2.1;exact zU.2 ⟨v.toNat,zQ.2 (by omega),by omega⟩
 rwa [jF,zDs] at this
theorem z7p (Ls:List (List Int)) (i:Nat) (h:i<=Ls.length):(lfK Ls i).length=i:=by unfold lfK;rw [jF,zAO];omega
theorem zbP (g:Full x) (hs:j5 (InN x.1.1) x.1.2) (c:okE x (chK x l k) (l.getD k (0,0))=true) (hb:z7T x (l.getD k (0,0))) (h:z6y x l k u f) :
 ∃ i:Nat,(zAR qX (ofK (zAH x) (zAH x).length) (l.getD k (0,0)).1).getD 0=(i:Int)/\i<(lfK (zAH x) (zAH x).length).length/\1<=f.getD i 0/\f.getD i 0<=4096/\
   ∀ pre:IBM,(∀ p,p∈pre↔p∈z6m x (l.getD k (0,0)))->z6y x l (k+1) (z6G u (pre.map (·.1))) (f.set i (f.getD i 0 - 1)):=by
 obtain ⟨i,hi,hm,hg,hL⟩:=zcv g hb;have hr:=zcN g hs h c hb hi hm hL;have hl:=zb0 g hL;refine ⟨i,by rw [hg];rfl,by rw [z7p _ _ (zH _)];exact hi,hr,?_,fun pre hp=>zdG g h c hb hi hm hp⟩;rw [h.left i hi];omega
def ixL (x:z6.T) (v:Int):Nat:=Int.toNat ((zAR qX (ofK (zAH x) (zAH x).length) v).getD 0)
theorem zaF (g:Full x) (hs:j5 (InN x.1.1) x.1.2) (c:okE x (chK x l k) (l.getD k (0,0))=true) (hb:z7T x (l.getD k (0,0))) (h:z6y x l k u f) :
 (0<=(zAR qX (ofK (zAH x) (zAH x).length) (l.getD k (0,0)).1).getD 0/\(zAR qX (ofK (zAH x) (zAH x).length) (l.getD k (0,0)).1).getD 0<((lfK (zAH x) (zAH x).length).length:Int))/\
 zAZ (f.getD (ixL x (l.getD k (0,0)).1) 0 - 1)/\¬ f.getD (ixL x (l.getD k (0,0)).1) 0<1/\
 ∀ pre:IBM,(∀ p,p∈pre↔p∈z6m x (l.getD k (0,0)))->z6y x l (k+1) (z6G u (pre.map (·.1))) (f.set (ixL x (l.getD k (0,0)).1) (f.getD (ixL x (l.getD k (0,0)).1) 0 - 1)):=by
 obtain ⟨i,h1,h2,h3,h4,h5⟩:=zbP g hs c hb h;have e:ixL x (l.getD k (0,0)).1=i:=by unfold ixL;rw [h1];rfl
 rw [e,h1];exact ⟨⟨show (0:Int)<=(i:Int) by omega,show (i:Int)<((lfK (zAH x) (zAH x).length).length:Int) by omega⟩,by unfold zAZ;omega,by omega,h5⟩
theorem za3 (g:Full x):(zAH x).length<=4096:=by
 have h1:=zKh x x.1.1.toNat;have h2: @LE.le Int _ x.1.1 4096:=g.fit.2.1;have h3:(zAH x).length<=x.1.1.toNat:=h1;omega
theorem zd6 {m:NxM} {i:Int} {L:List Int} {j:Nat} (hj:j<L.length):ofV m i (L.take (j+1))=zAe qX (ofV m i (L.take j)) (L.getD j 0) i:=by
 unfold ofV;rw [yH hj,z6a,gdE,gE hj];rfl
theorem zdU {Ls:List (List Int)} {i:Nat} (h:i<Ls.length):lfK Ls (i+1)=lfK Ls i++[((Ls.getD i []).length:Int) - 3]:=by
 unfold lfK;rw [yH h,zBZ,gdE,gE h];rfl
theorem zaW (m:ReM) (pre:IBM) (e:(ETy.int .i64).T×ETy.bool.T):z6G m ((pre++[e]).map (·.1))=zAe qX (z6G m (pre.map (·.1))) e.1 true:=by
 unfold z6G;rw [zBZ,z6a];rfl
end
end S1
namespace Go.Vm
section
variable {T:Tab} {SQ:zHQ} {st:St} {K:Exit->St->Prop} {a b c:Code}
structure zco (T:Tab) (SQ:zHQ) (b:Code) (K:Exit->St->Prop) (e:Exit) (t:St):Prop where
 out:match e with
  | .normal=>zCl T SQ b t K
  | e=>K e t
structure zbx (id:Nat) (K:Exit->St->Prop) (e:Exit) (t:St):Prop where
 out:match e with
  | .exit i=>(match Nat.beq i id with|true=>K .normal t|false=>K (.exit i) t)
  | e=>K e t
structure zdN (K:Exit->St->Prop) (e:Exit) (t:St):Prop where
 out:match e with
  | .goto _=>False
  | e=>K e t
structure z5J {X:Type} (S:Spec X) (st:St) (x:X) (K:Exit->St->Prop) (e:Exit) (t:St):Prop where
 out:match e with
  | .normal=> ∃ y,S.inv y/\zO7 t (S.head st y)/\S.mu y<S.mu x
  | e=>K e t
structure zb4 (K:Exit->St->Prop) (e:Exit) (t:St):Prop where
 out:K e t
theorem z8r (h:zCl T SQ b st K):zco T SQ b K .normal st:=⟨h⟩
theorem z8w {i:Nat} (h:K (.exit i) st):zco T SQ b K (.exit i) st:=⟨h⟩
theorem z8h (h:K .ret st):zco T SQ b K .ret st:=⟨h⟩
theorem z8u {id:Nat} (h:K .normal st):zbx id K .normal st:=⟨h⟩
theorem zbs {id i:Nat} (e:Nat.beq i id=true) (h:K .normal st):zbx id K (.exit i) st:=⟨by show (match Nat.beq i id with|true=>K .normal st|false=>K (.exit i) st);rw [e];exact h⟩
theorem zbn {id i:Nat} (e:Nat.beq i id=false) (h:K (.exit i) st):zbx id K (.exit i) st:=⟨by show (match Nat.beq i id with|true=>K .normal st|false=>K (.exit i) st);rw [e];exact h⟩
theorem zbk {id:Nat} (h:K .ret st):zbx id K .ret st:=⟨h⟩
theorem zbl (h:K .normal st):zdN K .normal st:=⟨h⟩
theorem zbj (h:K .ret st):zdN K .ret st:=⟨h⟩
theorem z7k {X:Type} {S:Spec X} {x:X} {t:St} (h: ∃ y,S.inv y/\zO7 t (S.head st y)/\S.mu y<S.mu x):z5J S st x K .normal t:=⟨h⟩
theorem z7m {X:Type} {S:Spec X} {x:X} {t:St} {i:Nat} (h:K (.exit i) t):z5J S st x K (.exit i) t:=⟨h⟩
theorem zan {X:Type} {S:Spec X} {x:X} {t:St} (h:K .ret t):z5J S st x K .ret t:=⟨h⟩
theorem z7P {e:Exit} (h:K e st):zb4 K e st:=⟨h⟩
theorem z9d:zb4 K=K:=funext fun e=>funext fun s=>propext ⟨fun h=>h.out,fun h=>⟨h⟩⟩
theorem z8O {s:St} (h:s.forceAll (fun h=>zBN T c h (zb4 K))):s.forceAll (fun h=>zBN T c h K):=by rw [z9d] at h;exact h
theorem zdF {SQ:zHQ} {fn:Func} {args:List AV} {R:AV->Prop} (hb:fn.body=some c) (h:zCl T SQ c (St.init args) (zb4 (post T fn R))):zV4 T SQ fn args R:=by
 rw [z9d] at h;unfold zV4;rw [hb];show (St.init args).forceAll _;rw [St.forceAll_eq];exact h
theorem zdE (hr:z0K a b=none) (h:zCl T SQ a st (zco T SQ b K)):zCl T SQ (.seq a b) st K:=by
 unfold zCl;rw [hr];exact (congrArg (zCl T SQ a st) (funext fun e=>funext fun s=>propext (by cases e<;>exact ⟨fun h=>⟨h⟩,fun h=>h.out⟩)):zCl T SQ a st _=zCl T SQ a st (zco T SQ b K)).mpr h
theorem zdD {r:RM} (hr:z0K a b=some r) (h:st.forceAll fun st=>z6J T r st K):zCl T SQ (.seq a b) st K:=by
 rw [St.forceAll_eq] at h;unfold zCl;rw [hr];exact h
theorem zaf {id:Nat} (h:zCl T SQ c st (zbx id K)):zCl T SQ (.block id c) st K:=by
 unfold zCl;exact (congrArg (zCl T SQ c st) (funext fun e=>funext fun s=>propext (by cases e<;>exact ⟨fun h=>⟨h⟩,fun h=>h.out⟩)):zCl T SQ c st _=zCl T SQ c st (zbx id K)).mpr h
theorem zal (h:zCl T SQ c st (zdN K)):zCl T SQ (.scope c) st K:=by
 unfold zCl;exact (congrArg (zCl T SQ c st) (funext fun e=>funext fun s=>propext (by cases e<;>exact ⟨fun h=>⟨h⟩,fun h=>h.out⟩)):zCl T SQ c st _=zCl T SQ c st (zdN K)).mpr h
theorem z8x {i:Nat} {o:Array Oper} {d:Bool} (h:st.forceAll fun st=>zBN T (.region i o d) st K):zCl T SQ (.region i o d) st K:=by
 rw [St.forceAll_eq] at h;unfold zCl;exact h
theorem zbb (h:K .normal st):zCl T SQ .skip st K:=h
theorem z9s {l:Nat} (h:K .normal st):zCl T SQ (.label l) st K:=h
theorem zbp {i:Nat} (h:K (.exit i) st):zCl T SQ (.exit i) st K:=h
theorem zcr (h:K .ret st):zCl T SQ .ret st K:=h
theorem zbc {x:Operand} (hr:(zD2 a|| zD2 b)=false) (h:st.forceAll fun st=>zBN T (.cond x a b) st K):zCl T SQ (.cond x a b) st K:=by
 rw [St.forceAll_eq] at h;unfold zCl;rw [hr];exact h
theorem z94 {x:Operand} (hr:(zD2 a|| zD2 b)=true) (h:st.forceAll fun st=>match j7 st.env x with
 | .s (.bool t)=>BIf t (zCl T SQ a st K) (zCl T SQ b st K)
 | _=>False):zCl T SQ (.cond x a b) st K:=by
 rw [St.forceAll_eq] at h;unfold zCl;rw [hr];exact h
theorem zct (hr:zD2 c=true) (X:Type) (S:Spec X) (x0:X) (hi:S.inv x0) (hl:zO7 st (S.head st x0))
 (h: ∀ x,S.inv x->zCl T SQ c (S.head st x) (z5J S st x K)):zCl T SQ (.loop c) st K:=by
 unfold zCl;rw [hr];refine ⟨X,S,⟨x0,hi,hl⟩,fun x hx=> ?_⟩;rw [St.forceAll_eq];exact (congrArg (zCl T SQ c (S.head st x)) (funext fun e=>funext fun s=>propext (by cases e<;>exact ⟨fun h=>⟨h⟩,fun h=>h.out⟩)):zCl T SQ c (S.head st x) _=zCl T SQ c (S.head st x) (z5J S st x K)).mpr (h x hx)
end
end Go.Vm
namespace S1
def zaA:List AV->St->(AV->St->Prop)->Prop:=zQS ⟨tyL,[(26,zWO)],[]⟩ f39
theorem z9q : zH9 prog 39 zaA ∧ ∃ fn, Tryz.prog.funcs[39]? = some fn ∧ (fn.name == "runtime.NumGoroutine") = false ∧ fn.body.isNone = false :=
 ⟨zNm (zCv (fn:=[(26,zWO)]) (fr:=[]) ⟨zW7,trivial⟩ trivial) func39 rfl (by kernel_rfl),_,func39,by kernel_rfl,by kernel_rfl⟩
def z9e (Ls:List (List Int)):Spec Nat where
 inv i:=i<=Ls.length
 live i:=[(12,.s (.int .i64 i)),(3,.s (.own 2 0 (lfK Ls i).length))]
 keep:=[2,10,11]
 heap i:=[(3,.map qX qX (ofK Ls i)),(2,.row qX 3 (lfK Ls i))]
 keepH:=[0,1]
 mu i:=Ls.length - i
def zak (Ls:List (List Int)) (i:Nat):Spec Nat where
 inv j:=j<=(Ls.getD i []).length
 live j:=[(19,.s (.int .i64 j))]
 keep:=[2,3,4,5,10,11,12,17,18]
 heap j:=[(3,.map qX qX (ofV (ofK Ls i) i ((Ls.getD i []).take j)))]
 keepH:=[0,1,2]
 mu j:=(Ls.getD i []).length - j
def zaw (x:z6.T) (l:List (Int×Int)):Spec (Nat×ReM×List Int) where
 inv y:=y.1<=l.length/\z6y x l y.1 y.2.1 y.2.2
 live y:=[(24,.s (.int .i64 y.1)),(8,.s (.own 5 0 (chK x l y.1).length))]
 keep:=[0,5,6,7,22,23]
 heap y:=[(4,.map qX .bool y.2.1),(2,.row qX 3 y.2.2),(5,.row .arr2 57 (chK x l y.1))]
 keepH:=[0,3]
 mu y:=l.length - y.1
def zac (u:ReM):Spec IBM where
 inv pre:= ∀ p∈pre,had u p.1=false
 live _:=[]
 keep:=[0,5,6,7,8,10,11,22,23,24,39]
 heap _:=[]
 keepH:=[0,2,3,4,5,6]
 mu _:=0
def z9h (u:ReM):Spec IBM where
 inv _:=True
 live _:=[]
 keep:=[0,5,6,7,8,10,11,22,23,24,81]
 heap pre:=[(4,.map qX .bool (z6G u (pre.map (·.1))))]
 keepH:=[0,2,3,5,6]
 mu _:=0
attribute [local irreducible] chK zFS z6m zbo z6G ofK lfK ofV zAH
theorem z9j (x:z6.T) (l:List (Int×Int)) (g:Full x) (hs:j5 (InN x.1.1) x.1.2) (hl9:l.length<=100000):zV4 ⟨tyL,[(31,zdM),(40,z7u),(41,zaH)],[(39,.run zaA)]⟩ zdO f10 [(ETy.pt z6).av (some x),(ETy.sl .arr2).av l] (fun r=>r= .s (.sl .arr2 (z6i x l))):=by
 refine zdF rfl ?_
 repeat' (first
           | ((with_reducible show zCl _ _ (Code.seq _ _) _ _);first|refine zdE rfl ?_|refine zdD rfl ?_)
           | with_reducible refine zaf ?_
           | with_reducible refine zal ?_
           | with_reducible refine z8x ?_
           | with_reducible refine zbb ?_
           | with_reducible refine z9s ?_
           | with_reducible refine zbp ?_
           | with_reducible refine zcr ?_
           | ((with_reducible show zCl _ _ (Code.cond _ _ _) _ _);first|refine zbc rfl ?_|refine z94 rfl ?_)
           | ((with_reducible show zCl _ _ (Code.loop _) _ _);refine zct rfl (Nat×ReM×List Int) (zaw x l) ((0,[],lfK (zAH x) (zAH x).length)) (zA9.out ?_) (yA ?_ (yA ?_ rfl)) (fun y hy=> ?_))
           | with_reducible refine z8r ?_
           | with_reducible refine z8w ?_
           | with_reducible refine z8h ?_
           | with_reducible refine z8u ?_
           | ((with_reducible show zbx _ _ (Exit.exit _) _);first|refine zbs rfl ?_|refine zbn rfl ?_)
           | with_reducible refine zbk ?_
           | with_reducible refine zbl ?_
           | with_reducible refine zbj ?_
           | with_reducible refine z7k ?_
           | with_reducible refine z7m ?_
           | with_reducible refine zan ?_
           | with_reducible refine z7P ?_
           | (conv=>whnf
              first
           | done
           | refine qN ?_
           | apply qH
           | refine qG fun _=> ?_
           | apply qB
           | apply qa
           | apply qo
           | refine qe (fun _=> ?_) (fun _=> ?_)
           | refine qn (fun _=> ?_) (fun _=> ?_)
           | refine qd (fun _=> ?_) (fun _=> ?_)
           | apply qt
           | refine qi (fun _=> ?_) (fun _=> ?_)
           | with_reducible refine z8r ?_
           | with_reducible refine z8w ?_
           | with_reducible refine z8h ?_
           | with_reducible refine z8u ?_
           | with_reducible refine z7k ?_
           | with_reducible refine z7m ?_
           | with_reducible refine z7P ?_
           | ((with_reducible show (∃ y,And (Spec.inv (zaw _ _) y) _));refine yM (y.1+1,_,_) (yA (zA9.out ?_) (yA (yA ?_ (yA (yA rfl (yA rfl ?_)) rfl)) (zA9.out ?_))))
           | refine (fun (XF:Array Value)=> ?_)
           | (refine zJa 3 rfl ?_;refine Or.inr (yM (Nat) (yM (z9e (zAH x)) (yA (yM (0) (yA (zA9.out ?_) (yA ?_ (yA ?_ rfl)))) (fun i hi=>z8O ?_)))))
           | with_reducible refine jK (z9e _) (i+1) ?_ ?_ ?_ ?_
           | (refine zJa 6 rfl ?_;refine Or.inr (yM (Nat) (yM (zak (zAH x) i) (yA (yM (0) (yA (zA9.out ?_) (yA ?_ (yA ?_ rfl)))) (fun j hj=>z8O ?_)))))
           | with_reducible refine jK (zak _ _) (j+1) ?_ ?_ ?_ ?_
           | refine (fun (rIt:Nat)=> ?_)
           | refine z60.intro (it:=39) (yM (zac y.2.1) (yA (yA (zA9.out ?_) (yA ?_ (yA ?_ rfl))) (yA (fun preu eu heu=>yA rfl ?_) (fun preu hpu=>yA rfl ?_))))
           | ((with_reducible show (And (Spec.inv (zac y.2.1) _) _));refine yA (zA9.out ?_) (yA ?_ (yA ?_ rfl)))
           | refine (fun (rIt:Nat)=> ?_)
           | refine z60.intro (it:=81) (yM (z9h y.2.1) (yA (yA (zA9.out ?_) (yA ?_ (yA ?_ rfl))) (yA (fun prew ew hew=>yA rfl ?_) (fun prew hpw=>yA rfl ?_))))
           | ((with_reducible show (And (Spec.inv (z9h y.2.1) _) _));refine yA (zA9.out ?_) (yA ?_ (yA ?_ rfl)))
           | refine yA rfl ?_
           | apply qE
           | apply qO
           | exact zL
           | apply qq
           | apply qs
           | refine qK (by kernel_rfl) ?_
           | apply qr))
 all_goals try first|refine qz ?_|apply qz5
 all_goals try simp only [qn0,zY,zX,ETy.dflt,Int.reduceToNat,Int.reduceAdd,Int.reduceSub,Int.reduceNeg,Nat.reduceAdd,z9e,zak,zaw,zac,z9h] at *
 all_goals have hLl:=za3 g
 all_goals try simp only [show z3H (some x)=zAH x from rfl] at *
 all_goals try exact qh (fun y h=>by cases h;exact g)
 all_goals try exact qh (fun y h=>by cases h;exact g.toGood)
 all_goals try exact qh g.toGood
 all_goals try exact qh trivial
 all_goals try exact qh (fun p h=>by cases h)
 all_goals try (refine qh ?_;omega)
 all_goals try first
  | (unfold lfK;rfl)
  | (unfold ofK;rfl)
  | (unfold chK;rfl)
  | (rw [List.take_zero];unfold ofV;rfl)
  | (rw [List.map_nil];unfold z6G;rfl)
  | exact zaW _ _ _
  | exact zd6 (by omega)
  | exact zdU (by omega)
  | (rw [z7p _ _ (by omega),z7p _ _ (by omega)];done)
 all_goals try (have hlf:=z7p (zAH x) i (by omega);refine qh ?_;omega)
 all_goals try
  have ej:j=((zAH x).getD i []).length:=by omega
  subst ej;rw [qI];conv=>lhs;unfold ofK
  done
 all_goals have ei:i=(zAH x).length:=by omega
 all_goals subst ei
 all_goals try exact qh ⟨y7 _,zcT⟩
 all_goals try rfl
 all_goals try
  have hn : ¬ okE x (chK x l y.1) (l.getD y.1 (0,0))=true:=by
            first|exact zcc (by assumption)|exact zcR g hs hy.2 heu.2.2.2.1 (by assumption)
  first
  | exact qh ⟨by omega,zdX hy.2 hn⟩
  | (rw [zbE hn];done)
 all_goals try
  refine zA9.intro fun p hp=> ?_;rcases z8.1 hp with k|k
  ·exact heu.1 p k
  ·rw [zF.1 k];assumption
 all_goals try
  have e9:y.1=l.length:=by omega
  rw [e9];unfold z6i;rfl
 all_goals have hcl:=z7q x l y.1
 all_goals have hw:zFS x (l.getD y.1 (0,0)).1 (l.getD y.1 (0,0)).2=0:=by assumption
 all_goals have hOk:=zcC g hs hy.2 hw (fun p q=>hpu.1 p ((hpu.2.2 p).2 q))
 all_goals try first
  | (rw [z8A hOk,zO];rfl)
  | exact z8A hOk
  | (refine qh ?_;omega)
 all_goals try
  have hb:z7T x (l.getD y.1 (0,0)):=(zbe g hs hw).1 (by first|exact .inl (by assumption)|exact .inr (by assumption));obtain ⟨q1,q2,q3,q4⟩:=zaF g hs hOk hb hy.2
  first
  | exact qh q1
  | exact qh q2
  | exact absurd (by assumption) q3
  | exact qh ⟨by omega,q4 _ hpw.2.2⟩
 all_goals
  have hb: ¬ z7T x (l.getD y.1 (0,0)):=fun q=>((zbe g hs hw).2 q).elim (by assumption) (by assumption);exact qh ⟨by omega,zd3 g hy.2 hOk hb hpw.2.2⟩
theorem z9I (l:List (Int×Int)):zV4 ⟨tyL,[(31,zdM),(40,z7u),(41,zaH)],[(39,.run zaA)]⟩ zdO f10 [(ETy.pt z6).av none,(ETy.sl .arr2).av l] (fun r=>r= .s (.sl .arr2 [])):=by
 refine zdF rfl ?_
 repeat' (first
           | ((with_reducible show zCl _ _ (Code.seq _ _) _ _);first|refine zdE rfl ?_|refine zdD rfl ?_)
           | with_reducible refine zaf ?_
           | with_reducible refine zal ?_
           | with_reducible refine z8x ?_
           | with_reducible refine zbb ?_
           | with_reducible refine z9s ?_
           | with_reducible refine zbp ?_
           | with_reducible refine zcr ?_
           | ((with_reducible show zCl _ _ (Code.cond _ _ _) _ _);first|refine zbc rfl ?_|refine z94 rfl ?_)
           | with_reducible refine z8r ?_
           | with_reducible refine z8w ?_
           | with_reducible refine z8h ?_
           | with_reducible refine z8u ?_
           | ((with_reducible show zbx _ _ (Exit.exit _) _);first|refine zbs rfl ?_|refine zbn rfl ?_)
           | with_reducible refine zbk ?_
           | with_reducible refine zbl ?_
           | with_reducible refine zbj ?_
           | with_reducible refine z7k ?_
           | with_reducible refine z7m ?_
           | with_reducible refine zan ?_
           | with_reducible refine z7P ?_
           | (conv=>whnf
              first
           | done
           | refine qN ?_
           | apply qH
           | refine qG fun _=> ?_
           | apply qB
           | apply qa
           | apply qo
           | refine qe (fun _=> ?_) (fun _=> ?_)
           | refine qn (fun _=> ?_) (fun _=> ?_)
           | refine qd (fun _=> ?_) (fun _=> ?_)
           | apply qt
           | refine qi (fun _=> ?_) (fun _=> ?_)
           | with_reducible refine z8r ?_
           | with_reducible refine z8w ?_
           | with_reducible refine z8h ?_
           | with_reducible refine z8u ?_
           | with_reducible refine z7k ?_
           | with_reducible refine z7m ?_
           | with_reducible refine z7P ?_
           | refine yA rfl ?_
           | apply qE
           | apply qO
           | exact zL
           | apply qq
           | apply qs
           | refine qK (by kernel_rfl) ?_
           | apply qr))
 all_goals try first|refine qz ?_|apply qz5
 all_goals try simp only [qn0,zY,zX,ETy.dflt,Int.reduceToNat,Int.reduceAdd,Int.reduceSub,Int.reduceNeg,Nat.reduceAdd] at *
 all_goals rfl
def z7C:List AV->Option Res:=zFm (.pt z6) (.sl .arr2) (fun o l=>some (none,some ((∀ x,o=some x->Full x/\j5 (InN x.1.1) x.1.2)/\l.length<=100000),.s (.sl .arr2 (match o with|some x=>z6i x l|none=>[]))))
theorem z7Y:jN prog 10 z7C:=mkR (zA4 fun o l r h=>by
 cases h;cases o with
 | none=>exact zT2 (zCv (fn:=[(31,zdM),(40,z7u),(41,zaH)]) (fr:=[(39,.run zaA)]) ⟨zbz,z7f,zaD,trivial⟩ ⟨z9q,trivial⟩) zav func10 rfl (by kernel_rfl) (zW rfl) fun _ _=>z9I l
 | some x=>exact zT2 (zCv (fn:=[(31,zdM),(40,z7u),(41,zaH)]) (fr:=[(39,.run zaA)]) ⟨zbz,z7f,zaD,trivial⟩ ⟨z9q,trivial⟩) zav func10 rfl (by kernel_rfl) (zW rfl) fun _ h=>z9j x l (h.1 x rfl).1 (h.1 x rfl).2 h.2) func10
end S1
namespace S1
def bwL (n:Nat):List Int:=(List.range n).map fun (j:Nat)=>(n:Int) - 1 - j
theorem z7B (n:Nat):(bwL n).length=n:=by unfold bwL;rw [jF,zDs]
theorem z83 {n k:Nat} (h:k<n):(bwL n).getD k 0=(n:Int) - 1 - k:=by
 unfold bwL;rw [gdE,j0,List.getElem?_range h];rfl
theorem z8t {n k:Nat} (h:k<n):(bwL n).take k++[(n:Int) - 1 - k]=(bwL n).take (k+1):=by
 rw [yH (by rw [z7B];exact h)];have:=z83 h;rw [gdE,gE (by rw [z7B];exact h)] at this;rw [<- show (bwL n)[k]'(by rw [z7B];exact h)=(n:Int) - 1 - k from this]
def zaL (R:List zDZ):Spec Nat where
 inv k:=k<=R.length
 live k:=[(3,.s (.int .i64 ((R.length:Int) - 1 - k)))]
 keep:=[0,1]
 heap _:=[]
 keepH:=[]
 mu k:=R.length - k
theorem zdJ (R:List zDZ) (hn:R.length<=100000):zR2 ⟨tyL,[],[]⟩ f104 [⟨.sl zSF,R⟩] (bwL R.length):=by
 repeat' (conv=>whnf
          first|done|refine qy ?_|refine qG fun _=> ?_|refine qw (fun _=> ?_) (fun _=> ?_)|apply qt|refine qi (fun _=> ?_) (fun _=> ?_)|refine (fun (l:Nat)=> ?_)|refine yM Nat (yM (zaL R) (yM (fun k=>(bwL R.length).take k) (yA (yM 0 (yA (zA9.out ?_) (yA (zBv.out ?_) (yA ?_ (yA ?_ rfl))))) (fun k hk=> ?_))))|((with_reducible show (∃ y,And (Spec.inv (zaL _) y) _));refine yM (k+1) (yA (zA9.out ?_) (yA (zBv.out ?_) (yA (yA ?_ (yA ?_ rfl)) (zA9.out ?_)))))|refine yA (zA9.out (p:=(_++[_]) <+: _) ?_) ?_|refine yA (zBv.intro (jE.out ?_)) ?_|refine zBv.out ?_|refine qu ?_|refine qv ?_ ?_|exact zL)
 all_goals try first|refine qz ?_|apply qz5
 all_goals try simp only [qn0,zY,zX,ETy.dflt,Int.reduceToNat,Int.reduceAdd,Int.reduceSub,Int.reduceNeg,Nat.reduceAdd,zaL] at *
 all_goals have eR:List.length ((some R).getD [])=R.length:=rfl
 all_goals have hlb:=z7B R.length
 ·exact qh (y7 _)
 ·exact zBv.intro rfl
 ·rw [eR];omega
 ·refine qh ?_;rw [eR];omega
 all_goals try have hk1:k<R.length:=by omega
 ·rw [z8t hk1];exact qh (List.take_prefix _ _)
 ·exact jE.intro rfl
 ·exact qh hk1
 ·exact zBv.intro (z8t hk1).symm
 ·omega
 ·refine qh ?_;omega
 ·exact zBv.intro (q9 (by omega))
theorem zdK {n:Nat} (h:n<=100000): ∀ x∈bwL n,InK .i64 x:=fun x hx=>by
 obtain ⟨j,hj,rfl⟩:=zU.1 hx;have:=zQ.1 hj;exact InK.i64.2 (by unfold zAZ;omega)
def seqB:zHQ:=fun f ps L=>f=104/\∃ R:List zDZ,ps=[⟨.sl zSF,R⟩]/\R.length<=100000/\L=bwL R.length
theorem zcq:zG0 prog seqB:=fun f ps L h=>by
 obtain ⟨rfl,R,rfl,hn,rfl⟩:=h;exact seq_ok (zCv (fn:=[]) (fr:=[]) trivial trivial) func104 rfl (by kernel_rfl) rfl (by kernel_rfl) (zW rfl) (zdK hn) fun _=>zdJ R hn
theorem zdZ {fn} (R:List zDZ):zAk ⟨tyL,fn,[]⟩ f70 [(ETy.sl zSF).av R] (fun r=>r= .s (.clo 104 [⟨.sl zSF,R⟩])):=by
 repeat' (conv=>whnf
          first|done|refine qy ?_|refine qG fun _=> ?_|refine qw (fun _=> ?_) (fun _=> ?_)|apply qt|refine qi (fun _=> ?_) (fun _=> ?_)|refine qu ?_|refine qv ?_ ?_|exact zL)
 all_goals try first|refine qz ?_|apply qz5
 all_goals try simp only [qn0,zY,zX,ETy.dflt,Int.reduceToNat,Int.reduceAdd,Int.reduceSub,Int.reduceNeg,Nat.reduceAdd] at *
def bwC:List AV->Option Res:=zF4 (.sl zSF) (fun R=>some (none,none,.s (.clo 104 [⟨.sl zSF,R⟩])))
theorem zdS:jN prog 70 bwC:=mkR (zAm fun R r h=>by cases h;exact fb (fn:=[]) trivial func70 fun _ _=>zdZ R) func70
inductive ChB (s:SoT):SoT->List zDZ->Prop
 | nil:ChB s s []
 | snoc {x y:SoT} {R:List zDZ} {r:zDZ} :ChB s y R->doR y r.1 r.2.1=(x,r,0)->ChB s x (R++[r])
theorem ChB.back {s x:SoT} {R:List zDZ} {r:zDZ} (h:ChB s x (R++[r])):(zD0 x r).2=0/\ChB s (zD0 x r).1 R:=by
 generalize e:R++[r]=Q at h;cases h with
 | nil=>simp at e
 | snoc h1 h2 =>
   obtain ⟨e1,e2⟩:=List.append_inj' e rfl;cases e2;subst e1;have:=zQL h2;rw [this];exact ⟨rfl,h1⟩
theorem ChB.zero {s x:SoT} (h:ChB s x []):x=s:=by
 generalize e:([]:List zDZ)=Q at h;cases h with
 | nil=>rfl
 | snoc=>simp at e
noncomputable def unS (x:SoT) (R:List zDZ):Nat->SoT
 | 0=>x
 | k+1=>(zD0 (unS x R k) (R.getD (R.length - 1 - k) z8Y)).1
theorem z75 {R:List zDZ} {k:Nat} (h:k<R.length):R.take (k+1)=R.take k++[R.getD k z8Y]:=by
 rw [yH h,gdE,gE h];rfl
theorem za2 {s x:SoT} {R:List zDZ} (h:ChB s x R): ∀ k,k<=R.length->ChB s (unS x R k) (R.take (R.length - k))
 | 0,_=>by rw [Nat.sub_zero,qI];exact h
 | k+1,hk=>by
   have ih:=za2 h k (by omega);rw [show R.length - k=(R.length - (k+1))+1 by omega,z75 (by omega)] at ih;have:=ih.back.2;unfold unS;rw [show R.length - 1 - k=R.length - (k+1) by omega];exact this
theorem zci {s x:SoT} {R:List zDZ} (h:ChB s x R) {k:Nat} (hk:k<R.length):(zD0 (unS x R k) (R.getD (R.length - 1 - k) z8Y)).2=0:=by
 have ih:=za2 h k (by omega);rw [show R.length - k=(R.length - 1 - k)+1 by omega,z75 (by omega)] at ih;exact ih.back.1
theorem zcF {s x:SoT} {R:List zDZ} (h:ChB s x R):unS x R R.length=s:=by
 have:=za2 h R.length (zH _);rw [Nat.sub_self,List.take_zero] at this;exact this.zero
noncomputable def zbr (x:SoT) (R:List zDZ):Spec Nat where
 inv _:=True
 live _:=[]
 keep:=[1,2,4,5]
 heap k:=[(0,.flat 24 [.int .i64 (unS x R k).1,.sl .arr3 (unS x R k).2])]
 keepH:=[1,2,3,4]
 mu _:=0
theorem zcO {s x:SoT} {R:List zDZ} (h:ChB s x R) {k:Nat} (hk:k<(bwL R.length).length):(zD0 (unS x R k) (R.getD ((bwL R.length).getD k 0).toNat z8Y)).2=0:=by
 rw [z7B] at hk;have:=zci h hk;rw [z83 hk,show ((R.length:Int) - 1 - k).toNat=R.length - 1 - k by omega];exact this
attribute [local irreducible] zD0 unS
theorem zbG (n:Int) (l:List P3) (R:List zDZ) (s:SoT) (h:ChB s (n,l) R) (hn:R.length<=100000) (hl:l.length<=8192):zV4 ⟨tyL,[(42,zUX),(70,bwC),(46,zS7)],[]⟩ seqB f33 [jQ.av (n,l),(ETy.sl zSF).av R] (fun r=>r=zYn (s,0)):=by
 repeat' (conv=>whnf
          first|done|refine qy ?_|refine qG fun _=> ?_|refine qw (fun _=> ?_) (fun _=> ?_)|apply qt|refine qi (fun _=> ?_) (fun _=> ?_)|refine yM (bwL R.length) (yA (zA9.out ?_) (yM (zbr (n,l) R) ?_))|(refine yA (fun X=> ?_) (fun X=> ?_))|(refine yA (yA ?_ (yA ?_ rfl)) (fun k hk=> ?_))|(refine yA ?_ (yA ?_ rfl))|exact absurd (zcO h hk) (by assumption)|refine qu ?_|refine qv ?_ ?_|exact zL)
 all_goals try first|refine qz ?_|apply qz5
 all_goals try simp only [qn0,zY,zX,ETy.dflt,Int.reduceToNat,Int.reduceAdd,Int.reduceSub,Int.reduceNeg,Nat.reduceAdd,zbr] at *
 ·exact qh ⟨rfl,R,rfl,hn,rfl⟩
 ·rw [show unS (n,l) R 0=(n,l) by unfold unS;rfl];exact zAF.intro rfl
 ·have e:unS (n,l) R (k+1)=(zD0 (unS (n,l) R k) (R.getD ((bwL R.length).getD k 0).toNat z8Y)).1:=by
   have hk1:k<R.length:=by rw [z7B] at hk;exact hk
   rw [z83 hk1,show ((R.length:Int) - 1 - k).toNat=R.length - 1 - k by omega];conv=>lhs;unfold unS
  rw [e];exact zAF.intro rfl
 ·rw [z7B,zcF h];exact jE.intro rfl
def z9w (s0:SoT):List AV->Option Res:=zFm jQ (.sl zSF) (fun s R=>some (none,some (ChB s0 s R/\R.length<=100000/\s.2.length<=8192),zYn (s0,0)))
theorem zbD (s0:SoT):jN prog 33 (z9w s0):=mkR (zA4 fun s R r h=>by
 cases h;exact zT2 (zCv (fn:=[(42,zUX),(70,bwC),(46,zS7)]) (fr:=[]) ⟨zWz,zdS,zY1,trivial⟩ trivial) zcq func33 rfl (by kernel_rfl) (zW rfl) fun _ h=>zbG s.1 s.2 R s0 h.1 h.2.1 h.2.2) func33
end S1
namespace S1
abbrev EdB:=List (Int×Int)
def zbJ (R:List zDZ) (e:Int×Int):Int×Int:=(z6f R e.1,z6f R e.2)
def doK (s:SoT) (l:EdB):Nat->SoT×List zDZ
 | 0=>(s,[])
 | k+1=>((doR (doK s l k).1 (z6f (doK s l k).2 (l.getD k (0,0)).1) (z6f (doK s l k).2 (l.getD k (0,0)).2)).1,
   (doK s l k).2++[(doR (doK s l k).1 (z6f (doK s l k).2 (l.getD k (0,0)).1) (z6f (doK s l k).2 (l.getD k (0,0)).2)).2.1])
theorem z8B (r:zDZ): ∀ (R:List zDZ) (v:Int),z6f (R++[r]) v=if zS0 (z6f R v) r.1 r.2.1<0 then -1 else zS0 (z6f R v) r.1 r.2.1
 | [],v=>by
   show z6f [r] v=_;unfold z6f;split
   ·rfl
   ·rfl
 | q::l,v=>by
   show z6f (q::(l++[r])) v=_;unfold z6f;split
   ·rw [if_pos (by unfold zS0;rw [if_pos (by decide)];decide)]
   ·exact z8B r l _
theorem zbR {s:SoT} {a b:Int} (hs:zDM s) (k:zNP s.2 a b):doE s a b=0/\(doR s a b).1=zFI s a b/\(doR s a b).2.1.1=a/\(doR s a b).2.1.2.1=b:=by
 have hi:=z0Z hs k
 have h0:doE s a b=0:=by
  rw [zHm hs,if_pos ⟨hi.1,hi.2⟩,(zKR hs k).1];rfl
 rw [zR8 h0];refine ⟨h0,?_,rfl,rfl⟩;show (s.1 - 1,drL a b s.2 s.2.length)=_;rw [zIO];rfl
theorem zd4 {a v:Int} (hv:0<=v) (ha:0<=a):0<=dn a v:=by unfold dn;split<;>omega
theorem z8W {α:Type} {l:List α} {k:Nat} (d:α) (h:k<l.length):l.drop k=l.getD k d::l.drop (k+1):=by
 rw [List.drop_eq_getElem_cons h,gdE,gE h];rfl
structure zdP (s:SoT) (l:EdB) (k:Nat):Prop where
 bat:z9P (doK s l k).1 ((l.drop k).map (zbJ (doK s l k).2))
 len:(doK s l k).2.length=k
 num:(doK s l k).1.1=s.1 - k
 ch:ChB s (doK s l k).1 (doK s l k).2
 ok:okR (doK s l k).2
 tri:(doK s l k).1.2.length<=s.2.length
theorem zbM (a b:Int) (l:List P3):(zDG a b l).length<=l.length:=by
 unfold zDG;rw [jF];exact z6p _ _
theorem z7Z {s:SoT} {l:EdB} {k:Nat} (h:zdP s l k) (hk:k<l.length):(doR (doK s l k).1 (z6f (doK s l k).2 (l.getD k (0,0)).1) (z6f (doK s l k).2 (l.getD k (0,0)).2)).2.2=0/\
 (doK s l (k+1)).1=zFI (doK s l k).1 (z6f (doK s l k).2 (l.getD k (0,0)).1) (z6f (doK s l k).2 (l.getD k (0,0)).2)/\
 (∀ v,0<=z6f (doK s l k).2 v->z6f (doK s l (k+1)).2 v=dn (z6f (doK s l k).2 (l.getD k (0,0)).1) (ph (z6f (doK s l k).2 (l.getD k (0,0)).1) (z6f (doK s l k).2 (l.getD k (0,0)).2) (z6f (doK s l k).2 v))/\0<=z6f (doK s l (k+1)).2 v)/\zdP s l (k+1):=by
 have hb:=h.bat;rw [z8W (0,0) hk,jT] at hb;obtain ⟨a,ea⟩: ∃ a,a=z6f (doK s l k).2 (l.getD k (0,0)).1:=⟨_,rfl⟩;obtain ⟨b,eb⟩: ∃ b,b=z6f (doK s l k).2 (l.getD k (0,0)).2:=⟨_,rfl⟩;have hb:z9P (doK s l k).1 ((a,b)::(l.drop (k+1)).map (zbJ (doK s l k).2)):=by rw [ea,eb];exact hb
 have hf:zNP (doK s l k).1.2 a b:=hb.free (a,b) (zR ..);have hi:=z0Z hb.surf hf;have ia:0<=a/\a<(doK s l k).1.1:=hi.1;have ib:0<=b/\b<(doK s l k).1.1:=hi.2;obtain ⟨d1,d2,d3,d4⟩:=zbR hb.surf hf;have e1:(doK s l (k+1)).1=(doR (doK s l k).1 a b).1:=by rw [ea,eb];rfl
 have e2:(doK s l (k+1)).2=(doK s l k).2++[(doR (doK s l k).1 a b).2.1]:=by rw [ea,eb];rfl
 have hn: ∀ v,0<=z6f (doK s l k).2 v->z6f (doK s l (k+1)).2 v=dn a (ph a b (z6f (doK s l k).2 v))/\0<=z6f (doK s l (k+1)).2 v:=fun v hv=>by
  have hw:0<=dn a (ph a b (z6f (doK s l k).2 v)):=zd4 (by unfold ph;split<;>omega) ia.1
  have e:z6f (doK s l (k+1)).2 v=dn a (ph a b (z6f (doK s l k).2 v)):=by
   rw [e2,z8B,d3,d4,zLj hv,if_neg (by omega)]
  exact ⟨e,by rw [e];exact hw⟩
 rw [<- ea,<- eb];refine ⟨by rw [zOj];exact d1,by rw [e1,d2],hn,⟨?_,?_,?_,?_,?_,?_⟩⟩
 ·have hs:=z95 hb;rw [e1,d2];rw [zCr] at hs
  have ec:(l.drop (k+1)).map (zbJ (doK s l (k+1)).2)=(l.drop (k+1)).map (dn2 a ∘ zbJ (doK s l k).2):=by
   refine qJ fun e he=> ?_;have hm:zbJ (doK s l k).2 e∈(l.drop (k+1)).map (zbJ (doK s l k).2):=zU.2 ⟨e,he,rfl⟩;have hf2:zNP (doK s l k).1.2 (zbJ (doK s l k).2 e).1 (zbJ (doK s l k).2 e).2:=hb.free _ (zN _ hm);have hap:=(List.pairwise_cons.1 hb.apart).1 _ hm;have hne:=z7O hf2 hap;have hi2:=z0Z hb.surf hf2;show (z6f _ e.1,z6f _ e.2)=(dn a (z6f _ e.1),dn a (z6f _ e.2));rw [(hn e.1 hi2.1.1).1,(hn e.2 hi2.2.1).1,zMJ (show z6f _ e.1≠a from hne.1.1),zMJ (show z6f _ e.2≠a from hne.2.1)]
  rw [ec];exact hs
 ·rw [e2,zO,h.len];rfl
 ·rw [e1,d2];show (doK s l k).1.1 - 1=_;rw [h.num];omega
 ·rw [e1,e2];refine .snoc h.ch ?_;rw [d3,d4];have e0:=zR8 d1;rw [e0]
 ·intro r hr;rw [e2] at hr;rcases z8.1 hr with k|k
  ·exact h.ok r k
  ·rw [zF.1 k,d4];have:=hb.surf.fit.2.1;omega
 ·rw [e1,d2];show ((zDG a b (doK s l k).1.2).map _).length<=_;rw [jF];exact jB (zbM _ _ _) h.tri
theorem z7R {s:SoT} {l:EdB} (h:z9P s l): ∀ k,k<=l.length->zdP s l k
 | 0,_=>by
   refine ⟨?_,rfl,(Int.sub_zero _).symm,.nil,fun r hr=>(by cases hr),zH _⟩
   have e:(l.drop 0).map (zbJ (doK s l 0).2)=l:=by
    rw [jJ];exact (qJ (fun e _=>show (z6f [] e.1,z6f [] e.2)=e from rfl)).trans (List.map_id l)
   rw [e];exact h
 | k+1,hk=>(z7Z (z7R h k (by omega)) (by omega)).2.2.2
end S1
namespace S1
def z7z (o:Option z6.T) (l:List (Int×Int)):Bool:=match o with
 | some x=>decide (((z6i x l).length:Int)=l.length)
 | none=>false
attribute [local irreducible] z6i
theorem zcu (x:z6.T) (l:List (Int×Int)) (g:Full x) (hs:j5 (InN x.1.1) x.1.2) (hl9:l.length<=100000):zAk ⟨tyL,[(10,z7C)],[]⟩ f35 [(ETy.pt z6).av (some x),(ETy.sl .arr2).av l] (fun r=>r= .s (.bool (z7z (some x) l))):=by
 repeat' (conv=>whnf
          first|done|refine qy ?_|refine qG fun _=> ?_|refine qw (fun _=> ?_) (fun _=> ?_)|apply qt|refine qi (fun _=> ?_) (fun _=> ?_)|refine qu ?_|refine qv ?_ ?_|exact zL)
 all_goals try first|refine qz ?_|apply qz5
 all_goals try simp only [qn0,zY,zX,ETy.dflt,Int.reduceToNat,Int.reduceAdd,Int.reduceSub,Int.reduceNeg,Nat.reduceAdd,z7z] at *
 all_goals try exact qh ⟨fun y h=>by cases h;exact ⟨g,hs⟩,hl9⟩
 all_goals (rw [Bool.eq_iff_iff,beq_iff_eq,zB];done)
theorem zcK (l:List (Int×Int)):zAk ⟨tyL,[(10,z7C)],[]⟩ f35 [(ETy.pt z6).av none,(ETy.sl .arr2).av l] (fun r=>r= .s (.bool (z7z none l))):=by
 repeat' (conv=>whnf
          first|done|refine qy ?_|refine qG fun _=> ?_|refine qw (fun _=> ?_) (fun _=> ?_)|apply qt|refine qi (fun _=> ?_) (fun _=> ?_)|refine qu ?_|refine qv ?_ ?_|exact zL)
 all_goals try first|refine qz ?_|apply qz5
 all_goals try simp only [qn0,zY,zX,ETy.dflt,Int.reduceToNat,Int.reduceAdd,Int.reduceSub,Int.reduceNeg,Nat.reduceAdd,z7z] at *
 all_goals try rfl
def zcg:List AV->Option Res:=zFm (.pt z6) (.sl .arr2) (fun o l=>some (none,some ((∀ x,o=some x->Full x/\j5 (InN x.1.1) x.1.2)/\l.length<=100000),.s (.bool (z7z o l))))
theorem zb9:jN prog 35 zcg:=mkR (zA4 fun o l r h=>by
 cases h;cases o with
 | none=>exact fb (fn:=[(10,z7C)]) ⟨z7Y,trivial⟩ func35 fun _ _=>zcK l
 | some x=>exact fb (fn:=[(10,z7C)]) ⟨z7Y,trivial⟩ func35 fun _ h=>zcu x l (h.1 x rfl).1 (h.1 x rfl).2 h.2) func35
def z8Z (s:SoT) (l:EdB):Int:=if isR s=true then (if z7z (some (j8 s)) l=true then 0 else 14) else 11
def doB (s:SoT) (l:EdB):SoT×List zDZ×Int:=if z8Z s l=0 then ((doK s l l.length).1,(doK s l l.length).2,0) else ((0,[]),[],z8Z s l)
def zd1 (r:SoT×List zDZ×Int):AV:= .tup [jQ.av r.1,.s (.sl zSF r.2.1),.s (.int .i64 r.2.2)]
def zcw (r:SoT×List zDZ×Int):AV:=if r.2.2=0 then zd1 r else .tup [.agg [.int .i64 0,.val (.slice none 0 0)],.s (.sl zSF []),.s (.int .i64 r.2.2)]
theorem zaJ {s:SoT} {l:EdB} (h:z8Z s l=0):doB s l=((doK s l l.length).1,(doK s l l.length).2,0):=if_pos h
theorem zdI {s:SoT} {l:EdB} {e:Int} (h:z8Z s l=e) (he:e≠0):doB s l=((0,[]),[],e):=by unfold doB;rw [if_neg (by rw [h];exact he),h]
theorem zbw {s:SoT} {l:EdB} {e:Int} (h:z8Z s l=e) (he:e≠0):zcw (doB s l)= .tup [.agg [.int .i64 0,.val (.slice none 0 0)],.s (.sl zSF []),.s (.int .i64 e)]:=by
 rw [zdI h he];unfold zcw;rw [if_neg he]
theorem z8i {I:Sig} {s:SoT} {l:EdB} {v:Value} (h:qD I [] (zcw (doB s l)) v):qD I [] (zd1 (doB s l)) v:=by
 by_cases he:z8Z s l=0
 ·rw [zaJ he] at *;exact h
 ·rw [zbw rfl he] at h;rw [zdI rfl he];obtain ⟨vs,e1,h⟩:=h
  match vs,h with
  | [x,y,z],⟨⟨ds,ea,h1⟩,h2,h3⟩ =>
    refine ⟨_,e1,⟨ds,ea,?_⟩,h2,h3⟩
    match ds,h1 with
    | [d1,d2],⟨k1,k2,k3⟩=>exact ⟨k1,zK1 k2,k3⟩
theorem z71 {s:SoT} (hs:zDM s) {l:EdB} :z7z (some (j8 s)) l=true↔z9P s l:=by
 obtain ⟨_,g,e⟩:=zCO hs;have hm:j5 (InN (j8 s).1.1) (j8 s).1.2:=zAy (s:=(j8 s).1) (by rw [e];exact hs);have:=z8e g hm (l:=l);unfold z7z;rw [zB];constructor
 ·intro h;have b:=this.1 (by omega);exact ⟨hs,by rw [<- e];exact b.free,by rw [<- e];exact b.apart⟩
 ·intro h;have:=this.2 ⟨by rw [e];exact h.free,by rw [e];exact h.apart⟩;omega
theorem zbA (s:SoT) (l:EdB) (k:Nat):doK s l (k+1)=((doR (doK s l k).1 (z6f (doK s l k).2 (l.getD k (0,0)).1) (z6f (doK s l k).2 (l.getD k (0,0)).2)).1,
 (doK s l k).2++[(doR (doK s l k).1 (z6f (doK s l k).2 (l.getD k (0,0)).1) (z6f (doK s l k).2 (l.getD k (0,0)).2)).2.1]):=rfl
theorem zcQ (s:SoT) (l:EdB):doK s l 0=(s,[]):=rfl
def z9z (s:SoT) (l:EdB):Spec Nat where
 inv k:=k<=l.length
 live k:=[(35,.s (.int .i64 k)),(9,.s (.own 4 0 (doK s l k).2.length))]
 keep:=[2,4,33,34]
 heap k:=[(0,.flat 24 [.int .i64 (doK s l k).1.1,.sl .arr3 (doK s l k).1.2]),(4,.row zSF 40 (doK s l k).2)]
 keepH:=[1,2,3]
 mu k:=l.length - k
attribute [local irreducible] doR z6f doK z7z
theorem zcm (n:Int) (l:List P3) (es:EdB) (x:z6.T) (hx:zHO (n,l)=some x) (hl9:es.length<=100000):zAk ⟨tyL,[(21,zTG x),(35,zcg),(42,zUX),(43,zd0),(16,zTE)],[]⟩ f12 [jQ.av (n,l),(ETy.sl .arr2).av es] (fun r=>r=zcw (doB (n,l) es)):=by
 obtain ⟨e0,g,hs⟩:=zQB hx
 repeat' (conv=>whnf
          first|done|refine qy ?_|refine qG fun _=> ?_|refine qw (fun _=> ?_) (fun _=> ?_)|apply qt|refine qi (fun _=> ?_) (fun _=> ?_)|(refine jS 9 rfl (z9z (n,l) es) (0) ?_ ?_ ?_ fun k hk=> ?_)|with_reducible refine jK (z9z _ _) (k+1) ?_ ?_ ?_ ?_|refine qu ?_|refine qv ?_ ?_|exact zL)
 all_goals try first|refine qz ?_|apply qz5
 all_goals try simp only [qn0,zY,zX,ETy.dflt,Int.reduceToNat,Int.reduceAdd,Int.reduceSub,Int.reduceNeg,Nat.reduceAdd,z9z] at *
 all_goals have hsm:j5 (InN x.1.1) x.1.2:=by
            obtain ⟨_,_,e⟩:=zCO hs;rw [e0];exact zAy (s:=(j8 (n,l)).1) (by rw [e];exact hs)
 all_goals try exact qh ⟨fun y h=>by cases h;exact ⟨g,hsm⟩,hl9⟩
 all_goals try
  have hB0:z7z (some x) es=false:=by assumption
  have h14:z8Z (n,l) es=14:=by
        unfold z8Z;rw [if_pos ((zGw (n,l)).2 hs),<- e0,if_neg (by rw [hB0];decide)]
  exact jE.intro (zbw h14 (by decide)).symm
 all_goals have hB:z7z (some x) es=true:=by assumption
 all_goals have hb:z9P (n,l) es:=(z71 hs).1 (by rw [<- e0];exact hB)
 all_goals have h0:z8Z (n,l) es=0:=by
            unfold z8Z;rw [if_pos ((zGw (n,l)).2 hs),<- e0,if_pos hB]
 all_goals try exact qh (show l.length<=8192 from hs.fit.2.2.1)
 all_goals try (refine qh ?_;omega)
 all_goals try first
  | (rw [zcQ];done)
  | (rw [zcQ];rfl)
  | (rw [zcQ];exact zAF.intro rfl)
 all_goals have hd:=z7R hb k hk
 all_goals have hdl:=hd.len
 all_goals try (refine qh ?_;omega)
 all_goals try
  have e9:k=List.length es:=by omega
  subst e9;refine jE.intro ?_;rw [zaJ h0];unfold zcw;rw [if_pos rfl];rfl
 all_goals have hk1:k<List.length es:=by omega
 all_goals have hst:=z7Z hd hk1
 all_goals try exact absurd hst.1 (by assumption)
 all_goals try first
  | (rw [zbA,zO];done)
  | (rw [zbA,zO];rfl)
  | (rw [zbA];done)
  | (rw [zbA];exact zAF.intro rfl)
 all_goals
  have hm : List.getD es k (0,0)∈es:=by
            rw [gdE,gE hk1];exact qF hk1
  have hi:=z0Z hs (hb.free _ hm);have hn: @LE.le Int _ n 4096:=hs.fit.2.1;have h1: @LE.le Int _ 0 (List.getD es k (0,0)).1/\@LT.lt Int _ (List.getD es k (0,0)).1 n:=hi.1;have h2: @LE.le Int _ 0 (List.getD es k (0,0)).2/\@LT.lt Int _ (List.getD es k (0,0)).2 n:=hi.2;exact qh ⟨⟨by omega,by omega⟩,hd.ok⟩
def zcz:List AV->Option Res:=zFm jQ (.sl .arr2) (fun s es=>some (none,some (zDM s/\es.length<=100000),zd1 (doB s es)))
theorem zbd:jN prog 12 zcz:=mkR (zA4 fun s es r h=>by
 cases h;cases e:zHO s with
 | none=>exact zDY.res (fun I vals w hag hv=>⟨trivial,fun hq=>absurd (zCO (show zDM s from hq.1)).1 (by rw [e];simp)⟩) fun I v h=>z8i h
 | some x=>exact zDY.res (fb (fn:=[(21,zTG x),(35,zcg),(42,zUX),(43,zd0),(16,zTE)]) ⟨(zSQ x),zb9,zWz,zck,zMa,trivial⟩ func12 fun _ h=>zcm s.1 s.2 es x e h.2) fun I v h=>z8i h) func12
end S1
namespace S9
open S1
@[irreducible] def z7A (t:P3) (v:Int):Bool:=t.1==v|| (t.2.1==v|| t.2.2==v)
@[irreducible] def z8S (t:P3) (a b:Int):Bool:=(t.1==a&&t.2.1==b)|| ((t.2.1==a&&t.2.2==b)|| (t.2.2==a&&t.1==b))
theorem zbL {fn} (t:P3) (a b:Int):zAk ⟨tyL,fn,[]⟩ f144 [ETy.arr3.av t,(ETy.int .i64).av a,(ETy.int .i64).av b] (fun r=>r= .s (.bool (z8S t a b))):=by
 repeat' (conv=>whnf
          first|done|refine qy ?_|refine qG fun _=> ?_|refine qw (fun _=> ?_) (fun _=> ?_)|apply qt|refine qi (fun _=> ?_) (fun _=> ?_)|refine qu ?_|refine qv ?_ ?_|exact zL)
 all_goals try first|refine qz ?_|apply qz5
 all_goals try simp only [qn0,zY,zX,ETy.dflt,Int.reduceToNat,Int.reduceAdd,Int.reduceSub,Int.reduceNeg,Nat.reduceAdd,z8S] at *
 all_goals rw [Bool.eq_iff_iff];simp only [yN,zA,beq_iff_eq,Bool.false_eq_true,true_iff,iff_true,false_iff,iff_false];omega
def zbh:List AV->Option Res:=zOs .arr3 (.int .i64) (.int .i64) (fun t a b=>some (none,none,.s (.bool (z8S t a b))))
theorem zbT:jN prog 144 zbh:=mkR (zEa fun t a b r h=>by cases h;exact fb (fn:=[]) trivial func144 fun _ _=>zbL t a b) func144
theorem zcX {fn} (t:P3) (v:Int):zAk ⟨tyL,fn,[]⟩ f90 [ETy.arr3.av t,(ETy.int .i64).av v] (fun r=>r= .s (.bool (z7A t v))):=by
 repeat' (conv=>whnf
          first|done|refine qy ?_|refine qG fun _=> ?_|refine qw (fun _=> ?_) (fun _=> ?_)|apply qt|refine qi (fun _=> ?_) (fun _=> ?_)|refine qu ?_|refine qv ?_ ?_|exact zL)
 all_goals try first|refine qz ?_|apply qz5
 all_goals try simp only [qn0,zY,zX,ETy.dflt,Int.reduceToNat,Int.reduceAdd,Int.reduceSub,Int.reduceNeg,Nat.reduceAdd,z7A] at *
 ·rename_i h;rw [h];simp
 ·rename_i h1 h;rw [h];simp
 ·rename_i h1 h2;rw [beq_false_of_ne h1,beq_false_of_ne h2];rfl
def zbS:List AV->Option Res:=zFm .arr3 (.int .i64) (fun t v=>some (none,none,.s (.bool (z7A t v))))
theorem z8a:jN prog 90 zbS:=mkR (zA4 fun t v r h=>by cases h;exact fb (fn:=[]) trivial func90 fun _ _=>zcX t v) func90
@[irreducible] def z7S (t u:P3):Bool:=z8S u t.1 t.2.1|| (z8S u t.2.1 t.2.2|| z8S u t.2.2 t.1)
theorem zap (t u:P3):zAk ⟨tyL,[(144,zbh)],[]⟩ Tryz.f125 [ETy.arr3.av t,ETy.arr3.av u] (fun r=>r= .s (.bool (z7S t u))):=by
 repeat' (conv=>whnf
          first|done|refine qy ?_|refine qG fun _=> ?_|refine qw (fun _=> ?_) (fun _=> ?_)|apply qt|refine qi (fun _=> ?_) (fun _=> ?_)|refine qu ?_|refine qv ?_ ?_|exact zL)
 all_goals try first|refine qz ?_|apply qz5
 all_goals try simp only [qn0,zY,zX,ETy.dflt,Int.reduceToNat,Int.reduceAdd,Int.reduceSub,Int.reduceNeg,Nat.reduceAdd,z7S] at *
 all_goals simp [*]
def zao:List AV->Option Res:=zFm .arr3 .arr3 (fun t u=>some (none,none,.s (.bool (z7S t u))))
theorem zaI:jN prog 125 zao:=mkR (zA4 fun t u r h=>by cases h;exact fb (by exact ⟨zbT,trivial⟩) func125 fun _ _=>zap t u) func125
def zSE (n:Int):Nat->List P3->List Wit
 | _,[]=>[]
 | i,t::r=>if zGz n t then zSE n (i+1) r else (1,(i:Int),0)::zSE n (i+1) r
def zXc (s:Int×List P3):Bool:=decide (s.1<0)|| (decide (s.1>4096)|| decide ((s.2.length:Int)>8192))
def zBm (s:Int×List P3):List Wit:=if zXc s then [(1,-1,0)] else zSE s.1 0 s.2
def z2Z (n:Int) (l:List P3):Spec (Nat×List Wit) where
 inv x:=x.1<=l.length/\x.2.length<=x.1/\zSE n 0 l=x.2++zSE n x.1 (l.drop x.1)
 live x:=[(4,.s (.int .i64 x.1)),(3,.s (.own 2 0 x.2.length))]
 keep:=[1]
 heap x:=[(2,.row zCp 128 x.2)]
 keepH:=[0]
 mu x:=l.length - x.1
theorem z1s {n:Int} {t:P3} (h:t.1<0\/t.1>=n\/t.2.1<0\/t.2.1>=n\/t.2.2<0\/t.2.2>=n):zGz n t=false:=by
 rw [<- zA3];intro e;have:=zAv e;omega
theorem zQ5 {n:Int} {t:P3} (h: ¬ (t.1<0\/t.1>=n\/t.2.1<0\/t.2.1>=n\/t.2.2<0\/t.2.2>=n)):zGz n t=true:=by
 simp only [zGz,vIn,zA,y8,Bool.or_eq_false_iff,yX];omega
theorem za0 {fn} (n:Int) (l:List P3):zGM ⟨tyL,fn,[]⟩ f88 [jQ.av (n,l)] (fun v obs=>v= .s (.own 0 0 (zBm (n,l)).length)/\obs=[.row zCp 128 (zBm (n,l))]):=by
 repeat' (conv=>whnf
          first|done|refine qy ?_|refine qG fun _=> ?_|refine qw (fun _=> ?_) (fun _=> ?_)|apply qt|refine qi (fun _=> ?_) (fun _=> ?_)|(refine jS 5 rfl (z2Z n l) ((0,[])) ?_ ?_ ?_ fun x hx=> ?_)|(refine zJa 9 rfl ?_;refine Or.inl (yM (4) ?_))|with_reducible refine jK (z2Z _ _) ((x.1+1,if zGz n (l.getD x.1 (0,0,0)) then x.2 else x.2++[(1,(x.1:Int),0)])) ?_ ?_ ?_ ?_|refine qu ?_|refine qv ?_ ?_|exact zL)
 all_goals try first|refine qz ?_|apply qz5
 all_goals try simp only [qn0,zY,zX,ETy.dflt,Int.reduceToNat,Int.reduceAdd,Int.reduceSub,Int.reduceNeg,Nat.reduceAdd,z2Z] at *
 all_goals try (refine qh ?_;omega)
 all_goals try (refine qh ?_;simp only [List.length_singleton];omega)
 ·rename_i h;simp only [zBm,zXc,decide_eq_true h,Bool.true_or,if_true];rfl
 ·rename_i h;simp only [zBm,zXc,decide_eq_true h,Bool.true_or,if_true]
 ·rename_i h;simp only [zBm,zXc,decide_eq_true h,Bool.true_or,Bool.or_true,if_true];rfl
 ·rename_i h;simp only [zBm,zXc,decide_eq_true h,Bool.true_or,Bool.or_true,if_true]
 ·rename_i h;simp only [zBm,zXc,decide_eq_true h,Bool.true_or,Bool.or_true,if_true];rfl
 ·rename_i h;simp only [zBm,zXc,decide_eq_true h,Bool.true_or,Bool.or_true,if_true]
 ·exact qh ⟨y7 _,zH _,rfl⟩
 all_goals try
  (have ht:zGz n (l.getD x.1 (0,0,0))=false:=z1s (by omega)
   (simp only [ht,Bool.false_eq_true,if_false,zO,List.length_singleton]) <;>
   (refine zA9.intro ⟨by omega,by omega,?_⟩;rw [hx.2.2,zCt (0,0,0) (by assumption),zSE,ht];simp;done))
 all_goals try
  (have ht:zGz n (l.getD x.1 (0,0,0))=true:=zQ5 (by omega)
   (simp only [ht,if_true]) <;>
   (refine zA9.intro ⟨by omega,by omega,?_⟩;rw [hx.2.2,zCt (0,0,0) (by assumption),zSE,ht];simp;done))
 all_goals
  have e:zBm (n,l)=x.2:=by
   have hb:zXc (n,l)=false:=by simp only [zXc,Bool.or_eq_false_iff,yX];omega
   simp only [zBm,hb,Bool.false_eq_true,if_false];rw [hx.2.2,zHf (by assumption)];simp [zSE]
  rw [e]
def zaN:List AV->Option zLx:=zF4 jQ (fun s=>some (none,none,.s (.own 0 0 (zBm s).length),[.row zCp 128 (zBm s)]))
theorem za6:zEO prog 88 zaN:=zW5 (zDq fun s r h=>by cases h;exact fbF (fn:=[]) trivial func88 fun _ _=>za0 s.1 s.2) func88
end S9
namespace S9
open S1
@[irreducible] def ptR (k:Int) (t u:P3):Bool:=(k==3&&z7S t u)|| (k==4&&(z7A u t.1&&(z7A u t.2.1&&z7A u t.2.2)))
def prG (l:List P3) (k:Int) (b a:Nat):Option Wit:=if ptR k (l.getD a (0,0,0)) (l.getD b (0,0,0)) then some (k,(a:Int),(b:Int)) else none
def prI (l:List P3) (k:Int) (b a:Nat):List Wit:=(List.range a).filterMap (prG l k b)
def prO (l:List P3) (k:Int) (b:Nat):List Wit:=(List.range b).flatMap fun b=>prI l k b b
theorem z7e (l:List P3) (k:Int) (b a:Nat):prI l k b (a+1)=prI l k b a++(prG l k b a).toList:=by
 unfold prI;rw [List.range_succ,List.filterMap_append];simp only [List.filterMap_cons,List.filterMap_nil];cases prG l k b a<;>rfl
theorem z8m (l:List P3) (k:Int) (b:Nat):prO l k (b+1)=prO l k b++prI l k b b:=by
 unfold prO;rw [List.range_succ,List.flatMap_append];simp
theorem z92 (l:List P3) (k:Int) (b a:Nat):(prI l k b a).length<=a:=by
 unfold prI;exact jB (List.length_filterMap_le _ _) (by simp)
theorem zau (l:List P3) (k:Int): ∀ b:Nat,b<=8192->(prO l k b).length<=b*8192
 | 0,_=>by simp [prO]
 | b+1,h=>by
   rw [z8m,zO];have:=zau l k b (by omega);have:=z92 l k b b;omega
def zJz (l:List P3) (k:Int):Spec Nat where
 inv b:=b<=l.length
 live b:=[(6,.s (.int .i64 b)),(5,.s (.own 2 0 (prO l k b).length))]
 keep:=[1,2]
 heap b:=[(2,.row zCp 128 (prO l k b))]
 keepH:=[0]
 mu b:=l.length - b
def zJq (l:List P3) (k:Int) (b:Nat):Spec Nat where
 inv a:=a<=b
 live a:=[(7,.s (.int .i64 a)),(5,.s (.own 2 0 (prO l k b++prI l k b a).length))]
 keep:=[1,2,6]
 heap a:=[(2,.row zCp 128 (prO l k b++prI l k b a))]
 keepH:=[0]
 mu a:=b - a
theorem za5 (n:Int) (l:List P3) (k:Int) (hl:l.length<=8192):zGM ⟨tyL,[(125,zao),(90,zbS)],[]⟩ f89 [jQ.av (n,l),(ETy.int .i64).av k] (fun v obs=>v= .s (.own 0 0 (prO l k l.length).length)/\obs=[.row zCp 128 (prO l k l.length)]):=by
 repeat' (conv=>whnf
          first|done|refine qy ?_|refine qG fun _=> ?_|refine qw (fun _=> ?_) (fun _=> ?_)|apply qt|refine qi (fun _=> ?_) (fun _=> ?_)|(refine jS 3 rfl (zJz l k) (0) ?_ ?_ ?_ fun b hb=> ?_)|with_reducible refine jK (zJz _ _) (b+1) ?_ ?_ ?_ ?_|(refine jS 6 rfl (zJq l k b) (0) ?_ ?_ ?_ fun a ha=> ?_)|with_reducible refine jK (zJq _ _ _) (a+1) ?_ ?_ ?_ ?_|refine qu ?_|refine qv ?_ ?_|exact zL)
 all_goals try first|refine qz ?_|apply qz5
 all_goals try simp only [qn0,zY,zX,ETy.dflt,Int.reduceToNat,Int.reduceAdd,Int.reduceSub,Int.reduceNeg,Nat.reduceAdd,zJz,zJq] at *
 all_goals try (refine qh ?_;omega)
 all_goals try
  (have h1:=zau l k b (by omega)
   have h2:=z92 l k b a
   refine qh ?_;rw [zO];omega)
 all_goals try (simp [prI];done)
 all_goals try (exfalso;omega)
 all_goals try
  (have hp:ptR k (l.getD a (0,0,0)) (l.getD b (0,0,0))=true:=by unfold ptR;simp only [*];simp
   rw [z7e,prG,if_pos hp];simp [zAQ];done)
 all_goals try
  (have hp:ptR k (l.getD a (0,0,0)) (l.getD b (0,0,0))=false:=by unfold ptR;simp only [*];simp [*]
   rw [z7e,prG,if_neg (by rw [hp];decide)];simp;done)
 all_goals try
  (have hp:ptR k (l.getD a (0,0,0)) (l.getD b (0,0,0))=false:=by
    unfold ptR;rw [beq_false_of_ne (by assumption:k≠3),beq_false_of_ne (by assumption:k≠4)];rfl
   rw [z7e,prG,if_neg (by rw [hp];decide)];simp;done)
 all_goals try
  (have e:a=b:=by omega
   subst e;rw [z8m])
 all_goals
  have e:b=l.length:=by omega
  rw [e]
def z9c:List AV->Option zLx:=zFm jQ (.int .i64) (fun s k=>some (none,some (s.2.length<=8192),.s (.own 0 0 (prO s.2 k s.2.length).length),[.row zCp 128 (prO s.2 k s.2.length)]))
theorem zaO:zEO prog 89 z9c:=zW5 (zYk fun s k r h=>by cases h;exact fbF (by exact ⟨zaI,z8a,trivial⟩) func89 fun _ h=>za5 s.1 s.2 k h) func89
def z6c (l:List P3) (v:Int):List P3:=l.filter (z7A · v)
def tch (v w:Int) (u:P3):Bool:=decide (w≠v)&&z7A u w
@[irreducible] def touch (m:List P3) (v:Int) (i k:Nat):Bool :=
  tch v (m.getD i (0,0,0)).1 (m.getD k (0,0,0))|| (tch v (m.getD i (0,0,0)).2.1 (m.getD k (0,0,0))|| tch v (m.getD i (0,0,0)).2.2 (m.getD k (0,0,0)))
def pk (m:List P3) (v:Int) (i:Nat) (s:List Bool) (k:Nat):List Bool:=if s.getD i false=false\/s.getD k false=true then s else if touch m v i k then s.set k true else s
def z7N (m:List P3) (v:Int) (i:Nat) (s:List Bool) (k:Nat):List Bool:=(List.range k).foldl (pk m v i) s
def z7L (m:List P3) (v:Int) (s:List Bool) (i:Nat):List Bool:=(List.range i).foldl (fun s i=>z7N m v i s m.length) s
def z7D (m:List P3) (v:Int) (r:Nat):List Bool:=(List.range r).foldl (fun s _=>z7L m v s m.length) ((List.replicate m.length false).set 0 true)
@[irreducible] def z6z (l:List P3) (v:Int):Bool:= !(List.range (z6c l v).length).all fun j=>(z7D (z6c l v) v (z6c l v).length).getD j false
theorem z6e (m:List P3) (v:Int) (i:Nat) (s:List Bool) (k:Nat):z7N m v i s (k+1)=pk m v i (z7N m v i s k) k:=by
 unfold z7N;rw [List.range_succ,z6a];rfl
theorem z6j (m:List P3) (v:Int) (s:List Bool) (i:Nat):z7L m v s (i+1)=z7N m v i (z7L m v s i) m.length:=by
 unfold z7L;rw [List.range_succ,z6a];rfl
theorem z6h (m:List P3) (v:Int) (r:Nat):z7D m v (r+1)=z7L m v (z7D m v r) m.length:=by
 unfold z7D;rw [List.range_succ,z6a];rfl
theorem z6v (l:List P3) (v:Int) {i:Nat} (h:(i:Int)<l.length):z6c (l.take (i+1)) v=z6c (l.take i) v++(if z7A (l.getD i (0,0,0)) v then [l.getD i (0,0,0)] else []):=by
 have h:i<l.length:=by omega
 unfold z6c;rw [List.take_add_one,zDO,gdE,gE h];simp only [Option.toList_some,qL,zC4,List.filter_nil]
theorem za4 (l:List P3) (v:Int) (i:Nat):(z6c (l.take i) v).length<=l.length:=by
 unfold z6c;exact jB (z6p _ _) (by simp;omega)
theorem z7n {s:List Bool} {i k:Nat} (h1:s.getD i false=true) (h2:s.getD k false=false): ¬ (s.getD i false=false\/s.getD k false=true):=by
 rw [h1,h2];decide
theorem zcW {m:List P3} {v:Int} {i k:Nat} (h:((m.getD i (0,0,0)).1≠v/\z7A (m.getD k (0,0,0)) (m.getD i (0,0,0)).1=true)\/((m.getD i (0,0,0)).2.1≠v/\z7A (m.getD k (0,0,0)) (m.getD i (0,0,0)).2.1=true)\/
 ((m.getD i (0,0,0)).2.2≠v/\z7A (m.getD k (0,0,0)) (m.getD i (0,0,0)).2.2=true)):touch m v i k=true:=by
 unfold touch tch;simp only [yN,zA,zB];exact h
theorem zc2 {m:List P3} {v:Int} {i k:Nat} (h1:(m.getD i (0,0,0)).1=v\/z7A (m.getD k (0,0,0)) (m.getD i (0,0,0)).1=false) (h2:(m.getD i (0,0,0)).2.1=v\/z7A (m.getD k (0,0,0)) (m.getD i (0,0,0)).2.1=false)
 (h3:(m.getD i (0,0,0)).2.2=v\/z7A (m.getD k (0,0,0)) (m.getD i (0,0,0)).2.2=false): ¬ touch m v i k=true:=by
 have key: ∀ {w:Int} {u:P3},w=v\/z7A u w=false->¬ (w≠v/\z7A u w=true):=by
  rintro w u (h|h) ⟨a,b⟩
  ·exact a h
  ·rw [h] at b;cases b
 unfold touch tch;simp only [yN,zA,zB];rintro (h|h|h)
 ·exact key h1 h
 ·exact key h2 h
 ·exact key h3 h
def zTo (l:List P3) (v:Int):Spec Nat where
 inv i:=i<=l.length
 live i:=[(6,.s (.int .i64 i)),(5,.s (.own 1 0 (z6c (l.take i) v).length))]
 keep:=[1,2]
 heap i:=[(1,.row .arr3 68 (z6c (l.take i) v))]
 keepH:=[0]
 mu i:=l.length - i
def zUB (m:List P3) (v:Int):Spec Nat where
 inv r:=r<=m.length
 live r:=[(45,.s (.int .i64 r))]
 keep:=[1,5,7,44]
 heap r:=[(2,.row .bool 4 (z7D m v r))]
 keepH:=[1]
 mu r:=m.length - r
def zaa (m:List P3) (v:Int) (s:List Bool):Spec Nat where
 inv i:=i<=m.length
 live i:=[(8,.s (.int .i64 i))]
 keep:=[1,5,7,44,45]
 heap i:=[(2,.row .bool 4 (z7L m v s i))]
 keepH:=[1]
 mu i:=m.length - i
def zaE (m:List P3) (v:Int) (i:Nat) (s:List Bool):Spec Nat where
 inv k:=k<=m.length
 live k:=[(9,.s (.int .i64 k))]
 keep:=[1,5,7,8,44,45]
 heap k:=[(2,.row .bool 4 (z7N m v i s k))]
 keepH:=[1]
 mu k:=m.length - k
def z96 (n:Nat) (s:List Bool):Spec Nat where
 inv i:=i<=n/\∀ j,j<i->s.getD j false=true
 live i:=[(12,.s (.int .i64 i))]
 keep:=[1,5,7]
 heap _:=[]
 keepH:=[1,2]
 mu i:=n - i
theorem zaU (n:Int) (l:List P3) (v:Int) (hl:l.length<=8192):zAk ⟨tyL,[(90,zbS)],[]⟩ f91 [jQ.av (n,l),(ETy.int .i64).av v] (fun r=>r= .s (.bool (z6z l v))):=by
 repeat' (conv=>whnf
          first|done|refine qy ?_|refine qG fun _=> ?_|refine qw (fun _=> ?_) (fun _=> ?_)|apply qt|refine qi (fun _=> ?_) (fun _=> ?_)|(refine jS 3 rfl (zTo l v) (0) ?_ ?_ ?_ fun i hi=> ?_)|with_reducible refine jK (zTo _ _) (i+1) ?_ ?_ ?_ ?_|(refine jS 12 rfl (zUB (z6c (l.take i) v) v) (0) ?_ ?_ ?_ fun r hr=> ?_)|with_reducible refine jK (zUB _ _) (r+1) ?_ ?_ ?_ ?_|(refine jS 14 rfl (zaa (z6c (l.take i) v) v (z7D (z6c (l.take i) v) v r)) (0) ?_ ?_ ?_ fun x hx=> ?_)|with_reducible refine jK (zaa _ _ _) (x+1) ?_ ?_ ?_ ?_|(refine jS 17 rfl (zaE (z6c (l.take i) v) v x (z7L (z6c (l.take i) v) v (z7D (z6c (l.take i) v) v r) x)) (0) ?_ ?_ ?_ fun k hk=> ?_)|with_reducible refine jK (zaE _ _ _ _) (k+1) ?_ ?_ ?_ ?_|(refine zJa 21 rfl ?_;refine Or.inl (yM (4) ?_))|(refine jS 28 rfl (z96 (z6c (l.take i) v).length (z7D (z6c (l.take i) v) v r)) (0) ?_ ?_ ?_ fun y hy=> ?_)|with_reducible refine jK (z96 _ _) (y+1) ?_ ?_ ?_ ?_|refine qu ?_|refine qv ?_ ?_|exact zL)
 all_goals try first|refine qz ?_|apply qz5
 all_goals try simp only [qn0,zY,zX,ETy.dflt,Int.reduceToNat,Int.reduceAdd,Int.reduceSub,Int.reduceNeg,Nat.reduceAdd,zTo,zUB,zaa,zaE,z96] at *
 all_goals try (refine qh ?_;omega)
 all_goals try rfl
 all_goals try
  (have h:=za4 l v i
   refine qh ?_;omega)
 all_goals try (rw [z6e,pk,if_pos (Or.inl (by assumption))];done)
 all_goals try (rw [z6e,pk,if_pos (Or.inr (by assumption))];done)
 all_goals try (rw [z6e,pk,if_neg (z7n (by assumption) (by assumption)),if_pos (zcW (by first|exact .inl ⟨by assumption,by assumption⟩|exact .inr (.inl ⟨by assumption,by assumption⟩)|exact .inr (.inr ⟨by assumption,by assumption⟩)))];(try simp only [List.set_set]);done)
 all_goals try (rw [z6e,pk,if_neg (z7n (by assumption) (by assumption)),if_neg (zc2 (by first|exact .inl (by assumption)|exact .inr (by assumption)) (by first|exact .inl (by assumption)|exact .inr (by assumption)) (by first|exact .inl (by assumption)|exact .inr (by assumption)))];done)
 all_goals try
  (have e:k=(z6c (l.take i) v).length:=by omega
   rw [z6j,<- e];done)
 all_goals try
  (have e:x=(z6c (l.take i) v).length:=by omega
   rw [z6h,<- e];done)
 ·rw [z6v _ _ (by assumption),if_pos (by assumption)];simp
 ·rw [z6v _ _ (by assumption),if_pos (by assumption)]
 ·rw [z6v _ _ (by assumption),if_neg (by rw [‹z7A _ _=false›];decide)];simp
 ·rw [z6v _ _ (by assumption),if_neg (by rw [‹z7A _ _=false›];decide)];simp
 ·have e:l.take i=l:=q9 (by omega);rename_i h;rw [e] at h;have h:(z6c l v).length=0:=by omega
  unfold z6z;rw [h];rfl
 ·exact qh ⟨y7 _,fun j hj=>absurd hj (by omega)⟩
 ·refine zA9.intro ⟨by omega,fun j hj=> ?_⟩
  by_cases e:j=y
  ·subst e;assumption
  ·exact hy.2 j (by omega)
 all_goals
  have e:l.take i=l:=q9 (by omega);have er:r=(z6c (l.take i) v).length:=by omega
  rw [er] at hy;rw [e] at hy
 ·rename_i h;have hyl:y<(z6c l v).length:=by rw [<- e];omega
  rw [er,e] at h;unfold z6z;symm;rw [y8,<- zA3,zM];intro hh;rw [hh y (zQ.2 hyl)] at h;cases h
 ·rename_i h;rw [e] at h;have hyl:(z6c l v).length<=y:=by omega
  unfold z6z;symm;rw [Bool.not_eq_false',zM];intro j hj;exact hy.2 j (by have:=zQ.1 hj;omega)
def zai:List AV->Option Res:=zFm jQ (.int .i64) (fun s v=>some (none,some (s.2.length<=8192),.s (.bool (z6z s.2 v))))
theorem z9U:jN prog 91 zai:=mkR (zA4 fun s v r h=>by cases h;exact fb (by exact ⟨z8a,trivial⟩) func91 fun _ h=>zaU s.1 s.2 v h) func91
end S9
namespace S9
open S1
theorem zbU {l:List P3} {f:P3->Bool} {b z:Bool} {x:Nat} (hi:x<=l.length/\(b|| l.any f)=(z|| (l.drop x).any f)) (h:(x:Int)<l.length):x+1<=l.length/\(b|| l.any f)=(z|| f (l.getD x (0,0,0))|| (l.drop (x+1)).any f) :=
 ⟨by omega,by rw [hi.2,zCt (0,0,0) h,List.any_cons,Bool.or_assoc]⟩
theorem zc1 {l:List P3} {f:P3->Bool} {b z:Bool} {x:Nat} (hi:x<=l.length/\(b|| l.any f)=(z|| (l.drop x).any f)) (h: ¬ (x:Int)<l.length):(b|| l.any f)=z:=by
 rw [hi.2,zHf h];simp
@[irreducible] def zZg (t:P3):Bool:=t.1==t.2.1|| (t.2.1==t.2.2|| t.2.2==t.1)
def dgG (l:List P3) (i:Nat):Option Wit:=if zZg (l.getD i (0,0,0)) then some (2,(i:Int),0) else none
def dgL (l:List P3) (i:Nat):List Wit:=(List.range i).filterMap (dgG l)
def loG (l:List P3) (v:Nat):Option Wit:=if l.any (z7A · v) then none else some (5,(v:Int),0)
def loL (l:List P3) (v:Nat):List Wit:=(List.range v).filterMap (loG l)
def piG (l:List P3) (v:Nat):Option Wit:=if z6z l v then some (6,(v:Int),0) else none
def piL (l:List P3) (v:Nat):List Wit:=(List.range v).filterMap (piG l)
def allR (s:Int×List P3):List Wit :=
 if 0<(zBm s).length then zBm s else if 0<(dgL s.2 s.2.length).length then dgL s.2 s.2.length else if 0<(prO s.2 3 s.2.length).length then prO s.2 3 s.2.length else
 if 0<(prO s.2 4 s.2.length).length then prO s.2 4 s.2.length else if 0<(loL s.2 s.1.toNat).length then loL s.2 s.1.toNat else piL s.2 s.1.toNat
theorem zAE {α:Type _} (f:Nat->Option α) (i:Nat):(List.range (i+1)).filterMap f=(List.range i).filterMap f++(f i).toList:=by
 rw [List.range_succ,List.filterMap_append];simp only [List.filterMap_cons,List.filterMap_nil];cases f i<;>rfl
theorem zFt {α:Type _} (f:Nat->Option α) (i:Nat):((List.range i).filterMap f).length<=i:=jB (List.length_filterMap_le _ _) (by simp)
theorem z7E {s:Int×List P3} (h: ¬ ((zBm s).length:Int)>0):zXc s=false/\zBm s=[]:=by
 have h:(zBm s).length=0:=by omega
 refine ⟨?_,List.eq_nil_of_length_eq_zero h⟩;cases hb:zXc s with
 | false=>rfl
 | true=>unfold zBm at h;rw [hb] at h;simp at h
theorem z7v {n:Int} {l:List P3} (h:zXc (n,l)=false):0<=n/\n<=4096/\l.length<=8192:=by
 simp only [zXc,Bool.or_eq_false_iff,yX] at h;omega
theorem z3k {t:P3} (h:t.1=t.2.1\/t.2.1=t.2.2\/t.2.2=t.1):zZg t=true:=by
 unfold zZg;simp only [yN,beq_iff_eq];exact h
theorem z5b {t:P3} (h1:t.1≠t.2.1) (h2:t.2.1≠t.2.2) (h3:t.2.2≠t.1):zZg t=false:=by
 unfold zZg;rw [beq_false_of_ne h1,beq_false_of_ne h2,beq_false_of_ne h3];rfl
theorem z6U {l:List P3} {i:Nat} (h:zZg (l.getD i (0,0,0))=true):dgL l (i+1)=dgL l i++[(2,(i:Int),0)]:=by
 unfold dgL;rw [zAE,dgG,if_pos h];rfl
theorem z64 {l:List P3} {i:Nat} (h:zZg (l.getD i (0,0,0))=false):dgL l (i+1)=dgL l i:=by
 unfold dgL;rw [zAE,dgG,if_neg (by rw [h];decide)];simp
theorem z6Z {l:List P3} {v:Nat} (h:(l.any (z7A · v))=true):loL l (v+1)=loL l v:=by
 unfold loL;rw [zAE,loG,if_pos h];simp
theorem z65 {l:List P3} {v:Nat} (h:(l.any (z7A · v))=false):loL l (v+1)=loL l v++[(5,(v:Int),0)]:=by
 unfold loL;rw [zAE,loG,if_neg (by rw [h];decide)];rfl
theorem z6W {l:List P3} {v:Nat} (h:z6z l v=true):piL l (v+1)=piL l v++[(6,(v:Int),0)]:=by
 unfold piL;rw [zAE,piG,if_pos h];rfl
theorem z6X {l:List P3} {v:Nat} (h:z6z l v=false):piL l (v+1)=piL l v:=by
 unfold piL;rw [zAE,piG,if_neg (by rw [h];decide)];simp
section
variable {n:Int} {l:List P3}
theorem zd9 (h:((zBm (n,l)).length:Int)>0):allR (n,l)=zBm (n,l):=by
 unfold allR;rw [if_pos (by omega)]
theorem zd7 (h1: ¬ ((zBm (n,l)).length:Int)>0) {i:Nat} (hi:i=l.length) (h2:((dgL l i).length:Int)>0):allR (n,l)=dgL l i:=by
 subst hi;unfold allR;rw [if_neg (by omega),if_pos (by dsimp only;omega)]
theorem zda (h1: ¬ ((zBm (n,l)).length:Int)>0) {i:Nat} (hi:i=l.length) (h2: ¬ ((dgL l i).length:Int)>0) (h3:((prO l 3 l.length).length:Int)>0):allR (n,l)=prO l 3 l.length:=by
 subst hi;unfold allR;rw [if_neg (by omega),if_neg (by dsimp only;omega),if_pos (by dsimp only;omega)]
theorem zdR (h1: ¬ ((zBm (n,l)).length:Int)>0) {i:Nat} (hi:i=l.length) (h2: ¬ ((dgL l i).length:Int)>0) (h3: ¬ ((prO l 3 l.length).length:Int)>0) (h4:((prO l 4 l.length).length:Int)>0):allR (n,l)=prO l 4 l.length:=by
 subst hi;unfold allR;rw [if_neg (by omega),if_neg (by dsimp only;omega),if_neg (by dsimp only;omega),if_pos (by dsimp only;omega)]
theorem zdT (h1: ¬ ((zBm (n,l)).length:Int)>0) {i:Nat} (hi:i=l.length) (h2: ¬ ((dgL l i).length:Int)>0) (h3: ¬ ((prO l 3 l.length).length:Int)>0) (h4: ¬ ((prO l 4 l.length).length:Int)>0) {v:Nat} (hv:v=n.toNat) (h5:((loL l v).length:Int)>0):allR (n,l)=loL l v:=by
 subst hi;subst hv;unfold allR;rw [if_neg (by omega),if_neg (by dsimp only;omega),if_neg (by dsimp only;omega),if_neg (by dsimp only;omega),if_pos (by dsimp only;omega)]
theorem zdV (h1: ¬ ((zBm (n,l)).length:Int)>0) {i:Nat} (hi:i=l.length) (h2: ¬ ((dgL l i).length:Int)>0) (h3: ¬ ((prO l 3 l.length).length:Int)>0) (h4: ¬ ((prO l 4 l.length).length:Int)>0) {v:Nat} (hv:v=n.toNat) (h5: ¬ ((loL l v).length:Int)>0) {y:Nat} (hy:y=n.toNat):allR (n,l)=piL l y:=by
 subst hi;subst hv;subst hy;unfold allR;rw [if_neg (by omega),if_neg (by dsimp only;omega),if_neg (by dsimp only;omega),if_neg (by dsimp only;omega),if_neg (by dsimp only;omega)]
end
def z91 (l:List P3):Spec Nat where
 inv i:=i<=l.length
 live i:=[(4,.s (.int .i64 i)),(3,.s (.own 2 0 (dgL l i).length))]
 keep:=[1]
 heap i:=[(2,.row zCp 128 (dgL l i))]
 keepH:=[0]
 mu i:=l.length - i
def z9i (n:Int) (l:List P3):Spec Nat where
 inv v:=(v:Int)<=n
 live v:=[(6,.s (.int .i64 v)),(3,.s (.own 4 0 (loL l v).length))]
 keep:=[1]
 heap v:=[(4,.row zCp 128 (loL l v))]
 keepH:=[0]
 mu v:=n.toNat - v
def za8 (l:List P3) (v:Nat):Spec (Nat×Bool) where
 inv x:=x.1<=l.length/\(false|| l.any (z7A · v))=(x.2|| (l.drop x.1).any (z7A · v))
 live x:=[(8,.s (.int .i64 x.1)),(7,.s (.bool x.2))]
 keep:=[1,3,6]
 heap _:=[]
 keepH:=[0,4]
 mu x:=l.length - x.1
def z9f (n:Int) (l:List P3):Spec Nat where
 inv v:=(v:Int)<=n
 live v:=[(9,.s (.int .i64 v)),(3,.s (.own 4 0 (piL l v).length))]
 keep:=[1]
 heap v:=[(4,.row zCp 128 (piL l v))]
 keepH:=[0]
 mu v:=n.toNat - v
theorem zcM (n:Int) (l:List P3):zGM ⟨tyL,[(90,zbS),(91,zai)],[(88,.res zaN),(89,.res z9c)]⟩ f56 [jQ.av (n,l)] (fun v obs=>v= .s (.own 0 0 (allR (n,l)).length)/\obs=[.row zCp 128 (allR (n,l))]):=by
 repeat' (conv=>whnf
          first|done|refine qy ?_|refine qG fun _=> ?_|refine qw (fun _=> ?_) (fun _=> ?_)|apply qt|refine qi (fun _=> ?_) (fun _=> ?_)|(refine jS 5 rfl (z91 l) (0) ?_ ?_ ?_ fun i hi=> ?_)|with_reducible refine jK (z91 _) (i+1) ?_ ?_ ?_ ?_|(refine jS 19 rfl (z9i n l) (0) ?_ ?_ ?_ fun v hv=> ?_)|with_reducible refine jK (z9i _ _) (v+1) ?_ ?_ ?_ ?_|(refine jS 23 rfl (za8 l v) ((0,false)) ?_ ?_ ?_ fun x hx=> ?_)|with_reducible refine jK (za8 _ _) ((x.1+1,x.2|| z7A (l.getD x.1 (0,0,0)) v)) ?_ ?_ ?_ ?_|(refine jS 31 rfl (z9f n l) (0) ?_ ?_ ?_ fun y hy=> ?_)|with_reducible refine jK (z9f _ _) (y+1) ?_ ?_ ?_ ?_|refine qu ?_|refine qv ?_ ?_|exact zL)
 all_goals try first|refine qz ?_|apply qz5
 all_goals try simp only [qn0,zY,zX,ETy.dflt,Int.reduceToNat,Int.reduceAdd,Int.reduceSub,Int.reduceNeg,Nat.reduceAdd,z91,z9i,za8,z9f] at *
 all_goals try (refine qh ?_;omega)
 all_goals try
  (have hb:=z7v (z7E (s:=(n,l)) (by assumption)).1
   refine qh ?_;first|omega|(simp only [zAZ];omega))
 all_goals try
  (have hb:=z7v (z7E (s:=(n,l)) (by assumption)).1
   have h1:=zFt (dgG l) i
   refine qh ?_;simp only [dgL,loL,piL];first|omega|(have h2:=zFt (loG l) v;first|omega|(have h3:=zFt (piG l) y;omega)))
 all_goals try first
  | rw [zd9 (by assumption)]
  | rw [zd7 (i:=i) (by assumption) (by omega) (by assumption)]
  | rw [zda (i:=i) (by assumption) (by omega) (by assumption) (by assumption)]
  | rw [zdR (i:=i) (by assumption) (by omega) (by assumption) (by assumption) (by assumption)]
  | rw [zdT (i:=i) (v:=v) (by assumption) (by omega) (by assumption) (by assumption) (by assumption) (by omega) (by assumption)]
  | rw [zdV (i:=i) (v:=v) (y:=y) (by assumption) (by omega) (by assumption) (by assumption) (by assumption) (by omega) (by assumption) (by omega)]
 all_goals try
  (have hd:zZg (l.getD i (0,0,0))=true:=z3k (by omega)
   rw [z6U hd];(try simp only [zO,List.length_singleton]);done)
 all_goals try
  (have hd:zZg (l.getD i (0,0,0))=false:=z5b (by omega) (by omega) (by omega)
   rw [z64 hd];done)
 all_goals try (rw [(z7E (s:=(n,l)) (by assumption)).2];rfl)
 all_goals try (rw [List.eq_nil_of_length_eq_zero (l:=prO l 4 l.length) (by omega)];rfl)
 all_goals try (rw [List.eq_nil_of_length_eq_zero (l:=loL l v) (by omega)];rfl)
 all_goals try first
  | exact qh ⟨y7 _,rfl⟩
  | exact qh (zbU hx (by assumption))
  | (simp only [*];done)
  | (simp only [*];simp;done)
 all_goals try (rw [z6X (by assumption)];done)
 all_goals try (rw [z6W (by assumption)];(try simp only [zO,List.length_singleton]);done)
 all_goals
  have hu:=zc1 hx (by assumption);rw [Bool.false_or] at hu
 all_goals first
  | (rw [z6Z (hu.trans (by assumption))];done)
  | (rw [z65 (hu.trans (by assumption))];(try simp only [zO,List.length_singleton]);done)
def zcp:List AV->Option zLx:=zF4 jQ (fun s=>some (none,none,.s (.own 0 0 (allR s).length),[.row zCp 128 (allR s)]))
theorem zcI:zEO prog 56 zcp:=zW5 (zDq fun s r h=>by cases h;exact fbF (by exact ⟨z8a,z9U,trivial⟩) func56 (p2:=by exact ⟨za6,zaO,trivial⟩) fun _ _=>zcM s.1 s.2) func56
def z8d (s:Int×List P3):Bool:=(allR s).length==0
theorem zbH (s:Int×List P3):zAk ⟨tyL,[],[(56,.res zcp)]⟩ Tryz.f20 [jQ.av s] (fun v=>v= .s (.bool (z8d s))):=by
 repeat' (conv=>whnf
          first|done|refine qy ?_|refine qG fun _=> ?_|refine qw (fun _=> ?_) (fun _=> ?_)|apply qt|refine qi (fun _=> ?_) (fun _=> ?_)|refine qu ?_|refine qv ?_ ?_|exact zL)
 all_goals try first|refine qz ?_|apply qz5
 all_goals try simp only [qn0,zY,zX,ETy.dflt,Int.reduceToNat,Int.reduceAdd,Int.reduceSub,Int.reduceNeg,Nat.reduceAdd,z8d] at *
 rw [Bool.eq_iff_iff,beq_iff_eq,beq_iff_eq];omega
def z9p:List AV->Option Res:=zF4 jQ (fun s=>some (none,none,.s (.bool (z8d s))))
theorem zbX:jN prog 20 z9p:=mkR (zAm fun s r h=>by cases h;exact fb (fn:=[]) trivial func20 (p2:=by exact ⟨zcI,trivial⟩) fun _ _=>zbH s) func20
end S9
namespace S9
open S1
theorem z6l {t:P3} {v:Int} :z7A t v=true↔zV t v:=by
 unfold z7A zV;simp only [yN,beq_iff_eq]
theorem z9a {t:P3} {a b:Int} :z8S t a b=true↔dE t a b:=by
 unfold z8S dE;simp only [yN,zA,beq_iff_eq]
theorem z78 {t u:P3} :z7S t u=true↔∃ a b,dE t a b/\dE u a b:=by
 unfold z7S;simp only [yN,z9a];constructor
 ·rintro (h|h|h)
  ·exact ⟨_,_,.inl ⟨rfl,rfl⟩,h⟩
  ·exact ⟨_,_,.inr (.inl ⟨rfl,rfl⟩),h⟩
  ·exact ⟨_,_,.inr (.inr ⟨rfl,rfl⟩),h⟩
 ·rintro ⟨a,b,(⟨rfl,rfl⟩|⟨rfl,rfl⟩|⟨rfl,rfl⟩),h⟩
  ·exact .inl h
  ·exact .inr (.inl h)
  ·exact .inr (.inr h)
theorem z7s {n:Int} : ∀ {l:List P3} {i:Nat},zSE n i l=[]↔∀ t∈l,zGz n t=true
 | [],_=>⟨fun _ t h=>(by cases h),fun _=>rfl⟩
 | t ::r,i=>by
   unfold zSE;split
   ·rename_i h;rw [z7s]
    exact ⟨fun k u hu=>by
     rcases zS.1 hu with e|hu
     ·rw [e];exact h
     ·exact k u hu,fun k u hu=>k u (zN _ hu)⟩
   ·rename_i h;exact ⟨fun k=>(by cases k),fun k=>absurd (k t (zR ..)) h⟩
theorem z8n {l:List P3} {p:P3->Prop} :(∀ t∈l,p t)↔∀ i,i<l.length->p (tg l i):=by
 constructor
 ·intro h i hi;unfold tg;rw [gdE,gE hi];exact h _ (qF hi)
 ·intro h t ht;obtain ⟨i,hi,e⟩:=yI.1 ht;have:=h i hi;unfold tg at this;rw [gdE,gE hi] at this;rw [<- e];exact this
theorem zb6 {s:Int×List P3} :zBm s=[]↔zM1 s:=by
 obtain ⟨n,l⟩:=s;unfold zBm;constructor
 ·intro h;cases hb:zXc (n,l) with
  | true=>rw [hb] at h;cases h
  | false =>
    rw [hb] at h;have h:zSE n 0 l=[]:=h;have:=z7v hb;exact ⟨this.1,this.2.1,this.2.2,z8n.1 (z7s.1 h)⟩
 ·intro h;have h1:0<=n:=h.1;have h2:n<=4096:=h.2.1;have h3:l.length<=8192:=h.2.2.1
  have hb:zXc (n,l)=false:=by
   unfold zXc;simp only [Bool.or_eq_false_iff,yX];omega
  rw [hb];exact z7s.2 (z8n.2 h.2.2.2)
theorem zcY {l:List P3} :dgL l l.length=[]↔∀ i,i<l.length->¬ dgn (tg l i):=by
 unfold dgL;rw [jI];constructor
 ·intro h i hi e;have:=h i (zQ.2 hi);unfold dgG at this;rw [if_pos (z3k e)] at this;cases this
 ·intro h i hi;have h:=h i (zQ.1 hi);unfold dgn at h;unfold dgG;rw [if_neg ?_];rw [z5b (fun e=>h (.inl e)) (fun e=>h (.inr (.inl e))) (fun e=>h (.inr (.inr e)))];simp
theorem zaB {l:List P3} {k:Int} :prO l k l.length=[]↔∀ i j,i<j->j<l.length->ptR k (tg l i) (tg l j)=false:=by
 unfold prO prI;rw [List.flatMap_eq_nil_iff];constructor
 ·intro h i j hij hj;have:=jI.1 (h j (zQ.2 hj)) i (zQ.2 hij);unfold prG at this;split at this
  ·cases this
  ·rename_i e;rw [<- zA3];exact e
 ·intro h j hj;refine jI.2 fun i hi=> ?_;unfold prG;rw [if_neg (by rw [h i j (zQ.1 hi) (zQ.1 hj)];simp)]
theorem pt3 {t u:P3} :ptR 3 t u=z7S t u:=by unfold ptR;simp
theorem pt4 {t u:P3} :ptR 4 t u=(z7A u t.1&&(z7A u t.2.1&&z7A u t.2.2)):=by unfold ptR;simp
theorem zcH {l:List P3} {n:Nat} :loL l n=[]↔∀ v:Nat,v<n->∃ j,j<l.length/\zV (tg l j) v:=by
 unfold loL;rw [jI]
 have key: ∀ v:Nat,l.any (z7A · v)=true↔∃ j,j<l.length/\zV (tg l j) v:=fun v=>by
  rw [z74];constructor
  ·rintro ⟨t,ht,hv⟩;obtain ⟨i,hi,e⟩:=yI.1 ht;refine ⟨i,hi,?_⟩;unfold tg;rw [gdE,gE hi];exact z6l.1 (by rw [<- e] at hv;exact hv)
  ·rintro ⟨j,hj,h⟩;unfold tg at h;rw [gdE,gE hj] at h;exact ⟨_,qF hj,z6l.2 h⟩
 constructor
 ·intro h v hv;have:=h v (zQ.2 hv);unfold loG at this;split at this
  ·rename_i e;exact (key v).1 e
  ·cases this
 ·intro h v hv;unfold loG;rw [if_pos ((key v).2 (h v (zQ.1 hv)))]
theorem z7X {m:List P3} {v:Int} {i k:Nat} :touch m v i k=true↔∃ w,w≠v/\zV (tg m i) w/\zV (tg m k) w:=by
 unfold touch tch;simp only [yN,zA,zB,z6l];constructor
 ·rintro (⟨h1,h2⟩|⟨h1,h2⟩|⟨h1,h2⟩)
  ·exact ⟨_,h1,.inl rfl,h2⟩
  ·exact ⟨_,h1,.inr (.inl rfl),h2⟩
  ·exact ⟨_,h1,.inr (.inr rfl),h2⟩
 ·rintro ⟨w,h1,(h2|h2|h2),h3⟩
  ·subst h2;exact .inl ⟨h1,h3⟩
  ·subst h2;exact .inr (.inl ⟨h1,h3⟩)
  ·subst h2;exact .inr (.inr ⟨h1,h3⟩)
section
variable {m:List P3} {v:Int}
theorem z6x {s:List Bool} {k j:Nat} :(s.set k true).getD j false=if k=j/\j<s.length then true else s.getD j false:=by
 rw [gdE,qS,gdE]
 by_cases e:k=j
 ·subst e
  by_cases h:k<s.length
  ·simp [h]
  ·simp [h]
 ·simp [e]
theorem zcx {i k:Nat} {s:List Bool} :(pk m v i s k).length=s.length:=by
 unfold pk;split
 ·rfl
 ·split
  ·rw [qY]
  ·rfl
theorem z84 {i k j:Nat} {s:List Bool} (h:s.getD j false=true):(pk m v i s k).getD j false=true:=by
 unfold pk;split
 ·exact h
 ·split
  ·rw [z6x];split
   ·rfl
   ·exact h
  ·exact h
theorem z7J {i:Nat} {s:List Bool} : ∀ k,(z7N m v i s k).length=s.length
 | 0=>rfl
 | k+1=>by rw [z6e,zcx,z7J k]
theorem z7F {s:List Bool} : ∀ i,(z7L m v s i).length=s.length
 | 0=>rfl
 | i+1=>by rw [z6j,z7J,z7F i]
theorem z7U: ∀ r,(z7D m v r).length=m.length
 | 0=>by show ((List.replicate m.length false).set 0 true).length=_;simp
 | r+1=>by rw [z6h,z7F,z7U r]
theorem z6w {i j:Nat} {s:List Bool} (h:s.getD j false=true): ∀ k,(z7N m v i s k).getD j false=true
 | 0=>h
 | k+1=>by rw [z6e];exact z84 (z6w h k)
theorem z6u {j:Nat} {s:List Bool} (h:s.getD j false=true): ∀ i,(z7L m v s i).getD j false=true
 | 0=>h
 | i+1=>by rw [z6j];exact z6w (z6u h i) _
theorem z8J {i k:Nat} {s:List Bool} (hi:s.getD i false=true) (ht:touch m v i k=true) (hk:k<s.length): ∀ n,k<n->(z7N m v i s n).getD k false=true
 | n + 1,h=>by
   rw [z6e]
   by_cases e:k=n
   ·subst e;have h1:=z6w (m:=m) (v:=v) (i:=i) hi k;cases h2:(z7N m v i s k).getD k false with
    | true=>exact z84 h2
    | false =>
      unfold pk;rw [if_neg (z7n h1 h2),if_pos ht,z6x,if_pos ⟨rfl,by rw [z7J];exact hk⟩]
   ·exact z84 (z8J hi ht hk n (by omega))
theorem z8U {i k:Nat} {s:List Bool} (hi:s.getD i false=true) (ht:touch m v i k=true) (hk:k<s.length) (hm:k<m.length): ∀ n,i<n->(z7L m v s n).getD k false=true
 | n +1,h=>by
   rw [z6j]
   by_cases e:i=n
   ·subst e;exact z8J (z6u hi i) ht (by rw [z7F];exact hk) _ hm
   ·exact z6w (z8U hi ht hk hm n (by omega)) _
def Clo (m:List P3) (v:Int) (s:List Bool):Prop:= ∀ i k,i<m.length->k<m.length->s.getD i false=true->touch m v i k=true->s.getD k false=true
def zbB (m:List P3) (s:List Bool):Nat:=((List.range m.length).filter fun j=> !s.getD j false).length
theorem zdL {i k:Nat} {s:List Bool} (h:Clo m v s) (hi:i<m.length) (hk:k<m.length):pk m v i s k=s:=by
 unfold pk;split
 ·rfl
 ·rename_i hn;split
  ·rename_i ht;have h1:s.getD i false=true:=by cases e:s.getD i false with|true=>rfl|false=>exact absurd (.inl e) hn
   exact absurd (.inr (h i k hi hk h1 ht)) hn
  ·rfl
theorem z8P {i:Nat} {s:List Bool} (h:Clo m v s) (hi:i<m.length): ∀ k,k<=m.length->z7N m v i s k=s
 | 0,_=>rfl
 | k+1,hk=>by rw [z6e,z8P h hi k (by omega),zdL h hi (by omega)]
theorem z7W {s:List Bool} (h:Clo m v s): ∀ i,i<=m.length->z7L m v s i=s
 | 0,_=>rfl
 | i+1,hi=>by rw [z6j,z7W h i (by omega),z8P h (by omega) _ (zH _)]
theorem z9X {s:List Bool} (hl:s.length=m.length):Clo m v s\/zbB m (z7L m v s m.length)+1<=zbB m s:=by
 by_cases h:Clo m v s
 ·exact .inl h
 ·right;unfold Clo at h
  have: ∃ i k,i<m.length/\k<m.length/\s.getD i false=true/\touch m v i k=true/\s.getD k false=false:=by
   refine yE fun hn=>h fun i k hi hk h1 h2=> ?_;cases e:s.getD k false with
   | true=>rfl
   | false=>exact absurd ⟨i,k,hi,hk,h1,h2,e⟩ hn
  obtain ⟨i,k,hi,hk,h1,h2,h3⟩:=this;unfold zbB;refine zTC (a:=k) (fun j hj=> ?_) (by rw [h3];rfl) (by rw [z8U h1 h2 (by rw [hl];exact hk) hk _ hi];simp) (zQ.2 hk);cases e:s.getD j false with
  | false=>rfl
  | true=>rw [z6u e] at hj;exact absurd hj (by simp)
theorem z7d (hm:0<m.length): ∀ r,Clo m v (z7D m v r)\/zbB m (z7D m v r)+r+1<=m.length
 | 0=>by
   right;have h0:((List.replicate m.length false).set 0 true).getD 0 false=true:=by rw [z6x,if_pos ⟨rfl,by simpa using hm⟩]
   have:=zTC (p:=fun _:Nat=>true) (q:=fun j=> !((List.replicate m.length false).set 0 true).getD j false) (fun _ _=>rfl) (a:=0) rfl (by rw [h0];simp) (l:=List.range m.length) (zQ.2 hm);have e:((List.range m.length).filter fun _:Nat=>true).length=m.length:=by rw [List.filter_eq_self.2 (fun _ _=>rfl),zDs]
   show ((List.range m.length).filter fun j=> !((List.replicate m.length false).set 0 true).getD j false).length+0+1<=_;rw [e] at this;omega
 | r +1=>by
   rcases z7d hm r with h|h
   ·left;rw [z6h,z7W h _ (zH _)];exact h
   ·rcases z9X (m:=m) (v:=v) (z7U (m:=m) (v:=v) r) with h'|h'
    ·left;rw [z6h,z7W h' _ (zH _)];exact h'
    ·right;rw [z6h];omega
theorem zaV (hm:0<m.length):Clo m v (z7D m v m.length):=by
 rcases z7d (v:=v) hm m.length with h|h
 ·exact h
 ·omega
theorem z7a (hm:0<m.length): ∀ r,(z7D m v r).getD 0 false=true
 | 0=>by
   show ((List.replicate m.length false).set 0 true).getD 0 false=true;rw [z6x,if_pos ⟨rfl,by simpa using hm⟩]
 | r+1=>by rw [z6h];exact z6u (z7a hm r) _
theorem zd8 {Q:Nat->Prop} (hc: ∀ i k,k<m.length->Q i->touch m v i k=true->Q k) {i k:Nat} {s:List Bool} (hl:s.length=m.length) (h: ∀ j,s.getD j false=true->Q j): ∀ j,(pk m v i s k).getD j false=true->Q j:=by
 unfold pk;split
 ·exact h
 ·rename_i hn;split
  ·rename_i ht;intro j hj;rw [z6x] at hj;split at hj
   ·rename_i e;obtain ⟨rfl,e2⟩:=e;refine hc i _ (by rw [<- hl];exact e2) (h i ?_) ht;cases e:s.getD i false with|true=>rfl|false=>exact absurd (.inl e) hn
   ·exact h j hj
  ·exact h
theorem z9C {Q:Nat->Prop} (hc: ∀ i k,k<m.length->Q i->touch m v i k=true->Q k) {i:Nat} {s:List Bool} (hl:s.length=m.length) (h: ∀ j,s.getD j false=true->Q j): ∀ k j,(z7N m v i s k).getD j false=true->Q j
 | 0=>h
 | k+1=>by rw [z6e];exact zd8 hc (by rw [z7J];exact hl) (z9C hc hl h k)
theorem z8z {Q:Nat->Prop} (hc: ∀ i k,k<m.length->Q i->touch m v i k=true->Q k) {s:List Bool} (hl:s.length=m.length) (h: ∀ j,s.getD j false=true->Q j): ∀ i j,(z7L m v s i).getD j false=true->Q j
 | 0=>h
 | i+1=>by rw [z6j];exact z9C hc (by rw [z7F];exact hl) (z8z hc hl h i) _
theorem z8l {Q:Nat->Prop} (hc: ∀ i k,k<m.length->Q i->touch m v i k=true->Q k) (h:Q 0): ∀ r j,(z7D m v r).getD j false=true->Q j
 | 0 =>fun j hj=>by
   have hj:((List.replicate m.length false).set 0 true).getD j false=true:=hj;rw [z6x] at hj;split at hj
   ·rename_i e;rw [<- e.1];exact h
   ·rw [gdE,yY] at hj;split at hj<;>cases hj
 | r+1=>by rw [z6h];exact z8z hc (z7U r) (z8l hc h r) _
end
theorem z6o {l:List P3} {v:Int} {t:P3} :t∈z6c l v↔∃ i,i<l.length/\tg l i=t/\zV t v:=by
 unfold z6c;rw [yR,z6l];constructor
 ·rintro ⟨ht,hv⟩;obtain ⟨i,hi,e⟩:=yI.1 ht;exact ⟨i,hi,by unfold tg;rw [gdE,gE hi];exact e,hv⟩
 ·rintro ⟨i,hi,e,hv⟩;unfold tg at e;rw [gdE,gE hi] at e;have e:l[i]=t:=e;exact ⟨by rw [<- e];exact qF hi,hv⟩
theorem qZ {m:List P3} {j:Nat} (h:j<m.length):tg m j∈m:=by
 unfold tg;rw [gdE,gE h];exact qF h
theorem zAj {m:List P3} {t:P3} (h:t∈m): ∃ j,j<m.length/\tg m j=t:=by
 obtain ⟨i,hi,e⟩:=yI.1 h;exact ⟨i,hi,by unfold tg;rw [gdE,gE hi];exact e⟩
theorem other {t:P3} {v:Int} (hd: ¬ dgn t): ∃ w,w≠v/\zV t w:=by
 unfold dgn at hd
 by_cases h:t.1=v
 ·exact ⟨t.2.1,by omega,.inr (.inl rfl)⟩
 ·exact ⟨t.1,h,.inl rfl⟩
theorem z8R {l:List P3} {v:Int} (hd: ∀ i,i<l.length->¬ dgn (tg l i)):z6z l v=false↔z5C l v:=by
 unfold z6z;rw [Bool.not_eq_false',zM];constructor
 ·intro h Q hQ a ha hva hQa i hi hvi;have hpos:0<(z6c l v).length:=List.length_pos_of_mem (z6o.2 ⟨a,ha,rfl,hva⟩)
  have key: ∀ R:Nat->Prop,(∀ i j:Nat,i<l.length->j<l.length->zV (tg l i) v->zV (tg l j) v->(∃ w:Int,w≠v/\zV (tg l i) w/\zV (tg l j) w)->R i->R j)->
   (∃ z,z<l.length/\tg l z=tg (z6c l v) 0/\zV (tg l z) v/\R z)->∀ i,i<l.length->zV (tg l i) v->R i:=fun R hR ⟨z,hz,ez,hzv,hRz⟩ i hi hvi=>by
   have hin:=z8l (m:=z6c l v) (v:=v) (Q:=fun j=>j<(z6c l v).length/\∀ i,i<l.length->tg l i=tg (z6c l v) j->zV (tg l i) v->R i) (fun j k hk hj ht=>⟨hk,fun i hi ei hvi=>by
    obtain ⟨w,hw,h1,h2⟩:=z7X.1 ht;obtain ⟨i',hi',ei',hvi'⟩:=z6o.1 (qZ hj.1)
    exact hR i' i hi' hi (by rw [ei'];exact hvi') hvi ⟨w,hw,by rw [ei'];exact h1,by rw [ei];exact h2⟩ (hj.2 i' hi' ei' (by rw [ei'];exact hvi'))⟩)
    ⟨hpos,fun i hi ei hvi=>by
      obtain ⟨w,hw,h1⟩:=other (v:=v) (hd z hz)
      exact hR z i hz hi hzv hvi ⟨w,hw,h1,by rw [ei,<- ez];exact h1⟩ hRz⟩ (z6c l v).length
   obtain ⟨j,hj,ej⟩:=zAj (z6o.2 ⟨i,hi,rfl,hvi⟩);exact (hin j (h j (zQ.2 hj))).2 i hi ej.symm hvi
  obtain ⟨z,hz,ez,hzv⟩:=z6o.1 (qZ hpos)
  by_cases hq:Q z
  ·exact key Q hQ ⟨z,hz,ez,by rw [ez];exact hzv,hq⟩ i hi hvi
  ·exact absurd hQa (key (fun i=> ¬ Q i) (fun i j hi hj h1 h2 ⟨w,h3,h4,h5⟩ hn hq=>hn (hQ j i hj hi h2 h1 ⟨w,h3,h5,h4⟩ hq)) ⟨z,hz,ez,by rw [ez];exact hzv,hq⟩ a ha hva)
 ·intro h j hj;have hj:=zQ.1 hj;have hpos:0<(z6c l v).length:=by omega
  have hc:=zaV (m:=z6c l v) (v:=v) hpos;have hz:=z7a (m:=z6c l v) (v:=v) hpos (z6c l v).length;obtain ⟨z,hz1,hz2,hz3⟩:=z6o.1 (qZ hpos);obtain ⟨i,hi1,hi2,hi3⟩:=z6o.1 (qZ hj)
  have:=h (fun i=> ∃ j,j<(z6c l v).length/\tg (z6c l v) j=tg l i/\(z7D (z6c l v) v (z6c l v).length).getD j false=true) (fun a b ha hb hva hvb ⟨w,hw,h1,h2⟩ ⟨j,hj,e,hs⟩=>by
   obtain ⟨k,hk,ek⟩:=zAj (z6o.2 ⟨b,hb,rfl,hvb⟩)
   exact ⟨k,hk,ek,hc j k hj hk hs (z7X.2 ⟨w,hw,by rw [e];exact h1,by rw [ek];exact h2⟩)⟩) z hz1 (by rw [hz2];exact hz3) ⟨0,hpos,hz2.symm,hz⟩ i hi1 (by rw [hi2];exact hi3)
  obtain ⟨k,hk,ek,hs⟩:=this;obtain ⟨w,hw,h1⟩:=other (v:=v) (hd i hi1);exact hc k j hk hj hs (z7X.2 ⟨w,hw,by rw [ek];exact h1,by rw [<- hi2];exact h1⟩)
theorem zat {l:List P3} {n:Nat} (hd: ∀ i,i<l.length->¬ dgn (tg l i)):piL l n=[]↔∀ v:Nat,v<n->z5C l v:=by
 unfold piL;rw [jI];constructor
 ·intro h v hv;have:=h v (zQ.2 hv);unfold piG at this;split at this
  ·cases this
  ·rename_i e;exact (z8R hd).1 (by rw [<- zA3];exact e)
 ·intro h v hv;unfold piG;rw [if_neg (by rw [(z8R hd).2 (h v (zQ.1 hv))];simp)]
theorem zbY (s:Int×List P3):allR s=[]↔(zBm s=[]/\dgL s.2 s.2.length=[]/\prO s.2 3 s.2.length=[]/\prO s.2 4 s.2.length=[]/\loL s.2 s.1.toNat=[]/\piL s.2 s.1.toNat=[]):=by
 unfold allR;constructor
 ·intro h
  repeat' split at h
  all_goals first
   | (rename_i hh;rw [h] at hh;exact absurd hh (by decide))
   | skip
  rename_i h1 h2 h3 h4 h5;exact ⟨zDN.1 (by omega),zDN.1 (by omega),zDN.1 (by omega),zDN.1 (by omega),zDN.1 (by omega),h⟩
 ·rintro ⟨h1,h2,h3,h4,h5,h6⟩;simp [h1,h2,h3,h4,h5,h6]
theorem zaj (s:Int×List P3):z8d s=true↔zDM s:=by
 unfold z8d;rw [beq_iff_eq,zDN,zbY,zb6,zcY,zaB,zaB,zcH];constructor
 ·rintro ⟨hf,hd,h3,h4,hu,hp⟩;have h0:0<=s.1:=hf.1;refine ⟨hf,hd,fun i j hij hj a b h1 h2=> ?_,fun i j hij hj h=> ?_,fun v hv=>hu v (by omega),fun v hv=>(zat hd).1 hp v (by omega)⟩
  ·have:=h3 i j hij hj;rw [pt3] at this;rw [z78.2 ⟨a,b,h1,h2⟩] at this;cases this
  ·have:=h4 i j hij hj;rw [pt4,z6l.2 h.1,z6l.2 h.2.1,z6l.2 h.2.2] at this;cases this
 ·intro h;have h0:0<=s.1:=h.fit.1;refine ⟨h.fit,h.deg,fun i j hij hj=> ?_,fun i j hij hj=> ?_,fun v hv=>h.use v (by omega),(zat h.deg).2 fun v hv=>h.pin v (by omega)⟩
  ·rw [pt3,<- zA3];intro e;obtain ⟨a,b,h1,h2⟩:=z78.1 e;exact h.dif i j hij hj a b h1 h2
  ·rw [pt4,<- zA3];intro e;simp only [zA,z6l] at e;exact h.mir i j hij hj e
end S9
namespace S1
abbrev FsT:=List Bool×Int
theorem z6q {S:Type} (m:S->Int) (f:S->Nat->S) (hf: ∀ s i,f s i=s\/m s<m (f s i)): ∀ n s,(jL f s n=s/\∀ i,i<n->f s i=s)\/m s<m (jL f s n)
 | 0,s=> .inl ⟨rfl,fun i hi=>by omega⟩
 | n +1,s=>by
   have e:jL f s (n+1)=f (jL f s n) n:=rfl;rcases z6q m f hf n s with ⟨h1,h2⟩|h
   ·rw [e,h1];rcases hf s n with h|h
    ·exact .inl ⟨h,fun i hi=>by
      by_cases k:i=n
      ·subst k;exact h
      ·exact h2 i (by omega)⟩
    ·exact .inr h
   ·rw [e];rcases hf (jL f s n) n with k|k
    ·rw [k];exact .inr h
    ·exact .inr (by omega)
theorem z7j {S:Type} {f:S->Nat->S} {s:S} : ∀ n,(∀ i,i<n->f s i=s)->jL f s n=s
 | 0,_=>rfl
 | n+1,h=>by
   show f (jL f s n) n=s;rw [z7j n fun i hi=>h i (by omega)];exact h n (by omega)
def fsK (bs:Int->Int->Bool) (L:List Int) (i:Nat) (st:FsT) (k:Nat):FsT :=
 if st.1.getD (L.getD i 0).toNat false=true/\st.1.getD (L.getD k 0).toNat false=false/\bs (L.getD i 0) (L.getD k 0)=true then (st.1.set (L.getD k 0).toNat true,st.2+1) else st
def fsI (bs:Int->Int->Bool) (L:List Int) (st:FsT) (i:Nat):FsT:=jL (fsK bs L i) st L.length
def fsR (bs:Int->Int->Bool) (L:List Int) (st:FsT) (_:Nat):FsT:=jL (fsI bs L) st L.length
def fs0 (L:List Int) (n:Nat):FsT:=((List.replicate n false).set (L.getD 0 0).toNat true,1)
def fsS (bs:Int->Int->Bool) (L:List Int) (n r:Nat):FsT:=jL (fsR bs L) (fs0 L n) r
section
variable {bs:Int->Int->Bool} {L:List Int} {n:Nat}
theorem z8y (i:Nat) (st:FsT) (k:Nat):fsK bs L i st k=st\/st.2<(fsK bs L i st k).2:=by
 unfold fsK;split
 ·exact .inr (by show st.2<st.2+1;omega)
 ·exact .inl rfl
theorem z8j (st:FsT) (i:Nat):fsI bs L st i=st\/st.2<(fsI bs L st i).2:=(z6q (·.2) _ (z8y i) _ st).imp (·.1) id
theorem zbK (st:FsT) (r:Nat):fsR bs L st r=st\/st.2<(fsR bs L st r).2:=(z6q (·.2) _ z8j _ st).imp (·.1) id
def zaP (bs:Int->Int->Bool) (L:List Int) (st:FsT):Prop:= ∀ i k,i<L.length->k<L.length->fsK bs L i st k=st
theorem zcB {st:FsT} {r:Nat} (h:fsR bs L st r=st):zaP bs L st:=by
 have h1: ∀ i,i<L.length->fsI bs L st i=st:=by
  rcases z6q (·.2) (fsI bs L) z8j L.length st with ⟨_,k⟩|k
  ·exact k
  ·have e:jL (fsI bs L) st L.length=st:=h;rw [e] at k;omega
 intro i k hi hk;rcases z6q (·.2) (fsK bs L i) (z8y i) L.length st with ⟨_,q⟩|q
 ·exact q k hk
 ·have e:jL (fsK bs L i) st L.length=st:=h1 i hi;rw [e] at q;omega
theorem zaP.fix {st:FsT} (h:zaP bs L st) (r:Nat):fsR bs L st r=st:=z7j _ fun i hi=>z7j _ fun k hk=>h i k hi hk
theorem zaC: ∀ r,zaP bs L (fsS bs L n r)\/1+(r:Int)<=(fsS bs L n r).2
 | 0=> .inr (by show 1+((0:Nat):Int)<=1;omega)
 | r +1=>by
   have e:fsS bs L n (r+1)=fsR bs L (fsS bs L n r) r:=rfl;rw [e];rcases zaC r with h|h
   ·rw [h.fix];exact .inl h
   ·rcases zbK (bs:=bs) (L:=L) (fsS bs L n r) r with k|k
    ·rw [k];exact .inl (zcB k)
    ·exact .inr (by omega)
structure z8c (L:List Int) (n:Nat) (R:Int->Prop) (st:FsT) (ks:List Int):Prop where
 nd:ks.Nodup
 len:(ks.length:Int)=st.2
 sub: ∀ x∈ks,x∈L/\R x
 size:st.1.length=n
 mem: ∀ x,0<=x->(st.1.getD x.toNat false=true↔x∈ks)
theorem z72 (l:List Bool) (i j:Nat) (hi:i<l.length):(l.set i true).getD j false=if i=j then true else l.getD j false:=by
 rw [gdE,qS];split
 ·rename_i e;subst e;rfl
 ·rw [gdE]
variable {R:Int->Prop} (hL: ∀ x∈L,0<=x/\x<(n:Int))
include hL
theorem z99 (hR: ∀ x∈L,∀ y∈L,bs x y=true->R x->R y) {i k:Nat} (hi:i<L.length) (hk:k<L.length) {st:FsT} (h: ∃ ks,z8c L n R st ks): ∃ ks,z8c L n R (fsK bs L i st k) ks:=by
 obtain ⟨ks,h⟩:=h;unfold fsK;split
 case isFalse=>exact ⟨ks,h⟩
 rename_i hc;obtain ⟨c1,c2,c3⟩:=hc;have mi:=zA0 hi;have mk:=zA0 hk;have b:=hL _ mk;have nk:L.getD k 0∉ks:=fun e=>by rw [(h.mem _ b.1).2 e] at c2;cases c2
 refine ⟨L.getD k 0::ks,yU.2 ⟨nk,h.nd⟩,?_,fun x hx=> ?_,?_,fun x hx=> ?_⟩
 ·have:=h.len;show ((ks.length+1:Nat):Int)=st.2+1;omega
 ·rcases zS.1 hx with e|e
  ·subst e;exact ⟨mk,hR _ mi _ mk c3 (h.sub _ ((h.mem _ (hL _ mi).1).1 c1)).2⟩
  ·exact h.sub x e
 ·show (st.1.set _ true).length=n;rw [qY];exact h.size
 ·show (st.1.set _ true).getD _ false=true↔_;rw [z72 _ _ _ (by rw [h.size];omega),zS];split
  ·rename_i e;exact ⟨fun _=> .inl (by omega),fun _=>rfl⟩
  ·rename_i e;rw [h.mem x hx];exact ⟨.inr,fun k=>k.resolve_left (fun e'=>e (by rw [e']))⟩
theorem z7i (hR: ∀ x∈L,∀ y∈L,bs x y=true->R x->R y) (hne:0<L.length) (h0:R (L.getD 0 0)) (r:Nat): ∃ ks,z8c L n R (fsS bs L n r) ks:=by
 have m0:=zA0 hne;have b:=hL _ m0;refine zAM (n:=r) (fun _ st=> ∃ ks,z8c L n R st ks) ?_ (fun _ st _ h=> ?_) r (zH _)
 ·refine ⟨[L.getD 0 0],yU.2 ⟨by simp,jD⟩,rfl,fun x hx=> ?_,?_,fun x hx=> ?_⟩
  ·rw [zF.1 hx];exact ⟨m0,h0⟩
  ·unfold fs0;simp
  ·unfold fs0;rw [z72 _ _ _ (by rw [jR];omega),zF];split
   ·rename_i e;exact ⟨fun _=>by omega,fun _=>rfl⟩
   ·rename_i e;rw [gdE,yY];split
    ·exact ⟨fun h=>(by cases h),fun h=>absurd (by rw [h]) e⟩
    ·exact ⟨fun h=>(by cases h),fun h=>absurd (by rw [h]) e⟩
 ·exact zAM (n:=L.length) (fun _ st=> ∃ ks,z8c L n R st ks) h (fun i st hi h=>zAM (n:=L.length) (fun _ st=> ∃ ks,z8c L n R st ks) h (fun k st hk h=>z99 hL hR hi hk h) _ (zH _)) _ (zH _)
theorem zb3 (hn:L.Nodup) (hne:0<L.length):(fsS bs L n L.length).2=(L.length:Int)↔∀ Q:Int->Prop,(∀ x∈L,∀ y∈L,bs x y=true->Q x->Q y)->Q (L.getD 0 0)->∀ x∈L,Q x:=by
 constructor
 ·intro h Q hQ h0 x hx;obtain ⟨ks,k⟩:=z7i hL hQ hne h0 L.length;have hl:ks.length=L.length:=by have:=k.len;omega
  apply yE;intro hq;have nx:x∉ks:=fun e=>hq (k.sub x e).2
  have:=zGb (x::ks) L (yU.2 ⟨nx,k.nd⟩) fun y hy=>by
   rcases zS.1 hy with e|e
   ·rw [e];exact hx
   ·exact (k.sub y e).1
  simp only [zZ] at this;omega
 ·intro h;obtain ⟨ks,k⟩:=z7i (R:=fun _=>True) hL (fun _ _ _ _ _ _=>trivial) hne trivial L.length (bs:=bs);have hle:=zGb ks L k.nd fun y hy=>(k.sub y hy).1;have hclo:zaP bs L (fsS bs L n L.length):=(zaC L.length).resolve_right (by have:=k.len;omega)
  have all := h (fun x=>(fsS bs L n L.length).1.getD x.toNat false=true) (fun x hx y hy b hq=>by
   obtain ⟨i,hi,ei⟩:=yI.1 hx;obtain ⟨j,hj,ej⟩:=yI.1 hy;have gi:L.getD i 0=x:=by rw [gdE,gE hi];exact ei
   have gj:L.getD j 0=y:=by rw [gdE,gE hj];exact ej
   have:=hclo i j hi hj;unfold fsK at this;rw [gi,gj] at this;split at this
   ·have e:=congrArg Prod.snd this;have e:(fsS bs L n L.length).2+1=(fsS bs L n L.length).2:=e;omega
   ·rename_i hc;apply yE;intro hy'
    exact hc ⟨hq,by simpa using hy',b⟩) (by
   obtain ⟨ks1,k1⟩:=z7i (R:=fun _=>True) hL (fun _ _ _ _ _ _=>trivial) hne trivial L.length (bs:=bs)
   have: ∀ r,(fsS bs L n r).1.getD (L.getD 0 0).toNat false=true:=fun r=>by
    have b:=hL _ (zA0 hne)
    have step: ∀ i k (st:FsT),st.1.getD (L.getD 0 0).toNat false=true->(fsK bs L i st k).1.getD (L.getD 0 0).toNat false=true:=fun i k st h=>by
     unfold fsK;split
     ·show (st.1.set _ true).getD _ false=true;rw [gdE,qS];split
      ·split
       ·rfl
       ·rename_i e1 e2;rw [<- e1] at h;rw [gdE,zCA (by omega)] at h;cases h
      ·rw [<- gdE];exact h
     ·exact h
    refine zAM (n:=r) (fun _ (st:FsT)=>st.1.getD (L.getD 0 0).toNat false=true) ?_ (fun _ st _ h=> ?_) r (zH _)
    ·unfold fs0;rw [z72 _ _ _ (by rw [jR];omega),if_pos rfl]
    ·exact zAM (n:=L.length) (fun _ (st:FsT)=>st.1.getD (L.getD 0 0).toNat false=true) h (fun i st hi h=>zAM (n:=L.length) (fun _ (st:FsT)=>st.1.getD (L.getD 0 0).toNat false=true) h (fun k st hk h=>step i k st h) _ (zH _)) _ (zH _)
   exact this _)
  have:=zGb L ks hn fun x hx=>(k.mem x (hL x hx).1).1 (all x hx);have:=k.len;omega
end
def z8X (L:List Int) (n:Nat) (st:FsT):Prop:= ∃ ks,z8c L n (fun _=>True) st ks
section
variable {bs:Int->Int->Bool} {L:List Int} {n:Nat}
theorem z8X.le {st:FsT} (h:z8X L n st):0<=st.2/\st.2<=L.length/\st.1.length=n:=by
 obtain ⟨ks,h⟩:=h;have:=zGb ks L h.nd fun y hy=>(h.sub y hy).1;have:=h.len;exact ⟨by omega,by omega,h.size⟩
theorem z8X.k (hL: ∀ x∈L,0<=x/\x<(n:Int)) {st:FsT} (h:z8X L n st) {i:Nat} (hi:i<L.length): ∀ k,k<=L.length->z8X L n (jL (fsK bs L i) st k) :=
 zAM (n:=L.length) (fun _ st=>z8X L n st) h (fun k st hk h=>z99 hL (fun _ _ _ _ _ _=>trivial) hi hk h)
theorem z8X.i (hL: ∀ x∈L,0<=x/\x<(n:Int)) {st:FsT} (h:z8X L n st): ∀ i,i<=L.length->z8X L n (jL (fsI bs L) st i) :=
 zAM (n:=L.length) (fun _ st=>z8X L n st) h (fun i st hi h=>z8X.k hL h hi _ (zH _))
theorem z8X.r (hL: ∀ x∈L,0<=x/\x<(n:Int)) (hne:0<L.length) (r:Nat):z8X L n (fsS bs L n r):=z7i hL (fun _ _ _ _ _ _=>trivial) hne trivial r
end
def inG (l:List P3) (v:Int) (i:Nat):Option Int:=if zV (tg l i) v then some (i:Int) else none
def inL (l:List P3) (v:Int) (i:Nat):List Int:=(List.range i).filterMap (inG l v)
theorem z7r (l:List P3) (v:Int) (i:Nat):inL l v (i+1)=inL l v i++(inG l v i).toList:=zAE _ _
theorem zc4 (l:List P3) (v:Int) (i:Nat):(inL l v i).length<=i:=zFt _ _
theorem z6k {l:List P3} {v:Int} {n:Nat} {x:Int} :x∈inL l v n↔∃ j:Nat,j<n/\zV (tg l j) v/\x=j:=by
 unfold inL;rw [List.mem_filterMap];constructor
 ·rintro ⟨j,hj,e⟩;unfold inG at e;split at e
  ·rename_i h;cases e;exact ⟨j,zQ.1 hj,h,rfl⟩
  ·cases e
 ·rintro ⟨j,hj,h,rfl⟩;exact ⟨j,zQ.2 hj,by unfold inG;rw [if_pos h]⟩
theorem z8g {l:List P3} {v:Int} {n:Nat} : ∀ x∈inL l v n,0<=x/\x<(n:Int):=fun x hx=>by
 obtain ⟨j,hj,_,rfl⟩:=z6k.1 hx;omega
theorem z8V (l:List P3) (v:Int): ∀ n,(inL l v n).Nodup
 | 0=>jD
 | n + 1=>by
   rw [z7r,List.nodup_append];refine ⟨z8V l v n,?_,fun a ha b hb=> ?_⟩
   ·unfold inG;split
    ·exact yU.2 ⟨by simp,jD⟩
    ·exact jD
   ·unfold inG at hb;split at hb
    ·rw [Option.toList,zF] at hb;have:=z8g a ha;omega
    ·cases hb
def z7o (a b:P3):Nat->Int
 | 0=>0
 | k+1=>if zV b (z79 a k) then z7o a b k+1 else z7o a b k
def zcD (a b:P3):Bool:=decide (z7o a b 3>=2)
def z73 (l:List P3) (p q:Int):Bool:=zcD (tg l p.toNat) (tg l q.toNat)
def z6g (l:List P3) (v:Int):Int×Int:=((inL l v l.length).length,if (inL l v l.length).length=0 then 0 else (fsS (z73 l) (inL l v l.length) l.length (inL l v l.length).length).2)
theorem z6r (a b:P3) (k:Nat):z7o a b (k+1)=if zV b (z79 a k) then z7o a b k+1 else z7o a b k:=rfl
theorem z8b (a b:P3): ∀ k:Nat,0<=z7o a b k/\z7o a b k<=k
 | 0=>⟨Int.le_refl _,Int.le_refl _⟩
 | k+1=>by
   have:=z8b a b k;rw [z6r];split<;>omega
theorem zcA {a b:P3} (hd: ¬ dgn a) {v:Int} (h1:zV a v) (h2:zV b v):zcD a b=true↔∃ w,w≠v/\zV a w/\zV b w:=by
 unfold zcD;rw [zB,z6r,z6r,z6r];obtain ⟨x,y,z⟩:=a;unfold dgn at hd;simp only [z79,List.getD_cons_zero,List.getD_cons_succ,z7o] at *;have hv:zV (x,y,z) v↔(x=v\/y=v\/z=v):=Iff.rfl;constructor
 ·intro h;have key: ∀ w,(x=w\/y=w\/z=w)->zV b w->w≠v->∃ w,w≠v/\zV (x,y,z) w/\zV b w:=fun w hw hb hn=>⟨w,hn,hw,hb⟩
  by_cases b1:zV b x<;>by_cases b2:zV b y<;>by_cases b3:zV b z<;>simp only [b1,b2,b3,if_true,if_false] at h<;>first
   | omega
   | (by_cases e:x=v
      ·exact key y (.inr (.inl rfl)) b2 (by omega)
      ·exact key x (.inl rfl) b1 e)
   | (by_cases e:x=v
      ·exact key z (.inr (.inr rfl)) b3 (by omega)
      ·exact key x (.inl rfl) b1 e)
   | (by_cases e:y=v
      ·exact key z (.inr (.inr rfl)) b3 (by omega)
      ·exact key y (.inr (.inl rfl)) b2 e)
 ·rintro ⟨w,w1,w2,w3⟩;have w2:x=w\/y=w\/z=w:=w2;have h1:=hv.1 h1;have c1: ∀ u,u=v\/u=w->zV b u:=fun u hu=>by rcases hu with e|e<;>(rw [e];assumption)
  by_cases b1:zV b x<;>by_cases b2:zV b y<;>by_cases b3:zV b z<;>simp only [b1,b2,b3,if_true,if_false]<;>first
   | omega
   | (exfalso
      have k1: ¬ (x=v\/x=w):=fun k=>(by first|exact absurd (c1 _ k) b1|exact (by assumption:False))
      omega)
   | (exfalso
      by_cases k1:x=v\/x=w
      ·by_cases k2:y=v\/y=w
       ·first|exact b1 (c1 _ k1)|exact b2 (c1 _ k2)
       ·by_cases k3:z=v\/z=w
        ·first|exact b1 (c1 _ k1)|exact b3 (c1 _ k3)
        ·omega
      ·by_cases k2:y=v\/y=w
       ·by_cases k3:z=v\/z=w
        ·first|exact b2 (c1 _ k2)|exact b3 (c1 _ k3)
        ·omega
       ·omega)
theorem zc5 {l:List P3} {v:Int} {k:Nat} (hk:k<(inL l v l.length).length):0<=(inL l v l.length).getD k 0/\((inL l v l.length).getD k 0).toNat<l.length/\zV (tg l ((inL l v l.length).getD k 0).toNat) v:=by
 obtain ⟨j,hj,h,e⟩:=z6k.1 (zA0 hk);rw [e];exact ⟨by omega,by omega,h⟩
theorem zbv {l:List P3} (hd: ∀ i,i<l.length->¬ dgn (tg l i)) {v:Int} (hne:0<(inL l v l.length).length):(z6g l v).1=(z6g l v).2↔z5C l v:=by
 have e:(z6g l v).2=(fsS (z73 l) (inL l v l.length) l.length (inL l v l.length).length).2:=if_neg (by omega);rw [e];have hc:=zb3 (bs:=z73 l) (L:=inL l v l.length) (n:=l.length) z8g (z8V l v _) hne;have hc:(z6g l v).1=(fsS (z73 l) (inL l v l.length) l.length (inL l v l.length).length).2↔_:=⟨fun h=>hc.1 h.symm,fun h=>(hc.2 h).symm⟩;rw [hc]
 have rel: ∀ i j:Nat,i<l.length->zV (tg l i) v->zV (tg l j) v->(z73 l (i:Int) (j:Int)=true↔∃ w,w≠v/\zV (tg l i) w/\zV (tg l j) w):=fun i j hi h1 h2=>by
  unfold z73;exact zcA (hd i hi) h1 h2
 obtain ⟨z,hz,hzv,ez⟩:=z6k.1 (zA0 hne);constructor
 ·intro h Q hQ a ha hav hqa i hi hiv
  have go: ∀ R:Nat->Prop,(∀ i j:Nat,i<l.length->j<l.length->zV (tg l i) v->zV (tg l j) v->(∃ w:Int,w≠v/\zV (tg l i) w/\zV (tg l j) w)->R i->R j)->R z->∀ i,i<l.length->zV (tg l i) v->R i:=fun R hR h0 i hi hiv=>by
   have:=h (fun x=>R x.toNat) (fun x hx y hy b q=>by
    obtain ⟨p,hp,hpv,rfl⟩:=z6k.1 hx;obtain ⟨s,hs,hsv,rfl⟩:=z6k.1 hy
    exact hR p s hp hs hpv hsv ((rel p s hp hpv hsv).1 b) q) (by rw [ez];exact h0) (i:Int) (z6k.2 ⟨i,hi,hiv,rfl⟩)
   exact this
  by_cases hqz:Q z
  ·exact go Q hQ hqz i hi hiv
  ·exact absurd hqa (go (fun k=> ¬ Q k) (fun i j hi hj h1 h2 ⟨w,w1,w2,w3⟩ hn hq=>hn (hQ j i hj hi h2 h1 ⟨w,w1,w3,w2⟩ hq)) hqz a ha hav)
 ·intro h Q hQ h0 x hx;obtain ⟨i,hi,hiv,rfl⟩:=z6k.1 hx;rw [ez] at h0;exact h (fun k=>Q (k:Int)) (fun p q hp hq h1 h2 hw hqp=>hQ _ (z6k.2 ⟨p,hp,h1,rfl⟩) _ (z6k.2 ⟨q,hq,h2,rfl⟩) ((rel p q hp h1 h2).2 hw) hqp) z hz hzv h0 i hi hiv
def shE (t u:P3) (p q:Nat):Prop:=z79 t p=z79 u q/\z79 t ((p+1) % 3)=z79 u ((q+1) % 3)
def z8p (t u:P3):Prop:=(∀ p q,p<3->q<3->¬ shE t u p q)/\z7o t u 3≠3
theorem z9B {t:P3} {a b:Int} :dE t a b↔∃ p,p<3/\z79 t p=a/\z79 t ((p+1) % 3)=b:=by
 constructor
 ·rintro (⟨h1,h2⟩|⟨h1,h2⟩|⟨h1,h2⟩)
  ·exact ⟨0,by omega,h1,h2⟩
  ·exact ⟨1,by omega,h1,h2⟩
  ·exact ⟨2,by omega,h1,h2⟩
 ·rintro ⟨p,hp,h1,h2⟩;have:p=0\/p=1\/p=2:=by omega
  rcases this with e|e|e<;>subst e
  ·exact .inl ⟨h1,h2⟩
  ·exact .inr (.inl ⟨h1,h2⟩)
  ·exact .inr (.inr ⟨h1,h2⟩)
theorem zdb (t u:P3):z7o t u 3=3↔zV u t.1/\zV u t.2.1/\zV u t.2.2:=by
 rw [z6r,z6r,z6r];have e0:z79 t 0=t.1:=rfl;have e1:z79 t 1=t.2.1:=rfl;have e2:z79 t 2=t.2.2:=rfl;rw [e0,e1,e2];show (if _ then (if _ then (if _ then (0:Int)+1 else 0)+1 else _)+1 else _)=3↔_
 by_cases b1:zV u t.1<;>by_cases b2:zV u t.2.1<;>by_cases b3:zV u t.2.2<;>simp [b1,b2,b3,z7o]
theorem z9n {t u:P3} (h1: ¬ dgn t) (h2: ¬ dgn u) (h:zV u t.1/\zV u t.2.1/\zV u t.2.2):zV t u.1/\zV t u.2.1/\zV t u.2.2:=by
 obtain ⟨x,y,z⟩:=t;obtain ⟨p,q,r⟩:=u;unfold zV at *;unfold dgn at *;simp only at *;omega
theorem zam {s:Int×List P3} (hf:zM1 s) (hd: ∀ i,i<s.2.length->¬ dgn (tg s.2 i)) (hp: ∀ i k,k<i->i<s.2.length->z8p (tg s.2 i) (tg s.2 k)) (hv: ∀ v:Nat,(v:Int)<s.1->(z6g s.2 v).1≠0/\(z6g s.2 v).1=(z6g s.2 v).2):zDM s:=by
 refine ⟨hf,hd,fun i j hij hj a b k1 k2=> ?_,fun i j hij hj hh=> ?_,fun v hv'=> ?_,fun v hv'=> ?_⟩
 ·obtain ⟨p,hp3,e1,e2⟩:=z9B.1 k1;obtain ⟨q,hq3,e3,e4⟩:=z9B.1 k2;exact (hp j i hij hj).1 q p hq3 hp3 ⟨e3.trans e1.symm,e4.trans e2.symm⟩
 ·refine (hp j i hij hj).2 ((zdb _ _).2 ?_);exact z9n (hd i (by omega)) (hd j hj) hh
 ·have:=(hv v hv').1
  have:0<(inL s.2 v s.2.length).length:=by
   have e:(z6g s.2 v).1=((inL s.2 v s.2.length).length:Int):=rfl;omega
  obtain ⟨j,hj,h,_⟩:=z6k.1 (zA0 this);exact ⟨j,hj,h⟩
 ·have h1:=(hv v hv').1
  have:0<(inL s.2 v s.2.length).length:=by
   have e:(z6g s.2 v).1=((inL s.2 v s.2.length).length:Int):=rfl;omega
  exact (zbv hd this).1 (hv v hv').2
theorem z8Q {s:Int×List P3} (h:zDM s) {i k:Nat} (hki:k<i) (hi:i<s.2.length):z8p (tg s.2 i) (tg s.2 k):=by
 refine ⟨fun p q hp hq hh=> ?_,fun hh=> ?_⟩
 ·exact h.dif k i hki hi _ _ (z9B.2 ⟨q,hq,rfl,rfl⟩) (z9B.2 ⟨p,hp,hh.1,hh.2⟩)
 ·exact h.mir k i hki hi (z9n (h.deg i hi) (h.deg k (by omega)) ((zdb _ _).1 hh))
theorem zay {s:Int×List P3} (h:zDM s) {v:Nat} (hv:(v:Int)<s.1):(z6g s.2 v).1≠0/\(z6g s.2 v).1=(z6g s.2 v).2:=by
 obtain ⟨j,hj,hjv⟩:=h.use v hv;have hm:(j:Int)∈inL s.2 v s.2.length:=z6k.2 ⟨j,hj,hjv,rfl⟩;have:0<(inL s.2 v s.2.length).length:=List.length_pos_of_mem hm;refine ⟨?_,(zbv h.deg this).2 (h.pin v hv)⟩;have e:(z6g s.2 v).1=((inL s.2 v s.2.length).length:Int):=rfl;omega
end S1
namespace S1
@[irreducible] def hasB (t:P3) (v:Int):Bool:=decide (zV t v)
theorem z7G {t:P3} {v:Int} :hasB t v=true↔zV t v:=by unfold hasB;exact decide_eq_true_iff
theorem z85 {t:P3} {v:Int} :hasB t v=false↔¬ zV t v:=by rw [<- z7G];simp
theorem zbV {fn} (t:P3) (v:Int):zAk ⟨tyL,fn,[]⟩ f37 [ETy.arr3.av t,qX.av v] (fun r=>r= .s (.bool (hasB t v))):=by
 repeat' (conv=>whnf
          first|done|refine qy ?_|refine qG fun _=> ?_|refine qw (fun _=> ?_) (fun _=> ?_)|apply qt|refine qi (fun _=> ?_) (fun _=> ?_)|refine qu ?_|refine qv ?_ ?_|exact zL)
 all_goals try first|refine qz ?_|apply qz5
 all_goals try simp only [qn0,zY,zX,ETy.dflt,Int.reduceToNat,Int.reduceAdd,Int.reduceSub,Int.reduceNeg,Nat.reduceAdd] at *
 all_goals (rw [Bool.eq_iff_iff,z7G];unfold zV;simp [*])
def z9A:List AV->Option Res:=zFm .arr3 qX (fun t v=>some (none,none,.s (.bool (hasB t v))))
theorem z7l:jN prog 37 z9A:=mkR (zA4 fun t v r h=>by cases h;exact fb (fn:=[]) trivial func37 fun _ _=>zbV t v) func37
theorem zaq (t:P3) (k:Nat):[t.1,t.2.1,t.2.2].getD k 0=z79 t k:=rfl
theorem tmX (x:Nat):(((x:Int)+1).tmod 3).toNat=(x+1) % 3:=by rw [Int.tmod_eq_emod_of_nonneg (by omega)];omega
def z80 (a b:P3):Spec Nat where
 inv k:=k<=3
 live k:=[(6,.s (.int .i64 k)),(5,.s (.int .i64 (z7o a b k)))]
 keep:=[2,3]
 heap _:=[]
 keepH:=[0,1]
 mu k:=3 - k
theorem z7c (a b:P3):z7o a b 0=0:=rfl
attribute [local irreducible] z7o
theorem zbC (a b:P3):zAk ⟨tyL,[(37,z9A)],[]⟩ f73 [ETy.arr3.av a,ETy.arr3.av b] (fun r=>r= .s (.bool (zcD a b))):=by
 repeat' (conv=>whnf
          first|done|refine qy ?_|refine qG fun _=> ?_|refine qw (fun _=> ?_) (fun _=> ?_)|apply qt|refine qi (fun _=> ?_) (fun _=> ?_)|(refine jS 3 rfl (z80 a b) (0) ?_ ?_ ?_ fun k hk=> ?_)|with_reducible refine jK (z80 _ _) (k+1) ?_ ?_ ?_ ?_|refine qu ?_|refine qv ?_ ?_|exact zL)
 all_goals try first|refine qz ?_|apply qz5
 all_goals try simp only [qn0,zY,zX,ETy.dflt,Int.reduceToNat,Int.reduceAdd,Int.reduceSub,Int.reduceNeg,Nat.reduceAdd,z80,zaq,zcD,tmX] at *
 all_goals try exact z7c a b
 all_goals try exact qh (y7 _)
 all_goals try (rw [z7c];done)
 all_goals try (rw [z7c];rfl)
 all_goals try exact z7c _ _
 all_goals try exact (z7c _ _).symm
 all_goals have hN:=z8b a b k
 all_goals try (refine qh ?_;omega)
 all_goals try (refine qh ?_;unfold zAZ;omega)
 all_goals try (rw [z6r,if_pos (z7G.1 (by assumption))];done)
 all_goals try (rw [z6r,if_neg (z85.1 (by assumption))];done)
 all_goals (rw [show k=3 by omega])
def zbq:List AV->Option Res:=zFm .arr3 .arr3 (fun a b=>some (none,none,.s (.bool (zcD a b))))
theorem zb2:jN prog 73 zbq:=mkR (zA4 fun a b r h=>by cases h;exact fb (by exact ⟨z7l,trivial⟩) func73 fun _ _=>zbC a b) func73
theorem zcs (l:List P3) (v:Int):inL l v 0=[]:=rfl
theorem zcL {l:List P3} {v:Int} {i:Nat} (h:hasB (l.getD i (0,0,0)) v=true):inL l v (i+1)=inL l v i++[(i:Int)]:=by
 have h:zV (tg l i) v:=z7G.1 h;rw [z7r];unfold inG;rw [if_pos h];rfl
theorem zca {l:List P3} {v:Int} {i:Nat} (h:hasB (l.getD i (0,0,0)) v=false):inL l v (i+1)=inL l v i:=by
 have h: ¬ zV (tg l i) v:=z85.1 h;rw [z7r];unfold inG;rw [if_neg h];exact yJ _
theorem zcn (bs:Int->Int->Bool) (L:List Int) (n:Nat):(fsS bs L n 0).2=1:=rfl
theorem zcf (bs:Int->Int->Bool) (L:List Int) (n:Nat):(fsS bs L n 0).1=(List.replicate n false).set (L.getD 0 0).toNat true:=rfl
theorem zce {X:Type} (f:X->Nat->X) (s:X):jL f s 0=s:=rfl
theorem zd5 (bs:Int->Int->Bool) (L:List Int) (S:FsT) (p:Nat):jL (fsI bs L) S (p+1)=jL (fsK bs L p) (jL (fsI bs L) S p) L.length:=rfl
theorem zdQ (bs:Int->Int->Bool) (L:List Int) (n r:Nat):fsS bs L n (r+1)=jL (fsI bs L) (fsS bs L n r) L.length:=rfl
theorem zc0 {l:List P3} {v:Int} (h:(inL l v l.length).length=0):z6g l v=(0,0):=by
 unfold z6g;rw [if_pos h,h];rfl
theorem zc3 {l:List P3} {v:Int} (h:(inL l v l.length).length≠0):z6g l v=(((inL l v l.length).length:Int),(fsS (z73 l) (inL l v l.length) l.length (inL l v l.length).length).2):=by
 unfold z6g;rw [if_neg h]
attribute [local irreducible] inL zcD
def z98 (l:List P3) (v:Int):Spec Nat where
 inv i:=i<=l.length
 live i:=[(7,.s (.int .i64 i)),(6,.s (.own 1 0 (inL l v i).length))]
 keep:=[1,2,4,5]
 heap i:=[(1,.row qX 3 (inL l v i))]
 keepH:=[0]
 mu i:=l.length - i
def z9l (l:List P3) (L:List Int):Spec Nat where
 inv r:=r<=L.length
 live r:=[(10,.s (.int .i64 r)),(9,.s (.int .i64 (fsS (z73 l) L l.length r).2))]
 keep:=[1,2,4,5,6,8]
 heap r:=[(2,.row .bool 4 (fsS (z73 l) L l.length r).1)]
 keepH:=[0,1]
 mu r:=L.length - r
def zaZ (l:List P3) (L:List Int) (r:Nat):Spec Nat where
 inv i:=i<=L.length
 live i:=[(11,.s (.int .i64 i)),(9,.s (.int .i64 (jL (fsI (z73 l) L) (fsS (z73 l) L l.length r) i).2))]
 keep:=[1,2,4,5,6,8,10]
 heap i:=[(2,.row .bool 4 (jL (fsI (z73 l) L) (fsS (z73 l) L l.length r) i).1)]
 keepH:=[0,1]
 mu i:=L.length - i
def z90 (l:List P3) (L:List Int) (r i:Nat):Spec Nat where
 inv k:=k<=L.length
 live k:=[(12,.s (.int .i64 k)),(9,.s (.int .i64 (jL (fsK (z73 l) L i) (jL (fsI (z73 l) L) (fsS (z73 l) L l.length r) i) k).2))]
 keep:=[1,2,4,5,6,8,10,11]
 heap k:=[(2,.row .bool 4 (jL (fsK (z73 l) L i) (jL (fsI (z73 l) L) (fsS (z73 l) L l.length r) i) k).1)]
 keepH:=[0,1]
 mu k:=L.length - k
theorem zcP {bs:Int->Int->Bool} {L:List Int} {i k:Nat} {S:FsT} (h1:(jL (fsK bs L i) S k).1.getD (L.getD i 0).toNat false=true) (h2:(jL (fsK bs L i) S k).1.getD (L.getD k 0).toNat false=false) (h3:bs (L.getD i 0) (L.getD k 0)=true) :
 jL (fsK bs L i) S (k+1)=((jL (fsK bs L i) S k).1.set (L.getD k 0).toNat true,(jL (fsK bs L i) S k).2+1):=if_pos ⟨h1,h2,h3⟩
theorem zae {bs:Int->Int->Bool} {L:List Int} {i k:Nat} {S:FsT} (h:(jL (fsK bs L i) S k).1.getD (L.getD i 0).toNat false=false\/(jL (fsK bs L i) S k).1.getD (L.getD k 0).toNat false=true\/bs (L.getD i 0) (L.getD k 0)=false) :
 jL (fsK bs L i) S (k+1)=jL (fsK bs L i) S k:=if_neg (by
 rintro ⟨h1,h2,h3⟩;rcases h with h|h|h
 ·rw [h] at h1;cases h1
 ·rw [h] at h2;cases h2
 ·rw [h] at h3;cases h3)
attribute [local irreducible] fsS jL
theorem zb8 (n:Int) (l:List P3) (v:Int) (hl:l.length<=8192):zAk ⟨tyL,[(37,z9A),(73,zbq)],[]⟩ f38 [jQ.av (n,l),qX.av v] (fun r=>r= .tup [.s (.int .i64 (z6g l v).1),.s (.int .i64 (z6g l v).2)]):=by
 repeat' (conv=>whnf
          first|done|refine qy ?_|refine qG fun _=> ?_|refine qw (fun _=> ?_) (fun _=> ?_)|apply qt|refine qi (fun _=> ?_) (fun _=> ?_)|(refine jS 3 rfl (z98 l v) (0) ?_ ?_ ?_ fun i hi=> ?_)|with_reducible refine jK (z98 _ _) (i+1) ?_ ?_ ?_ ?_|(refine jS 13 rfl (z9l l (inL l v l.length)) (0) ?_ ?_ ?_ fun r hr=> ?_)|with_reducible refine jK (z9l _ _) (r+1) ?_ ?_ ?_ ?_|(refine jS 16 rfl (zaZ l (inL l v l.length) r) (0) ?_ ?_ ?_ fun p hp=> ?_)|with_reducible refine jK (zaZ _ _ _) (p+1) ?_ ?_ ?_ ?_|(refine jS 19 rfl (z90 l (inL l v l.length) r p) (0) ?_ ?_ ?_ fun q hq=> ?_)|with_reducible refine jK (z90 _ _ _ _) (q+1) ?_ ?_ ?_ ?_|refine qu ?_|refine qv ?_ ?_|exact zL)
 all_goals try first|refine qz ?_|apply qz5
 all_goals try simp only [qn0,zY,zX,ETy.dflt,Int.reduceToNat,Int.reduceAdd,Int.reduceSub,Int.reduceNeg,Nat.reduceAdd,z98,z9l,zaZ,z90] at *
 all_goals try exact qh (y7 _)
 all_goals try (rw [zcs];done)
 all_goals try (rw [zcs];rfl)
 all_goals have hle:=zc4 l v i
 all_goals try (refine qh ?_;omega)
 all_goals try (rw [zcL (by assumption)];first|done|exact zO)
 all_goals try (rw [zca (by assumption)];done)
 all_goals have ei:i=l.length:=by omega
 all_goals subst ei
 all_goals have hg:=fun k (hk:k<(inL l v l.length).length)=>zc5 (l:=l) (v:=v) hk
 all_goals have hrg:=z8g (l:=l) (v:=v) (n:=l.length)
 all_goals try
  have h0:((inL l v l.length).length:Int)=0:=by assumption
  rw [zc0 (show (inL l v l.length).length=0 by omega)];exact jE.intro rfl
 all_goals have hne : (inL l v l.length).length ≠ 0 := by have h0:((inL l v l.length).length:Int)≠0:=by assumption
                                                          omega
 all_goals try exact zcn _ _ _
 all_goals try exact zcf _ _ _
 all_goals try (rw [zce];done)
 all_goals try (have h:=hg 0 (by omega);refine zA9.intro (yA ?_ ?_)<;>omega)
 all_goals try
  have hr1:r=(inL l v l.length).length:=by omega
  rw [zc3 hne,hr1];exact jE.intro rfl
 all_goals try
  have hp1:p=(inL l v l.length).length:=by omega
  rw [zdQ,hp1];done
 all_goals try
  have hq1:q=(inL l v l.length).length:=by omega
  rw [zd5,hq1];done
 all_goals (have kp:=hg p (by omega);have kq:=hg q (by omega))
 all_goals try (refine zA9.intro (yA ?_ ?_)<;>omega)
 all_goals have hS:=z8X.r (bs:=z73 l) hrg (by omega) r
 all_goals have hS:=z8X.i (bs:=z73 l) hrg hS p (by omega)
 all_goals have hS:=(z8X.k (bs:=z73 l) hrg hS (i:=p) (by omega) q (by omega)).le
 all_goals try (refine qh ?_;unfold zAZ;omega)
 all_goals try (refine qh ?_;omega)
 all_goals first
  | (rw [zcP (by assumption) (by assumption) (by assumption)];done)
  | (rw [zae (.inl (by assumption))];done)
  | (rw [zae (.inr (.inl (by assumption)))];done)
  | (rw [zae (.inr (.inr (by assumption)))];done)
def zbm:List AV->Option Res:=zFm jQ qX (fun s v=>some (none,some (s.2.length<=8192),.tup [.s (.int .i64 (z6g s.2 v).1),.s (.int .i64 (z6g s.2 v).2)]))
theorem zbO:jN prog 38 zbm:=mkR (zA4 fun s v r h=>by cases h;exact fb (by exact ⟨z7l,zb2,trivial⟩) func38 fun _ h=>zb8 s.1 s.2 v h) func38
end S1
