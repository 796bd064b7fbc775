/- A part of the proofs of the laws. -/
import Derived.Test.YtlhoihabllompaaGreatZ1ptoY5
import Derived.Test.YtlhoihabllompaaGreatT5toT11
import Derived.Test.YtlhoihabllompaaGreatH1toG1
import Derived.Test.YtlhoihabllompaaGreatVmRng3toF5
set_option linter.unusedSimpArgs false
set_option linter.unusedVariables false
set_option maxHeartbeats 8000000
set_option maxRecDepth 100000
open Go Go.Vm Go.Proofs
namespace S1
theorem z3R (x:yI.T) (a b:Int):zD8 x a b=0\/zD8 x a b=1\/zD8 x a b=2\/zD8 x a b=3\/zD8 x a b=4:=by
 unfold zD8
 (repeat' split)<;>simp
theorem z4L {w:SoT} {a b:Int} (h:doE w a b=0):zBI w/\InN w.1 a/\InN w.1 b/\zD8 (zAj w) a b=0/\a≠b:=by
 have hs:zBI w:=by
  apply yE;intro k;unfold doE at h;rw [if_neg (fun e=>k ((zCP w).1 e))] at h;cases h
 rw [zHd hs] at h;split at h
 case isFalse=>cases h
 rename_i hr
 have h0:zD8 (zAj w) a b=0:=by
  rcases z3R (zAj w) a b with e|e|e|e|e
  ·exact e
  all_goals (rw [e] at h;exact absurd h (by decide))
 refine ⟨hs,hr.1,hr.2,h0,fun e=> ?_⟩;subst e;rw [z3Z (zCQ (zAs hs).2.1.toGood a)] at h0;cases h0
theorem zWG {w s:SoT} {r:zAU} {a b:Int} (h:doR w a b=(s,r,0)):Was w a b/\s=(w.1 - 1,drL a b w.2 w.2.length)/\r=zQZ w a b/\zD8 (zAj w) a b=0:=by
 have he:doE w a b=0:=by rw [<- zMB,h]
 rw [zS4 he] at h;obtain ⟨h1,h2,h3,h4,h5⟩:=z4L he;have e1:=congrArg Prod.fst h;have e2:=congrArg (fun z=>z.2.1) h;exact ⟨⟨h1,h2,h3,h5⟩,e1.symm,e2.symm,h4⟩
theorem zLJ {w s:SoT} {r:zAU} {a b:Int} (h:doR w a b=(s,r,0)):bkR s r=(w,true)/\rbk s r=some w:=by
 obtain ⟨h1,h2,h3,_⟩:=zWG h;subst h2 h3;exact ⟨z69 h1,z4J h1⟩
theorem z0D {w s:SoT} {r:zAU} {a b:Int} (h:doR w a b=(s,r,0)):zBI s:=by
 obtain ⟨h1,h2,h3,h4⟩:=zWG h;have:=zOE (zAs h1.surf).2.1 h1.surf h4;rw [h2,zTe];exact this
open Classical in
noncomputable def zBn (s:SoT) (r:zAU):SoT×Int:=if h: ∃ w,doR w r.1 r.2.1=(s,r,0) then (Classical.choose h,0) else ((0,[]),if isR s=true then 3 else 11)
theorem zR9 {w s:SoT} {r:zAU} (h:doR w r.1 r.2.1=(s,r,0)):zBn s r=(w,0):=by
 have hh: ∃ w,doR w r.1 r.2.1=(s,r,0):=⟨w,h⟩;unfold zBn;rw [dif_pos hh];have k:=(zLJ (Classical.choose_spec hh)).1;rw [(zLJ h).1] at k;exact Prod.ext (congrArg (fun z=>z.1) k).symm rfl
theorem zQU {s:SoT} {r:zAU} (h: ¬ ∃ w,doR w r.1 r.2.1=(s,r,0)):zBn s r=((0,[]),if isR s=true then 3 else 11):=by
 unfold zBn;rw [dif_neg h]
theorem z0T {s:SoT} {r:zAU} (h:zGy s=none):zBn s r=((0,[]),11):=by
 have hn: ¬ isR s=true:=fun k=>by have:=(zAs ((zCP s).1 k)).1;rw [h] at this;cases this
 rw [zQU (fun ⟨w,hw⟩=>hn ((zCP s).2 (z0D hw))),if_neg hn]
theorem z4H {s:SoT} {r:zAU} (hs:zBI s) (h: ∀ w,bkR s r=(w,true)->doR w r.1 r.2.1≠(s,r,0)):zBn s r=((0,[]),3):=by
 rw [zQU (fun ⟨w,hw⟩=>h w (zLJ hw).1 hw),if_pos ((zCP s).2 hs)]
def bkV (r:SoT×Bool):AV:= .tup [qP.av r.1,.s (.bool r.2)]
def bkW (s:SoT) (r:zAU):AV:=if bkC s r/\kF (bkG r) (bkN s r)<=s.2.length/\zV2 (bkN s r) r.2.2.2.2=true then bkV (bkR s r) else .tup [.agg [.int .i64 0,.val (.slice none 0 0)],.s (.bool false)]
theorem z4m {σ:Sig} {s:SoT} {r:zAU} {v:Value} (h:y5 σ [] (bkW s r) v):y5 σ [] (bkV (bkR s r)) v:=by
 unfold bkW at h;split at h
 ·exact h
 ·rename_i hn;unfold bkR;rw [if_neg hn];obtain ⟨vs,e1,h⟩:=h
  match vs,h with
  | [x,y],⟨⟨ds,ea,h1⟩,h3⟩ =>
    refine ⟨_,e1,⟨ds,ea,?_⟩,h3⟩
    match ds,h1 with
    | [d1,d2],⟨k1,k2,k3⟩=>exact ⟨k1,zJS k2,k3⟩
def z5I (r:zAU) (k:Nat):GoT:=z36 r.2.2.1 r.2.2.2.1 k
theorem z5s (r:zAU):z5I r 0=[]:=rfl
theorem z5r (r:zAU) (k:Nat):z5I r (k+1)=zAB (.int .i64) (z5I r k) (r.2.2.1.getD k 0) (r.2.2.2.1.getD k (0,0,0)):=rfl
theorem z1y (g:GoT) (T:List P3) (A:Int):zJ1 g T A 0=[]:=rfl
theorem z17 (g:GoT) (T:List P3) (A:Int) (i:Nat):zJ1 g T A (i+1)=zJ1 g T A i++[bkT g T A i]:=by
 unfold zJ1;rw [List.range_succ,List.map_append];rfl
theorem zR6 (g:GoT) (T:List P3) (A:Int) (i:Nat):(zJ1 g T A i).length=i:=by unfold zJ1;simp
theorem zQY (A:Int) (fan:List Int) (o:List P3): ∀ j,(zSJ A fan o j).length=o.length
 | 0=>rfl
 | j+1=>by
   show (zWZ A (zSJ A fan o j) (fan.getD j 0)).length=_;unfold zWZ;rw [List.length_set];exact zQY A fan o j
theorem z6V (A:Int) (fan:List Int) (o:List P3) (j:Nat):zSJ A fan o (j+1)=(zSJ A fan o j).set ((fan.getD j 0).tdiv 3).toNat (z5C ((zSJ A fan o j).getD ((fan.getD j 0).tdiv 3).toNat (0,0,0)) ((fan.getD j 0).tmod 3).toNat A):=rfl
def zXx (r:zAU):Spec Nat where
 inv i:=i<=r.2.2.1.length
 live i:=[(59,.s (.int .i64 i))]
 keep:=[2,3,4,5,6,7,57,58]
 heap i:=[(3,.map y7 .arr3 (z5I r i))]
 keepH:=[0,1,2]
 mu i:=r.2.2.1.length - i
def zTg (n:Int) (l:List P3) (r:zAU):Spec Nat where
 inv i:=i<=bkN (n,l) r/\kF (bkG r) i<=l.length
 live i:=[(77,.s (.int .i64 i)),(11,.s (.int .i64 (kF (bkG r) i)))]
 keep:=[2,3,4,5,6,7,10,76]
 heap i:=[(4,.flat 24 [.int .i64 (n+1),.own 5 0 (zJ1 (bkG r) l r.1 i).length]),(5,.row .arr3 86 (zJ1 (bkG r) l r.1 i))]
 keepH:=[0,1,2,3]
 mu i:=bkN (n,l) r - i
 nils:=[4]
def zVt (n:Int) (l:List P3) (r:zAU):Spec Nat where
 inv j:=j<=r.2.2.2.2.length/\∀ k,k<j->0<=r.2.2.2.2.getD k 0/\r.2.2.2.2.getD k 0<3*(bkN (n,l) r:Int)
 live j:=[(125,.s (.int .i64 j))]
 keep:=[2,3,4,5,6,7,10,11,123,124]
 heap j:=[(5,.row .arr3 86 (zSJ r.1 r.2.2.2.2 (zJ1 (bkG r) l r.1 (bkN (n,l) r)) j))]
 keepH:=[0,1,2,3,4]
 mu j:=r.2.2.2.2.length - j
theorem zUL {n:Nat} {fan:List Int} {k:Nat} (hk:k<fan.length) (h:fan.getD k 0<0\/fan.getD k 0>=3*(n:Int)): ¬ zV2 n fan=true:=fun e=>by
 unfold zV2 at e;have:=zK.1 e _ (jA hk);rw [zP] at this;omega
theorem z0W {n:Nat} {fan:List Int} (h: ∀ k,k<fan.length->0<=fan.getD k 0/\fan.getD k 0<3*(n:Int)):zV2 n fan=true:=by
 unfold zV2;rw [zK];intro c hc;obtain ⟨i,hi,e⟩:=yG.1 hc;have:=h i hi;rw [gdE,gE hi] at this;have this:0<=fan[i]/\fan[i]<3*(n:Int):=this;rw [e] at this;rw [zP];exact this
theorem zRx {s:SoT} {r:zAU} (h: ¬ (bkC s r/\kF (bkG r) (bkN s r)<=s.2.length/\zV2 (bkN s r) r.2.2.2.2=true)):bkW s r= .tup [.agg [.int .i64 0,.val (.slice none 0 0)],.s (.bool false)]:=if_neg h
theorem z34 {s:SoT} {r:zAU} (h:bkC s r/\kF (bkG r) (bkN s r)<=s.2.length/\zV2 (bkN s r) r.2.2.2.2=true):bkW s r= .tup [qP.av (s.1+1,zSJ r.1 r.2.2.2.2 (zJ1 (bkG r) s.2 r.1 (bkN s r)) r.2.2.2.2.length),.s (.bool (decide (kF (bkG r) (bkN s r)=s.2.length)))]:=by
 unfold bkW bkR;rw [if_pos h,if_pos h];rfl
theorem z18 {g:GoT} {j:Nat} (h:(jS (.int .i64) g (j:Int)).isSome=true):kF g (j+1)=kF g j:=by rw [z7L,if_pos h]
theorem zPJ {g:GoT} {j:Nat} (h:(jS (.int .i64) g (j:Int)).isSome=false):kF g (j+1)=kF g j+1:=by rw [z7L,if_neg (by rw [h];simp)]
theorem zRW {g:GoT} {T:List P3} {A:Int} {j:Nat} (h:(jS (.int .i64) g (j:Int)).isSome=true):zJ1 g T A (j+1)=zJ1 g T A j++[(jS (.int .i64) g (j:Int)).getD (0,0,0)]:=by
 rw [z17];unfold bkT;cases e:jS (.int .i64) g (j:Int) with
 | none=>rw [e] at h;cases h
 | some t=>rfl
theorem zNo {g:GoT} {T:List P3} {A:Int} {j:Nat} (h:(jS (.int .i64) g (j:Int)).isSome=false):zJ1 g T A (j+1)=zJ1 g T A j++[(upV A (T.getD (kF g j) (0,0,0)).1,upV A (T.getD (kF g j) (0,0,0)).2.1,upV A (T.getD (kF g j) (0,0,0)).2.2)]:=by
 rw [z17];unfold bkT;cases e:jS (.int .i64) g (j:Int) with
 | none=>rfl
 | some t=>rw [e] at h;cases h
theorem zUW {A v:Int} (h:v>=A):upV A v=v+1:=if_pos h
theorem zUI {A v:Int} (h: ¬ v>=A):upV A v=v:=if_neg h
theorem zXj {n:Int} {l:List P3} {A B:Int} {at_:List Int} {ts:List P3} {fan:List Int} :bkC (n,l) (A,B,at_,ts,fan)↔at_.length=ts.length/\0<=A/\A<=n/\n<4096/\l.length+at_.length<=8192:=Iff.rfl
theorem z7I (A:Int) (fan:List Int) (o:List P3):zSJ A fan o 0=o:=rfl
theorem z8p (g:GoT):kF g 0=0:=rfl
theorem z5h (A B:Int) (at_:List Int) (ts:List P3) (fan:List Int):z5I (A,B,at_,ts,fan) at_.length=bkG (A,B,at_,ts,fan):=rfl
attribute [local irreducible] bkW z5I kF zJ1 zSJ bkG
theorem z2d {fn} (n:Int) (l:List P3) (A B:Int) (at_:List Int) (ts:List P3) (fan:List Int) (hs:zBI (n,l)):zAF ⟨tyL,fn,[]⟩ Tryz.f106 [qP.av (n,l),zGp.av (A,B,at_,ts,fan)] (fun r=>r=bkW (n,l) (A,B,at_,ts,fan)):=by
 have hf:=hs.fit;have hn:0<=n/\n<=4096:=⟨hf.1,hf.2.1⟩;have hl:l.length<=8192:=hf.2.2.1
 repeat' (conv=>whnf
          first|done|refine qN (by first|rfl|omega|(simp only [yP] at *;omega)) ?_|apply qH|refine qG fun _=> ?_|apply qB|apply qa|apply qo|refine qe (fun _=> ?_) (fun _=> ?_)|refine qn (fun _=> ?_) (fun _=> ?_)|refine qd (fun _=> ?_) (fun _=> ?_)|apply qt|refine qi (fun _=> ?_) (fun _=> ?_)|(refine qT 6 rfl ?_;refine Or.inr (zB (Nat) (zB (zXx (A,B,at_,ts,fan)) (zA (zB (0) (zA (yK.out ?_) (zA ?_ (zA ?_ rfl)))) (fun i hi=> ?_)))))|((with_reducible show (∃ y,And (Spec.inv (zXx _) y) _));refine zB (i+1) (zA (yK.out ?_) (zA (zA ?_ (zA ?_ rfl)) (yK.out ?_))))|(refine qT 13 rfl ?_;refine Or.inr (zB (Nat) (zB (zTg n l (A,B,at_,ts,fan)) (zA (zB (0) (zA (yK.out ?_) (zA ?_ (zA ?_ rfl)))) (fun j hj=> ?_)))))|((with_reducible show (∃ y,And (Spec.inv (zTg _ _ _) y) _));refine zB (j+1) (zA (yK.out ?_) (zA (zA ?_ (zA ?_ rfl)) (yK.out ?_))))|(refine qT 20 rfl ?_;refine Or.inl (zB (4) ?_))|(refine qT 30 rfl ?_;refine Or.inr (zB (Nat) (zB (zVt n l (A,B,at_,ts,fan)) (zA (zB (0) (zA (yK.out ?_) (zA ?_ (zA ?_ rfl)))) (fun k hk=> ?_)))))|((with_reducible show (∃ y,And (Spec.inv (zVt _ _ _) y) _));refine zB (k+1) (zA (yK.out ?_) (zA (zA ?_ (zA ?_ rfl)) (yK.out ?_))))|refine zA rfl ?_|apply qE|apply qO|exact zN|apply qq|apply qs|refine qK (by kernel_rfl) ?_|apply qr)
 all_goals try first|apply qz1|apply qz2|apply qz3|apply qz4|apply qz5|apply qz6|apply qz7|apply qz8|apply qz9|apply qz0
 all_goals try simp only [zZ,zR,yD,z6,qn1,zY,qn2,zX,ETy.dflt,qn3,qn4,Int.reduceToNat,Int.reduceAdd,Int.reduceSub,Int.reduceNeg,Nat.reduceAdd,zD,zXx,zTg,zVt] at *
 all_goals have eN:bkN (n,l) (A,B,at_,ts,fan)=l.length+at_.length:=rfl
 all_goals try exact y9.intro (zRx (fun k=>by have c:=zXj.1 k.1;omega)).symm
 all_goals try exact z5s _
 all_goals try exact z5r _ _
 all_goals try exact z1y _ _ _
 all_goals try exact z6V _ _ _ _
 all_goals try (rw [z8p];rfl)
 all_goals try (rw [z1y];exact jM.intro rfl)
 all_goals try (refine qh ?_;omega)
 all_goals try (rw [z8p];exact qh ⟨Nat.zero_le _,Nat.zero_le _⟩)
 all_goals have ei:i=at_.length:=by omega
 all_goals subst ei
 all_goals try simp only [z5h] at *
 all_goals have eO:(zJ1 (bkG (A,B,at_,ts,fan)) l A j).length=j:=zR6 _ _ _ _
 all_goals have hj1:=hj.1
 all_goals rw [eN] at hj1
 all_goals have hj2:=hj.2
 all_goals try (refine qh ?_;rw [eO];omega)
 all_goals try (refine qh ?_;unfold yP;omega)
 all_goals try
  have hit:(jS (.int .i64) (bkG (A,B,at_,ts,fan)) (j:Int)).isSome=true:=by assumption
  first
  | (rw [z18 hit];refine yK.intro (zA ?_ ?_)<;>omega)
  | (rw [z18 hit];done)
  | exact zRW hit
  | (rw [zRW hit];exact jM.intro (by rw [zO];rfl))
 all_goals try
  have miss:(jS (.int .i64) (bkG (A,B,at_,ts,fan)) (j:Int)).isSome=false:=by assumption
  have e1:((kF (bkG (A,B,at_,ts,fan)) j:Nat):Int)=(l.length:Int):=by assumption
  refine y9.intro (zRx (fun k=> ?_)).symm;have k2:kF (bkG (A,B,at_,ts,fan)) (bkN (n,l) (A,B,at_,ts,fan))<=l.length:=k.2.1;have k3:=zU6 (bkG (A,B,at_,ts,fan)) (i:=j+1) (j:=bkN (n,l) (A,B,at_,ts,fan)) (by omega);rw [zPJ miss] at k3;omega
 all_goals try
  have miss:(jS (.int .i64) (bkG (A,B,at_,ts,fan)) (j:Int)).isSome=false:=by assumption
  have e1:((kF (bkG (A,B,at_,ts,fan)) j:Nat):Int)≠(l.length:Int):=by assumption
  have hk:kF (bkG (A,B,at_,ts,fan)) j<l.length:=by omega
  have ht:(0<=(l.getD (kF (bkG (A,B,at_,ts,fan)) j) (0,0,0)).1/\(l.getD (kF (bkG (A,B,at_,ts,fan)) j) (0,0,0)).1<n)/\(0<=(l.getD (kF (bkG (A,B,at_,ts,fan)) j) (0,0,0)).2.1/\(l.getD (kF (bkG (A,B,at_,ts,fan)) j) (0,0,0)).2.1<n)/\(0<=(l.getD (kF (bkG (A,B,at_,ts,fan)) j) (0,0,0)).2.2/\(l.getD (kF (bkG (A,B,at_,ts,fan)) j) (0,0,0)).2.2<n):=zAE (hf.2.2.2 _ hk)
  first
  | (rw [zPJ miss];refine yK.intro (zA ?_ ?_)<;>omega)
  | (refine yK.intro (zA ?_ ?_)<;>omega)
  | (refine qh ?_;unfold yP;omega)
  | (rw [zPJ miss];exact Int.natCast_add _ _)
  | (rw [zNo miss];exact jM.intro (by rw [zO];rfl))
  | (rw [zNo miss]
     first|rw [zUW (v:=(l.getD (kF (bkG (A,B,at_,ts,fan)) j) (0,0,0)).1) (by assumption)]|rw [zUI (v:=(l.getD (kF (bkG (A,B,at_,ts,fan)) j) (0,0,0)).1) (by assumption)]
     first|rw [zUW (v:=(l.getD (kF (bkG (A,B,at_,ts,fan)) j) (0,0,0)).2.1) (by assumption)]|rw [zUI (v:=(l.getD (kF (bkG (A,B,at_,ts,fan)) j) (0,0,0)).2.1) (by assumption)]
     first|rw [zUW (v:=(l.getD (kF (bkG (A,B,at_,ts,fan)) j) (0,0,0)).2.2) (by assumption)]|rw [zUI (v:=(l.getD (kF (bkG (A,B,at_,ts,fan)) j) (0,0,0)).2.2) (by assumption)]
     rfl)
 all_goals have ej:j=l.length+at_.length:=by omega
 all_goals subst ej
 all_goals try exact z7I _ _ _
 all_goals try (refine yK.intro (zA (Nat.zero_le _) ?_);intro k hk;omega)
 all_goals have hk2:=hk.2
 all_goals try
  have hkl:(k:Int)<fan.length:=by assumption
  have hkl:k<fan.length:=by omega
  first
  | exact y9.intro (zRx (fun q=>zUL hkl (.inl (by assumption)) q.2.2)).symm
  | (have hge:fan.getD k 0>=3*((bkN (n,l) (A,B,at_,ts,fan):Nat):Int):=by rw [eN];omega
     exact y9.intro (zRx (fun q=>zUL hkl (.inr hge) q.2.2)).symm)
 all_goals try
  have h0: ¬ fan.getD k 0<0:=by assumption
  have e3:(fan.getD k 0).tdiv 3=fan.getD k 0 / 3:=Int.tdiv_eq_ediv_of_nonneg (by omega);have e4:(fan.getD k 0).tmod 3=fan.getD k 0 % 3:=Int.tmod_eq_emod_of_nonneg (by omega);rw [eN] at hk2
  first
  | (rw [e3];refine yK.intro (zA (by decide) ?_);unfold yP;omega)
  | (rw [e3];refine yK.intro (zA ?_ ?_)<;>omega)
  | (rw [e4];refine yK.intro (zA ?_ ?_)<;>omega)
  | (rw [eN]
     refine yK.intro (zA ?_ ?_)
     ·omega
     ·intro q hq
      by_cases e:q=k
      ·subst e;omega
      ·have:=hk2 q (by omega);omega)
 all_goals
  have ek:k=fan.length:=by omega
  subst ek;have hC:bkC (n,l) (A,B,at_,ts,fan):=zXj.2 (by omega);have hF:zV2 (bkN (n,l) (A,B,at_,ts,fan)) fan=true:=z0W hk2;refine y9.intro ?_;rw [z34 ⟨hC,by rw [eN];exact hj2,hF⟩];rw [List.drop_zero,List.take_of_length_le (by rw [zQY,zR6];rw [eO];exact zI _)]
  have e5:((kF (bkG (A,B,at_,ts,fan)) (l.length+at_.length):Int)==(l.length:Int))=decide (kF (bkG (A,B,at_,ts,fan)) (bkN (n,l) (A,B,at_,ts,fan))=l.length):=by
   rw [Bool.eq_iff_iff,beq_iff_eq,zP,eN];omega
  rw [e5];rfl
def backC:List AV->Option Res:=zCs qP zGp (fun s r=>some (none,some (zBI s),bkV (bkR s r)))
theorem zUY:qL Tryz.prog 106 backC:=⟨jC fun s r q h=>by
 cases h
 exact zDL.res (qM (yN (fn:=[]) (fr:=[]) trivial trivial) Tryz.func106 (by kernel_rfl) fun _ h=>z2d s.1 s.2 r.1 r.2.1 r.2.2.1 r.2.2.2.1 r.2.2.2.2 h) fun σ v h=>z4m h,_,Tryz.func106,by kernel_rfl,by kernel_rfl⟩
end S1
open Go Go.Vm Go.Proofs
namespace S1
theorem zZq (a b:Int) (l m:List P3):zAF ⟨tyL,[(140,zOL)],[]⟩ Tryz.f107 [qP.av (a,l),qP.av (b,m)] (fun r=>r= .s (.bool (eqS (a,l) (b,m)))):=by
 repeat' (conv=>whnf
          first|done|refine qN (by first|rfl|omega|(simp only [yP] at *;omega)) ?_|apply qH|refine qG fun _=> ?_|apply qB|apply qa|apply qo|refine qe (fun _=> ?_) (fun _=> ?_)|refine qn (fun _=> ?_) (fun _=> ?_)|refine qd (fun _=> ?_) (fun _=> ?_)|apply qt|refine qi (fun _=> ?_) (fun _=> ?_)|refine zA rfl ?_|apply qE|apply qO|exact zN|apply qq|apply qs|refine qK (by kernel_rfl) ?_|apply qr)
 all_goals try first|apply qz1|apply qz2|apply qz3|apply qz4|apply qz5|apply qz6|apply qz7|apply qz8|apply qz9|apply qz0
 all_goals try simp only [zZ,zR,yD,z6,qn1,zY,qn2,zX,ETy.dflt,qn3,qn4,Int.reduceToNat,Int.reduceAdd,Int.reduceSub,Int.reduceNeg,Nat.reduceAdd,zD,eqS,eqR] at *
 ·rename_i h;subst h;rw [decide_eq_decide];exact ⟨fun e=>by rw [e],fun e=>congrArg Prod.snd e⟩
 ·rename_i h;symm;rw [yM];exact fun e=>h (congrArg Prod.fst e)
def zNn:List AV->Option Res:=zCs qP qP (fun a b=>some (none,none,.s (.bool (eqS a b))))
theorem zRY:qL Tryz.prog 107 zNn:=⟨jC fun a b r h=>by cases h;exact qM (yN (fn:=[(140,zOL)]) (fr:=[]) ⟨zRb,trivial⟩ trivial) Tryz.func107 (by kernel_rfl) fun _ _=>zZq a.1 b.1 a.2 b.2,_,Tryz.func107,by kernel_rfl,by kernel_rfl⟩
def zF0 (a b:zAU):Bool:=decide (a.1=b.1)&&(decide (a.2.1=b.2.1)&&(eqL a.2.2.1 b.2.2.1&&(eqR a.2.2.2.1 b.2.2.2.1&&eqL a.2.2.2.2 b.2.2.2.2)))
theorem zFY {a b:zAU} :zF0 a b=true↔a=b:=by
 unfold zF0 eqL eqR;simp only [zC,zP];exact ⟨fun ⟨h1,h2,h3,h4,h5⟩=>Prod.ext h1 (Prod.ext h2 (Prod.ext h3 (Prod.ext h4 h5))),fun h=>by subst h;exact ⟨rfl,rfl,rfl,rfl,rfl⟩⟩
theorem z0t (a1 b1 a2 b2:Int) (t1 f1 t2 f2:List Int) (r1 r2:List P3):zAF ⟨tyL,[(140,zOL),(141,zPn)],[]⟩ Tryz.f108 [zGp.av (a1,b1,t1,r1,f1),zGp.av (a2,b2,t2,r2,f2)] (fun r=>r= .s (.bool (zF0 (a1,b1,t1,r1,f1) (a2,b2,t2,r2,f2)))):=by
 repeat' (conv=>whnf
          first|done|refine qN (by first|rfl|omega|(simp only [yP] at *;omega)) ?_|apply qH|refine qG fun _=> ?_|apply qB|apply qa|apply qo|refine qe (fun _=> ?_) (fun _=> ?_)|refine qn (fun _=> ?_) (fun _=> ?_)|refine qd (fun _=> ?_) (fun _=> ?_)|apply qt|refine qi (fun _=> ?_) (fun _=> ?_)|refine zA rfl ?_|apply qE|apply qO|exact zN|apply qq|apply qs|refine qK (by kernel_rfl) ?_|apply qr)
 all_goals try first|apply qz1|apply qz2|apply qz3|apply qz4|apply qz5|apply qz6|apply qz7|apply qz8|apply qz9|apply qz0
 all_goals try simp only [zZ,zR,yD,z6,qn1,zY,qn2,zX,ETy.dflt,qn3,qn4,Int.reduceToNat,Int.reduceAdd,Int.reduceSub,Int.reduceNeg,Nat.reduceAdd,zD] at *
 all_goals
  rw [Bool.eq_iff_iff,zFY]
  try unfold eqL
  simp only [zP,yM,Prod.mk.injEq,Bool.false_eq_true,false_iff] at *;simp [*]
def zNj:List AV->Option Res:=zCs zGp zGp (fun a b=>some (none,none,.s (.bool (zF0 a b))))
theorem zRT:qL Tryz.prog 108 zNj:=⟨jC fun a b r h=>by
 cases h;exact qM (yN (fn:=[(140,zOL),(141,zPn)]) (fr:=[]) ⟨zRb,zW3,trivial⟩ trivial) Tryz.func108 (by kernel_rfl) fun _ _=>z0t a.1 a.2.1 b.1 b.2.1 a.2.2.1 a.2.2.2.2 b.2.2.1 b.2.2.2.2 a.2.2.2.1 b.2.2.2.1,_,Tryz.func108,by kernel_rfl,by kernel_rfl⟩
def zSm (r:SoT×Int):AV:= .tup [qP.av r.1,.s (.int .i64 r.2)]
def zN8 (r:SoT×Int):AV:=if r.2=0 then zSm r else .tup [.agg [.int .i64 0,.val (.slice none 0 0)],.s (.int .i64 r.2)]
theorem zZJ (s:SoT) (r:zAU) (h:(zBn s r).2≠0):(zBn s r).1=(0,[]):=by
 unfold zBn at *;split
 ·rename_i hh;rw [dif_pos hh] at h;exact absurd rfl h
 ·rfl
theorem zMo {σ:Sig} {s:SoT} {r:zAU} {v:Value} (h:y5 σ [] (zN8 (zBn s r)) v):y5 σ [] (zSm (zBn s r)) v:=by
 unfold zN8 at h;split at h
 ·exact h
 ·rename_i hn;have e:=zZJ s r hn;obtain ⟨vs,e1,h⟩:=h;unfold zSm;rw [e]
  match vs,h with
  | [x,y],⟨⟨ds,ea,h1⟩,h3⟩ =>
    refine ⟨_,e1,⟨ds,ea,?_⟩,h3⟩
    match ds,h1 with
    | [d1,d2],⟨k1,k2,k3⟩=>exact ⟨k1,zJS k2,k3⟩
theorem z4M {s:SoT} {r:zAU} (hs:zBI s) (h: ∀ w,bkR s r=(w,true)->doR w r.1 r.2.1≠(s,r,0)):zN8 (zBn s r)= .tup [.agg [.int .i64 0,.val (.slice none 0 0)],.s (.int .i64 3)]:=by
 rw [z4H hs h];rfl
theorem z05 {s:SoT} {r:zAU} (h:zGy s=none):zN8 (zBn s r)= .tup [.agg [.int .i64 0,.val (.slice none 0 0)],.s (.int .i64 11)]:=by
 rw [z0T h];rfl
theorem z2q {s w:SoT} {r:zAU} (h:doR w r.1 r.2.1=(s,r,0)):zN8 (zBn s r)= .tup [qP.av w,.s (.int .i64 0)]:=by
 rw [zR9 h];rfl
theorem zYF {a b:SoT} :eqS a b=true↔a=b:=by unfold eqS;exact decide_eq_true_iff
theorem zKi (a:SoT):eqS a a=true:=zYF.2 rfl
theorem zMe (a:zAU):zF0 a a=true:=zFY.2 rfl
attribute [local irreducible] zN8 bkR doR eqS zF0 zDO
theorem z0J (n:Int) (l:List P3) (A B:Int) (at_:List Int) (ts:List P3) (fan:List Int) (x:yI.T) (hx:zGy (n,l)=some x):zAF ⟨tyL,[(54,zL1 x),(100,zLY),(106,backC),(65,z3l),(107,zNn),(108,zNj)],[]⟩ Tryz.f68 [qP.av (n,l),zGp.av (A,B,at_,ts,fan)] (fun v=>v=zN8 (zBn (n,l) (A,B,at_,ts,fan))):=by
 obtain ⟨e0,g,hs⟩:=zH9 hx
 repeat' (conv=>whnf
          first|done|refine qN (by first|rfl|omega|(simp only [yP] at *;omega)) ?_|apply qH|refine qG fun _=> ?_|apply qB|apply qa|apply qo|refine qe (fun _=> ?_) (fun _=> ?_)|refine qn (fun _=> ?_) (fun _=> ?_)|refine qd (fun _=> ?_) (fun _=> ?_)|apply qt|refine qi (fun _=> ?_) (fun _=> ?_)|refine zA rfl ?_|apply qE|apply qO|exact zN|apply qq|apply qs|refine qK (by kernel_rfl) ?_|apply qr)
 all_goals try first|apply qz1|apply qz2|apply qz3|apply qz4|apply qz5|apply qz6|apply qz7|apply qz8|apply qz9|apply qz0
 all_goals try simp only [zZ,zR,yD,z6,qn1,zY,qn2,zX,ETy.dflt,qn3,qn4,Int.reduceToNat,Int.reduceAdd,Int.reduceSub,Int.reduceNeg,Nat.reduceAdd,zD] at *
 all_goals try exact absurd (zMz hs) (by rw [show zDO (n,l)=false by assumption];decide)
 all_goals try
  refine y9.intro (z4M hs (fun w hw hd=> ?_)).symm;have hd:doR w A B=((n,l),(A,B,at_,ts,fan),0):=hd;simp only [hw,hd,zKi,zMe,ne_eq,not_true_eq_false,Bool.true_eq_false,reduceCtorEq] at *
  done
 all_goals
  have h3:(doR (bkR (n,l) (A,B,at_,ts,fan)).1 A B).2.2=0:=by assumption
  have h1:eqS (doR (bkR (n,l) (A,B,at_,ts,fan)).1 A B).1 (n,l)=true:=by assumption
  have h2:zF0 (doR (bkR (n,l) (A,B,at_,ts,fan)).1 A B).2.1 (A,B,at_,ts,fan)=true:=by assumption
  have h:doR (bkR (n,l) (A,B,at_,ts,fan)).1 A B=((n,l),(A,B,at_,ts,fan),0):=Prod.ext (zYF.1 h1) (Prod.ext (zFY.1 h2) h3);exact y9.intro (z2q h).symm
theorem zTk (n:Int) (l:List P3) (r:zAU) (hx:zGy (n,l)=none):zAF ⟨tyL,[(54,zWV),(100,zLY),(106,backC),(65,z3l),(107,zNn),(108,zNj)],[]⟩ Tryz.f68 [qP.av (n,l),zGp.av r] (fun v=>v=zN8 (zBn (n,l) r)):=by
 have e:=z05 (r:=r) hx
 repeat' (conv=>whnf
          first|done|refine qN (by first|rfl|omega|(simp only [yP] at *;omega)) ?_|apply qH|refine qG fun _=> ?_|apply qB|apply qa|apply qo|refine qe (fun _=> ?_) (fun _=> ?_)|refine qn (fun _=> ?_) (fun _=> ?_)|refine qd (fun _=> ?_) (fun _=> ?_)|apply qt|refine qi (fun _=> ?_) (fun _=> ?_)|refine zA rfl ?_|apply qE|apply qO|exact zN|apply qq|apply qs|refine qK (by kernel_rfl) ?_|apply qr)
 all_goals try first|apply qz1|apply qz2|apply qz3|apply qz4|apply qz5|apply qz6|apply qz7|apply qz8|apply qz9|apply qz0
 all_goals try simp only [zZ,zR,yD,z6,qn1,zY,qn2,zX,ETy.dflt,qn3,qn4,Int.reduceToNat,Int.reduceAdd,Int.reduceSub,Int.reduceNeg,Nat.reduceAdd,zD] at *
 all_goals try exact qh hx
 all_goals exact y9.intro e.symm
noncomputable def zYB:List AV->Option Res:=zCs qP zGp (fun s r=>some (none,none,zSm (zBn s r)))
theorem zZb:qL Tryz.prog 68 zYB:=⟨jC fun s r q h=>by
 cases h;cases e:zGy s with
 | none=>exact zDL.res (qM (yN (fn:=[(54,zWV),(100,zLY),(106,backC),(65,z3l),(107,zNn),(108,zNj)]) (fr:=[]) ⟨zVR,zKg,zUY,zXr,zRY,zRT,trivial⟩ trivial) Tryz.func68 (by kernel_rfl) fun _ _=>zTk s.1 s.2 r e) fun σ v h=>zMo h
 | some x=>exact zDL.res (qM (yN (fn:=[(54,zL1 x),(100,zLY),(106,backC),(65,z3l),(107,zNn),(108,zNj)]) (fr:=[]) ⟨(zKx x),zKg,zUY,zXr,zRY,zRT,trivial⟩ trivial) Tryz.func68 (by kernel_rfl) fun _ _=>z0J s.1 s.2 r.1 r.2.1 r.2.2.1 r.2.2.2.1 r.2.2.2.2 x e) fun σ v h=>zMo h,_,Tryz.func68,by kernel_rfl,by kernel_rfl⟩
end S1
open Go Go.Vm Go.Proofs
namespace S1
def zTL (v:Int):List (Int×Int)->Int
 | []=> -1
 | e::r=>if e.2=v then e.1 else zTL v r
def z1w (x:yI.T) (v:Int):Int:=zTL v (zL6 x)
def zVG (L:List (Int×Int)) (v:Int):Spec Nat where
 inv k:=k<=L.length/\zTL v L=zTL v (L.drop k)
 live k:=[(10,.s (.int .i64 k))]
 keep:=[1,8,9]
 heap _:=[]
 keepH:=[]
 mu k:=L.length - k
theorem zOT {l:List (Int×Int)} {x:Nat} (h:x<l.length):l.drop x=l.getD x (0,0)::l.drop (x+1):=by
 rw [List.drop_eq_getElem_cons h,gdE,gE h];rfl
attribute [local irreducible] zL6 zTL
theorem zW6 (x:yI.T) (v:Int) (g:Good x):zAF ⟨tyL,[(99,zIH)],[]⟩ Tryz.f63 [(ETy.pt yI).av (some x),y7.av v] (fun r=>r= .s (.int .i64 (z1w x v))):=by
 repeat' (conv=>whnf
          first|done|refine qN (by first|rfl|omega|(simp only [yP] at *;omega)) ?_|apply qH|refine qG fun _=> ?_|apply qB|apply qa|apply qo|refine qe (fun _=> ?_) (fun _=> ?_)|refine qn (fun _=> ?_) (fun _=> ?_)|refine qd (fun _=> ?_) (fun _=> ?_)|apply qt|refine qi (fun _=> ?_) (fun _=> ?_)|(refine qT 2 rfl ?_;refine Or.inr (zB (Nat) (zB (zVG (zL6 x) v) (zA (zB (0) (zA (yK.out ?_) (zA ?_ (zA ?_ rfl)))) (fun k hk=> ?_)))))|((with_reducible show (∃ y,And (Spec.inv (zVG _ _) y) _));refine zB (k+1) (zA (yK.out ?_) (zA (zA ?_ (zA ?_ rfl)) (yK.out ?_))))|refine zA rfl ?_|apply qE|apply qO|exact zN|apply qq|apply qs|refine qK (by kernel_rfl) ?_|apply qr)
 all_goals try first|apply qz1|apply qz2|apply qz3|apply qz4|apply qz5|apply qz6|apply qz7|apply qz8|apply qz9|apply qz0
 all_goals try simp only [zZ,zR,yD,z6,qn1,zY,qn2,zX,ETy.dflt,qn3,qn4,Int.reduceToNat,Int.reduceAdd,Int.reduceSub,Int.reduceNeg,Nat.reduceAdd,zD,zVG,z1w] at *
 ·exact qh (fun y h=>by cases h;exact g)
 ·exact qh ⟨Nat.zero_le _,by rw [List.drop_zero]⟩
 all_goals try have hk1:k<(zL6 x).length:=Int.ofNat_lt.1 (by assumption)
 ·have h:((zL6 x).getD k (0,0)).2=v:=by assumption
  rw [hk.2,zOT hk1];unfold zTL;rw [if_pos h];rfl
 ·have h:((zL6 x).getD k (0,0)).2≠v:=by assumption
  refine yK.intro ⟨hk1,?_⟩;rw [hk.2,zOT hk1];conv=>lhs;unfold zTL
  rw [if_neg h]
 ·refine qh ?_;omega
 ·have h: ¬ (k:Int)<(zL6 x).length:=by assumption
  rw [hk.2,List.drop_eq_nil_of_le (by omega)];unfold zTL;rfl
theorem zS5 (v:Int):zAF ⟨tyL,[(99,zIH)],[]⟩ Tryz.f63 [(ETy.pt yI).av none,y7.av v] (fun r=>r= .s (.int .i64 (-1))):=by
 repeat' (conv=>whnf
          first|done|refine qN (by first|rfl|omega|(simp only [yP] at *;omega)) ?_|apply qH|refine qG fun _=> ?_|apply qB|apply qa|apply qo|refine qe (fun _=> ?_) (fun _=> ?_)|refine qn (fun _=> ?_) (fun _=> ?_)|refine qd (fun _=> ?_) (fun _=> ?_)|apply qt|refine qi (fun _=> ?_) (fun _=> ?_)|(refine qT 2 rfl ?_;refine Or.inl (zB (1) ?_))|refine zA rfl ?_|apply qE|apply qO|exact zN|apply qq|apply qs|refine qK (by kernel_rfl) ?_|apply qr)
 all_goals try first|apply qz1|apply qz2|apply qz3|apply qz4|apply qz5|apply qz6|apply qz7|apply qz8|apply qz9|apply qz0
 all_goals try simp only [zZ,zR,yD,z6,qn1,zY,qn2,zX,ETy.dflt,qn3,qn4,Int.reduceToNat,Int.reduceAdd,Int.reduceSub,Int.reduceNeg,Nat.reduceAdd,zD] at *
 all_goals try exact qh (fun y h=>by cases h)
 all_goals try rfl
 all_goals exact absurd (show (0:Int)<(0:Nat) by assumption) (by decide)
def zVs:List AV->Option Res:=zCs (.pt yI) y7 (fun o v=>some (none,some (∀ x,o=some x->Good x),.s (.int .i64 (match o with|some x=>z1w x v|none=> -1))))
theorem zWz:qL Tryz.prog 63 zVs:=⟨jC fun o v r h=>by
 cases h;cases o with
 | none=>exact qM (yN (fn:=[(99,zIH)]) (fr:=[]) ⟨zMF,trivial⟩ trivial) Tryz.func63 (by kernel_rfl) fun _ _=>zS5 v
 | some x=>exact qM (yN (fn:=[(99,zIH)]) (fr:=[]) ⟨zMF,trivial⟩ trivial) Tryz.func63 (by kernel_rfl) fun _ h=>zW6 x v (h x rfl),_,Tryz.func63,by kernel_rfl,by kernel_rfl⟩
def zBK:List zAU->Int->Int
 | [],v=>v
 | r::l,v=>if zJ3 v r.1 r.2.1<0 then -1 else zBK l (zJ3 v r.1 r.2.1)
def zOe:zAU:=(0,0,[],[],[])
def nwK (R:List zAU) (v:Int):Nat->Int
 | 0=>v
 | k+1=>zJ3 (nwK R v k) (R.getD k zOe).1 (R.getD k zOe).2.1
theorem zO5 {l:List zAU} {x:Nat} (h:x<l.length):l.drop x=l.getD x zOe::l.drop (x+1):=by
 rw [List.drop_eq_getElem_cons h,gdE,gE h];rfl
theorem zOU {R:List zAU} {k:Nat} (h:k<R.length):R.getD k zOe∈R:=by
 rw [gdE,gE h];exact yU h
theorem z2n {v a b:Int} (hv:v<=1000000) (hb:b<=1000000):zJ3 v a b<=1000000:=by
 unfold zJ3
 (repeat' split)<;>omega
def okR (R:List zAU):Prop:= ∀ r∈R,-1000000<=r.2.1/\r.2.1<=1000000
def zWj (R:List zAU) (v:Int):Spec Nat where
 inv k:=k<=R.length/\zBK R v=zBK (R.drop k) (nwK R v k)/\(-1000000<=nwK R v k/\nwK R v k<=1000000)
 live k:=[(0,.s (.int .i64 (nwK R v k))),(9,.s (.int .i64 k))]
 keep:=[7,8]
 heap _:=[]
 keepH:=[]
 mu k:=R.length - k
attribute [local irreducible] zJ3 zBK nwK
theorem z7B (R:List zAU) (v:Int) (hR:okR R) (hv: -1000000<=v/\v<=1000000):zAF ⟨tyL,[(104,zPu)],[]⟩ Tryz.f66 [y7.av v,(ETy.sl zGp).av R] (fun r=>r= .s (.int .i64 (zBK R v))):=by
 repeat' (conv=>whnf
          first|done|refine qN (by first|rfl|omega|(simp only [yP] at *;omega)) ?_|apply qH|refine qG fun _=> ?_|apply qB|apply qa|apply qo|refine qe (fun _=> ?_) (fun _=> ?_)|refine qn (fun _=> ?_) (fun _=> ?_)|refine qd (fun _=> ?_) (fun _=> ?_)|apply qt|refine qi (fun _=> ?_) (fun _=> ?_)|(refine qT 2 rfl ?_;refine Or.inr (zB (Nat) (zB (zWj R v) (zA (zB (0) (zA (yK.out ?_) (zA ?_ (zA ?_ rfl)))) (fun k hk=> ?_)))))|((with_reducible show (∃ y,And (Spec.inv (zWj _ _) y) _));refine zB (k+1) (zA (yK.out ?_) (zA (zA ?_ (zA ?_ rfl)) (yK.out ?_))))|refine zA rfl ?_|apply qE|apply qO|exact zN|apply qq|apply qs|refine qK (by kernel_rfl) ?_|apply qr)
 all_goals try first|apply qz1|apply qz2|apply qz3|apply qz4|apply qz5|apply qz6|apply qz7|apply qz8|apply qz9|apply qz0
 all_goals try simp only [zZ,zR,yD,z6,qn1,zY,qn2,zX,ETy.dflt,qn3,qn4,Int.reduceToNat,Int.reduceAdd,Int.reduceSub,Int.reduceNeg,Nat.reduceAdd,zD,zWj] at *
 ·refine yK.intro ⟨Nat.zero_le _,by rw [List.drop_zero];unfold nwK;rfl,?_⟩;unfold nwK;exact hv
 ·unfold nwK;rfl
 all_goals try have hk1:k<R.length:=Int.ofNat_lt.1 (by assumption)
 ·exact qh ⟨hk.2.2,hR _ (zOU hk1)⟩
 ·have h:zJ3 (nwK R v k) (R.getD k zOe).1 (R.getD k zOe).2.1<0:=by assumption
  rw [hk.2.1,zO5 hk1];unfold zBK;rw [if_pos h]
 ·have h: ¬ zJ3 (nwK R v k) (R.getD k zOe).1 (R.getD k zOe).2.1<0:=by assumption
  have e:nwK R v (k+1)=zJ3 (nwK R v k) (R.getD k zOe).1 (R.getD k zOe).2.1:=by conv=>lhs;unfold nwK
  have hb:=z2n (a:=(R.getD k zOe).1) hk.2.2.2 (hR _ (zOU hk1)).2;refine yK.intro ⟨hk1,?_,by rw [e];exact ⟨by omega,hb⟩⟩;rw [hk.2.1,zO5 hk1,e];conv=>lhs;unfold zBK
  rw [if_neg h]
 ·conv=>lhs;unfold nwK
  rfl
 ·refine qh ?_;omega
 ·have h: ¬ (k:Int)<R.length:=by assumption
  rw [hk.2.1,List.drop_eq_nil_of_le (by omega)];unfold zBK;rfl
def z71:List AV->Option Res:=zCs y7 (.sl zGp) (fun (v:Int) (R:List zAU)=>some (none,some ((-1000000<=v/\v<=1000000)/\okR R),.s (.int .i64 (zBK R v))))
theorem z60:qL Tryz.prog 66 z71:=⟨jC fun v R r h=>by
 cases h;exact qM (yN (fn:=[(104,zPu)]) (fr:=[]) ⟨zPx,trivial⟩ trivial) Tryz.func66 (by kernel_rfl) fun _ h=>z7B R v h.2 h.1,_,Tryz.func66,by kernel_rfl,by kernel_rfl⟩
def imL (R:List zAU) (k:Nat):List Int:=(List.range k).map fun (v:Nat)=>zBK R v
def z8I (n:Int) (R:List zAU):Int:=if n<0\/n>4096 then 2 else if (imL R n.toNat).all (fun v=>decide (0<=v))=true then 0 else 3
def z9D (n:Int) (R:List zAU):List Int×Int:=if z8I n R=0 then (imL R n.toNat,0) else ([],z8I n R)
attribute [local irreducible] z8I imL z9D
end S1
open Go Go.Vm Go.Proofs
namespace S1
def ofV (m:NxM) (i:Int) (L:List Int):NxM:=L.foldl (fun m v=>zAB (.int .i64) m v i) m
def ofK (Ls:List (List Int)):Nat->NxM
 | 0=>[]
 | i+1=>ofV (ofK Ls i) i (Ls.getD i [])
def lfK (Ls:List (List Int)) (i:Nat):List Int:=(Ls.take i).map fun L=>(L.length:Int) - 3
theorem zUP: ∀ (L:List Int) (m:NxM) (i u:Int),jS y7 (ofV m i L) u=if u∈L then some i else jS y7 m u
 | [],m,i,u=>by rw [if_neg (by simp)];rfl
 | a ::r,m,i,u=>by
   show jS y7 (ofV (zAB y7 m a i) i r) u=_;rw [zUP r]
   by_cases h:u∈r
   ·rw [if_pos h,if_pos (zS _ h)]
   ·rw [if_neg h]
    by_cases e:a=u
    ·subst e;rw [zAQ,if_pos (yA ..)]
    ·rw [zA1 _ e,if_neg];intro k;rcases zT.1 k with k|k
     ·exact e k.symm
     ·exact h k
theorem zM1 {Ls:List (List Int)} (hn:Ls.flatten.Nodup) {i:Nat} {u:Int} (hu:u∈Ls.getD i []): ∀ k,i<k->k<=Ls.length->jS y7 (ofK Ls k) u=some (i:Int)
 | 0,h,_=>absurd h (Nat.not_lt_zero _)
 | k +1,h,hk=>by
   show jS y7 (ofV (ofK Ls k) k (Ls.getD k [])) u=_;rw [zUP]
   by_cases e:i=k
   ·subst e;rw [if_pos hu]
   ·rw [if_neg,zM1 hn hu k (by omega) (by omega)];intro hk2
    -- u lies in two loops
    have hi:i<Ls.length:=by omega
    have hkl:k<Ls.length:=by omega
    have gi:Ls.getD i []=Ls[i]:=by rw [gdE,gE hi];rfl
    have gk:Ls.getD k []=Ls[k]:=by rw [gdE,gE hkl];rfl
    rw [gi] at hu;rw [gk] at hk2;have hp:=flat_pair hn;have:=List.pairwise_iff_getElem.1 hp;rcases Nat.lt_or_gt_of_ne e with q|q
    ·exact this i k hi hkl q u hu hk2
    ·exact this k i hkl hi q u hk2 hu
where
 flat_pair: ∀ {Ls:List (List Int)},Ls.flatten.Nodup->Ls.Pairwise (fun a b=> ∀ x∈a,x∉b)
  | [],_=>List.Pairwise.nil
  | a::r,hn=>by
    rw [List.flatten_cons,List.nodup_append] at hn;exact List.pairwise_cons.2 ⟨fun b hb x hx hxb=>hn.2.2 x hx x (List.mem_flatten.2 ⟨b,hb,hxb⟩) rfl,flat_pair hn.2.1⟩
open Classical in
noncomputable def z5A (x:yI.T) (C:List (Int×Int)) (i:Nat):Nat:=(C.filter fun c=>decide (zHy x c/\c.1∈(qW x).getD i [])).length
structure zEw (x:yI.T) (l:List (Int×Int)) (k:Nat) (u:ReM) (f:List Int):Prop where
 used: ∀ n,had u n=true↔∃ c∈chK x l k,zHJ x c n
 len:f.length=(qW x).length
 left: ∀ i,i<(qW x).length->f.getD i 0=((qW x).getD i []).length - 3 - (z5A x (chK x l k) i:Int)
theorem z1q {x:yI.T} (g:Full x) {w u:Int} (h:bE x w u):z1w x u=w:=by
 have key: ∀ l:List (Int×Int),(∀ e∈l,bE x e.1 e.2)->(w,u)∈l->zTL u l=w:=fun l=>by
  induction l with
  | nil=>intro _ k;cases k
  | cons e r ih =>
    intro ha k;unfold zTL;split
    ·rename_i h2;have:=ha e (yA ..);rw [h2] at this;exact zYW g this h
    ·rename_i h2;refine ih (fun e he=>ha e (zS _ he)) ((zT.1 k).resolve_left fun q=>h2 ?_);rw [<- q]
 exact key _ (fun e he=>zGQ.1 he) (zGQ.2 h)
theorem z11 {x:yI.T} {w u:Int} (h:z1w x u=w) (hw:0<=w):bE x w u:=by
 have key: ∀ l:List (Int×Int),(∀ e∈l,bE x e.1 e.2)->zTL u l=w->bE x w u:=fun l=>by
  induction l with
  | nil=>intro _ k;have:(-1:Int)=w:=k;omega
  | cons e r ih =>
    intro ha k;unfold zTL at k;split at k
    ·rename_i h2;have:=ha e (yA ..);rw [h2,k] at this;exact this
    ·exact ih (fun e he=>ha e (zS _ he)) k
 exact key _ (fun e he=>zGQ.1 he) h
section
variable {x:yI.T} {l:List (Int×Int)} {k:Nat} {u:ReM} {f:List Int}
theorem z2X:zEw x l 0 [] (lfK (qW x) (qW x).length):=by
 refine ⟨fun n=>⟨fun h=>(by cases h),fun ⟨c,h,_⟩=>(by cases h)⟩,?_,fun i hi=> ?_⟩
 ·unfold lfK;rw [y8,List.take_length]
 ·unfold lfK;rw [List.take_length,gdE,List.getElem?_map,gE hi,gdE,gE hi];have e0:z5A x (chK x l 0) i=0:=rfl;rw [e0];simp
theorem z7h (h:zEw x l k u f) (c: ¬ okE x (chK x l k) (l.getD k (0,0))=true):zEw x l (k+1) u f:=by
 have e:=zZi c;exact ⟨by rw [e];exact h.used,h.len,by rw [e];exact h.left⟩
theorem z2p (g:Full x) (hs:jV (InN x.1.1) x.1.2) (h:zEw x l k u f) (hw:zD8 x (l.getD k (0,0)).1 (l.getD k (0,0)).2=0) (hu: ∀ p∈zCp x (l.getD k (0,0)),had u p.1=false):okE x (chK x l k) (l.getD k (0,0))=true:=by
 refine (zIK g hs).2 ⟨(zKL g hs).1 hw,fun c hc t ht a b=> ?_⟩;obtain ⟨j,hj,rfl⟩:=zAM ht;obtain ⟨p,hp,e⟩:=yF.1 ((zFo g).2 (⟨j,hj,rfl,b⟩:zHJ x (l.getD k (0,0)) j));have:=hu p hp;rw [show p.1=(j:Int) from e,(h.used j).2 ⟨c,hc,j,hj,rfl,a⟩] at this;cases this
theorem z3G (g:Full x) (hs:jV (InN x.1.1) x.1.2) (h:zEw x l k u f) {p:(ETy.int .i64).T×ETy.bool.T} (hp:p∈zCp x (l.getD k (0,0))) (hu:had u p.1=true): ¬ okE x (chK x l k) (l.getD k (0,0))=true:=by
 intro c;obtain ⟨_,h2⟩:=(zIK g hs).1 c;obtain ⟨d,hd,j,hj,e,a⟩:=(h.used p.1).1 hu;obtain ⟨i,hi,e2,b⟩:=(zFo g).1 (yF.2 ⟨p,hp,rfl⟩);have:i=j:=by omega
 subst this;exact h2 d hd _ (qI hi) a b
theorem z65 (c: ¬ zD8 x (l.getD k (0,0)).1 (l.getD k (0,0)).2=0): ¬ okE x (chK x l k) (l.getD k (0,0))=true:=fun h=>by
 unfold okE at h;rw [zC,zP] at h;exact c h.1
theorem zUg (g:Full x) (h:zEw x l k u f) (c:okE x (chK x l k) (l.getD k (0,0))=true) {pre:IBM} (hp: ∀ p,p∈pre↔p∈zCp x (l.getD k (0,0))) (n:Int):had (zRP u (pre.map (·.1))) n=true↔∃ c∈chK x l (k+1),zHJ x c n:=by
 unfold zRP;rw [zLi,h.used,zNN c]
 have e1:n∈pre.map (·.1)↔zHJ x (l.getD k (0,0)) n:=by
  rw [<- zFo g];show _↔n∈(zCp x (l.getD k (0,0))).map Prod.fst;rw [yF,yF];exact ⟨fun ⟨p,a,b⟩=>⟨p,(hp p).1 a,b⟩,fun ⟨p,a,b⟩=>⟨p,(hp p).2 a,b⟩⟩
 rw [e1];constructor
 ·rintro (⟨d,a,b⟩|a)
  ·exact ⟨d,List.mem_append_left _ a,b⟩
  ·exact ⟨_,List.mem_append_right _ (zF.2 rfl),a⟩
 ·rintro ⟨d,a,b⟩;rcases yC.1 a with a|a
  ·exact .inl ⟨d,a,b⟩
  ·rw [zF.1 a] at b;exact .inr b
open Classical in
theorem z1x (C:List (Int×Int)) (e:Int×Int) (i:Nat):z5A x (C++[e]) i=z5A x C i+(if zHy x e/\e.1∈(qW x).getD i [] then 1 else 0):=by
 unfold z5A;rw [List.filter_append,zO]
 congr 1
 by_cases q:zHy x e/\e.1∈(qW x).getD i []
 ·rw [if_pos q,List.filter_cons_of_pos (by rw [zP];exact q)];rfl
 ·rw [if_neg q,List.filter_cons_of_neg (by rw [zP];exact q)];rfl
theorem z7f (g:Full x) (h:zEw x l k u f) (c:okE x (chK x l k) (l.getD k (0,0))=true) (hb: ¬ zHy x (l.getD k (0,0))) {pre:IBM} (hp: ∀ p,p∈pre↔p∈zCp x (l.getD k (0,0))):zEw x l (k+1) (zRP u (pre.map (·.1))) f:=by
 refine ⟨zUg g h c hp,h.len,fun i hi=> ?_⟩;rw [h.left i hi,zNN c,z1x,if_neg (fun q=>hb q.1)];rfl
theorem z58 (g:Full x) {e:Int×Int} (h:zHy x e): ∃ i,i<(qW x).length/\e.1∈(qW x).getD i []/\jS y7 (ofK (qW x) (qW x).length) e.1=some (i:Int)/\zBy x ((qW x).getD i []):=by
 have hw: ∃ w,bE x w e.1:=by
  rcases h with k|k
  ·exact zCn g k
  ·exact ⟨_,k⟩
 obtain ⟨L,hL,hu⟩:=List.mem_flatten.1 ((zYM g).2 hw);obtain ⟨i,hi,rfl⟩:=yG.1 hL;have gi:(qW x).getD i []=(qW x)[i]:=by rw [gdE,gE hi];rfl
 have lp:=zIp g;refine ⟨i,hi,by rw [gi];exact hu,zM1 lp.nd (by rw [gi];exact hu) _ hi (zI _),by rw [gi];exact lp.ok _ hL⟩
theorem z4d (g:Full x) (hs:jV (InN x.1.1) x.1.2) (h:zEw x l k u f) (c:okE x (chK x l k) (l.getD k (0,0))=true) (hb:zHy x (l.getD k (0,0))) {i:Nat} (hi:i<(qW x).length) (hm:(l.getD k (0,0)).1∈(qW x).getD i []) (hL:zBy x ((qW x).getD i [])):1<=f.getD i 0:=by
 classical
 obtain ⟨h1,h2⟩:=(zIK g hs).1 c;have hbat:=zLW g hs l k
 have:=z5y g hs hL hb h1 hm (D:=(chK x l k).filter fun c=>decide (zHy x c/\c.1∈(qW x).getD i [])) (fun d hd=>by
  obtain ⟨a,b⟩:=List.mem_filter.1 hd;rw [zP] at b
  exact ⟨b.1,hbat.free d a,b.2⟩) (hbat.apart.sublist List.filter_sublist) fun d hd=>h2 d (List.mem_filter.1 hd).1
 rw [h.left i hi];unfold z5A;have e: ∀ (p q:Int×Int->Bool),(∀ c,p c=q c)->((chK x l k).filter p).length=((chK x l k).filter q).length:=fun p q h=>by rw [show p=q from funext h]
 rw [e _ (fun c=>decide (zHy x c/\c.1∈(qW x).getD i [])) (fun c=>by congr)];omega
theorem z5v (g:Full x) (h:zEw x l k u f) (c:okE x (chK x l k) (l.getD k (0,0))=true) (hb:zHy x (l.getD k (0,0))) {i:Nat} (hi:i<(qW x).length) (hm:(l.getD k (0,0)).1∈(qW x).getD i []) {pre:IBM} (hp: ∀ p,p∈pre↔p∈zCp x (l.getD k (0,0))) :
 zEw x l (k+1) (zRP u (pre.map (·.1))) (f.set i (f.getD i 0 - 1)):=by
 refine ⟨zUg g h c hp,by rw [List.length_set];exact h.len,fun j hj=> ?_⟩;rw [zNN c,z1x,gdE,List.getElem?_set]
 by_cases e:i=j
 ·subst e;rw [if_pos rfl,if_pos (by rw [h.len];exact hi),if_pos ⟨hb,hm⟩];show f.getD i 0 - 1=_;rw [h.left i hi];omega
 ·rw [if_neg e,if_neg]
  ·have:=h.left j hj;rw [gdE] at this;rw [this];rfl
  ·rintro ⟨_,hm2⟩;have lp:=(zIp g).nd;have a:=zM1 lp hm _ hi (zI _);have b:=zM1 lp hm2 _ hj (zI _);rw [a] at b;have:(i:Int)=j:=Option.some.inj b;omega
theorem z1n (g:Full x) (hs:jV (InN x.1.1) x.1.2) {e:Int×Int} (hw:zD8 x e.1 e.2=0):(z1w x e.1=e.2\/z1w x e.2=e.1)↔zHy x e:=by
 obtain ⟨t,ht,t1,t2⟩:=((zKL g hs).1 hw).near;have i1:=hs.ent t ht _ t1;have i2:=hs.ent t ht _ t2;constructor
 ·rintro (h|h)
  ·exact .inr (z11 h i2.1)
  ·exact .inl (z11 h i1.1)
 ·rintro (h|h)
  ·exact .inr (z1q g h)
  ·exact .inl (z1q g h)
theorem z0F (g:Full x) {L:List Int} (hL:zBy x L):L.length<=4096:=by
 have:=zBs L ((List.range 4096).map fun (j:Nat)=>(j:Int)) hL.nd fun v hv=>by
  obtain ⟨w,hw⟩:=hL.bord hv;have h1:=(zJ8 g hw).2.1;have h2: @LE.le Int _ x.1.1 4096:=g.fit.2.1;exact yF.2 ⟨v.toNat,zW.2 (by omega),by omega⟩
 rwa [y8,zBq] at this
theorem zKv (Ls:List (List Int)) (i:Nat) (h:i<=Ls.length):(lfK Ls i).length=i:=by unfold lfK;rw [y8,j0];omega
theorem z0A (g:Full x) (hs:jV (InN x.1.1) x.1.2) (c:okE x (chK x l k) (l.getD k (0,0))=true) (hb:zHy x (l.getD k (0,0))) (h:zEw x l k u f) :
 ∃ i:Nat,(jS y7 (ofK (qW x) (qW x).length) (l.getD k (0,0)).1).getD 0=(i:Int)/\i<(lfK (qW x) (qW x).length).length/\1<=f.getD i 0/\f.getD i 0<=4096/\
   ∀ pre:IBM,(∀ p,p∈pre↔p∈zCp x (l.getD k (0,0)))->zEw x l (k+1) (zRP u (pre.map (·.1))) (f.set i (f.getD i 0 - 1)):=by
 obtain ⟨i,hi,hm,hg,hL⟩:=z58 g hb;have hr:=z4d g hs h c hb hi hm hL;have hl:=z0F g hL;refine ⟨i,by rw [hg];rfl,by rw [zKv _ _ (zI _)];exact hi,hr,?_,fun pre hp=>z5v g h c hb hi hm hp⟩;rw [h.left i hi];omega
def ixL (x:yI.T) (v:Int):Nat:=Int.toNat ((jS y7 (ofK (qW x) (qW x).length) v).getD 0)
theorem zTN (g:Full x) (hs:jV (InN x.1.1) x.1.2) (c:okE x (chK x l k) (l.getD k (0,0))=true) (hb:zHy x (l.getD k (0,0))) (h:zEw x l k u f) :
 (0<=(jS y7 (ofK (qW x) (qW x).length) (l.getD k (0,0)).1).getD 0/\(jS y7 (ofK (qW x) (qW x).length) (l.getD k (0,0)).1).getD 0<((lfK (qW x) (qW x).length).length:Int))/\
 yP (f.getD (ixL x (l.getD k (0,0)).1) 0 - 1)/\¬ f.getD (ixL x (l.getD k (0,0)).1) 0<1/\
 ∀ pre:IBM,(∀ p,p∈pre↔p∈zCp x (l.getD k (0,0)))->zEw x l (k+1) (zRP u (pre.map (·.1))) (f.set (ixL x (l.getD k (0,0)).1) (f.getD (ixL x (l.getD k (0,0)).1) 0 - 1)):=by
 obtain ⟨i,h1,h2,h3,h4,h5⟩:=z0A g hs c hb h;have e:ixL x (l.getD k (0,0)).1=i:=by unfold ixL;rw [h1];rfl
 rw [e,h1];exact ⟨⟨show (0:Int)<=(i:Int) by omega,show (i:Int)<((lfK (qW x) (qW x).length).length:Int) by omega⟩,by unfold yP;omega,by omega,h5⟩
theorem zWN (g:Full x):(qW x).length<=4096:=by
 have h1:=zQH x x.1.1.toNat;have h2: @LE.le Int _ x.1.1 4096:=g.fit.2.1;have h3:(qW x).length<=x.1.1.toNat:=h1;omega
theorem z86 {m:NxM} {i:Int} {L:List Int} {j:Nat} (hj:j<L.length):ofV m i (L.take (j+1))=zAB y7 (ofV m i (L.take j)) (L.getD j 0) i:=by
 unfold ofV;rw [yB hj,List.foldl_append,gdE,gE hj];rfl
theorem z8M {Ls:List (List Int)} {i:Nat} (h:i<Ls.length):lfK Ls (i+1)=lfK Ls i++[((Ls.getD i []).length:Int) - 3]:=by
 unfold lfK;rw [yB h,List.map_append,gdE,gE h];rfl
theorem zXz (m:ReM) (pre:IBM) (e:(ETy.int .i64).T×ETy.bool.T):zRP m ((pre++[e]).map (·.1))=zAB y7 (zRP m (pre.map (·.1))) e.1 true:=by
 unfold zRP;rw [List.map_append,List.foldl_append];rfl
end
end S1
/- Code with ranges, constructor by constructor; what comes behind is a name that is not looked into: else the kernel compares whole programs. -/
namespace Go.Vm
section
variable {T:Tab} {SQ:zCt} {st:St} {K:Exit->St->Prop} {a b c:Code}
structure z5o (T:Tab) (SQ:zCt) (b:Code) (K:Exit->St->Prop) (e:Exit) (t:St):Prop where
 out:match e with
  | .normal=>qC T SQ b t K
  | e=>K e t
structure z1f (id:Nat) (K:Exit->St->Prop) (e:Exit) (t:St):Prop where
 out:match e with
  | .exit i=>(match Nat.beq i id with|true=>K .normal t|false=>K (.exit i) t)
  | e=>K e t
structure z7O (K:Exit->St->Prop) (e:Exit) (t:St):Prop where
 out:match e with
  | .goto _=>False
  | e=>K e t
structure zPH {X:Type} (S:Spec X) (st:St) (x:X) (K:Exit->St->Prop) (e:Exit) (t:St):Prop where
 out:match e with
  | .normal=> ∃ y,S.inv y/\zOi t (S.head st y)/\S.mu y<S.mu x
  | e=>K e t
structure z09 (K:Exit->St->Prop) (e:Exit) (t:St):Prop where
 out:K e t
theorem zQp (h:qC T SQ b st K):z5o T SQ b K .normal st:=⟨h⟩
theorem zQ7 {i:Nat} (h:K (.exit i) st):z5o T SQ b K (.exit i) st:=⟨h⟩
theorem zRV (h:K .ret st):z5o T SQ b K .ret st:=⟨h⟩
theorem zSD {id:Nat} (h:K .normal st):z1f id K .normal st:=⟨h⟩
theorem z12 {id i:Nat} (e:Nat.beq i id=true) (h:K .normal st):z1f id K (.exit i) st:=⟨by show (match Nat.beq i id with|true=>K .normal st|false=>K (.exit i) st);rw [e];exact h⟩
theorem z1H {id i:Nat} (e:Nat.beq i id=false) (h:K (.exit i) st):z1f id K (.exit i) st:=⟨by show (match Nat.beq i id with|true=>K .normal st|false=>K (.exit i) st);rw [e];exact h⟩
theorem z1T {id:Nat} (h:K .ret st):z1f id K .ret st:=⟨h⟩
theorem z2G (h:K .normal st):z7O K .normal st:=⟨h⟩
theorem z1V (h:K .ret st):z7O K .ret st:=⟨h⟩
theorem zMP {X:Type} {S:Spec X} {x:X} {t:St} (h: ∃ y,S.inv y/\zOi t (S.head st y)/\S.mu y<S.mu x):zPH S st x K .normal t:=⟨h⟩
theorem zLE {X:Type} {S:Spec X} {x:X} {t:St} {i:Nat} (h:K (.exit i) t):zPH S st x K (.exit i) t:=⟨h⟩
theorem zVH {X:Type} {S:Spec X} {x:X} {t:St} (h:K .ret t):zPH S st x K .ret t:=⟨h⟩
theorem zHn {e:Exit} (h:K e st):z09 K e st:=⟨h⟩
theorem zW9:z09 K=K:=funext fun e=>funext fun s=>propext ⟨fun h=>h.out,fun h=>⟨h⟩⟩
theorem zNZ {s:St} (h:s.forceAll (fun h=>zA4 T c h (z09 K))):s.forceAll (fun h=>zA4 T c h K):=by rw [zW9] at h;exact h
theorem z6x {SQ:zCt} {fn:Func} {args:List AV} {R:AV->Prop} (hb:fn.body=some c) (h:qC T SQ c (St.init args) (z09 (post T fn R))):zHZ T SQ fn args R:=by
 rw [zW9] at h;unfold zHZ;rw [hb];show (St.init args).forceAll _;rw [St.forceAll_eq];exact h
theorem z56 (hr:zZt a b=none) (h:qC T SQ a st (z5o T SQ b K)):qC T SQ (.seq a b) st K:=by
 unfold qC;rw [hr];exact (congrArg (qC T SQ a st) (funext fun e=>funext fun s=>propext (by cases e<;>exact ⟨fun h=>⟨h⟩,fun h=>h.out⟩)):qC T SQ a st _=qC T SQ a st (z5o T SQ b K)).mpr h
theorem z5z {r:RM} (hr:zZt a b=some r) (h:st.forceAll fun st=>z74 T r st K):qC T SQ (.seq a b) st K:=by
 rw [St.forceAll_eq] at h;unfold qC;rw [hr];exact h
theorem zVa {id:Nat} (h:qC T SQ c st (z1f id K)):qC T SQ (.block id c) st K:=by
 unfold qC;exact (congrArg (qC T SQ c st) (funext fun e=>funext fun s=>propext (by cases e<;>exact ⟨fun h=>⟨h⟩,fun h=>h.out⟩)):qC T SQ c st _=qC T SQ c st (z1f id K)).mpr h
theorem zXD (h:qC T SQ c st (z7O K)):qC T SQ (.scope c) st K:=by
 unfold qC;exact (congrArg (qC T SQ c st) (funext fun e=>funext fun s=>propext (by cases e<;>exact ⟨fun h=>⟨h⟩,fun h=>h.out⟩)):qC T SQ c st _=qC T SQ c st (z7O K)).mpr h
theorem zRC {i:Nat} {o:Array Oper} {d:Bool} (h:st.forceAll fun st=>zA4 T (.region i o d) st K):qC T SQ (.region i o d) st K:=by
 rw [St.forceAll_eq] at h;unfold qC;exact h
theorem z1b (h:K .normal st):qC T SQ .skip st K:=h
theorem zWi {l:Nat} (h:K .normal st):qC T SQ (.label l) st K:=h
theorem z2F {i:Nat} (h:K (.exit i) st):qC T SQ (.exit i) st K:=h
theorem z7C (h:K .ret st):qC T SQ .ret st K:=h
theorem z1M {x:Operand} (hr:(zBZ a|| zBZ b)=false) (h:st.forceAll fun st=>zA4 T (.cond x a b) st K):qC T SQ (.cond x a b) st K:=by
 rw [St.forceAll_eq] at h;unfold qC;rw [hr];exact h
theorem zVi {x:Operand} (hr:(zBZ a|| zBZ b)=true) (h:st.forceAll fun st=>match y6 st.env x with
 | .s (.bool t)=>BIf t (qC T SQ a st K) (qC T SQ b st K)
 | _=>False):qC T SQ (.cond x a b) st K:=by
 rw [St.forceAll_eq] at h;unfold qC;rw [hr];exact h
theorem z6i (hr:zBZ c=true) (X:Type) (S:Spec X) (x0:X) (hi:S.inv x0) (hl:zOi st (S.head st x0))
 (h: ∀ x,S.inv x->qC T SQ c (S.head st x) (zPH S st x K)):qC T SQ (.loop c) st K:=by
 unfold qC;rw [hr];refine ⟨X,S,⟨x0,hi,hl⟩,fun x hx=> ?_⟩;rw [St.forceAll_eq];exact (congrArg (qC T SQ c (S.head st x)) (funext fun e=>funext fun s=>propext (by cases e<;>exact ⟨fun h=>⟨h⟩,fun h=>h.out⟩)):qC T SQ c (S.head st x) _=qC T SQ c (S.head st x) (zPH S st x K)).mpr (h x hx)
end
end Go.Vm
