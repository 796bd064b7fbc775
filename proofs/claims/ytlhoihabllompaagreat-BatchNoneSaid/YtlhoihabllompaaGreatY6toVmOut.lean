/- A part of the proofs of the laws. -/
import Derived.Test.YtlhoihabllompaaGreatZ1ptoY5
import Derived.Test.YtlhoihabllompaaGreatT5toT11
import Derived.Test.YtlhoihabllompaaGreatH1toG1
import Derived.Test.YtlhoihabllompaaGreatVmRng3toF5
set_option linter.unusedSimpArgs false
set_option linter.unusedVariables false
set_option maxHeartbeats 8000000
set_option maxRecDepth 100000
open Go Go.Vm Go.Proofs
namespace S1
theorem z4K (x:yI.T) (a b:Int):zD2 x a b=0\/zD2 x a b=1\/zD2 x a b=2\/zD2 x a b=3\/zD2 x a b=4:=by
 unfold zD2
 (repeat' split)<;>simp
theorem z2r {w:SoT} {a b:Int} (h:doE w a b=0):zBC w/\InN w.1 a/\InN w.1 b/\zD2 (zAr w) a b=0/\a≠b:=by
 have hs:zBC w:=by
  apply yF;intro k;unfold doE at h;rw [if_neg (fun e=>k ((zCW w).1 e))] at h;cases h
 rw [zHd hs] at h;split at h
 case isFalse=>cases h
 rename_i hr
 have h0:zD2 (zAr w) a b=0:=by
  rcases z4K (zAr w) a b with e|e|e|e|e
  ·exact e
  all_goals (rw [e] at h;exact absurd h (by decide))
 refine ⟨hs,hr.1,hr.2,h0,fun e=> ?_⟩;subst e;rw [z3W (zC0 (zAy hs).2.1.toGood a)] at h0;cases h0
theorem zYZ {w s:SoT} {r:zAK} {a b:Int} (h:doR w a b=(s,r,0)):Was w a b/\s=(w.1 - 1,drL a b w.2 w.2.length)/\r=zQ9 w a b/\zD2 (zAr w) a b=0:=by
 have he:doE w a b=0:=by rw [<- zKf,h]
 rw [zS0 he] at h;obtain ⟨h1,h2,h3,h4,h5⟩:=z2r he;have e1:=congrArg Prod.fst h;have e2:=congrArg (fun z=>z.2.1) h;exact ⟨⟨h1,h2,h3,h5⟩,e1.symm,e2.symm,h4⟩
theorem zLw {w s:SoT} {r:zAK} {a b:Int} (h:doR w a b=(s,r,0)):bkR s r=(w,true)/\rbk s r=some w:=by
 obtain ⟨h1,h2,h3,_⟩:=zYZ h;subst h2 h3;exact ⟨z6n h1,z4r h1⟩
theorem z0o {w s:SoT} {r:zAK} {a b:Int} (h:doR w a b=(s,r,0)):zBC s:=by
 obtain ⟨h1,h2,h3,h4⟩:=zYZ h;have:=zNs (zAy h1.surf).2.1 h1.surf h4;rw [h2,zXy];exact this
open Classical in
noncomputable def zBp (s:SoT) (r:zAK):SoT×Int:=if h: ∃ w,doR w r.1 r.2.1=(s,r,0) then (Classical.choose h,0) else ((0,[]),if isR s=true then 3 else 11)
theorem zRV {w s:SoT} {r:zAK} (h:doR w r.1 r.2.1=(s,r,0)):zBp s r=(w,0):=by
 have hh: ∃ w,doR w r.1 r.2.1=(s,r,0):=⟨w,h⟩;unfold zBp;rw [dif_pos hh];have k:=(zLw (Classical.choose_spec hh)).1;rw [(zLw h).1] at k;exact Prod.ext (congrArg (fun z=>z.1) k).symm rfl
theorem zRL {s:SoT} {r:zAK} (h: ¬ ∃ w,doR w r.1 r.2.1=(s,r,0)):zBp s r=((0,[]),if isR s=true then 3 else 11):=by
 unfold zBp;rw [dif_neg h]
theorem zZD {s:SoT} {r:zAK} (h:zGn s=none):zBp s r=((0,[]),11):=by
 have hn: ¬ isR s=true:=fun k=>by have:=(zAy ((zCW s).1 k)).1;rw [h] at this;cases this
 rw [zRL (fun ⟨w,hw⟩=>hn ((zCW s).2 (z0o hw))),if_neg hn]
theorem z4G {s:SoT} {r:zAK} (hs:zBC s) (h: ∀ w,bkR s r=(w,true)->doR w r.1 r.2.1≠(s,r,0)):zBp s r=((0,[]),3):=by
 rw [zRL (fun ⟨w,hw⟩=>h w (zLw hw).1 hw),if_pos ((zCW s).2 hs)]
def bkV (r:SoT×Bool):AV:= .tup [qR.av r.1,.s (.bool r.2)]
def bkW (s:SoT) (r:zAK):AV:=if bkC s r/\kF (bkG r) (bkN s r)<=s.2.length/\zUO (bkN s r) r.2.2.2.2=true then bkV (bkR s r) else .tup [.agg [.int .i64 0,.val (.slice none 0 0)],.s (.bool false)]
theorem z4n {σ:Sig} {s:SoT} {r:zAK} {v:Value} (h:y5 σ [] (bkW s r) v):y5 σ [] (bkV (bkR s r)) v:=by
 unfold bkW at h;split at h
 ·exact h
 ·rename_i hn;unfold bkR;rw [if_neg hn];obtain ⟨vs,e1,h⟩:=h
  match vs,h with
  | [x,y],⟨⟨ds,ea,h1⟩,h3⟩ =>
    refine ⟨_,e1,⟨ds,ea,?_⟩,h3⟩
    match ds,h1 with
    | [d1,d2],⟨k1,k2,k3⟩=>exact ⟨k1,zJK k2,k3⟩
def z5K (r:zAK) (k:Nat):GoT:=z4C r.2.2.1 r.2.2.2.1 k
theorem z5c (r:zAK):z5K r 0=[]:=rfl
theorem z5j (r:zAK) (k:Nat):z5K r (k+1)=zAB (.int .i64) (z5K r k) (r.2.2.1.getD k 0) (r.2.2.2.1.getD k (0,0,0)):=rfl
theorem z1T (g:GoT) (T:List P3) (A:Int):zJc g T A 0=[]:=rfl
theorem z1a (g:GoT) (T:List P3) (A:Int) (i:Nat):zJc g T A (i+1)=zJc g T A i++[bkT g T A i]:=by
 unfold zJc;rw [List.range_succ,List.map_append];rfl
theorem zRP (g:GoT) (T:List P3) (A:Int) (i:Nat):(zJc g T A i).length=i:=by unfold zJc;simp
theorem zQR (A:Int) (fan:List Int) (o:List P3): ∀ j,(zSS A fan o j).length=o.length
 | 0=>rfl
 | j+1=>by
   show (zVM A (zSS A fan o j) (fan.getD j 0)).length=_;unfold zVM;rw [List.length_set];exact zQR A fan o j
theorem z6S (A:Int) (fan:List Int) (o:List P3) (j:Nat):zSS A fan o (j+1)=(zSS A fan o j).set ((fan.getD j 0).tdiv 3).toNat (z5J ((zSS A fan o j).getD ((fan.getD j 0).tdiv 3).toNat (0,0,0)) ((fan.getD j 0).tmod 3).toNat A):=rfl
def zUh (r:zAK):Spec Nat where
 inv i:=i<=r.2.2.1.length
 live i:=[(59,.s (.int .i64 i))]
 keep:=[2,3,4,5,6,7,57,58]
 heap i:=[(3,.map y7 .arr3 (z5K r i))]
 keepH:=[0,1,2]
 mu i:=r.2.2.1.length - i
def zTJ (n:Int) (l:List P3) (r:zAK):Spec Nat where
 inv i:=i<=bkN (n,l) r/\kF (bkG r) i<=l.length
 live i:=[(77,.s (.int .i64 i)),(11,.s (.int .i64 (kF (bkG r) i)))]
 keep:=[2,3,4,5,6,7,10,76]
 heap i:=[(4,.flat 24 [.int .i64 (n+1),.own 5 0 (zJc (bkG r) l r.1 i).length]),(5,.row .arr3 86 (zJc (bkG r) l r.1 i))]
 keepH:=[0,1,2,3]
 mu i:=bkN (n,l) r - i
 nils:=[4]
def zVW (n:Int) (l:List P3) (r:zAK):Spec Nat where
 inv j:=j<=r.2.2.2.2.length/\∀ k,k<j->0<=r.2.2.2.2.getD k 0/\r.2.2.2.2.getD k 0<3*(bkN (n,l) r:Int)
 live j:=[(125,.s (.int .i64 j))]
 keep:=[2,3,4,5,6,7,10,11,123,124]
 heap j:=[(5,.row .arr3 86 (zSS r.1 r.2.2.2.2 (zJc (bkG r) l r.1 (bkN (n,l) r)) j))]
 keepH:=[0,1,2,3,4]
 mu j:=r.2.2.2.2.length - j
theorem zWt {n:Nat} {fan:List Int} {k:Nat} (hk:k<fan.length) (h:fan.getD k 0<0\/fan.getD k 0>=3*(n:Int)): ¬ zUO n fan=true:=fun e=>by
 unfold zUO at e;have:=zK.1 e _ (jA hk);rw [zP] at this;omega
theorem zZf {n:Nat} {fan:List Int} (h: ∀ k,k<fan.length->0<=fan.getD k 0/\fan.getD k 0<3*(n:Int)):zUO n fan=true:=by
 unfold zUO;rw [zK];intro c hc;obtain ⟨i,hi,e⟩:=yG.1 hc;have:=h i hi;rw [gdE,gE hi] at this;have this:0<=fan[i]/\fan[i]<3*(n:Int):=this;rw [e] at this;rw [zP];exact this
theorem zRd {s:SoT} {r:zAK} (h: ¬ (bkC s r/\kF (bkG r) (bkN s r)<=s.2.length/\zUO (bkN s r) r.2.2.2.2=true)):bkW s r= .tup [.agg [.int .i64 0,.val (.slice none 0 0)],.s (.bool false)]:=if_neg h
theorem z43 {s:SoT} {r:zAK} (h:bkC s r/\kF (bkG r) (bkN s r)<=s.2.length/\zUO (bkN s r) r.2.2.2.2=true):bkW s r= .tup [qR.av (s.1+1,zSS r.1 r.2.2.2.2 (zJc (bkG r) s.2 r.1 (bkN s r)) r.2.2.2.2.length),.s (.bool (decide (kF (bkG r) (bkN s r)=s.2.length)))]:=by
 unfold bkW bkR;rw [if_pos h,if_pos h];rfl
theorem z2G {g:GoT} {j:Nat} (h:(jS (.int .i64) g (j:Int)).isSome=true):kF g (j+1)=kF g j:=by rw [z7X,if_pos h]
theorem zQM {g:GoT} {j:Nat} (h:(jS (.int .i64) g (j:Int)).isSome=false):kF g (j+1)=kF g j+1:=by rw [z7X,if_neg (by rw [h];simp)]
theorem zRT {g:GoT} {T:List P3} {A:Int} {j:Nat} (h:(jS (.int .i64) g (j:Int)).isSome=true):zJc g T A (j+1)=zJc g T A j++[(jS (.int .i64) g (j:Int)).getD (0,0,0)]:=by
 rw [z1a];unfold bkT;cases e:jS (.int .i64) g (j:Int) with
 | none=>rw [e] at h;cases h
 | some t=>rfl
theorem zO0 {g:GoT} {T:List P3} {A:Int} {j:Nat} (h:(jS (.int .i64) g (j:Int)).isSome=false):zJc g T A (j+1)=zJc g T A j++[(upV A (T.getD (kF g j) (0,0,0)).1,upV A (T.getD (kF g j) (0,0,0)).2.1,upV A (T.getD (kF g j) (0,0,0)).2.2)]:=by
 rw [z1a];unfold bkT;cases e:jS (.int .i64) g (j:Int) with
 | none=>rfl
 | some t=>rw [e] at h;cases h
theorem zVs {A v:Int} (h:v>=A):upV A v=v+1:=if_pos h
theorem zYC {A v:Int} (h: ¬ v>=A):upV A v=v:=if_neg h
theorem zVA {n:Int} {l:List P3} {A B:Int} {at_:List Int} {ts:List P3} {fan:List Int} :bkC (n,l) (A,B,at_,ts,fan)↔at_.length=ts.length/\0<=A/\A<=n/\n<4096/\l.length+at_.length<=8192:=Iff.rfl
theorem z6D (A:Int) (fan:List Int) (o:List P3):zSS A fan o 0=o:=rfl
theorem z8x (g:GoT):kF g 0=0:=rfl
theorem z63 (A B:Int) (at_:List Int) (ts:List P3) (fan:List Int):z5K (A,B,at_,ts,fan) at_.length=bkG (A,B,at_,ts,fan):=rfl
attribute [local irreducible] bkW z5K kF zJc zSS bkG
theorem z2Y {fn} (n:Int) (l:List P3) (A B:Int) (at_:List Int) (ts:List P3) (fan:List Int) (hs:zBC (n,l)):zAG ⟨tyL,fn,[]⟩ Tryz.f106 [qR.av (n,l),zGR.av (A,B,at_,ts,fan)] (fun r=>r=bkW (n,l) (A,B,at_,ts,fan)):=by
 have hf:=hs.fit;have hn:0<=n/\n<=4096:=⟨hf.1,hf.2.1⟩;have hl:l.length<=8192:=hf.2.2.1
 repeat' (conv=>whnf
          first|done|refine qN (by first|rfl|omega|(simp only [yO] at *;omega)) ?_|apply qH|refine qG fun _=> ?_|apply qB|apply qa|apply qo|refine qe (fun _=> ?_) (fun _=> ?_)|refine qn (fun _=> ?_) (fun _=> ?_)|refine qd (fun _=> ?_) (fun _=> ?_)|apply qt|refine qi (fun _=> ?_) (fun _=> ?_)|(refine qS 6 rfl ?_;refine Or.inr (zB (Nat) (zB (zUh (A,B,at_,ts,fan)) (zA (zB (0) (zA (yJ.out ?_) (zA ?_ (zA ?_ rfl)))) (fun i hi=> ?_)))))|((with_reducible show (∃ y,And (Spec.inv (zUh _) y) _));refine zB (i+1) (zA (yJ.out ?_) (zA (zA ?_ (zA ?_ rfl)) (yJ.out ?_))))|(refine qS 13 rfl ?_;refine Or.inr (zB (Nat) (zB (zTJ n l (A,B,at_,ts,fan)) (zA (zB (0) (zA (yJ.out ?_) (zA ?_ (zA ?_ rfl)))) (fun j hj=> ?_)))))|((with_reducible show (∃ y,And (Spec.inv (zTJ _ _ _) y) _));refine zB (j+1) (zA (yJ.out ?_) (zA (zA ?_ (zA ?_ rfl)) (yJ.out ?_))))|(refine qS 20 rfl ?_;refine Or.inl (zB (4) ?_))|(refine qS 30 rfl ?_;refine Or.inr (zB (Nat) (zB (zVW n l (A,B,at_,ts,fan)) (zA (zB (0) (zA (yJ.out ?_) (zA ?_ (zA ?_ rfl)))) (fun k hk=> ?_)))))|((with_reducible show (∃ y,And (Spec.inv (zVW _ _ _) y) _));refine zB (k+1) (zA (yJ.out ?_) (zA (zA ?_ (zA ?_ rfl)) (yJ.out ?_))))|refine zA rfl ?_|apply qE|apply qO|exact zN|apply qq|apply qs|refine qK (by kernel_rfl) ?_|apply qr)
 all_goals try first|apply qz1|apply qz2|apply qz3|apply qz4|apply qz5|apply qz6|apply qz7|apply qz8|apply qz9|apply qz0
 all_goals try simp only [zZ,zR,yE,z6,qn1,zY,qn2,zX,ETy.dflt,qn3,qn4,Int.reduceToNat,Int.reduceAdd,Int.reduceSub,Int.reduceNeg,Nat.reduceAdd,zD,zUh,zTJ,zVW] at *
 all_goals have eN:bkN (n,l) (A,B,at_,ts,fan)=l.length+at_.length:=rfl
 all_goals try exact y9.intro (zRd (fun k=>by have c:=zVA.1 k.1;omega)).symm
 all_goals try exact z5c _
 all_goals try exact z5j _ _
 all_goals try exact z1T _ _ _
 all_goals try exact z6S _ _ _ _
 all_goals try (rw [z8x];rfl)
 all_goals try (rw [z1T];exact jL.intro rfl)
 all_goals try (refine qh ?_;omega)
 all_goals try (rw [z8x];exact qh ⟨Nat.zero_le _,Nat.zero_le _⟩)
 all_goals have ei:i=at_.length:=by omega
 all_goals subst ei
 all_goals try simp only [z63] at *
 all_goals have eO:(zJc (bkG (A,B,at_,ts,fan)) l A j).length=j:=zRP _ _ _ _
 all_goals have hj1:=hj.1
 all_goals rw [eN] at hj1
 all_goals have hj2:=hj.2
 all_goals try (refine qh ?_;rw [eO];omega)
 all_goals try (refine qh ?_;unfold yO;omega)
 all_goals try
  have hit:(jS (.int .i64) (bkG (A,B,at_,ts,fan)) (j:Int)).isSome=true:=by assumption
  first
  | (rw [z2G hit];refine yJ.intro (zA ?_ ?_)<;>omega)
  | (rw [z2G hit];done)
  | exact zRT hit
  | (rw [zRT hit];exact jL.intro (by rw [zO];rfl))
 all_goals try
  have miss:(jS (.int .i64) (bkG (A,B,at_,ts,fan)) (j:Int)).isSome=false:=by assumption
  have e1:((kF (bkG (A,B,at_,ts,fan)) j:Nat):Int)=(l.length:Int):=by assumption
  refine y9.intro (zRd (fun k=> ?_)).symm;have k2:kF (bkG (A,B,at_,ts,fan)) (bkN (n,l) (A,B,at_,ts,fan))<=l.length:=k.2.1;have k3:=zVc (bkG (A,B,at_,ts,fan)) (i:=j+1) (j:=bkN (n,l) (A,B,at_,ts,fan)) (by omega);rw [zQM miss] at k3;omega
 all_goals try
  have miss:(jS (.int .i64) (bkG (A,B,at_,ts,fan)) (j:Int)).isSome=false:=by assumption
  have e1:((kF (bkG (A,B,at_,ts,fan)) j:Nat):Int)≠(l.length:Int):=by assumption
  have hk:kF (bkG (A,B,at_,ts,fan)) j<l.length:=by omega
  have ht:(0<=(l.getD (kF (bkG (A,B,at_,ts,fan)) j) (0,0,0)).1/\(l.getD (kF (bkG (A,B,at_,ts,fan)) j) (0,0,0)).1<n)/\(0<=(l.getD (kF (bkG (A,B,at_,ts,fan)) j) (0,0,0)).2.1/\(l.getD (kF (bkG (A,B,at_,ts,fan)) j) (0,0,0)).2.1<n)/\(0<=(l.getD (kF (bkG (A,B,at_,ts,fan)) j) (0,0,0)).2.2/\(l.getD (kF (bkG (A,B,at_,ts,fan)) j) (0,0,0)).2.2<n):=zAE (hf.2.2.2 _ hk)
  first
  | (rw [zQM miss];refine yJ.intro (zA ?_ ?_)<;>omega)
  | (refine yJ.intro (zA ?_ ?_)<;>omega)
  | (refine qh ?_;unfold yO;omega)
  | (rw [zQM miss];exact Int.natCast_add _ _)
  | (rw [zO0 miss];exact jL.intro (by rw [zO];rfl))
  | (rw [zO0 miss]
     first|rw [zVs (v:=(l.getD (kF (bkG (A,B,at_,ts,fan)) j) (0,0,0)).1) (by assumption)]|rw [zYC (v:=(l.getD (kF (bkG (A,B,at_,ts,fan)) j) (0,0,0)).1) (by assumption)]
     first|rw [zVs (v:=(l.getD (kF (bkG (A,B,at_,ts,fan)) j) (0,0,0)).2.1) (by assumption)]|rw [zYC (v:=(l.getD (kF (bkG (A,B,at_,ts,fan)) j) (0,0,0)).2.1) (by assumption)]
     first|rw [zVs (v:=(l.getD (kF (bkG (A,B,at_,ts,fan)) j) (0,0,0)).2.2) (by assumption)]|rw [zYC (v:=(l.getD (kF (bkG (A,B,at_,ts,fan)) j) (0,0,0)).2.2) (by assumption)]
     rfl)
 all_goals have ej:j=l.length+at_.length:=by omega
 all_goals subst ej
 all_goals try exact z6D _ _ _
 all_goals try (refine yJ.intro (zA (Nat.zero_le _) ?_);intro k hk;omega)
 all_goals have hk2:=hk.2
 all_goals try
  have hkl:(k:Int)<fan.length:=by assumption
  have hkl:k<fan.length:=by omega
  first
  | exact y9.intro (zRd (fun q=>zWt hkl (.inl (by assumption)) q.2.2)).symm
  | (have hge:fan.getD k 0>=3*((bkN (n,l) (A,B,at_,ts,fan):Nat):Int):=by rw [eN];omega
     exact y9.intro (zRd (fun q=>zWt hkl (.inr hge) q.2.2)).symm)
 all_goals try
  have h0: ¬ fan.getD k 0<0:=by assumption
  have e3:(fan.getD k 0).tdiv 3=fan.getD k 0 / 3:=Int.tdiv_eq_ediv_of_nonneg (by omega);have e4:(fan.getD k 0).tmod 3=fan.getD k 0 % 3:=Int.tmod_eq_emod_of_nonneg (by omega);rw [eN] at hk2
  first
  | (rw [e3];refine yJ.intro (zA (by decide) ?_);unfold yO;omega)
  | (rw [e3];refine yJ.intro (zA ?_ ?_)<;>omega)
  | (rw [e4];refine yJ.intro (zA ?_ ?_)<;>omega)
  | (rw [eN]
     refine yJ.intro (zA ?_ ?_)
     ·omega
     ·intro q hq
      by_cases e:q=k
      ·subst e;omega
      ·have:=hk2 q (by omega);omega)
 all_goals
  have ek:k=fan.length:=by omega
  subst ek;have hC:bkC (n,l) (A,B,at_,ts,fan):=zVA.2 (by omega);have hF:zUO (bkN (n,l) (A,B,at_,ts,fan)) fan=true:=zZf hk2;refine y9.intro ?_;rw [z43 ⟨hC,by rw [eN];exact hj2,hF⟩];rw [List.drop_zero,List.take_of_length_le (by rw [zQR,zRP];rw [eO];exact zI _)]
  have e5:((kF (bkG (A,B,at_,ts,fan)) (l.length+at_.length):Int)==(l.length:Int))=decide (kF (bkG (A,B,at_,ts,fan)) (bkN (n,l) (A,B,at_,ts,fan))=l.length):=by
   rw [Bool.eq_iff_iff,beq_iff_eq,zP,eN];omega
  rw [e5];rfl
def backC:List AV->Option Res:=zCs qR zGR (fun s r=>some (none,some (zBC s),bkV (bkR s r)))
theorem zYW:qM Tryz.prog 106 backC:=⟨jC fun s r q h=>by
 cases h
 exact zCr.res (qL (yM (fn:=[]) (fr:=[]) trivial trivial) Tryz.func106 (by kernel_rfl) fun _ h=>z2Y s.1 s.2 r.1 r.2.1 r.2.2.1 r.2.2.2.1 r.2.2.2.2 h) fun σ v h=>z4n h,_,Tryz.func106,by kernel_rfl,by kernel_rfl⟩
end S1
open Go Go.Vm Go.Proofs
namespace S1
theorem zZq (a b:Int) (l m:List P3):zAG ⟨tyL,[(140,zNx)],[]⟩ Tryz.f107 [qR.av (a,l),qR.av (b,m)] (fun r=>r= .s (.bool (eqS (a,l) (b,m)))):=by
 repeat' (conv=>whnf
          first|done|refine qN (by first|rfl|omega|(simp only [yO] at *;omega)) ?_|apply qH|refine qG fun _=> ?_|apply qB|apply qa|apply qo|refine qe (fun _=> ?_) (fun _=> ?_)|refine qn (fun _=> ?_) (fun _=> ?_)|refine qd (fun _=> ?_) (fun _=> ?_)|apply qt|refine qi (fun _=> ?_) (fun _=> ?_)|refine zA rfl ?_|apply qE|apply qO|exact zN|apply qq|apply qs|refine qK (by kernel_rfl) ?_|apply qr)
 all_goals try first|apply qz1|apply qz2|apply qz3|apply qz4|apply qz5|apply qz6|apply qz7|apply qz8|apply qz9|apply qz0
 all_goals try simp only [zZ,zR,yE,z6,qn1,zY,qn2,zX,ETy.dflt,qn3,qn4,Int.reduceToNat,Int.reduceAdd,Int.reduceSub,Int.reduceNeg,Nat.reduceAdd,zD,eqS,eqR] at *
 ·rename_i h;subst h;rw [decide_eq_decide];exact ⟨fun e=>by rw [e],fun e=>congrArg Prod.snd e⟩
 ·rename_i h;symm;rw [yP];exact fun e=>h (congrArg Prod.fst e)
def zO6:List AV->Option Res:=zCs qR qR (fun a b=>some (none,none,.s (.bool (eqS a b))))
theorem zRm:qM Tryz.prog 107 zO6:=⟨jC fun a b r h=>by cases h;exact qL (yM (fn:=[(140,zNx)]) (fr:=[]) ⟨zQa,trivial⟩ trivial) Tryz.func107 (by kernel_rfl) fun _ _=>zZq a.1 b.1 a.2 b.2,_,Tryz.func107,by kernel_rfl,by kernel_rfl⟩
def zFS (a b:zAK):Bool:=decide (a.1=b.1)&&(decide (a.2.1=b.2.1)&&(eqL a.2.2.1 b.2.2.1&&(eqR a.2.2.2.1 b.2.2.2.1&&eqL a.2.2.2.2 b.2.2.2.2)))
theorem zF5 {a b:zAK} :zFS a b=true↔a=b:=by
 unfold zFS eqL eqR;simp only [zC,zP];exact ⟨fun ⟨h1,h2,h3,h4,h5⟩=>Prod.ext h1 (Prod.ext h2 (Prod.ext h3 (Prod.ext h4 h5))),fun h=>by subst h;exact ⟨rfl,rfl,rfl,rfl,rfl⟩⟩
theorem z0U (a1 b1 a2 b2:Int) (t1 f1 t2 f2:List Int) (r1 r2:List P3):zAG ⟨tyL,[(140,zNx),(141,zPn)],[]⟩ Tryz.f108 [zGR.av (a1,b1,t1,r1,f1),zGR.av (a2,b2,t2,r2,f2)] (fun r=>r= .s (.bool (zFS (a1,b1,t1,r1,f1) (a2,b2,t2,r2,f2)))):=by
 repeat' (conv=>whnf
          first|done|refine qN (by first|rfl|omega|(simp only [yO] at *;omega)) ?_|apply qH|refine qG fun _=> ?_|apply qB|apply qa|apply qo|refine qe (fun _=> ?_) (fun _=> ?_)|refine qn (fun _=> ?_) (fun _=> ?_)|refine qd (fun _=> ?_) (fun _=> ?_)|apply qt|refine qi (fun _=> ?_) (fun _=> ?_)|refine zA rfl ?_|apply qE|apply qO|exact zN|apply qq|apply qs|refine qK (by kernel_rfl) ?_|apply qr)
 all_goals try first|apply qz1|apply qz2|apply qz3|apply qz4|apply qz5|apply qz6|apply qz7|apply qz8|apply qz9|apply qz0
 all_goals try simp only [zZ,zR,yE,z6,qn1,zY,qn2,zX,ETy.dflt,qn3,qn4,Int.reduceToNat,Int.reduceAdd,Int.reduceSub,Int.reduceNeg,Nat.reduceAdd,zD] at *
 all_goals
  rw [Bool.eq_iff_iff,zF5]
  try unfold eqL
  simp only [zP,yP,Prod.mk.injEq,Bool.false_eq_true,false_iff] at *;simp [*]
def zOS:List AV->Option Res:=zCs zGR zGR (fun a b=>some (none,none,.s (.bool (zFS a b))))
theorem zRt:qM Tryz.prog 108 zOS:=⟨jC fun a b r h=>by
 cases h;exact qL (yM (fn:=[(140,zNx),(141,zPn)]) (fr:=[]) ⟨zQa,zWP,trivial⟩ trivial) Tryz.func108 (by kernel_rfl) fun _ _=>z0U a.1 a.2.1 b.1 b.2.1 a.2.2.1 a.2.2.2.2 b.2.2.1 b.2.2.2.2 a.2.2.2.1 b.2.2.2.1,_,Tryz.func108,by kernel_rfl,by kernel_rfl⟩
def zS1 (r:SoT×Int):AV:= .tup [qR.av r.1,.s (.int .i64 r.2)]
def zNo (r:SoT×Int):AV:=if r.2=0 then zS1 r else .tup [.agg [.int .i64 0,.val (.slice none 0 0)],.s (.int .i64 r.2)]
theorem zZh (s:SoT) (r:zAK) (h:(zBp s r).2≠0):(zBp s r).1=(0,[]):=by
 unfold zBp at *;split
 ·rename_i hh;rw [dif_pos hh] at h;exact absurd rfl h
 ·rfl
theorem zNF {σ:Sig} {s:SoT} {r:zAK} {v:Value} (h:y5 σ [] (zNo (zBp s r)) v):y5 σ [] (zS1 (zBp s r)) v:=by
 unfold zNo at h;split at h
 ·exact h
 ·rename_i hn;have e:=zZh s r hn;obtain ⟨vs,e1,h⟩:=h;unfold zS1;rw [e]
  match vs,h with
  | [x,y],⟨⟨ds,ea,h1⟩,h3⟩ =>
    refine ⟨_,e1,⟨ds,ea,?_⟩,h3⟩
    match ds,h1 with
    | [d1,d2],⟨k1,k2,k3⟩=>exact ⟨k1,zJK k2,k3⟩
theorem z3S {s:SoT} {r:zAK} (hs:zBC s) (h: ∀ w,bkR s r=(w,true)->doR w r.1 r.2.1≠(s,r,0)):zNo (zBp s r)= .tup [.agg [.int .i64 0,.val (.slice none 0 0)],.s (.int .i64 3)]:=by
 rw [z4G hs h];rfl
theorem zYs {s:SoT} {r:zAK} (h:zGn s=none):zNo (zBp s r)= .tup [.agg [.int .i64 0,.val (.slice none 0 0)],.s (.int .i64 11)]:=by
 rw [zZD h];rfl
theorem z3j {s w:SoT} {r:zAK} (h:doR w r.1 r.2.1=(s,r,0)):zNo (zBp s r)= .tup [qR.av w,.s (.int .i64 0)]:=by
 rw [zRV h];rfl
theorem zVw {a b:SoT} :eqS a b=true↔a=b:=by unfold eqS;exact decide_eq_true_iff
theorem zHj (a:SoT):eqS a a=true:=zVw.2 rfl
theorem zOI (a:zAK):zFS a a=true:=zF5.2 rfl
attribute [local irreducible] zNo bkR doR eqS zFS zDQ
theorem z0g (n:Int) (l:List P3) (A B:Int) (at_:List Int) (ts:List P3) (fan:List Int) (x:yI.T) (hx:zGn (n,l)=some x):zAG ⟨tyL,[(54,zKz x),(100,zL6),(106,backC),(65,z3Q),(107,zO6),(108,zOS)],[]⟩ Tryz.f68 [qR.av (n,l),zGR.av (A,B,at_,ts,fan)] (fun v=>v=zNo (zBp (n,l) (A,B,at_,ts,fan))):=by
 obtain ⟨e0,g,hs⟩:=zHf hx
 repeat' (conv=>whnf
          first|done|refine qN (by first|rfl|omega|(simp only [yO] at *;omega)) ?_|apply qH|refine qG fun _=> ?_|apply qB|apply qa|apply qo|refine qe (fun _=> ?_) (fun _=> ?_)|refine qn (fun _=> ?_) (fun _=> ?_)|refine qd (fun _=> ?_) (fun _=> ?_)|apply qt|refine qi (fun _=> ?_) (fun _=> ?_)|refine zA rfl ?_|apply qE|apply qO|exact zN|apply qq|apply qs|refine qK (by kernel_rfl) ?_|apply qr)
 all_goals try first|apply qz1|apply qz2|apply qz3|apply qz4|apply qz5|apply qz6|apply qz7|apply qz8|apply qz9|apply qz0
 all_goals try simp only [zZ,zR,yE,z6,qn1,zY,qn2,zX,ETy.dflt,qn3,qn4,Int.reduceToNat,Int.reduceAdd,Int.reduceSub,Int.reduceNeg,Nat.reduceAdd,zD] at *
 all_goals try exact absurd (zOZ hs) (by rw [show zDQ (n,l)=false by assumption];decide)
 all_goals try
  refine y9.intro (z3S hs (fun w hw hd=> ?_)).symm;have hd:doR w A B=((n,l),(A,B,at_,ts,fan),0):=hd;simp only [hw,hd,zHj,zOI,ne_eq,not_true_eq_false,Bool.true_eq_false,reduceCtorEq] at *
  done
 all_goals
  have h3:(doR (bkR (n,l) (A,B,at_,ts,fan)).1 A B).2.2=0:=by assumption
  have h1:eqS (doR (bkR (n,l) (A,B,at_,ts,fan)).1 A B).1 (n,l)=true:=by assumption
  have h2:zFS (doR (bkR (n,l) (A,B,at_,ts,fan)).1 A B).2.1 (A,B,at_,ts,fan)=true:=by assumption
  have h:doR (bkR (n,l) (A,B,at_,ts,fan)).1 A B=((n,l),(A,B,at_,ts,fan),0):=Prod.ext (zVw.1 h1) (Prod.ext (zF5.1 h2) h3);exact y9.intro (z3j h).symm
theorem zV9 (n:Int) (l:List P3) (r:zAK) (hx:zGn (n,l)=none):zAG ⟨tyL,[(54,zVO),(100,zL6),(106,backC),(65,z3Q),(107,zO6),(108,zOS)],[]⟩ Tryz.f68 [qR.av (n,l),zGR.av r] (fun v=>v=zNo (zBp (n,l) r)):=by
 have e:=zYs (r:=r) hx
 repeat' (conv=>whnf
          first|done|refine qN (by first|rfl|omega|(simp only [yO] at *;omega)) ?_|apply qH|refine qG fun _=> ?_|apply qB|apply qa|apply qo|refine qe (fun _=> ?_) (fun _=> ?_)|refine qn (fun _=> ?_) (fun _=> ?_)|refine qd (fun _=> ?_) (fun _=> ?_)|apply qt|refine qi (fun _=> ?_) (fun _=> ?_)|refine zA rfl ?_|apply qE|apply qO|exact zN|apply qq|apply qs|refine qK (by kernel_rfl) ?_|apply qr)
 all_goals try first|apply qz1|apply qz2|apply qz3|apply qz4|apply qz5|apply qz6|apply qz7|apply qz8|apply qz9|apply qz0
 all_goals try simp only [zZ,zR,yE,z6,qn1,zY,qn2,zX,ETy.dflt,qn3,qn4,Int.reduceToNat,Int.reduceAdd,Int.reduceSub,Int.reduceNeg,Nat.reduceAdd,zD] at *
 all_goals try exact qh hx
 all_goals exact y9.intro e.symm
noncomputable def zWV:List AV->Option Res:=zCs qR zGR (fun s r=>some (none,none,zS1 (zBp s r)))
theorem z0u:qM Tryz.prog 68 zWV:=⟨jC fun s r q h=>by
 cases h;cases e:zGn s with
 | none=>exact zCr.res (qL (yM (fn:=[(54,zVO),(100,zL6),(106,backC),(65,z3Q),(107,zO6),(108,zOS)]) (fr:=[]) ⟨zTh,zLE,zYW,zTi,zRm,zRt,trivial⟩ trivial) Tryz.func68 (by kernel_rfl) fun _ _=>zV9 s.1 s.2 r e) fun σ v h=>zNF h
 | some x=>exact zCr.res (qL (yM (fn:=[(54,zKz x),(100,zL6),(106,backC),(65,z3Q),(107,zO6),(108,zOS)]) (fr:=[]) ⟨(zLM x),zLE,zYW,zTi,zRm,zRt,trivial⟩ trivial) Tryz.func68 (by kernel_rfl) fun _ _=>z0g s.1 s.2 r.1 r.2.1 r.2.2.1 r.2.2.2.1 r.2.2.2.2 x e) fun σ v h=>zNF h,_,Tryz.func68,by kernel_rfl,by kernel_rfl⟩
end S1
open Go Go.Vm Go.Proofs
namespace S1
def zTG (v:Int):List (Int×Int)->Int
 | []=> -1
 | e::r=>if e.2=v then e.1 else zTG v r
def z1o (x:yI.T) (v:Int):Int:=zTG v (zLm x)
def zWC (L:List (Int×Int)) (v:Int):Spec Nat where
 inv k:=k<=L.length/\zTG v L=zTG v (L.drop k)
 live k:=[(10,.s (.int .i64 k))]
 keep:=[1,8,9]
 heap _:=[]
 keepH:=[]
 mu k:=L.length - k
theorem zNj {l:List (Int×Int)} {x:Nat} (h:x<l.length):l.drop x=l.getD x (0,0)::l.drop (x+1):=by
 rw [List.drop_eq_getElem_cons h,gdE,gE h];rfl
attribute [local irreducible] zLm zTG
theorem zYH (x:yI.T) (v:Int) (g:Good x):zAG ⟨tyL,[(99,zIm)],[]⟩ Tryz.f63 [(ETy.pt yI).av (some x),y7.av v] (fun r=>r= .s (.int .i64 (z1o x v))):=by
 repeat' (conv=>whnf
          first|done|refine qN (by first|rfl|omega|(simp only [yO] at *;omega)) ?_|apply qH|refine qG fun _=> ?_|apply qB|apply qa|apply qo|refine qe (fun _=> ?_) (fun _=> ?_)|refine qn (fun _=> ?_) (fun _=> ?_)|refine qd (fun _=> ?_) (fun _=> ?_)|apply qt|refine qi (fun _=> ?_) (fun _=> ?_)|(refine qS 2 rfl ?_;refine Or.inr (zB (Nat) (zB (zWC (zLm x) v) (zA (zB (0) (zA (yJ.out ?_) (zA ?_ (zA ?_ rfl)))) (fun k hk=> ?_)))))|((with_reducible show (∃ y,And (Spec.inv (zWC _ _) y) _));refine zB (k+1) (zA (yJ.out ?_) (zA (zA ?_ (zA ?_ rfl)) (yJ.out ?_))))|refine zA rfl ?_|apply qE|apply qO|exact zN|apply qq|apply qs|refine qK (by kernel_rfl) ?_|apply qr)
 all_goals try first|apply qz1|apply qz2|apply qz3|apply qz4|apply qz5|apply qz6|apply qz7|apply qz8|apply qz9|apply qz0
 all_goals try simp only [zZ,zR,yE,z6,qn1,zY,qn2,zX,ETy.dflt,qn3,qn4,Int.reduceToNat,Int.reduceAdd,Int.reduceSub,Int.reduceNeg,Nat.reduceAdd,zD,zWC,z1o] at *
 ·exact qh (fun y h=>by cases h;exact g)
 ·exact qh ⟨Nat.zero_le _,by rw [List.drop_zero]⟩
 all_goals try have hk1:k<(zLm x).length:=Int.ofNat_lt.1 (by assumption)
 ·have h:((zLm x).getD k (0,0)).2=v:=by assumption
  rw [hk.2,zNj hk1];unfold zTG;rw [if_pos h];rfl
 ·have h:((zLm x).getD k (0,0)).2≠v:=by assumption
  refine yJ.intro ⟨hk1,?_⟩;rw [hk.2,zNj hk1];conv=>lhs;unfold zTG
  rw [if_neg h]
 ·refine qh ?_;omega
 ·have h: ¬ (k:Int)<(zLm x).length:=by assumption
  rw [hk.2,List.drop_eq_nil_of_le (by omega)];unfold zTG;rfl
theorem zTA (v:Int):zAG ⟨tyL,[(99,zIm)],[]⟩ Tryz.f63 [(ETy.pt yI).av none,y7.av v] (fun r=>r= .s (.int .i64 (-1))):=by
 repeat' (conv=>whnf
          first|done|refine qN (by first|rfl|omega|(simp only [yO] at *;omega)) ?_|apply qH|refine qG fun _=> ?_|apply qB|apply qa|apply qo|refine qe (fun _=> ?_) (fun _=> ?_)|refine qn (fun _=> ?_) (fun _=> ?_)|refine qd (fun _=> ?_) (fun _=> ?_)|apply qt|refine qi (fun _=> ?_) (fun _=> ?_)|(refine qS 2 rfl ?_;refine Or.inl (zB (1) ?_))|refine zA rfl ?_|apply qE|apply qO|exact zN|apply qq|apply qs|refine qK (by kernel_rfl) ?_|apply qr)
 all_goals try first|apply qz1|apply qz2|apply qz3|apply qz4|apply qz5|apply qz6|apply qz7|apply qz8|apply qz9|apply qz0
 all_goals try simp only [zZ,zR,yE,z6,qn1,zY,qn2,zX,ETy.dflt,qn3,qn4,Int.reduceToNat,Int.reduceAdd,Int.reduceSub,Int.reduceNeg,Nat.reduceAdd,zD] at *
 all_goals try exact qh (fun y h=>by cases h)
 all_goals try rfl
 all_goals exact absurd (show (0:Int)<(0:Nat) by assumption) (by decide)
def zW2:List AV->Option Res:=zCs (.pt yI) y7 (fun o v=>some (none,some (∀ x,o=some x->Good x),.s (.int .i64 (match o with|some x=>z1o x v|none=> -1))))
theorem zTk:qM Tryz.prog 63 zW2:=⟨jC fun o v r h=>by
 cases h;cases o with
 | none=>exact qL (yM (fn:=[(99,zIm)]) (fr:=[]) ⟨zLD,trivial⟩ trivial) Tryz.func63 (by kernel_rfl) fun _ _=>zTA v
 | some x=>exact qL (yM (fn:=[(99,zIm)]) (fr:=[]) ⟨zLD,trivial⟩ trivial) Tryz.func63 (by kernel_rfl) fun _ h=>zYH x v (h x rfl),_,Tryz.func63,by kernel_rfl,by kernel_rfl⟩
def zAx:List zAK->Int->Int
 | [],v=>v
 | r::l,v=>if zJ7 v r.1 r.2.1<0 then -1 else zAx l (zJ7 v r.1 r.2.1)
def zOh:zAK:=(0,0,[],[],[])
def nwK (R:List zAK) (v:Int):Nat->Int
 | 0=>v
 | k+1=>zJ7 (nwK R v k) (R.getD k zOh).1 (R.getD k zOh).2.1
theorem zOE {l:List zAK} {x:Nat} (h:x<l.length):l.drop x=l.getD x zOh::l.drop (x+1):=by
 rw [List.drop_eq_getElem_cons h,gdE,gE h];rfl
theorem zOF {R:List zAK} {k:Nat} (h:k<R.length):R.getD k zOh∈R:=by
 rw [gdE,gE h];exact yU h
theorem z3v {v a b:Int} (hv:v<=1000000) (hb:b<=1000000):zJ7 v a b<=1000000:=by
 unfold zJ7
 (repeat' split)<;>omega
def okR (R:List zAK):Prop:= ∀ r∈R,-1000000<=r.2.1/\r.2.1<=1000000
def zUu (R:List zAK) (v:Int):Spec Nat where
 inv k:=k<=R.length/\zAx R v=zAx (R.drop k) (nwK R v k)/\(-1000000<=nwK R v k/\nwK R v k<=1000000)
 live k:=[(0,.s (.int .i64 (nwK R v k))),(9,.s (.int .i64 k))]
 keep:=[7,8]
 heap _:=[]
 keepH:=[]
 mu k:=R.length - k
attribute [local irreducible] zJ7 zAx nwK
theorem z6M (R:List zAK) (v:Int) (hR:okR R) (hv: -1000000<=v/\v<=1000000):zAG ⟨tyL,[(104,zQO)],[]⟩ Tryz.f66 [y7.av v,(ETy.sl zGR).av R] (fun r=>r= .s (.int .i64 (zAx R v))):=by
 repeat' (conv=>whnf
          first|done|refine qN (by first|rfl|omega|(simp only [yO] at *;omega)) ?_|apply qH|refine qG fun _=> ?_|apply qB|apply qa|apply qo|refine qe (fun _=> ?_) (fun _=> ?_)|refine qn (fun _=> ?_) (fun _=> ?_)|refine qd (fun _=> ?_) (fun _=> ?_)|apply qt|refine qi (fun _=> ?_) (fun _=> ?_)|(refine qS 2 rfl ?_;refine Or.inr (zB (Nat) (zB (zUu R v) (zA (zB (0) (zA (yJ.out ?_) (zA ?_ (zA ?_ rfl)))) (fun k hk=> ?_)))))|((with_reducible show (∃ y,And (Spec.inv (zUu _ _) y) _));refine zB (k+1) (zA (yJ.out ?_) (zA (zA ?_ (zA ?_ rfl)) (yJ.out ?_))))|refine zA rfl ?_|apply qE|apply qO|exact zN|apply qq|apply qs|refine qK (by kernel_rfl) ?_|apply qr)
 all_goals try first|apply qz1|apply qz2|apply qz3|apply qz4|apply qz5|apply qz6|apply qz7|apply qz8|apply qz9|apply qz0
 all_goals try simp only [zZ,zR,yE,z6,qn1,zY,qn2,zX,ETy.dflt,qn3,qn4,Int.reduceToNat,Int.reduceAdd,Int.reduceSub,Int.reduceNeg,Nat.reduceAdd,zD,zUu] at *
 ·refine yJ.intro ⟨Nat.zero_le _,by rw [List.drop_zero];unfold nwK;rfl,?_⟩;unfold nwK;exact hv
 ·unfold nwK;rfl
 all_goals try have hk1:k<R.length:=Int.ofNat_lt.1 (by assumption)
 ·exact qh ⟨hk.2.2,hR _ (zOF hk1)⟩
 ·have h:zJ7 (nwK R v k) (R.getD k zOh).1 (R.getD k zOh).2.1<0:=by assumption
  rw [hk.2.1,zOE hk1];unfold zAx;rw [if_pos h]
 ·have h: ¬ zJ7 (nwK R v k) (R.getD k zOh).1 (R.getD k zOh).2.1<0:=by assumption
  have e:nwK R v (k+1)=zJ7 (nwK R v k) (R.getD k zOh).1 (R.getD k zOh).2.1:=by conv=>lhs;unfold nwK
  have hb:=z3v (a:=(R.getD k zOh).1) hk.2.2.2 (hR _ (zOF hk1)).2;refine yJ.intro ⟨hk1,?_,by rw [e];exact ⟨by omega,hb⟩⟩;rw [hk.2.1,zOE hk1,e];conv=>lhs;unfold zAx
  rw [if_neg h]
 ·conv=>lhs;unfold nwK
  rfl
 ·refine qh ?_;omega
 ·have h: ¬ (k:Int)<R.length:=by assumption
  rw [hk.2.1,List.drop_eq_nil_of_le (by omega)];unfold zAx;rfl
def z68:List AV->Option Res:=zCs y7 (.sl zGR) (fun (v:Int) (R:List zAK)=>some (none,some ((-1000000<=v/\v<=1000000)/\okR R),.s (.int .i64 (zAx R v))))
theorem z1n:qM Tryz.prog 66 z68:=⟨jC fun v R r h=>by
 cases h;exact qL (yM (fn:=[(104,zQO)]) (fr:=[]) ⟨zPP,trivial⟩ trivial) Tryz.func66 (by kernel_rfl) fun _ h=>z6M R v h.2 h.1,_,Tryz.func66,by kernel_rfl,by kernel_rfl⟩
def imL (R:List zAK) (k:Nat):List Int:=(List.range k).map fun (v:Nat)=>zAx R v
def zSX (n:Int) (R:List zAK):Int:=if n<0\/n>4096 then 2 else if (imL R n.toNat).all (fun v=>decide (0<=v))=true then 0 else 3
def zOe (n:Int) (R:List zAK):List Int×Int:=if zSX n R=0 then (imL R n.toNat,0) else ([],zSX n R)
def z8G (r:List Int×Int):AV:= .tup [.s (.sl y7 r.1),.s (.int .i64 r.2)]
theorem z8e (R:List zAK) (k:Nat):imL R (k+1)=imL R k++[zAx R k]:=by
 unfold imL;rw [List.range_succ,List.map_append];rfl
theorem zJW (R:List zAK) (k:Nat):(imL R k).length=k:=by unfold imL;rw [y8,zAv]
theorem z09 {n:Int} {R:List zAK} {k:Nat} (hn: ¬ (n<0\/n>4096)) (hk:(k:Int)<n) (h:zAx R k<0):zSX n R=3:=by
 unfold zSX;rw [if_neg hn,if_neg];intro c;have:=zK.1 c (zAx R k) (yD.2 ⟨k,zV.2 (by omega),rfl⟩);rw [zP] at this;omega
theorem zUy {n:Int} {R:List zAK} (hn: ¬ (n<0\/n>4096)) (h: ∀ k,k<n.toNat->0<=zAx R k):zSX n R=0:=by
 unfold zSX;rw [if_neg hn,if_pos];refine zK.2 fun v hv=> ?_;obtain ⟨k,hk,rfl⟩:=yD.1 hv;rw [zP];exact h k (zV.1 hk)
def zV6 (n:Int) (R:List zAK):Spec Nat where
 inv k:=k<=n.toNat/\∀ j,j<k->0<=zAx R j
 live k:=[(16,.s (.int .i64 k)),(6,.s (.own 1 0 (imL R k).length))]
 keep:=[1,15]
 heap k:=[(1,.row y7 3 (imL R k))]
 keepH:=[0]
 mu k:=n.toNat - k
attribute [local irreducible] zSX imL zOe
theorem z0V (n:Int) (R:List zAK) (hR:okR R):zAG ⟨tyL,[(66,z68)],[]⟩ Tryz.f32 [y7.av n,(ETy.sl zGR).av R] (fun r=>r=z8G (zOe n R)):=by
 repeat' (conv=>whnf
          first|done|refine qN (by first|rfl|omega|(simp only [yO] at *;omega)) ?_|apply qH|refine qG fun _=> ?_|apply qB|apply qa|apply qo|refine qe (fun _=> ?_) (fun _=> ?_)|refine qn (fun _=> ?_) (fun _=> ?_)|refine qd (fun _=> ?_) (fun _=> ?_)|apply qt|refine qi (fun _=> ?_) (fun _=> ?_)|(refine qS 5 rfl ?_;refine Or.inr (zB (Nat) (zB (zV6 n R) (zA (zB (0) (zA (yJ.out ?_) (zA ?_ (zA ?_ rfl)))) (fun k hk=> ?_)))))|((with_reducible show (∃ y,And (Spec.inv (zV6 _ _) y) _));refine zB (k+1) (zA (yJ.out ?_) (zA (zA ?_ (zA ?_ rfl)) (yJ.out ?_))))|refine zA rfl ?_|apply qE|apply qO|exact zN|apply qq|apply qs|refine qK (by kernel_rfl) ?_|apply qr)
 all_goals try first|apply qz1|apply qz2|apply qz3|apply qz4|apply qz5|apply qz6|apply qz7|apply qz8|apply qz9|apply qz0
 all_goals try simp only [zZ,zR,yE,z6,qn1,zY,qn2,zX,ETy.dflt,qn3,qn4,Int.reduceToNat,Int.reduceAdd,Int.reduceSub,Int.reduceNeg,Nat.reduceAdd,zD,zV6] at *
 all_goals have e2: ∀ e,zSX n R=e->e≠0->z8G (zOe n R)= .tup [.s (.sl y7 []),.s (.int .i64 e)]:=fun e h he=>by
            unfold zOe;rw [if_neg (by rw [h];exact he),h];rfl
 ·refine y9.intro (e2 2 ?_ (by decide)).symm;unfold zSX;exact if_pos (.inl (by assumption))
 ·refine y9.intro (e2 2 ?_ (by decide)).symm;unfold zSX;exact if_pos (.inr (by assumption))
 ·exact qh ⟨Nat.zero_le _,fun j hj=>absurd hj (Nat.not_lt_zero _)⟩
 ·exact zJW R 0
 ·unfold imL;rfl
 ·refine yJ.intro ⟨?_,hR⟩;omega
 ·exact y9.intro (e2 3 (z09 (by omega) (by assumption) (by assumption)) (by decide)).symm
 ·have:=zJW R k;refine qh ?_;omega
 ·refine yJ.intro ⟨by omega,fun j hj=> ?_⟩
  by_cases e:j=k
  ·subst e;omega
  ·exact hk.2 j (by omega)
 ·rw [zJW,zJW]
 ·exact z8e R k
 ·refine qh ?_;omega
 ·have e:k=n.toNat:=by omega
  subst e;have h0:=zUy (n:=n) (R:=R) (by omega) hk.2;refine y9.intro ?_;unfold zOe;rw [if_pos h0];rfl
def zXf:List AV->Option Res:=zCs y7 (.sl zGR) (fun (n:Int) (R:List zAK)=>some (none,some (okR R),z8G (zOe n R)))
theorem z0c:qM Tryz.prog 32 zXf:=⟨jC fun n R r h=>by
 cases h;exact qL (yM (fn:=[(66,z68)]) (fr:=[]) ⟨z1n,trivial⟩ trivial) Tryz.func32 (by kernel_rfl) fun _ h=>z0V n R h,_,Tryz.func32,by kernel_rfl,by kernel_rfl⟩
end S1
open Go Go.Vm Go.Proofs
namespace S1
def ofV (m:NxM) (i:Int) (L:List Int):NxM:=L.foldl (fun m v=>zAB (.int .i64) m v i) m
def ofK (Ls:List (List Int)):Nat->NxM
 | 0=>[]
 | i+1=>ofV (ofK Ls i) i (Ls.getD i [])
def lfK (Ls:List (List Int)) (i:Nat):List Int:=(Ls.take i).map fun L=>(L.length:Int) - 3
theorem zUc: ∀ (L:List Int) (m:NxM) (i u:Int),jS y7 (ofV m i L) u=if u∈L then some i else jS y7 m u
 | [],m,i,u=>by rw [if_neg (by simp)];rfl
 | a ::r,m,i,u=>by
   show jS y7 (ofV (zAB y7 m a i) i r) u=_;rw [zUc r]
   by_cases h:u∈r
   ·rw [if_pos h,if_pos (zS _ h)]
   ·rw [if_neg h]
    by_cases e:a=u
    ·subst e;rw [zAQ,if_pos (yA ..)]
    ·rw [zA1 _ e,if_neg];intro k;rcases zT.1 k with k|k
     ·exact e k.symm
     ·exact h k
theorem zLy {Ls:List (List Int)} (hn:Ls.flatten.Nodup) {i:Nat} {u:Int} (hu:u∈Ls.getD i []): ∀ k,i<k->k<=Ls.length->jS y7 (ofK Ls k) u=some (i:Int)
 | 0,h,_=>absurd h (Nat.not_lt_zero _)
 | k +1,h,hk=>by
   show jS y7 (ofV (ofK Ls k) k (Ls.getD k [])) u=_;rw [zUc]
   by_cases e:i=k
   ·subst e;rw [if_pos hu]
   ·rw [if_neg,zLy hn hu k (by omega) (by omega)];intro hk2
    -- u lies in two loops
    have hi:i<Ls.length:=by omega
    have hkl:k<Ls.length:=by omega
    have gi:Ls.getD i []=Ls[i]:=by rw [gdE,gE hi];rfl
    have gk:Ls.getD k []=Ls[k]:=by rw [gdE,gE hkl];rfl
    rw [gi] at hu;rw [gk] at hk2;have hp:=flat_pair hn;have:=List.pairwise_iff_getElem.1 hp;rcases Nat.lt_or_gt_of_ne e with q|q
    ·exact this i k hi hkl q u hu hk2
    ·exact this k i hkl hi q u hk2 hu
where
 flat_pair: ∀ {Ls:List (List Int)},Ls.flatten.Nodup->Ls.Pairwise (fun a b=> ∀ x∈a,x∉b)
  | [],_=>List.Pairwise.nil
  | a::r,hn=>by
    rw [List.flatten_cons,List.nodup_append] at hn;exact List.pairwise_cons.2 ⟨fun b hb x hx hxb=>hn.2.2 x hx x (List.mem_flatten.2 ⟨b,hb,hxb⟩) rfl,flat_pair hn.2.1⟩
open Classical in
noncomputable def z5H (x:yI.T) (C:List (Int×Int)) (i:Nat):Nat:=(C.filter fun c=>decide (zI7 x c/\c.1∈(qW x).getD i [])).length
structure zEs (x:yI.T) (l:List (Int×Int)) (k:Nat) (u:ReM) (f:List Int):Prop where
 used: ∀ n,had u n=true↔∃ c∈chK x l k,zHI x c n
 len:f.length=(qW x).length
 left: ∀ i,i<(qW x).length->f.getD i 0=((qW x).getD i []).length - 3 - (z5H x (chK x l k) i:Int)
theorem z1b {x:yI.T} (g:Full x) {w u:Int} (h:bE x w u):z1o x u=w:=by
 have key: ∀ l:List (Int×Int),(∀ e∈l,bE x e.1 e.2)->(w,u)∈l->zTG u l=w:=fun l=>by
  induction l with
  | nil=>intro _ k;cases k
  | cons e r ih =>
    intro ha k;unfold zTG;split
    ·rename_i h2;have:=ha e (yA ..);rw [h2] at this;exact zT5 g this h
    ·rename_i h2;refine ih (fun e he=>ha e (zS _ he)) ((zT.1 k).resolve_left fun q=>h2 ?_);rw [<- q]
 exact key _ (fun e he=>zFf.1 he) (zFf.2 h)
theorem z1m {x:yI.T} {w u:Int} (h:z1o x u=w) (hw:0<=w):bE x w u:=by
 have key: ∀ l:List (Int×Int),(∀ e∈l,bE x e.1 e.2)->zTG u l=w->bE x w u:=fun l=>by
  induction l with
  | nil=>intro _ k;have:(-1:Int)=w:=k;omega
  | cons e r ih =>
    intro ha k;unfold zTG at k;split at k
    ·rename_i h2;have:=ha e (yA ..);rw [h2,k] at this;exact this
    ·exact ih (fun e he=>ha e (zS _ he)) k
 exact key _ (fun e he=>zFf.1 he) h
section
variable {x:yI.T} {l:List (Int×Int)} {k:Nat} {u:ReM} {f:List Int}
theorem z2v:zEs x l 0 [] (lfK (qW x) (qW x).length):=by
 refine ⟨fun n=>⟨fun h=>(by cases h),fun ⟨c,h,_⟩=>(by cases h)⟩,?_,fun i hi=> ?_⟩
 ·unfold lfK;rw [y8,List.take_length]
 ·unfold lfK;rw [List.take_length,gdE,List.getElem?_map,gE hi,gdE,gE hi];have e0:z5H x (chK x l 0) i=0:=rfl;rw [e0];simp
theorem z8S (h:zEs x l k u f) (c: ¬ okE x (chK x l k) (l.getD k (0,0))=true):zEs x l (k+1) u f:=by
 have e:=zYy c;exact ⟨by rw [e];exact h.used,h.len,by rw [e];exact h.left⟩
theorem z2U (g:Full x) (hs:jU (InN x.1.1) x.1.2) (h:zEs x l k u f) (hw:zD2 x (l.getD k (0,0)).1 (l.getD k (0,0)).2=0) (hu: ∀ p∈zCm x (l.getD k (0,0)),had u p.1=false):okE x (chK x l k) (l.getD k (0,0))=true:=by
 refine (zIM g hs).2 ⟨(zJk g hs).1 hw,fun c hc t ht a b=> ?_⟩;obtain ⟨j,hj,rfl⟩:=zAM ht;obtain ⟨p,hp,e⟩:=yD.1 ((zFc g).2 (⟨j,hj,rfl,b⟩:zHI x (l.getD k (0,0)) j));have:=hu p hp;rw [show p.1=(j:Int) from e,(h.used j).2 ⟨c,hc,j,hj,rfl,a⟩] at this;cases this
theorem z4W (g:Full x) (hs:jU (InN x.1.1) x.1.2) (h:zEs x l k u f) {p:(ETy.int .i64).T×ETy.bool.T} (hp:p∈zCm x (l.getD k (0,0))) (hu:had u p.1=true): ¬ okE x (chK x l k) (l.getD k (0,0))=true:=by
 intro c;obtain ⟨_,h2⟩:=(zIM g hs).1 c;obtain ⟨d,hd,j,hj,e,a⟩:=(h.used p.1).1 hu;obtain ⟨i,hi,e2,b⟩:=(zFc g).1 (yD.2 ⟨p,hp,rfl⟩);have:i=j:=by omega
 subst this;exact h2 d hd _ (qI hi) a b
theorem z58 (c: ¬ zD2 x (l.getD k (0,0)).1 (l.getD k (0,0)).2=0): ¬ okE x (chK x l k) (l.getD k (0,0))=true:=fun h=>by
 unfold okE at h;rw [zC,zP] at h;exact c h.1
theorem zXz (g:Full x) (h:zEs x l k u f) (c:okE x (chK x l k) (l.getD k (0,0))=true) {pre:IBM} (hp: ∀ p,p∈pre↔p∈zCm x (l.getD k (0,0))) (n:Int):had (zRg u (pre.map (·.1))) n=true↔∃ c∈chK x l (k+1),zHI x c n:=by
 unfold zRg;rw [zMT,h.used,zN4 c]
 have e1:n∈pre.map (·.1)↔zHI x (l.getD k (0,0)) n:=by
  rw [<- zFc g];show _↔n∈(zCm x (l.getD k (0,0))).map Prod.fst;rw [yD,yD];exact ⟨fun ⟨p,a,b⟩=>⟨p,(hp p).1 a,b⟩,fun ⟨p,a,b⟩=>⟨p,(hp p).2 a,b⟩⟩
 rw [e1];constructor
 ·rintro (⟨d,a,b⟩|a)
  ·exact ⟨d,List.mem_append_left _ a,b⟩
  ·exact ⟨_,List.mem_append_right _ (zF.2 rfl),a⟩
 ·rintro ⟨d,a,b⟩;rcases yC.1 a with a|a
  ·exact .inl ⟨d,a,b⟩
  ·rw [zF.1 a] at b;exact .inr b
open Classical in
theorem z18 (C:List (Int×Int)) (e:Int×Int) (i:Nat):z5H x (C++[e]) i=z5H x C i+(if zI7 x e/\e.1∈(qW x).getD i [] then 1 else 0):=by
 unfold z5H;rw [List.filter_append,zO]
 congr 1
 by_cases q:zI7 x e/\e.1∈(qW x).getD i []
 ·rw [if_pos q,List.filter_cons_of_pos (by rw [zP];exact q)];rfl
 ·rw [if_neg q,List.filter_cons_of_neg (by rw [zP];exact q)];rfl
theorem z7w (g:Full x) (h:zEs x l k u f) (c:okE x (chK x l k) (l.getD k (0,0))=true) (hb: ¬ zI7 x (l.getD k (0,0))) {pre:IBM} (hp: ∀ p,p∈pre↔p∈zCm x (l.getD k (0,0))):zEs x l (k+1) (zRg u (pre.map (·.1))) f:=by
 refine ⟨zXz g h c hp,h.len,fun i hi=> ?_⟩;rw [h.left i hi,zN4 c,z18,if_neg (fun q=>hb q.1)];rfl
theorem z6a (g:Full x) {e:Int×Int} (h:zI7 x e): ∃ i,i<(qW x).length/\e.1∈(qW x).getD i []/\jS y7 (ofK (qW x) (qW x).length) e.1=some (i:Int)/\zBx x ((qW x).getD i []):=by
 have hw: ∃ w,bE x w e.1:=by
  rcases h with k|k
  ·exact zCj g k
  ·exact ⟨_,k⟩
 obtain ⟨L,hL,hu⟩:=List.mem_flatten.1 ((zXr g).2 hw);obtain ⟨i,hi,rfl⟩:=yG.1 hL;have gi:(qW x).getD i []=(qW x)[i]:=by rw [gdE,gE hi];rfl
 have lp:=zI2 g;refine ⟨i,hi,by rw [gi];exact hu,zLy lp.nd (by rw [gi];exact hu) _ hi (zI _),by rw [gi];exact lp.ok _ hL⟩
theorem z2u (g:Full x) (hs:jU (InN x.1.1) x.1.2) (h:zEs x l k u f) (c:okE x (chK x l k) (l.getD k (0,0))=true) (hb:zI7 x (l.getD k (0,0))) {i:Nat} (hi:i<(qW x).length) (hm:(l.getD k (0,0)).1∈(qW x).getD i []) (hL:zBx x ((qW x).getD i [])):1<=f.getD i 0:=by
 classical
 obtain ⟨h1,h2⟩:=(zIM g hs).1 c;have hbat:=zOj g hs l k
 have:=z5r g hs hL hb h1 hm (D:=(chK x l k).filter fun c=>decide (zI7 x c/\c.1∈(qW x).getD i [])) (fun d hd=>by
  obtain ⟨a,b⟩:=List.mem_filter.1 hd;rw [zP] at b
  exact ⟨b.1,hbat.free d a,b.2⟩) (hbat.apart.sublist List.filter_sublist) fun d hd=>h2 d (List.mem_filter.1 hd).1
 rw [h.left i hi];unfold z5H;have e: ∀ (p q:Int×Int->Bool),(∀ c,p c=q c)->((chK x l k).filter p).length=((chK x l k).filter q).length:=fun p q h=>by rw [show p=q from funext h]
 rw [e _ (fun c=>decide (zI7 x c/\c.1∈(qW x).getD i [])) (fun c=>by congr)];omega
theorem z7N (g:Full x) (h:zEs x l k u f) (c:okE x (chK x l k) (l.getD k (0,0))=true) (hb:zI7 x (l.getD k (0,0))) {i:Nat} (hi:i<(qW x).length) (hm:(l.getD k (0,0)).1∈(qW x).getD i []) {pre:IBM} (hp: ∀ p,p∈pre↔p∈zCm x (l.getD k (0,0))) :
 zEs x l (k+1) (zRg u (pre.map (·.1))) (f.set i (f.getD i 0 - 1)):=by
 refine ⟨zXz g h c hp,by rw [List.length_set];exact h.len,fun j hj=> ?_⟩;rw [zN4 c,z18,gdE,List.getElem?_set]
 by_cases e:i=j
 ·subst e;rw [if_pos rfl,if_pos (by rw [h.len];exact hi),if_pos ⟨hb,hm⟩];show f.getD i 0 - 1=_;rw [h.left i hi];omega
 ·rw [if_neg e,if_neg]
  ·have:=h.left j hj;rw [gdE] at this;rw [this];rfl
  ·rintro ⟨_,hm2⟩;have lp:=(zI2 g).nd;have a:=zLy lp hm _ hi (zI _);have b:=zLy lp hm2 _ hj (zI _);rw [a] at b;have:(i:Int)=j:=Option.some.inj b;omega
theorem z19 (g:Full x) (hs:jU (InN x.1.1) x.1.2) {e:Int×Int} (hw:zD2 x e.1 e.2=0):(z1o x e.1=e.2\/z1o x e.2=e.1)↔zI7 x e:=by
 obtain ⟨t,ht,t1,t2⟩:=((zJk g hs).1 hw).near;have i1:=hs.ent t ht _ t1;have i2:=hs.ent t ht _ t2;constructor
 ·rintro (h|h)
  ·exact .inr (z1m h i2.1)
  ·exact .inl (z1m h i1.1)
 ·rintro (h|h)
  ·exact .inr (z1b g h)
  ·exact .inl (z1b g h)
theorem zYe (g:Full x) {L:List Int} (hL:zBx x L):L.length<=4096:=by
 have:=zBv L ((List.range 4096).map fun (j:Nat)=>(j:Int)) hL.nd fun v hv=>by
  obtain ⟨w,hw⟩:=hL.bord hv;have h1:=(zJ8 g hw).2.1;have h2: @LE.le Int _ x.1.1 4096:=g.fit.2.1;exact yD.2 ⟨v.toNat,zV.2 (by omega),by omega⟩
 rwa [y8,zAv] at this
theorem zKv (Ls:List (List Int)) (i:Nat) (h:i<=Ls.length):(lfK Ls i).length=i:=by unfold lfK;rw [y8,j0];omega
theorem zZ6 (g:Full x) (hs:jU (InN x.1.1) x.1.2) (c:okE x (chK x l k) (l.getD k (0,0))=true) (hb:zI7 x (l.getD k (0,0))) (h:zEs x l k u f) :
 ∃ i:Nat,(jS y7 (ofK (qW x) (qW x).length) (l.getD k (0,0)).1).getD 0=(i:Int)/\i<(lfK (qW x) (qW x).length).length/\1<=f.getD i 0/\f.getD i 0<=4096/\
   ∀ pre:IBM,(∀ p,p∈pre↔p∈zCm x (l.getD k (0,0)))->zEs x l (k+1) (zRg u (pre.map (·.1))) (f.set i (f.getD i 0 - 1)):=by
 obtain ⟨i,hi,hm,hg,hL⟩:=z6a g hb;have hr:=z2u g hs h c hb hi hm hL;have hl:=zYe g hL;refine ⟨i,by rw [hg];rfl,by rw [zKv _ _ (zI _)];exact hi,hr,?_,fun pre hp=>z7N g h c hb hi hm hp⟩;rw [h.left i hi];omega
def ixL (x:yI.T) (v:Int):Nat:=Int.toNat ((jS y7 (ofK (qW x) (qW x).length) v).getD 0)
theorem zTW (g:Full x) (hs:jU (InN x.1.1) x.1.2) (c:okE x (chK x l k) (l.getD k (0,0))=true) (hb:zI7 x (l.getD k (0,0))) (h:zEs x l k u f) :
 (0<=(jS y7 (ofK (qW x) (qW x).length) (l.getD k (0,0)).1).getD 0/\(jS y7 (ofK (qW x) (qW x).length) (l.getD k (0,0)).1).getD 0<((lfK (qW x) (qW x).length).length:Int))/\
 yO (f.getD (ixL x (l.getD k (0,0)).1) 0 - 1)/\¬ f.getD (ixL x (l.getD k (0,0)).1) 0<1/\
 ∀ pre:IBM,(∀ p,p∈pre↔p∈zCm x (l.getD k (0,0)))->zEs x l (k+1) (zRg u (pre.map (·.1))) (f.set (ixL x (l.getD k (0,0)).1) (f.getD (ixL x (l.getD k (0,0)).1) 0 - 1)):=by
 obtain ⟨i,h1,h2,h3,h4,h5⟩:=zZ6 g hs c hb h;have e:ixL x (l.getD k (0,0)).1=i:=by unfold ixL;rw [h1];rfl
 rw [e,h1];exact ⟨⟨show (0:Int)<=(i:Int) by omega,show (i:Int)<((lfK (qW x) (qW x).length).length:Int) by omega⟩,by unfold yO;omega,by omega,h5⟩
theorem zX7 (g:Full x):(qW x).length<=4096:=by
 have h1:=zQI x x.1.1.toNat;have h2: @LE.le Int _ x.1.1 4096:=g.fit.2.1;have h3:(qW x).length<=x.1.1.toNat:=h1;omega
theorem z8A {m:NxM} {i:Int} {L:List Int} {j:Nat} (hj:j<L.length):ofV m i (L.take (j+1))=zAB y7 (ofV m i (L.take j)) (L.getD j 0) i:=by
 unfold ofV;rw [yB hj,List.foldl_append,gdE,gE hj];rfl
theorem z7o {Ls:List (List Int)} {i:Nat} (h:i<Ls.length):lfK Ls (i+1)=lfK Ls i++[((Ls.getD i []).length:Int) - 3]:=by
 unfold lfK;rw [yB h,List.map_append,gdE,gE h];rfl
theorem zWj (m:ReM) (pre:IBM) (e:(ETy.int .i64).T×ETy.bool.T):zRg m ((pre++[e]).map (·.1))=zAB y7 (zRg m (pre.map (·.1))) e.1 true:=by
 unfold zRg;rw [List.map_append,List.foldl_append];rfl
end
end S1
/- Code with ranges, constructor by constructor; what comes behind is a name that is not looked into: else the kernel compares whole programs. -/
namespace Go.Vm
section
variable {T:Tab} {SQ:zCv} {st:St} {K:Exit->St->Prop} {a b c:Code}
structure z5Z (T:Tab) (SQ:zCv) (b:Code) (K:Exit->St->Prop) (e:Exit) (t:St):Prop where
 out:match e with
  | .normal=>qC T SQ b t K
  | e=>K e t
structure z1w (id:Nat) (K:Exit->St->Prop) (e:Exit) (t:St):Prop where
 out:match e with
  | .exit i=>(match Nat.beq i id with|true=>K .normal t|false=>K (.exit i) t)
  | e=>K e t
structure z78 (K:Exit->St->Prop) (e:Exit) (t:St):Prop where
 out:match e with
  | .goto _=>False
  | e=>K e t
structure zOi {X:Type} (S:Spec X) (st:St) (x:X) (K:Exit->St->Prop) (e:Exit) (t:St):Prop where
 out:match e with
  | .normal=> ∃ y,S.inv y/\zOf t (S.head st y)/\S.mu y<S.mu x
  | e=>K e t
structure zZS (K:Exit->St->Prop) (e:Exit) (t:St):Prop where
 out:K e t
theorem zRH (h:qC T SQ b st K):z5Z T SQ b K .normal st:=⟨h⟩
theorem zRC {i:Nat} (h:K (.exit i) st):z5Z T SQ b K (.exit i) st:=⟨h⟩
theorem zQi (h:K .ret st):z5Z T SQ b K .ret st:=⟨h⟩
theorem zRj {id:Nat} (h:K .normal st):z1w id K .normal st:=⟨h⟩
theorem z1H {id i:Nat} (e:Nat.beq i id=true) (h:K .normal st):z1w id K (.exit i) st:=⟨by show (match Nat.beq i id with|true=>K .normal st|false=>K (.exit i) st);rw [e];exact h⟩
theorem z1c {id i:Nat} (e:Nat.beq i id=false) (h:K (.exit i) st):z1w id K (.exit i) st:=⟨by show (match Nat.beq i id with|true=>K .normal st|false=>K (.exit i) st);rw [e];exact h⟩
theorem z1d {id:Nat} (h:K .ret st):z1w id K .ret st:=⟨h⟩
theorem z16 (h:K .normal st):z78 K .normal st:=⟨h⟩
theorem z1v (h:K .ret st):z78 K .ret st:=⟨h⟩
theorem zLT {X:Type} {S:Spec X} {x:X} {t:St} (h: ∃ y,S.inv y/\zOf t (S.head st y)/\S.mu y<S.mu x):zOi S st x K .normal t:=⟨h⟩
theorem zMH {X:Type} {S:Spec X} {x:X} {t:St} {i:Nat} (h:K (.exit i) t):zOi S st x K (.exit i) t:=⟨h⟩
theorem zXI {X:Type} {S:Spec X} {x:X} {t:St} (h:K .ret t):zOi S st x K .ret t:=⟨h⟩
theorem zHZ {e:Exit} (h:K e st):zZS K e st:=⟨h⟩
theorem zTf:zZS K=K:=funext fun e=>funext fun s=>propext ⟨fun h=>h.out,fun h=>⟨h⟩⟩
theorem zNf {s:St} (h:s.forceAll (fun h=>zA5 T c h (zZS K))):s.forceAll (fun h=>zA5 T c h K):=by rw [zTf] at h;exact h
theorem z5l {SQ:zCv} {fn:Func} {args:List AV} {R:AV->Prop} (hb:fn.body=some c) (h:qC T SQ c (St.init args) (zZS (post T fn R))):zHO T SQ fn args R:=by
 rw [zTf] at h;unfold zHO;rw [hb];show (St.init args).forceAll _;rw [St.forceAll_eq];exact h
theorem z6j (hr:zY9 a b=none) (h:qC T SQ a st (z5Z T SQ b K)):qC T SQ (.seq a b) st K:=by
 unfold qC;rw [hr];exact (congrArg (qC T SQ a st) (funext fun e=>funext fun s=>propext (by cases e<;>exact ⟨fun h=>⟨h⟩,fun h=>h.out⟩)):qC T SQ a st _=qC T SQ a st (z5Z T SQ b K)).mpr h
theorem z6u {r:RM} (hr:zY9 a b=some r) (h:st.forceAll fun st=>z87 T r st K):qC T SQ (.seq a b) st K:=by
 rw [St.forceAll_eq] at h;unfold qC;rw [hr];exact h
theorem zUf {id:Nat} (h:qC T SQ c st (z1w id K)):qC T SQ (.block id c) st K:=by
 unfold qC;exact (congrArg (qC T SQ c st) (funext fun e=>funext fun s=>propext (by cases e<;>exact ⟨fun h=>⟨h⟩,fun h=>h.out⟩)):qC T SQ c st _=qC T SQ c st (z1w id K)).mpr h
theorem zWd (h:qC T SQ c st (z78 K)):qC T SQ (.scope c) st K:=by
 unfold qC;exact (congrArg (qC T SQ c st) (funext fun e=>funext fun s=>propext (by cases e<;>exact ⟨fun h=>⟨h⟩,fun h=>h.out⟩)):qC T SQ c st _=qC T SQ c st (z78 K)).mpr h
theorem zQ7 {i:Nat} {o:Array Oper} {d:Bool} (h:st.forceAll fun st=>zA5 T (.region i o d) st K):qC T SQ (.region i o d) st K:=by
 rw [St.forceAll_eq] at h;unfold qC;exact h
theorem z2C (h:K .normal st):qC T SQ .skip st K:=h
theorem zVF {l:Nat} (h:K .normal st):qC T SQ (.label l) st K:=h
theorem z1q {i:Nat} (h:K (.exit i) st):qC T SQ (.exit i) st K:=h
theorem z6C (h:K .ret st):qC T SQ .ret st K:=h
theorem z1O {x:Operand} (hr:(zB0 a|| zB0 b)=false) (h:st.forceAll fun st=>zA5 T (.cond x a b) st K):qC T SQ (.cond x a b) st K:=by
 rw [St.forceAll_eq] at h;unfold qC;rw [hr];exact h
theorem zWc {x:Operand} (hr:(zB0 a|| zB0 b)=true) (h:st.forceAll fun st=>match y6 st.env x with
 | .s (.bool t)=>BIf t (qC T SQ a st K) (qC T SQ b st K)
 | _=>False):qC T SQ (.cond x a b) st K:=by
 rw [St.forceAll_eq] at h;unfold qC;rw [hr];exact h
theorem z5V (hr:zB0 c=true) (X:Type) (S:Spec X) (x0:X) (hi:S.inv x0) (hl:zOf st (S.head st x0))
 (h: ∀ x,S.inv x->qC T SQ c (S.head st x) (zOi S st x K)):qC T SQ (.loop c) st K:=by
 unfold qC;rw [hr];refine ⟨X,S,⟨x0,hi,hl⟩,fun x hx=> ?_⟩;rw [St.forceAll_eq];exact (congrArg (qC T SQ c (S.head st x)) (funext fun e=>funext fun s=>propext (by cases e<;>exact ⟨fun h=>⟨h⟩,fun h=>h.out⟩)):qC T SQ c (S.head st x) _=qC T SQ c (S.head st x) (zOi S st x K)).mpr (h x hx)
end
end Go.Vm
