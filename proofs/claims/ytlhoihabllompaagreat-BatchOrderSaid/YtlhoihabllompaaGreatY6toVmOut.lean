/- A part of the proofs of the laws. -/
import Derived.Test.YtlhoihabllompaaGreatZ1ptoY5
import Derived.Test.YtlhoihabllompaaGreatT5toT11
import Derived.Test.YtlhoihabllompaaGreatH1toG1
import Derived.Test.YtlhoihabllompaaGreatVmRng3toF5
set_option linter.unusedSimpArgs false
set_option linter.unusedVariables false
set_option maxHeartbeats 8000000
set_option maxRecDepth 100000
open Go Go.Vm Go.Proofs
namespace S1
theorem z3J (x:yI.T) (a b:Int):zDV x a b=0\/zDV x a b=1\/zDV x a b=2\/zDV x a b=3\/zDV x a b=4:=by
 unfold zDV
 (repeat' split)<;>simp
theorem z2y {w:SoT} {a b:Int} (h:doE w a b=0):zBK w/\InN w.1 a/\InN w.1 b/\zDV (zAa w) a b=0/\a≠b:=by
 have hs:zBK w:=by
  apply yF;intro k;unfold doE at h;rw [if_neg (fun e=>k ((zB4 w).1 e))] at h;cases h
 rw [zIA hs] at h;split at h
 case isFalse=>cases h
 rename_i hr
 have h0:zDV (zAa w) a b=0:=by
  rcases z3J (zAa w) a b with e|e|e|e|e
  ·exact e
  all_goals (rw [e] at h;exact absurd h (by decide))
 refine ⟨hs,hr.1,hr.2,h0,fun e=> ?_⟩;subst e;rw [z4G (zCN (zAu hs).2.1.toGood a)] at h0;cases h0
theorem zWU {w s:SoT} {r:zAJ} {a b:Int} (h:doR w a b=(s,r,0)):Was w a b/\s=(w.1 - 1,drL a b w.2 w.2.length)/\r=zQm w a b/\zDV (zAa w) a b=0:=by
 have he:doE w a b=0:=by rw [<- zLI,h]
 rw [zSy he] at h;obtain ⟨h1,h2,h3,h4,h5⟩:=z2y he;have e1:=congrArg Prod.fst h;have e2:=congrArg (fun z=>z.2.1) h;exact ⟨⟨h1,h2,h3,h5⟩,e1.symm,e2.symm,h4⟩
theorem zLW {w s:SoT} {r:zAJ} {a b:Int} (h:doR w a b=(s,r,0)):bkR s r=(w,true)/\rbk s r=some w:=by
 obtain ⟨h1,h2,h3,_⟩:=zWU h;subst h2 h3;exact ⟨z6T h1,z4w h1⟩
theorem zZC {w s:SoT} {r:zAJ} {a b:Int} (h:doR w a b=(s,r,0)):zBK s:=by
 obtain ⟨h1,h2,h3,h4⟩:=zWU h;have:=zOM (zAu h1.surf).2.1 h1.surf h4;rw [h2,zXa];exact this
open Classical in
noncomputable def zBe (s:SoT) (r:zAJ):SoT×Int:=if h: ∃ w,doR w r.1 r.2.1=(s,r,0) then (Classical.choose h,0) else ((0,[]),if isR s=true then 3 else 11)
theorem zSW {w s:SoT} {r:zAJ} (h:doR w r.1 r.2.1=(s,r,0)):zBe s r=(w,0):=by
 have hh: ∃ w,doR w r.1 r.2.1=(s,r,0):=⟨w,h⟩;unfold zBe;rw [dif_pos hh];have k:=(zLW (Classical.choose_spec hh)).1;rw [(zLW h).1] at k;exact Prod.ext (congrArg (fun z=>z.1) k).symm rfl
theorem zQz {s:SoT} {r:zAJ} (h: ¬ ∃ w,doR w r.1 r.2.1=(s,r,0)):zBe s r=((0,[]),if isR s=true then 3 else 11):=by
 unfold zBe;rw [dif_neg h]
theorem zZa {s:SoT} {r:zAJ} (h:zHP s=none):zBe s r=((0,[]),11):=by
 have hn: ¬ isR s=true:=fun k=>by have:=(zAu ((zB4 s).1 k)).1;rw [h] at this;cases this
 rw [zQz (fun ⟨w,hw⟩=>hn ((zB4 s).2 (zZC hw))),if_neg hn]
theorem z4K {s:SoT} {r:zAJ} (hs:zBK s) (h: ∀ w,bkR s r=(w,true)->doR w r.1 r.2.1≠(s,r,0)):zBe s r=((0,[]),3):=by
 rw [zQz (fun ⟨w,hw⟩=>h w (zLW hw).1 hw),if_pos ((zB4 s).2 hs)]
def bkV (r:SoT×Bool):AV:= .tup [qP.av r.1,.s (.bool r.2)]
def bkW (s:SoT) (r:zAJ):AV:=if bkC s r/\kF (bkG r) (bkN s r)<=s.2.length/\zXx (bkN s r) r.2.2.2.2=true then bkV (bkR s r) else .tup [.agg [.int .i64 0,.val (.slice none 0 0)],.s (.bool false)]
theorem z3h {σ:Sig} {s:SoT} {r:zAJ} {v:Value} (h:y6 σ [] (bkW s r) v):y6 σ [] (bkV (bkR s r)) v:=by
 unfold bkW at h;split at h
 ·exact h
 ·rename_i hn;unfold bkR;rw [if_neg hn];obtain ⟨vs,e1,h⟩:=h
  match vs,h with
  | [x,y],⟨⟨ds,ea,h1⟩,h3⟩ =>
    refine ⟨_,e1,⟨ds,ea,?_⟩,h3⟩
    match ds,h1 with
    | [d1,d2],⟨k1,k2,k3⟩=>exact ⟨k1,zIo k2,k3⟩
def z5z (r:zAJ) (k:Nat):GoT:=z5K r.2.2.1 r.2.2.2.1 k
theorem z6b (r:zAJ):z5z r 0=[]:=rfl
theorem z6a (r:zAJ) (k:Nat):z5z r (k+1)=zAB (.int .i64) (z5z r k) (r.2.2.1.getD k 0) (r.2.2.2.1.getD k (0,0,0)):=rfl
theorem z2c (g:GoT) (T:List P3) (A:Int):zJp g T A 0=[]:=rfl
theorem z1k (g:GoT) (T:List P3) (A:Int) (i:Nat):zJp g T A (i+1)=zJp g T A i++[bkT g T A i]:=by
 unfold zJp;rw [List.range_succ,List.map_append];rfl
theorem zRl (g:GoT) (T:List P3) (A:Int) (i:Nat):(zJp g T A i).length=i:=by unfold zJp;simp
theorem zRL (A:Int) (fan:List Int) (o:List P3): ∀ j,(zSi A fan o j).length=o.length
 | 0=>rfl
 | j+1=>by
   show (zYZ A (zSi A fan o j) (fan.getD j 0)).length=_;unfold zYZ;rw [List.length_set];exact zRL A fan o j
theorem z7I (A:Int) (fan:List Int) (o:List P3) (j:Nat):zSi A fan o (j+1)=(zSi A fan o j).set ((fan.getD j 0).tdiv 3).toNat (z5u ((zSi A fan o j).getD ((fan.getD j 0).tdiv 3).toNat (0,0,0)) ((fan.getD j 0).tmod 3).toNat A):=rfl
def zX7 (r:zAJ):Spec Nat where
 inv i:=i<=r.2.2.1.length
 live i:=[(59,.s (.int .i64 i))]
 keep:=[2,3,4,5,6,7,57,58]
 heap i:=[(3,.map y8 .arr3 (z5z r i))]
 keepH:=[0,1,2]
 mu i:=r.2.2.1.length - i
def zUa (n:Int) (l:List P3) (r:zAJ):Spec Nat where
 inv i:=i<=bkN (n,l) r/\kF (bkG r) i<=l.length
 live i:=[(77,.s (.int .i64 i)),(11,.s (.int .i64 (kF (bkG r) i)))]
 keep:=[2,3,4,5,6,7,10,76]
 heap i:=[(4,.flat 24 [.int .i64 (n+1),.own 5 0 (zJp (bkG r) l r.1 i).length]),(5,.row .arr3 86 (zJp (bkG r) l r.1 i))]
 keepH:=[0,1,2,3]
 mu i:=bkN (n,l) r - i
 nils:=[4]
def zYK (n:Int) (l:List P3) (r:zAJ):Spec Nat where
 inv j:=j<=r.2.2.2.2.length/\∀ k,k<j->0<=r.2.2.2.2.getD k 0/\r.2.2.2.2.getD k 0<3*(bkN (n,l) r:Int)
 live j:=[(125,.s (.int .i64 j))]
 keep:=[2,3,4,5,6,7,10,11,123,124]
 heap j:=[(5,.row .arr3 86 (zSi r.1 r.2.2.2.2 (zJp (bkG r) l r.1 (bkN (n,l) r)) j))]
 keepH:=[0,1,2,3,4]
 mu j:=r.2.2.2.2.length - j
theorem zV0 {n:Nat} {fan:List Int} {k:Nat} (hk:k<fan.length) (h:fan.getD k 0<0\/fan.getD k 0>=3*(n:Int)): ¬ zXx n fan=true:=fun e=>by
 unfold zXx at e;have:=zJ.1 e _ (jB hk);rw [zP] at this;omega
theorem z04 {n:Nat} {fan:List Int} (h: ∀ k,k<fan.length->0<=fan.getD k 0/\fan.getD k 0<3*(n:Int)):zXx n fan=true:=by
 unfold zXx;rw [zJ];intro c hc;obtain ⟨i,hi,e⟩:=yG.1 hc;have:=h i hi;rw [gdE,gE hi] at this;have this:0<=fan[i]/\fan[i]<3*(n:Int):=this;rw [e] at this;rw [zP];exact this
theorem zSU {s:SoT} {r:zAJ} (h: ¬ (bkC s r/\kF (bkG r) (bkN s r)<=s.2.length/\zXx (bkN s r) r.2.2.2.2=true)):bkW s r= .tup [.agg [.int .i64 0,.val (.slice none 0 0)],.s (.bool false)]:=if_neg h
theorem z3H {s:SoT} {r:zAJ} (h:bkC s r/\kF (bkG r) (bkN s r)<=s.2.length/\zXx (bkN s r) r.2.2.2.2=true):bkW s r= .tup [qP.av (s.1+1,zSi r.1 r.2.2.2.2 (zJp (bkG r) s.2 r.1 (bkN s r)) r.2.2.2.2.length),.s (.bool (decide (kF (bkG r) (bkN s r)=s.2.length)))]:=by
 unfold bkW bkR;rw [if_pos h,if_pos h];rfl
theorem z2h {g:GoT} {j:Nat} (h:(jS (.int .i64) g (j:Int)).isSome=true):kF g (j+1)=kF g j:=by rw [z8T,if_pos h]
theorem zQ1 {g:GoT} {j:Nat} (h:(jS (.int .i64) g (j:Int)).isSome=false):kF g (j+1)=kF g j+1:=by rw [z8T,if_neg (by rw [h];simp)]
theorem zRM {g:GoT} {T:List P3} {A:Int} {j:Nat} (h:(jS (.int .i64) g (j:Int)).isSome=true):zJp g T A (j+1)=zJp g T A j++[(jS (.int .i64) g (j:Int)).getD (0,0,0)]:=by
 rw [z1k];unfold bkT;cases e:jS (.int .i64) g (j:Int) with
 | none=>rw [e] at h;cases h
 | some t=>rfl
theorem zOW {g:GoT} {T:List P3} {A:Int} {j:Nat} (h:(jS (.int .i64) g (j:Int)).isSome=false):zJp g T A (j+1)=zJp g T A j++[(upV A (T.getD (kF g j) (0,0,0)).1,upV A (T.getD (kF g j) (0,0,0)).2.1,upV A (T.getD (kF g j) (0,0,0)).2.2)]:=by
 rw [z1k];unfold bkT;cases e:jS (.int .i64) g (j:Int) with
 | none=>rfl
 | some t=>rw [e] at h;cases h
theorem zVH {A v:Int} (h:v>=A):upV A v=v+1:=if_pos h
theorem zVD {A v:Int} (h: ¬ v>=A):upV A v=v:=if_neg h
theorem zUk {n:Int} {l:List P3} {A B:Int} {at_:List Int} {ts:List P3} {fan:List Int} :bkC (n,l) (A,B,at_,ts,fan)↔at_.length=ts.length/\0<=A/\A<=n/\n<4096/\l.length+at_.length<=8192:=Iff.rfl
theorem z6L (A:Int) (fan:List Int) (o:List P3):zSi A fan o 0=o:=rfl
theorem z9m (g:GoT):kF g 0=0:=rfl
theorem z6U (A B:Int) (at_:List Int) (ts:List P3) (fan:List Int):z5z (A,B,at_,ts,fan) at_.length=bkG (A,B,at_,ts,fan):=rfl
attribute [local irreducible] bkW z5z kF zJp zSi bkG
theorem z3Y {fn} (n:Int) (l:List P3) (A B:Int) (at_:List Int) (ts:List P3) (fan:List Int) (hs:zBK (n,l)):zAG ⟨tyL,fn,[]⟩ Tryz.f106 [qP.av (n,l),zG3.av (A,B,at_,ts,fan)] (fun r=>r=bkW (n,l) (A,B,at_,ts,fan)):=by
 have hf:=hs.fit;have hn:0<=n/\n<=4096:=⟨hf.1,hf.2.1⟩;have hl:l.length<=8192:=hf.2.2.1
 repeat' (conv=>whnf
          first|done|refine qN ?_|apply qH|refine qG fun _=> ?_|apply qB|apply qa|apply qo|refine qe (fun _=> ?_) (fun _=> ?_)|refine qn (fun _=> ?_) (fun _=> ?_)|refine qd (fun _=> ?_) (fun _=> ?_)|apply qt|refine qi (fun _=> ?_) (fun _=> ?_)|(refine zaB 6 rfl (zX7 (A,B,at_,ts,fan)) (0) ?_ ?_ ?_ fun i hi=> ?_)|with_reducible refine zaA (zX7 _) (i+1) ?_ ?_ ?_ ?_|(refine qS 13 rfl ?_;refine Or.inr (zB (Nat) (zB (zUa n l (A,B,at_,ts,fan)) (zA (zB (0) (zA (yJ.out ?_) (zA ?_ (zA ?_ rfl)))) (fun j hj=> ?_)))))|with_reducible refine zaA (zUa _ _ _) (j+1) ?_ ?_ ?_ ?_|(refine qS 20 rfl ?_;refine Or.inl (zB (4) ?_))|(refine zaB 30 rfl (zYK n l (A,B,at_,ts,fan)) (0) ?_ ?_ ?_ fun k hk=> ?_)|with_reducible refine zaA (zYK _ _ _) (k+1) ?_ ?_ ?_ ?_|refine zA rfl ?_|apply qE|apply qO|exact zO|apply qq|apply qs|refine qK (by kernel_rfl) ?_|apply qr)
 all_goals try first|refine qz ?_|apply qz5
 all_goals try simp only [z6,zS,yE,zZ,qn1,z7,qn2,zX,ETy.dflt,qn3,qn4,Int.reduceToNat,Int.reduceAdd,Int.reduceSub,Int.reduceNeg,Nat.reduceAdd,zD,zX7,zUa,zYK] at *
 all_goals have eN:bkN (n,l) (A,B,at_,ts,fan)=l.length+at_.length:=rfl
 all_goals try exact y9.intro (zSU (fun k=>by have c:=zUk.1 k.1;omega)).symm
 all_goals try exact z6b _
 all_goals try exact z6a _ _
 all_goals try exact z2c _ _ _
 all_goals try exact z7I _ _ _ _
 all_goals try (rw [z9m];rfl)
 all_goals try (rw [z2c];exact jL.intro rfl)
 all_goals try (refine qh ?_;omega)
 all_goals try (rw [z9m];exact qh ⟨Nat.zero_le _,Nat.zero_le _⟩)
 all_goals have ei:i=at_.length:=by omega
 all_goals subst ei
 all_goals try simp only [z6U] at *
 all_goals have eO:(zJp (bkG (A,B,at_,ts,fan)) l A j).length=j:=zRl _ _ _ _
 all_goals have hj1:=hj.1
 all_goals rw [eN] at hj1
 all_goals have hj2:=hj.2
 all_goals try (refine qh ?_;rw [eO];omega)
 all_goals try (refine qh ?_;unfold yP;omega)
 all_goals try
  have hit:(jS (.int .i64) (bkG (A,B,at_,ts,fan)) (j:Int)).isSome=true:=by assumption
  first
  | (rw [z2h hit];refine yJ.intro (zA ?_ ?_)<;>omega)
  | (rw [z2h hit];done)
  | exact zRM hit
  | (rw [zRM hit];exact jL.intro (by rw [zN];rfl))
 all_goals try
  have miss:(jS (.int .i64) (bkG (A,B,at_,ts,fan)) (j:Int)).isSome=false:=by assumption
  have e1:((kF (bkG (A,B,at_,ts,fan)) j:Nat):Int)=(l.length:Int):=by assumption
  refine y9.intro (zSU (fun k=> ?_)).symm;have k2:kF (bkG (A,B,at_,ts,fan)) (bkN (n,l) (A,B,at_,ts,fan))<=l.length:=k.2.1;have k3:=zYC (bkG (A,B,at_,ts,fan)) (i:=j+1) (j:=bkN (n,l) (A,B,at_,ts,fan)) (by omega);rw [zQ1 miss] at k3;omega
 all_goals try
  have miss:(jS (.int .i64) (bkG (A,B,at_,ts,fan)) (j:Int)).isSome=false:=by assumption
  have e1:((kF (bkG (A,B,at_,ts,fan)) j:Nat):Int)≠(l.length:Int):=by assumption
  have hk:kF (bkG (A,B,at_,ts,fan)) j<l.length:=by omega
  have ht:(0<=(l.getD (kF (bkG (A,B,at_,ts,fan)) j) (0,0,0)).1/\(l.getD (kF (bkG (A,B,at_,ts,fan)) j) (0,0,0)).1<n)/\(0<=(l.getD (kF (bkG (A,B,at_,ts,fan)) j) (0,0,0)).2.1/\(l.getD (kF (bkG (A,B,at_,ts,fan)) j) (0,0,0)).2.1<n)/\(0<=(l.getD (kF (bkG (A,B,at_,ts,fan)) j) (0,0,0)).2.2/\(l.getD (kF (bkG (A,B,at_,ts,fan)) j) (0,0,0)).2.2<n):=zAH (hf.2.2.2 _ hk)
  first
  | (rw [zQ1 miss];refine yJ.intro (zA ?_ ?_)<;>omega)
  | (refine yJ.intro (zA ?_ ?_)<;>omega)
  | (refine qh ?_;unfold yP;omega)
  | (rw [zQ1 miss];exact Int.natCast_add _ _)
  | (rw [zOW miss];exact jL.intro (by rw [zN];rfl))
  | (rw [zOW miss]
     first|rw [zVH (v:=(l.getD (kF (bkG (A,B,at_,ts,fan)) j) (0,0,0)).1) (by assumption)]|rw [zVD (v:=(l.getD (kF (bkG (A,B,at_,ts,fan)) j) (0,0,0)).1) (by assumption)]
     first|rw [zVH (v:=(l.getD (kF (bkG (A,B,at_,ts,fan)) j) (0,0,0)).2.1) (by assumption)]|rw [zVD (v:=(l.getD (kF (bkG (A,B,at_,ts,fan)) j) (0,0,0)).2.1) (by assumption)]
     first|rw [zVH (v:=(l.getD (kF (bkG (A,B,at_,ts,fan)) j) (0,0,0)).2.2) (by assumption)]|rw [zVD (v:=(l.getD (kF (bkG (A,B,at_,ts,fan)) j) (0,0,0)).2.2) (by assumption)]
     rfl)
 all_goals have ej:j=l.length+at_.length:=by omega
 all_goals subst ej
 all_goals try exact z6L _ _ _
 all_goals try (refine yJ.intro (zA (Nat.zero_le _) ?_);intro k hk;omega)
 all_goals have hk2:=hk.2
 all_goals try
  have hkl:(k:Int)<fan.length:=by assumption
  have hkl:k<fan.length:=by omega
  first
  | exact y9.intro (zSU (fun q=>zV0 hkl (.inl (by assumption)) q.2.2)).symm
  | (have hge:fan.getD k 0>=3*((bkN (n,l) (A,B,at_,ts,fan):Nat):Int):=by rw [eN];omega
     exact y9.intro (zSU (fun q=>zV0 hkl (.inr hge) q.2.2)).symm)
 all_goals try
  have h0: ¬ fan.getD k 0<0:=by assumption
  have e3:(fan.getD k 0).tdiv 3=fan.getD k 0 / 3:=Int.tdiv_eq_ediv_of_nonneg (by omega);have e4:(fan.getD k 0).tmod 3=fan.getD k 0 % 3:=Int.tmod_eq_emod_of_nonneg (by omega);rw [eN] at hk2
  first
  | (rw [e3];refine yJ.intro (zA (by decide) ?_);unfold yP;omega)
  | (rw [e3];refine yJ.intro (zA ?_ ?_)<;>omega)
  | (rw [e4];refine yJ.intro (zA ?_ ?_)<;>omega)
  | (rw [eN]
     refine yJ.intro (zA ?_ ?_)
     ·omega
     ·intro q hq
      by_cases e:q=k
      ·subst e;omega
      ·have:=hk2 q (by omega);omega)
 all_goals
  have ek:k=fan.length:=by omega
  subst ek;have hC:bkC (n,l) (A,B,at_,ts,fan):=zUk.2 (by omega);have hF:zXx (bkN (n,l) (A,B,at_,ts,fan)) fan=true:=z04 hk2;refine y9.intro ?_;rw [z3H ⟨hC,by rw [eN];exact hj2,hF⟩];rw [List.drop_zero,List.take_of_length_le (by rw [zRL,zRl];rw [eO];exact zI _)]
  have e5:((kF (bkG (A,B,at_,ts,fan)) (l.length+at_.length):Int)==(l.length:Int))=decide (kF (bkG (A,B,at_,ts,fan)) (bkN (n,l) (A,B,at_,ts,fan))=l.length):=by
   rw [Bool.eq_iff_iff,beq_iff_eq,zP,eN];omega
  rw [e5];rfl
def backC:List AV->Option Res:=zCr qP zG3 (fun s r=>some (none,some (zBK s),bkV (bkR s r)))
theorem zXF:qM Tryz.prog 106 backC:=⟨jD fun s r q h=>by
 cases h
 exact zCn.res (qL (yN (fn:=[]) (fr:=[]) trivial trivial) Tryz.func106 (by kernel_rfl) fun _ h=>z3Y s.1 s.2 r.1 r.2.1 r.2.2.1 r.2.2.2.1 r.2.2.2.2 h) fun σ v h=>z3h h,_,Tryz.func106,by kernel_rfl,by kernel_rfl⟩
end S1
open Go Go.Vm Go.Proofs
namespace S1
theorem z15 (a b:Int) (l m:List P3):zAG ⟨tyL,[(140,zOQ)],[]⟩ Tryz.f107 [qP.av (a,l),qP.av (b,m)] (fun r=>r= .s (.bool (eqS (a,l) (b,m)))):=by
 repeat' (conv=>whnf
          first|done|refine qN ?_|apply qH|refine qG fun _=> ?_|apply qB|apply qa|apply qo|refine qe (fun _=> ?_) (fun _=> ?_)|refine qn (fun _=> ?_) (fun _=> ?_)|refine qd (fun _=> ?_) (fun _=> ?_)|apply qt|refine qi (fun _=> ?_) (fun _=> ?_)|refine zA rfl ?_|apply qE|apply qO|exact zO|apply qq|apply qs|refine qK (by kernel_rfl) ?_|apply qr)
 all_goals try first|refine qz ?_|apply qz5
 all_goals try simp only [z6,zS,yE,zZ,qn1,z7,qn2,zX,ETy.dflt,qn3,qn4,Int.reduceToNat,Int.reduceAdd,Int.reduceSub,Int.reduceNeg,Nat.reduceAdd,zD,eqS,eqR] at *
 ·rename_i h;subst h;rw [decide_eq_decide];exact ⟨fun e=>by rw [e],fun e=>congrArg Prod.snd e⟩
 ·rename_i h;symm;rw [yM];exact fun e=>h (congrArg Prod.fst e)
def zNT:List AV->Option Res:=zCr qP qP (fun a b=>some (none,none,.s (.bool (eqS a b))))
theorem zQi:qM Tryz.prog 107 zNT:=⟨jD fun a b r h=>by cases h;exact qL (yN (fn:=[(140,zOQ)]) (fr:=[]) ⟨zQq,trivial⟩ trivial) Tryz.func107 (by kernel_rfl) fun _ _=>z15 a.1 b.1 a.2 b.2,_,Tryz.func107,by kernel_rfl,by kernel_rfl⟩
def zF7 (a b:zAJ):Bool:=decide (a.1=b.1)&&(decide (a.2.1=b.2.1)&&(eqL a.2.2.1 b.2.2.1&&(eqR a.2.2.2.1 b.2.2.2.1&&eqL a.2.2.2.2 b.2.2.2.2)))
theorem zFZ {a b:zAJ} :zF7 a b=true↔a=b:=by
 unfold zF7 eqL eqR;simp only [zC,zP];exact ⟨fun ⟨h1,h2,h3,h4,h5⟩=>Prod.ext h1 (Prod.ext h2 (Prod.ext h3 (Prod.ext h4 h5))),fun h=>by subst h;exact ⟨rfl,rfl,rfl,rfl,rfl⟩⟩
theorem z0t (a1 b1 a2 b2:Int) (t1 f1 t2 f2:List Int) (r1 r2:List P3):zAG ⟨tyL,[(140,zOQ),(141,zPU)],[]⟩ Tryz.f108 [zG3.av (a1,b1,t1,r1,f1),zG3.av (a2,b2,t2,r2,f2)] (fun r=>r= .s (.bool (zF7 (a1,b1,t1,r1,f1) (a2,b2,t2,r2,f2)))):=by
 repeat' (conv=>whnf
          first|done|refine qN ?_|apply qH|refine qG fun _=> ?_|apply qB|apply qa|apply qo|refine qe (fun _=> ?_) (fun _=> ?_)|refine qn (fun _=> ?_) (fun _=> ?_)|refine qd (fun _=> ?_) (fun _=> ?_)|apply qt|refine qi (fun _=> ?_) (fun _=> ?_)|refine zA rfl ?_|apply qE|apply qO|exact zO|apply qq|apply qs|refine qK (by kernel_rfl) ?_|apply qr)
 all_goals try first|refine qz ?_|apply qz5
 all_goals try simp only [z6,zS,yE,zZ,qn1,z7,qn2,zX,ETy.dflt,qn3,qn4,Int.reduceToNat,Int.reduceAdd,Int.reduceSub,Int.reduceNeg,Nat.reduceAdd,zD] at *
 all_goals
  rw [Bool.eq_iff_iff,zFZ]
  try unfold eqL
  simp only [zP,yM,Prod.mk.injEq,Bool.false_eq_true,false_iff] at *;simp [*]
def zOT:List AV->Option Res:=zCr zG3 zG3 (fun a b=>some (none,none,.s (.bool (zF7 a b))))
theorem zRc:qM Tryz.prog 108 zOT:=⟨jD fun a b r h=>by
 cases h;exact qL (yN (fn:=[(140,zOQ),(141,zPU)]) (fr:=[]) ⟨zQq,zU1,trivial⟩ trivial) Tryz.func108 (by kernel_rfl) fun _ _=>z0t a.1 a.2.1 b.1 b.2.1 a.2.2.1 a.2.2.2.2 b.2.2.1 b.2.2.2.2 a.2.2.2.1 b.2.2.2.1,_,Tryz.func108,by kernel_rfl,by kernel_rfl⟩
def zS4 (r:SoT×Int):AV:= .tup [qP.av r.1,.s (.int .i64 r.2)]
def zMr (r:SoT×Int):AV:=if r.2=0 then zS4 r else .tup [.agg [.int .i64 0,.val (.slice none 0 0)],.s (.int .i64 r.2)]
theorem z0H (s:SoT) (r:zAJ) (h:(zBe s r).2≠0):(zBe s r).1=(0,[]):=by
 unfold zBe at *;split
 ·rename_i hh;rw [dif_pos hh] at h;exact absurd rfl h
 ·rfl
theorem zNp {σ:Sig} {s:SoT} {r:zAJ} {v:Value} (h:y6 σ [] (zMr (zBe s r)) v):y6 σ [] (zS4 (zBe s r)) v:=by
 unfold zMr at h;split at h
 ·exact h
 ·rename_i hn;have e:=z0H s r hn;obtain ⟨vs,e1,h⟩:=h;unfold zS4;rw [e]
  match vs,h with
  | [x,y],⟨⟨ds,ea,h1⟩,h3⟩ =>
    refine ⟨_,e1,⟨ds,ea,?_⟩,h3⟩
    match ds,h1 with
    | [d1,d2],⟨k1,k2,k3⟩=>exact ⟨k1,zIo k2,k3⟩
theorem z5c {s:SoT} {r:zAJ} (hs:zBK s) (h: ∀ w,bkR s r=(w,true)->doR w r.1 r.2.1≠(s,r,0)):zMr (zBe s r)= .tup [.agg [.int .i64 0,.val (.slice none 0 0)],.s (.int .i64 3)]:=by
 rw [z4K hs h];rfl
theorem z0I {s:SoT} {r:zAJ} (h:zHP s=none):zMr (zBe s r)= .tup [.agg [.int .i64 0,.val (.slice none 0 0)],.s (.int .i64 11)]:=by
 rw [zZa h];rfl
theorem z3j {s w:SoT} {r:zAJ} (h:doR w r.1 r.2.1=(s,r,0)):zMr (zBe s r)= .tup [qP.av w,.s (.int .i64 0)]:=by
 rw [zSW h];rfl
theorem zYS {a b:SoT} :eqS a b=true↔a=b:=by unfold eqS;exact decide_eq_true_iff
theorem zHy (a:SoT):eqS a a=true:=zYS.2 rfl
theorem zMq (a:zAJ):zF7 a a=true:=zFZ.2 rfl
attribute [local irreducible] zMr bkR doR eqS zF7 zD4
theorem z0w (n:Int) (l:List P3) (A B:Int) (at_:List Int) (ts:List P3) (fan:List Int) (x:yI.T) (hx:zHP (n,l)=some x):zAG ⟨tyL,[(54,zKs x),(100,zMX),(106,backC),(65,z5p),(107,zNT),(108,zOT)],[]⟩ Tryz.f68 [qP.av (n,l),zG3.av (A,B,at_,ts,fan)] (fun v=>v=zMr (zBe (n,l) (A,B,at_,ts,fan))):=by
 obtain ⟨e0,g,hs⟩:=zHj hx
 repeat' (conv=>whnf
          first|done|refine qN ?_|apply qH|refine qG fun _=> ?_|apply qB|apply qa|apply qo|refine qe (fun _=> ?_) (fun _=> ?_)|refine qn (fun _=> ?_) (fun _=> ?_)|refine qd (fun _=> ?_) (fun _=> ?_)|apply qt|refine qi (fun _=> ?_) (fun _=> ?_)|refine zA rfl ?_|apply qE|apply qO|exact zO|apply qq|apply qs|refine qK (by kernel_rfl) ?_|apply qr)
 all_goals try first|refine qz ?_|apply qz5
 all_goals try simp only [z6,zS,yE,zZ,qn1,z7,qn2,zX,ETy.dflt,qn3,qn4,Int.reduceToNat,Int.reduceAdd,Int.reduceSub,Int.reduceNeg,Nat.reduceAdd,zD] at *
 all_goals try exact absurd (zND hs) (by rw [show zD4 (n,l)=false by assumption];decide)
 all_goals try
  refine y9.intro (z5c hs (fun w hw hd=> ?_)).symm;have hd:doR w A B=((n,l),(A,B,at_,ts,fan),0):=hd;simp only [hw,hd,zHy,zMq,ne_eq,not_true_eq_false,Bool.true_eq_false,reduceCtorEq] at *
  done
 all_goals
  have h3:(doR (bkR (n,l) (A,B,at_,ts,fan)).1 A B).2.2=0:=by assumption
  have h1:eqS (doR (bkR (n,l) (A,B,at_,ts,fan)).1 A B).1 (n,l)=true:=by assumption
  have h2:zF7 (doR (bkR (n,l) (A,B,at_,ts,fan)).1 A B).2.1 (A,B,at_,ts,fan)=true:=by assumption
  have h:doR (bkR (n,l) (A,B,at_,ts,fan)).1 A B=((n,l),(A,B,at_,ts,fan),0):=Prod.ext (zYS.1 h1) (Prod.ext (zFZ.1 h2) h3);exact y9.intro (z3j h).symm
theorem zXy (n:Int) (l:List P3) (r:zAJ) (hx:zHP (n,l)=none):zAG ⟨tyL,[(54,zVC),(100,zMX),(106,backC),(65,z5p),(107,zNT),(108,zOT)],[]⟩ Tryz.f68 [qP.av (n,l),zG3.av r] (fun v=>v=zMr (zBe (n,l) r)):=by
 have e:=z0I (r:=r) hx
 repeat' (conv=>whnf
          first|done|refine qN ?_|apply qH|refine qG fun _=> ?_|apply qB|apply qa|apply qo|refine qe (fun _=> ?_) (fun _=> ?_)|refine qn (fun _=> ?_) (fun _=> ?_)|refine qd (fun _=> ?_) (fun _=> ?_)|apply qt|refine qi (fun _=> ?_) (fun _=> ?_)|refine zA rfl ?_|apply qE|apply qO|exact zO|apply qq|apply qs|refine qK (by kernel_rfl) ?_|apply qr)
 all_goals try first|refine qz ?_|apply qz5
 all_goals try simp only [z6,zS,yE,zZ,qn1,z7,qn2,zX,ETy.dflt,qn3,qn4,Int.reduceToNat,Int.reduceAdd,Int.reduceSub,Int.reduceNeg,Nat.reduceAdd,zD] at *
 all_goals try exact qh hx
 all_goals exact y9.intro e.symm
noncomputable def zWc:List AV->Option Res:=zCr qP zG3 (fun s r=>some (none,none,zS4 (zBe s r)))
theorem zYz:qM Tryz.prog 68 zWc:=⟨jD fun s r q h=>by
 cases h;cases e:zHP s with
 | none=>exact zCn.res (qL (yN (fn:=[(54,zVC),(100,zMX),(106,backC),(65,z5p),(107,zNT),(108,zOT)]) (fr:=[]) ⟨zXB,zL5,zXF,zVA,zQi,zRc,trivial⟩ trivial) Tryz.func68 (by kernel_rfl) fun _ _=>zXy s.1 s.2 r e) fun σ v h=>zNp h
 | some x=>exact zCn.res (qL (yN (fn:=[(54,zKs x),(100,zMX),(106,backC),(65,z5p),(107,zNT),(108,zOT)]) (fr:=[]) ⟨(zMB x),zL5,zXF,zVA,zQi,zRc,trivial⟩ trivial) Tryz.func68 (by kernel_rfl) fun _ _=>z0w s.1 s.2 r.1 r.2.1 r.2.2.1 r.2.2.2.1 r.2.2.2.2 x e) fun σ v h=>zNp h,_,Tryz.func68,by kernel_rfl,by kernel_rfl⟩
end S1
open Go Go.Vm Go.Proofs
namespace S1
def zTY (v:Int):List (Int×Int)->Int
 | []=> -1
 | e::r=>if e.2=v then e.1 else zTY v r
def z1m (x:yI.T) (v:Int):Int:=zTY v (zLv x)
def zVq (L:List (Int×Int)) (v:Int):Spec Nat where
 inv k:=k<=L.length/\zTY v L=zTY v (L.drop k)
 live k:=[(10,.s (.int .i64 k))]
 keep:=[1,8,9]
 heap _:=[]
 keepH:=[]
 mu k:=L.length - k
theorem zNb {l:List (Int×Int)} {x:Nat} (h:x<l.length):l.drop x=l.getD x (0,0)::l.drop (x+1):=by
 rw [List.drop_eq_getElem_cons h,gdE,gE h];rfl
attribute [local irreducible] zLv zTY
theorem zX3 (x:yI.T) (v:Int) (g:Good x):zAG ⟨tyL,[(99,zIq)],[]⟩ Tryz.f63 [(ETy.pt yI).av (some x),y8.av v] (fun r=>r= .s (.int .i64 (z1m x v))):=by
 repeat' (conv=>whnf
          first|done|refine qN ?_|apply qH|refine qG fun _=> ?_|apply qB|apply qa|apply qo|refine qe (fun _=> ?_) (fun _=> ?_)|refine qn (fun _=> ?_) (fun _=> ?_)|refine qd (fun _=> ?_) (fun _=> ?_)|apply qt|refine qi (fun _=> ?_) (fun _=> ?_)|(refine zaB 2 rfl (zVq (zLv x) v) (0) ?_ ?_ ?_ fun k hk=> ?_)|with_reducible refine zaA (zVq _ _) (k+1) ?_ ?_ ?_ ?_|refine zA rfl ?_|apply qE|apply qO|exact zO|apply qq|apply qs|refine qK (by kernel_rfl) ?_|apply qr)
 all_goals try first|refine qz ?_|apply qz5
 all_goals try simp only [z6,zS,yE,zZ,qn1,z7,qn2,zX,ETy.dflt,qn3,qn4,Int.reduceToNat,Int.reduceAdd,Int.reduceSub,Int.reduceNeg,Nat.reduceAdd,zD,zVq,z1m] at *
 ·exact qh (fun y h=>by cases h;exact g)
 ·exact qh ⟨Nat.zero_le _,by rw [List.drop_zero]⟩
 all_goals try have hk1:k<(zLv x).length:=Int.ofNat_lt.1 (by assumption)
 ·have h:((zLv x).getD k (0,0)).2=v:=by assumption
  rw [hk.2,zNb hk1];unfold zTY;rw [if_pos h];rfl
 ·have h:((zLv x).getD k (0,0)).2≠v:=by assumption
  refine yJ.intro ⟨hk1,?_⟩;rw [hk.2,zNb hk1];conv=>lhs;unfold zTY
  rw [if_neg h]
 ·refine qh ?_;omega
 ·have h: ¬ (k:Int)<(zLv x).length:=by assumption
  rw [hk.2,List.drop_eq_nil_of_le (by omega)];unfold zTY;rfl
theorem zTS (v:Int):zAG ⟨tyL,[(99,zIq)],[]⟩ Tryz.f63 [(ETy.pt yI).av none,y8.av v] (fun r=>r= .s (.int .i64 (-1))):=by
 repeat' (conv=>whnf
          first|done|refine qN ?_|apply qH|refine qG fun _=> ?_|apply qB|apply qa|apply qo|refine qe (fun _=> ?_) (fun _=> ?_)|refine qn (fun _=> ?_) (fun _=> ?_)|refine qd (fun _=> ?_) (fun _=> ?_)|apply qt|refine qi (fun _=> ?_) (fun _=> ?_)|(refine qS 2 rfl ?_;refine Or.inl (zB (1) ?_))|refine zA rfl ?_|apply qE|apply qO|exact zO|apply qq|apply qs|refine qK (by kernel_rfl) ?_|apply qr)
 all_goals try first|refine qz ?_|apply qz5
 all_goals try simp only [z6,zS,yE,zZ,qn1,z7,qn2,zX,ETy.dflt,qn3,qn4,Int.reduceToNat,Int.reduceAdd,Int.reduceSub,Int.reduceNeg,Nat.reduceAdd,zD] at *
 all_goals try exact qh (fun y h=>by cases h)
 all_goals try rfl
 all_goals exact absurd (show (0:Int)<(0:Nat) by assumption) (by decide)
def zYk:List AV->Option Res:=zCr (.pt yI) y8 (fun o v=>some (none,some (∀ x,o=some x->Good x),.s (.int .i64 (match o with|some x=>z1m x v|none=> -1))))
theorem zVp:qM Tryz.prog 63 zYk:=⟨jD fun o v r h=>by
 cases h;cases o with
 | none=>exact qL (yN (fn:=[(99,zIq)]) (fr:=[]) ⟨zLe,trivial⟩ trivial) Tryz.func63 (by kernel_rfl) fun _ _=>zTS v
 | some x=>exact qL (yN (fn:=[(99,zIq)]) (fr:=[]) ⟨zLe,trivial⟩ trivial) Tryz.func63 (by kernel_rfl) fun _ h=>zX3 x v (h x rfl),_,Tryz.func63,by kernel_rfl,by kernel_rfl⟩
def zAV:List zAJ->Int->Int
 | [],v=>v
 | r::l,v=>if zJs v r.1 r.2.1<0 then -1 else zAV l (zJs v r.1 r.2.1)
def zOr:zAJ:=(0,0,[],[],[])
def nwK (R:List zAJ) (v:Int):Nat->Int
 | 0=>v
 | k+1=>zJs (nwK R v k) (R.getD k zOr).1 (R.getD k zOr).2.1
theorem zNV {l:List zAJ} {x:Nat} (h:x<l.length):l.drop x=l.getD x zOr::l.drop (x+1):=by
 rw [List.drop_eq_getElem_cons h,gdE,gE h];rfl
theorem zOn {R:List zAJ} {k:Nat} (h:k<R.length):R.getD k zOr∈R:=by
 rw [gdE,gE h];exact yQ h
theorem z3L {v a b:Int} (hv:v<=1000000) (hb:b<=1000000):zJs v a b<=1000000:=by
 unfold zJs
 (repeat' split)<;>omega
def okR (R:List zAJ):Prop:= ∀ r∈R,-1000000<=r.2.1/\r.2.1<=1000000
def zYr (R:List zAJ) (v:Int):Spec Nat where
 inv k:=k<=R.length/\zAV R v=zAV (R.drop k) (nwK R v k)/\(-1000000<=nwK R v k/\nwK R v k<=1000000)
 live k:=[(0,.s (.int .i64 (nwK R v k))),(9,.s (.int .i64 k))]
 keep:=[7,8]
 heap _:=[]
 keepH:=[]
 mu k:=R.length - k
attribute [local irreducible] zJs zAV nwK
theorem z7A (R:List zAJ) (v:Int) (hR:okR R) (hv: -1000000<=v/\v<=1000000):zAG ⟨tyL,[(104,zPo)],[]⟩ Tryz.f66 [y8.av v,(ETy.sl zG3).av R] (fun r=>r= .s (.int .i64 (zAV R v))):=by
 repeat' (conv=>whnf
          first|done|refine qN ?_|apply qH|refine qG fun _=> ?_|apply qB|apply qa|apply qo|refine qe (fun _=> ?_) (fun _=> ?_)|refine qn (fun _=> ?_) (fun _=> ?_)|refine qd (fun _=> ?_) (fun _=> ?_)|apply qt|refine qi (fun _=> ?_) (fun _=> ?_)|(refine zaB 2 rfl (zYr R v) (0) ?_ ?_ ?_ fun k hk=> ?_)|with_reducible refine zaA (zYr _ _) (k+1) ?_ ?_ ?_ ?_|refine zA rfl ?_|apply qE|apply qO|exact zO|apply qq|apply qs|refine qK (by kernel_rfl) ?_|apply qr)
 all_goals try first|refine qz ?_|apply qz5
 all_goals try simp only [z6,zS,yE,zZ,qn1,z7,qn2,zX,ETy.dflt,qn3,qn4,Int.reduceToNat,Int.reduceAdd,Int.reduceSub,Int.reduceNeg,Nat.reduceAdd,zD,zYr] at *
 ·refine yJ.intro ⟨Nat.zero_le _,by rw [List.drop_zero];unfold nwK;rfl,?_⟩;unfold nwK;exact hv
 ·unfold nwK;rfl
 all_goals try have hk1:k<R.length:=Int.ofNat_lt.1 (by assumption)
 ·exact qh ⟨hk.2.2,hR _ (zOn hk1)⟩
 ·have h:zJs (nwK R v k) (R.getD k zOr).1 (R.getD k zOr).2.1<0:=by assumption
  rw [hk.2.1,zNV hk1];unfold zAV;rw [if_pos h]
 ·have h: ¬ zJs (nwK R v k) (R.getD k zOr).1 (R.getD k zOr).2.1<0:=by assumption
  have e:nwK R v (k+1)=zJs (nwK R v k) (R.getD k zOr).1 (R.getD k zOr).2.1:=by conv=>lhs;unfold nwK
  have hb:=z3L (a:=(R.getD k zOr).1) hk.2.2.2 (hR _ (zOn hk1)).2;refine yJ.intro ⟨hk1,?_,by rw [e];exact ⟨by omega,hb⟩⟩;rw [hk.2.1,zNV hk1,e];conv=>lhs;unfold zAV
  rw [if_neg h]
 ·conv=>lhs;unfold nwK
  rfl
 ·refine qh ?_;omega
 ·have h: ¬ (k:Int)<R.length:=by assumption
  rw [hk.2.1,List.drop_eq_nil_of_le (by omega)];unfold zAV;rfl
def z60:List AV->Option Res:=zCr y8 (.sl zG3) (fun (v:Int) (R:List zAJ)=>some (none,some ((-1000000<=v/\v<=1000000)/\okR R),.s (.int .i64 (zAV R v))))
theorem z2u:qM Tryz.prog 66 z60:=⟨jD fun v R r h=>by
 cases h;exact qL (yN (fn:=[(104,zPo)]) (fr:=[]) ⟨zPh,trivial⟩ trivial) Tryz.func66 (by kernel_rfl) fun _ h=>z7A R v h.2 h.1,_,Tryz.func66,by kernel_rfl,by kernel_rfl⟩
def imL (R:List zAJ) (k:Nat):List Int:=(List.range k).map fun (v:Nat)=>zAV R v
def zYl (n:Int) (R:List zAJ):Int:=if n<0\/n>4096 then 2 else if (imL R n.toNat).all (fun v=>decide (0<=v))=true then 0 else 3
def zNy (n:Int) (R:List zAJ):List Int×Int:=if zYl n R=0 then (imL R n.toNat,0) else ([],zYl n R)
def z9B (r:List Int×Int):AV:= .tup [.s (.sl y8 r.1),.s (.int .i64 r.2)]
theorem z99 (R:List zAJ) (k:Nat):imL R (k+1)=imL R k++[zAV R k]:=by
 unfold imL;rw [List.range_succ,List.map_append];rfl
theorem zJ1 (R:List zAJ) (k:Nat):(imL R k).length=k:=by unfold imL;rw [yV,zAD]
theorem z1S {n:Int} {R:List zAJ} {k:Nat} (hn: ¬ (n<0\/n>4096)) (hk:(k:Int)<n) (h:zAV R k<0):zYl n R=3:=by
 unfold zYl;rw [if_neg hn,if_neg];intro c;have:=zJ.1 c (zAV R k) (yC.2 ⟨k,zV.2 (by omega),rfl⟩);rw [zP] at this;omega
theorem zYL {n:Int} {R:List zAJ} (hn: ¬ (n<0\/n>4096)) (h: ∀ k,k<n.toNat->0<=zAV R k):zYl n R=0:=by
 unfold zYl;rw [if_neg hn,if_pos];refine zJ.2 fun v hv=> ?_;obtain ⟨k,hk,rfl⟩:=yC.1 hv;rw [zP];exact h k (zV.1 hk)
def zYu (n:Int) (R:List zAJ):Spec Nat where
 inv k:=k<=n.toNat/\∀ j,j<k->0<=zAV R j
 live k:=[(16,.s (.int .i64 k)),(6,.s (.own 1 0 (imL R k).length))]
 keep:=[1,15]
 heap k:=[(1,.row y8 3 (imL R k))]
 keepH:=[0]
 mu k:=n.toNat - k
attribute [local irreducible] zYl imL zNy
theorem zZB (n:Int) (R:List zAJ) (hR:okR R):zAG ⟨tyL,[(66,z60)],[]⟩ Tryz.f32 [y8.av n,(ETy.sl zG3).av R] (fun r=>r=z9B (zNy n R)):=by
 repeat' (conv=>whnf
          first|done|refine qN ?_|apply qH|refine qG fun _=> ?_|apply qB|apply qa|apply qo|refine qe (fun _=> ?_) (fun _=> ?_)|refine qn (fun _=> ?_) (fun _=> ?_)|refine qd (fun _=> ?_) (fun _=> ?_)|apply qt|refine qi (fun _=> ?_) (fun _=> ?_)|(refine zaB 5 rfl (zYu n R) (0) ?_ ?_ ?_ fun k hk=> ?_)|with_reducible refine zaA (zYu _ _) (k+1) ?_ ?_ ?_ ?_|refine zA rfl ?_|apply qE|apply qO|exact zO|apply qq|apply qs|refine qK (by kernel_rfl) ?_|apply qr)
 all_goals try first|refine qz ?_|apply qz5
 all_goals try simp only [z6,zS,yE,zZ,qn1,z7,qn2,zX,ETy.dflt,qn3,qn4,Int.reduceToNat,Int.reduceAdd,Int.reduceSub,Int.reduceNeg,Nat.reduceAdd,zD,zYu] at *
 all_goals have e2: ∀ e,zYl n R=e->e≠0->z9B (zNy n R)= .tup [.s (.sl y8 []),.s (.int .i64 e)]:=fun e h he=>by
            unfold zNy;rw [if_neg (by rw [h];exact he),h];rfl
 ·refine y9.intro (e2 2 ?_ (by decide)).symm;unfold zYl;exact if_pos (.inl (by assumption))
 ·refine y9.intro (e2 2 ?_ (by decide)).symm;unfold zYl;exact if_pos (.inr (by assumption))
 ·exact qh ⟨Nat.zero_le _,fun j hj=>absurd hj (Nat.not_lt_zero _)⟩
 ·exact zJ1 R 0
 ·unfold imL;rfl
 ·refine yJ.intro ⟨?_,hR⟩;omega
 ·exact y9.intro (e2 3 (z1S (by omega) (by assumption) (by assumption)) (by decide)).symm
 ·have:=zJ1 R k;refine qh ?_;omega
 ·refine yJ.intro ⟨by omega,fun j hj=> ?_⟩
  by_cases e:j=k
  ·subst e;omega
  ·exact hk.2 j (by omega)
 ·rw [zJ1,zJ1]
 ·exact z99 R k
 ·refine qh ?_;omega
 ·have e:k=n.toNat:=by omega
  subst e;have h0:=zYL (n:=n) (R:=R) (by omega) hk.2;refine y9.intro ?_;unfold zNy;rw [if_pos h0];rfl
def zU8:List AV->Option Res:=zCr y8 (.sl zG3) (fun (n:Int) (R:List zAJ)=>some (none,some (okR R),z9B (zNy n R)))
theorem zZo:qM Tryz.prog 32 zU8:=⟨jD fun n R r h=>by
 cases h;exact qL (yN (fn:=[(66,z60)]) (fr:=[]) ⟨z2u,trivial⟩ trivial) Tryz.func32 (by kernel_rfl) fun _ h=>zZB n R h,_,Tryz.func32,by kernel_rfl,by kernel_rfl⟩
end S1
open Go Go.Vm Go.Proofs
namespace S1
def ofV (m:NxM) (i:Int) (L:List Int):NxM:=L.foldl (fun m v=>zAB (.int .i64) m v i) m
def ofK (Ls:List (List Int)):Nat->NxM
 | 0=>[]
 | i+1=>ofV (ofK Ls i) i (Ls.getD i [])
def lfK (Ls:List (List Int)) (i:Nat):List Int:=(Ls.take i).map fun L=>(L.length:Int) - 3
theorem zUZ: ∀ (L:List Int) (m:NxM) (i u:Int),jS y8 (ofV m i L) u=if u∈L then some i else jS y8 m u
 | [],m,i,u=>by rw [if_neg (by simp)];rfl
 | a ::r,m,i,u=>by
   show jS y8 (ofV (zAB y8 m a i) i r) u=_;rw [zUZ r]
   by_cases h:u∈r
   ·rw [if_pos h,if_pos (zQ _ h)]
   ·rw [if_neg h]
    by_cases e:a=u
    ·subst e;rw [zAT,if_pos (zY ..)]
    ·rw [zA4 _ e,if_neg];intro k;rcases zT.1 k with k|k
     ·exact e k.symm
     ·exact h k
theorem zMA {Ls:List (List Int)} (hn:Ls.flatten.Nodup) {i:Nat} {u:Int} (hu:u∈Ls.getD i []): ∀ k,i<k->k<=Ls.length->jS y8 (ofK Ls k) u=some (i:Int)
 | 0,h,_=>absurd h (Nat.not_lt_zero _)
 | k +1,h,hk=>by
   show jS y8 (ofV (ofK Ls k) k (Ls.getD k [])) u=_;rw [zUZ]
   by_cases e:i=k
   ·subst e;rw [if_pos hu]
   ·rw [if_neg,zMA hn hu k (by omega) (by omega)];intro hk2
    -- u lies in two loops
    have hi:i<Ls.length:=by omega
    have hkl:k<Ls.length:=by omega
    have gi:Ls.getD i []=Ls[i]:=by rw [gdE,gE hi];rfl
    have gk:Ls.getD k []=Ls[k]:=by rw [gdE,gE hkl];rfl
    rw [gi] at hu;rw [gk] at hk2;have hp:=flat_pair hn;have:=List.pairwise_iff_getElem.1 hp;rcases Nat.lt_or_gt_of_ne e with q|q
    ·exact this i k hi hkl q u hu hk2
    ·exact this k i hkl hi q u hk2 hu
where
 flat_pair: ∀ {Ls:List (List Int)},Ls.flatten.Nodup->Ls.Pairwise (fun a b=> ∀ x∈a,x∉b)
  | [],_=>List.Pairwise.nil
  | a::r,hn=>by
    rw [List.flatten_cons,List.nodup_append] at hn;exact List.pairwise_cons.2 ⟨fun b hb x hx hxb=>hn.2.2 x hx x (List.mem_flatten.2 ⟨b,hb,hxb⟩) rfl,flat_pair hn.2.1⟩
open Classical in
noncomputable def z6B (x:yI.T) (C:List (Int×Int)) (i:Nat):Nat:=(C.filter fun c=>decide (zJJ x c/\c.1∈(qW x).getD i [])).length
structure zFA (x:yI.T) (l:List (Int×Int)) (k:Nat) (u:ReM) (f:List Int):Prop where
 used: ∀ n,had u n=true↔∃ c∈chK x l k,zHO x c n
 len:f.length=(qW x).length
 left: ∀ i,i<(qW x).length->f.getD i 0=((qW x).getD i []).length - 3 - (z6B x (chK x l k) i:Int)
theorem z27 {x:yI.T} (g:Full x) {w u:Int} (h:bE x w u):z1m x u=w:=by
 have key: ∀ l:List (Int×Int),(∀ e∈l,bE x e.1 e.2)->(w,u)∈l->zTY u l=w:=fun l=>by
  induction l with
  | nil=>intro _ k;cases k
  | cons e r ih =>
    intro ha k;unfold zTY;split
    ·rename_i h2;have:=ha e (zY ..);rw [h2] at this;exact zWo g this h
    ·rename_i h2;refine ih (fun e he=>ha e (zQ _ he)) ((zT.1 k).resolve_left fun q=>h2 ?_);rw [<- q]
 exact key _ (fun e he=>zGJ.1 he) (zGJ.2 h)
theorem z2l {x:yI.T} {w u:Int} (h:z1m x u=w) (hw:0<=w):bE x w u:=by
 have key: ∀ l:List (Int×Int),(∀ e∈l,bE x e.1 e.2)->zTY u l=w->bE x w u:=fun l=>by
  induction l with
  | nil=>intro _ k;have:(-1:Int)=w:=k;omega
  | cons e r ih =>
    intro ha k;unfold zTY at k;split at k
    ·rename_i h2;have:=ha e (zY ..);rw [h2,k] at this;exact this
    ·exact ih (fun e he=>ha e (zQ _ he)) k
 exact key _ (fun e he=>zGJ.1 he) h
section
variable {x:yI.T} {l:List (Int×Int)} {k:Nat} {u:ReM} {f:List Int}
theorem z3n:zFA x l 0 [] (lfK (qW x) (qW x).length):=by
 refine ⟨fun n=>⟨fun h=>(by cases h),fun ⟨c,h,_⟩=>(by cases h)⟩,?_,fun i hi=> ?_⟩
 ·unfold lfK;rw [yV,List.take_length]
 ·unfold lfK;rw [List.take_length,gdE,List.getElem?_map,gE hi,gdE,gE hi];have e0:z6B x (chK x l 0) i=0:=rfl;rw [e0];simp
theorem z8s (h:zFA x l k u f) (c: ¬ okE x (chK x l k) (l.getD k (0,0))=true):zFA x l (k+1) u f:=by
 have e:=zZW c;exact ⟨by rw [e];exact h.used,h.len,by rw [e];exact h.left⟩
theorem z34 (g:Full x) (hs:jV (InN x.1.1) x.1.2) (h:zFA x l k u f) (hw:zDV x (l.getD k (0,0)).1 (l.getD k (0,0)).2=0) (hu: ∀ p∈zCt x (l.getD k (0,0)),had u p.1=false):okE x (chK x l k) (l.getD k (0,0))=true:=by
 refine (zJH g hs).2 ⟨(zKH g hs).1 hw,fun c hc t ht a b=> ?_⟩;obtain ⟨j,hj,rfl⟩:=zAO ht;obtain ⟨p,hp,e⟩:=yC.1 ((zFt g).2 (⟨j,hj,rfl,b⟩:zHO x (l.getD k (0,0)) j));have:=hu p hp;rw [show p.1=(j:Int) from e,(h.used j).2 ⟨c,hc,j,hj,rfl,a⟩] at this;cases this
theorem z5I (g:Full x) (hs:jV (InN x.1.1) x.1.2) (h:zFA x l k u f) {p:(ETy.int .i64).T×ETy.bool.T} (hp:p∈zCt x (l.getD k (0,0))) (hu:had u p.1=true): ¬ okE x (chK x l k) (l.getD k (0,0))=true:=by
 intro c;obtain ⟨_,h2⟩:=(zJH g hs).1 c;obtain ⟨d,hd,j,hj,e,a⟩:=(h.used p.1).1 hu;obtain ⟨i,hi,e2,b⟩:=(zFt g).1 (yC.2 ⟨p,hp,rfl⟩);have:i=j:=by omega
 subst this;exact h2 d hd _ (qI hi) a b
theorem z7d (c: ¬ zDV x (l.getD k (0,0)).1 (l.getD k (0,0)).2=0): ¬ okE x (chK x l k) (l.getD k (0,0))=true:=fun h=>by
 unfold okE at h;rw [zC,zP] at h;exact c h.1
theorem zYn (g:Full x) (h:zFA x l k u f) (c:okE x (chK x l k) (l.getD k (0,0))=true) {pre:IBM} (hp: ∀ p,p∈pre↔p∈zCt x (l.getD k (0,0))) (n:Int):had (zRZ u (pre.map (·.1))) n=true↔∃ c∈chK x l (k+1),zHO x c n:=by
 unfold zRZ;rw [zLM,h.used,zNJ c]
 have e1:n∈pre.map (·.1)↔zHO x (l.getD k (0,0)) n:=by
  rw [<- zFt g];show _↔n∈(zCt x (l.getD k (0,0))).map Prod.fst;rw [yC,yC];exact ⟨fun ⟨p,a,b⟩=>⟨p,(hp p).1 a,b⟩,fun ⟨p,a,b⟩=>⟨p,(hp p).2 a,b⟩⟩
 rw [e1];constructor
 ·rintro (⟨d,a,b⟩|a)
  ·exact ⟨d,List.mem_append_left _ a,b⟩
  ·exact ⟨_,List.mem_append_right _ (zF.2 rfl),a⟩
 ·rintro ⟨d,a,b⟩;rcases yD.1 a with a|a
  ·exact .inl ⟨d,a,b⟩
  ·rw [zF.1 a] at b;exact .inr b
open Classical in
theorem z2p (C:List (Int×Int)) (e:Int×Int) (i:Nat):z6B x (C++[e]) i=z6B x C i+(if zJJ x e/\e.1∈(qW x).getD i [] then 1 else 0):=by
 unfold z6B;rw [List.filter_append,zN]
 congr 1
 by_cases q:zJJ x e/\e.1∈(qW x).getD i []
 ·rw [if_pos q,List.filter_cons_of_pos (by rw [zP];exact q)];rfl
 ·rw [if_neg q,List.filter_cons_of_neg (by rw [zP];exact q)];rfl
theorem z81 (g:Full x) (h:zFA x l k u f) (c:okE x (chK x l k) (l.getD k (0,0))=true) (hb: ¬ zJJ x (l.getD k (0,0))) {pre:IBM} (hp: ∀ p,p∈pre↔p∈zCt x (l.getD k (0,0))):zFA x l (k+1) (zRZ u (pre.map (·.1))) f:=by
 refine ⟨zYn g h c hp,h.len,fun i hi=> ?_⟩;rw [h.left i hi,zNJ c,z2p,if_neg (fun q=>hb q.1)];rfl
theorem z8D (g:Full x) {e:Int×Int} (h:zJJ x e): ∃ i,i<(qW x).length/\e.1∈(qW x).getD i []/\jS y8 (ofK (qW x) (qW x).length) e.1=some (i:Int)/\zCA x ((qW x).getD i []):=by
 have hw: ∃ w,bE x w e.1:=by
  rcases h with k|k
  ·exact zCo g k
  ·exact ⟨_,k⟩
 obtain ⟨L,hL,hu⟩:=List.mem_flatten.1 ((zTs g).2 hw);obtain ⟨i,hi,rfl⟩:=yG.1 hL;have gi:(qW x).getD i []=(qW x)[i]:=by rw [gdE,gE hi];rfl
 have lp:=zJa g;refine ⟨i,hi,by rw [gi];exact hu,zMA lp.nd (by rw [gi];exact hu) _ hi (zI _),by rw [gi];exact lp.ok _ hL⟩
theorem z3Z (g:Full x) (hs:jV (InN x.1.1) x.1.2) (h:zFA x l k u f) (c:okE x (chK x l k) (l.getD k (0,0))=true) (hb:zJJ x (l.getD k (0,0))) {i:Nat} (hi:i<(qW x).length) (hm:(l.getD k (0,0)).1∈(qW x).getD i []) (hL:zCA x ((qW x).getD i [])):1<=f.getD i 0:=by
 classical
 obtain ⟨h1,h2⟩:=(zJH g hs).1 c;have hbat:=zLL g hs l k
 have:=z7b g hs hL hb h1 hm (D:=(chK x l k).filter fun c=>decide (zJJ x c/\c.1∈(qW x).getD i [])) (fun d hd=>by
  obtain ⟨a,b⟩:=List.mem_filter.1 hd;rw [zP] at b
  exact ⟨b.1,hbat.free d a,b.2⟩) (hbat.apart.sublist List.filter_sublist) fun d hd=>h2 d (List.mem_filter.1 hd).1
 rw [h.left i hi];unfold z6B;have e: ∀ (p q:Int×Int->Bool),(∀ c,p c=q c)->((chK x l k).filter p).length=((chK x l k).filter q).length:=fun p q h=>by rw [show p=q from funext h]
 rw [e _ (fun c=>decide (zJJ x c/\c.1∈(qW x).getD i [])) (fun c=>by congr)];omega
theorem z7R (g:Full x) (h:zFA x l k u f) (c:okE x (chK x l k) (l.getD k (0,0))=true) (hb:zJJ x (l.getD k (0,0))) {i:Nat} (hi:i<(qW x).length) (hm:(l.getD k (0,0)).1∈(qW x).getD i []) {pre:IBM} (hp: ∀ p,p∈pre↔p∈zCt x (l.getD k (0,0))) :
 zFA x l (k+1) (zRZ u (pre.map (·.1))) (f.set i (f.getD i 0 - 1)):=by
 refine ⟨zYn g h c hp,by rw [List.length_set];exact h.len,fun j hj=> ?_⟩;rw [zNJ c,z2p,gdE,List.getElem?_set]
 by_cases e:i=j
 ·subst e;rw [if_pos rfl,if_pos (by rw [h.len];exact hi),if_pos ⟨hb,hm⟩];show f.getD i 0 - 1=_;rw [h.left i hi];omega
 ·rw [if_neg e,if_neg]
  ·have:=h.left j hj;rw [gdE] at this;rw [this];rfl
  ·rintro ⟨_,hm2⟩;have lp:=(zJa g).nd;have a:=zMA lp hm _ hi (zI _);have b:=zMA lp hm2 _ hj (zI _);rw [a] at b;have:(i:Int)=j:=Option.some.inj b;omega
theorem z24 (g:Full x) (hs:jV (InN x.1.1) x.1.2) {e:Int×Int} (hw:zDV x e.1 e.2=0):(z1m x e.1=e.2\/z1m x e.2=e.1)↔zJJ x e:=by
 obtain ⟨t,ht,t1,t2⟩:=((zKH g hs).1 hw).near;have i1:=hs.ent t ht _ t1;have i2:=hs.ent t ht _ t2;constructor
 ·rintro (h|h)
  ·exact .inr (z2l h i2.1)
  ·exact .inl (z2l h i1.1)
 ·rintro (h|h)
  ·exact .inr (z27 g h)
  ·exact .inl (z27 g h)
theorem z0f (g:Full x) {L:List Int} (hL:zCA x L):L.length<=4096:=by
 have:=zBx L ((List.range 4096).map fun (j:Nat)=>(j:Int)) hL.nd fun v hv=>by
  obtain ⟨w,hw⟩:=hL.bord hv;have h1:=(zJf g hw).2.1;have h2: @LE.le Int _ x.1.1 4096:=g.fit.2.1;exact yC.2 ⟨v.toNat,zV.2 (by omega),by omega⟩
 rwa [yV,zAD] at this
theorem zLR (Ls:List (List Int)) (i:Nat) (h:i<=Ls.length):(lfK Ls i).length=i:=by unfold lfK;rw [yV,qZ];omega
theorem zZX (g:Full x) (hs:jV (InN x.1.1) x.1.2) (c:okE x (chK x l k) (l.getD k (0,0))=true) (hb:zJJ x (l.getD k (0,0))) (h:zFA x l k u f) :
 ∃ i:Nat,(jS y8 (ofK (qW x) (qW x).length) (l.getD k (0,0)).1).getD 0=(i:Int)/\i<(lfK (qW x) (qW x).length).length/\1<=f.getD i 0/\f.getD i 0<=4096/\
   ∀ pre:IBM,(∀ p,p∈pre↔p∈zCt x (l.getD k (0,0)))->zFA x l (k+1) (zRZ u (pre.map (·.1))) (f.set i (f.getD i 0 - 1)):=by
 obtain ⟨i,hi,hm,hg,hL⟩:=z8D g hb;have hr:=z3Z g hs h c hb hi hm hL;have hl:=z0f g hL;refine ⟨i,by rw [hg];rfl,by rw [zLR _ _ (zI _)];exact hi,hr,?_,fun pre hp=>z7R g h c hb hi hm hp⟩;rw [h.left i hi];omega
def ixL (x:yI.T) (v:Int):Nat:=Int.toNat ((jS y8 (ofK (qW x) (qW x).length) v).getD 0)
theorem zWw (g:Full x) (hs:jV (InN x.1.1) x.1.2) (c:okE x (chK x l k) (l.getD k (0,0))=true) (hb:zJJ x (l.getD k (0,0))) (h:zFA x l k u f) :
 (0<=(jS y8 (ofK (qW x) (qW x).length) (l.getD k (0,0)).1).getD 0/\(jS y8 (ofK (qW x) (qW x).length) (l.getD k (0,0)).1).getD 0<((lfK (qW x) (qW x).length).length:Int))/\
 yP (f.getD (ixL x (l.getD k (0,0)).1) 0 - 1)/\¬ f.getD (ixL x (l.getD k (0,0)).1) 0<1/\
 ∀ pre:IBM,(∀ p,p∈pre↔p∈zCt x (l.getD k (0,0)))->zFA x l (k+1) (zRZ u (pre.map (·.1))) (f.set (ixL x (l.getD k (0,0)).1) (f.getD (ixL x (l.getD k (0,0)).1) 0 - 1)):=by
 obtain ⟨i,h1,h2,h3,h4,h5⟩:=zZX g hs c hb h;have e:ixL x (l.getD k (0,0)).1=i:=by unfold ixL;rw [h1];rfl
 rw [e,h1];exact ⟨⟨show (0:Int)<=(i:Int) by omega,show (i:Int)<((lfK (qW x) (qW x).length).length:Int) by omega⟩,by unfold yP;omega,by omega,h5⟩
theorem zWZ (g:Full x):(qW x).length<=4096:=by
 have h1:=zPX x x.1.1.toNat;have h2: @LE.le Int _ x.1.1 4096:=g.fit.2.1;have h3:(qW x).length<=x.1.1.toNat:=h1;omega
theorem z9c {m:NxM} {i:Int} {L:List Int} {j:Nat} (hj:j<L.length):ofV m i (L.take (j+1))=zAB y8 (ofV m i (L.take j)) (L.getD j 0) i:=by
 unfold ofV;rw [yB hj,List.foldl_append,gdE,gE hj];rfl
theorem z9O {Ls:List (List Int)} {i:Nat} (h:i<Ls.length):lfK Ls (i+1)=lfK Ls i++[((Ls.getD i []).length:Int) - 3]:=by
 unfold lfK;rw [yB h,List.map_append,gdE,gE h];rfl
theorem zYR (m:ReM) (pre:IBM) (e:(ETy.int .i64).T×ETy.bool.T):zRZ m ((pre++[e]).map (·.1))=zAB y8 (zRZ m (pre.map (·.1))) e.1 true:=by
 unfold zRZ;rw [List.map_append,List.foldl_append];rfl
end
end S1
/- Code with ranges, constructor by constructor; what comes behind is a name that is not looked into: else the kernel compares whole programs. -/
namespace Go.Vm
section
variable {T:Tab} {SQ:zDE} {st:St} {K:Exit->St->Prop} {a b c:Code}
structure z6x (T:Tab) (SQ:zDE) (b:Code) (K:Exit->St->Prop) (e:Exit) (t:St):Prop where
 out:match e with
  | .normal=>qC T SQ b t K
  | e=>K e t
structure z2d (id:Nat) (K:Exit->St->Prop) (e:Exit) (t:St):Prop where
 out:match e with
  | .exit i=>(match Nat.beq i id with|true=>K .normal t|false=>K (.exit i) t)
  | e=>K e t
structure z8K (K:Exit->St->Prop) (e:Exit) (t:St):Prop where
 out:match e with
  | .goto _=>False
  | e=>K e t
structure zPP {X:Type} (S:Spec X) (st:St) (x:X) (K:Exit->St->Prop) (e:Exit) (t:St):Prop where
 out:match e with
  | .normal=> ∃ y,S.inv y/\zOs t (S.head st y)/\S.mu y<S.mu x
  | e=>K e t
structure z0W (K:Exit->St->Prop) (e:Exit) (t:St):Prop where
 out:K e t
theorem zRr (h:qC T SQ b st K):z6x T SQ b K .normal st:=⟨h⟩
theorem zSR {i:Nat} (h:K (.exit i) st):z6x T SQ b K (.exit i) st:=⟨h⟩
theorem zR2 (h:K .ret st):z6x T SQ b K .ret st:=⟨h⟩
theorem zRJ {id:Nat} (h:K .normal st):z2d id K .normal st:=⟨h⟩
theorem z2Z {id i:Nat} (e:Nat.beq i id=true) (h:K .normal st):z2d id K (.exit i) st:=⟨by show (match Nat.beq i id with|true=>K .normal st|false=>K (.exit i) st);rw [e];exact h⟩
theorem z1y {id i:Nat} (e:Nat.beq i id=false) (h:K (.exit i) st):z2d id K (.exit i) st:=⟨by show (match Nat.beq i id with|true=>K .normal st|false=>K (.exit i) st);rw [e];exact h⟩
theorem z1w {id:Nat} (h:K .ret st):z2d id K .ret st:=⟨h⟩
theorem z2e (h:K .normal st):z8K K .normal st:=⟨h⟩
theorem z2i (h:K .ret st):z8K K .ret st:=⟨h⟩
theorem zMT {X:Type} {S:Spec X} {x:X} {t:St} (h: ∃ y,S.inv y/\zOs t (S.head st y)/\S.mu y<S.mu x):zPP S st x K .normal t:=⟨h⟩
theorem zM7 {X:Type} {S:Spec X} {x:X} {t:St} {i:Nat} (h:K (.exit i) t):zPP S st x K (.exit i) t:=⟨h⟩
theorem zXM {X:Type} {S:Spec X} {x:X} {t:St} (h:K .ret t):zPP S st x K .ret t:=⟨h⟩
theorem zHd {e:Exit} (h:K e st):z0W K e st:=⟨h⟩
theorem zY4:z0W K=K:=funext fun e=>funext fun s=>propext ⟨fun h=>h.out,fun h=>⟨h⟩⟩
theorem zN7 {s:St} (h:s.forceAll (fun h=>zA8 T c h (z0W K))):s.forceAll (fun h=>zA8 T c h K):=by rw [zY4] at h;exact h
theorem z7K {SQ:zDE} {fn:Func} {args:List AV} {R:AV->Prop} (hb:fn.body=some c) (h:qC T SQ c (St.init args) (z0W (post T fn R))):zH7 T SQ fn args R:=by
 rw [zY4] at h;unfold zH7;rw [hb];show (St.init args).forceAll _;rw [St.forceAll_eq];exact h
theorem z6c (hr:z1B a b=none) (h:qC T SQ a st (z6x T SQ b K)):qC T SQ (.seq a b) st K:=by
 unfold qC;rw [hr];exact (congrArg (qC T SQ a st) (funext fun e=>funext fun s=>propext (by cases e<;>exact ⟨fun h=>⟨h⟩,fun h=>h.out⟩)):qC T SQ a st _=qC T SQ a st (z6x T SQ b K)).mpr h
theorem z7c {r:RM} (hr:z1B a b=some r) (h:st.forceAll fun st=>z9J T r st K):qC T SQ (.seq a b) st K:=by
 rw [St.forceAll_eq] at h;unfold qC;rw [hr];exact h
theorem zY1 {id:Nat} (h:qC T SQ c st (z2d id K)):qC T SQ (.block id c) st K:=by
 unfold qC;exact (congrArg (qC T SQ c st) (funext fun e=>funext fun s=>propext (by cases e<;>exact ⟨fun h=>⟨h⟩,fun h=>h.out⟩)):qC T SQ c st _=qC T SQ c st (z2d id K)).mpr h
theorem zWS (h:qC T SQ c st (z8K K)):qC T SQ (.scope c) st K:=by
 unfold qC;exact (congrArg (qC T SQ c st) (funext fun e=>funext fun s=>propext (by cases e<;>exact ⟨fun h=>⟨h⟩,fun h=>h.out⟩)):qC T SQ c st _=qC T SQ c st (z8K K)).mpr h
theorem zSD {i:Nat} {o:Array Oper} {d:Bool} (h:st.forceAll fun st=>zA8 T (.region i o d) st K):qC T SQ (.region i o d) st K:=by
 rw [St.forceAll_eq] at h;unfold qC;exact h
theorem z2I (h:K .normal st):qC T SQ .skip st K:=h
theorem zXb {l:Nat} (h:K .normal st):qC T SQ (.label l) st K:=h
theorem z2P {i:Nat} (h:K (.exit i) st):qC T SQ (.exit i) st K:=h
theorem z7m (h:K .ret st):qC T SQ .ret st K:=h
theorem z2a {x:Operand} (hr:(zB1 a|| zB1 b)=false) (h:st.forceAll fun st=>zA8 T (.cond x a b) st K):qC T SQ (.cond x a b) st K:=by
 rw [St.forceAll_eq] at h;unfold qC;rw [hr];exact h
theorem zVt {x:Operand} (hr:(zB1 a|| zB1 b)=true) (h:st.forceAll fun st=>match y7 st.env x with
 | .s (.bool t)=>BIf t (qC T SQ a st K) (qC T SQ b st K)
 | _=>False):qC T SQ (.cond x a b) st K:=by
 rw [St.forceAll_eq] at h;unfold qC;rw [hr];exact h
theorem z79 (hr:zB1 c=true) (X:Type) (S:Spec X) (x0:X) (hi:S.inv x0) (hl:zOs st (S.head st x0))
 (h: ∀ x,S.inv x->qC T SQ c (S.head st x) (zPP S st x K)):qC T SQ (.loop c) st K:=by
 unfold qC;rw [hr];refine ⟨X,S,⟨x0,hi,hl⟩,fun x hx=> ?_⟩;rw [St.forceAll_eq];exact (congrArg (qC T SQ c (S.head st x)) (funext fun e=>funext fun s=>propext (by cases e<;>exact ⟨fun h=>⟨h⟩,fun h=>h.out⟩)):qC T SQ c (S.head st x) _=qC T SQ c (S.head st x) (zPP S st x K)).mpr (h x hx)
end
end Go.Vm
