/- A part of the proofs of the laws. -/
import Derived.Test.YtlhoihabllompaaGreatW4toY5
import Derived.Test.YtlhoihabllompaaGreatT5toT22
import Derived.Test.YtlhoihabllompaaGreatFan1toW3
set_option linter.unusedSimpArgs false
set_option linter.unusedVariables false
set_option maxHeartbeats 8000000
set_option maxRecDepth 100000
open Go Go.Vm Go.Proofs
namespace S1
theorem z3J (x:yI.T) (a b:Int):zDV x a b=0\/zDV x a b=1\/zDV x a b=2\/zDV x a b=3\/zDV x a b=4:=by
 unfold zDV
 (repeat' split)<;>simp
theorem z2y {w:SoT} {a b:Int} (h:doE w a b=0):zBK w/\InN w.1 a/\InN w.1 b/\zDV (zAa w) a b=0/\a≠b:=by
 have hs:zBK w:=by
  apply yF;intro k;unfold doE at h;rw [if_neg (fun e=>k ((zB4 w).1 e))] at h;cases h
 rw [zIA hs] at h;split at h
 case isFalse=>cases h
 rename_i hr
 have h0:zDV (zAa w) a b=0:=by
  rcases z3J (zAa w) a b with e|e|e|e|e
  ·exact e
  all_goals (rw [e] at h;exact absurd h (by decide))
 refine ⟨hs,hr.1,hr.2,h0,fun e=> ?_⟩;subst e;rw [z4G (zCN (zAu hs).2.1.toGood a)] at h0;cases h0
theorem zWU {w s:SoT} {r:zAJ} {a b:Int} (h:doR w a b=(s,r,0)):Was w a b/\s=(w.1 - 1,drL a b w.2 w.2.length)/\r=zQm w a b/\zDV (zAa w) a b=0:=by
 have he:doE w a b=0:=by rw [<- zLI,h]
 rw [zSy he] at h;obtain ⟨h1,h2,h3,h4,h5⟩:=z2y he;have e1:=congrArg Prod.fst h;have e2:=congrArg (fun z=>z.2.1) h;exact ⟨⟨h1,h2,h3,h5⟩,e1.symm,e2.symm,h4⟩
theorem zLW {w s:SoT} {r:zAJ} {a b:Int} (h:doR w a b=(s,r,0)):bkR s r=(w,true)/\rbk s r=some w:=by
 obtain ⟨h1,h2,h3,_⟩:=zWU h;subst h2 h3;exact ⟨z6T h1,z4w h1⟩
theorem zZC {w s:SoT} {r:zAJ} {a b:Int} (h:doR w a b=(s,r,0)):zBK s:=by
 obtain ⟨h1,h2,h3,h4⟩:=zWU h;have:=zOM (zAu h1.surf).2.1 h1.surf h4;rw [h2,zXa];exact this
open Classical in
noncomputable def zBe (s:SoT) (r:zAJ):SoT×Int:=if h: ∃ w,doR w r.1 r.2.1=(s,r,0) then (Classical.choose h,0) else ((0,[]),if isR s=true then 3 else 11)
theorem zSW {w s:SoT} {r:zAJ} (h:doR w r.1 r.2.1=(s,r,0)):zBe s r=(w,0):=by
 have hh: ∃ w,doR w r.1 r.2.1=(s,r,0):=⟨w,h⟩;unfold zBe;rw [dif_pos hh];have k:=(zLW (Classical.choose_spec hh)).1;rw [(zLW h).1] at k;exact Prod.ext (congrArg (fun z=>z.1) k).symm rfl
theorem zQz {s:SoT} {r:zAJ} (h: ¬ ∃ w,doR w r.1 r.2.1=(s,r,0)):zBe s r=((0,[]),if isR s=true then 3 else 11):=by
 unfold zBe;rw [dif_neg h]
theorem zZa {s:SoT} {r:zAJ} (h:zHP s=none):zBe s r=((0,[]),11):=by
 have hn: ¬ isR s=true:=fun k=>by have:=(zAu ((zB4 s).1 k)).1;rw [h] at this;cases this
 rw [zQz (fun ⟨w,hw⟩=>hn ((zB4 s).2 (zZC hw))),if_neg hn]
theorem z4K {s:SoT} {r:zAJ} (hs:zBK s) (h: ∀ w,bkR s r=(w,true)->doR w r.1 r.2.1≠(s,r,0)):zBe s r=((0,[]),3):=by
 rw [zQz (fun ⟨w,hw⟩=>h w (zLW hw).1 hw),if_pos ((zB4 s).2 hs)]
def bkV (r:SoT×Bool):AV:= .tup [qP.av r.1,.s (.bool r.2)]
def bkW (s:SoT) (r:zAJ):AV:=if bkC s r/\kF (bkG r) (bkN s r)<=s.2.length/\zXx (bkN s r) r.2.2.2.2=true then bkV (bkR s r) else .tup [.agg [.int .i64 0,.val (.slice none 0 0)],.s (.bool false)]
theorem z3h {σ:Sig} {s:SoT} {r:zAJ} {v:Value} (h:y6 σ [] (bkW s r) v):y6 σ [] (bkV (bkR s r)) v:=by
 unfold bkW at h;split at h
 ·exact h
 ·rename_i hn;unfold bkR;rw [if_neg hn];obtain ⟨vs,e1,h⟩:=h
  match vs,h with
  | [x,y],⟨⟨ds,ea,h1⟩,h3⟩ =>
    refine ⟨_,e1,⟨ds,ea,?_⟩,h3⟩
    match ds,h1 with
    | [d1,d2],⟨k1,k2,k3⟩=>exact ⟨k1,zIo k2,k3⟩
def z5z (r:zAJ) (k:Nat):GoT:=z5K r.2.2.1 r.2.2.2.1 k
theorem z6b (r:zAJ):z5z r 0=[]:=rfl
theorem z6a (r:zAJ) (k:Nat):z5z r (k+1)=zAB (.int .i64) (z5z r k) (r.2.2.1.getD k 0) (r.2.2.2.1.getD k (0,0,0)):=rfl
theorem z2c (g:GoT) (T:List P3) (A:Int):zJp g T A 0=[]:=rfl
theorem z1k (g:GoT) (T:List P3) (A:Int) (i:Nat):zJp g T A (i+1)=zJp g T A i++[bkT g T A i]:=by
 unfold zJp;rw [List.range_succ,List.map_append];rfl
theorem zRl (g:GoT) (T:List P3) (A:Int) (i:Nat):(zJp g T A i).length=i:=by unfold zJp;simp
theorem zRL (A:Int) (fan:List Int) (o:List P3): ∀ j,(zSi A fan o j).length=o.length
 | 0=>rfl
 | j+1=>by
   show (zYZ A (zSi A fan o j) (fan.getD j 0)).length=_;unfold zYZ;rw [List.length_set];exact zRL A fan o j
theorem z7I (A:Int) (fan:List Int) (o:List P3) (j:Nat):zSi A fan o (j+1)=(zSi A fan o j).set ((fan.getD j 0).tdiv 3).toNat (z5u ((zSi A fan o j).getD ((fan.getD j 0).tdiv 3).toNat (0,0,0)) ((fan.getD j 0).tmod 3).toNat A):=rfl
def zX7 (r:zAJ):Spec Nat where
 inv i:=i<=r.2.2.1.length
 live i:=[(59,.s (.int .i64 i))]
 keep:=[2,3,4,5,6,7,57,58]
 heap i:=[(3,.map y8 .arr3 (z5z r i))]
 keepH:=[0,1,2]
 mu i:=r.2.2.1.length - i
def zUa (n:Int) (l:List P3) (r:zAJ):Spec Nat where
 inv i:=i<=bkN (n,l) r/\kF (bkG r) i<=l.length
 live i:=[(77,.s (.int .i64 i)),(11,.s (.int .i64 (kF (bkG r) i)))]
 keep:=[2,3,4,5,6,7,10,76]
 heap i:=[(4,.flat 24 [.int .i64 (n+1),.own 5 0 (zJp (bkG r) l r.1 i).length]),(5,.row .arr3 86 (zJp (bkG r) l r.1 i))]
 keepH:=[0,1,2,3]
 mu i:=bkN (n,l) r - i
 nils:=[4]
def zYK (n:Int) (l:List P3) (r:zAJ):Spec Nat where
 inv j:=j<=r.2.2.2.2.length/\∀ k,k<j->0<=r.2.2.2.2.getD k 0/\r.2.2.2.2.getD k 0<3*(bkN (n,l) r:Int)
 live j:=[(125,.s (.int .i64 j))]
 keep:=[2,3,4,5,6,7,10,11,123,124]
 heap j:=[(5,.row .arr3 86 (zSi r.1 r.2.2.2.2 (zJp (bkG r) l r.1 (bkN (n,l) r)) j))]
 keepH:=[0,1,2,3,4]
 mu j:=r.2.2.2.2.length - j
theorem zV0 {n:Nat} {fan:List Int} {k:Nat} (hk:k<fan.length) (h:fan.getD k 0<0\/fan.getD k 0>=3*(n:Int)): ¬ zXx n fan=true:=fun e=>by
 unfold zXx at e;have:=zJ.1 e _ (jB hk);rw [zP] at this;omega
theorem z04 {n:Nat} {fan:List Int} (h: ∀ k,k<fan.length->0<=fan.getD k 0/\fan.getD k 0<3*(n:Int)):zXx n fan=true:=by
 unfold zXx;rw [zJ];intro c hc;obtain ⟨i,hi,e⟩:=yG.1 hc;have:=h i hi;rw [gdE,gE hi] at this;have this:0<=fan[i]/\fan[i]<3*(n:Int):=this;rw [e] at this;rw [zP];exact this
theorem zSU {s:SoT} {r:zAJ} (h: ¬ (bkC s r/\kF (bkG r) (bkN s r)<=s.2.length/\zXx (bkN s r) r.2.2.2.2=true)):bkW s r= .tup [.agg [.int .i64 0,.val (.slice none 0 0)],.s (.bool false)]:=if_neg h
theorem z3H {s:SoT} {r:zAJ} (h:bkC s r/\kF (bkG r) (bkN s r)<=s.2.length/\zXx (bkN s r) r.2.2.2.2=true):bkW s r= .tup [qP.av (s.1+1,zSi r.1 r.2.2.2.2 (zJp (bkG r) s.2 r.1 (bkN s r)) r.2.2.2.2.length),.s (.bool (decide (kF (bkG r) (bkN s r)=s.2.length)))]:=by
 unfold bkW bkR;rw [if_pos h,if_pos h];rfl
theorem z2h {g:GoT} {j:Nat} (h:(jS (.int .i64) g (j:Int)).isSome=true):kF g (j+1)=kF g j:=by rw [z8T,if_pos h]
theorem zQ1 {g:GoT} {j:Nat} (h:(jS (.int .i64) g (j:Int)).isSome=false):kF g (j+1)=kF g j+1:=by rw [z8T,if_neg (by rw [h];simp)]
theorem zRM {g:GoT} {T:List P3} {A:Int} {j:Nat} (h:(jS (.int .i64) g (j:Int)).isSome=true):zJp g T A (j+1)=zJp g T A j++[(jS (.int .i64) g (j:Int)).getD (0,0,0)]:=by
 rw [z1k];unfold bkT;cases e:jS (.int .i64) g (j:Int) with
 | none=>rw [e] at h;cases h
 | some t=>rfl
theorem zOW {g:GoT} {T:List P3} {A:Int} {j:Nat} (h:(jS (.int .i64) g (j:Int)).isSome=false):zJp g T A (j+1)=zJp g T A j++[(upV A (T.getD (kF g j) (0,0,0)).1,upV A (T.getD (kF g j) (0,0,0)).2.1,upV A (T.getD (kF g j) (0,0,0)).2.2)]:=by
 rw [z1k];unfold bkT;cases e:jS (.int .i64) g (j:Int) with
 | none=>rfl
 | some t=>rw [e] at h;cases h
theorem zVH {A v:Int} (h:v>=A):upV A v=v+1:=if_pos h
theorem zVD {A v:Int} (h: ¬ v>=A):upV A v=v:=if_neg h
theorem zUk {n:Int} {l:List P3} {A B:Int} {at_:List Int} {ts:List P3} {fan:List Int} :bkC (n,l) (A,B,at_,ts,fan)↔at_.length=ts.length/\0<=A/\A<=n/\n<4096/\l.length+at_.length<=8192:=Iff.rfl
theorem z6L (A:Int) (fan:List Int) (o:List P3):zSi A fan o 0=o:=rfl
theorem z9m (g:GoT):kF g 0=0:=rfl
theorem z6U (A B:Int) (at_:List Int) (ts:List P3) (fan:List Int):z5z (A,B,at_,ts,fan) at_.length=bkG (A,B,at_,ts,fan):=rfl
attribute [local irreducible] bkW z5z kF zJp zSi bkG
theorem z3Y {fn} (n:Int) (l:List P3) (A B:Int) (at_:List Int) (ts:List P3) (fan:List Int) (hs:zBK (n,l)):zAG ⟨tyL,fn,[]⟩ Tryz.f106 [qP.av (n,l),zG3.av (A,B,at_,ts,fan)] (fun r=>r=bkW (n,l) (A,B,at_,ts,fan)):=by
 have hf:=hs.fit;have hn:0<=n/\n<=4096:=⟨hf.1,hf.2.1⟩;have hl:l.length<=8192:=hf.2.2.1
 repeat' (conv=>whnf
          first|done|refine qN ?_|apply qH|refine qG fun _=> ?_|apply qB|refine qy ?_|refine qw (fun _=> ?_) (fun _=> ?_)|apply qt|refine qi (fun _=> ?_) (fun _=> ?_)|(refine zaB 6 rfl (zX7 (A,B,at_,ts,fan)) (0) ?_ ?_ ?_ fun i hi=> ?_)|with_reducible refine zaA (zX7 _) (i+1) ?_ ?_ ?_ ?_|(refine qS 13 rfl ?_;refine Or.inr (zB (Nat) (zB (zUa n l (A,B,at_,ts,fan)) (zA (zB (0) (zA (yJ.out ?_) (zA ?_ (zA ?_ rfl)))) (fun j hj=> ?_)))))|with_reducible refine zaA (zUa _ _ _) (j+1) ?_ ?_ ?_ ?_|(refine qS 20 rfl ?_;refine Or.inl (zB (4) ?_))|(refine zaB 30 rfl (zYK n l (A,B,at_,ts,fan)) (0) ?_ ?_ ?_ fun k hk=> ?_)|with_reducible refine zaA (zYK _ _ _) (k+1) ?_ ?_ ?_ ?_|refine zA rfl ?_|apply qE|apply qO|exact zO|refine qu ?_)
 all_goals try first|refine qz ?_|apply qz5
 all_goals try simp only [z6,zS,yE,zZ,qn1,z7,qn2,zX,ETy.dflt,qn3,qn4,Int.reduceToNat,Int.reduceAdd,Int.reduceSub,Int.reduceNeg,Nat.reduceAdd,zD,zX7,zUa,zYK] at *
 all_goals have eN:bkN (n,l) (A,B,at_,ts,fan)=l.length+at_.length:=rfl
 all_goals try exact y9.intro (zSU (fun k=>by have c:=zUk.1 k.1;omega)).symm
 all_goals try exact z6b _
 all_goals try exact z6a _ _
 all_goals try exact z2c _ _ _
 all_goals try exact z7I _ _ _ _
 all_goals try (rw [z9m];rfl)
 all_goals try (rw [z2c];exact jL.intro rfl)
 all_goals try (refine qh ?_;omega)
 all_goals try (rw [z9m];exact qh ⟨Nat.zero_le _,Nat.zero_le _⟩)
 all_goals have ei:i=at_.length:=by omega
 all_goals subst ei
 all_goals try simp only [z6U] at *
 all_goals have eO:(zJp (bkG (A,B,at_,ts,fan)) l A j).length=j:=zRl _ _ _ _
 all_goals have hj1:=hj.1
 all_goals rw [eN] at hj1
 all_goals have hj2:=hj.2
 all_goals try (refine qh ?_;rw [eO];omega)
 all_goals try (refine qh ?_;unfold yP;omega)
 all_goals try
  have hit:(jS (.int .i64) (bkG (A,B,at_,ts,fan)) (j:Int)).isSome=true:=by assumption
  first
  | (rw [z2h hit];refine yJ.intro (zA ?_ ?_)<;>omega)
  | (rw [z2h hit];done)
  | exact zRM hit
  | (rw [zRM hit];exact jL.intro (by rw [zN];rfl))
 all_goals try
  have miss:(jS (.int .i64) (bkG (A,B,at_,ts,fan)) (j:Int)).isSome=false:=by assumption
  have e1:((kF (bkG (A,B,at_,ts,fan)) j:Nat):Int)=(l.length:Int):=by assumption
  refine y9.intro (zSU (fun k=> ?_)).symm;have k2:kF (bkG (A,B,at_,ts,fan)) (bkN (n,l) (A,B,at_,ts,fan))<=l.length:=k.2.1;have k3:=zYC (bkG (A,B,at_,ts,fan)) (i:=j+1) (j:=bkN (n,l) (A,B,at_,ts,fan)) (by omega);rw [zQ1 miss] at k3;omega
 all_goals try
  have miss:(jS (.int .i64) (bkG (A,B,at_,ts,fan)) (j:Int)).isSome=false:=by assumption
  have e1:((kF (bkG (A,B,at_,ts,fan)) j:Nat):Int)≠(l.length:Int):=by assumption
  have hk:kF (bkG (A,B,at_,ts,fan)) j<l.length:=by omega
  have ht:(0<=(l.getD (kF (bkG (A,B,at_,ts,fan)) j) (0,0,0)).1/\(l.getD (kF (bkG (A,B,at_,ts,fan)) j) (0,0,0)).1<n)/\(0<=(l.getD (kF (bkG (A,B,at_,ts,fan)) j) (0,0,0)).2.1/\(l.getD (kF (bkG (A,B,at_,ts,fan)) j) (0,0,0)).2.1<n)/\(0<=(l.getD (kF (bkG (A,B,at_,ts,fan)) j) (0,0,0)).2.2/\(l.getD (kF (bkG (A,B,at_,ts,fan)) j) (0,0,0)).2.2<n):=zAH (hf.2.2.2 _ hk)
  first
  | (rw [zQ1 miss];refine yJ.intro (zA ?_ ?_)<;>omega)
  | (refine yJ.intro (zA ?_ ?_)<;>omega)
  | (refine qh ?_;unfold yP;omega)
  | (rw [zQ1 miss];exact Int.natCast_add _ _)
  | (rw [zOW miss];exact jL.intro (by rw [zN];rfl))
  | (rw [zOW miss]
     first|rw [zVH (v:=(l.getD (kF (bkG (A,B,at_,ts,fan)) j) (0,0,0)).1) (by assumption)]|rw [zVD (v:=(l.getD (kF (bkG (A,B,at_,ts,fan)) j) (0,0,0)).1) (by assumption)]
     first|rw [zVH (v:=(l.getD (kF (bkG (A,B,at_,ts,fan)) j) (0,0,0)).2.1) (by assumption)]|rw [zVD (v:=(l.getD (kF (bkG (A,B,at_,ts,fan)) j) (0,0,0)).2.1) (by assumption)]
     first|rw [zVH (v:=(l.getD (kF (bkG (A,B,at_,ts,fan)) j) (0,0,0)).2.2) (by assumption)]|rw [zVD (v:=(l.getD (kF (bkG (A,B,at_,ts,fan)) j) (0,0,0)).2.2) (by assumption)]
     rfl)
 all_goals have ej:j=l.length+at_.length:=by omega
 all_goals subst ej
 all_goals try exact z6L _ _ _
 all_goals try (refine yJ.intro (zA (Nat.zero_le _) ?_);intro k hk;omega)
 all_goals have hk2:=hk.2
 all_goals try
  have hkl:(k:Int)<fan.length:=by assumption
  have hkl:k<fan.length:=by omega
  first
  | exact y9.intro (zSU (fun q=>zV0 hkl (.inl (by assumption)) q.2.2)).symm
  | (have hge:fan.getD k 0>=3*((bkN (n,l) (A,B,at_,ts,fan):Nat):Int):=by rw [eN];omega
     exact y9.intro (zSU (fun q=>zV0 hkl (.inr hge) q.2.2)).symm)
 all_goals try
  have h0: ¬ fan.getD k 0<0:=by assumption
  have e3:(fan.getD k 0).tdiv 3=fan.getD k 0 / 3:=Int.tdiv_eq_ediv_of_nonneg (by omega);have e4:(fan.getD k 0).tmod 3=fan.getD k 0 % 3:=Int.tmod_eq_emod_of_nonneg (by omega);rw [eN] at hk2
  first
  | (rw [e3];refine yJ.intro (zA (by decide) ?_);unfold yP;omega)
  | (rw [e3];refine yJ.intro (zA ?_ ?_)<;>omega)
  | (rw [e4];refine yJ.intro (zA ?_ ?_)<;>omega)
  | (rw [eN]
     refine yJ.intro (zA ?_ ?_)
     ·omega
     ·intro q hq
      by_cases e:q=k
      ·subst e;omega
      ·have:=hk2 q (by omega);omega)
 all_goals
  have ek:k=fan.length:=by omega
  subst ek;have hC:bkC (n,l) (A,B,at_,ts,fan):=zUk.2 (by omega);have hF:zXx (bkN (n,l) (A,B,at_,ts,fan)) fan=true:=z04 hk2;refine y9.intro ?_;rw [z3H ⟨hC,by rw [eN];exact hj2,hF⟩];rw [List.drop_zero,List.take_of_length_le (by rw [zRL,zRl];rw [eO];exact zI _)]
  have e5:((kF (bkG (A,B,at_,ts,fan)) (l.length+at_.length):Int)==(l.length:Int))=decide (kF (bkG (A,B,at_,ts,fan)) (bkN (n,l) (A,B,at_,ts,fan))=l.length):=by
   rw [Bool.eq_iff_iff,beq_iff_eq,zP,eN];omega
  rw [e5];rfl
def backC:List AV->Option Res:=zCr qP zG3 (fun s r=>some (none,some (zBK s),bkV (bkR s r)))
theorem zXF:qM Tryz.prog 106 backC:=mkR (jD fun s r q h=>by
 cases h
 exact zCn.res (fb (fn:=[]) trivial Tryz.func106 fun _ h=>z3Y s.1 s.2 r.1 r.2.1 r.2.2.1 r.2.2.2.1 r.2.2.2.2 h) fun σ v h=>z3h h) Tryz.func106
end S1
open Go Go.Vm Go.Proofs
namespace S1
theorem z15 (a b:Int) (l m:List P3):zAG ⟨tyL,[(140,zOQ)],[]⟩ Tryz.f107 [qP.av (a,l),qP.av (b,m)] (fun r=>r= .s (.bool (eqS (a,l) (b,m)))):=by
 repeat' (conv=>whnf
          first|done|refine qN ?_|apply qH|refine qG fun _=> ?_|apply qB|refine qy ?_|refine qw (fun _=> ?_) (fun _=> ?_)|apply qt|refine qi (fun _=> ?_) (fun _=> ?_)|refine zA rfl ?_|apply qE|apply qO|exact zO|refine qu ?_)
 all_goals try first|refine qz ?_|apply qz5
 all_goals try simp only [z6,zS,yE,zZ,qn1,z7,qn2,zX,ETy.dflt,qn3,qn4,Int.reduceToNat,Int.reduceAdd,Int.reduceSub,Int.reduceNeg,Nat.reduceAdd,zD,eqS,eqR] at *
 ·rename_i h;subst h;rw [decide_eq_decide];exact ⟨fun e=>by rw [e],fun e=>congrArg Prod.snd e⟩
 ·rename_i h;symm;rw [yM];exact fun e=>h (congrArg Prod.fst e)
def zNT:List AV->Option Res:=zCr qP qP (fun a b=>some (none,none,.s (.bool (eqS a b))))
theorem zQi:qM Tryz.prog 107 zNT:=mkR (jD fun a b r h=>by cases h;exact fb (by exact ⟨zQq,trivial⟩) Tryz.func107 fun _ _=>z15 a.1 b.1 a.2 b.2) Tryz.func107
def zF7 (a b:zAJ):Bool:=decide (a.1=b.1)&&(decide (a.2.1=b.2.1)&&(eqL a.2.2.1 b.2.2.1&&(eqR a.2.2.2.1 b.2.2.2.1&&eqL a.2.2.2.2 b.2.2.2.2)))
theorem zFZ {a b:zAJ} :zF7 a b=true↔a=b:=by
 unfold zF7 eqL eqR;simp only [zC,zP];exact ⟨fun ⟨h1,h2,h3,h4,h5⟩=>Prod.ext h1 (Prod.ext h2 (Prod.ext h3 (Prod.ext h4 h5))),fun h=>by subst h;exact ⟨rfl,rfl,rfl,rfl,rfl⟩⟩
theorem z0t (a1 b1 a2 b2:Int) (t1 f1 t2 f2:List Int) (r1 r2:List P3):zAG ⟨tyL,[(140,zOQ),(141,zPU)],[]⟩ Tryz.f108 [zG3.av (a1,b1,t1,r1,f1),zG3.av (a2,b2,t2,r2,f2)] (fun r=>r= .s (.bool (zF7 (a1,b1,t1,r1,f1) (a2,b2,t2,r2,f2)))):=by
 repeat' (conv=>whnf
          first|done|refine qN ?_|apply qH|refine qG fun _=> ?_|apply qB|refine qy ?_|refine qw (fun _=> ?_) (fun _=> ?_)|apply qt|refine qi (fun _=> ?_) (fun _=> ?_)|refine zA rfl ?_|apply qE|apply qO|exact zO|refine qu ?_)
 all_goals try first|refine qz ?_|apply qz5
 all_goals try simp only [z6,zS,yE,zZ,qn1,z7,qn2,zX,ETy.dflt,qn3,qn4,Int.reduceToNat,Int.reduceAdd,Int.reduceSub,Int.reduceNeg,Nat.reduceAdd,zD] at *
 all_goals
  rw [Bool.eq_iff_iff,zFZ]
  try unfold eqL
  simp only [zP,yM,Prod.mk.injEq,Bool.false_eq_true,false_iff] at *;simp [*]
def zOT:List AV->Option Res:=zCr zG3 zG3 (fun a b=>some (none,none,.s (.bool (zF7 a b))))
theorem zRc:qM Tryz.prog 108 zOT:=mkR (jD fun a b r h=>by
 cases h;exact fb (fn:=[(140,zOQ),(141,zPU)]) ⟨zQq,zU1,trivial⟩ Tryz.func108 fun _ _=>z0t a.1 a.2.1 b.1 b.2.1 a.2.2.1 a.2.2.2.2 b.2.2.1 b.2.2.2.2 a.2.2.2.1 b.2.2.2.1) Tryz.func108
def zS4 (r:SoT×Int):AV:= .tup [qP.av r.1,.s (.int .i64 r.2)]
def zMr (r:SoT×Int):AV:=if r.2=0 then zS4 r else .tup [.agg [.int .i64 0,.val (.slice none 0 0)],.s (.int .i64 r.2)]
theorem z0H (s:SoT) (r:zAJ) (h:(zBe s r).2≠0):(zBe s r).1=(0,[]):=by
 unfold zBe at *;split
 ·rename_i hh;rw [dif_pos hh] at h;exact absurd rfl h
 ·rfl
theorem zNp {σ:Sig} {s:SoT} {r:zAJ} {v:Value} (h:y6 σ [] (zMr (zBe s r)) v):y6 σ [] (zS4 (zBe s r)) v:=by
 unfold zMr at h;split at h
 ·exact h
 ·rename_i hn;have e:=z0H s r hn;obtain ⟨vs,e1,h⟩:=h;unfold zS4;rw [e]
  match vs,h with
  | [x,y],⟨⟨ds,ea,h1⟩,h3⟩ =>
    refine ⟨_,e1,⟨ds,ea,?_⟩,h3⟩
    match ds,h1 with
    | [d1,d2],⟨k1,k2,k3⟩=>exact ⟨k1,zIo k2,k3⟩
theorem z5c {s:SoT} {r:zAJ} (hs:zBK s) (h: ∀ w,bkR s r=(w,true)->doR w r.1 r.2.1≠(s,r,0)):zMr (zBe s r)= .tup [.agg [.int .i64 0,.val (.slice none 0 0)],.s (.int .i64 3)]:=by
 rw [z4K hs h];rfl
theorem z0I {s:SoT} {r:zAJ} (h:zHP s=none):zMr (zBe s r)= .tup [.agg [.int .i64 0,.val (.slice none 0 0)],.s (.int .i64 11)]:=by
 rw [zZa h];rfl
theorem z3j {s w:SoT} {r:zAJ} (h:doR w r.1 r.2.1=(s,r,0)):zMr (zBe s r)= .tup [qP.av w,.s (.int .i64 0)]:=by
 rw [zSW h];rfl
theorem zYS {a b:SoT} :eqS a b=true↔a=b:=by unfold eqS;exact decide_eq_true_iff
theorem zHy (a:SoT):eqS a a=true:=zYS.2 rfl
theorem zMq (a:zAJ):zF7 a a=true:=zFZ.2 rfl
attribute [local irreducible] zMr bkR doR eqS zF7 zD4
theorem z0w (n:Int) (l:List P3) (A B:Int) (at_:List Int) (ts:List P3) (fan:List Int) (x:yI.T) (hx:zHP (n,l)=some x):zAG ⟨tyL,[(54,zKs x),(100,zMX),(106,backC),(65,z5p),(107,zNT),(108,zOT)],[]⟩ Tryz.f68 [qP.av (n,l),zG3.av (A,B,at_,ts,fan)] (fun v=>v=zMr (zBe (n,l) (A,B,at_,ts,fan))):=by
 obtain ⟨e0,g,hs⟩:=zHj hx
 repeat' (conv=>whnf
          first|done|refine qN ?_|apply qH|refine qG fun _=> ?_|apply qB|refine qy ?_|refine qw (fun _=> ?_) (fun _=> ?_)|apply qt|refine qi (fun _=> ?_) (fun _=> ?_)|refine zA rfl ?_|apply qE|apply qO|exact zO|refine qu ?_)
 all_goals try first|refine qz ?_|apply qz5
 all_goals try simp only [z6,zS,yE,zZ,qn1,z7,qn2,zX,ETy.dflt,qn3,qn4,Int.reduceToNat,Int.reduceAdd,Int.reduceSub,Int.reduceNeg,Nat.reduceAdd,zD] at *
 all_goals try exact absurd (zND hs) (by rw [show zD4 (n,l)=false by assumption];decide)
 all_goals try
  refine y9.intro (z5c hs (fun w hw hd=> ?_)).symm;have hd:doR w A B=((n,l),(A,B,at_,ts,fan),0):=hd;simp only [hw,hd,zHy,zMq,ne_eq,not_true_eq_false,Bool.true_eq_false,reduceCtorEq] at *
  done
 all_goals
  have h3:(doR (bkR (n,l) (A,B,at_,ts,fan)).1 A B).2.2=0:=by assumption
  have h1:eqS (doR (bkR (n,l) (A,B,at_,ts,fan)).1 A B).1 (n,l)=true:=by assumption
  have h2:zF7 (doR (bkR (n,l) (A,B,at_,ts,fan)).1 A B).2.1 (A,B,at_,ts,fan)=true:=by assumption
  have h:doR (bkR (n,l) (A,B,at_,ts,fan)).1 A B=((n,l),(A,B,at_,ts,fan),0):=Prod.ext (zYS.1 h1) (Prod.ext (zFZ.1 h2) h3);exact y9.intro (z3j h).symm
theorem zXy (n:Int) (l:List P3) (r:zAJ) (hx:zHP (n,l)=none):zAG ⟨tyL,[(54,zVC),(100,zMX),(106,backC),(65,z5p),(107,zNT),(108,zOT)],[]⟩ Tryz.f68 [qP.av (n,l),zG3.av r] (fun v=>v=zMr (zBe (n,l) r)):=by
 have e:=z0I (r:=r) hx
 repeat' (conv=>whnf
          first|done|refine qN ?_|apply qH|refine qG fun _=> ?_|apply qB|refine qy ?_|refine qw (fun _=> ?_) (fun _=> ?_)|apply qt|refine qi (fun _=> ?_) (fun _=> ?_)|refine zA rfl ?_|apply qE|apply qO|exact zO|refine qu ?_)
 all_goals try first|refine qz ?_|apply qz5
 all_goals try simp only [z6,zS,yE,zZ,qn1,z7,qn2,zX,ETy.dflt,qn3,qn4,Int.reduceToNat,Int.reduceAdd,Int.reduceSub,Int.reduceNeg,Nat.reduceAdd,zD] at *
 all_goals try exact qh hx
 all_goals exact y9.intro e.symm
noncomputable def zWc:List AV->Option Res:=zCr qP zG3 (fun s r=>some (none,none,zS4 (zBe s r)))
theorem zYz:qM Tryz.prog 68 zWc:=mkR (jD fun s r q h=>by
 cases h;cases e:zHP s with
 | none=>exact zCn.res (fb (fn:=[(54,zVC),(100,zMX),(106,backC),(65,z5p),(107,zNT),(108,zOT)]) ⟨zXB,zL5,zXF,zVA,zQi,zRc,trivial⟩ Tryz.func68 fun _ _=>zXy s.1 s.2 r e) fun σ v h=>zNp h
 | some x=>exact zCn.res (fb (fn:=[(54,zKs x),(100,zMX),(106,backC),(65,z5p),(107,zNT),(108,zOT)]) ⟨(zMB x),zL5,zXF,zVA,zQi,zRc,trivial⟩ Tryz.func68 fun _ _=>z0w s.1 s.2 r.1 r.2.1 r.2.2.1 r.2.2.2.1 r.2.2.2.2 x e) fun σ v h=>zNp h) Tryz.func68
end S1
open Go Go.Vm Go.Proofs
namespace S1
def zTY (v:Int):List (Int×Int)->Int
 | []=> -1
 | e::r=>if e.2=v then e.1 else zTY v r
def z1m (x:yI.T) (v:Int):Int:=zTY v (zLv x)
def zVq (L:List (Int×Int)) (v:Int):Spec Nat where
 inv k:=k<=L.length/\zTY v L=zTY v (L.drop k)
 live k:=[(10,.s (.int .i64 k))]
 keep:=[1,8,9]
 heap _:=[]
 keepH:=[]
 mu k:=L.length - k
theorem zNb {l:List (Int×Int)} {x:Nat} (h:x<l.length):l.drop x=l.getD x (0,0)::l.drop (x+1):=by
 rw [List.drop_eq_getElem_cons h,gdE,gE h];rfl
attribute [local irreducible] zLv zTY
theorem zX3 (x:yI.T) (v:Int) (g:Good x):zAG ⟨tyL,[(99,zIq)],[]⟩ Tryz.f63 [(ETy.pt yI).av (some x),y8.av v] (fun r=>r= .s (.int .i64 (z1m x v))):=by
 repeat' (conv=>whnf
          first|done|refine qN ?_|apply qH|refine qG fun _=> ?_|apply qB|refine qy ?_|refine qw (fun _=> ?_) (fun _=> ?_)|apply qt|refine qi (fun _=> ?_) (fun _=> ?_)|(refine zaB 2 rfl (zVq (zLv x) v) (0) ?_ ?_ ?_ fun k hk=> ?_)|with_reducible refine zaA (zVq _ _) (k+1) ?_ ?_ ?_ ?_|refine zA rfl ?_|apply qE|apply qO|exact zO|refine qu ?_)
 all_goals try first|refine qz ?_|apply qz5
 all_goals try simp only [z6,zS,yE,zZ,qn1,z7,qn2,zX,ETy.dflt,qn3,qn4,Int.reduceToNat,Int.reduceAdd,Int.reduceSub,Int.reduceNeg,Nat.reduceAdd,zD,zVq,z1m] at *
 ·exact qh (fun y h=>by cases h;exact g)
 ·exact qh ⟨Nat.zero_le _,by rw [List.drop_zero]⟩
 all_goals try have hk1:k<(zLv x).length:=Int.ofNat_lt.1 (by assumption)
 ·have h:((zLv x).getD k (0,0)).2=v:=by assumption
  rw [hk.2,zNb hk1];unfold zTY;rw [if_pos h];rfl
 ·have h:((zLv x).getD k (0,0)).2≠v:=by assumption
  refine yJ.intro ⟨hk1,?_⟩;rw [hk.2,zNb hk1];conv=>lhs;unfold zTY
  rw [if_neg h]
 ·refine qh ?_;omega
 ·have h: ¬ (k:Int)<(zLv x).length:=by assumption
  rw [hk.2,List.drop_eq_nil_of_le (by omega)];unfold zTY;rfl
theorem zTS (v:Int):zAG ⟨tyL,[(99,zIq)],[]⟩ Tryz.f63 [(ETy.pt yI).av none,y8.av v] (fun r=>r= .s (.int .i64 (-1))):=by
 repeat' (conv=>whnf
          first|done|refine qN ?_|apply qH|refine qG fun _=> ?_|apply qB|refine qy ?_|refine qw (fun _=> ?_) (fun _=> ?_)|apply qt|refine qi (fun _=> ?_) (fun _=> ?_)|(refine qS 2 rfl ?_;refine Or.inl (zB (1) ?_))|refine zA rfl ?_|apply qE|apply qO|exact zO|refine qu ?_)
 all_goals try first|refine qz ?_|apply qz5
 all_goals try simp only [z6,zS,yE,zZ,qn1,z7,qn2,zX,ETy.dflt,qn3,qn4,Int.reduceToNat,Int.reduceAdd,Int.reduceSub,Int.reduceNeg,Nat.reduceAdd,zD] at *
 all_goals try exact qh (fun y h=>by cases h)
 all_goals try rfl
 all_goals exact absurd (show (0:Int)<(0:Nat) by assumption) (by decide)
def zYk:List AV->Option Res:=zCr (.pt yI) y8 (fun o v=>some (none,some (∀ x,o=some x->Good x),.s (.int .i64 (match o with|some x=>z1m x v|none=> -1))))
theorem zVp:qM Tryz.prog 63 zYk:=mkR (jD fun o v r h=>by
 cases h;cases o with
 | none=>exact fb (fn:=[(99,zIq)]) ⟨zLe,trivial⟩ Tryz.func63 fun _ _=>zTS v
 | some x=>exact fb (fn:=[(99,zIq)]) ⟨zLe,trivial⟩ Tryz.func63 fun _ h=>zX3 x v (h x rfl)) Tryz.func63
def zAV:List zAJ->Int->Int
 | [],v=>v
 | r::l,v=>if zJs v r.1 r.2.1<0 then -1 else zAV l (zJs v r.1 r.2.1)
def zOr:zAJ:=(0,0,[],[],[])
def nwK (R:List zAJ) (v:Int):Nat->Int
 | 0=>v
 | k+1=>zJs (nwK R v k) (R.getD k zOr).1 (R.getD k zOr).2.1
theorem zNV {l:List zAJ} {x:Nat} (h:x<l.length):l.drop x=l.getD x zOr::l.drop (x+1):=by
 rw [List.drop_eq_getElem_cons h,gdE,gE h];rfl
theorem zOn {R:List zAJ} {k:Nat} (h:k<R.length):R.getD k zOr∈R:=by
 rw [gdE,gE h];exact yQ h
theorem z3L {v a b:Int} (hv:v<=1000000) (hb:b<=1000000):zJs v a b<=1000000:=by
 unfold zJs
 (repeat' split)<;>omega
def okR (R:List zAJ):Prop:= ∀ r∈R,-1000000<=r.2.1/\r.2.1<=1000000
def zYr (R:List zAJ) (v:Int):Spec Nat where
 inv k:=k<=R.length/\zAV R v=zAV (R.drop k) (nwK R v k)/\(-1000000<=nwK R v k/\nwK R v k<=1000000)
 live k:=[(0,.s (.int .i64 (nwK R v k))),(9,.s (.int .i64 k))]
 keep:=[7,8]
 heap _:=[]
 keepH:=[]
 mu k:=R.length - k
attribute [local irreducible] zJs zAV nwK
theorem z7A (R:List zAJ) (v:Int) (hR:okR R) (hv: -1000000<=v/\v<=1000000):zAG ⟨tyL,[(104,zPo)],[]⟩ Tryz.f66 [y8.av v,(ETy.sl zG3).av R] (fun r=>r= .s (.int .i64 (zAV R v))):=by
 repeat' (conv=>whnf
          first|done|refine qN ?_|apply qH|refine qG fun _=> ?_|apply qB|refine qy ?_|refine qw (fun _=> ?_) (fun _=> ?_)|apply qt|refine qi (fun _=> ?_) (fun _=> ?_)|(refine zaB 2 rfl (zYr R v) (0) ?_ ?_ ?_ fun k hk=> ?_)|with_reducible refine zaA (zYr _ _) (k+1) ?_ ?_ ?_ ?_|refine zA rfl ?_|apply qE|apply qO|exact zO|refine qu ?_)
 all_goals try first|refine qz ?_|apply qz5
 all_goals try simp only [z6,zS,yE,zZ,qn1,z7,qn2,zX,ETy.dflt,qn3,qn4,Int.reduceToNat,Int.reduceAdd,Int.reduceSub,Int.reduceNeg,Nat.reduceAdd,zD,zYr] at *
 ·refine yJ.intro ⟨Nat.zero_le _,by rw [List.drop_zero];unfold nwK;rfl,?_⟩;unfold nwK;exact hv
 ·unfold nwK;rfl
 all_goals try have hk1:k<R.length:=Int.ofNat_lt.1 (by assumption)
 ·exact qh ⟨hk.2.2,hR _ (zOn hk1)⟩
 ·have h:zJs (nwK R v k) (R.getD k zOr).1 (R.getD k zOr).2.1<0:=by assumption
  rw [hk.2.1,zNV hk1];unfold zAV;rw [if_pos h]
 ·have h: ¬ zJs (nwK R v k) (R.getD k zOr).1 (R.getD k zOr).2.1<0:=by assumption
  have e:nwK R v (k+1)=zJs (nwK R v k) (R.getD k zOr).1 (R.getD k zOr).2.1:=by conv=>lhs;unfold nwK
  have hb:=z3L (a:=(R.getD k zOr).1) hk.2.2.2 (hR _ (zOn hk1)).2;refine yJ.intro ⟨hk1,?_,by rw [e];exact ⟨by omega,hb⟩⟩;rw [hk.2.1,zNV hk1,e];conv=>lhs;unfold zAV
  rw [if_neg h]
 ·conv=>lhs;unfold nwK
  rfl
 ·refine qh ?_;omega
 ·have h: ¬ (k:Int)<R.length:=by assumption
  rw [hk.2.1,List.drop_eq_nil_of_le (by omega)];unfold zAV;rfl
def z60:List AV->Option Res:=zCr y8 (.sl zG3) (fun (v:Int) (R:List zAJ)=>some (none,some ((-1000000<=v/\v<=1000000)/\okR R),.s (.int .i64 (zAV R v))))
theorem z2u:qM Tryz.prog 66 z60:=mkR (jD fun v R r h=>by
 cases h;exact fb (fn:=[(104,zPo)]) ⟨zPh,trivial⟩ Tryz.func66 fun _ h=>z7A R v h.2 h.1) Tryz.func66
def imL (R:List zAJ) (k:Nat):List Int:=(List.range k).map fun (v:Nat)=>zAV R v
def zYl (n:Int) (R:List zAJ):Int:=if n<0\/n>4096 then 2 else if (imL R n.toNat).all (fun v=>decide (0<=v))=true then 0 else 3
def zNy (n:Int) (R:List zAJ):List Int×Int:=if zYl n R=0 then (imL R n.toNat,0) else ([],zYl n R)
attribute [local irreducible] zYl imL zNy
end S1
open Go Go.Vm Go.Proofs
namespace S1
def ofV (m:NxM) (i:Int) (L:List Int):NxM:=L.foldl (fun m v=>zAB (.int .i64) m v i) m
def ofK (Ls:List (List Int)):Nat->NxM
 | 0=>[]
 | i+1=>ofV (ofK Ls i) i (Ls.getD i [])
def lfK (Ls:List (List Int)) (i:Nat):List Int:=(Ls.take i).map fun L=>(L.length:Int) - 3
theorem zUZ: ∀ (L:List Int) (m:NxM) (i u:Int),jS y8 (ofV m i L) u=if u∈L then some i else jS y8 m u
 | [],m,i,u=>by rw [if_neg (by simp)];rfl
 | a ::r,m,i,u=>by
   show jS y8 (ofV (zAB y8 m a i) i r) u=_;rw [zUZ r]
   by_cases h:u∈r
   ·rw [if_pos h,if_pos (zQ _ h)]
   ·rw [if_neg h]
    by_cases e:a=u
    ·subst e;rw [zAT,if_pos (zY ..)]
    ·rw [zA4 _ e,if_neg];intro k;rcases zT.1 k with k|k
     ·exact e k.symm
     ·exact h k
theorem zMA {Ls:List (List Int)} (hn:Ls.flatten.Nodup) {i:Nat} {u:Int} (hu:u∈Ls.getD i []): ∀ k,i<k->k<=Ls.length->jS y8 (ofK Ls k) u=some (i:Int)
 | 0,h,_=>absurd h (Nat.not_lt_zero _)
 | k +1,h,hk=>by
   show jS y8 (ofV (ofK Ls k) k (Ls.getD k [])) u=_;rw [zUZ]
   by_cases e:i=k
   ·subst e;rw [if_pos hu]
   ·rw [if_neg,zMA hn hu k (by omega) (by omega)];intro hk2
    -- u lies in two loops
    have hi:i<Ls.length:=by omega
    have hkl:k<Ls.length:=by omega
    have gi:Ls.getD i []=Ls[i]:=by rw [gdE,gE hi];rfl
    have gk:Ls.getD k []=Ls[k]:=by rw [gdE,gE hkl];rfl
    rw [gi] at hu;rw [gk] at hk2;have hp:=flat_pair hn;have:=List.pairwise_iff_getElem.1 hp;rcases Nat.lt_or_gt_of_ne e with q|q
    ·exact this i k hi hkl q u hu hk2
    ·exact this k i hkl hi q u hk2 hu
where
 flat_pair: ∀ {Ls:List (List Int)},Ls.flatten.Nodup->Ls.Pairwise (fun a b=> ∀ x∈a,x∉b)
  | [],_=>List.Pairwise.nil
  | a::r,hn=>by
    rw [List.flatten_cons,List.nodup_append] at hn;exact List.pairwise_cons.2 ⟨fun b hb x hx hxb=>hn.2.2 x hx x (List.mem_flatten.2 ⟨b,hb,hxb⟩) rfl,flat_pair hn.2.1⟩
open Classical in
noncomputable def z6B (x:yI.T) (C:List (Int×Int)) (i:Nat):Nat:=(C.filter fun c=>decide (zJJ x c/\c.1∈(qW x).getD i [])).length
structure zFA (x:yI.T) (l:List (Int×Int)) (k:Nat) (u:ReM) (f:List Int):Prop where
 used: ∀ n,had u n=true↔∃ c∈chK x l k,zHO x c n
 len:f.length=(qW x).length
 left: ∀ i,i<(qW x).length->f.getD i 0=((qW x).getD i []).length - 3 - (z6B x (chK x l k) i:Int)
theorem z27 {x:yI.T} (g:Full x) {w u:Int} (h:bE x w u):z1m x u=w:=by
 have key: ∀ l:List (Int×Int),(∀ e∈l,bE x e.1 e.2)->(w,u)∈l->zTY u l=w:=fun l=>by
  induction l with
  | nil=>intro _ k;cases k
  | cons e r ih =>
    intro ha k;unfold zTY;split
    ·rename_i h2;have:=ha e (zY ..);rw [h2] at this;exact zWo g this h
    ·rename_i h2;refine ih (fun e he=>ha e (zQ _ he)) ((zT.1 k).resolve_left fun q=>h2 ?_);rw [<- q]
 exact key _ (fun e he=>zGJ.1 he) (zGJ.2 h)
theorem z2l {x:yI.T} {w u:Int} (h:z1m x u=w) (hw:0<=w):bE x w u:=by
 have key: ∀ l:List (Int×Int),(∀ e∈l,bE x e.1 e.2)->zTY u l=w->bE x w u:=fun l=>by
  induction l with
  | nil=>intro _ k;have:(-1:Int)=w:=k;omega
  | cons e r ih =>
    intro ha k;unfold zTY at k;split at k
    ·rename_i h2;have:=ha e (zY ..);rw [h2,k] at this;exact this
    ·exact ih (fun e he=>ha e (zQ _ he)) k
 exact key _ (fun e he=>zGJ.1 he) h
section
variable {x:yI.T} {l:List (Int×Int)} {k:Nat} {u:ReM} {f:List Int}
theorem z3n:zFA x l 0 [] (lfK (qW x) (qW x).length):=by
 refine ⟨fun n=>⟨fun h=>(by cases h),fun ⟨c,h,_⟩=>(by cases h)⟩,?_,fun i hi=> ?_⟩
 ·unfold lfK;rw [yV,List.take_length]
 ·unfold lfK;rw [List.take_length,gdE,List.getElem?_map,gE hi,gdE,gE hi];have e0:z6B x (chK x l 0) i=0:=rfl;rw [e0];simp
theorem z8s (h:zFA x l k u f) (c: ¬ okE x (chK x l k) (l.getD k (0,0))=true):zFA x l (k+1) u f:=by
 have e:=zZW c;exact ⟨by rw [e];exact h.used,h.len,by rw [e];exact h.left⟩
theorem z34 (g:Full x) (hs:jV (InN x.1.1) x.1.2) (h:zFA x l k u f) (hw:zDV x (l.getD k (0,0)).1 (l.getD k (0,0)).2=0) (hu: ∀ p∈zCt x (l.getD k (0,0)),had u p.1=false):okE x (chK x l k) (l.getD k (0,0))=true:=by
 refine (zJH g hs).2 ⟨(zKH g hs).1 hw,fun c hc t ht a b=> ?_⟩;obtain ⟨j,hj,rfl⟩:=zAO ht;obtain ⟨p,hp,e⟩:=yC.1 ((zFt g).2 (⟨j,hj,rfl,b⟩:zHO x (l.getD k (0,0)) j));have:=hu p hp;rw [show p.1=(j:Int) from e,(h.used j).2 ⟨c,hc,j,hj,rfl,a⟩] at this;cases this
theorem z5I (g:Full x) (hs:jV (InN x.1.1) x.1.2) (h:zFA x l k u f) {p:(ETy.int .i64).T×ETy.bool.T} (hp:p∈zCt x (l.getD k (0,0))) (hu:had u p.1=true): ¬ okE x (chK x l k) (l.getD k (0,0))=true:=by
 intro c;obtain ⟨_,h2⟩:=(zJH g hs).1 c;obtain ⟨d,hd,j,hj,e,a⟩:=(h.used p.1).1 hu;obtain ⟨i,hi,e2,b⟩:=(zFt g).1 (yC.2 ⟨p,hp,rfl⟩);have:i=j:=by omega
 subst this;exact h2 d hd _ (qI hi) a b
theorem z7d (c: ¬ zDV x (l.getD k (0,0)).1 (l.getD k (0,0)).2=0): ¬ okE x (chK x l k) (l.getD k (0,0))=true:=fun h=>by
 unfold okE at h;rw [zC,zP] at h;exact c h.1
theorem zYn (g:Full x) (h:zFA x l k u f) (c:okE x (chK x l k) (l.getD k (0,0))=true) {pre:IBM} (hp: ∀ p,p∈pre↔p∈zCt x (l.getD k (0,0))) (n:Int):had (zRZ u (pre.map (·.1))) n=true↔∃ c∈chK x l (k+1),zHO x c n:=by
 unfold zRZ;rw [zLM,h.used,zNJ c]
 have e1:n∈pre.map (·.1)↔zHO x (l.getD k (0,0)) n:=by
  rw [<- zFt g];show _↔n∈(zCt x (l.getD k (0,0))).map Prod.fst;rw [yC,yC];exact ⟨fun ⟨p,a,b⟩=>⟨p,(hp p).1 a,b⟩,fun ⟨p,a,b⟩=>⟨p,(hp p).2 a,b⟩⟩
 rw [e1];constructor
 ·rintro (⟨d,a,b⟩|a)
  ·exact ⟨d,List.mem_append_left _ a,b⟩
  ·exact ⟨_,List.mem_append_right _ (zF.2 rfl),a⟩
 ·rintro ⟨d,a,b⟩;rcases yD.1 a with a|a
  ·exact .inl ⟨d,a,b⟩
  ·rw [zF.1 a] at b;exact .inr b
open Classical in
theorem z2p (C:List (Int×Int)) (e:Int×Int) (i:Nat):z6B x (C++[e]) i=z6B x C i+(if zJJ x e/\e.1∈(qW x).getD i [] then 1 else 0):=by
 unfold z6B;rw [List.filter_append,zN]
 congr 1
 by_cases q:zJJ x e/\e.1∈(qW x).getD i []
 ·rw [if_pos q,List.filter_cons_of_pos (by rw [zP];exact q)];rfl
 ·rw [if_neg q,List.filter_cons_of_neg (by rw [zP];exact q)];rfl
theorem z81 (g:Full x) (h:zFA x l k u f) (c:okE x (chK x l k) (l.getD k (0,0))=true) (hb: ¬ zJJ x (l.getD k (0,0))) {pre:IBM} (hp: ∀ p,p∈pre↔p∈zCt x (l.getD k (0,0))):zFA x l (k+1) (zRZ u (pre.map (·.1))) f:=by
 refine ⟨zYn g h c hp,h.len,fun i hi=> ?_⟩;rw [h.left i hi,zNJ c,z2p,if_neg (fun q=>hb q.1)];rfl
theorem z8D (g:Full x) {e:Int×Int} (h:zJJ x e): ∃ i,i<(qW x).length/\e.1∈(qW x).getD i []/\jS y8 (ofK (qW x) (qW x).length) e.1=some (i:Int)/\zCA x ((qW x).getD i []):=by
 have hw: ∃ w,bE x w e.1:=by
  rcases h with k|k
  ·exact zCo g k
  ·exact ⟨_,k⟩
 obtain ⟨L,hL,hu⟩:=List.mem_flatten.1 ((zTs g).2 hw);obtain ⟨i,hi,rfl⟩:=yG.1 hL;have gi:(qW x).getD i []=(qW x)[i]:=by rw [gdE,gE hi];rfl
 have lp:=zJa g;refine ⟨i,hi,by rw [gi];exact hu,zMA lp.nd (by rw [gi];exact hu) _ hi (zI _),by rw [gi];exact lp.ok _ hL⟩
theorem z3Z (g:Full x) (hs:jV (InN x.1.1) x.1.2) (h:zFA x l k u f) (c:okE x (chK x l k) (l.getD k (0,0))=true) (hb:zJJ x (l.getD k (0,0))) {i:Nat} (hi:i<(qW x).length) (hm:(l.getD k (0,0)).1∈(qW x).getD i []) (hL:zCA x ((qW x).getD i [])):1<=f.getD i 0:=by
 classical
 obtain ⟨h1,h2⟩:=(zJH g hs).1 c;have hbat:=zLL g hs l k
 have:=z7b g hs hL hb h1 hm (D:=(chK x l k).filter fun c=>decide (zJJ x c/\c.1∈(qW x).getD i [])) (fun d hd=>by
  obtain ⟨a,b⟩:=List.mem_filter.1 hd;rw [zP] at b
  exact ⟨b.1,hbat.free d a,b.2⟩) (hbat.apart.sublist List.filter_sublist) fun d hd=>h2 d (List.mem_filter.1 hd).1
 rw [h.left i hi];unfold z6B;have e: ∀ (p q:Int×Int->Bool),(∀ c,p c=q c)->((chK x l k).filter p).length=((chK x l k).filter q).length:=fun p q h=>by rw [show p=q from funext h]
 rw [e _ (fun c=>decide (zJJ x c/\c.1∈(qW x).getD i [])) (fun c=>by congr)];omega
theorem z7R (g:Full x) (h:zFA x l k u f) (c:okE x (chK x l k) (l.getD k (0,0))=true) (hb:zJJ x (l.getD k (0,0))) {i:Nat} (hi:i<(qW x).length) (hm:(l.getD k (0,0)).1∈(qW x).getD i []) {pre:IBM} (hp: ∀ p,p∈pre↔p∈zCt x (l.getD k (0,0))) :
 zFA x l (k+1) (zRZ u (pre.map (·.1))) (f.set i (f.getD i 0 - 1)):=by
 refine ⟨zYn g h c hp,by rw [List.length_set];exact h.len,fun j hj=> ?_⟩;rw [zNJ c,z2p,gdE,List.getElem?_set]
 by_cases e:i=j
 ·subst e;rw [if_pos rfl,if_pos (by rw [h.len];exact hi),if_pos ⟨hb,hm⟩];show f.getD i 0 - 1=_;rw [h.left i hi];omega
 ·rw [if_neg e,if_neg]
  ·have:=h.left j hj;rw [gdE] at this;rw [this];rfl
  ·rintro ⟨_,hm2⟩;have lp:=(zJa g).nd;have a:=zMA lp hm _ hi (zI _);have b:=zMA lp hm2 _ hj (zI _);rw [a] at b;have:(i:Int)=j:=Option.some.inj b;omega
theorem z24 (g:Full x) (hs:jV (InN x.1.1) x.1.2) {e:Int×Int} (hw:zDV x e.1 e.2=0):(z1m x e.1=e.2\/z1m x e.2=e.1)↔zJJ x e:=by
 obtain ⟨t,ht,t1,t2⟩:=((zKH g hs).1 hw).near;have i1:=hs.ent t ht _ t1;have i2:=hs.ent t ht _ t2;constructor
 ·rintro (h|h)
  ·exact .inr (z2l h i2.1)
  ·exact .inl (z2l h i1.1)
 ·rintro (h|h)
  ·exact .inr (z27 g h)
  ·exact .inl (z27 g h)
theorem z0f (g:Full x) {L:List Int} (hL:zCA x L):L.length<=4096:=by
 have:=zBx L ((List.range 4096).map fun (j:Nat)=>(j:Int)) hL.nd fun v hv=>by
  obtain ⟨w,hw⟩:=hL.bord hv;have h1:=(zJf g hw).2.1;have h2: @LE.le Int _ x.1.1 4096:=g.fit.2.1;exact yC.2 ⟨v.toNat,zV.2 (by omega),by omega⟩
 rwa [yV,zAD] at this
theorem zLR (Ls:List (List Int)) (i:Nat) (h:i<=Ls.length):(lfK Ls i).length=i:=by unfold lfK;rw [yV,qZ];omega
theorem zZX (g:Full x) (hs:jV (InN x.1.1) x.1.2) (c:okE x (chK x l k) (l.getD k (0,0))=true) (hb:zJJ x (l.getD k (0,0))) (h:zFA x l k u f) :
 ∃ i:Nat,(jS y8 (ofK (qW x) (qW x).length) (l.getD k (0,0)).1).getD 0=(i:Int)/\i<(lfK (qW x) (qW x).length).length/\1<=f.getD i 0/\f.getD i 0<=4096/\
   ∀ pre:IBM,(∀ p,p∈pre↔p∈zCt x (l.getD k (0,0)))->zFA x l (k+1) (zRZ u (pre.map (·.1))) (f.set i (f.getD i 0 - 1)):=by
 obtain ⟨i,hi,hm,hg,hL⟩:=z8D g hb;have hr:=z3Z g hs h c hb hi hm hL;have hl:=z0f g hL;refine ⟨i,by rw [hg];rfl,by rw [zLR _ _ (zI _)];exact hi,hr,?_,fun pre hp=>z7R g h c hb hi hm hp⟩;rw [h.left i hi];omega
def ixL (x:yI.T) (v:Int):Nat:=Int.toNat ((jS y8 (ofK (qW x) (qW x).length) v).getD 0)
theorem zWw (g:Full x) (hs:jV (InN x.1.1) x.1.2) (c:okE x (chK x l k) (l.getD k (0,0))=true) (hb:zJJ x (l.getD k (0,0))) (h:zFA x l k u f) :
 (0<=(jS y8 (ofK (qW x) (qW x).length) (l.getD k (0,0)).1).getD 0/\(jS y8 (ofK (qW x) (qW x).length) (l.getD k (0,0)).1).getD 0<((lfK (qW x) (qW x).length).length:Int))/\
 yP (f.getD (ixL x (l.getD k (0,0)).1) 0 - 1)/\¬ f.getD (ixL x (l.getD k (0,0)).1) 0<1/\
 ∀ pre:IBM,(∀ p,p∈pre↔p∈zCt x (l.getD k (0,0)))->zFA x l (k+1) (zRZ u (pre.map (·.1))) (f.set (ixL x (l.getD k (0,0)).1) (f.getD (ixL x (l.getD k (0,0)).1) 0 - 1)):=by
 obtain ⟨i,h1,h2,h3,h4,h5⟩:=zZX g hs c hb h;have e:ixL x (l.getD k (0,0)).1=i:=by unfold ixL;rw [h1];rfl
 rw [e,h1];exact ⟨⟨show (0:Int)<=(i:Int) by omega,show (i:Int)<((lfK (qW x) (qW x).length).length:Int) by omega⟩,by unfold yP;omega,by omega,h5⟩
theorem zWZ (g:Full x):(qW x).length<=4096:=by
 have h1:=zPX x x.1.1.toNat;have h2: @LE.le Int _ x.1.1 4096:=g.fit.2.1;have h3:(qW x).length<=x.1.1.toNat:=h1;omega
theorem z9c {m:NxM} {i:Int} {L:List Int} {j:Nat} (hj:j<L.length):ofV m i (L.take (j+1))=zAB y8 (ofV m i (L.take j)) (L.getD j 0) i:=by
 unfold ofV;rw [yB hj,List.foldl_append,gdE,gE hj];rfl
theorem z9O {Ls:List (List Int)} {i:Nat} (h:i<Ls.length):lfK Ls (i+1)=lfK Ls i++[((Ls.getD i []).length:Int) - 3]:=by
 unfold lfK;rw [yB h,List.map_append,gdE,gE h];rfl
theorem zYR (m:ReM) (pre:IBM) (e:(ETy.int .i64).T×ETy.bool.T):zRZ m ((pre++[e]).map (·.1))=zAB y8 (zRZ m (pre.map (·.1))) e.1 true:=by
 unfold zRZ;rw [List.map_append,List.foldl_append];rfl
end
end S1
/- Code with ranges, constructor by constructor; what comes behind is a name that is not looked into: else the kernel compares whole programs. -/
namespace Go.Vm
section
variable {T:Tab} {SQ:zDE} {st:St} {K:Exit->St->Prop} {a b c:Code}
structure z6x (T:Tab) (SQ:zDE) (b:Code) (K:Exit->St->Prop) (e:Exit) (t:St):Prop where
 out:match e with
  | .normal=>qC T SQ b t K
  | e=>K e t
structure z2d (id:Nat) (K:Exit->St->Prop) (e:Exit) (t:St):Prop where
 out:match e with
  | .exit i=>(match Nat.beq i id with|true=>K .normal t|false=>K (.exit i) t)
  | e=>K e t
structure z8K (K:Exit->St->Prop) (e:Exit) (t:St):Prop where
 out:match e with
  | .goto _=>False
  | e=>K e t
structure zPP {X:Type} (S:Spec X) (st:St) (x:X) (K:Exit->St->Prop) (e:Exit) (t:St):Prop where
 out:match e with
  | .normal=> ∃ y,S.inv y/\zOs t (S.head st y)/\S.mu y<S.mu x
  | e=>K e t
structure z0W (K:Exit->St->Prop) (e:Exit) (t:St):Prop where
 out:K e t
theorem zRr (h:qC T SQ b st K):z6x T SQ b K .normal st:=⟨h⟩
theorem zSR {i:Nat} (h:K (.exit i) st):z6x T SQ b K (.exit i) st:=⟨h⟩
theorem zR2 (h:K .ret st):z6x T SQ b K .ret st:=⟨h⟩
theorem zRJ {id:Nat} (h:K .normal st):z2d id K .normal st:=⟨h⟩
theorem z2Z {id i:Nat} (e:Nat.beq i id=true) (h:K .normal st):z2d id K (.exit i) st:=⟨by show (match Nat.beq i id with|true=>K .normal st|false=>K (.exit i) st);rw [e];exact h⟩
theorem z1y {id i:Nat} (e:Nat.beq i id=false) (h:K (.exit i) st):z2d id K (.exit i) st:=⟨by show (match Nat.beq i id with|true=>K .normal st|false=>K (.exit i) st);rw [e];exact h⟩
theorem z1w {id:Nat} (h:K .ret st):z2d id K .ret st:=⟨h⟩
theorem z2e (h:K .normal st):z8K K .normal st:=⟨h⟩
theorem z2i (h:K .ret st):z8K K .ret st:=⟨h⟩
theorem zMT {X:Type} {S:Spec X} {x:X} {t:St} (h: ∃ y,S.inv y/\zOs t (S.head st y)/\S.mu y<S.mu x):zPP S st x K .normal t:=⟨h⟩
theorem zM7 {X:Type} {S:Spec X} {x:X} {t:St} {i:Nat} (h:K (.exit i) t):zPP S st x K (.exit i) t:=⟨h⟩
theorem zXM {X:Type} {S:Spec X} {x:X} {t:St} (h:K .ret t):zPP S st x K .ret t:=⟨h⟩
theorem zHd {e:Exit} (h:K e st):z0W K e st:=⟨h⟩
theorem zY4:z0W K=K:=funext fun e=>funext fun s=>propext ⟨fun h=>h.out,fun h=>⟨h⟩⟩
theorem zN7 {s:St} (h:s.forceAll (fun h=>zA8 T c h (z0W K))):s.forceAll (fun h=>zA8 T c h K):=by rw [zY4] at h;exact h
theorem z7K {SQ:zDE} {fn:Func} {args:List AV} {R:AV->Prop} (hb:fn.body=some c) (h:qC T SQ c (St.init args) (z0W (post T fn R))):zH7 T SQ fn args R:=by
 rw [zY4] at h;unfold zH7;rw [hb];show (St.init args).forceAll _;rw [St.forceAll_eq];exact h
theorem z6c (hr:z1B a b=none) (h:qC T SQ a st (z6x T SQ b K)):qC T SQ (.seq a b) st K:=by
 unfold qC;rw [hr];exact (congrArg (qC T SQ a st) (funext fun e=>funext fun s=>propext (by cases e<;>exact ⟨fun h=>⟨h⟩,fun h=>h.out⟩)):qC T SQ a st _=qC T SQ a st (z6x T SQ b K)).mpr h
theorem z7c {r:RM} (hr:z1B a b=some r) (h:st.forceAll fun st=>z9J T r st K):qC T SQ (.seq a b) st K:=by
 rw [St.forceAll_eq] at h;unfold qC;rw [hr];exact h
theorem zY1 {id:Nat} (h:qC T SQ c st (z2d id K)):qC T SQ (.block id c) st K:=by
 unfold qC;exact (congrArg (qC T SQ c st) (funext fun e=>funext fun s=>propext (by cases e<;>exact ⟨fun h=>⟨h⟩,fun h=>h.out⟩)):qC T SQ c st _=qC T SQ c st (z2d id K)).mpr h
theorem zWS (h:qC T SQ c st (z8K K)):qC T SQ (.scope c) st K:=by
 unfold qC;exact (congrArg (qC T SQ c st) (funext fun e=>funext fun s=>propext (by cases e<;>exact ⟨fun h=>⟨h⟩,fun h=>h.out⟩)):qC T SQ c st _=qC T SQ c st (z8K K)).mpr h
theorem zSD {i:Nat} {o:Array Oper} {d:Bool} (h:st.forceAll fun st=>zA8 T (.region i o d) st K):qC T SQ (.region i o d) st K:=by
 rw [St.forceAll_eq] at h;unfold qC;exact h
theorem z2I (h:K .normal st):qC T SQ .skip st K:=h
theorem zXb {l:Nat} (h:K .normal st):qC T SQ (.label l) st K:=h
theorem z2P {i:Nat} (h:K (.exit i) st):qC T SQ (.exit i) st K:=h
theorem z7m (h:K .ret st):qC T SQ .ret st K:=h
theorem z2a {x:Operand} (hr:(zB1 a|| zB1 b)=false) (h:st.forceAll fun st=>zA8 T (.cond x a b) st K):qC T SQ (.cond x a b) st K:=by
 rw [St.forceAll_eq] at h;unfold qC;rw [hr];exact h
theorem zVt {x:Operand} (hr:(zB1 a|| zB1 b)=true) (h:st.forceAll fun st=>match y7 st.env x with
 | .s (.bool t)=>BIf t (qC T SQ a st K) (qC T SQ b st K)
 | _=>False):qC T SQ (.cond x a b) st K:=by
 rw [St.forceAll_eq] at h;unfold qC;rw [hr];exact h
theorem z79 (hr:zB1 c=true) (X:Type) (S:Spec X) (x0:X) (hi:S.inv x0) (hl:zOs st (S.head st x0))
 (h: ∀ x,S.inv x->qC T SQ c (S.head st x) (zPP S st x K)):qC T SQ (.loop c) st K:=by
 unfold qC;rw [hr];refine ⟨X,S,⟨x0,hi,hl⟩,fun x hx=> ?_⟩;rw [St.forceAll_eq];exact (congrArg (qC T SQ c (S.head st x)) (funext fun e=>funext fun s=>propext (by cases e<;>exact ⟨fun h=>⟨h⟩,fun h=>h.out⟩)):qC T SQ c (S.head st x) _=qC T SQ c (S.head st x) (zPP S st x K)).mpr (h x hx)
end
end Go.Vm
open Go Go.Vm Go.Proofs
namespace S1
def zY2:List AV->St->(AV->St->Prop)->Prop:=zR3 ⟨tyL,[(45,zUB)],[]⟩ Tryz.f62
theorem zY3 : zJM Tryz.prog 62 zY2 ∧ ∃ fn, Tryz.prog.funcs[62]? = some fn ∧ (fn.name == "runtime.NumGoroutine") = false ∧ fn.body.isNone = false :=
 ⟨zOG (yN (fn:=[(45,zUB)]) (fr:=[]) ⟨zZF,trivial⟩ trivial) Tryz.func62 rfl (by kernel_rfl),_,Tryz.func62,by kernel_rfl,by kernel_rfl⟩
def zUn (Ls:List (List Int)):Spec Nat where
 inv i:=i<=Ls.length
 live i:=[(12,.s (.int .i64 i)),(3,.s (.own 2 0 (lfK Ls i).length))]
 keep:=[2,10,11]
 heap i:=[(3,.map y8 y8 (ofK Ls i)),(2,.row y8 3 (lfK Ls i))]
 keepH:=[0,1]
 mu i:=Ls.length - i
def zUd (Ls:List (List Int)) (i:Nat):Spec Nat where
 inv j:=j<=(Ls.getD i []).length
 live j:=[(19,.s (.int .i64 j))]
 keep:=[2,3,4,5,10,11,12,17,18]
 heap j:=[(3,.map y8 y8 (ofV (ofK Ls i) i ((Ls.getD i []).take j)))]
 keepH:=[0,1,2]
 mu j:=(Ls.getD i []).length - j
def zT9 (x:yI.T) (l:List (Int×Int)):Spec (Nat×ReM×List Int) where
 inv y:=y.1<=l.length/\zFA x l y.1 y.2.1 y.2.2
 live y:=[(24,.s (.int .i64 y.1)),(8,.s (.own 5 0 (chK x l y.1).length))]
 keep:=[0,5,6,7,22,23]
 heap y:=[(4,.map y8 .bool y.2.1),(2,.row y8 3 y.2.2),(5,.row .arr2 33 (chK x l y.1))]
 keepH:=[0,3]
 mu y:=l.length - y.1
def zWt (u:ReM):Spec IBM where
 inv pre:= ∀ p∈pre,had u p.1=false
 live _:=[]
 keep:=[0,5,6,7,8,10,11,22,23,24,39]
 heap _:=[]
 keepH:=[0,2,3,4,5,6]
 mu _:=0
def zWO (u:ReM):Spec IBM where
 inv _:=True
 live _:=[]
 keep:=[0,5,6,7,8,10,11,22,23,24,81]
 heap pre:=[(4,.map y8 .bool (zRZ u (pre.map (·.1))))]
 keepH:=[0,2,3,5,6]
 mu _:=0
attribute [local irreducible] chK zDV zCt z1m zRZ ofK lfK ofV qW
theorem zYQ (x:yI.T) (l:List (Int×Int)) (g:Full x) (hs:jV (InN x.1.1) x.1.2) (hl9:l.length<=100000):zH7 ⟨tyL,[(27,z7M),(57,zMW),(63,zYk)],[(62,.run zY2)]⟩ z8R Tryz.f22 [(ETy.pt yI).av (some x),(ETy.sl .arr2).av l] (fun r=>r= .s (.sl .arr2 (zAh x l))):=by
 refine z7K rfl ?_
 repeat' (first
           | ((with_reducible show qC _ _ (Code.seq _ _) _ _);first|refine z6c rfl ?_|refine z7c rfl ?_)
           | with_reducible refine zY1 ?_
           | with_reducible refine zWS ?_
           | with_reducible refine zSD ?_
           | with_reducible refine z2I ?_
           | with_reducible refine zXb ?_
           | with_reducible refine z2P ?_
           | with_reducible refine z7m ?_
           | ((with_reducible show qC _ _ (Code.cond _ _ _) _ _);first|refine z2a rfl ?_|refine zVt rfl ?_)
           | ((with_reducible show qC _ _ (Code.loop _) _ _);refine z79 rfl (Nat×ReM×List Int) (zT9 x l) ((0,[],lfK (qW x) (qW x).length)) (yJ.out ?_) (zA ?_ (zA ?_ rfl)) (fun y hy=> ?_))
           | with_reducible refine zRr ?_
           | with_reducible refine zSR ?_
           | with_reducible refine zR2 ?_
           | with_reducible refine zRJ ?_
           | ((with_reducible show z2d _ _ (Exit.exit _) _);first|refine z2Z rfl ?_|refine z1y rfl ?_)
           | with_reducible refine z1w ?_
           | with_reducible refine z2e ?_
           | with_reducible refine z2i ?_
           | with_reducible refine zMT ?_
           | with_reducible refine zM7 ?_
           | with_reducible refine zXM ?_
           | with_reducible refine zHd ?_
           | (conv=>whnf
              first
           | done
           | refine qN ?_
           | apply qH
           | refine qG fun _=> ?_
           | apply qB
           | apply qa
           | apply qo
           | refine qe (fun _=> ?_) (fun _=> ?_)
           | refine qn (fun _=> ?_) (fun _=> ?_)
           | refine qd (fun _=> ?_) (fun _=> ?_)
           | apply qt
           | refine qi (fun _=> ?_) (fun _=> ?_)
           | with_reducible refine zRr ?_
           | with_reducible refine zSR ?_
           | with_reducible refine zR2 ?_
           | with_reducible refine zRJ ?_
           | with_reducible refine zMT ?_
           | with_reducible refine zM7 ?_
           | with_reducible refine zHd ?_
           | ((with_reducible show (∃ y,And (Spec.inv (zT9 _ _) y) _));refine zB (y.1+1,_,_) (zA (yJ.out ?_) (zA (zA ?_ (zA (zA rfl (zA rfl ?_)) rfl)) (yJ.out ?_))))
           | refine (fun (XF:Array Value)=> ?_)
           | (refine qS 3 rfl ?_;refine Or.inr (zB (Nat) (zB (zUn (qW x)) (zA (zB (0) (zA (yJ.out ?_) (zA ?_ (zA ?_ rfl)))) (fun i hi=>zN7 ?_)))))
           | with_reducible refine zaA (zUn _) (i+1) ?_ ?_ ?_ ?_
           | (refine qS 6 rfl ?_;refine Or.inr (zB (Nat) (zB (zUd (qW x) i) (zA (zB (0) (zA (yJ.out ?_) (zA ?_ (zA ?_ rfl)))) (fun j hj=>zN7 ?_)))))
           | with_reducible refine zaA (zUd _ _) (j+1) ?_ ?_ ?_ ?_
           | refine (fun (rIt:Nat)=> ?_)
           | refine z8H.intro (it:=39) (zB (zWt y.2.1) (zA (zA (yJ.out ?_) (zA ?_ (zA ?_ rfl))) (zA (fun preu eu heu=>zA rfl ?_) (fun preu hpu=>zA rfl ?_))))
           | ((with_reducible show (And (Spec.inv (zWt y.2.1) _) _));refine zA (yJ.out ?_) (zA ?_ (zA ?_ rfl)))
           | refine (fun (rIt:Nat)=> ?_)
           | refine z8H.intro (it:=81) (zB (zWO y.2.1) (zA (zA (yJ.out ?_) (zA ?_ (zA ?_ rfl))) (zA (fun prew ew hew=>zA rfl ?_) (fun prew hpw=>zA rfl ?_))))
           | ((with_reducible show (And (Spec.inv (zWO y.2.1) _) _));refine zA (yJ.out ?_) (zA ?_ (zA ?_ rfl)))
           | refine zA rfl ?_
           | apply qE
           | apply qO
           | exact zO
           | apply qq
           | apply qs
           | refine qK (by kernel_rfl) ?_
           | apply qr))
 all_goals try first|refine qz ?_|apply qz5
 all_goals try simp only [z6,zS,yE,zZ,qn1,z7,qn2,zX,ETy.dflt,qn3,qn4,Int.reduceToNat,Int.reduceAdd,Int.reduceSub,Int.reduceNeg,Nat.reduceAdd,zD,zUn,zUd,zT9,zWt,zWO] at *
 all_goals have hLl:=zWZ g
 all_goals try simp only [show z2U (some x)=qW x from rfl] at *
 all_goals try exact qh (fun y h=>by cases h;exact g)
 all_goals try exact qh (fun y h=>by cases h;exact g.toGood)
 all_goals try exact qh g.toGood
 all_goals try exact qh trivial
 all_goals try exact qh (fun p h=>by cases h)
 all_goals try (refine qh ?_;omega)
 all_goals try first
  | (unfold lfK;rfl)
  | (unfold ofK;rfl)
  | (unfold chK;rfl)
  | (rw [List.take_zero];unfold ofV;rfl)
  | (rw [List.map_nil];unfold zRZ;rfl)
  | exact zYR _ _ _
  | exact z9c (by omega)
  | exact z9O (by omega)
  | (rw [zLR _ _ (by omega),zLR _ _ (by omega)];done)
 all_goals try (have hlf:=zLR (qW x) i (by omega);refine qh ?_;omega)
 all_goals try
  have ej:j=((qW x).getD i []).length:=by omega
  subst ej;rw [List.take_length];conv=>lhs;unfold ofK
  done
 all_goals have ei:i=(qW x).length:=by omega
 all_goals subst ei
 all_goals try exact qh ⟨Nat.zero_le _,z3n⟩
 all_goals try rfl
 all_goals try
  have hn : ¬ okE x (chK x l y.1) (l.getD y.1 (0,0))=true:=by
            first|exact z7d (by assumption)|exact z5I g hs hy.2 heu.2.2.2.1 (by assumption)
  first
  | exact qh ⟨by omega,z8s hy.2 hn⟩
  | (rw [zZW hn];done)
 all_goals try
  refine yJ.intro fun p hp=> ?_;rcases yD.1 hp with k|k
  ·exact heu.1 p k
  ·rw [zF.1 k];assumption
 all_goals try
  have e9:y.1=l.length:=by omega
  rw [e9];unfold zAh;rfl
 all_goals have hcl:=zM1 x l y.1
 all_goals have hw:zDV x (l.getD y.1 (0,0)).1 (l.getD y.1 (0,0)).2=0:=by assumption
 all_goals have hOk:=z34 g hs hy.2 hw (fun p q=>hpu.1 p ((hpu.2.2 p).2 q))
 all_goals try first
  | (rw [zNJ hOk,zN];rfl)
  | exact zNJ hOk
  | (refine qh ?_;omega)
 all_goals try
  have hb:zJJ x (l.getD y.1 (0,0)):=(z24 g hs hw).1 (by first|exact .inl (by assumption)|exact .inr (by assumption));obtain ⟨q1,q2,q3,q4⟩:=zWw g hs hOk hb hy.2
  first
  | exact qh q1
  | exact qh q2
  | exact absurd (by assumption) q3
  | exact qh ⟨by omega,q4 _ hpw.2.2⟩
 all_goals
  have hb: ¬ zJJ x (l.getD y.1 (0,0)):=fun q=>((z24 g hs hw).2 q).elim (by assumption) (by assumption);exact qh ⟨by omega,z81 g hy.2 hOk hb hpw.2.2⟩
theorem zSr (l:List (Int×Int)):zH7 ⟨tyL,[(27,z7M),(57,zMW),(63,zYk)],[(62,.run zY2)]⟩ z8R Tryz.f22 [(ETy.pt yI).av none,(ETy.sl .arr2).av l] (fun r=>r= .s (.sl .arr2 [])):=by
 refine z7K rfl ?_
 repeat' (first
           | ((with_reducible show qC _ _ (Code.seq _ _) _ _);first|refine z6c rfl ?_|refine z7c rfl ?_)
           | with_reducible refine zY1 ?_
           | with_reducible refine zWS ?_
           | with_reducible refine zSD ?_
           | with_reducible refine z2I ?_
           | with_reducible refine zXb ?_
           | with_reducible refine z2P ?_
           | with_reducible refine z7m ?_
           | ((with_reducible show qC _ _ (Code.cond _ _ _) _ _);first|refine z2a rfl ?_|refine zVt rfl ?_)
           | with_reducible refine zRr ?_
           | with_reducible refine zSR ?_
           | with_reducible refine zR2 ?_
           | with_reducible refine zRJ ?_
           | ((with_reducible show z2d _ _ (Exit.exit _) _);first|refine z2Z rfl ?_|refine z1y rfl ?_)
           | with_reducible refine z1w ?_
           | with_reducible refine z2e ?_
           | with_reducible refine z2i ?_
           | with_reducible refine zMT ?_
           | with_reducible refine zM7 ?_
           | with_reducible refine zXM ?_
           | with_reducible refine zHd ?_
           | (conv=>whnf
              first
           | done
           | refine qN ?_
           | apply qH
           | refine qG fun _=> ?_
           | apply qB
           | apply qa
           | apply qo
           | refine qe (fun _=> ?_) (fun _=> ?_)
           | refine qn (fun _=> ?_) (fun _=> ?_)
           | refine qd (fun _=> ?_) (fun _=> ?_)
           | apply qt
           | refine qi (fun _=> ?_) (fun _=> ?_)
           | with_reducible refine zRr ?_
           | with_reducible refine zSR ?_
           | with_reducible refine zR2 ?_
           | with_reducible refine zRJ ?_
           | with_reducible refine zMT ?_
           | with_reducible refine zM7 ?_
           | with_reducible refine zHd ?_
           | refine zA rfl ?_
           | apply qE
           | apply qO
           | exact zO
           | apply qq
           | apply qs
           | refine qK (by kernel_rfl) ?_
           | apply qr))
 all_goals try first|refine qz ?_|apply qz5
 all_goals try simp only [z6,zS,yE,zZ,qn1,z7,qn2,zX,ETy.dflt,qn3,qn4,Int.reduceToNat,Int.reduceAdd,Int.reduceSub,Int.reduceNeg,Nat.reduceAdd,zD] at *
 all_goals rfl
def zFe:List AV->Option Res:=zCr (.pt yI) (.sl .arr2) (fun o l=>some (none,some ((∀ x,o=some x->Full x/\jV (InN x.1.1) x.1.2)/\l.length<=100000),.s (.sl .arr2 (match o with|some x=>zAh x l|none=>[]))))
theorem zI8:qM Tryz.prog 22 zFe:=mkR (jD fun o l r h=>by
 cases h;cases o with
 | none=>exact zHL (yN (fn:=[(27,z7M),(57,zMW),(63,zYk)]) (fr:=[(62,.run zY2)]) ⟨z26,zLu,zVp,trivial⟩ ⟨zY3,trivial⟩) zVc Tryz.func22 rfl (by kernel_rfl) (zU rfl) fun _ _=>zSr l
 | some x=>exact zHL (yN (fn:=[(27,z7M),(57,zMW),(63,zYk)]) (fr:=[(62,.run zY2)]) ⟨z26,zLu,zVp,trivial⟩ ⟨zY3,trivial⟩) zVc Tryz.func22 rfl (by kernel_rfl) (zU rfl) fun _ h=>zYQ x l (h.1 x rfl).1 (h.1 x rfl).2 h.2) Tryz.func22
end S1
open Go Go.Vm Go.Proofs
namespace S1
def bwL (n:Nat):List Int:=(List.range n).map fun (j:Nat)=>(n:Int) - 1 - j
theorem zFN (n:Nat):(bwL n).length=n:=by unfold bwL;rw [yV,zAD]
theorem zPH {n k:Nat} (h:k<n):(bwL n).getD k 0=(n:Int) - 1 - k:=by
 unfold bwL;rw [gdE,List.getElem?_map,List.getElem?_range h];rfl
theorem zR7 {n k:Nat} (h:k<n):(bwL n).take k++[(n:Int) - 1 - k]=(bwL n).take (k+1):=by
 rw [yB (by rw [zFN];exact h)];have:=zPH h;rw [gdE,gE (by rw [zFN];exact h)] at this;rw [<- show (bwL n)[k]'(by rw [zFN];exact h)=(n:Int) - 1 - k from this]
def zVG (R:List zAJ):Spec Nat where
 inv k:=k<=R.length
 live k:=[(3,.s (.int .i64 ((R.length:Int) - 1 - k)))]
 keep:=[0,1]
 heap _:=[]
 keepH:=[]
 mu k:=R.length - k
theorem z8B (R:List zAJ) (hn:R.length<=100000):zQ0 ⟨tyL,[],[]⟩ Tryz.f105 [⟨.sl zG3,R⟩] (bwL R.length):=by
 repeat' (conv=>whnf
          first|done|refine qN ?_|apply qH|refine qG fun _=> ?_|apply qB|refine qy ?_|refine qw (fun _=> ?_) (fun _=> ?_)|apply qt|refine qi (fun _=> ?_) (fun _=> ?_)|refine (fun (l:Nat)=> ?_)|refine zB Nat (zB (zVG R) (zB (fun k=>(bwL R.length).take k) (zA (zB 0 (zA (yJ.out ?_) (zA (zAp.out ?_) (zA ?_ (zA ?_ rfl))))) (fun k hk=> ?_))))|((with_reducible show (∃ y,And (Spec.inv (zVG _) y) _));refine zB (k+1) (zA (yJ.out ?_) (zA (zAp.out ?_) (zA (zA ?_ (zA ?_ rfl)) (yJ.out ?_)))))|refine zA (yJ.out (p:=(_++[_]) <+: _) ?_) ?_|refine zA (zAp.intro (y9.out ?_)) ?_|refine zAp.out ?_|refine zA rfl ?_|apply qE|apply qO|exact zO|refine qu ?_)
 all_goals try first|refine qz ?_|apply qz5
 all_goals try simp only [z6,zS,yE,zZ,qn1,z7,qn2,zX,ETy.dflt,qn3,qn4,Int.reduceToNat,Int.reduceAdd,Int.reduceSub,Int.reduceNeg,Nat.reduceAdd,zD,zVG] at *
 all_goals have eR:List.length ((some R).getD [])=R.length:=rfl
 all_goals have hlb:=zFN R.length
 ·exact qh (Nat.zero_le _)
 ·exact zAp.intro rfl
 ·rw [eR];omega
 ·refine qh ?_;rw [eR];omega
 all_goals try have hk1:k<R.length:=by omega
 ·rw [zR7 hk1];exact qh (List.take_prefix _ _)
 ·exact y9.intro rfl
 ·exact qh hk1
 ·exact zAp.intro (zR7 hk1).symm
 ·omega
 ·refine qh ?_;omega
 ·exact zAp.intro (List.take_of_length_le (by omega))
theorem z7C {n:Nat} (h:n<=100000): ∀ x∈bwL n,InK .i64 x:=fun x hx=>by
 obtain ⟨j,hj,rfl⟩:=yC.1 hx;have:=zV.1 hj;exact InK.i64.2 (by unfold yP;omega)
def seqB:zDE:=fun f ps L=>f=105/\∃ R:List zAJ,ps=[⟨.sl zG3,R⟩]/\R.length<=100000/\L=bwL R.length
theorem z6h:zDb Tryz.prog seqB:=fun f ps L h=>by
 obtain ⟨rfl,R,rfl,hn,rfl⟩:=h;exact seq_ok (yN (fn:=[]) (fr:=[]) trivial trivial) Tryz.func105 rfl (by kernel_rfl) rfl (by kernel_rfl) (zU rfl) (z7C hn) fun _=>z8B R hn
theorem z9R {fn} (R:List zAJ):zAG ⟨tyL,fn,[]⟩ Tryz.f67 [(ETy.sl zG3).av R] (fun r=>r= .s (.clo 105 [⟨.sl zG3,R⟩])):=by
 repeat' (conv=>whnf
          first|done|refine qN ?_|apply qH|refine qG fun _=> ?_|apply qB|refine qy ?_|refine qw (fun _=> ?_) (fun _=> ?_)|apply qt|refine qi (fun _=> ?_) (fun _=> ?_)|refine zA rfl ?_|apply qE|apply qO|exact zO|refine qu ?_)
 all_goals try first|refine qz ?_|apply qz5
 all_goals try simp only [z6,zS,yE,zZ,qn1,z7,qn2,zX,ETy.dflt,qn3,qn4,Int.reduceToNat,Int.reduceAdd,Int.reduceSub,Int.reduceNeg,Nat.reduceAdd,zD] at *
def bwC:List AV->Option Res:=zEz (.sl zG3) (fun R=>some (none,none,.s (.clo 105 [⟨.sl zG3,R⟩])))
theorem z9C:qM Tryz.prog 67 bwC:=mkR (zA1 fun R r h=>by cases h;exact fb (fn:=[]) trivial Tryz.func67 fun _ _=>z9R R) Tryz.func67
inductive ChB (s:SoT):SoT->List zAJ->Prop
 | nil:ChB s s []
 | snoc {x y:SoT} {R:List zAJ} {r:zAJ} :ChB s y R->doR y r.1 r.2.1=(x,r,0)->ChB s x (R++[r])
theorem ChB.back {s x:SoT} {R:List zAJ} {r:zAJ} (h:ChB s x (R++[r])):(zBe x r).2=0/\ChB s (zBe x r).1 R:=by
 generalize e:R++[r]=Q at h;cases h with
 | nil=>simp at e
 | snoc h1 h2 =>
   obtain ⟨e1,e2⟩:=List.append_inj' e rfl;cases e2;subst e1;have:=zSW h2;rw [this];exact ⟨rfl,h1⟩
theorem ChB.zero {s x:SoT} (h:ChB s x []):x=s:=by
 generalize e:([]:List zAJ)=Q at h;cases h with
 | nil=>rfl
 | snoc=>simp at e
noncomputable def unS (x:SoT) (R:List zAJ):Nat->SoT
 | 0=>x
 | k+1=>(zBe (unS x R k) (R.getD (R.length - 1 - k) zOr)).1
theorem zKA {R:List zAJ} {k:Nat} (h:k<R.length):R.take (k+1)=R.take k++[R.getD k zOr]:=by
 rw [yB h,gdE,gE h];rfl
theorem zVf {s x:SoT} {R:List zAJ} (h:ChB s x R): ∀ k,k<=R.length->ChB s (unS x R k) (R.take (R.length - k))
 | 0,_=>by rw [Nat.sub_zero,List.take_length];exact h
 | k+1,hk=>by
   have ih:=zVf h k (by omega);rw [show R.length - k=(R.length - (k+1))+1 by omega,zKA (by omega)] at ih;have:=ih.back.2;unfold unS;rw [show R.length - 1 - k=R.length - (k+1) by omega];exact this
theorem z6O {s x:SoT} {R:List zAJ} (h:ChB s x R) {k:Nat} (hk:k<R.length):(zBe (unS x R k) (R.getD (R.length - 1 - k) zOr)).2=0:=by
 have ih:=zVf h k (by omega);rw [show R.length - k=(R.length - 1 - k)+1 by omega,zKA (by omega)] at ih;exact ih.back.1
theorem z32 {s x:SoT} {R:List zAJ} (h:ChB s x R):unS x R R.length=s:=by
 have:=zVf h R.length (zI _);rw [Nat.sub_self,List.take_zero] at this;exact this.zero
noncomputable def z2n (x:SoT) (R:List zAJ):Spec Nat where
 inv _:=True
 live _:=[]
 keep:=[1,2,4,5]
 heap k:=[(0,.flat 24 [.int .i64 (unS x R k).1,.sl .arr3 (unS x R k).2])]
 keepH:=[1,2,3,4]
 mu _:=0
theorem z3M {s x:SoT} {R:List zAJ} (h:ChB s x R) {k:Nat} (hk:k<(bwL R.length).length):(zBe (unS x R k) (R.getD ((bwL R.length).getD k 0).toNat zOr)).2=0:=by
 rw [zFN] at hk;have:=z6O h hk;rw [zPH hk,show ((R.length:Int) - 1 - k).toNat=R.length - 1 - k by omega];exact this
attribute [local irreducible] zBe unS
theorem z1d (n:Int) (l:List P3) (R:List zAJ) (s:SoT) (h:ChB s (n,l) R) (hn:R.length<=100000) (hl:l.length<=8192):zH7 ⟨tyL,[(64,zIF),(67,bwC),(68,zWc)],[]⟩ seqB Tryz.f25 [qP.av (n,l),(ETy.sl zG3).av R] (fun r=>r=zS4 (s,0)):=by
 repeat' (conv=>whnf
          first|done|refine qN ?_|apply qH|refine qG fun _=> ?_|apply qB|refine qy ?_|refine qw (fun _=> ?_) (fun _=> ?_)|apply qt|refine qi (fun _=> ?_) (fun _=> ?_)|refine zB (bwL R.length) (zA (yJ.out ?_) (zB (z2n (n,l) R) ?_))|(refine zA (fun X=> ?_) (fun X=> ?_))|(refine zA (zA ?_ (zA ?_ rfl)) (fun k hk=> ?_))|(refine zA ?_ (zA ?_ rfl))|exact absurd (z3M h hk) (by assumption)|refine zA rfl ?_|apply qE|apply qO|exact zO|refine qu ?_)
 all_goals try first|refine qz ?_|apply qz5
 all_goals try simp only [z6,zS,yE,zZ,qn1,z7,qn2,zX,ETy.dflt,qn3,qn4,Int.reduceToNat,Int.reduceAdd,Int.reduceSub,Int.reduceNeg,Nat.reduceAdd,zD,z2n] at *
 ·exact qh ⟨rfl,R,rfl,hn,rfl⟩
 ·rw [show unS (n,l) R 0=(n,l) by unfold unS;rfl];exact jL.intro rfl
 ·have e:unS (n,l) R (k+1)=(zBe (unS (n,l) R k) (R.getD ((bwL R.length).getD k 0).toNat zOr)).1:=by
   have hk1:k<R.length:=by rw [zFN] at hk;exact hk
   rw [zPH hk1,show ((R.length:Int) - 1 - k).toNat=R.length - 1 - k by omega];conv=>lhs;unfold unS
  rw [e];exact jL.intro rfl
 ·rw [zFN,z32 h];exact y9.intro rfl
def zY6 (s0:SoT):List AV->Option Res:=zCr qP (.sl zG3) (fun s R=>some (none,some (ChB s0 s R/\R.length<=100000/\s.2.length<=8192),zS4 (s0,0)))
theorem z1b (s0:SoT):qM Tryz.prog 25 (zY6 s0):=mkR (jD fun s R r h=>by
 cases h;exact zHL (yN (fn:=[(64,zIF),(67,bwC),(68,zWc)]) (fr:=[]) ⟨zMV,z9C,zYz,trivial⟩ trivial) z6h Tryz.func25 rfl (by kernel_rfl) (zU rfl) fun _ h=>z1d s.1 s.2 R s0 h.1 h.2.1 h.2.2) Tryz.func25
end S1
open Go Go.Vm Go.Proofs
namespace S1
abbrev EdB:=List (Int×Int)
def zJh (R:List zAJ) (e:Int×Int):Int×Int:=(zAV R e.1,zAV R e.2)
def doK (s:SoT) (l:EdB):Nat->SoT×List zAJ
 | 0=>(s,[])
 | k+1=>((doR (doK s l k).1 (zAV (doK s l k).2 (l.getD k (0,0)).1) (zAV (doK s l k).2 (l.getD k (0,0)).2)).1,
   (doK s l k).2++[(doR (doK s l k).1 (zAV (doK s l k).2 (l.getD k (0,0)).1) (zAV (doK s l k).2 (l.getD k (0,0)).2)).2.1])
theorem zOk (r:zAJ): ∀ (R:List zAJ) (v:Int),zAV (R++[r]) v=if zJs (zAV R v) r.1 r.2.1<0 then -1 else zJs (zAV R v) r.1 r.2.1
 | [],v=>by
   show zAV [r] v=_;unfold zAV;split
   ·rfl
   ·rfl
 | q::l,v=>by
   show zAV (q::(l++[r])) v=_;unfold zAV;split
   ·rw [if_pos (by unfold zJs;rw [if_pos (by decide)];decide)]
   ·exact zOk r l _
theorem zZb {s:SoT} {a b:Int} (hs:zBK s) (k:zBN s.2 a b):doE s a b=0/\(doR s a b).1=zZv s a b/\(doR s a b).2.1.1=a/\(doR s a b).2.1.2.1=b:=by
 have hi:=zCW hs k
 have h0:doE s a b=0:=by
  rw [zIA hs,if_pos ⟨hi.1,hi.2⟩,(zEm hs k).1];rfl
 rw [zSy h0];refine ⟨h0,?_,rfl,rfl⟩;show (s.1 - 1,drL a b s.2 s.2.length)=_;rw [zXa];rfl
theorem z82 {a v:Int} (hv:0<=v) (ha:0<=a):0<=dn a v:=by unfold dn;split<;>omega
theorem zIU {α:Type} {l:List α} {k:Nat} (d:α) (h:k<l.length):l.drop k=l.getD k d::l.drop (k+1):=by
 rw [List.drop_eq_getElem_cons h,gdE,gE h];rfl
structure z7x (s:SoT) (l:EdB) (k:Nat):Prop where
 bat:zFG (doK s l k).1 ((l.drop k).map (zJh (doK s l k).2))
 len:(doK s l k).2.length=k
 num:(doK s l k).1.1=s.1 - k
 ch:ChB s (doK s l k).1 (doK s l k).2
 ok:okR (doK s l k).2
 tri:(doK s l k).1.2.length<=s.2.length
theorem z1Q (a b:Int) (l:List P3):(zIZ a b l).length<=l.length:=by
 unfold zIZ;rw [yV];exact List.length_filter_le _ _
theorem zFT {s:SoT} {l:EdB} {k:Nat} (h:z7x s l k) (hk:k<l.length):(doR (doK s l k).1 (zAV (doK s l k).2 (l.getD k (0,0)).1) (zAV (doK s l k).2 (l.getD k (0,0)).2)).2.2=0/\
 (doK s l (k+1)).1=zZv (doK s l k).1 (zAV (doK s l k).2 (l.getD k (0,0)).1) (zAV (doK s l k).2 (l.getD k (0,0)).2)/\
 (∀ v,0<=zAV (doK s l k).2 v->zAV (doK s l (k+1)).2 v=dn (zAV (doK s l k).2 (l.getD k (0,0)).1) (ph (zAV (doK s l k).2 (l.getD k (0,0)).1) (zAV (doK s l k).2 (l.getD k (0,0)).2) (zAV (doK s l k).2 v))/\0<=zAV (doK s l (k+1)).2 v)/\z7x s l (k+1):=by
 have hb:=h.bat;rw [zIU (0,0) hk,List.map_cons] at hb;obtain ⟨a,ea⟩: ∃ a,a=zAV (doK s l k).2 (l.getD k (0,0)).1:=⟨_,rfl⟩;obtain ⟨b,eb⟩: ∃ b,b=zAV (doK s l k).2 (l.getD k (0,0)).2:=⟨_,rfl⟩;have hb:zFG (doK s l k).1 ((a,b)::(l.drop (k+1)).map (zJh (doK s l k).2)):=by rw [ea,eb];exact hb
 have hf:zBN (doK s l k).1.2 a b:=hb.free (a,b) (zY ..);have hi:=zCW hb.surf hf;have ia:0<=a/\a<(doK s l k).1.1:=hi.1;have ib:0<=b/\b<(doK s l k).1.1:=hi.2;obtain ⟨d1,d2,d3,d4⟩:=zZb hb.surf hf;have e1:(doK s l (k+1)).1=(doR (doK s l k).1 a b).1:=by rw [ea,eb];rfl
 have e2:(doK s l (k+1)).2=(doK s l k).2++[(doR (doK s l k).1 a b).2.1]:=by rw [ea,eb];rfl
 have hn: ∀ v,0<=zAV (doK s l k).2 v->zAV (doK s l (k+1)).2 v=dn a (ph a b (zAV (doK s l k).2 v))/\0<=zAV (doK s l (k+1)).2 v:=fun v hv=>by
  have hw:0<=dn a (ph a b (zAV (doK s l k).2 v)):=z82 (by unfold ph;split<;>omega) ia.1
  have e:zAV (doK s l (k+1)).2 v=dn a (ph a b (zAV (doK s l k).2 v)):=by
   rw [e2,zOk,d3,d4,zMP hv,if_neg (by omega)]
  exact ⟨e,by rw [e];exact hw⟩
 rw [<- ea,<- eb];refine ⟨by rw [zLI];exact d1,by rw [e1,d2],hn,⟨?_,?_,?_,?_,?_,?_⟩⟩
 ·have hs:=zXK hb;rw [e1,d2];rw [List.map_map] at hs
  have ec:(l.drop (k+1)).map (zJh (doK s l (k+1)).2)=(l.drop (k+1)).map (dn2 a ∘ zJh (doK s l k).2):=by
   refine List.map_congr_left fun e he=> ?_;have hm:zJh (doK s l k).2 e∈(l.drop (k+1)).map (zJh (doK s l k).2):=yC.2 ⟨e,he,rfl⟩;have hf2:zBN (doK s l k).1.2 (zJh (doK s l k).2 e).1 (zJh (doK s l k).2 e).2:=hb.free _ (zQ _ hm);have hap:=(List.pairwise_cons.1 hb.apart).1 _ hm;have hne:=zD1 hf2 hap;have hi2:=zCW hb.surf hf2;show (zAV _ e.1,zAV _ e.2)=(dn a (zAV _ e.1),dn a (zAV _ e.2));rw [(hn e.1 hi2.1.1).1,(hn e.2 hi2.2.1).1,zLT (show zAV _ e.1≠a from hne.1.1),zLT (show zAV _ e.2≠a from hne.2.1)]
  rw [ec];exact hs
 ·rw [e2,zN,h.len];rfl
 ·rw [e1,d2];show (doK s l k).1.1 - 1=_;rw [h.num];omega
 ·rw [e1,e2];refine .snoc h.ch ?_;rw [d3,d4];have e0:=zSy d1;rw [e0]
 ·intro r hr;rw [e2] at hr;rcases yD.1 hr with k|k
  ·exact h.ok r k
  ·rw [zF.1 k,d4];have:=hb.surf.fit.2.1;omega
 ·rw [e1,d2];show ((zIZ a b (doK s l k).1.2).map _).length<=_;rw [yV];exact Nat.le_trans (z1Q _ _ _) h.tri
theorem zFF {s:SoT} {l:EdB} (h:zFG s l): ∀ k,k<=l.length->z7x s l k
 | 0,_=>by
   refine ⟨?_,rfl,(Int.sub_zero _).symm,.nil,fun r hr=>(by cases hr),zI _⟩
   have e:(l.drop 0).map (zJh (doK s l 0).2)=l:=by
    rw [List.drop_zero];exact (List.map_congr_left (fun e _=>show (zAV [] e.1,zAV [] e.2)=e from rfl)).trans (List.map_id l)
   rw [e];exact h
 | k+1,hk=>(zFT (zFF h k (by omega)) (by omega)).2.2.2
end S1
open Go Go.Vm Go.Proofs
namespace S1
def zMj (o:Option yI.T) (l:List (Int×Int)):Bool:=match o with
 | some x=>decide (((zAh x l).length:Int)=l.length)
 | none=>false
attribute [local irreducible] zAh
theorem z69 (x:yI.T) (l:List (Int×Int)) (g:Full x) (hs:jV (InN x.1.1) x.1.2) (hl9:l.length<=100000):zAG ⟨tyL,[(22,zFe)],[]⟩ Tryz.f19 [(ETy.pt yI).av (some x),(ETy.sl .arr2).av l] (fun r=>r= .s (.bool (zMj (some x) l))):=by
 repeat' (conv=>whnf
          first|done|refine qN ?_|apply qH|refine qG fun _=> ?_|apply qB|refine qy ?_|refine qw (fun _=> ?_) (fun _=> ?_)|apply qt|refine qi (fun _=> ?_) (fun _=> ?_)|refine zA rfl ?_|apply qE|apply qO|exact zO|refine qu ?_)
 all_goals try first|refine qz ?_|apply qz5
 all_goals try simp only [z6,zS,yE,zZ,qn1,z7,qn2,zX,ETy.dflt,qn3,qn4,Int.reduceToNat,Int.reduceAdd,Int.reduceSub,Int.reduceNeg,Nat.reduceAdd,zD,zMj] at *
 all_goals try exact qh ⟨fun y h=>by cases h;exact ⟨g,hs⟩,hl9⟩
 all_goals (rw [Bool.eq_iff_iff,beq_iff_eq,zP];done)
theorem z3X (l:List (Int×Int)):zAG ⟨tyL,[(22,zFe)],[]⟩ Tryz.f19 [(ETy.pt yI).av none,(ETy.sl .arr2).av l] (fun r=>r= .s (.bool (zMj none l))):=by
 repeat' (conv=>whnf
          first|done|refine qN ?_|apply qH|refine qG fun _=> ?_|apply qB|refine qy ?_|refine qw (fun _=> ?_) (fun _=> ?_)|apply qt|refine qi (fun _=> ?_) (fun _=> ?_)|refine zA rfl ?_|apply qE|apply qO|exact zO|refine qu ?_)
 all_goals try first|refine qz ?_|apply qz5
 all_goals try simp only [z6,zS,yE,zZ,qn1,z7,qn2,zX,ETy.dflt,qn3,qn4,Int.reduceToNat,Int.reduceAdd,Int.reduceSub,Int.reduceNeg,Nat.reduceAdd,zD,zMj] at *
 all_goals try rfl
def z7L:List AV->Option Res:=zCr (.pt yI) (.sl .arr2) (fun o l=>some (none,some ((∀ x,o=some x->Full x/\jV (InN x.1.1) x.1.2)/\l.length<=100000),.s (.bool (zMj o l))))
theorem z2S:qM Tryz.prog 19 z7L:=mkR (jD fun o l r h=>by
 cases h;cases o with
 | none=>exact fb (fn:=[(22,zFe)]) ⟨zI8,trivial⟩ Tryz.func19 fun _ _=>z3X l
 | some x=>exact fb (fn:=[(22,zFe)]) ⟨zI8,trivial⟩ Tryz.func19 fun _ h=>z69 x l (h.1 x rfl).1 (h.1 x rfl).2 h.2) Tryz.func19
def zMh (s:SoT) (l:EdB):Int:=if isR s=true then (if zMj (some (zAa s)) l=true then 0 else 14) else 11
def doB (s:SoT) (l:EdB):SoT×List zAJ×Int:=if zMh s l=0 then ((doK s l l.length).1,(doK s l l.length).2,0) else ((0,[]),[],zMh s l)
def z84 (r:SoT×List zAJ×Int):AV:= .tup [qP.av r.1,.s (.sl zG3 r.2.1),.s (.int .i64 r.2.2)]
def z7h (r:SoT×List zAJ×Int):AV:=if r.2.2=0 then z84 r else .tup [.agg [.int .i64 0,.val (.slice none 0 0)],.s (.sl zG3 []),.s (.int .i64 r.2.2)]
theorem zSZ {s:SoT} {l:EdB} (h:zMh s l=0):doB s l=((doK s l l.length).1,(doK s l l.length).2,0):=if_pos h
theorem z7q {s:SoT} {l:EdB} {e:Int} (h:zMh s l=e) (he:e≠0):doB s l=((0,[]),[],e):=by unfold doB;rw [if_neg (by rw [h];exact he),h]
theorem z2W {s:SoT} {l:EdB} {e:Int} (h:zMh s l=e) (he:e≠0):z7h (doB s l)= .tup [.agg [.int .i64 0,.val (.slice none 0 0)],.s (.sl zG3 []),.s (.int .i64 e)]:=by
 rw [z7q h he];unfold z7h;rw [if_neg he]
theorem zQt {σ:Sig} {s:SoT} {l:EdB} {v:Value} (h:y6 σ [] (z7h (doB s l)) v):y6 σ [] (z84 (doB s l)) v:=by
 by_cases he:zMh s l=0
 ·rw [zSZ he] at *;exact h
 ·rw [z2W rfl he] at h;rw [z7q rfl he];obtain ⟨vs,e1,h⟩:=h
  match vs,h with
  | [x,y,z],⟨⟨ds,ea,h1⟩,h2,h3⟩ =>
    refine ⟨_,e1,⟨ds,ea,?_⟩,h2,h3⟩
    match ds,h1 with
    | [d1,d2],⟨k1,k2,k3⟩=>exact ⟨k1,zIo k2,k3⟩
theorem zGf {s:SoT} (hs:zBK s) {l:EdB} :zMj (some (zAa s)) l=true↔zFG s l:=by
 obtain ⟨_,g,e⟩:=zAu hs;have hm:jV (InN (zAa s).1.1) (zAa s).1.2:=zAc (s:=(zAa s).1) (by rw [e];exact hs);have:=zQM g hm (l:=l);unfold zMj;rw [zP];constructor
 ·intro h;have b:=this.1 (by omega);exact ⟨hs,by rw [<- e];exact b.free,by rw [<- e];exact b.apart⟩
 ·intro h;have:=this.2 ⟨by rw [e];exact h.free,by rw [e];exact h.apart⟩;omega
theorem z1L (s:SoT) (l:EdB) (k:Nat):doK s l (k+1)=((doR (doK s l k).1 (zAV (doK s l k).2 (l.getD k (0,0)).1) (zAV (doK s l k).2 (l.getD k (0,0)).2)).1,
 (doK s l k).2++[(doR (doK s l k).1 (zAV (doK s l k).2 (l.getD k (0,0)).1) (zAV (doK s l k).2 (l.getD k (0,0)).2)).2.1]):=rfl
theorem z4D (s:SoT) (l:EdB):doK s l 0=(s,[]):=rfl
def zWx (s:SoT) (l:EdB):Spec Nat where
 inv k:=k<=l.length
 live k:=[(35,.s (.int .i64 k)),(9,.s (.own 4 0 (doK s l k).2.length))]
 keep:=[2,4,33,34]
 heap k:=[(0,.flat 24 [.int .i64 (doK s l k).1.1,.sl .arr3 (doK s l k).1.2]),(4,.row zG3 103 (doK s l k).2)]
 keepH:=[1,2,3]
 mu k:=l.length - k
attribute [local irreducible] doR zAV doK zMj
theorem z75 (n:Int) (l:List P3) (es:EdB) (x:yI.T) (hx:zHP (n,l)=some x) (hl9:es.length<=100000):zAG ⟨tyL,[(54,zKs x),(19,z7L),(64,zIF),(66,z60),(65,z5p)],[]⟩ Tryz.f24 [qP.av (n,l),(ETy.sl .arr2).av es] (fun r=>r=z7h (doB (n,l) es)):=by
 obtain ⟨e0,g,hs⟩:=zHj hx
 repeat' (conv=>whnf
          first|done|refine qN ?_|apply qH|refine qG fun _=> ?_|apply qB|refine qy ?_|refine qw (fun _=> ?_) (fun _=> ?_)|apply qt|refine qi (fun _=> ?_) (fun _=> ?_)|(refine zaB 9 rfl (zWx (n,l) es) (0) ?_ ?_ ?_ fun k hk=> ?_)|with_reducible refine zaA (zWx _ _) (k+1) ?_ ?_ ?_ ?_|refine zA rfl ?_|apply qE|apply qO|exact zO|refine qu ?_)
 all_goals try first|refine qz ?_|apply qz5
 all_goals try simp only [z6,zS,yE,zZ,qn1,z7,qn2,zX,ETy.dflt,qn3,qn4,Int.reduceToNat,Int.reduceAdd,Int.reduceSub,Int.reduceNeg,Nat.reduceAdd,zD,zWx] at *
 all_goals have hsm:jV (InN x.1.1) x.1.2:=by
            obtain ⟨_,_,e⟩:=zAu hs;rw [e0];exact zAc (s:=(zAa (n,l)).1) (by rw [e];exact hs)
 all_goals try exact qh ⟨fun y h=>by cases h;exact ⟨g,hsm⟩,hl9⟩
 all_goals try
  have hB0:zMj (some x) es=false:=by assumption
  have h14:zMh (n,l) es=14:=by
        unfold zMh;rw [if_pos ((zB4 (n,l)).2 hs),<- e0,if_neg (by rw [hB0];decide)]
  exact y9.intro (z2W h14 (by decide)).symm
 all_goals have hB:zMj (some x) es=true:=by assumption
 all_goals have hb:zFG (n,l) es:=(zGf hs).1 (by rw [<- e0];exact hB)
 all_goals have h0:zMh (n,l) es=0:=by
            unfold zMh;rw [if_pos ((zB4 (n,l)).2 hs),<- e0,if_pos hB]
 all_goals try exact qh (show l.length<=8192 from hs.fit.2.2.1)
 all_goals try (refine qh ?_;omega)
 all_goals try first
  | (rw [z4D];done)
  | (rw [z4D];rfl)
  | (rw [z4D];exact jL.intro rfl)
 all_goals have hd:=zFF hb k hk
 all_goals have hdl:=hd.len
 all_goals try (refine qh ?_;omega)
 all_goals try
  have e9:k=List.length es:=by omega
  subst e9;refine y9.intro ?_;rw [zSZ h0];unfold z7h;rw [if_pos rfl];rfl
 all_goals have hk1:k<List.length es:=by omega
 all_goals have hst:=zFT hd hk1
 all_goals try exact absurd hst.1 (by assumption)
 all_goals try first
  | (rw [z1L,zN];done)
  | (rw [z1L,zN];rfl)
  | (rw [z1L];done)
  | (rw [z1L];exact jL.intro rfl)
 all_goals
  have hm : List.getD es k (0,0)∈es:=by
            rw [gdE,gE hk1];exact yQ hk1
  have hi:=zCW hs (hb.free _ hm);have hn: @LE.le Int _ n 4096:=hs.fit.2.1;have h1: @LE.le Int _ 0 (List.getD es k (0,0)).1/\@LT.lt Int _ (List.getD es k (0,0)).1 n:=hi.1;have h2: @LE.le Int _ 0 (List.getD es k (0,0)).2/\@LT.lt Int _ (List.getD es k (0,0)).2 n:=hi.2;exact qh ⟨⟨by omega,by omega⟩,hd.ok⟩
def z6P:List AV->Option Res:=zCr qP (.sl .arr2) (fun s es=>some (none,some (zBK s/\es.length<=100000),z84 (doB s es)))
theorem z2N:qM Tryz.prog 24 z6P:=mkR (jD fun s es r h=>by
 cases h;cases e:zHP s with
 | none=>exact zCn.res (fun σ vals w hag hv=>⟨trivial,fun hq=>absurd (zAu (show zBK s from hq.1)).1 (by rw [e];simp)⟩) fun σ v h=>zQt h
 | some x=>exact zCn.res (fb (fn:=[(54,zKs x),(19,z7L),(64,zIF),(66,z60),(65,z5p)]) ⟨(zMB x),z2S,zMV,z2u,zVA,trivial⟩ Tryz.func24 fun _ h=>z75 s.1 s.2 es x e h.2) fun σ v h=>zQt h) Tryz.func24
end S1
open Go Go.Vm Go.Proofs
namespace S9
open S1
@[irreducible] def zFd (t:P3) (v:Int):Bool:=t.1==v|| (t.2.1==v|| t.2.2==v)
@[irreducible] def zOj (t:P3) (a b:Int):Bool:=(t.1==a&&t.2.1==b)|| ((t.2.1==a&&t.2.2==b)|| (t.2.2==a&&t.1==b))
theorem zZf {fn} (t:P3) (a b:Int):zAG ⟨tyL,fn,[]⟩ Tryz.f178 [ETy.arr3.av t,(ETy.int .i64).av a,(ETy.int .i64).av b] (fun r=>r= .s (.bool (zOj t a b))):=by
 repeat' (conv=>whnf
          first|done|refine qN ?_|apply qH|refine qG fun _=> ?_|apply qB|refine qy ?_|refine qw (fun _=> ?_) (fun _=> ?_)|apply qt|refine qi (fun _=> ?_) (fun _=> ?_)|refine zA rfl ?_|apply qE|apply qO|exact zO|refine qu ?_)
 all_goals try first|refine qz ?_|apply qz5
 all_goals try simp only [z6,zS,yE,zZ,qn1,z7,qn2,zX,ETy.dflt,qn3,qn4,Int.reduceToNat,Int.reduceAdd,Int.reduceSub,Int.reduceNeg,Nat.reduceAdd,zD,zOj] at *
 all_goals rw [Bool.eq_iff_iff];simp only [Bool.or_eq_true,zC,beq_iff_eq,Bool.false_eq_true,true_iff,iff_true,false_iff,iff_false];omega
def zWV:List AV->Option Res:=zOw .arr3 (.int .i64) (.int .i64) (fun t a b=>some (none,none,.s (.bool (zOj t a b))))
theorem z1g:qM Tryz.prog 178 zWV:=mkR (zDZ fun t a b r h=>by cases h;exact fb (fn:=[]) trivial Tryz.func178 fun _ _=>zZf t a b) Tryz.func178
theorem z4X {fn} (t:P3) (v:Int):zAG ⟨tyL,fn,[]⟩ Tryz.f133 [ETy.arr3.av t,(ETy.int .i64).av v] (fun r=>r= .s (.bool (zFd t v))):=by
 repeat' (conv=>whnf
          first|done|refine qN ?_|apply qH|refine qG fun _=> ?_|apply qB|refine qy ?_|refine qw (fun _=> ?_) (fun _=> ?_)|apply qt|refine qi (fun _=> ?_) (fun _=> ?_)|refine zA rfl ?_|apply qE|apply qO|exact zO|refine qu ?_)
 all_goals try first|refine qz ?_|apply qz5
 all_goals try simp only [z6,zS,yE,zZ,qn1,z7,qn2,zX,ETy.dflt,qn3,qn4,Int.reduceToNat,Int.reduceAdd,Int.reduceSub,Int.reduceNeg,Nat.reduceAdd,zD,zFd] at *
 ·rename_i h;rw [h];simp
 ·rename_i h1 h;rw [h];simp
 ·rename_i h1 h2;rw [beq_false_of_ne h1,beq_false_of_ne h2];rfl
def zQI:List AV->Option Res:=zCr .arr3 (.int .i64) (fun t v=>some (none,none,.s (.bool (zFd t v))))
theorem zPc:qM Tryz.prog 133 zQI:=mkR (jD fun t v r h=>by cases h;exact fb (fn:=[]) trivial Tryz.func133 fun _ _=>z4X t v) Tryz.func133
@[irreducible] def zJb (t u:P3):Bool:=zOj u t.1 t.2.1|| (zOj u t.2.1 t.2.2|| zOj u t.2.2 t.1)
theorem zU9 (t u:P3):zAG ⟨tyL,[(178,zWV)],[]⟩ Tryz.f159 [ETy.arr3.av t,ETy.arr3.av u] (fun r=>r= .s (.bool (zJb t u))):=by
 repeat' (conv=>whnf
          first|done|refine qN ?_|apply qH|refine qG fun _=> ?_|apply qB|refine qy ?_|refine qw (fun _=> ?_) (fun _=> ?_)|apply qt|refine qi (fun _=> ?_) (fun _=> ?_)|refine zA rfl ?_|apply qE|apply qO|exact zO|refine qu ?_)
 all_goals try first|refine qz ?_|apply qz5
 all_goals try simp only [z6,zS,yE,zZ,qn1,z7,qn2,zX,ETy.dflt,qn3,qn4,Int.reduceToNat,Int.reduceAdd,Int.reduceSub,Int.reduceNeg,Nat.reduceAdd,zD,zJb] at *
 all_goals simp [*]
def zQY:List AV->Option Res:=zCr .arr3 .arr3 (fun t u=>some (none,none,.s (.bool (zJb t u))))
theorem zVj:qM Tryz.prog 159 zQY:=mkR (jD fun t u r h=>by cases h;exact fb (by exact ⟨z1g,trivial⟩) Tryz.func159 fun _ _=>zU9 t u) Tryz.func159
def zHq (n:Int):Nat->List P3->List Wit
 | _,[]=>[]
 | i,t::r=>if zCm n t then zHq n (i+1) r else (1,(i:Int),0)::zHq n (i+1) r
def zHN (s:Int×List P3):Bool:=decide (s.1<0)|| (decide (s.1>4096)|| decide ((s.2.length:Int)>8192))
def jF (s:Int×List P3):List Wit:=if zHN s then [(1,-1,0)] else zHq s.1 0 s.2
def zPj (n:Int) (l:List P3):Spec (Nat×List Wit) where
 inv x:=x.1<=l.length/\x.2.length<=x.1/\zHq n 0 l=x.2++zHq n x.1 (l.drop x.1)
 live x:=[(4,.s (.int .i64 x.1)),(3,.s (.own 2 0 x.2.length))]
 keep:=[1]
 heap x:=[(2,.row zB0 165 x.2)]
 keepH:=[0]
 mu x:=l.length - x.1
theorem zP6 {n:Int} {t:P3} (h:t.1<0\/t.1>=n\/t.2.1<0\/t.2.1>=n\/t.2.2<0\/t.2.2>=n):zCm n t=false:=by
 rw [<- Bool.not_eq_true];intro e;have:=zAH e;omega
theorem zG0 {n:Int} {t:P3} (h: ¬ (t.1<0\/t.1>=n\/t.2.1<0\/t.2.1>=n\/t.2.2<0\/t.2.2>=n)):zCm n t=true:=by
 simp only [zCm,vIn,zC,Bool.not_eq_true',Bool.or_eq_false_iff,yM];omega
theorem zVu {fn} (n:Int) (l:List P3):zFB ⟨tyL,fn,[]⟩ Tryz.f131 [qP.av (n,l)] (fun v obs=>v= .s (.own 0 0 (jF (n,l)).length)/\obs=[.row zB0 165 (jF (n,l))]):=by
 repeat' (conv=>whnf
          first|done|refine qN ?_|apply qH|refine qG fun _=> ?_|apply qB|refine qy ?_|refine qw (fun _=> ?_) (fun _=> ?_)|apply qt|refine qi (fun _=> ?_) (fun _=> ?_)|(refine zaB 5 rfl (zPj n l) ((0,[])) ?_ ?_ ?_ fun x hx=> ?_)|(refine qS 9 rfl ?_;refine Or.inl (zB (4) ?_))|with_reducible refine zaA (zPj _ _) ((x.1+1,if zCm n (l.getD x.1 (0,0,0)) then x.2 else x.2++[(1,(x.1:Int),0)])) ?_ ?_ ?_ ?_|refine zA rfl ?_|apply qE|apply qO|exact zO|refine qu ?_)
 all_goals try first|refine qz ?_|apply qz5
 all_goals try simp only [z6,zS,yE,zZ,qn1,z7,qn2,zX,ETy.dflt,qn3,qn4,Int.reduceToNat,Int.reduceAdd,Int.reduceSub,Int.reduceNeg,Nat.reduceAdd,zD,zPj] at *
 all_goals try (refine qh ?_;omega)
 all_goals try (refine qh ?_;simp only [List.length_singleton];omega)
 ·rename_i h;simp only [jF,zHN,decide_eq_true h,Bool.true_or,if_true];rfl
 ·rename_i h;simp only [jF,zHN,decide_eq_true h,Bool.true_or,if_true]
 ·rename_i h;simp only [jF,zHN,decide_eq_true h,Bool.true_or,Bool.or_true,if_true];rfl
 ·rename_i h;simp only [jF,zHN,decide_eq_true h,Bool.true_or,Bool.or_true,if_true]
 ·rename_i h;simp only [jF,zHN,decide_eq_true h,Bool.true_or,Bool.or_true,if_true];rfl
 ·rename_i h;simp only [jF,zHN,decide_eq_true h,Bool.true_or,Bool.or_true,if_true]
 ·exact qh ⟨Nat.zero_le _,zI _,rfl⟩
 all_goals try
  (have ht:zCm n (l.getD x.1 (0,0,0))=false:=zP6 (by omega)
   (simp only [ht,Bool.false_eq_true,if_false,zN,List.length_singleton]) <;>
   (refine yJ.intro ⟨by omega,by omega,?_⟩;rw [hx.2.2,zBU (0,0,0) (by assumption),zHq,ht];simp;done))
 all_goals try
  (have ht:zCm n (l.getD x.1 (0,0,0))=true:=zG0 (by omega)
   (simp only [ht,if_true]) <;>
   (refine yJ.intro ⟨by omega,by omega,?_⟩;rw [hx.2.2,zBU (0,0,0) (by assumption),zHq,ht];simp;done))
 all_goals
  have e:jF (n,l)=x.2:=by
   have hb:zHN (n,l)=false:=by simp only [zHN,Bool.or_eq_false_iff,yM];omega
   simp only [jF,hb,Bool.false_eq_true,if_false];rw [hx.2.2,zE9 (by assumption)];simp [zHq]
  rw [e]
def zQD:List AV->Option zKQ:=zEz qP (fun s=>some (none,none,.s (.own 0 0 (jF s).length),[.row zB0 165 (jF s)]))
theorem zVF:zDM Tryz.prog 131 zQD:=zaw (zCC fun s r h=>by cases h;exact fbF (fn:=[]) trivial Tryz.func131 fun _ _=>zVu s.1 s.2) Tryz.func131
end S9
open Go Go.Vm Go.Proofs
namespace S9
open S1
@[irreducible] def ptR (k:Int) (t u:P3):Bool:=(k==3&&zJb t u)|| (k==4&&(zFd u t.1&&(zFd u t.2.1&&zFd u t.2.2)))
def prG (l:List P3) (k:Int) (b a:Nat):Option Wit:=if ptR k (l.getD a (0,0,0)) (l.getD b (0,0,0)) then some (k,(a:Int),(b:Int)) else none
def prI (l:List P3) (k:Int) (b a:Nat):List Wit:=(List.range a).filterMap (prG l k b)
def prO (l:List P3) (k:Int) (b:Nat):List Wit:=(List.range b).flatMap fun b=>prI l k b b
theorem zMR (l:List P3) (k:Int) (b a:Nat):prI l k b (a+1)=prI l k b a++(prG l k b a).toList:=by
 unfold prI;rw [List.range_succ,List.filterMap_append];simp only [List.filterMap_cons,List.filterMap_nil];cases prG l k b a<;>rfl
theorem zRe (l:List P3) (k:Int) (b:Nat):prO l k (b+1)=prO l k b++prI l k b b:=by
 unfold prO;rw [List.range_succ,List.flatMap_append];simp
theorem zVB (l:List P3) (k:Int) (b a:Nat):(prI l k b a).length<=a:=by
 unfold prI;exact Nat.le_trans (List.length_filterMap_le _ _) (by simp)
theorem zWA (l:List P3) (k:Int): ∀ b:Nat,b<=8192->(prO l k b).length<=b*8192
 | 0,_=>by simp [prO]
 | b+1,h=>by
   rw [zRe,zN];have:=zWA l k b (by omega);have:=zVB l k b b;omega
def zFJ (l:List P3) (k:Int):Spec Nat where
 inv b:=b<=l.length
 live b:=[(6,.s (.int .i64 b)),(5,.s (.own 2 0 (prO l k b).length))]
 keep:=[1,2]
 heap b:=[(2,.row zB0 165 (prO l k b))]
 keepH:=[0]
 mu b:=l.length - b
def zFE (l:List P3) (k:Int) (b:Nat):Spec Nat where
 inv a:=a<=b
 live a:=[(7,.s (.int .i64 a)),(5,.s (.own 2 0 (prO l k b++prI l k b a).length))]
 keep:=[1,2,6]
 heap a:=[(2,.row zB0 165 (prO l k b++prI l k b a))]
 keepH:=[0]
 mu a:=b - a
theorem zTw (n:Int) (l:List P3) (k:Int) (hl:l.length<=8192):zFB ⟨tyL,[(159,zQY),(133,zQI)],[]⟩ Tryz.f132 [qP.av (n,l),(ETy.int .i64).av k] (fun v obs=>v= .s (.own 0 0 (prO l k l.length).length)/\obs=[.row zB0 165 (prO l k l.length)]):=by
 repeat' (conv=>whnf
          first|done|refine qN ?_|apply qH|refine qG fun _=> ?_|apply qB|refine qy ?_|refine qw (fun _=> ?_) (fun _=> ?_)|apply qt|refine qi (fun _=> ?_) (fun _=> ?_)|(refine zaB 3 rfl (zFJ l k) (0) ?_ ?_ ?_ fun b hb=> ?_)|with_reducible refine zaA (zFJ _ _) (b+1) ?_ ?_ ?_ ?_|(refine zaB 6 rfl (zFE l k b) (0) ?_ ?_ ?_ fun a ha=> ?_)|with_reducible refine zaA (zFE _ _ _) (a+1) ?_ ?_ ?_ ?_|refine zA rfl ?_|apply qE|apply qO|exact zO|refine qu ?_)
 all_goals try first|refine qz ?_|apply qz5
 all_goals try simp only [z6,zS,yE,zZ,qn1,z7,qn2,zX,ETy.dflt,qn3,qn4,Int.reduceToNat,Int.reduceAdd,Int.reduceSub,Int.reduceNeg,Nat.reduceAdd,zD,zFJ,zFE] at *
 all_goals try (refine qh ?_;omega)
 all_goals try
  (have h1:=zWA l k b (by omega)
   have h2:=zVB l k b a
   refine qh ?_;rw [zN];omega)
 all_goals try (simp [prI];done)
 all_goals try (exfalso;omega)
 all_goals try
  (have hp:ptR k (l.getD a (0,0,0)) (l.getD b (0,0,0))=true:=by unfold ptR;simp only [*];simp
   rw [zMR,prG,if_pos hp];simp [Nat.add_assoc];done)
 all_goals try
  (have hp:ptR k (l.getD a (0,0,0)) (l.getD b (0,0,0))=false:=by unfold ptR;simp only [*];simp [*]
   rw [zMR,prG,if_neg (by rw [hp];decide)];simp;done)
 all_goals try
  (have hp:ptR k (l.getD a (0,0,0)) (l.getD b (0,0,0))=false:=by
    unfold ptR;rw [beq_false_of_ne (by assumption:k≠3),beq_false_of_ne (by assumption:k≠4)];rfl
   rw [zMR,prG,if_neg (by rw [hp];decide)];simp;done)
 all_goals try
  (have e:a=b:=by omega
   subst e;rw [zRe])
 all_goals
  have e:b=l.length:=by omega
  rw [e]
def zP3:List AV->Option zKQ:=zCr qP (.int .i64) (fun s k=>some (none,some (s.2.length<=8192),.s (.own 0 0 (prO s.2 k s.2.length).length),[.row zB0 165 (prO s.2 k s.2.length)]))
theorem zXe:zDM Tryz.prog 132 zP3:=zaw (zSK fun s k r h=>by cases h;exact fbF (by exact ⟨zVj,zPc,trivial⟩) Tryz.func132 fun _ h=>zTw s.1 s.2 k h) Tryz.func132
def zAX (l:List P3) (v:Int):List P3:=l.filter (zFd · v)
def tch (v w:Int) (u:P3):Bool:=decide (w≠v)&&zFd u w
@[irreducible] def touch (m:List P3) (v:Int) (i k:Nat):Bool :=
  tch v (m.getD i (0,0,0)).1 (m.getD k (0,0,0))|| (tch v (m.getD i (0,0,0)).2.1 (m.getD k (0,0,0))|| tch v (m.getD i (0,0,0)).2.2 (m.getD k (0,0,0)))
def pk (m:List P3) (v:Int) (i:Nat) (s:List Bool) (k:Nat):List Bool:=if s.getD i false=false\/s.getD k false=true then s else if touch m v i k then s.set k true else s
def zH5 (m:List P3) (v:Int) (i:Nat) (s:List Bool) (k:Nat):List Bool:=(List.range k).foldl (pk m v i) s
def zGm (m:List P3) (v:Int) (s:List Bool) (i:Nat):List Bool:=(List.range i).foldl (fun s i=>zH5 m v i s m.length) s
def zF9 (m:List P3) (v:Int) (r:Nat):List Bool:=(List.range r).foldl (fun s _=>zGm m v s m.length) ((List.replicate m.length false).set 0 true)
@[irreducible] def zFI (l:List P3) (v:Int):Bool:= !(List.range (zAX l v).length).all fun j=>(zF9 (zAX l v) v (zAX l v).length).getD j false
theorem zAq (m:List P3) (v:Int) (i:Nat) (s:List Bool) (k:Nat):zH5 m v i s (k+1)=pk m v i (zH5 m v i s k) k:=by
 unfold zH5;rw [List.range_succ,List.foldl_append];rfl
theorem zCM (m:List P3) (v:Int) (s:List Bool) (i:Nat):zGm m v s (i+1)=zH5 m v i (zGm m v s i) m.length:=by
 unfold zGm;rw [List.range_succ,List.foldl_append];rfl
theorem zBb (m:List P3) (v:Int) (r:Nat):zF9 m v (r+1)=zGm m v (zF9 m v r) m.length:=by
 unfold zF9;rw [List.range_succ,List.foldl_append];rfl
theorem zEx (l:List P3) (v:Int) {i:Nat} (h:(i:Int)<l.length):zAX (l.take (i+1)) v=zAX (l.take i) v++(if zFd (l.getD i (0,0,0)) v then [l.getD i (0,0,0)] else []):=by
 have h:i<l.length:=by omega
 unfold zAX;rw [List.take_add_one,List.filter_append,gdE,gE h];simp only [Option.toList_some,Option.getD_some,List.filter_cons,List.filter_nil]
theorem zUC (l:List P3) (v:Int) (i:Nat):(zAX (l.take i) v).length<=l.length:=by
 unfold zAX;exact Nat.le_trans (List.length_filter_le _ _) (by simp;omega)
theorem zM2 {s:List Bool} {i k:Nat} (h1:s.getD i false=true) (h2:s.getD k false=false): ¬ (s.getD i false=false\/s.getD k false=true):=by
 rw [h1,h2];decide
theorem z5Q {m:List P3} {v:Int} {i k:Nat} (h:((m.getD i (0,0,0)).1≠v/\zFd (m.getD k (0,0,0)) (m.getD i (0,0,0)).1=true)\/((m.getD i (0,0,0)).2.1≠v/\zFd (m.getD k (0,0,0)) (m.getD i (0,0,0)).2.1=true)\/
 ((m.getD i (0,0,0)).2.2≠v/\zFd (m.getD k (0,0,0)) (m.getD i (0,0,0)).2.2=true)):touch m v i k=true:=by
 unfold touch tch;simp only [Bool.or_eq_true,zC,zP];exact h
theorem z3C {m:List P3} {v:Int} {i k:Nat} (h1:(m.getD i (0,0,0)).1=v\/zFd (m.getD k (0,0,0)) (m.getD i (0,0,0)).1=false) (h2:(m.getD i (0,0,0)).2.1=v\/zFd (m.getD k (0,0,0)) (m.getD i (0,0,0)).2.1=false)
 (h3:(m.getD i (0,0,0)).2.2=v\/zFd (m.getD k (0,0,0)) (m.getD i (0,0,0)).2.2=false): ¬ touch m v i k=true:=by
 have key: ∀ {w:Int} {u:P3},w=v\/zFd u w=false->¬ (w≠v/\zFd u w=true):=by
  rintro w u (h|h) ⟨a,b⟩
  ·exact a h
  ·rw [h] at b;cases b
 unfold touch tch;simp only [Bool.or_eq_true,zC,zP];rintro (h|h|h)
 ·exact key h1 h
 ·exact key h2 h
 ·exact key h3 h
def zJZ (l:List P3) (v:Int):Spec Nat where
 inv i:=i<=l.length
 live i:=[(6,.s (.int .i64 i)),(5,.s (.own 1 0 (zAX (l.take i) v).length))]
 keep:=[1,2]
 heap i:=[(1,.row .arr3 86 (zAX (l.take i) v))]
 keepH:=[0]
 mu i:=l.length - i
def zIJ (m:List P3) (v:Int):Spec Nat where
 inv r:=r<=m.length
 live r:=[(45,.s (.int .i64 r))]
 keep:=[1,5,7,44]
 heap r:=[(2,.row .bool 4 (zF9 m v r))]
 keepH:=[1]
 mu r:=m.length - r
def zWX (m:List P3) (v:Int) (s:List Bool):Spec Nat where
 inv i:=i<=m.length
 live i:=[(8,.s (.int .i64 i))]
 keep:=[1,5,7,44,45]
 heap i:=[(2,.row .bool 4 (zGm m v s i))]
 keepH:=[1]
 mu i:=m.length - i
def zXn (m:List P3) (v:Int) (i:Nat) (s:List Bool):Spec Nat where
 inv k:=k<=m.length
 live k:=[(9,.s (.int .i64 k))]
 keep:=[1,5,7,8,44,45]
 heap k:=[(2,.row .bool 4 (zH5 m v i s k))]
 keepH:=[1]
 mu k:=m.length - k
def zXz (n:Nat) (s:List Bool):Spec Nat where
 inv i:=i<=n/\∀ j,j<i->s.getD j false=true
 live i:=[(12,.s (.int .i64 i))]
 keep:=[1,5,7]
 heap _:=[]
 keepH:=[1,2]
 mu i:=n - i
theorem zWC (n:Int) (l:List P3) (v:Int) (hl:l.length<=8192):zAG ⟨tyL,[(133,zQI)],[]⟩ Tryz.f134 [qP.av (n,l),(ETy.int .i64).av v] (fun r=>r= .s (.bool (zFI l v))):=by
 repeat' (conv=>whnf
          first|done|refine qN ?_|apply qH|refine qG fun _=> ?_|apply qB|refine qy ?_|refine qw (fun _=> ?_) (fun _=> ?_)|apply qt|refine qi (fun _=> ?_) (fun _=> ?_)|(refine zaB 3 rfl (zJZ l v) (0) ?_ ?_ ?_ fun i hi=> ?_)|with_reducible refine zaA (zJZ _ _) (i+1) ?_ ?_ ?_ ?_|(refine zaB 12 rfl (zIJ (zAX (l.take i) v) v) (0) ?_ ?_ ?_ fun r hr=> ?_)|with_reducible refine zaA (zIJ _ _) (r+1) ?_ ?_ ?_ ?_|(refine zaB 14 rfl (zWX (zAX (l.take i) v) v (zF9 (zAX (l.take i) v) v r)) (0) ?_ ?_ ?_ fun x hx=> ?_)|with_reducible refine zaA (zWX _ _ _) (x+1) ?_ ?_ ?_ ?_|(refine zaB 17 rfl (zXn (zAX (l.take i) v) v x (zGm (zAX (l.take i) v) v (zF9 (zAX (l.take i) v) v r) x)) (0) ?_ ?_ ?_ fun k hk=> ?_)|with_reducible refine zaA (zXn _ _ _ _) (k+1) ?_ ?_ ?_ ?_|(refine qS 21 rfl ?_;refine Or.inl (zB (4) ?_))|(refine zaB 28 rfl (zXz (zAX (l.take i) v).length (zF9 (zAX (l.take i) v) v r)) (0) ?_ ?_ ?_ fun y hy=> ?_)|with_reducible refine zaA (zXz _ _) (y+1) ?_ ?_ ?_ ?_|refine zA rfl ?_|apply qE|apply qO|exact zO|refine qu ?_)
 all_goals try first|refine qz ?_|apply qz5
 all_goals try simp only [z6,zS,yE,zZ,qn1,z7,qn2,zX,ETy.dflt,qn3,qn4,Int.reduceToNat,Int.reduceAdd,Int.reduceSub,Int.reduceNeg,Nat.reduceAdd,zD,zJZ,zIJ,zWX,zXn,zXz] at *
 all_goals try (refine qh ?_;omega)
 all_goals try rfl
 all_goals try
  (have h:=zUC l v i
   refine qh ?_;omega)
 all_goals try (rw [zAq,pk,if_pos (Or.inl (by assumption))];done)
 all_goals try (rw [zAq,pk,if_pos (Or.inr (by assumption))];done)
 all_goals try (rw [zAq,pk,if_neg (zM2 (by assumption) (by assumption)),if_pos (z5Q (by first|exact .inl ⟨by assumption,by assumption⟩|exact .inr (.inl ⟨by assumption,by assumption⟩)|exact .inr (.inr ⟨by assumption,by assumption⟩)))];(try simp only [List.set_set]);done)
 all_goals try (rw [zAq,pk,if_neg (zM2 (by assumption) (by assumption)),if_neg (z3C (by first|exact .inl (by assumption)|exact .inr (by assumption)) (by first|exact .inl (by assumption)|exact .inr (by assumption)) (by first|exact .inl (by assumption)|exact .inr (by assumption)))];done)
 all_goals try
  (have e:k=(zAX (l.take i) v).length:=by omega
   rw [zCM,<- e];done)
 all_goals try
  (have e:x=(zAX (l.take i) v).length:=by omega
   rw [zBb,<- e];done)
 ·rw [zEx _ _ (by assumption),if_pos (by assumption)];simp
 ·rw [zEx _ _ (by assumption),if_pos (by assumption)]
 ·rw [zEx _ _ (by assumption),if_neg (by rw [‹zFd _ _=false›];decide)];simp
 ·rw [zEx _ _ (by assumption),if_neg (by rw [‹zFd _ _=false›];decide)];simp
 ·have e:l.take i=l:=List.take_of_length_le (by omega);rename_i h;rw [e] at h;have h:(zAX l v).length=0:=by omega
  unfold zFI;rw [h];rfl
 ·exact qh ⟨Nat.zero_le _,fun j hj=>absurd hj (by omega)⟩
 ·refine yJ.intro ⟨by omega,fun j hj=> ?_⟩
  by_cases e:j=y
  ·subst e;assumption
  ·exact hy.2 j (by omega)
 all_goals
  have e:l.take i=l:=List.take_of_length_le (by omega);have er:r=(zAX (l.take i) v).length:=by omega
  rw [er] at hy;rw [e] at hy
 ·rename_i h;have hyl:y<(zAX l v).length:=by rw [<- e];omega
  rw [er,e] at h;unfold zFI;symm;rw [Bool.not_eq_true',<- Bool.not_eq_true,zJ];intro hh;rw [hh y (zV.2 hyl)] at h;cases h
 ·rename_i h;rw [e] at h;have hyl:(zAX l v).length<=y:=by omega
  unfold zFI;symm;rw [Bool.not_eq_false',zJ];intro j hj;exact hy.2 j (by have:=zV.1 hj;omega)
def zPi:List AV->Option Res:=zCr qP (.int .i64) (fun s v=>some (none,some (s.2.length<=8192),.s (.bool (zFI s.2 v))))
theorem zYT:qM Tryz.prog 134 zPi:=mkR (jD fun s v r h=>by cases h;exact fb (by exact ⟨zPc,trivial⟩) Tryz.func134 fun _ h=>zWC s.1 s.2 v h) Tryz.func134
end S9
open Go Go.Vm Go.Proofs
namespace S9
open S1
theorem zZ1 {l:List P3} {f:P3->Bool} {b z:Bool} {x:Nat} (hi:x<=l.length/\(b|| l.any f)=(z|| (l.drop x).any f)) (h:(x:Int)<l.length):x+1<=l.length/\(b|| l.any f)=(z|| f (l.getD x (0,0,0))|| (l.drop (x+1)).any f) :=
 ⟨by omega,by rw [hi.2,zBU (0,0,0) h,List.any_cons,Bool.or_assoc]⟩
theorem z59 {l:List P3} {f:P3->Bool} {b z:Bool} {x:Nat} (hi:x<=l.length/\(b|| l.any f)=(z|| (l.drop x).any f)) (h: ¬ (x:Int)<l.length):(b|| l.any f)=z:=by
 rw [hi.2,zE9 h];simp
@[irreducible] def zMi (t:P3):Bool:=t.1==t.2.1|| (t.2.1==t.2.2|| t.2.2==t.1)
def dgG (l:List P3) (i:Nat):Option Wit:=if zMi (l.getD i (0,0,0)) then some (2,(i:Int),0) else none
def dgL (l:List P3) (i:Nat):List Wit:=(List.range i).filterMap (dgG l)
def loG (l:List P3) (v:Nat):Option Wit:=if l.any (zFd · v) then none else some (5,(v:Int),0)
def loL (l:List P3) (v:Nat):List Wit:=(List.range v).filterMap (loG l)
def piG (l:List P3) (v:Nat):Option Wit:=if zFI l v then some (6,(v:Int),0) else none
def piL (l:List P3) (v:Nat):List Wit:=(List.range v).filterMap (piG l)
def allR (s:Int×List P3):List Wit :=
 if 0<(jF s).length then jF s else if 0<(dgL s.2 s.2.length).length then dgL s.2 s.2.length else if 0<(prO s.2 3 s.2.length).length then prO s.2 3 s.2.length else
 if 0<(prO s.2 4 s.2.length).length then prO s.2 4 s.2.length else if 0<(loL s.2 s.1.toNat).length then loL s.2 s.1.toNat else piL s.2 s.1.toNat
theorem q9 {α:Type _} (f:Nat->Option α) (i:Nat):(List.range (i+1)).filterMap f=(List.range i).filterMap f++(f i).toList:=by
 rw [List.range_succ,List.filterMap_append];simp only [List.filterMap_cons,List.filterMap_nil];cases f i<;>rfl
theorem zC7 {α:Type _} (f:Nat->Option α) (i:Nat):((List.range i).filterMap f).length<=i:=Nat.le_trans (List.length_filterMap_le _ _) (by simp)
theorem zF3 {s:Int×List P3} (h: ¬ ((jF s).length:Int)>0):zHN s=false/\jF s=[]:=by
 have h:(jF s).length=0:=by omega
 refine ⟨?_,List.eq_nil_of_length_eq_zero h⟩;cases hb:zHN s with
 | false=>rfl
 | true=>unfold jF at h;rw [hb] at h;simp at h
theorem zL7 {n:Int} {l:List P3} (h:zHN (n,l)=false):0<=n/\n<=4096/\l.length<=8192:=by
 simp only [zHN,Bool.or_eq_false_iff,yM] at h;omega
theorem zWp {t:P3} (h:t.1=t.2.1\/t.2.1=t.2.2\/t.2.2=t.1):zMi t=true:=by
 unfold zMi;simp only [Bool.or_eq_true,beq_iff_eq];exact h
theorem zZ3 {t:P3} (h1:t.1≠t.2.1) (h2:t.2.1≠t.2.2) (h3:t.2.2≠t.1):zMi t=false:=by
 unfold zMi;rw [beq_false_of_ne h1,beq_false_of_ne h2,beq_false_of_ne h3];rfl
theorem z9a {l:List P3} {i:Nat} (h:zMi (l.getD i (0,0,0))=true):dgL l (i+1)=dgL l i++[(2,(i:Int),0)]:=by
 unfold dgL;rw [q9,dgG,if_pos h];rfl
theorem z98 {l:List P3} {i:Nat} (h:zMi (l.getD i (0,0,0))=false):dgL l (i+1)=dgL l i:=by
 unfold dgL;rw [q9,dgG,if_neg (by rw [h];decide)];simp
theorem z9N {l:List P3} {v:Nat} (h:(l.any (zFd · v))=true):loL l (v+1)=loL l v:=by
 unfold loL;rw [q9,loG,if_pos h];simp
theorem z95 {l:List P3} {v:Nat} (h:(l.any (zFd · v))=false):loL l (v+1)=loL l v++[(5,(v:Int),0)]:=by
 unfold loL;rw [q9,loG,if_neg (by rw [h];decide)];rfl
theorem z8t {l:List P3} {v:Nat} (h:zFI l v=true):piL l (v+1)=piL l v++[(6,(v:Int),0)]:=by
 unfold piL;rw [q9,piG,if_pos h];rfl
theorem z8a {l:List P3} {v:Nat} (h:zFI l v=false):piL l (v+1)=piL l v:=by
 unfold piL;rw [q9,piG,if_neg (by rw [h];decide)];simp
section
variable {n:Int} {l:List P3}
theorem z97 (h:((jF (n,l)).length:Int)>0):allR (n,l)=jF (n,l):=by
 unfold allR;rw [if_pos (by omega)]
theorem z9I (h1: ¬ ((jF (n,l)).length:Int)>0) {i:Nat} (hi:i=l.length) (h2:((dgL l i).length:Int)>0):allR (n,l)=dgL l i:=by
 subst hi;unfold allR;rw [if_neg (by omega),if_pos (by dsimp only;omega)]
theorem z8Z (h1: ¬ ((jF (n,l)).length:Int)>0) {i:Nat} (hi:i=l.length) (h2: ¬ ((dgL l i).length:Int)>0) (h3:((prO l 3 l.length).length:Int)>0):allR (n,l)=prO l 3 l.length:=by
 subst hi;unfold allR;rw [if_neg (by omega),if_neg (by dsimp only;omega),if_pos (by dsimp only;omega)]
theorem z9E (h1: ¬ ((jF (n,l)).length:Int)>0) {i:Nat} (hi:i=l.length) (h2: ¬ ((dgL l i).length:Int)>0) (h3: ¬ ((prO l 3 l.length).length:Int)>0) (h4:((prO l 4 l.length).length:Int)>0):allR (n,l)=prO l 4 l.length:=by
 subst hi;unfold allR;rw [if_neg (by omega),if_neg (by dsimp only;omega),if_neg (by dsimp only;omega),if_pos (by dsimp only;omega)]
theorem z88 (h1: ¬ ((jF (n,l)).length:Int)>0) {i:Nat} (hi:i=l.length) (h2: ¬ ((dgL l i).length:Int)>0) (h3: ¬ ((prO l 3 l.length).length:Int)>0) (h4: ¬ ((prO l 4 l.length).length:Int)>0) {v:Nat} (hv:v=n.toNat) (h5:((loL l v).length:Int)>0):allR (n,l)=loL l v:=by
 subst hi;subst hv;unfold allR;rw [if_neg (by omega),if_neg (by dsimp only;omega),if_neg (by dsimp only;omega),if_neg (by dsimp only;omega),if_pos (by dsimp only;omega)]
theorem z93 (h1: ¬ ((jF (n,l)).length:Int)>0) {i:Nat} (hi:i=l.length) (h2: ¬ ((dgL l i).length:Int)>0) (h3: ¬ ((prO l 3 l.length).length:Int)>0) (h4: ¬ ((prO l 4 l.length).length:Int)>0) {v:Nat} (hv:v=n.toNat) (h5: ¬ ((loL l v).length:Int)>0) {y:Nat} (hy:y=n.toNat):allR (n,l)=piL l y:=by
 subst hi;subst hv;subst hy;unfold allR;rw [if_neg (by omega),if_neg (by dsimp only;omega),if_neg (by dsimp only;omega),if_neg (by dsimp only;omega),if_neg (by dsimp only;omega)]
end
def zTg (l:List P3):Spec Nat where
 inv i:=i<=l.length
 live i:=[(4,.s (.int .i64 i)),(3,.s (.own 2 0 (dgL l i).length))]
 keep:=[1]
 heap i:=[(2,.row zB0 165 (dgL l i))]
 keepH:=[0]
 mu i:=l.length - i
def zTv (n:Int) (l:List P3):Spec Nat where
 inv v:=(v:Int)<=n
 live v:=[(6,.s (.int .i64 v)),(3,.s (.own 4 0 (loL l v).length))]
 keep:=[1]
 heap v:=[(4,.row zB0 165 (loL l v))]
 keepH:=[0]
 mu v:=n.toNat - v
def zUz (l:List P3) (v:Nat):Spec (Nat×Bool) where
 inv x:=x.1<=l.length/\(false|| l.any (zFd · v))=(x.2|| (l.drop x.1).any (zFd · v))
 live x:=[(8,.s (.int .i64 x.1)),(7,.s (.bool x.2))]
 keep:=[1,3,6]
 heap _:=[]
 keepH:=[0,4]
 mu x:=l.length - x.1
def zUu (n:Int) (l:List P3):Spec Nat where
 inv v:=(v:Int)<=n
 live v:=[(9,.s (.int .i64 v)),(3,.s (.own 4 0 (piL l v).length))]
 keep:=[1]
 heap v:=[(4,.row zB0 165 (piL l v))]
 keepH:=[0]
 mu v:=n.toNat - v
theorem z5R (n:Int) (l:List P3):zFB ⟨tyL,[(133,zQI),(134,zPi)],[(131,.res zQD),(132,.res zP3)]⟩ Tryz.f92 [qP.av (n,l)] (fun v obs=>v= .s (.own 0 0 (allR (n,l)).length)/\obs=[.row zB0 165 (allR (n,l))]):=by
 repeat' (conv=>whnf
          first|done|refine qN ?_|apply qH|refine qG fun _=> ?_|apply qB|refine qy ?_|refine qw (fun _=> ?_) (fun _=> ?_)|apply qt|refine qi (fun _=> ?_) (fun _=> ?_)|(refine zaB 5 rfl (zTg l) (0) ?_ ?_ ?_ fun i hi=> ?_)|with_reducible refine zaA (zTg _) (i+1) ?_ ?_ ?_ ?_|(refine zaB 19 rfl (zTv n l) (0) ?_ ?_ ?_ fun v hv=> ?_)|with_reducible refine zaA (zTv _ _) (v+1) ?_ ?_ ?_ ?_|(refine zaB 23 rfl (zUz l v) ((0,false)) ?_ ?_ ?_ fun x hx=> ?_)|with_reducible refine zaA (zUz _ _) ((x.1+1,x.2|| zFd (l.getD x.1 (0,0,0)) v)) ?_ ?_ ?_ ?_|(refine zaB 31 rfl (zUu n l) (0) ?_ ?_ ?_ fun y hy=> ?_)|with_reducible refine zaA (zUu _ _) (y+1) ?_ ?_ ?_ ?_|refine zA rfl ?_|apply qE|apply qO|exact zO|refine qu ?_)
 all_goals try first|refine qz ?_|apply qz5
 all_goals try simp only [z6,zS,yE,zZ,qn1,z7,qn2,zX,ETy.dflt,qn3,qn4,Int.reduceToNat,Int.reduceAdd,Int.reduceSub,Int.reduceNeg,Nat.reduceAdd,zD,zTg,zTv,zUz,zUu] at *
 all_goals try (refine qh ?_;omega)
 all_goals try
  (have hb:=zL7 (zF3 (s:=(n,l)) (by assumption)).1
   refine qh ?_;first|omega|(simp only [yP];omega))
 all_goals try
  (have hb:=zL7 (zF3 (s:=(n,l)) (by assumption)).1
   have h1:=zC7 (dgG l) i
   refine qh ?_;simp only [dgL,loL,piL];first|omega|(have h2:=zC7 (loG l) v;first|omega|(have h3:=zC7 (piG l) y;omega)))
 all_goals try first
  | rw [z97 (by assumption)]
  | rw [z9I (i:=i) (by assumption) (by omega) (by assumption)]
  | rw [z8Z (i:=i) (by assumption) (by omega) (by assumption) (by assumption)]
  | rw [z9E (i:=i) (by assumption) (by omega) (by assumption) (by assumption) (by assumption)]
  | rw [z88 (i:=i) (v:=v) (by assumption) (by omega) (by assumption) (by assumption) (by assumption) (by omega) (by assumption)]
  | rw [z93 (i:=i) (v:=v) (y:=y) (by assumption) (by omega) (by assumption) (by assumption) (by assumption) (by omega) (by assumption) (by omega)]
 all_goals try
  (have hd:zMi (l.getD i (0,0,0))=true:=zWp (by omega)
   rw [z9a hd];(try simp only [zN,List.length_singleton]);done)
 all_goals try
  (have hd:zMi (l.getD i (0,0,0))=false:=zZ3 (by omega) (by omega) (by omega)
   rw [z98 hd];done)
 all_goals try (rw [(zF3 (s:=(n,l)) (by assumption)).2];rfl)
 all_goals try (rw [List.eq_nil_of_length_eq_zero (l:=prO l 4 l.length) (by omega)];rfl)
 all_goals try (rw [List.eq_nil_of_length_eq_zero (l:=loL l v) (by omega)];rfl)
 all_goals try first
  | exact qh ⟨Nat.zero_le _,rfl⟩
  | exact qh (zZ1 hx (by assumption))
  | (simp only [*];done)
  | (simp only [*];simp;done)
 all_goals try (rw [z8a (by assumption)];done)
 all_goals try (rw [z8t (by assumption)];(try simp only [zN,List.length_singleton]);done)
 all_goals
  have hu:=z59 hx (by assumption);rw [Bool.false_or] at hu
 all_goals first
  | (rw [z9N (hu.trans (by assumption))];done)
  | (rw [z95 (hu.trans (by assumption))];(try simp only [zN,List.length_singleton]);done)
def z4J:List AV->Option zKQ:=zEz qP (fun s=>some (none,none,.s (.own 0 0 (allR s).length),[.row zB0 165 (allR s)]))
theorem z3s:zDM Tryz.prog 92 z4J:=zaw (zCC fun s r h=>by cases h;exact fbF (by exact ⟨zPc,zYT,trivial⟩) Tryz.func92 (p2:=by exact ⟨zVF,zXe,trivial⟩) fun _ _=>z5R s.1 s.2) Tryz.func92
def zPa (s:Int×List P3):Bool:=(allR s).length==0
theorem z0k (s:Int×List P3):zAG ⟨tyL,[],[(92,.res z4J)]⟩ Tryz.f53 [qP.av s] (fun v=>v= .s (.bool (zPa s))):=by
 repeat' (conv=>whnf
          first|done|refine qN ?_|apply qH|refine qG fun _=> ?_|apply qB|refine qy ?_|refine qw (fun _=> ?_) (fun _=> ?_)|apply qt|refine qi (fun _=> ?_) (fun _=> ?_)|refine zA rfl ?_|apply qE|apply qO|exact zO|refine qu ?_)
 all_goals try first|refine qz ?_|apply qz5
 all_goals try simp only [z6,zS,yE,zZ,qn1,z7,qn2,zX,ETy.dflt,qn3,qn4,Int.reduceToNat,Int.reduceAdd,Int.reduceSub,Int.reduceNeg,Nat.reduceAdd,zD,zPa] at *
 rw [Bool.eq_iff_iff,beq_iff_eq,beq_iff_eq];omega
def zVn:List AV->Option Res:=zEz qP (fun s=>some (none,none,.s (.bool (zPa s))))
theorem z13:qM Tryz.prog 53 zVn:=mkR (zA1 fun s r h=>by cases h;exact fb (fn:=[]) trivial Tryz.func53 (p2:=by exact ⟨z3s,trivial⟩) fun _ _=>z0k s) Tryz.func53
end S9
open Go Go.Vm Go.Proofs
namespace S9
open S1
theorem zCd {t:P3} {v:Int} :zFd t v=true↔z8 t v:=by
 unfold zFd z8;simp only [Bool.or_eq_true,beq_iff_eq]
theorem zYP {t:P3} {a b:Int} :zOj t a b=true↔dE t a b:=by
 unfold zOj dE;simp only [Bool.or_eq_true,zC,beq_iff_eq]
theorem zKF {t u:P3} :zJb t u=true↔∃ a b,dE t a b/\dE u a b:=by
 unfold zJb;simp only [Bool.or_eq_true,zYP];constructor
 ·rintro (h|h|h)
  ·exact ⟨_,_,.inl ⟨rfl,rfl⟩,h⟩
  ·exact ⟨_,_,.inr (.inl ⟨rfl,rfl⟩),h⟩
  ·exact ⟨_,_,.inr (.inr ⟨rfl,rfl⟩),h⟩
 ·rintro ⟨a,b,(⟨rfl,rfl⟩|⟨rfl,rfl⟩|⟨rfl,rfl⟩),h⟩
  ·exact .inl h
  ·exact .inr (.inl h)
  ·exact .inr (.inr h)
theorem zLH {n:Int} : ∀ {l:List P3} {i:Nat},zHq n i l=[]↔∀ t∈l,zCm n t=true
 | [],_=>⟨fun _ t h=>(by cases h),fun _=>rfl⟩
 | t ::r,i=>by
   unfold zHq;split
   ·rename_i h;rw [zLH]
    exact ⟨fun k u hu=>by
     rcases zT.1 hu with e|hu
     ·rw [e];exact h
     ·exact k u hu,fun k u hu=>k u (zQ _ hu)⟩
   ·rename_i h;exact ⟨fun k=>(by cases k),fun k=>absurd (k t (zY ..)) h⟩
theorem zSC {l:List P3} {p:P3->Prop} :(∀ t∈l,p t)↔∀ i,i<l.length->p (tg l i):=by
 constructor
 ·intro h i hi;unfold tg;rw [gdE,gE hi];exact h _ (yQ hi)
 ·intro h t ht;obtain ⟨i,hi,e⟩:=yG.1 ht;have:=h i hi;unfold tg at this;rw [gdE,gE hi] at this;rw [<- e];exact this
theorem z1c {s:Int×List P3} :jF s=[]↔zMc s:=by
 obtain ⟨n,l⟩:=s;unfold jF;constructor
 ·intro h;cases hb:zHN (n,l) with
  | true=>rw [hb] at h;cases h
  | false =>
    rw [hb] at h;have h:zHq n 0 l=[]:=h;have:=zL7 hb;exact ⟨this.1,this.2.1,this.2.2,zSC.1 (zLH.1 h)⟩
 ·intro h;have h1:0<=n:=h.1;have h2:n<=4096:=h.2.1;have h3:l.length<=8192:=h.2.2.1
  have hb:zHN (n,l)=false:=by
   unfold zHN;simp only [Bool.or_eq_false_iff,yM];omega
  rw [hb];exact zLH.2 (zSC.2 h.2.2.2)
theorem z4x {l:List P3} :dgL l l.length=[]↔∀ i,i<l.length->¬ dgn (tg l i):=by
 unfold dgL;rw [List.filterMap_eq_nil_iff];constructor
 ·intro h i hi e;have:=h i (zV.2 hi);unfold dgG at this;rw [if_pos (zWp e)] at this;cases this
 ·intro h i hi;have h:=h i (zV.1 hi);unfold dgn at h;unfold dgG;rw [if_neg ?_];rw [zZ3 (fun e=>h (.inl e)) (fun e=>h (.inr (.inl e))) (fun e=>h (.inr (.inr e)))];simp
theorem zXV {l:List P3} {k:Int} :prO l k l.length=[]↔∀ i j,i<j->j<l.length->ptR k (tg l i) (tg l j)=false:=by
 unfold prO prI;rw [List.flatMap_eq_nil_iff];constructor
 ·intro h i j hij hj;have:=List.filterMap_eq_nil_iff.1 (h j (zV.2 hj)) i (zV.2 hij);unfold prG at this;split at this
  ·cases this
  ·rename_i e;rw [<- Bool.not_eq_true];exact e
 ·intro h j hj;refine List.filterMap_eq_nil_iff.2 fun i hi=> ?_;unfold prG;rw [if_neg (by rw [h i j (zV.1 hi) (zV.1 hj)];simp)]
theorem pt3 {t u:P3} :ptR 3 t u=zJb t u:=by unfold ptR;simp
theorem pt4 {t u:P3} :ptR 4 t u=(zFd u t.1&&(zFd u t.2.1&&zFd u t.2.2)):=by unfold ptR;simp
theorem z4g {l:List P3} {n:Nat} :loL l n=[]↔∀ v:Nat,v<n->∃ j,j<l.length/\z8 (tg l j) v:=by
 unfold loL;rw [List.filterMap_eq_nil_iff]
 have key: ∀ v:Nat,l.any (zFd · v)=true↔∃ j,j<l.length/\z8 (tg l j) v:=fun v=>by
  rw [List.any_eq_true];constructor
  ·rintro ⟨t,ht,hv⟩;obtain ⟨i,hi,e⟩:=yG.1 ht;refine ⟨i,hi,?_⟩;unfold tg;rw [gdE,gE hi];exact zCd.1 (by rw [<- e] at hv;exact hv)
  ·rintro ⟨j,hj,h⟩;unfold tg at h;rw [gdE,gE hj] at h;exact ⟨_,yQ hj,zCd.2 h⟩
 constructor
 ·intro h v hv;have:=h v (zV.2 hv);unfold loG at this;split at this
  ·rename_i e;exact (key v).1 e
  ·cases this
 ·intro h v hv;unfold loG;rw [if_pos ((key v).2 (h v (zV.1 hv)))]
theorem zJW {m:List P3} {v:Int} {i k:Nat} :touch m v i k=true↔∃ w,w≠v/\z8 (tg m i) w/\z8 (tg m k) w:=by
 unfold touch tch;simp only [Bool.or_eq_true,zC,zP,zCd];constructor
 ·rintro (⟨h1,h2⟩|⟨h1,h2⟩|⟨h1,h2⟩)
  ·exact ⟨_,h1,.inl rfl,h2⟩
  ·exact ⟨_,h1,.inr (.inl rfl),h2⟩
  ·exact ⟨_,h1,.inr (.inr rfl),h2⟩
 ·rintro ⟨w,h1,(h2|h2|h2),h3⟩
  ·subst h2;exact .inl ⟨h1,h3⟩
  ·subst h2;exact .inr (.inl ⟨h1,h3⟩)
  ·subst h2;exact .inr (.inr ⟨h1,h3⟩)
section
variable {m:List P3} {v:Int}
theorem zEo {s:List Bool} {k j:Nat} :(s.set k true).getD j false=if k=j/\j<s.length then true else s.getD j false:=by
 rw [gdE,List.getElem?_set,gdE]
 by_cases e:k=j
 ·subst e
  by_cases h:k<s.length
  ·simp [h]
  ·simp [h]
 ·simp [e]
theorem z6R {i k:Nat} {s:List Bool} :(pk m v i s k).length=s.length:=by
 unfold pk;split
 ·rfl
 ·split
  ·rw [List.length_set]
  ·rfl
theorem zPF {i k j:Nat} {s:List Bool} (h:s.getD j false=true):(pk m v i s k).getD j false=true:=by
 unfold pk;split
 ·exact h
 ·split
  ·rw [zEo];split
   ·rfl
   ·exact h
  ·exact h
theorem zGL {i:Nat} {s:List Bool} : ∀ k,(zH5 m v i s k).length=s.length
 | 0=>rfl
 | k+1=>by rw [zAq,z6R,zGL k]
theorem zGY {s:List Bool} : ∀ i,(zGm m v s i).length=s.length
 | 0=>rfl
 | i+1=>by rw [zCM,zGL,zGY i]
theorem zIu: ∀ r,(zF9 m v r).length=m.length
 | 0=>by show ((List.replicate m.length false).set 0 true).length=_;simp
 | r+1=>by rw [zBb,zGY,zIu r]
theorem zEq {i j:Nat} {s:List Bool} (h:s.getD j false=true): ∀ k,(zH5 m v i s k).getD j false=true
 | 0=>h
 | k+1=>by rw [zAq];exact zPF (zEq h k)
theorem zEg {j:Nat} {s:List Bool} (h:s.getD j false=true): ∀ i,(zGm m v s i).getD j false=true
 | 0=>h
 | i+1=>by rw [zCM];exact zEq (zEg h i) _
theorem zOa {i k:Nat} {s:List Bool} (hi:s.getD i false=true) (ht:touch m v i k=true) (hk:k<s.length): ∀ n,k<n->(zH5 m v i s n).getD k false=true
 | n + 1,h=>by
   rw [zAq]
   by_cases e:k=n
   ·subst e;have h1:=zEq (m:=m) (v:=v) (i:=i) hi k;cases h2:(zH5 m v i s k).getD k false with
    | true=>exact zPF h2
    | false =>
      unfold pk;rw [if_neg (zM2 h1 h2),if_pos ht,zEo,if_pos ⟨rfl,by rw [zGL];exact hk⟩]
   ·exact zPF (zOa hi ht hk n (by omega))
theorem zNi {i k:Nat} {s:List Bool} (hi:s.getD i false=true) (ht:touch m v i k=true) (hk:k<s.length) (hm:k<m.length): ∀ n,i<n->(zGm m v s n).getD k false=true
 | n +1,h=>by
   rw [zCM]
   by_cases e:i=n
   ·subst e;exact zOa (zEg hi i) ht (by rw [zGY];exact hk) _ hm
   ·exact zEq (zNi hi ht hk hm n (by omega)) _
def Clo (m:List P3) (v:Int) (s:List Bool):Prop:= ∀ i k,i<m.length->k<m.length->s.getD i false=true->touch m v i k=true->s.getD k false=true
def z16 (m:List P3) (s:List Bool):Nat:=((List.range m.length).filter fun j=> !s.getD j false).length
theorem z6q {i k:Nat} {s:List Bool} (h:Clo m v s) (hi:i<m.length) (hk:k<m.length):pk m v i s k=s:=by
 unfold pk;split
 ·rfl
 ·rename_i hn;split
  ·rename_i ht;have h1:s.getD i false=true:=by cases e:s.getD i false with|true=>rfl|false=>exact absurd (.inl e) hn
   exact absurd (.inr (h i k hi hk h1 ht)) hn
  ·rfl
theorem zN0 {i:Nat} {s:List Bool} (h:Clo m v s) (hi:i<m.length): ∀ k,k<=m.length->zH5 m v i s k=s
 | 0,_=>rfl
 | k+1,hk=>by rw [zAq,zN0 h hi k (by omega),z6q h hi (by omega)]
theorem zIT {s:List Bool} (h:Clo m v s): ∀ i,i<=m.length->zGm m v s i=s
 | 0,_=>rfl
 | i+1,hi=>by rw [zCM,zIT h i (by omega),zN0 h (by omega) _ (zI _)]
theorem zYV {s:List Bool} (hl:s.length=m.length):Clo m v s\/z16 m (zGm m v s m.length)+1<=z16 m s:=by
 by_cases h:Clo m v s
 ·exact .inl h
 ·right;unfold Clo at h
  have: ∃ i k,i<m.length/\k<m.length/\s.getD i false=true/\touch m v i k=true/\s.getD k false=false:=by
   refine yF fun hn=>h fun i k hi hk h1 h2=> ?_;cases e:s.getD k false with
   | true=>rfl
   | false=>exact absurd ⟨i,k,hi,hk,h1,h2,e⟩ hn
  obtain ⟨i,k,hi,hk,h1,h2,h3⟩:=this;unfold z16;refine zKx (a:=k) (fun j hj=> ?_) (by rw [h3];rfl) (by rw [zNi h1 h2 (by rw [hl];exact hk) hk _ hi];simp) (zV.2 hk);cases e:s.getD j false with
  | false=>rfl
  | true=>rw [zEg e] at hj;exact absurd hj (by simp)
theorem zK8 (hm:0<m.length): ∀ r,Clo m v (zF9 m v r)\/z16 m (zF9 m v r)+r+1<=m.length
 | 0=>by
   right;have h0:((List.replicate m.length false).set 0 true).getD 0 false=true:=by rw [zEo,if_pos ⟨rfl,by simpa using hm⟩]
   have:=zKx (p:=fun _:Nat=>true) (q:=fun j=> !((List.replicate m.length false).set 0 true).getD j false) (fun _ _=>rfl) (a:=0) rfl (by rw [h0];simp) (l:=List.range m.length) (zV.2 hm);have e:((List.range m.length).filter fun _:Nat=>true).length=m.length:=by rw [List.filter_eq_self.2 (fun _ _=>rfl),zAD]
   show ((List.range m.length).filter fun j=> !((List.replicate m.length false).set 0 true).getD j false).length+0+1<=_;rw [e] at this;omega
 | r +1=>by
   rcases zK8 hm r with h|h
   ·left;rw [zBb,zIT h _ (zI _)];exact h
   ·rcases zYV (m:=m) (v:=v) (zIu (m:=m) (v:=v) r) with h'|h'
    ·left;rw [zBb,zIT h' _ (zI _)];exact h'
    ·right;rw [zBb];omega
theorem zUi (hm:0<m.length):Clo m v (zF9 m v m.length):=by
 rcases zK8 (v:=v) hm m.length with h|h
 ·exact h
 ·omega
theorem zKd (hm:0<m.length): ∀ r,(zF9 m v r).getD 0 false=true
 | 0=>by
   show ((List.replicate m.length false).set 0 true).getD 0 false=true;rw [zEo,if_pos ⟨rfl,by simpa using hm⟩]
 | r+1=>by rw [zBb];exact zEg (zKd hm r) _
theorem z9U {Q:Nat->Prop} (hc: ∀ i k,k<m.length->Q i->touch m v i k=true->Q k) {i k:Nat} {s:List Bool} (hl:s.length=m.length) (h: ∀ j,s.getD j false=true->Q j): ∀ j,(pk m v i s k).getD j false=true->Q j:=by
 unfold pk;split
 ·exact h
 ·rename_i hn;split
  ·rename_i ht;intro j hj;rw [zEo] at hj;split at hj
   ·rename_i e;obtain ⟨rfl,e2⟩:=e;refine hc i _ (by rw [<- hl];exact e2) (h i ?_) ht;cases e:s.getD i false with|true=>rfl|false=>exact absurd (.inl e) hn
   ·exact h j hj
  ·exact h
theorem zRS {Q:Nat->Prop} (hc: ∀ i k,k<m.length->Q i->touch m v i k=true->Q k) {i:Nat} {s:List Bool} (hl:s.length=m.length) (h: ∀ j,s.getD j false=true->Q j): ∀ k j,(zH5 m v i s k).getD j false=true->Q j
 | 0=>h
 | k+1=>by rw [zAq];exact z9U hc (by rw [zGL];exact hl) (zRS hc hl h k)
theorem zRI {Q:Nat->Prop} (hc: ∀ i k,k<m.length->Q i->touch m v i k=true->Q k) {s:List Bool} (hl:s.length=m.length) (h: ∀ j,s.getD j false=true->Q j): ∀ i j,(zGm m v s i).getD j false=true->Q j
 | 0=>h
 | i+1=>by rw [zCM];exact zRS hc (by rw [zGY];exact hl) (zRI hc hl h i) _
theorem zSV {Q:Nat->Prop} (hc: ∀ i k,k<m.length->Q i->touch m v i k=true->Q k) (h:Q 0): ∀ r j,(zF9 m v r).getD j false=true->Q j
 | 0 =>fun j hj=>by
   have hj:((List.replicate m.length false).set 0 true).getD j false=true:=hj;rw [zEo] at hj;split at hj
   ·rename_i e;rw [<- e.1];exact h
   ·rw [gdE,List.getElem?_replicate] at hj;split at hj<;>cases hj
 | r+1=>by rw [zBb];exact zRI hc (zIu r) (zSV hc h r) _
end
theorem zDS {l:List P3} {v:Int} {t:P3} :t∈zAX l v↔∃ i,i<l.length/\tg l i=t/\z8 t v:=by
 unfold zAX;rw [List.mem_filter,zCd];constructor
 ·rintro ⟨ht,hv⟩;obtain ⟨i,hi,e⟩:=yG.1 ht;exact ⟨i,hi,by unfold tg;rw [gdE,gE hi];exact e,hv⟩
 ·rintro ⟨i,hi,e,hv⟩;unfold tg at e;rw [gdE,gE hi] at e;have e:l[i]=t:=e;exact ⟨by rw [<- e];exact yQ hi,hv⟩
theorem qI {m:List P3} {j:Nat} (h:j<m.length):tg m j∈m:=by
 unfold tg;rw [gdE,gE h];exact yQ h
theorem zAO {m:List P3} {t:P3} (h:t∈m): ∃ j,j<m.length/\tg m j=t:=by
 obtain ⟨i,hi,e⟩:=yG.1 h;exact ⟨i,hi,by unfold tg;rw [gdE,gE hi];exact e⟩
theorem other {t:P3} {v:Int} (hd: ¬ dgn t): ∃ w,w≠v/\z8 t w:=by
 unfold dgn at hd
 by_cases h:t.1=v
 ·exact ⟨t.2.1,by omega,.inr (.inl rfl)⟩
 ·exact ⟨t.1,h,.inl rfl⟩
theorem zNF {l:List P3} {v:Int} (hd: ∀ i,i<l.length->¬ dgn (tg l i)):zFI l v=false↔z6C l v:=by
 unfold zFI;rw [Bool.not_eq_false',zJ];constructor
 ·intro h Q hQ a ha hva hQa i hi hvi;have hpos:0<(zAX l v).length:=List.length_pos_of_mem (zDS.2 ⟨a,ha,rfl,hva⟩)
  have key: ∀ R:Nat->Prop,(∀ i j:Nat,i<l.length->j<l.length->z8 (tg l i) v->z8 (tg l j) v->(∃ w:Int,w≠v/\z8 (tg l i) w/\z8 (tg l j) w)->R i->R j)->
   (∃ z,z<l.length/\tg l z=tg (zAX l v) 0/\z8 (tg l z) v/\R z)->∀ i,i<l.length->z8 (tg l i) v->R i:=fun R hR ⟨z,hz,ez,hzv,hRz⟩ i hi hvi=>by
   have hin:=zSV (m:=zAX l v) (v:=v) (Q:=fun j=>j<(zAX l v).length/\∀ i,i<l.length->tg l i=tg (zAX l v) j->z8 (tg l i) v->R i) (fun j k hk hj ht=>⟨hk,fun i hi ei hvi=>by
    obtain ⟨w,hw,h1,h2⟩:=zJW.1 ht;obtain ⟨i',hi',ei',hvi'⟩:=zDS.1 (qI hj.1)
    exact hR i' i hi' hi (by rw [ei'];exact hvi') hvi ⟨w,hw,by rw [ei'];exact h1,by rw [ei];exact h2⟩ (hj.2 i' hi' ei' (by rw [ei'];exact hvi'))⟩)
    ⟨hpos,fun i hi ei hvi=>by
      obtain ⟨w,hw,h1⟩:=other (v:=v) (hd z hz)
      exact hR z i hz hi hzv hvi ⟨w,hw,h1,by rw [ei,<- ez];exact h1⟩ hRz⟩ (zAX l v).length
   obtain ⟨j,hj,ej⟩:=zAO (zDS.2 ⟨i,hi,rfl,hvi⟩);exact (hin j (h j (zV.2 hj))).2 i hi ej.symm hvi
  obtain ⟨z,hz,ez,hzv⟩:=zDS.1 (qI hpos)
  by_cases hq:Q z
  ·exact key Q hQ ⟨z,hz,ez,by rw [ez];exact hzv,hq⟩ i hi hvi
  ·exact absurd hQa (key (fun i=> ¬ Q i) (fun i j hi hj h1 h2 ⟨w,h3,h4,h5⟩ hn hq=>hn (hQ j i hj hi h2 h1 ⟨w,h3,h5,h4⟩ hq)) ⟨z,hz,ez,by rw [ez];exact hzv,hq⟩ a ha hva)
 ·intro h j hj;have hj:=zV.1 hj;have hpos:0<(zAX l v).length:=by omega
  have hc:=zUi (m:=zAX l v) (v:=v) hpos;have hz:=zKd (m:=zAX l v) (v:=v) hpos (zAX l v).length;obtain ⟨z,hz1,hz2,hz3⟩:=zDS.1 (qI hpos);obtain ⟨i,hi1,hi2,hi3⟩:=zDS.1 (qI hj)
  have:=h (fun i=> ∃ j,j<(zAX l v).length/\tg (zAX l v) j=tg l i/\(zF9 (zAX l v) v (zAX l v).length).getD j false=true) (fun a b ha hb hva hvb ⟨w,hw,h1,h2⟩ ⟨j,hj,e,hs⟩=>by
   obtain ⟨k,hk,ek⟩:=zAO (zDS.2 ⟨b,hb,rfl,hvb⟩)
   exact ⟨k,hk,ek,hc j k hj hk hs (zJW.2 ⟨w,hw,by rw [e];exact h1,by rw [ek];exact h2⟩)⟩) z hz1 (by rw [hz2];exact hz3) ⟨0,hpos,hz2.symm,hz⟩ i hi1 (by rw [hi2];exact hi3)
  obtain ⟨k,hk,ek,hs⟩:=this;obtain ⟨w,hw,h1⟩:=other (v:=v) (hd i hi1);exact hc k j hk hj hs (zJW.2 ⟨w,hw,by rw [ek];exact h1,by rw [<- hi2];exact h1⟩)
theorem zWG {l:List P3} {n:Nat} (hd: ∀ i,i<l.length->¬ dgn (tg l i)):piL l n=[]↔∀ v:Nat,v<n->z6C l v:=by
 unfold piL;rw [List.filterMap_eq_nil_iff];constructor
 ·intro h v hv;have:=h v (zV.2 hv);unfold piG at this;split at this
  ·cases this
  ·rename_i e;exact (zNF hd).1 (by rw [<- Bool.not_eq_true];exact e)
 ·intro h v hv;unfold piG;rw [if_neg (by rw [(zNF hd).2 (h v (zV.1 hv))];simp)]
theorem zZh (s:Int×List P3):allR s=[]↔(jF s=[]/\dgL s.2 s.2.length=[]/\prO s.2 3 s.2.length=[]/\prO s.2 4 s.2.length=[]/\loL s.2 s.1.toNat=[]/\piL s.2 s.1.toNat=[]):=by
 unfold allR;constructor
 ·intro h
  repeat' split at h
  all_goals first
   | (rename_i hh;rw [h] at hh;exact absurd hh (by decide))
   | skip
  rename_i h1 h2 h3 h4 h5;exact ⟨List.length_eq_zero_iff.1 (by omega),List.length_eq_zero_iff.1 (by omega),List.length_eq_zero_iff.1 (by omega),List.length_eq_zero_iff.1 (by omega),List.length_eq_zero_iff.1 (by omega),h⟩
 ·rintro ⟨h1,h2,h3,h4,h5,h6⟩;simp [h1,h2,h3,h4,h5,h6]
theorem zTb (s:Int×List P3):zPa s=true↔zBK s:=by
 unfold zPa;rw [beq_iff_eq,List.length_eq_zero_iff,zZh,z1c,z4x,zXV,zXV,z4g];constructor
 ·rintro ⟨hf,hd,h3,h4,hu,hp⟩;have h0:0<=s.1:=hf.1;refine ⟨hf,hd,fun i j hij hj a b h1 h2=> ?_,fun i j hij hj h=> ?_,fun v hv=>hu v (by omega),fun v hv=>(zWG hd).1 hp v (by omega)⟩
  ·have:=h3 i j hij hj;rw [pt3] at this;rw [zKF.2 ⟨a,b,h1,h2⟩] at this;cases this
  ·have:=h4 i j hij hj;rw [pt4,zCd.2 h.1,zCd.2 h.2.1,zCd.2 h.2.2] at this;cases this
 ·intro h;have h0:0<=s.1:=h.fit.1;refine ⟨h.fit,h.deg,fun i j hij hj=> ?_,fun i j hij hj=> ?_,fun v hv=>h.use v (by omega),(zWG h.deg).2 fun v hv=>h.pin v (by omega)⟩
  ·rw [pt3,<- Bool.not_eq_true];intro e;obtain ⟨a,b,h1,h2⟩:=zKF.1 e;exact h.dif i j hij hj a b h1 h2
  ·rw [pt4,<- Bool.not_eq_true];intro e;simp only [zC,zCd] at e;exact h.mir i j hij hj e
end S9
open Go Go.Vm Go.Proofs
namespace S1
abbrev FsT:=List Bool×Int
theorem zE2 {S:Type} (m:S->Int) (f:S->Nat->S) (hf: ∀ s i,f s i=s\/m s<m (f s i)): ∀ n s,(qA f s n=s/\∀ i,i<n->f s i=s)\/m s<m (qA f s n)
 | 0,s=> .inl ⟨rfl,fun i hi=>by omega⟩
 | n +1,s=>by
   have e:qA f s (n+1)=f (qA f s n) n:=rfl;rcases zE2 m f hf n s with ⟨h1,h2⟩|h
   ·rw [e,h1];rcases hf s n with h|h
    ·exact .inl ⟨h,fun i hi=>by
      by_cases k:i=n
      ·subst k;exact h
      ·exact h2 i (by omega)⟩
    ·exact .inr h
   ·rw [e];rcases hf (qA f s n) n with k|k
    ·rw [k];exact .inr h
    ·exact .inr (by omega)
theorem zLB {S:Type} {f:S->Nat->S} {s:S} : ∀ n,(∀ i,i<n->f s i=s)->qA f s n=s
 | 0,_=>rfl
 | n+1,h=>by
   show f (qA f s n) n=s;rw [zLB n fun i hi=>h i (by omega)];exact h n (by omega)
def fsK (bs:Int->Int->Bool) (L:List Int) (i:Nat) (st:FsT) (k:Nat):FsT :=
 if st.1.getD (L.getD i 0).toNat false=true/\st.1.getD (L.getD k 0).toNat false=false/\bs (L.getD i 0) (L.getD k 0)=true then (st.1.set (L.getD k 0).toNat true,st.2+1) else st
def fsI (bs:Int->Int->Bool) (L:List Int) (st:FsT) (i:Nat):FsT:=qA (fsK bs L i) st L.length
def fsR (bs:Int->Int->Bool) (L:List Int) (st:FsT) (_:Nat):FsT:=qA (fsI bs L) st L.length
def fs0 (L:List Int) (n:Nat):FsT:=((List.replicate n false).set (L.getD 0 0).toNat true,1)
def fsS (bs:Int->Int->Bool) (L:List Int) (n r:Nat):FsT:=qA (fsR bs L) (fs0 L n) r
section
variable {bs:Int->Int->Bool} {L:List Int} {n:Nat}
theorem zRN (i:Nat) (st:FsT) (k:Nat):fsK bs L i st k=st\/st.2<(fsK bs L i st k).2:=by
 unfold fsK;split
 ·exact .inr (by show st.2<st.2+1;omega)
 ·exact .inl rfl
theorem zR5 (st:FsT) (i:Nat):fsI bs L st i=st\/st.2<(fsI bs L st i).2:=(zE2 (·.2) _ (zRN i) _ st).imp (·.1) id
theorem z0m (st:FsT) (r:Nat):fsR bs L st r=st\/st.2<(fsR bs L st r).2:=(zE2 (·.2) _ zR5 _ st).imp (·.1) id
def zXg (bs:Int->Int->Bool) (L:List Int) (st:FsT):Prop:= ∀ i k,i<L.length->k<L.length->fsK bs L i st k=st
theorem z5f {st:FsT} {r:Nat} (h:fsR bs L st r=st):zXg bs L st:=by
 have h1: ∀ i,i<L.length->fsI bs L st i=st:=by
  rcases zE2 (·.2) (fsI bs L) zR5 L.length st with ⟨_,k⟩|k
  ·exact k
  ·have e:qA (fsI bs L) st L.length=st:=h;rw [e] at k;omega
 intro i k hi hk;rcases zE2 (·.2) (fsK bs L i) (zRN i) L.length st with ⟨_,q⟩|q
 ·exact q k hk
 ·have e:qA (fsK bs L i) st L.length=st:=h1 i hi;rw [e] at q;omega
theorem zXg.fix {st:FsT} (h:zXg bs L st) (r:Nat):fsR bs L st r=st:=zLB _ fun i hi=>zLB _ fun k hk=>h i k hi hk
theorem zVT: ∀ r,zXg bs L (fsS bs L n r)\/1+(r:Int)<=(fsS bs L n r).2
 | 0=> .inr (by show 1+((0:Nat):Int)<=1;omega)
 | r +1=>by
   have e:fsS bs L n (r+1)=fsR bs L (fsS bs L n r) r:=rfl;rw [e];rcases zVT r with h|h
   ·rw [h.fix];exact .inl h
   ·rcases z0m (bs:=bs) (L:=L) (fsS bs L n r) r with k|k
    ·rw [k];exact .inl (z5f k)
    ·exact .inr (by omega)
structure zQF (L:List Int) (n:Nat) (R:Int->Prop) (st:FsT) (ks:List Int):Prop where
 nd:ks.Nodup
 len:(ks.length:Int)=st.2
 sub: ∀ x∈ks,x∈L/\R x
 size:st.1.length=n
 mem: ∀ x,0<=x->(st.1.getD x.toNat false=true↔x∈ks)
theorem zI0 (l:List Bool) (i j:Nat) (hi:i<l.length):(l.set i true).getD j false=if i=j then true else l.getD j false:=by
 rw [gdE,List.getElem?_set];split
 ·rename_i e;subst e;rfl
 ·rw [gdE]
variable {R:Int->Prop} (hL: ∀ x∈L,0<=x/\x<(n:Int))
include hL
theorem zVR (hR: ∀ x∈L,∀ y∈L,bs x y=true->R x->R y) {i k:Nat} (hi:i<L.length) (hk:k<L.length) {st:FsT} (h: ∃ ks,zQF L n R st ks): ∃ ks,zQF L n R (fsK bs L i st k) ks:=by
 obtain ⟨ks,h⟩:=h;unfold fsK;split
 case isFalse=>exact ⟨ks,h⟩
 rename_i hc;obtain ⟨c1,c2,c3⟩:=hc;have mi:=jB hi;have mk:=jB hk;have b:=hL _ mk;have nk:L.getD k 0∉ks:=fun e=>by rw [(h.mem _ b.1).2 e] at c2;cases c2
 refine ⟨L.getD k 0::ks,List.nodup_cons.2 ⟨nk,h.nd⟩,?_,fun x hx=> ?_,?_,fun x hx=> ?_⟩
 ·have:=h.len;show ((ks.length+1:Nat):Int)=st.2+1;omega
 ·rcases zT.1 hx with e|e
  ·subst e;exact ⟨mk,hR _ mi _ mk c3 (h.sub _ ((h.mem _ (hL _ mi).1).1 c1)).2⟩
  ·exact h.sub x e
 ·show (st.1.set _ true).length=n;rw [List.length_set];exact h.size
 ·show (st.1.set _ true).getD _ false=true↔_;rw [zI0 _ _ _ (by rw [h.size];omega),zT];split
  ·rename_i e;exact ⟨fun _=> .inl (by omega),fun _=>rfl⟩
  ·rename_i e;rw [h.mem x hx];exact ⟨.inr,fun k=>k.resolve_left (fun e'=>e (by rw [e']))⟩
theorem zLb (hR: ∀ x∈L,∀ y∈L,bs x y=true->R x->R y) (hne:0<L.length) (h0:R (L.getD 0 0)) (r:Nat): ∃ ks,zQF L n R (fsS bs L n r) ks:=by
 have m0:=jB hne;have b:=hL _ m0;refine qX (n:=r) (fun _ st=> ∃ ks,zQF L n R st ks) ?_ (fun _ st _ h=> ?_) r (zI _)
 ·refine ⟨[L.getD 0 0],List.nodup_cons.2 ⟨by simp,List.nodup_nil⟩,rfl,fun x hx=> ?_,?_,fun x hx=> ?_⟩
  ·rw [zF.1 hx];exact ⟨m0,h0⟩
  ·unfold fs0;simp
  ·unfold fs0;rw [zI0 _ _ _ (by rw [List.length_replicate];omega),zF];split
   ·rename_i e;exact ⟨fun _=>by omega,fun _=>rfl⟩
   ·rename_i e;rw [gdE,List.getElem?_replicate];split
    ·exact ⟨fun h=>(by cases h),fun h=>absurd (by rw [h]) e⟩
    ·exact ⟨fun h=>(by cases h),fun h=>absurd (by rw [h]) e⟩
 ·exact qX (n:=L.length) (fun _ st=> ∃ ks,zQF L n R st ks) h (fun i st hi h=>qX (n:=L.length) (fun _ st=> ∃ ks,zQF L n R st ks) h (fun k st hk h=>zVR hL hR hi hk h) _ (zI _)) _ (zI _)
theorem zZL (hn:L.Nodup) (hne:0<L.length):(fsS bs L n L.length).2=(L.length:Int)↔∀ Q:Int->Prop,(∀ x∈L,∀ y∈L,bs x y=true->Q x->Q y)->Q (L.getD 0 0)->∀ x∈L,Q x:=by
 constructor
 ·intro h Q hQ h0 x hx;obtain ⟨ks,k⟩:=zLb hL hQ hne h0 L.length;have hl:ks.length=L.length:=by have:=k.len;omega
  apply yF;intro hq;have nx:x∉ks:=fun e=>hq (k.sub x e).2
  have:=zBx (x::ks) L (List.nodup_cons.2 ⟨nx,k.nd⟩) fun y hy=>by
   rcases zT.1 hy with e|e
   ·rw [e];exact hx
   ·exact (k.sub y e).1
  simp only [yA] at this;omega
 ·intro h;obtain ⟨ks,k⟩:=zLb (R:=fun _=>True) hL (fun _ _ _ _ _ _=>trivial) hne trivial L.length (bs:=bs);have hle:=zBx ks L k.nd fun y hy=>(k.sub y hy).1;have hclo:zXg bs L (fsS bs L n L.length):=(zVT L.length).resolve_right (by have:=k.len;omega)
  have all := h (fun x=>(fsS bs L n L.length).1.getD x.toNat false=true) (fun x hx y hy b hq=>by
   obtain ⟨i,hi,ei⟩:=yG.1 hx;obtain ⟨j,hj,ej⟩:=yG.1 hy;have gi:L.getD i 0=x:=by rw [gdE,gE hi];exact ei
   have gj:L.getD j 0=y:=by rw [gdE,gE hj];exact ej
   have:=hclo i j hi hj;unfold fsK at this;rw [gi,gj] at this;split at this
   ·have e:=congrArg Prod.snd this;have e:(fsS bs L n L.length).2+1=(fsS bs L n L.length).2:=e;omega
   ·rename_i hc;apply yF;intro hy'
    exact hc ⟨hq,by simpa using hy',b⟩) (by
   obtain ⟨ks1,k1⟩:=zLb (R:=fun _=>True) hL (fun _ _ _ _ _ _=>trivial) hne trivial L.length (bs:=bs)
   have: ∀ r,(fsS bs L n r).1.getD (L.getD 0 0).toNat false=true:=fun r=>by
    have b:=hL _ (jB hne)
    have step: ∀ i k (st:FsT),st.1.getD (L.getD 0 0).toNat false=true->(fsK bs L i st k).1.getD (L.getD 0 0).toNat false=true:=fun i k st h=>by
     unfold fsK;split
     ·show (st.1.set _ true).getD _ false=true;rw [gdE,List.getElem?_set];split
      ·split
       ·rfl
       ·rename_i e1 e2;rw [<- e1] at h;rw [gdE,List.getElem?_eq_none (by omega)] at h;cases h
      ·rw [<- gdE];exact h
     ·exact h
    refine qX (n:=r) (fun _ (st:FsT)=>st.1.getD (L.getD 0 0).toNat false=true) ?_ (fun _ st _ h=> ?_) r (zI _)
    ·unfold fs0;rw [zI0 _ _ _ (by rw [List.length_replicate];omega),if_pos rfl]
    ·exact qX (n:=L.length) (fun _ (st:FsT)=>st.1.getD (L.getD 0 0).toNat false=true) h (fun i st hi h=>qX (n:=L.length) (fun _ (st:FsT)=>st.1.getD (L.getD 0 0).toNat false=true) h (fun k st hk h=>step i k st h) _ (zI _)) _ (zI _)
   exact this _)
  have:=zBx L ks hn fun x hx=>(k.mem x (hL x hx).1).1 (all x hx);have:=k.len;omega
end
def zOu (L:List Int) (n:Nat) (st:FsT):Prop:= ∃ ks,zQF L n (fun _=>True) st ks
section
variable {bs:Int->Int->Bool} {L:List Int} {n:Nat}
theorem zOu.le {st:FsT} (h:zOu L n st):0<=st.2/\st.2<=L.length/\st.1.length=n:=by
 obtain ⟨ks,h⟩:=h;have:=zBx ks L h.nd fun y hy=>(h.sub y hy).1;have:=h.len;exact ⟨by omega,by omega,h.size⟩
theorem zOu.k (hL: ∀ x∈L,0<=x/\x<(n:Int)) {st:FsT} (h:zOu L n st) {i:Nat} (hi:i<L.length): ∀ k,k<=L.length->zOu L n (qA (fsK bs L i) st k) :=
 qX (n:=L.length) (fun _ st=>zOu L n st) h (fun k st hk h=>zVR hL (fun _ _ _ _ _ _=>trivial) hi hk h)
theorem zOu.i (hL: ∀ x∈L,0<=x/\x<(n:Int)) {st:FsT} (h:zOu L n st): ∀ i,i<=L.length->zOu L n (qA (fsI bs L) st i) :=
 qX (n:=L.length) (fun _ st=>zOu L n st) h (fun i st hi h=>zOu.k hL h hi _ (zI _))
theorem zOu.r (hL: ∀ x∈L,0<=x/\x<(n:Int)) (hne:0<L.length) (r:Nat):zOu L n (fsS bs L n r):=zLb hL (fun _ _ _ _ _ _=>trivial) hne trivial r
end
def inG (l:List P3) (v:Int) (i:Nat):Option Int:=if z8 (tg l i) v then some (i:Int) else none
def inL (l:List P3) (v:Int) (i:Nat):List Int:=(List.range i).filterMap (inG l v)
theorem zL8 (l:List P3) (v:Int) (i:Nat):inL l v (i+1)=inL l v i++(inG l v i).toList:=q9 _ _
theorem z58 (l:List P3) (v:Int) (i:Nat):(inL l v i).length<=i:=zC7 _ _
theorem zC0 {l:List P3} {v:Int} {n:Nat} {x:Int} :x∈inL l v n↔∃ j:Nat,j<n/\z8 (tg l j) v/\x=j:=by
 unfold inL;rw [List.mem_filterMap];constructor
 ·rintro ⟨j,hj,e⟩;unfold inG at e;split at e
  ·rename_i h;cases e;exact ⟨j,zV.1 hj,h,rfl⟩
  ·cases e
 ·rintro ⟨j,hj,h,rfl⟩;exact ⟨j,zV.2 hj,by unfold inG;rw [if_pos h]⟩
theorem zQZ {l:List P3} {v:Int} {n:Nat} : ∀ x∈inL l v n,0<=x/\x<(n:Int):=fun x hx=>by
 obtain ⟨j,hj,_,rfl⟩:=zC0.1 hx;omega
theorem zOB (l:List P3) (v:Int): ∀ n,(inL l v n).Nodup
 | 0=>List.nodup_nil
 | n + 1=>by
   rw [zL8,List.nodup_append];refine ⟨zOB l v n,?_,fun a ha b hb=> ?_⟩
   ·unfold inG;split
    ·exact List.nodup_cons.2 ⟨by simp,List.nodup_nil⟩
    ·exact List.nodup_nil
   ·unfold inG at hb;split at hb
    ·rw [Option.toList,zF] at hb;have:=zQZ a ha;omega
    ·cases hb
def zLq (a b:P3):Nat->Int
 | 0=>0
 | k+1=>if z8 b (zKl a k) then zLq a b k+1 else zLq a b k
def z38 (a b:P3):Bool:=decide (zLq a b 3>=2)
def zJc (l:List P3) (p q:Int):Bool:=z38 (tg l p.toNat) (tg l q.toNat)
def zBZ (l:List P3) (v:Int):Int×Int:=((inL l v l.length).length,if (inL l v l.length).length=0 then 0 else (fsS (zJc l) (inL l v l.length) l.length (inL l v l.length).length).2)
theorem zDu (a b:P3) (k:Nat):zLq a b (k+1)=if z8 b (zKl a k) then zLq a b k+1 else zLq a b k:=rfl
theorem zQS (a b:P3): ∀ k:Nat,0<=zLq a b k/\zLq a b k<=k
 | 0=>⟨Int.le_refl _,Int.le_refl _⟩
 | k+1=>by
   have:=zQS a b k;rw [zDu];split<;>omega
theorem z5O {a b:P3} (hd: ¬ dgn a) {v:Int} (h1:z8 a v) (h2:z8 b v):z38 a b=true↔∃ w,w≠v/\z8 a w/\z8 b w:=by
 unfold z38;rw [zP,zDu,zDu,zDu];obtain ⟨x,y,z⟩:=a;unfold dgn at hd;simp only [zKl,List.getD_cons_zero,List.getD_cons_succ,zLq] at *;have hv:z8 (x,y,z) v↔(x=v\/y=v\/z=v):=Iff.rfl;constructor
 ·intro h;have key: ∀ w,(x=w\/y=w\/z=w)->z8 b w->w≠v->∃ w,w≠v/\z8 (x,y,z) w/\z8 b w:=fun w hw hb hn=>⟨w,hn,hw,hb⟩
  by_cases b1:z8 b x<;>by_cases b2:z8 b y<;>by_cases b3:z8 b z<;>simp only [b1,b2,b3,if_true,if_false] at h<;>first
   | omega
   | (by_cases e:x=v
      ·exact key y (.inr (.inl rfl)) b2 (by omega)
      ·exact key x (.inl rfl) b1 e)
   | (by_cases e:x=v
      ·exact key z (.inr (.inr rfl)) b3 (by omega)
      ·exact key x (.inl rfl) b1 e)
   | (by_cases e:y=v
      ·exact key z (.inr (.inr rfl)) b3 (by omega)
      ·exact key y (.inr (.inl rfl)) b2 e)
 ·rintro ⟨w,w1,w2,w3⟩;have w2:x=w\/y=w\/z=w:=w2;have h1:=hv.1 h1;have c1: ∀ u,u=v\/u=w->z8 b u:=fun u hu=>by rcases hu with e|e<;>(rw [e];assumption)
  by_cases b1:z8 b x<;>by_cases b2:z8 b y<;>by_cases b3:z8 b z<;>simp only [b1,b2,b3,if_true,if_false]<;>first
   | omega
   | (exfalso
      have k1: ¬ (x=v\/x=w):=fun k=>(by first|exact absurd (c1 _ k) b1|exact (by assumption:False))
      omega)
   | (exfalso
      by_cases k1:x=v\/x=w
      ·by_cases k2:y=v\/y=w
       ·first|exact b1 (c1 _ k1)|exact b2 (c1 _ k2)
       ·by_cases k3:z=v\/z=w
        ·first|exact b1 (c1 _ k1)|exact b3 (c1 _ k3)
        ·omega
      ·by_cases k2:y=v\/y=w
       ·by_cases k3:z=v\/z=w
        ·first|exact b2 (c1 _ k2)|exact b3 (c1 _ k3)
        ·omega
       ·omega)
theorem z3t {l:List P3} {v:Int} {k:Nat} (hk:k<(inL l v l.length).length):0<=(inL l v l.length).getD k 0/\((inL l v l.length).getD k 0).toNat<l.length/\z8 (tg l ((inL l v l.length).getD k 0).toNat) v:=by
 obtain ⟨j,hj,h,e⟩:=zC0.1 (jB hk);rw [e];exact ⟨by omega,by omega,h⟩
theorem z2C {l:List P3} (hd: ∀ i,i<l.length->¬ dgn (tg l i)) {v:Int} (hne:0<(inL l v l.length).length):(zBZ l v).1=(zBZ l v).2↔z6C l v:=by
 have e:(zBZ l v).2=(fsS (zJc l) (inL l v l.length) l.length (inL l v l.length).length).2:=if_neg (by omega);rw [e];have hc:=zZL (bs:=zJc l) (L:=inL l v l.length) (n:=l.length) zQZ (zOB l v _) hne;have hc:(zBZ l v).1=(fsS (zJc l) (inL l v l.length) l.length (inL l v l.length).length).2↔_:=⟨fun h=>hc.1 h.symm,fun h=>(hc.2 h).symm⟩;rw [hc]
 have rel: ∀ i j:Nat,i<l.length->z8 (tg l i) v->z8 (tg l j) v->(zJc l (i:Int) (j:Int)=true↔∃ w,w≠v/\z8 (tg l i) w/\z8 (tg l j) w):=fun i j hi h1 h2=>by
  unfold zJc;exact z5O (hd i hi) h1 h2
 obtain ⟨z,hz,hzv,ez⟩:=zC0.1 (jB hne);constructor
 ·intro h Q hQ a ha hav hqa i hi hiv
  have go: ∀ R:Nat->Prop,(∀ i j:Nat,i<l.length->j<l.length->z8 (tg l i) v->z8 (tg l j) v->(∃ w:Int,w≠v/\z8 (tg l i) w/\z8 (tg l j) w)->R i->R j)->R z->∀ i,i<l.length->z8 (tg l i) v->R i:=fun R hR h0 i hi hiv=>by
   have:=h (fun x=>R x.toNat) (fun x hx y hy b q=>by
    obtain ⟨p,hp,hpv,rfl⟩:=zC0.1 hx;obtain ⟨s,hs,hsv,rfl⟩:=zC0.1 hy
    exact hR p s hp hs hpv hsv ((rel p s hp hpv hsv).1 b) q) (by rw [ez];exact h0) (i:Int) (zC0.2 ⟨i,hi,hiv,rfl⟩)
   exact this
  by_cases hqz:Q z
  ·exact go Q hQ hqz i hi hiv
  ·exact absurd hqa (go (fun k=> ¬ Q k) (fun i j hi hj h1 h2 ⟨w,w1,w2,w3⟩ hn hq=>hn (hQ j i hj hi h2 h1 ⟨w,w1,w3,w2⟩ hq)) hqz a ha hav)
 ·intro h Q hQ h0 x hx;obtain ⟨i,hi,hiv,rfl⟩:=zC0.1 hx;rw [ez] at h0;exact h (fun k=>Q (k:Int)) (fun p q hp hq h1 h2 hw hqp=>hQ _ (zC0.2 ⟨p,hp,h1,rfl⟩) _ (zC0.2 ⟨q,hq,h2,rfl⟩) ((rel p q hp h1 h2).2 hw) hqp) z hz hzv h0 i hi hiv
def shE (t u:P3) (p q:Nat):Prop:=zKl t p=zKl u q/\zKl t ((p+1) % 3)=zKl u ((q+1) % 3)
def zQ9 (t u:P3):Prop:=(∀ p q,p<3->q<3->¬ shE t u p q)/\zLq t u 3≠3
theorem zQ8 {t:P3} {a b:Int} :dE t a b↔∃ p,p<3/\zKl t p=a/\zKl t ((p+1) % 3)=b:=by
 constructor
 ·rintro (⟨h1,h2⟩|⟨h1,h2⟩|⟨h1,h2⟩)
  ·exact ⟨0,by omega,h1,h2⟩
  ·exact ⟨1,by omega,h1,h2⟩
  ·exact ⟨2,by omega,h1,h2⟩
 ·rintro ⟨p,hp,h1,h2⟩;have:p=0\/p=1\/p=2:=by omega
  rcases this with e|e|e<;>subst e
  ·exact .inl ⟨h1,h2⟩
  ·exact .inr (.inl ⟨h1,h2⟩)
  ·exact .inr (.inr ⟨h1,h2⟩)
theorem z9e (t u:P3):zLq t u 3=3↔z8 u t.1/\z8 u t.2.1/\z8 u t.2.2:=by
 rw [zDu,zDu,zDu];have e0:zKl t 0=t.1:=rfl;have e1:zKl t 1=t.2.1:=rfl;have e2:zKl t 2=t.2.2:=rfl;rw [e0,e1,e2];show (if _ then (if _ then (if _ then (0:Int)+1 else 0)+1 else _)+1 else _)=3↔_
 by_cases b1:z8 u t.1<;>by_cases b2:z8 u t.2.1<;>by_cases b3:z8 u t.2.2<;>simp [b1,b2,b3,zLq]
theorem zUH {t u:P3} (h1: ¬ dgn t) (h2: ¬ dgn u) (h:z8 u t.1/\z8 u t.2.1/\z8 u t.2.2):z8 t u.1/\z8 t u.2.1/\z8 t u.2.2:=by
 obtain ⟨x,y,z⟩:=t;obtain ⟨p,q,r⟩:=u;unfold z8 at *;unfold dgn at *;simp only at *;omega
theorem zWb {s:Int×List P3} (hf:zMc s) (hd: ∀ i,i<s.2.length->¬ dgn (tg s.2 i)) (hp: ∀ i k,k<i->i<s.2.length->zQ9 (tg s.2 i) (tg s.2 k)) (hv: ∀ v:Nat,(v:Int)<s.1->(zBZ s.2 v).1≠0/\(zBZ s.2 v).1=(zBZ s.2 v).2):zBK s:=by
 refine ⟨hf,hd,fun i j hij hj a b k1 k2=> ?_,fun i j hij hj hh=> ?_,fun v hv'=> ?_,fun v hv'=> ?_⟩
 ·obtain ⟨p,hp3,e1,e2⟩:=zQ8.1 k1;obtain ⟨q,hq3,e3,e4⟩:=zQ8.1 k2;exact (hp j i hij hj).1 q p hq3 hp3 ⟨e3.trans e1.symm,e4.trans e2.symm⟩
 ·refine (hp j i hij hj).2 ((z9e _ _).2 ?_);exact zUH (hd i (by omega)) (hd j hj) hh
 ·have:=(hv v hv').1
  have:0<(inL s.2 v s.2.length).length:=by
   have e:(zBZ s.2 v).1=((inL s.2 v s.2.length).length:Int):=rfl;omega
  obtain ⟨j,hj,h,_⟩:=zC0.1 (jB this);exact ⟨j,hj,h⟩
 ·have h1:=(hv v hv').1
  have:0<(inL s.2 v s.2.length).length:=by
   have e:(zBZ s.2 v).1=((inL s.2 v s.2.length).length:Int):=rfl;omega
  exact (z2C hd this).1 (hv v hv').2
theorem zNY {s:Int×List P3} (h:zBK s) {i k:Nat} (hki:k<i) (hi:i<s.2.length):zQ9 (tg s.2 i) (tg s.2 k):=by
 refine ⟨fun p q hp hq hh=> ?_,fun hh=> ?_⟩
 ·exact h.dif k i hki hi _ _ (zQ8.2 ⟨q,hq,rfl,rfl⟩) (zQ8.2 ⟨p,hp,hh.1,hh.2⟩)
 ·exact h.mir k i hki hi (zUH (h.deg i hi) (h.deg k (by omega)) ((z9e _ _).1 hh))
theorem zZt {s:Int×List P3} (h:zBK s) {v:Nat} (hv:(v:Int)<s.1):(zBZ s.2 v).1≠0/\(zBZ s.2 v).1=(zBZ s.2 v).2:=by
 obtain ⟨j,hj,hjv⟩:=h.use v hv;have hm:(j:Int)∈inL s.2 v s.2.length:=zC0.2 ⟨j,hj,hjv,rfl⟩;have:0<(inL s.2 v s.2.length).length:=List.length_pos_of_mem hm;refine ⟨?_,(z2C h.deg this).2 (h.pin v hv)⟩;have e:(zBZ s.2 v).1=((inL s.2 v s.2.length).length:Int):=rfl;omega
end S1
open Go Go.Vm Go.Proofs
namespace S1
@[irreducible] def hasB (t:P3) (v:Int):Bool:=decide (z8 t v)
theorem zG2 {t:P3} {v:Int} :hasB t v=true↔z8 t v:=by unfold hasB;exact decide_eq_true_iff
theorem zP4 {t:P3} {v:Int} :hasB t v=false↔¬ z8 t v:=by rw [<- zG2];simp
theorem z0O {fn} (t:P3) (v:Int):zAG ⟨tyL,fn,[]⟩ Tryz.f51 [ETy.arr3.av t,y8.av v] (fun r=>r= .s (.bool (hasB t v))):=by
 repeat' (conv=>whnf
          first|done|refine qN ?_|apply qH|refine qG fun _=> ?_|apply qB|refine qy ?_|refine qw (fun _=> ?_) (fun _=> ?_)|apply qt|refine qi (fun _=> ?_) (fun _=> ?_)|refine zA rfl ?_|apply qE|apply qO|exact zO|refine qu ?_)
 all_goals try first|refine qz ?_|apply qz5
 all_goals try simp only [z6,zS,yE,zZ,qn1,z7,qn2,zX,ETy.dflt,qn3,qn4,Int.reduceToNat,Int.reduceAdd,Int.reduceSub,Int.reduceNeg,Nat.reduceAdd,zD] at *
 all_goals (rw [Bool.eq_iff_iff,zG2];unfold z8;simp [*])
def zI7:List AV->Option Res:=zCr .arr3 y8 (fun t v=>some (none,none,.s (.bool (hasB t v))))
theorem zLs:qM Tryz.prog 51 zI7:=mkR (jD fun t v r h=>by cases h;exact fb (fn:=[]) trivial Tryz.func51 fun _ _=>z0O t v) Tryz.func51
theorem zXs (t:P3) (k:Nat):[t.1,t.2.1,t.2.2].getD k 0=zKl t k:=rfl
theorem tmX (x:Nat):(((x:Int)+1).tmod 3).toNat=(x+1) % 3:=by rw [Int.tmod_eq_emod_of_nonneg (by omega)];omega
def zQN (a b:P3):Spec Nat where
 inv k:=k<=3
 live k:=[(6,.s (.int .i64 k)),(5,.s (.int .i64 (zLq a b k)))]
 keep:=[2,3]
 heap _:=[]
 keepH:=[0,1]
 mu k:=3 - k
theorem zKY (a b:P3):zLq a b 0=0:=rfl
attribute [local irreducible] zLq
theorem z0X (a b:P3):zAG ⟨tyL,[(51,zI7)],[]⟩ Tryz.f91 [ETy.arr3.av a,ETy.arr3.av b] (fun r=>r= .s (.bool (z38 a b))):=by
 repeat' (conv=>whnf
          first|done|refine qN ?_|apply qH|refine qG fun _=> ?_|apply qB|refine qy ?_|refine qw (fun _=> ?_) (fun _=> ?_)|apply qt|refine qi (fun _=> ?_) (fun _=> ?_)|(refine zaB 3 rfl (zQN a b) (0) ?_ ?_ ?_ fun k hk=> ?_)|with_reducible refine zaA (zQN _ _) (k+1) ?_ ?_ ?_ ?_|refine zA rfl ?_|apply qE|apply qO|exact zO|refine qu ?_)
 all_goals try first|refine qz ?_|apply qz5
 all_goals try simp only [z6,zS,yE,zZ,qn1,z7,qn2,zX,ETy.dflt,qn3,qn4,Int.reduceToNat,Int.reduceAdd,Int.reduceSub,Int.reduceNeg,Nat.reduceAdd,zD,zQN,zXs,z38,tmX] at *
 all_goals try exact zKY a b
 all_goals try exact qh (Nat.zero_le _)
 all_goals try (rw [zKY];done)
 all_goals try (rw [zKY];rfl)
 all_goals try exact zKY _ _
 all_goals try exact (zKY _ _).symm
 all_goals have hN:=zQS a b k
 all_goals try (refine qh ?_;omega)
 all_goals try (refine qh ?_;unfold yP;omega)
 all_goals try (rw [zDu,if_pos (zG2.1 (by assumption))];done)
 all_goals try (rw [zDu,if_neg (zP4.1 (by assumption))];done)
 all_goals (rw [show k=3 by omega])
def zYh:List AV->Option Res:=zCr .arr3 .arr3 (fun a b=>some (none,none,.s (.bool (z38 a b))))
theorem z08:qM Tryz.prog 91 zYh:=mkR (jD fun a b r h=>by cases h;exact fb (by exact ⟨zLs,trivial⟩) Tryz.func91 fun _ _=>z0X a b) Tryz.func91
theorem z68 (l:List P3) (v:Int):inL l v 0=[]:=rfl
theorem z5X {l:List P3} {v:Int} {i:Nat} (h:hasB (l.getD i (0,0,0)) v=true):inL l v (i+1)=inL l v i++[(i:Int)]:=by
 have h:z8 (tg l i) v:=zG2.1 h;rw [zL8];unfold inG;rw [if_pos h];rfl
theorem z74 {l:List P3} {v:Int} {i:Nat} (h:hasB (l.getD i (0,0,0)) v=false):inL l v (i+1)=inL l v i:=by
 have h: ¬ z8 (tg l i) v:=zP4.1 h;rw [zL8];unfold inG;rw [if_neg h];exact List.append_nil _
theorem z6Q (bs:Int->Int->Bool) (L:List Int) (n:Nat):(fsS bs L n 0).2=1:=rfl
theorem z8F (bs:Int->Int->Bool) (L:List Int) (n:Nat):(fsS bs L n 0).1=(List.replicate n false).set (L.getD 0 0).toNat true:=rfl
theorem z7a {X:Type} (f:X->Nat->X) (s:X):qA f s 0=s:=rfl
theorem z8v (bs:Int->Int->Bool) (L:List Int) (S:FsT) (p:Nat):qA (fsI bs L) S (p+1)=qA (fsK bs L p) (qA (fsI bs L) S p) L.length:=rfl
theorem z9H (bs:Int->Int->Bool) (L:List Int) (n r:Nat):fsS bs L n (r+1)=qA (fsI bs L) (fsS bs L n r) L.length:=rfl
theorem z5G {l:List P3} {v:Int} (h:(inL l v l.length).length=0):zBZ l v=(0,0):=by
 unfold zBZ;rw [if_pos h,h];rfl
theorem z5j {l:List P3} {v:Int} (h:(inL l v l.length).length≠0):zBZ l v=(((inL l v l.length).length:Int),(fsS (zJc l) (inL l v l.length) l.length (inL l v l.length).length).2):=by
 unfold zBZ;rw [if_neg h]
attribute [local irreducible] inL z38
def zVh (l:List P3) (v:Int):Spec Nat where
 inv i:=i<=l.length
 live i:=[(7,.s (.int .i64 i)),(6,.s (.own 1 0 (inL l v i).length))]
 keep:=[1,2,4,5]
 heap i:=[(1,.row y8 3 (inL l v i))]
 keepH:=[0]
 mu i:=l.length - i
def zV5 (l:List P3) (L:List Int):Spec Nat where
 inv r:=r<=L.length
 live r:=[(10,.s (.int .i64 r)),(9,.s (.int .i64 (fsS (zJc l) L l.length r).2))]
 keep:=[1,2,4,5,6,8]
 heap r:=[(2,.row .bool 4 (fsS (zJc l) L l.length r).1)]
 keepH:=[0,1]
 mu r:=L.length - r
def zUA (l:List P3) (L:List Int) (r:Nat):Spec Nat where
 inv i:=i<=L.length
 live i:=[(11,.s (.int .i64 i)),(9,.s (.int .i64 (qA (fsI (zJc l) L) (fsS (zJc l) L l.length r) i).2))]
 keep:=[1,2,4,5,6,8,10]
 heap i:=[(2,.row .bool 4 (qA (fsI (zJc l) L) (fsS (zJc l) L l.length r) i).1)]
 keepH:=[0,1]
 mu i:=L.length - i
def zXR (l:List P3) (L:List Int) (r i:Nat):Spec Nat where
 inv k:=k<=L.length
 live k:=[(12,.s (.int .i64 k)),(9,.s (.int .i64 (qA (fsK (zJc l) L i) (qA (fsI (zJc l) L) (fsS (zJc l) L l.length r) i) k).2))]
 keep:=[1,2,4,5,6,8,10,11]
 heap k:=[(2,.row .bool 4 (qA (fsK (zJc l) L i) (qA (fsI (zJc l) L) (fsS (zJc l) L l.length r) i) k).1)]
 keepH:=[0,1]
 mu k:=L.length - k
theorem z4I {bs:Int->Int->Bool} {L:List Int} {i k:Nat} {S:FsT} (h1:(qA (fsK bs L i) S k).1.getD (L.getD i 0).toNat false=true) (h2:(qA (fsK bs L i) S k).1.getD (L.getD k 0).toNat false=false) (h3:bs (L.getD i 0) (L.getD k 0)=true) :
 qA (fsK bs L i) S (k+1)=((qA (fsK bs L i) S k).1.set (L.getD k 0).toNat true,(qA (fsK bs L i) S k).2+1):=if_pos ⟨h1,h2,h3⟩
theorem zWg {bs:Int->Int->Bool} {L:List Int} {i k:Nat} {S:FsT} (h:(qA (fsK bs L i) S k).1.getD (L.getD i 0).toNat false=false\/(qA (fsK bs L i) S k).1.getD (L.getD k 0).toNat false=true\/bs (L.getD i 0) (L.getD k 0)=false) :
 qA (fsK bs L i) S (k+1)=qA (fsK bs L i) S k:=if_neg (by
 rintro ⟨h1,h2,h3⟩;rcases h with h|h|h
 ·rw [h] at h1;cases h1
 ·rw [h] at h2;cases h2
 ·rw [h] at h3;cases h3)
attribute [local irreducible] fsS qA
theorem z1N (n:Int) (l:List P3) (v:Int) (hl:l.length<=8192):zAG ⟨tyL,[(51,zI7),(91,zYh)],[]⟩ Tryz.f52 [qP.av (n,l),y8.av v] (fun r=>r= .tup [.s (.int .i64 (zBZ l v).1),.s (.int .i64 (zBZ l v).2)]):=by
 repeat' (conv=>whnf
          first|done|refine qN ?_|apply qH|refine qG fun _=> ?_|apply qB|refine qy ?_|refine qw (fun _=> ?_) (fun _=> ?_)|apply qt|refine qi (fun _=> ?_) (fun _=> ?_)|(refine zaB 3 rfl (zVh l v) (0) ?_ ?_ ?_ fun i hi=> ?_)|with_reducible refine zaA (zVh _ _) (i+1) ?_ ?_ ?_ ?_|(refine zaB 13 rfl (zV5 l (inL l v l.length)) (0) ?_ ?_ ?_ fun r hr=> ?_)|with_reducible refine zaA (zV5 _ _) (r+1) ?_ ?_ ?_ ?_|(refine zaB 16 rfl (zUA l (inL l v l.length) r) (0) ?_ ?_ ?_ fun p hp=> ?_)|with_reducible refine zaA (zUA _ _ _) (p+1) ?_ ?_ ?_ ?_|(refine zaB 19 rfl (zXR l (inL l v l.length) r p) (0) ?_ ?_ ?_ fun q hq=> ?_)|with_reducible refine zaA (zXR _ _ _ _) (q+1) ?_ ?_ ?_ ?_|refine zA rfl ?_|apply qE|apply qO|exact zO|refine qu ?_)
 all_goals try first|refine qz ?_|apply qz5
 all_goals try simp only [z6,zS,yE,zZ,qn1,z7,qn2,zX,ETy.dflt,qn3,qn4,Int.reduceToNat,Int.reduceAdd,Int.reduceSub,Int.reduceNeg,Nat.reduceAdd,zD,zVh,zV5,zUA,zXR] at *
 all_goals try exact qh (Nat.zero_le _)
 all_goals try (rw [z68];done)
 all_goals try (rw [z68];rfl)
 all_goals have hle:=z58 l v i
 all_goals try (refine qh ?_;omega)
 all_goals try (rw [z5X (by assumption)];first|done|exact zN)
 all_goals try (rw [z74 (by assumption)];done)
 all_goals have ei:i=l.length:=by omega
 all_goals subst ei
 all_goals have hg:=fun k (hk:k<(inL l v l.length).length)=>z3t (l:=l) (v:=v) hk
 all_goals have hrg:=zQZ (l:=l) (v:=v) (n:=l.length)
 all_goals try
  have h0:((inL l v l.length).length:Int)=0:=by assumption
  rw [z5G (show (inL l v l.length).length=0 by omega)];exact y9.intro rfl
 all_goals have hne : (inL l v l.length).length ≠ 0 := by have h0:((inL l v l.length).length:Int)≠0:=by assumption
                                                          omega
 all_goals try exact z6Q _ _ _
 all_goals try exact z8F _ _ _
 all_goals try (rw [z7a];done)
 all_goals try (have h:=hg 0 (by omega);refine yJ.intro (zA ?_ ?_)<;>omega)
 all_goals try
  have hr1:r=(inL l v l.length).length:=by omega
  rw [z5j hne,hr1];exact y9.intro rfl
 all_goals try
  have hp1:p=(inL l v l.length).length:=by omega
  rw [z9H,hp1];done
 all_goals try
  have hq1:q=(inL l v l.length).length:=by omega
  rw [z8v,hq1];done
 all_goals (have kp:=hg p (by omega);have kq:=hg q (by omega))
 all_goals try (refine yJ.intro (zA ?_ ?_)<;>omega)
 all_goals have hS:=zOu.r (bs:=zJc l) hrg (by omega) r
 all_goals have hS:=zOu.i (bs:=zJc l) hrg hS p (by omega)
 all_goals have hS:=(zOu.k (bs:=zJc l) hrg hS (i:=p) (by omega) q (by omega)).le
 all_goals try (refine qh ?_;unfold yP;omega)
 all_goals try (refine qh ?_;omega)
 all_goals first
  | (rw [z4I (by assumption) (by assumption) (by assumption)];done)
  | (rw [zWg (.inl (by assumption))];done)
  | (rw [zWg (.inr (.inl (by assumption)))];done)
  | (rw [zWg (.inr (.inr (by assumption)))];done)
def zUm:List AV->Option Res:=zCr qP y8 (fun s v=>some (none,some (s.2.length<=8192),.tup [.s (.int .i64 (zBZ s.2 v).1),.s (.int .i64 (zBZ s.2 v).2)]))
theorem zZk:qM Tryz.prog 52 zUm:=mkR (jD fun s v r h=>by cases h;exact fb (by exact ⟨zLs,z08,trivial⟩) Tryz.func52 fun _ h=>z1N s.1 s.2 v h) Tryz.func52
end S1
