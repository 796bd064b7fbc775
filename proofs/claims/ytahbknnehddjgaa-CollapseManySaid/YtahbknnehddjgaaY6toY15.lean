/- A part of the proofs of the laws. -/
import Derived.Test.YtahbknnehddjgaaY4atoY5
import Derived.Test.YtahbknnehddjgaaT5toT11
import Derived.Test.YtahbknnehddjgaaF7toW5p
set_option linter.unusedSimpArgs false
set_option linter.unusedVariables false
set_option maxHeartbeats 8000000
set_option maxRecDepth 100000
open Go Go.Vm Go.Proofs
namespace S1
theorem why_rng (x:tabE.T) (a b:Int):whyR x a b=0∨whyR x a b=1∨whyR x a b=2∨whyR x a b=3∨whyR x a b=4:=by
  unfold whyR
  (repeat' split)<;>simp
theorem doE_why {w:SoT} {a b:Int} (h:doE w a b=0):Surf w∧InN w.1 a∧InN w.1 b∧whyR (newT w) a b=0∧a≠b:=by
  have hs:Surf w:=by
    apply Classical.byContradiction
    intro k
    unfold doE at h
    rw [if_neg (fun e=>k ((is_surf w).1 e))] at h
    cases h
  rw [doE_surf hs] at h
  split at h
  case isFalse=>cases h
  rename_i hr
  have h0:whyR (newT w) a b=0:=by
    rcases why_rng (newT w) a b with e | e | e | e | e
    · exact e
    all_goals (rw [e] at h;exact absurd h (by decide))
  refine ⟨hs,hr.1,hr.2,h0,fun e=> ?_⟩
  subst e
  rw [why_far (near_self (new_of hs).2.1.toGood a)] at h0
  cases h0
theorem doR_was {w s:SoT} {r:RecT} {a b:Int} (h:doR w a b=(s,r,0)):Was w a b∧s=(w.1 - 1,drL a b w.2 w.2.length)∧r=recR w a b∧whyR (newT w) a b=0:=by
  have he:doE w a b=0:=by rw [← doR_err,h]
  rw [doR_0 he] at h
  obtain ⟨h1,h2,h3,h4,h5⟩:=doE_why he
  have e1:=congrArg Prod.fst h
  have e2:=congrArg (fun z=>z.2.1) h
  exact ⟨⟨h1,h2,h3,h5⟩,e1.symm,e2.symm,h4⟩
theorem doR_back {w s:SoT} {r:RecT} {a b:Int} (h:doR w a b=(s,r,0)):bkR s r=(w,true)∧rbk s r=some w:=by
  obtain ⟨h1,h2,h3,_⟩:=doR_was h
  subst h2 h3
  exact ⟨bk_was h1,rbk_was h1⟩
theorem doR_surf {w s:SoT} {r:RecT} {a b:Int} (h:doR w a b=(s,r,0)):Surf s:=by
  obtain ⟨h1,h2,h3,h4⟩:=doR_was h
  have:=draw_surf (new_of h1.surf).2.1 h1.surf h4
  rw [h2,drL_all]
  exact this
open Classical in
noncomputable def undoR (s:SoT) (r:RecT):SoT×Int:=if h: ∃ w,doR w r.1 r.2.1=(s,r,0) then (Classical.choose h,0) else ((0,[]),if isR s=true then 3 else 11)
theorem undoR_of {w s:SoT} {r:RecT} (h:doR w r.1 r.2.1=(s,r,0)):undoR s r=(w,0):=by
  have hh: ∃ w,doR w r.1 r.2.1=(s,r,0):=⟨w,h⟩
  unfold undoR
  rw [dif_pos hh]
  have k:=(doR_back (Classical.choose_spec hh)).1
  rw [(doR_back h).1] at k
  exact Prod.ext (congrArg (fun z=>z.1) k).symm rfl
theorem undoR_no {s:SoT} {r:RecT} (h: ¬ ∃ w,doR w r.1 r.2.1=(s,r,0)):undoR s r=((0,[]),if isR s=true then 3 else 11):=by
  unfold undoR;rw [dif_neg h]
theorem undoR_11 {s:SoT} {r:RecT} (h:newO s=none):undoR s r=((0,[]),11):=by
  have hn: ¬ isR s=true:=fun k=>by have:=(new_of ((is_surf s).1 k)).1;rw [h] at this;cases this
  rw [undoR_no (fun ⟨w,hw⟩=>hn ((is_surf s).2 (doR_surf hw))),if_neg hn]
theorem undoR_3 {s:SoT} {r:RecT} (hs:Surf s) (h: ∀ w,bkR s r=(w,true)→doR w r.1 r.2.1≠(s,r,0)):undoR s r=((0,[]),3):=by
  rw [undoR_no (fun ⟨w,hw⟩=>h w (doR_back hw).1 hw),if_pos ((is_surf s).2 hs)]
def bkV (r:SoT×Bool):AV:= .tup [soupE.av r.1,.s (.bool r.2)]
def bkW (s:SoT) (r:RecT):AV:=if bkC s r∧kF (bkG r) (bkN s r)≤s.2.length∧fanB (bkN s r) r.2.2.2.2=true then bkV (bkR s r) else .tup [.agg [.int .i64 0,.val (.slice none 0 0)],.s (.bool false)]
theorem bkW_rep {σ:Sig} {s:SoT} {r:RecT} {v:Value} (h:VRep σ [] (bkW s r) v):VRep σ [] (bkV (bkR s r)) v:=by
  unfold bkW at h
  split at h
  · exact h
  · rename_i hn
    unfold bkR
    rw [if_neg hn]
    obtain ⟨vs,e1,h⟩:=h
    match vs,h with
    | [x,y],⟨⟨ds,ea,h1⟩,h3⟩ =>
      refine ⟨_,e1,⟨ds,ea,?_⟩,h3⟩
      match ds,h1 with
      | [d1,d2],⟨k1,k2,k3⟩=>exact ⟨k1,nil_sl k2,k3⟩
def gonP (r:RecT) (k:Nat):GoT:=gonM r.2.2.1 r.2.2.2.1 k
theorem gonP_0 (r:RecT):gonP r 0=[]:=rfl
theorem gonP_s (r:RecT) (k:Nat):gonP r (k+1)=mset (.int .i64) (gonP r k) (r.2.2.1.getD k 0) (r.2.2.2.1.getD k (0,0,0)):=rfl
theorem outB_0 (g:GoT) (T:List P3) (A:Int):outB g T A 0=[]:=rfl
theorem outB_s (g:GoT) (T:List P3) (A:Int) (i:Nat):outB g T A (i+1)=outB g T A i++[bkT g T A i]:=by
  unfold outB;rw [List.range_succ,List.map_append];rfl
theorem outB_len (g:GoT) (T:List P3) (A:Int) (i:Nat):(outB g T A i).length=i:=by unfold outB;simp
theorem fanO_len (A:Int) (fan:List Int) (o:List P3): ∀ j,(fanO A fan o j).length=o.length
  | 0=>rfl
  | j+1=>by
    show (fanS1 A (fanO A fan o j) (fan.getD j 0)).length=_
    unfold fanS1;rw [List.length_set];exact fanO_len A fan o j
theorem fanO_s (A:Int) (fan:List Int) (o:List P3) (j:Nat):fanO A fan o (j+1)=(fanO A fan o j).set ((fan.getD j 0).tdiv 3).toNat (set3 ((fanO A fan o j).getD ((fan.getD j 0).tdiv 3).toNat (0,0,0)) ((fan.getD j 0).tmod 3).toNat A):=rfl
def loopB1 (r:RecT):Spec Nat where
  inv i:=i≤r.2.2.1.length
  live i:=[(59,.s (.int .i64 i))]
  keep:=[2,3,4,5,6,7,57,58]
  heap i:=[(3,.map i64E .arr3 (gonP r i))]
  keepH:=[0,1,2]
  mu i:=r.2.2.1.length - i
def loopB2 (n:Int) (l:List P3) (r:RecT):Spec Nat where
  inv i:=i≤bkN (n,l) r∧kF (bkG r) i≤l.length
  live i:=[(77,.s (.int .i64 i)),(11,.s (.int .i64 (kF (bkG r) i)))]
  keep:=[2,3,4,5,6,7,10,76]
  heap i:=[(4,.flat 24 [.int .i64 (n+1),.own 5 0 (outB (bkG r) l r.1 i).length]),(5,.row .arr3 40 (outB (bkG r) l r.1 i))]
  keepH:=[0,1,2,3]
  mu i:=bkN (n,l) r - i
  nils:=[4]
def loopB4 (n:Int) (l:List P3) (r:RecT):Spec Nat where
  inv j:=j≤r.2.2.2.2.length∧∀ k,k<j→0≤r.2.2.2.2.getD k 0∧r.2.2.2.2.getD k 0<3*(bkN (n,l) r:Int)
  live j:=[(125,.s (.int .i64 j))]
  keep:=[2,3,4,5,6,7,10,11,123,124]
  heap j:=[(5,.row .arr3 40 (fanO r.1 r.2.2.2.2 (outB (bkG r) l r.1 (bkN (n,l) r)) j))]
  keepH:=[0,1,2,3,4]
  mu j:=r.2.2.2.2.length - j
theorem fanB_no {n:Nat} {fan:List Int} {k:Nat} (hk:k<fan.length) (h:fan.getD k 0<0∨fan.getD k 0≥3*(n:Int)): ¬ fanB n fan=true:=fun e=>by
  unfold fanB at e
  have:=List.all_eq_true.1 e _ (getD_mem hk)
  rw [decide_eq_true_eq] at this;omega
theorem fanB_yes {n:Nat} {fan:List Int} (h: ∀ k,k<fan.length→0≤fan.getD k 0∧fan.getD k 0<3*(n:Int)):fanB n fan=true:=by
  unfold fanB
  rw [List.all_eq_true]
  intro c hc
  obtain ⟨i,hi,e⟩:=List.mem_iff_getElem.1 hc
  have:=h i hi
  rw [gdE,gE hi] at this
  have this:0≤fan[i]∧fan[i]<3*(n:Int):=this
  rw [e] at this
  rw [decide_eq_true_eq];exact this
theorem bkW_no {s:SoT} {r:RecT} (h: ¬ (bkC s r∧kF (bkG r) (bkN s r)≤s.2.length∧fanB (bkN s r) r.2.2.2.2=true)):bkW s r= .tup [.agg [.int .i64 0,.val (.slice none 0 0)],.s (.bool false)]:=if_neg h
theorem bkW_yes {s:SoT} {r:RecT} (h:bkC s r∧kF (bkG r) (bkN s r)≤s.2.length∧fanB (bkN s r) r.2.2.2.2=true):bkW s r= .tup [soupE.av (s.1+1,fanO r.1 r.2.2.2.2 (outB (bkG r) s.2 r.1 (bkN s r)) r.2.2.2.2.length),.s (.bool (decide (kF (bkG r) (bkN s r)=s.2.length)))]:=by
  unfold bkW bkR;rw [if_pos h,if_pos h];rfl
theorem kF_hit {g:GoT} {j:Nat} (h:(mget (.int .i64) g (j:Int)).isSome=true):kF g (j+1)=kF g j:=by rw [kF_s,if_pos h]
theorem kF_miss {g:GoT} {j:Nat} (h:(mget (.int .i64) g (j:Int)).isSome=false):kF g (j+1)=kF g j+1:=by rw [kF_s,if_neg (by rw [h];simp)]
theorem outB_hit {g:GoT} {T:List P3} {A:Int} {j:Nat} (h:(mget (.int .i64) g (j:Int)).isSome=true):outB g T A (j+1)=outB g T A j++[(mget (.int .i64) g (j:Int)).getD (0,0,0)]:=by
  rw [outB_s]
  unfold bkT
  cases e:mget (.int .i64) g (j:Int) with
  | none=>rw [e] at h;cases h
  | some t=>rfl
theorem outB_miss {g:GoT} {T:List P3} {A:Int} {j:Nat} (h:(mget (.int .i64) g (j:Int)).isSome=false):outB g T A (j+1)=outB g T A j++[(upV A (T.getD (kF g j) (0,0,0)).1,upV A (T.getD (kF g j) (0,0,0)).2.1,upV A (T.getD (kF g j) (0,0,0)).2.2)]:=by
  rw [outB_s]
  unfold bkT
  cases e:mget (.int .i64) g (j:Int) with
  | none=>rfl
  | some t=>rw [e] at h;cases h
theorem upV_ge {A v:Int} (h:v≥A):upV A v=v+1:=if_pos h
theorem upV_lt {A v:Int} (h: ¬ v≥A):upV A v=v:=if_neg h
theorem bkC_iff {n:Int} {l:List P3} {A B:Int} {at_:List Int} {ts:List P3} {fan:List Int} :bkC (n,l) (A,B,at_,ts,fan)↔at_.length=ts.length∧0≤A∧A≤n∧n<4096∧l.length+at_.length≤8192:=Iff.rfl
theorem fanO_0 (A:Int) (fan:List Int) (o:List P3):fanO A fan o 0=o:=rfl
theorem kF_0 (g:GoT):kF g 0=0:=rfl
theorem gonP_X (A B:Int) (at_:List Int) (ts:List P3) (fan:List Int):gonP (A,B,at_,ts,fan) at_.length=bkG (A,B,at_,ts,fan):=rfl
attribute [local irreducible] bkW gonP kF outB fanO bkG
theorem back_vc {fn} (n:Int) (l:List P3) (A B:Int) (at_:List Int) (ts:List P3) (fan:List Int) (hs:Surf (n,l)):afun ⟨tyL,fn,[]⟩ Try.f37 [soupE.av (n,l),recE.av (A,B,at_,ts,fan)] (fun r=>r=bkW (n,l) (A,B,at_,ts,fan)):=by
  have hf:=hs.fit
  have hn:0≤n∧n≤4096:=⟨hf.1,hf.2.1⟩
  have hl:l.length≤8192:=hf.2.2.1
  repeat' (conv=>whnf
           first | done | refine qN (by first | rfl | omega | (simp only [i64ok] at *;omega)) ?_ | apply qH | refine qG fun _=> ?_ | apply qB | apply qa | apply qo | refine qe (fun _=> ?_) (fun _=> ?_) | refine qn (fun _=> ?_) (fun _=> ?_) | refine qd (fun _=> ?_) (fun _=> ?_) | apply qt | refine qi (fun _=> ?_) (fun _=> ?_) | (refine atReg 6 rfl ?_;refine Or.inr (Exists.intro (Nat) (Exists.intro (loopB1 (A,B,at_,ts,fan)) (And.intro (Exists.intro (0) (And.intro (Hold.out ?_) (And.intro ?_ (And.intro ?_ rfl)))) (fun i hi=> ?_))))) | ((with_reducible show (∃ y,And (Spec.inv (loopB1 _) y) _));refine Exists.intro (i+1) (And.intro (Hold.out ?_) (And.intro (And.intro ?_ (And.intro ?_ rfl)) (Hold.out ?_)))) | (refine atReg 13 rfl ?_;refine Or.inr (Exists.intro (Nat) (Exists.intro (loopB2 n l (A,B,at_,ts,fan)) (And.intro (Exists.intro (0) (And.intro (Hold.out ?_) (And.intro ?_ (And.intro ?_ rfl)))) (fun j hj=> ?_))))) | ((with_reducible show (∃ y,And (Spec.inv (loopB2 _ _ _) y) _));refine Exists.intro (j+1) (And.intro (Hold.out ?_) (And.intro (And.intro ?_ (And.intro ?_ rfl)) (Hold.out ?_)))) | (refine atReg 20 rfl ?_;refine Or.inl (Exists.intro (4) ?_)) | (refine atReg 30 rfl ?_;refine Or.inr (Exists.intro (Nat) (Exists.intro (loopB4 n l (A,B,at_,ts,fan)) (And.intro (Exists.intro (0) (And.intro (Hold.out ?_) (And.intro ?_ (And.intro ?_ rfl)))) (fun k hk=> ?_))))) | ((with_reducible show (∃ y,And (Spec.inv (loopB4 _ _ _) y) _));refine Exists.intro (k+1) (And.intro (Hold.out ?_) (And.intro (And.intro ?_ (And.intro ?_ rfl)) (Hold.out ?_)))) | refine And.intro rfl ?_ | apply qE | apply qO | exact True.intro | apply qq | apply qs | refine qK (by kernel_rfl) ?_ | apply qr)
  all_goals try first | apply qz1 | apply qz2 | apply qz3 | apply qz4 | apply qz5 | apply qz6 | apply qz7 | apply qz8 | apply qz9 | apply qz0
  all_goals try simp only [take_one,take_one',set_one,take_all,qn1,rec_self,qn2,pair_eta,ETy.dflt,qn3,qn4,Int.reduceToNat,Int.reduceAdd,Int.reduceSub,Int.reduceNeg,Nat.reduceAdd,Nat.zero_add,loopB1,loopB2,loopB4] at *
  all_goals have eN:bkN (n,l) (A,B,at_,ts,fan)=l.length+at_.length:=rfl
  all_goals try exact HoldEq.intro (bkW_no (fun k=>by have c:=bkC_iff.1 k.1;omega)).symm
  all_goals try exact gonP_0 _
  all_goals try exact gonP_s _ _
  all_goals try exact outB_0 _ _ _
  all_goals try exact fanO_s _ _ _ _
  all_goals try (rw [kF_0];rfl)
  all_goals try (rw [outB_0];exact HoldOb.intro rfl)
  all_goals try (refine qh ?_;omega)
  all_goals try (rw [kF_0];exact qh ⟨Nat.zero_le _,Nat.zero_le _⟩)
  all_goals have ei:i=at_.length:=by omega
  all_goals subst ei
  all_goals try simp only [gonP_X] at *
  all_goals have eO:(outB (bkG (A,B,at_,ts,fan)) l A j).length=j:=outB_len _ _ _ _
  all_goals have hj1:=hj.1
  all_goals rw [eN] at hj1
  all_goals have hj2:=hj.2
  all_goals try (refine qh ?_;rw [eO];omega)
  all_goals try (refine qh ?_;unfold i64ok;omega)
  all_goals try
    have hit:(mget (.int .i64) (bkG (A,B,at_,ts,fan)) (j:Int)).isSome=true:=by assumption
    first
    | (rw [kF_hit hit];refine Hold.intro (And.intro ?_ ?_)<;>omega)
    | (rw [kF_hit hit];done)
    | exact outB_hit hit
    | (rw [outB_hit hit];exact HoldOb.intro (by rw [List.length_append];rfl))
  all_goals try
    have miss:(mget (.int .i64) (bkG (A,B,at_,ts,fan)) (j:Int)).isSome=false:=by assumption
    have e1:((kF (bkG (A,B,at_,ts,fan)) j:Nat):Int)=(l.length:Int):=by assumption
    refine HoldEq.intro (bkW_no (fun k=> ?_)).symm
    have k2:kF (bkG (A,B,at_,ts,fan)) (bkN (n,l) (A,B,at_,ts,fan))≤l.length:=k.2.1
    have k3:=kF_mono (bkG (A,B,at_,ts,fan)) (i:=j+1) (j:=bkN (n,l) (A,B,at_,ts,fan)) (by omega)
    rw [kF_miss miss] at k3
    omega
  all_goals try
    have miss:(mget (.int .i64) (bkG (A,B,at_,ts,fan)) (j:Int)).isSome=false:=by assumption
    have e1:((kF (bkG (A,B,at_,ts,fan)) j:Nat):Int)≠(l.length:Int):=by assumption
    have hk:kF (bkG (A,B,at_,ts,fan)) j<l.length:=by omega
    have ht:(0≤(l.getD (kF (bkG (A,B,at_,ts,fan)) j) (0,0,0)).1∧(l.getD (kF (bkG (A,B,at_,ts,fan)) j) (0,0,0)).1<n)∧(0≤(l.getD (kF (bkG (A,B,at_,ts,fan)) j) (0,0,0)).2.1∧(l.getD (kF (bkG (A,B,at_,ts,fan)) j) (0,0,0)).2.1<n)∧(0≤(l.getD (kF (bkG (A,B,at_,ts,fan)) j) (0,0,0)).2.2∧(l.getD (kF (bkG (A,B,at_,ts,fan)) j) (0,0,0)).2.2<n):=triIn_spec (hf.2.2.2 _ hk)
    first
    | (rw [kF_miss miss];refine Hold.intro (And.intro ?_ ?_)<;>omega)
    | (refine Hold.intro (And.intro ?_ ?_)<;>omega)
    | (refine qh ?_;unfold i64ok;omega)
    | (rw [kF_miss miss];exact Int.natCast_add _ _)
    | (rw [outB_miss miss];exact HoldOb.intro (by rw [List.length_append];rfl))
    | (rw [outB_miss miss]
       first | rw [upV_ge (v:=(l.getD (kF (bkG (A,B,at_,ts,fan)) j) (0,0,0)).1) (by assumption)] | rw [upV_lt (v:=(l.getD (kF (bkG (A,B,at_,ts,fan)) j) (0,0,0)).1) (by assumption)]
       first | rw [upV_ge (v:=(l.getD (kF (bkG (A,B,at_,ts,fan)) j) (0,0,0)).2.1) (by assumption)] | rw [upV_lt (v:=(l.getD (kF (bkG (A,B,at_,ts,fan)) j) (0,0,0)).2.1) (by assumption)]
       first | rw [upV_ge (v:=(l.getD (kF (bkG (A,B,at_,ts,fan)) j) (0,0,0)).2.2) (by assumption)] | rw [upV_lt (v:=(l.getD (kF (bkG (A,B,at_,ts,fan)) j) (0,0,0)).2.2) (by assumption)]
       rfl)
  all_goals have ej:j=l.length+at_.length:=by omega
  all_goals subst ej
  all_goals try exact fanO_0 _ _ _
  all_goals try (refine Hold.intro (And.intro (Nat.zero_le _) ?_);intro k hk;omega)
  all_goals have hk2:=hk.2
  all_goals try
    have hkl:(k:Int)<fan.length:=by assumption
    have hkl:k<fan.length:=by omega
    first
    | exact HoldEq.intro (bkW_no (fun q=>fanB_no hkl (.inl (by assumption)) q.2.2)).symm
    | (have hge:fan.getD k 0≥3*((bkN (n,l) (A,B,at_,ts,fan):Nat):Int):=by rw [eN];omega
       exact HoldEq.intro (bkW_no (fun q=>fanB_no hkl (.inr hge) q.2.2)).symm)
  all_goals try
    have h0: ¬ fan.getD k 0<0:=by assumption
    have e3:(fan.getD k 0).tdiv 3=fan.getD k 0 / 3:=Int.tdiv_eq_ediv_of_nonneg (by omega)
    have e4:(fan.getD k 0).tmod 3=fan.getD k 0 % 3:=Int.tmod_eq_emod_of_nonneg (by omega)
    rw [eN] at hk2
    first
    | (rw [e3];refine Hold.intro (And.intro (by decide) ?_);unfold i64ok;omega)
    | (rw [e3];refine Hold.intro (And.intro ?_ ?_)<;>omega)
    | (rw [e4];refine Hold.intro (And.intro ?_ ?_)<;>omega)
    | (rw [eN]
       refine Hold.intro (And.intro ?_ ?_)
       · omega
       · intro q hq
         by_cases e:q=k
         · subst e;omega
         · have:=hk2 q (by omega);omega)
  all_goals
    have ek:k=fan.length:=by omega
    subst ek
    have hC:bkC (n,l) (A,B,at_,ts,fan):=bkC_iff.2 (by omega)
    have hF:fanB (bkN (n,l) (A,B,at_,ts,fan)) fan=true:=fanB_yes hk2
    refine HoldEq.intro ?_
    rw [bkW_yes ⟨hC,by rw [eN];exact hj2,hF⟩]
    rw [List.drop_zero,List.take_of_length_le (by rw [fanO_len,outB_len];rw [eO];exact Nat.le_refl _)]
    have e5:((kF (bkG (A,B,at_,ts,fan)) (l.length+at_.length):Int)==(l.length:Int))=decide (kF (bkG (A,B,at_,ts,fan)) (bkN (n,l) (A,B,at_,ts,fan))=l.length):=by
      rw [Bool.eq_iff_iff,beq_iff_eq,decide_eq_true_eq,eN];omega
    rw [e5];rfl
def backC:List AV→Option Res:=con2 soupE recE (fun s r=>some (none,some (Surf s),bkV (bkR s r)))
theorem backRow:FnRow Try.prog 37 backC:=⟨con2_ok fun s r q h=>by
  cases h
  exact FnOk.res (fn_by (rulesF (fn:=[]) (fr:=[]) trivial trivial) Try.func37 (by kernel_rfl) fun _ h=>back_vc s.1 s.2 r.1 r.2.1 r.2.2.1 r.2.2.2.1 r.2.2.2.2 h) fun σ v h=>bkW_rep h,_,Try.func37,by kernel_rfl,by kernel_rfl⟩
end S1
open Go Go.Vm Go.Proofs
namespace S1
theorem ssame_vc (a b:Int) (l m:List P3):afun ⟨tyL,[(60,equalC)],[]⟩ Try.f38 [soupE.av (a,l),soupE.av (b,m)] (fun r=>r= .s (.bool (eqS (a,l) (b,m)))):=by
  repeat' (conv=>whnf
           first | done | refine qN (by first | rfl | omega | (simp only [i64ok] at *;omega)) ?_ | apply qH | refine qG fun _=> ?_ | apply qB | apply qa | apply qo | refine qe (fun _=> ?_) (fun _=> ?_) | refine qn (fun _=> ?_) (fun _=> ?_) | refine qd (fun _=> ?_) (fun _=> ?_) | apply qt | refine qi (fun _=> ?_) (fun _=> ?_) | refine And.intro rfl ?_ | apply qE | apply qO | exact True.intro | apply qq | apply qs | refine qK (by kernel_rfl) ?_ | apply qr)
  all_goals try first | apply qz1 | apply qz2 | apply qz3 | apply qz4 | apply qz5 | apply qz6 | apply qz7 | apply qz8 | apply qz9 | apply qz0
  all_goals try simp only [take_one,take_one',set_one,take_all,qn1,rec_self,qn2,pair_eta,ETy.dflt,qn3,qn4,Int.reduceToNat,Int.reduceAdd,Int.reduceSub,Int.reduceNeg,Nat.reduceAdd,Nat.zero_add,eqS,eqR] at *
  · rename_i h;subst h
    rw [decide_eq_decide]
    exact ⟨fun e=>by rw [e],fun e=>congrArg Prod.snd e⟩
  · rename_i h;symm;rw [decide_eq_false_iff_not];exact fun e=>h (congrArg Prod.fst e)
def ssameC:List AV→Option Res:=con2 soupE soupE (fun a b=>some (none,none,.s (.bool (eqS a b))))
theorem ssameRow:FnRow Try.prog 38 ssameC:=⟨con2_ok fun a b r h=>by cases h;exact fn_by (rulesF (fn:=[(60,equalC)]) (fr:=[]) ⟨equalRow,trivial⟩ trivial) Try.func38 (by kernel_rfl) fun _ _=>ssame_vc a.1 b.1 a.2 b.2,_,Try.func38,by kernel_rfl,by kernel_rfl⟩
def sameRec (a b:RecT):Bool:=decide (a.1=b.1)&&(decide (a.2.1=b.2.1)&&(eqL a.2.2.1 b.2.2.1&&(eqR a.2.2.2.1 b.2.2.2.1&&eqL a.2.2.2.2 b.2.2.2.2)))
theorem sameRec_iff {a b:RecT} :sameRec a b=true↔a=b:=by
  unfold sameRec eqL eqR
  simp only [Bool.and_eq_true,decide_eq_true_eq]
  exact ⟨fun ⟨h1,h2,h3,h4,h5⟩=>Prod.ext h1 (Prod.ext h2 (Prod.ext h3 (Prod.ext h4 h5))),fun h=>by subst h;exact ⟨rfl,rfl,rfl,rfl,rfl⟩⟩
theorem csame_vc (a1 b1 a2 b2:Int) (t1 f1 t2 f2:List Int) (r1 r2:List P3):afun ⟨tyL,[(60,equalC),(61,equalIC)],[]⟩ Try.f39 [recE.av (a1,b1,t1,r1,f1),recE.av (a2,b2,t2,r2,f2)] (fun r=>r= .s (.bool (sameRec (a1,b1,t1,r1,f1) (a2,b2,t2,r2,f2)))):=by
  repeat' (conv=>whnf
           first | done | refine qN (by first | rfl | omega | (simp only [i64ok] at *;omega)) ?_ | apply qH | refine qG fun _=> ?_ | apply qB | apply qa | apply qo | refine qe (fun _=> ?_) (fun _=> ?_) | refine qn (fun _=> ?_) (fun _=> ?_) | refine qd (fun _=> ?_) (fun _=> ?_) | apply qt | refine qi (fun _=> ?_) (fun _=> ?_) | refine And.intro rfl ?_ | apply qE | apply qO | exact True.intro | apply qq | apply qs | refine qK (by kernel_rfl) ?_ | apply qr)
  all_goals try first | apply qz1 | apply qz2 | apply qz3 | apply qz4 | apply qz5 | apply qz6 | apply qz7 | apply qz8 | apply qz9 | apply qz0
  all_goals try simp only [take_one,take_one',set_one,take_all,qn1,rec_self,qn2,pair_eta,ETy.dflt,qn3,qn4,Int.reduceToNat,Int.reduceAdd,Int.reduceSub,Int.reduceNeg,Nat.reduceAdd,Nat.zero_add] at *
  all_goals
    rw [Bool.eq_iff_iff,sameRec_iff]
    try unfold eqL
    simp only [decide_eq_true_eq,decide_eq_false_iff_not,Prod.mk.injEq,Bool.false_eq_true,false_iff] at *
    simp [*]
def csameC:List AV→Option Res:=con2 recE recE (fun a b=>some (none,none,.s (.bool (sameRec a b))))
theorem csameRow:FnRow Try.prog 39 csameC:=⟨con2_ok fun a b r h=>by
  cases h;exact fn_by (rulesF (fn:=[(60,equalC),(61,equalIC)]) (fr:=[]) ⟨equalRow,equalIRow,trivial⟩ trivial) Try.func39 (by kernel_rfl) fun _ _=>csame_vc a.1 a.2.1 b.1 b.2.1 a.2.2.1 a.2.2.2.2 b.2.2.1 b.2.2.2.2 a.2.2.2.1 b.2.2.2.1,_,Try.func39,by kernel_rfl,by kernel_rfl⟩
def undoV (r:SoT×Int):AV:= .tup [soupE.av r.1,.s (.int .i64 r.2)]
def undoW (r:SoT×Int):AV:=if r.2=0 then undoV r else .tup [.agg [.int .i64 0,.val (.slice none 0 0)],.s (.int .i64 r.2)]
theorem undo_err (s:SoT) (r:RecT) (h:(undoR s r).2≠0):(undoR s r).1=(0,[]):=by
  unfold undoR at *
  split
  · rename_i hh;rw [dif_pos hh] at h;exact absurd rfl h
  · rfl
theorem undoW_rep {σ:Sig} {s:SoT} {r:RecT} {v:Value} (h:VRep σ [] (undoW (undoR s r)) v):VRep σ [] (undoV (undoR s r)) v:=by
  unfold undoW at h
  split at h
  · exact h
  · rename_i hn
    have e:=undo_err s r hn
    obtain ⟨vs,e1,h⟩:=h
    unfold undoV
    rw [e]
    match vs,h with
    | [x,y],⟨⟨ds,ea,h1⟩,h3⟩ =>
      refine ⟨_,e1,⟨ds,ea,?_⟩,h3⟩
      match ds,h1 with
      | [d1,d2],⟨k1,k2,k3⟩=>exact ⟨k1,nil_sl k2,k3⟩
theorem undoW_3 {s:SoT} {r:RecT} (hs:Surf s) (h: ∀ w,bkR s r=(w,true)→doR w r.1 r.2.1≠(s,r,0)):undoW (undoR s r)= .tup [.agg [.int .i64 0,.val (.slice none 0 0)],.s (.int .i64 3)]:=by
  rw [undoR_3 hs h];rfl
theorem undoW_11 {s:SoT} {r:RecT} (h:newO s=none):undoW (undoR s r)= .tup [.agg [.int .i64 0,.val (.slice none 0 0)],.s (.int .i64 11)]:=by
  rw [undoR_11 h];rfl
theorem undoW_0 {s w:SoT} {r:RecT} (h:doR w r.1 r.2.1=(s,r,0)):undoW (undoR s r)= .tup [soupE.av w,.s (.int .i64 0)]:=by
  rw [undoR_of h];rfl
theorem eqS_iff {a b:SoT} :eqS a b=true↔a=b:=by unfold eqS;exact decide_eq_true_iff
theorem eqS_self (a:SoT):eqS a a=true:=eqS_iff.2 rfl
theorem sameRec_self (a:RecT):sameRec a a=true:=sameRec_iff.2 rfl
attribute [local irreducible] undoW bkR doR eqS sameRec soupFit
theorem cundo_vc (n:Int) (l:List P3) (A B:Int) (at_:List Int) (ts:List P3) (fan:List Int) (x:tabE.T) (hx:newO (n,l)=some x):afun ⟨tyL,[(12,newXC x),(30,sfitC),(37,backC),(11,cdoC),(38,ssameC),(39,csameC)],[]⟩ Try.f15 [soupE.av (n,l),recE.av (A,B,at_,ts,fan)] (fun v=>v=undoW (undoR (n,l) (A,B,at_,ts,fan))):=by
  obtain ⟨e0,g,hs⟩:=new_full hx
  repeat' (conv=>whnf
           first | done | refine qN (by first | rfl | omega | (simp only [i64ok] at *;omega)) ?_ | apply qH | refine qG fun _=> ?_ | apply qB | apply qa | apply qo | refine qe (fun _=> ?_) (fun _=> ?_) | refine qn (fun _=> ?_) (fun _=> ?_) | refine qd (fun _=> ?_) (fun _=> ?_) | apply qt | refine qi (fun _=> ?_) (fun _=> ?_) | refine And.intro rfl ?_ | apply qE | apply qO | exact True.intro | apply qq | apply qs | refine qK (by kernel_rfl) ?_ | apply qr)
  all_goals try first | apply qz1 | apply qz2 | apply qz3 | apply qz4 | apply qz5 | apply qz6 | apply qz7 | apply qz8 | apply qz9 | apply qz0
  all_goals try simp only [take_one,take_one',set_one,take_all,qn1,rec_self,qn2,pair_eta,ETy.dflt,qn3,qn4,Int.reduceToNat,Int.reduceAdd,Int.reduceSub,Int.reduceNeg,Nat.reduceAdd,Nat.zero_add] at *
  all_goals try exact absurd (sfit_surf hs) (by rw [show soupFit (n,l)=false by assumption];decide)
  all_goals try
    refine HoldEq.intro (undoW_3 hs (fun w hw hd=> ?_)).symm
    have hd:doR w A B=((n,l),(A,B,at_,ts,fan),0):=hd
    simp only [hw,hd,eqS_self,sameRec_self,ne_eq,not_true_eq_false,Bool.true_eq_false,reduceCtorEq] at *
    done
  all_goals
    have h3:(doR (bkR (n,l) (A,B,at_,ts,fan)).1 A B).2.2=0:=by assumption
    have h1:eqS (doR (bkR (n,l) (A,B,at_,ts,fan)).1 A B).1 (n,l)=true:=by assumption
    have h2:sameRec (doR (bkR (n,l) (A,B,at_,ts,fan)).1 A B).2.1 (A,B,at_,ts,fan)=true:=by assumption
    have h:doR (bkR (n,l) (A,B,at_,ts,fan)).1 A B=((n,l),(A,B,at_,ts,fan),0):=Prod.ext (eqS_iff.1 h1) (Prod.ext (sameRec_iff.1 h2) h3)
    exact HoldEq.intro (undoW_0 h).symm
theorem cundo0_vc (n:Int) (l:List P3) (r:RecT) (hx:newO (n,l)=none):afun ⟨tyL,[(12,newNC),(30,sfitC),(37,backC),(11,cdoC),(38,ssameC),(39,csameC)],[]⟩ Try.f15 [soupE.av (n,l),recE.av r] (fun v=>v=undoW (undoR (n,l) r)):=by
  have e:=undoW_11 (r:=r) hx
  repeat' (conv=>whnf
           first | done | refine qN (by first | rfl | omega | (simp only [i64ok] at *;omega)) ?_ | apply qH | refine qG fun _=> ?_ | apply qB | apply qa | apply qo | refine qe (fun _=> ?_) (fun _=> ?_) | refine qn (fun _=> ?_) (fun _=> ?_) | refine qd (fun _=> ?_) (fun _=> ?_) | apply qt | refine qi (fun _=> ?_) (fun _=> ?_) | refine And.intro rfl ?_ | apply qE | apply qO | exact True.intro | apply qq | apply qs | refine qK (by kernel_rfl) ?_ | apply qr)
  all_goals try first | apply qz1 | apply qz2 | apply qz3 | apply qz4 | apply qz5 | apply qz6 | apply qz7 | apply qz8 | apply qz9 | apply qz0
  all_goals try simp only [take_one,take_one',set_one,take_all,qn1,rec_self,qn2,pair_eta,ETy.dflt,qn3,qn4,Int.reduceToNat,Int.reduceAdd,Int.reduceSub,Int.reduceNeg,Nat.reduceAdd,Nat.zero_add] at *
  all_goals try exact qh hx
  all_goals exact HoldEq.intro e.symm
noncomputable def cundoC:List AV→Option Res:=con2 soupE recE (fun s r=>some (none,none,undoV (undoR s r)))
theorem cundoRow:FnRow Try.prog 15 cundoC:=⟨con2_ok fun s r q h=>by
  cases h
  cases e:newO s with
  | none=>exact FnOk.res (fn_by (rulesF (fn:=[(12,newNC),(30,sfitC),(37,backC),(11,cdoC),(38,ssameC),(39,csameC)]) (fr:=[]) ⟨newNRow,sfitRow,backRow,cdoRow,ssameRow,csameRow,trivial⟩ trivial) Try.func15 (by kernel_rfl) fun _ _=>cundo0_vc s.1 s.2 r e) fun σ v h=>undoW_rep h
  | some x=>exact FnOk.res (fn_by (rulesF (fn:=[(12,newXC x),(30,sfitC),(37,backC),(11,cdoC),(38,ssameC),(39,csameC)]) (fr:=[]) ⟨(newXRow x),sfitRow,backRow,cdoRow,ssameRow,csameRow,trivial⟩ trivial) Try.func15 (by kernel_rfl) fun _ _=>cundo_vc s.1 s.2 r.1 r.2.1 r.2.2.1 r.2.2.2.1 r.2.2.2.2 x e) fun σ v h=>undoW_rep h,_,Try.func15,by kernel_rfl,by kernel_rfl⟩
end S1
open Go Go.Vm Go.Proofs
namespace S1
end S1
open Go Go.Vm Go.Proofs
namespace S1
def whyX (x:tabE.T) (a b:Int) (l:List Int):Int :=
  if !nearR x a b then 1 else if (facR x a b).length=2∧innerR x a=false∧innerR x b=false then 2
  else if whyL (facR x a b) l=false then 3 else if smallR x a then 4 else 0
theorem whyX_is (x:tabE.T) (a b:Int):whyR x a b=whyX x a b (comR x a b):=rfl
theorem comX_is {x:tabE.T} {a b:Int} {l0 l:List Int} (hne:a≠b) (hl:((linkR x a).filter fun v=>hasI v (linkR x b))=l0) (hp:l0.Perm l) (hs:l.Pairwise (·≤·)):comR x a b=l:=by
  unfold comR
  rw [if_neg hne,hl]
  exact sorted_eq ((sortI_perm _).trans hp) (sortI_sorted _) hs
def aw35:SoT:=(5,[(0,2,4),(0,1,3),(1,2,3),(2,0,3),(2,1,4),(1,0,4)])
def aw36:SoT:=(4,[(0,2,1),(0,1,3),(1,2,3),(2,0,3)])
theorem aw35_ok:(chkR' aw35).1=0:=by decide +kernel
theorem aw35_surf:Surf aw35:=(surf_iff _).1 (by rw [chkR_eq];exact aw35_ok)
theorem aw35_why:whyR (newT aw35) 4 1=0:=by
  rw [whyX_is]
  first
  | (rw [comX_is (l0:=[0,2]) (l:=[0,2]) (by decide) (by decide +kernel) (.refl _) (by decide)];decide +kernel)
  | (rw [comX_is (l0:=[2,0]) (l:=[0,2]) (by decide) (by decide +kernel) (.swap ..) (by decide)];decide +kernel)
theorem aw35_doE:doE aw35 4 1=0:=by
  rw [doE_surf aw35_surf,aw35_why];rfl
theorem aw35_dr:drL 4 1 aw35.2 aw35.2.length=aw36.2:=by decide +kernel
theorem aw35_do:doR aw35 4 1=(aw36,recR aw35 4 1,0):=by
  rw [doR_0 aw35_doE,aw35_dr];rfl
theorem aw35_undo:undoR aw36 (recR aw35 4 1)=(aw35,0):=undoR_of (r:=recR aw35 4 1) aw35_do
theorem aw35_A:(recR aw35 4 1).1=4:=rfl
attribute [local irreducible] doR undoR recR eqS
theorem awake35_vc:afun ⟨tyL,[(11,cdoC),(15,cundoC),(16,same15C)],[]⟩ Try.f9 [] (fun r=>r= .s (.bool true)):=by
  have m6:List.take 6 (List.drop 0 (((((((List.replicate 6 ((0:Int),(0:Int),(0:Int))).set 0 (0,2,4)).set 1 (0,1,3)).set 2 (1,2,3)).set 3 (2,0,3)).set 4 (2,1,4)).set 5 (1,0,4)))=aw35.2:=rfl
  have m4:List.take 4 (List.drop 0 (((((List.replicate 4 ((0:Int),(0:Int),(0:Int))).set 0 (0,2,1)).set 1 (0,1,3)).set 2 (1,2,3)).set 3 (2,0,3)))=aw36.2:=rfl
  have p5:((5:Int),aw35.2)=aw35:=rfl
  have p4:((4:Int),aw36.2)=aw36:=rfl
  have q5:aw35.2.length≤100000:=by decide
  have q4:aw36.2.length≤100000:=by decide
  repeat' (conv=>whnf
           first | done | refine qN (by first | rfl | omega | (simp only [i64ok] at *;omega)) ?_ | apply qH | refine qG fun _=> ?_ | apply qB | apply qa | apply qo | refine qe (fun _=> ?_) (fun _=> ?_) | refine qn (fun _=> ?_) (fun _=> ?_) | refine qd (fun _=> ?_) (fun _=> ?_) | apply qt | refine qi (fun _=> ?_) (fun _=> ?_) | refine And.intro rfl ?_ | apply qE | apply qO | exact True.intro | apply qq | apply qs | refine qK (by kernel_rfl) ?_ | apply qr)
  all_goals try first | apply qz1 | apply qz2 | apply qz3 | apply qz4 | apply qz5 | apply qz6 | apply qz7 | apply qz8 | apply qz9 | apply qz0
  all_goals try simp only [take_one,take_one',set_one,take_all,qn1,rec_self,qn2,pair_eta,ETy.dflt,qn3,qn4,Int.reduceToNat,Int.reduceAdd,Int.reduceSub,Int.reduceNeg,Nat.reduceAdd,Nat.zero_add] at *
  all_goals simp only [m6,m4,p5,p4,aw35_do,aw35_undo,aw35_A,eqS_self,ne_eq,not_true_eq_false,Bool.true_eq_false,reduceCtorEq] at *
  all_goals first
    | exact qh q5
    | exact qh q4
    | rfl
def awake35C:List AV→Option Res
  | []=>some (none,none,.s (.bool true))
  | _=>none
theorem awake35Row:FnRow Try.prog 9 awake35C:=⟨fun args r h=>by
  cases args with
  | nil=>cases h;exact fn_by (rulesF (fn:=[(11,cdoC),(15,cundoC),(16,same15C)]) (fr:=[]) ⟨cdoRow,cundoRow,same15Row,trivial⟩ trivial) Try.func9 (by kernel_rfl) fun _ _=>awake35_vc
  | cons a l=>(cases h),_,Try.func9,by kernel_rfl,by kernel_rfl⟩
end S1
open Go Go.Vm Go.Proofs
namespace S1
abbrev EdL:=List (Int×Int)
def cmX (s:SoT) (l:EdL):Nat→SoT×List RecT
  | 0=>(s,[])
  | i+1=>if doE (cmX s l i).1 (l.getD i (0,0)).1 (l.getD i (0,0)).2=0 then ((doR (cmX s l i).1 (l.getD i (0,0)).1 (l.getD i (0,0)).2).1,(cmX s l i).2++[(doR (cmX s l i).1 (l.getD i (0,0)).1 (l.getD i (0,0)).2).2.1]) else cmX s l i
theorem cmX_0 (s:SoT) (l:EdL):cmX s l 0=(s,[]):=rfl
theorem cmX_y {s:SoT} {l:EdL} {i:Nat} (h:(doR (cmX s l i).1 (l.getD i (0,0)).1 (l.getD i (0,0)).2).2.2=0):cmX s l (i+1)=((doR (cmX s l i).1 (l.getD i (0,0)).1 (l.getD i (0,0)).2).1,(cmX s l i).2++[(doR (cmX s l i).1 (l.getD i (0,0)).1 (l.getD i (0,0)).2).2.1]):=if_pos (by rw [← doR_err];exact h)
theorem cmX_n {s:SoT} {l:EdL} {i:Nat} (h:(doR (cmX s l i).1 (l.getD i (0,0)).1 (l.getD i (0,0)).2).2.2≠0):cmX s l (i+1)=cmX s l i:=if_neg (by rw [← doR_err];exact h)
inductive Ch (s:SoT):SoT→List RecT→Prop
  | nil:Ch s s []
  | snoc {x y:SoT} {R:List RecT} {r:RecT} :Ch s y R→doR y r.1 r.2.1=(x,r,0)→Ch s x (R++[r])
theorem ch_cm (s:SoT) (l:EdL): ∀ i,Ch s (cmX s l i).1 (cmX s l i).2∧(cmX s l i).2.length≤i
  | 0=>⟨.nil,Nat.le_refl _⟩
  | i +1=>by
    obtain ⟨h1,h2⟩:=ch_cm s l i
    unfold cmX
    split
    · rename_i he
      refine ⟨.snoc h1 ?_,by rw [List.length_append];simp;exact h2⟩
      have e:=doR_0 he
      rw [e];exact e
    · exact ⟨h1,by omega⟩
theorem Ch.back {s x:SoT} {R:List RecT} {r:RecT} (h:Ch s x (R++[r])):(undoR x r).2=0∧Ch s (undoR x r).1 R:=by
  generalize e:R++[r]=Q at h
  cases h with
  | nil=>simp at e
  | snoc h1 h2 =>
    obtain ⟨e1,e2⟩:=List.append_inj' e rfl
    cases e2
    subst e1
    have:=undoR_of h2
    rw [this]
    exact ⟨rfl,h1⟩
theorem Ch.surf {s x:SoT} {R:List RecT} (h:Ch s x R):x.1=s.1 - R.length∧(0<R.length→Surf s):=by
  induction h with
  | nil=>exact ⟨by simp,fun h=>absurd h (by decide)⟩
  | snoc h1 h2 ih =>
    obtain ⟨w,e,_⟩:=doR_was h2
    refine ⟨?_,fun _=> ?_⟩
    · have e1:=congrArg Prod.fst e
      rw [e1,List.length_append]
      show _ - 1=_
      rw [ih.1];simp;omega
    · cases h1 with
      | nil=>exact w.surf
      | snoc a b=>exact ih.2 (by simp)
theorem Ch.zero {s x:SoT} (h:Ch s x []):x=s:=by
  generalize e:([]:List RecT)=Q at h
  cases h with
  | nil=>rfl
  | snoc=>simp at e
theorem take_last {R:List RecT} {k:Nat} (h:k<R.length):R.take (k+1)=R.take k++[R.getD k (0,0,[],[],[])]:=by
  rw [List.take_succ_eq_append_getElem h,gdE,gE h];rfl
def loopMa (s:SoT) (l:EdL):Spec Nat where
  inv i:=i≤l.length
  live i:=[(7,.s (.int .i64 i)),(6,.s (.own 2 0 (cmX s l i).2.length))]
  keep:=[1,2,5]
  heap i:=[(1,.flat 24 [.int .i64 (cmX s l i).1.1,.sl .arr3 (cmX s l i).1.2]),(2,.row recE 29 (cmX s l i).2)]
  keepH:=[0]
  mu i:=l.length - i
def loopMb (s:SoT) (R:List RecT):Spec (Nat×SoT) where
  inv y:=y.1≤R.length∧Ch s y.2 (R.take y.1)
  live y:=[(11,.s (.int .i64 ((y.1:Int) - 1)))]
  keep:=[1,2,5,6]
  heap y:=[(1,.flat 24 [.int .i64 y.2.1,.sl .arr3 y.2.2])]
  keepH:=[0,2]
  mu y:=y.1
attribute [local irreducible] doR undoR great35R cmX eqS
theorem lawCN_vc (n:Int) (l:List P3) (es:EdL):afun ⟨tyL,[(9,awake35C),(10,great35C),(11,cdoC),(15,cundoC),(16,same15C)],[]⟩ Try.f4 [soupE.av (n,l),(ETy.sl .arr2).av es] (fun r=>r= .s (.bool true)):=by
  repeat' (conv=>whnf
           first | done | refine qN (by first | rfl | omega | (simp only [i64ok] at *;omega)) ?_ | apply qH | refine qG fun _=> ?_ | apply qB | apply qa | apply qo | refine qe (fun _=> ?_) (fun _=> ?_) | refine qn (fun _=> ?_) (fun _=> ?_) | refine qd (fun _=> ?_) (fun _=> ?_) | apply qt | refine qi (fun _=> ?_) (fun _=> ?_) | (refine atReg 8 rfl ?_;refine Or.inr (Exists.intro (Nat) (Exists.intro (loopMa (n,l) es) (And.intro (Exists.intro (0) (And.intro (Hold.out ?_) (And.intro ?_ (And.intro ?_ rfl)))) (fun i hi=> ?_))))) | ((with_reducible show (∃ y,And (Spec.inv (loopMa _ _) y) _));refine Exists.intro (i+1) (And.intro (Hold.out ?_) (And.intro (And.intro ?_ (And.intro ?_ rfl)) (Hold.out ?_)))) | (refine atReg 16 rfl ?_;refine Or.inr (Exists.intro (Nat×SoT) (Exists.intro (loopMb (n,l) (cmX (n,l) es es.length).2) (And.intro (Exists.intro (((cmX (n,l) es es.length).2.length,(cmX (n,l) es es.length).1)) (And.intro (Hold.out ?_) (And.intro ?_ (And.intro ?_ rfl)))) (fun y hy=> ?_))))) | ((with_reducible show (∃ y,And (Spec.inv (loopMb _ _) y) _));refine Exists.intro ((y.1 - 1,(undoR y.2 ((cmX (n,l) es es.length).2.getD (y.1 - 1) (0,0,[],[],[]))).1)) (And.intro (Hold.out ?_) (And.intro (And.intro ?_ (And.intro ?_ rfl)) (Hold.out ?_)))) | refine And.intro rfl ?_ | apply qE | apply qO | exact True.intro | apply qq | apply qs | refine qK (by kernel_rfl) ?_ | apply qr)
  all_goals try first | apply qz1 | apply qz2 | apply qz3 | apply qz4 | apply qz5 | apply qz6 | apply qz7 | apply qz8 | apply qz9 | apply qz0
  all_goals try simp only [take_one,take_one',set_one,take_all,qn1,rec_self,qn2,pair_eta,ETy.dflt,qn3,qn4,Int.reduceToNat,Int.reduceAdd,Int.reduceSub,Int.reduceNeg,Nat.reduceAdd,Nat.zero_add,loopMa,loopMb] at *
  all_goals have hes:es.length≤12:=by omega
  all_goals try first
    | (rw [cmX_0];exact HoldOb.intro rfl)
    | (rw [cmX_0];done)
    | (rw [cmX_0];rfl)
    | (refine qh ?_;omega)
  all_goals have hc:=ch_cm (n,l) es i
  all_goals try first
    | (rw [cmX_y (by assumption)];exact HoldOb.intro rfl)
    | (rw [cmX_y (by assumption)];done)
    | (rw [cmX_y (by assumption)];exact List.length_append)
    | (rw [cmX_n (by assumption)];exact HoldOb.intro rfl)
    | (rw [cmX_n (by assumption)];done)
    | (refine qh ?_;omega)
  all_goals have hi9:i=es.length:=by omega
  all_goals subst hi9
  all_goals have hS:=hc.1.surf
  all_goals try first
    | (have hs:=(hS.2 (by omega)).fit;have h1:=hs.1;have h2:n≤4096:=hs.2.1;have h1:0≤n:=h1;refine qh ?_;unfold i64ok;omega)
    | exact absurd hS.1 (by assumption)
    | exact qh ⟨Nat.le_refl _,by rw [List.take_length];exact hc.1⟩
    | exact HoldOb.intro rfl
    | (refine qh ?_;unfold i64ok;omega)
  all_goals generalize (cmX (n,l) es es.length).2=R at *
  all_goals try rfl
  all_goals try
    have hy0:y.1=0:=by omega
    have hz:=hy.2
    rw [hy0] at hz
    have hz:=hz.zero
    have hg: ¬ ((l.length:Int)>40):=fun k=>(by assumption:great35R (n,l)≠1) (by unfold great35R;exact if_pos (.inl k))
    first
    | (rw [hz];exact qh (show l.length≤100000 by omega))
    | (rw [hz];exact eqS_self _)
  all_goals have hy1:y.1 - 1<R.length:=by omega
  all_goals have hB:(undoR y.2 (R.getD (y.1 - 1) (0,0,[],[],[]))).2=0∧Ch (n,l) (undoR y.2 (R.getD (y.1 - 1) (0,0,[],[],[]))).1 (R.take (y.1 - 1)):=by
              apply Ch.back
              rw [← take_last hy1,show y.1 - 1+1=y.1 by omega]
              exact hy.2
  all_goals have hT:((y.1:Int) - 1).toNat=y.1 - 1:=by omega
  all_goals try simp only [hT] at *
  all_goals first
    | exact absurd hB.1 (by assumption)
    | exact qh ⟨by omega,hB.2⟩
    | (refine qh ?_;omega)
    | (refine qh ?_;unfold i64ok;omega)
    | exact HoldOb.intro rfl
    | omega
def lawCNC:List AV→Option Res:=con2 soupE (.sl .arr2) (fun _ _=>some (none,none,.s (.bool true)))
theorem lawCNRow:FnRow Try.prog 4 lawCNC:=⟨con2_ok fun s es r h=>by
  cases h
  exact fn_by (rulesF (fn:=[(9,awake35C),(10,great35C),(11,cdoC),(15,cundoC),(16,same15C)]) (fr:=[]) ⟨awake35Row,great35Row,cdoRow,cundoRow,same15Row,trivial⟩ trivial) Try.func4 (by kernel_rfl) fun _ _=>lawCN_vc s.1 s.2 es,_,Try.func4,by kernel_rfl,by kernel_rfl⟩
end S1
