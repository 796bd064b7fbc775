/- A part of the proofs of the laws. -/
import Derived.Test.YtahbknnehddjgaaGreatU2toV2
import Derived.Test.YtahbknnehddjgaaGreatF7toW5p
import Derived.Test.YtahbknnehddjgaaGreatY4atoY5
import Derived.Test.YtahbknnehddjgaaGreatT5toT11
set_option linter.unusedSimpArgs false
set_option linter.unusedVariables false
set_option maxHeartbeats 8000000
set_option maxRecDepth 100000
open Go Go.Vm Go.Proofs
namespace S1
structure Mid (x:tabE.T) (tgt:List Int) (n:Int) (t:Nat) (out:List Int):Prop where
  len:out.length=x.1.2.length
  mid: ∀ u,u<x.1.2.length→lb out u=lb tgt u∨(lb out u<0∧lb tgt u=n)
  st:lb out t=n
def Clo (x:tabE.T) (n:Int) (out:List Int) (c:Nat):Prop:= ∀ d:Nat,d<c→lb out (d / 3)=n→0≤tOpp x d→0≤lb out (tOpp x d / 3).toNat
def shC (x:tabE.T) (n:Int) (c:Nat) (s:List Int×Bool):List Int×Bool :=
  if lb s.1 (c / 3)=n∧0≤tOpp x c∧lb s.1 (tOpp x c / 3).toNat<0 then (s.1.set (tOpp x c / 3).toNat n,true) else s
abbrev nLen (x:tabE.T):Nat:=x.1.2.length
def loopSh0 (x:tabE.T):Spec Nat where
  inv t:=t≤nLen x
  live t:=[(5,.s (.int .i64 t)),(4,.s (.own 2 0 (List.replicate t (-1:Int)).length))]
  keep:=[1,2,3]
  heap t:=[(2,.row i64E 3 (List.replicate t (-1:Int)))]
  keepH:=[0,1]
  mu t:=nLen x - t
def loopSh1 (x:tabE.T):Spec Nat where
  inv t:=t≤nLen x
  live t:=[(7,.s (.int .i64 t)),(6,.s (.int .i64 (ofL x t).2))]
  keep:=[1,2,3,4]
  heap t:=[(2,.row i64E 3 (ofL x t).1)]
  keepH:=[0,1]
  mu t:=nLen x - t
def loopSh2 (x:tabE.T) (t:Nat):Spec (List Int×Bool) where
  inv s:=Mid x (ofL x (t+1)).1 (ofL x t).2 t s.1∧(s.2=false→Clo x (ofL x t).2 s.1 (3*nLen x))
  live s:=[(8,.s (.bool s.2))]
  keep:=[1,2,3,4,6,7]
  heap s:=[(2,.row i64E 3 s.1)]
  keepH:=[0,1]
  mu s:=2*unm s.1+(if s.2 then 1 else 0)
def loopSh3 (x:tabE.T) (t N0:Nat):Spec (Nat×List Int×Bool) where
  inv s:=s.1≤3*nLen x∧Mid x (ofL x (t+1)).1 (ofL x t).2 t s.2.1∧(s.2.2=false→Clo x (ofL x t).2 s.2.1 s.1∧unm s.2.1≤N0)∧(s.2.2=true→unm s.2.1<N0)
  live s:=[(9,.s (.int .i64 s.1)),(8,.s (.bool s.2.2))]
  keep:=[1,2,3,4,6,7]
  heap s:=[(2,.row i64E 3 s.2.1)]
  keepH:=[0,1]
  mu s:=3*nLen x - s.1
theorem ofL_0 (x:tabE.T):ofL x 0=(List.replicate (nLen x) (-1),0):=rfl
theorem ofL_yes {x:tabE.T} {t:Nat} (h:lb (ofL x t).1 t≥0):ofL x (t+1)=ofL x t:=by
  show ofI x (ofL x t) t=_
  unfold ofI;rw [if_pos h]
theorem ofL_no {x:tabE.T} {t:Nat} (h: ¬ lb (ofL x t).1 t≥0):ofL x (t+1)=((bfs x (ofL x t).2 10000 0 ((ofL x t).1.set t (ofL x t).2,[(t:Int)])).1,(ofL x t).2+1):=by
  show ofI x (ofL x t) t=_
  unfold ofI;rw [if_neg h]
theorem n_le (x:tabE.T): ∀ t,(ofL x t).2≤t
  | 0=>Int.le_refl 0
  | t+1=>by
    have ih:=n_le x t
    by_cases h:lb (ofL x t).1 t≥0
    · rw [ofL_yes h];omega
    · rw [ofL_no h];show (ofL x t).2+1≤_;omega
section
variable {x:tabE.T} {t:Nat}
structure ShT (x:tabE.T) (t:Nat):Prop where
  lab:Lab x (ofL x (t+1)).1 ((ofL x t).2+1)
  st:lb (ofL x (t+1)).1 t=(ofL x t).2
  nn:0≤(ofL x t).2
  old: ∀ u,u<nLen x→lb (ofL x (t+1)).1 u=lb (ofL x t).1 u∨(lb (ofL x (t+1)).1 u=(ofL x t).2∧lb (ofL x t).1 u<0)
  n2:(ofL x (t+1)).2=(ofL x t).2+1
  len:(ofL x t).1.length=nLen x
theorem shT (g:Full x) (ht:t<nLen x) (h: ¬ lb (ofL x t).1 t≥0):ShT x t:=by
  obtain ⟨h1,h2,h3⟩:=lab_all g t (Nat.le_of_lt ht)
  obtain ⟨k1,k2,k3,k4⟩:=lab_next g h2 h1 ht h
  have e:=ofL_no h
  exact ⟨by rw [e];exact k1,by rw [e];exact k2,h2,fun u hu=>by rw [e];exact k4 u hu,by rw [e],h1.len⟩
theorem mid_start (g:Full x) (ht:t<nLen x) (h: ¬ lb (ofL x t).1 t≥0):Mid x (ofL x (t+1)).1 (ofL x t).2 t ((ofL x t).1.set t (ofL x t).2):=by
  have s:=shT g ht h
  refine ⟨by rw [List.length_set];exact s.len,fun u hu=> ?_,by rw [lb_set (by rw [s.len];exact ht),if_pos rfl]⟩
  rw [lb_set (by rw [s.len];exact ht)]
  split
  · rename_i e;subst e;exact .inl s.st.symm
  · rcases s.old u hu with e | ⟨e1,e2⟩
    · exact .inl e.symm
    · exact .inr ⟨e2,e1⟩
theorem mid_is {out:List Int} (s:ShT x t) (m:Mid x (ofL x (t+1)).1 (ofL x t).2 t out) {u:Nat} (hu:u<nLen x) (h:0≤lb out u):lb (ofL x (t+1)).1 u=lb out u:=by
  rcases m.mid u hu with e | e
  · exact e.symm
  · omega
theorem mid_step (g:Full x) {out:List Int} (s:ShT x t) (m:Mid x (ofL x (t+1)).1 (ofL x t).2 t out) {c:Nat} (hc:c<3*nLen x) (h1:lb out (c / 3)=(ofL x t).2) (h2:0≤tOpp x c) (h3:lb out (tOpp x c / 3).toNat<0) :
    Mid x (ofL x (t+1)).1 (ofL x t).2 t (out.set (tOpp x c / 3).toNat (ofL x t).2)∧unm (out.set (tOpp x c / 3).toNat (ofL x t).2)<unm out:=by
  have hh:tHas x (c:Int)=true:=tHas_iff.2 ⟨by omega,by show (c:Int)<3*(nLen x:Int);omega⟩
  have ha:Adj x (c / 3) (tOpp x c / 3).toNat:=⟨c,hh,by omega,h2,rfl⟩
  obtain ⟨l1,l2⟩:=adj_lt g.toGood ha
  have nn:=s.nn
  have e1:=mid_is s m l1 (by rw [h1];exact nn)
  have e2:=s.lab.clo _ _ ha (by rw [e1,h1];exact nn)
  refine ⟨⟨by rw [List.length_set];exact m.len,fun u hu=> ?_,?_⟩,?_⟩
  · rw [lb_set (by rw [m.len];exact l2)]
    split
    · rename_i e;subst e;exact .inl (by rw [e2,e1,h1])
    · exact m.mid u hu
  · rw [lb_set (by rw [m.len];exact l2)]
    split
    · rfl
    · exact m.st
  · have:=unm_set nn out (tOpp x c / 3).toNat (by rw [m.len];exact l2) h3
    omega
theorem mid_done (g:Full x) {out:List Int} (ht:t<nLen x) (s:ShT x t) (m:Mid x (ofL x (t+1)).1 (ofL x t).2 t out) (hc:Clo x (ofL x t).2 out (3*nLen x)):out=(ofL x (t+1)).1:=by
  have nn:=s.nn
  have all: ∀ u,Conn (Adj x) t u→lb out u=(ofL x t).2:=fun u hu=>by
    induction hu with
    | refl=>exact m.st
    | step _ a ih =>
      rename_i w u _
      obtain ⟨l1,l2⟩:=adj_lt g.toGood a
      have e1:=mid_is s m l1 (by rw [ih];exact nn)
      have e2:=s.lab.clo _ _ a (by rw [e1,ih];exact nn)
      obtain ⟨c,c1,c2,c3,c4⟩:=a
      have k:=tHas_iff.1 c1
      have k2:c<3*(nLen x:Int):=k.2
      have h0:=hc c.toNat (by omega) (by rw [show c.toNat / 3=w by omega];exact ih) (by rw [Int.toNat_of_nonneg k.1];exact c3)
      rw [Int.toNat_of_nonneg k.1,c4] at h0
      rw [← mid_is s m l2 h0,e2,e1,ih]
  apply List.ext_getElem
  · rw [m.len,s.lab.len]
  · intro u h1 h2
    have hu:u<nLen x:=by rw [m.len] at h1;exact h1
    have e:lb out u=lb (ofL x (t+1)).1 u:=by
      rcases m.mid u hu with e | ⟨e1,e2⟩
      · exact e
      · have:=all u (s.lab.con t u ht hu (by rw [s.st];exact nn) (by rw [s.st,e2]))
        omega
    unfold lb at e
    rw [List.getD_eq_getElem?_getD,List.getD_eq_getElem?_getD,List.getElem?_eq_getElem h1,List.getElem?_eq_getElem h2] at e
    exact e
theorem clo_step {n:Int} {out:List Int} {c:Nat} (h:Clo x n out c) (h2:lb out (c / 3)=n→0≤tOpp x c→0≤lb out (tOpp x c / 3).toNat):Clo x n out (c+1):=fun d hd=>by
  by_cases e:d=c
  · subst e;exact h2
  · exact h d (by omega)
end
theorem shC_y {x:tabE.T} {n:Int} {c:Nat} {s:List Int×Bool} (h:lb s.1 (c / 3)=n∧0≤tOpp x c∧lb s.1 (tOpp x c / 3).toNat<0):shC x n c s=(s.1.set (tOpp x c / 3).toNat n,true):=by unfold shC;rw [if_pos h]
theorem shC_n {x:tabE.T} {n:Int} {c:Nat} {s:List Int×Bool} (h: ¬ (lb s.1 (c / 3)=n∧0≤tOpp x c∧lb s.1 (tOpp x c / 3).toNat<0)):shC x n c s=s:=by unfold shC;rw [if_neg h]
def InvQ (x:tabE.T) (t N0:Nat) (s:Nat×List Int×Bool):Prop:=s.1≤3*nLen x∧Mid x (ofL x (t+1)).1 (ofL x t).2 t s.2.1∧(s.2.2=false→Clo x (ofL x t).2 s.2.1 s.1∧unm s.2.1≤N0)∧(s.2.2=true→unm s.2.1<N0)
theorem inv_y {x:tabE.T} {t N0:Nat} (g:Full x) (s:ShT x t) {q:Nat×List Int×Bool} (hq:InvQ x t N0 q) (hc:q.1<3*nLen x) (h:lb q.2.1 (q.1 / 3)=(ofL x t).2∧0≤tOpp x q.1∧lb q.2.1 (tOpp x q.1 / 3).toNat<0):InvQ x t N0 (q.1+1,shC x (ofL x t).2 q.1 q.2):=by
  rw [shC_y h]
  obtain ⟨m1,m2⟩:=mid_step g s hq.2.1 hc h.1 h.2.1 h.2.2
  refine ⟨hc,m1,(fun (e:true=false)=>(nomatch e)),fun _=> ?_⟩
  show unm (q.2.1.set (tOpp x q.1 / 3).toNat (ofL x t).2)<N0
  cases e:q.2.2 with
  | true=>have:=hq.2.2.2 e;omega
  | false=>have:=(hq.2.2.1 e).2;omega
theorem inv_n {x:tabE.T} {t N0:Nat} {q:Nat×List Int×Bool} (hq:InvQ x t N0 q) (hc:q.1<3*nLen x) (h: ¬ (lb q.2.1 (q.1 / 3)=(ofL x t).2∧0≤tOpp x q.1∧lb q.2.1 (tOpp x q.1 / 3).toNat<0)):InvQ x t N0 (q.1+1,shC x (ofL x t).2 q.1 q.2):=by
  rw [shC_n h]
  refine ⟨hc,hq.2.1,fun e=>⟨clo_step (hq.2.2.1 e).1 fun h1 h2=> ?_,(hq.2.2.1 e).2⟩,hq.2.2.2⟩
  refine Int.not_lt.1 fun h3=>h ⟨h1,h2,h3⟩
attribute [local irreducible] ofL
theorem shells10_vc (n:Int) (l:List P3) (x:tabE.T) (h:(n,l)=x.1∧Full x):afun ⟨tyL,[(71,opp10C x)],[]⟩ Tryz.f69 [soupE.av (n,l)] (fun r=>r= .tup [.s (.sl i64E (ofR x)),.s (.int .i64 (ofL x (nLen x)).2)]):=by
  have g:=h.2
  have el:nLen x=l.length:=(congrArg (fun s=>s.2.length) h.1).symm
  have hlen:nLen x≤8192:=g.fit.2.2.1
  repeat' (conv=>whnf
           first | done | refine qN (by first | rfl | omega | (simp only [i64ok] at *;omega)) ?_ | apply qH | refine qG fun _=> ?_ | apply qB | apply qa | apply qo | refine qe (fun _=> ?_) (fun _=> ?_) | refine qn (fun _=> ?_) (fun _=> ?_) | refine qd (fun _=> ?_) (fun _=> ?_) | apply qt | refine qi (fun _=> ?_) (fun _=> ?_) | (refine atReg 3 rfl ?_;refine Or.inr (Exists.intro (Nat) (Exists.intro (loopSh0 x) (And.intro (Exists.intro (0) (And.intro (Hold.out ?_) (And.intro ?_ (And.intro ?_ rfl)))) (fun p hp=> ?_))))) | ((with_reducible show (∃ y,And (Spec.inv (loopSh0 _) y) _));refine Exists.intro (p+1) (And.intro (Hold.out ?_) (And.intro (And.intro ?_ (And.intro ?_ rfl)) (Hold.out ?_)))) | (refine atReg 8 rfl ?_;refine Or.inr (Exists.intro (Nat) (Exists.intro (loopSh1 x) (And.intro (Exists.intro (0) (And.intro (Hold.out ?_) (And.intro ?_ (And.intro ?_ rfl)))) (fun t ht=> ?_))))) | ((with_reducible show (∃ y,And (Spec.inv (loopSh1 _) y) _));refine Exists.intro (t+1) (And.intro (Hold.out ?_) (And.intro (And.intro ?_ (And.intro ?_ rfl)) (Hold.out ?_)))) | (refine atReg 13 rfl ?_;refine Or.inr (Exists.intro (List Int×Bool) (Exists.intro (loopSh2 x t) (And.intro (Exists.intro (((ofL x t).1.set t (ofL x t).2,true)) (And.intro (Hold.out ?_) (And.intro ?_ (And.intro ?_ rfl)))) (fun s hs=> ?_))))) | ((with_reducible show (∃ y,And (Spec.inv (loopSh2 _ _) y) _));refine Exists.intro (q.2) (And.intro (Hold.out ?_) (And.intro (And.intro ?_ (And.intro ?_ rfl)) (Hold.out ?_)))) | (refine atReg 16 rfl ?_;refine Or.inr (Exists.intro (Nat×List Int×Bool) (Exists.intro (loopSh3 x t (unm s.1)) (And.intro (Exists.intro ((0,s.1,false)) (And.intro (Hold.out ?_) (And.intro ?_ (And.intro ?_ rfl)))) (fun q hq=> ?_))))) | ((with_reducible show (∃ y,And (Spec.inv (loopSh3 _ _ _) y) _));refine Exists.intro ((q.1+1,shC x (ofL x t).2 q.1 q.2)) (And.intro (Hold.out ?_) (And.intro (And.intro ?_ (And.intro ?_ rfl)) (Hold.out ?_)))) | refine And.intro rfl ?_ | apply qE | apply qO | exact True.intro | apply qq | apply qs | refine qK (by kernel_rfl) ?_ | apply qr)
  all_goals try first | apply qz1 | apply qz2 | apply qz3 | apply qz4 | apply qz5 | apply qz6 | apply qz7 | apply qz8 | apply qz9 | apply qz0
  all_goals try simp only [take_one,take_one',set_one,take_all,qn1,rec_self,qn2,pair_eta,ETy.dflt,qn3,qn4,Int.reduceToNat,Int.reduceAdd,Int.reduceSub,Int.reduceNeg,Nat.reduceAdd,Nat.zero_add,loopSh0,loopSh1,loopSh2,loopSh3] at *
  all_goals try rw [List.length_replicate]
  all_goals try (refine Hold.intro ?_;first | omega | (unfold i64ok;omega))
  · exact List.replicate_succ'
  · rw [ofL_0]
  · rw [ofL_0,show p=nLen x by omega]
  · rw [ofL_yes (by assumption)]
  · rw [ofL_yes (by assumption)]
  all_goals try have hneg: ¬ lb (ofL x t).1 t≥0:=by assumption
  all_goals try have sh:=shT g (by omega) hneg
  · exact Hold.intro ⟨mid_start g (by omega) hneg,fun e=>by cases e⟩
  · exact Hold.intro ⟨Nat.zero_le _,hs.1,fun _=>⟨fun d hd=>by omega,Nat.le_refl _⟩,fun e=>by cases e⟩
  all_goals try have hqc:(q.1:Int)<3*l.length:=by assumption
  all_goals try have hh:tHas x (q.1:Int)=true:=tHas_iff.2 ⟨by omega,by show (q.1:Int)<3*(nLen x:Int);omega⟩
  all_goals try have hd:((q.1:Int).tdiv 3).toNat=q.1 / 3:=by rw [td3 (by omega)];omega
  all_goals try have hd2:(q.1:Int).tdiv 3=q.1 / 3:=td3 (by omega)
  all_goals try have hop:tOpp x q.1≥0:=by assumption
  all_goals try have ho:(tOpp x q.1).tdiv 3=tOpp x q.1 / 3:=td3 hop
  all_goals try have hob:=tHas_iff.1 (g.opp_v (c:=q.1) hop).2.1
  all_goals try (have hob2:tOpp x q.1<3*(nLen x:Int):=hob.2)
  all_goals try (refine Hold.intro ⟨by decide,?_⟩;first | (rw [ho];unfold i64ok;omega) | (rw [hd2];unfold i64ok;omega))
  all_goals try exact Hold.intro ⟨h.1,g,hh⟩
  all_goals try (refine Hold.intro ?_;first | (rw [ho];exact ⟨by omega,by omega⟩) | (rw [hd2];exact ⟨by omega,by omega⟩))
  all_goals try
    have hy:lb q.2.1 (q.1 / 3)=(ofL x t).2∧0≤tOpp x q.1∧lb q.2.1 (tOpp x q.1 / 3).toNat<0:=by
      refine ⟨?_,hop,?_⟩
      · rw [← hd];assumption
      · rw [← ho];assumption
    first
    | exact Hold.intro (inv_y g sh hq (by omega) hy)
    | (rw [shC_y hy];done)
    | (rw [shC_y hy,ho];done)
  all_goals try
    have hy: ¬ (lb q.2.1 (q.1 / 3)=(ofL x t).2∧0≤tOpp x q.1∧lb q.2.1 (tOpp x q.1 / 3).toNat<0):=by
      rintro ⟨k1,k2,k3⟩
      first
      | exact absurd k2 (by assumption)
      | (rw [← ho] at k3;exact absurd k3 (by assumption))
      | (rw [← hd] at k1;exact absurd k1 (by assumption))
    first
    | exact Hold.intro (inv_n hq (by omega) hy)
    | (rw [shC_n hy];done)
  · refine Hold.intro ⟨hq.2.1,fun e=> ?_⟩
    have:=(hq.2.2.1 e).1
    rwa [show q.1=3*nLen x by omega] at this
  · refine Hold.intro ?_
    have hs1:s.2=true:=by assumption
    rw [hs1]
    cases e:q.2.2 with
    | true=>have:=hq.2.2.2 e;simp;omega
    | false=>have:=(hq.2.2.1 e).2;simp;omega
  · have:=n_le x t
    have:=sh.nn
    refine Hold.intro ?_;unfold i64ok;omega
  · exact sh.n2
  · exact (mid_done g (by omega) sh hs.1 (hs.2 (by assumption))).symm
  · have e:t=nLen x:=by omega
    have e2:p=nLen x:=by omega
    subst e
    have hl:(ofL x (nLen x)).1.length=nLen x:=(lab_all g (nLen x) (Nat.le_refl _)).1.len
    rw [List.drop_zero,List.take_of_length_le (by omega)]
    exact HoldEq.intro rfl
def shells10C (x:tabE.T):List AV→Option Res:=con1 soupE (fun s=>some (none,some (s=x.1∧Full x),.tup [.s (.sl i64E (ofR x)),.s (.int .i64 (ofL x (nLen x)).2)]))
theorem shells10Row (x:tabE.T):FnRow Tryz.prog 69 (shells10C x):=⟨con1_ok fun s r h=>by
  cases h;exact fn_by (rulesF (fn:=[(71,opp10C x)]) (fr:=[]) ⟨(opp10Row x),trivial⟩ trivial) Tryz.func69 (by kernel_rfl) fun _ h=>shells10_vc s.1 s.2 x h,_,Tryz.func69,by kernel_rfl,by kernel_rfl⟩
end S1
open Go Go.Vm Go.Proofs
namespace S1
theorem next_tri {x:tabE.T} {d:Int} (h:tHas x d=true):(tNext x d / 3).toNat=(d / 3).toNat:=by
  rw [tNext_t h];unfold trn;omega
theorem vert_conn {x:tabE.T} (g:Full x) {c d:Int} (hc:tHas x c=true) (hd:tHas x d=true) (e:tVert x c=tVert x d):Conn (Adj x) (c / 3).toNat (d / 3).toNat:=by
  have hv:=tVert_in g.fit hc
  obtain ⟨b,_,eL,hb1,hb2,_⟩:=g.around hv.1 hv.2
  have key: ∀ y∈aroundL (some x) (tVert x c),Conn (Adj x) (b / 3).toNat (y / 3).toNat:=fun y hy=>by
    rw [eL] at hy
    refine aroundF_all (x:=x) (b:=b) (fun y=>Conn (Adj x) (b / 3).toNat (y / 3).toNat) (fun q hq ha=> ?_) _ _ (.refl _) y hy
    obtain ⟨k1,k2,k3⟩:=g.toGood.after_has ha
    refine .step hq ⟨tNext x q,(hasNP k1).1,next_tri k1,k3,?_⟩
    have k4:=(g.opp_v (c:=tNext x q) k3).2.1
    have:tAfter x q=tNext x (tOpp x (tNext x q)):=by unfold tAfter;rw [if_neg (by omega)]
    rw [this,next_tri k4]
  have k1:=key c (g.around_all hc)
  have k2:=key d (by rw [e];exact g.around_all hd)
  exact Conn.trans (k1.symm fun _ _=>g.adj_symm) k2
theorem label_at {x:tabE.T} (g:Full x) {a:Int} (h0:0≤a) (h1:a<x.1.1):(ofR x).getD (cor10R x a / 3).toNat 0=smM x a:=by
  obtain ⟨c1,c2⟩:=cor10_is g h0 h1
  obtain ⟨d1,d2⟩:=g.vtx a h0 h1
  unfold smM
  exact (shell_iff g (cor_tri c1).1 (cor_tri d1).1).2 (vert_conn g c1 d1 (c2.trans d2.symm))
theorem fac_mem {x:tabE.T} {a b v:Int} :v∈facR x a b↔(tFacing x (a,b)≥0∧tVert x (tFacing x (a,b))=v)∨(tFacing x (b,a)≥0∧tVert x (tFacing x (b,a))=v):=by
  unfold facR
  rw [List.mem_append]
  refine or_congr ?_ ?_ <;>
  · split
    · rename_i h;rw [List.mem_singleton];exact ⟨fun e=>⟨h,e.symm⟩,fun e=>e.2.symm⟩
    · rename_i h;exact ⟨fun e=>(by cases e),fun e=>absurd e.1 h⟩
def loopW1 (x:tabE.T) (a b:Int):Spec Nat where
  inv i:=i≤(comR x a b).length∧whyL (facR x a b) (comR x a b)=whyL (facR x a b) ((comR x a b).drop i)
  live i:=[(10,.s (.int .i64 i))]
  keep:=[1,2,3,7,8,9]
  heap _:=[]
  keepH:=[0]
  mu i:=(comR x a b).length - i
def loopW2 (x:tabE.T) (a:Int):Spec Nat where
  inv i:=i≤(ofR x).length
  live i:=[(16,.s (.int .i64 i)),(14,.s (.int .i64 (smS x (smM x a) i).1)),(15,.s (.bool (!(smS x (smM x a) i).2)))]
  keep:=[1,2,3,7,8,9,11,12,13]
  heap _:=[]
  keepH:=[0]
  mu i:=(ofR x).length - i
def loopW3 (x:tabE.T) (a:Int) (i:Nat):Spec Nat where
  inv c:=c≤3
  live c:=[(17,.s (.int .i64 c)),(15,.s (.bool (!(irec (smC x i) (smS x (smM x a) i).2 c))))]
  keep:=[1,2,3,7,8,9,11,12,13,14,16]
  heap _:=[]
  keepH:=[0]
  mu c:=3 - c
theorem fac_two {x:tabE.T} {a b:Int} :(facR x a b).length=2↔tFacing x (a,b)≥0∧tFacing x (b,a)≥0:=by
  unfold facR
  rw [List.length_append]
  constructor
  · intro h
    split at h
    · split at h
      · exact ⟨by assumption,by assumption⟩
      · simp at h
    · split at h<;>simp at h
  · rintro ⟨h1,h2⟩;rw [if_pos h1,if_pos h2];rfl
theorem why_eq {x:tabE.T} (g:Full x) {a b:Int} (h:a=b):whyR x a b=1:=by
  subst h;exact why_far (near_self g.toGood a)
theorem why_two {x:tabE.T} {a b:Int} (h:nearR x a b=true) (h1:tFacing x (a,b)≥0) (h2:tFacing x (b,a)≥0) (h3:innerR x a=false) (h4:innerR x b=false):whyR x a b=2:=by
  unfold whyR;rw [h,if_neg (by simp),if_pos ⟨fac_two.2 ⟨h1,h2⟩,h3,h4⟩]
abbrev Not2 (x:tabE.T) (a b:Int):Prop:= ¬ (tFacing x (a,b)≥0∧tFacing x (b,a)≥0∧innerR x a=false∧innerR x b=false)
theorem why_rest {x:tabE.T} {a b:Int} (h:nearR x a b=true) (hn:Not2 x a b):whyR x a b=if whyL (facR x a b) (comR x a b)=false then 3 else if smallR x a then 4 else 0:=by
  unfold whyR;rw [h,if_neg (by simp),if_neg (fun k=>hn ⟨(fac_two.1 k.1).1,(fac_two.1 k.1).2,k.2⟩)]
abbrev FacV (x:tabE.T) (a b v:Int):Prop:=(tFacing x (a,b)≥0∧tVert x (tFacing x (a,b))=v)∨(tFacing x (b,a)≥0∧tVert x (tFacing x (b,a))=v)
theorem why_three {x:tabE.T} {a b:Int} (h:nearR x a b=true) (hn:Not2 x a b) {i:Nat} (hi:whyL (facR x a b) (comR x a b)=whyL (facR x a b) ((comR x a b).drop i)) (hl:i<(comR x a b).length) (hv: ¬ FacV x a b ((comR x a b).getD i 0)):whyR x a b=3:=by
  rw [why_rest h hn,if_pos]
  have e:hasI ((comR x a b).getD i 0) (facR x a b)=false:=by
    rw [← Bool.not_eq_true];exact fun k=>hv (fac_mem.1 (hasI_iff.1 k))
  rw [hi,drop_now 0 (by omega),whyL,e];rfl
theorem why_go {x:tabE.T} {a b:Int} {i:Nat} (hi:whyL (facR x a b) (comR x a b)=whyL (facR x a b) ((comR x a b).drop i)) (hl:i<(comR x a b).length) (hv:FacV x a b ((comR x a b).getD i 0)):whyL (facR x a b) (comR x a b)=whyL (facR x a b) ((comR x a b).drop (i+1)):=by
  have e:hasI ((comR x a b).getD i 0) (facR x a b)=true:=hasI_iff.2 (fac_mem.2 hv)
  rw [hi,drop_now 0 (by omega),whyL,e];rfl
theorem why_end {x:tabE.T} {a b:Int} (h:nearR x a b=true) (hn:Not2 x a b) {i:Nat} (hi:whyL (facR x a b) (comR x a b)=whyL (facR x a b) ((comR x a b).drop i)) (hl: ¬ i<(comR x a b).length):whyR x a b=if smallR x a then 4 else 0:=by
  have e:whyL (facR x a b) (comR x a b)=true:=by rw [hi,List.drop_eq_nil_of_le (by omega)];rfl
  rw [why_rest h hn,if_neg (by rw [e];simp)]
theorem fac_has {x:tabE.T} (g:Full x) {e:Int×Int} (h:tFacing x e≥0):tHas x (tFacing x e)=true:=by
  unfold tFacing at h ⊢
  cases e1:mget .arr2 x.2.1 e with
  | none=>rw [e1] at h;exact absurd h (by decide)
  | some c=>exact (g.map _ _ e1).1
theorem smS_0 (x:tabE.T) (m:Int):smS x m 0=(0,false):=rfl
theorem small_4 {x:tabE.T} {a:Int} {t:Nat} (ht:t=(ofR x).length) (h:(smS x (smM x a) t).1=1∨((smS x (smM x a) t).1=4∧(smS x (smM x a) t).2=false)):(if smallR x a then (4:Int) else 0)=4:=by
  subst ht
  unfold smallR
  rcases h with h | ⟨h1,h2⟩
  · rw [h];rfl
  · rw [h1,h2];rfl
theorem small_0 {x:tabE.T} {a:Int} {t:Nat} (ht:t=(ofR x).length) (h1:(smS x (smM x a) t).1≠1) (h:(smS x (smM x a) t).1≠4∨(smS x (smM x a) t).2=true):(if smallR x a then (4:Int) else 0)=0:=by
  subst ht
  unfold smallR
  rw [decide_eq_false h1]
  rcases h with h | h
  · rw [decide_eq_false h];rfl
  · rw [h];simp
attribute [local irreducible] nearR innerR comR ofR smS smM cor10R
theorem why34_vc (n:Int) (l:List P3) (a b:Int) (x:tabE.T) (h:(n,l)=x.1∧Full x):afun ⟨tyL,[(64,near34C x),(65,facing10C x),(66,inner10C x),(67,common34C x),(68,vertex10C x),(69,shells10C x),(70,corner10C x),(71,opp10C x)],[]⟩ Tryz.f36 [soupE.av (n,l),i64E.av a,i64E.av b] (fun r=>r= .s (.int .i64 (whyR x a b))):=by
  have g:=h.2
  have eC:=com34_is g a b
  have el:nLen x=l.length:=(congrArg (fun s=>s.2.length) h.1).symm
  have hlen:nLen x≤8192:=g.fit.2.2.1
  have hofl:(ofR x).length=nLen x:=ofR_len g.toGood
  repeat' (conv=>whnf
           first | done | refine qN (by first | rfl | omega | (simp only [i64ok] at *;omega)) ?_ | apply qH | refine qG fun _=> ?_ | apply qB | apply qa | apply qo | refine qe (fun _=> ?_) (fun _=> ?_) | refine qn (fun _=> ?_) (fun _=> ?_) | refine qd (fun _=> ?_) (fun _=> ?_) | apply qt | refine qi (fun _=> ?_) (fun _=> ?_) | (refine atReg 9 rfl ?_;refine Or.inr (Exists.intro (Nat) (Exists.intro (loopW1 x a b) (And.intro (Exists.intro (0) (And.intro (Hold.out ?_) (And.intro ?_ (And.intro ?_ rfl)))) (fun i hi=> ?_))))) | ((with_reducible show (∃ y,And (Spec.inv (loopW1 _ _ _) y) _));refine Exists.intro (i+1) (And.intro (Hold.out ?_) (And.intro (And.intro ?_ (And.intro ?_ rfl)) (Hold.out ?_)))) | (refine atReg 18 rfl ?_;refine Or.inr (Exists.intro (Nat) (Exists.intro (loopW2 x a) (And.intro (Exists.intro (0) (And.intro (Hold.out ?_) (And.intro ?_ (And.intro ?_ rfl)))) (fun t ht=> ?_))))) | ((with_reducible show (∃ y,And (Spec.inv (loopW2 _ _) y) _));refine Exists.intro (t+1) (And.intro (Hold.out ?_) (And.intro (And.intro ?_ (And.intro ?_ rfl)) (Hold.out ?_)))) | (refine atReg 23 rfl ?_;refine Or.inr (Exists.intro (Nat) (Exists.intro (loopW3 x a t) (And.intro (Exists.intro (0) (And.intro (Hold.out ?_) (And.intro ?_ (And.intro ?_ rfl)))) (fun c hc=> ?_))))) | ((with_reducible show (∃ y,And (Spec.inv (loopW3 _ _ _) y) _));refine Exists.intro (c+1) (And.intro (Hold.out ?_) (And.intro (And.intro ?_ (And.intro ?_ rfl)) (Hold.out ?_)))) | refine And.intro rfl ?_ | apply qE | apply qO | exact True.intro | apply qq | apply qs | refine qK (by kernel_rfl) ?_ | apply qr)
  all_goals try first | apply qz1 | apply qz2 | apply qz3 | apply qz4 | apply qz5 | apply qz6 | apply qz7 | apply qz8 | apply qz9 | apply qz0
  all_goals try simp only [take_one,take_one',set_one,take_all,qn1,rec_self,qn2,pair_eta,ETy.dflt,qn3,qn4,Int.reduceToNat,Int.reduceAdd,Int.reduceSub,Int.reduceNeg,Nat.reduceAdd,Nat.zero_add,loopW1,loopW2,loopW3] at *
  all_goals try exact (why_eq g (by assumption)).symm
  all_goals try exact (why_far (by assumption)).symm
  all_goals try exact (why_two (by assumption) (by assumption) (by assumption) (by assumption) (by assumption)).symm
  all_goals have hnear:nearR x a b=true:=by assumption
  all_goals have hab:=near_in g.toGood hnear
  all_goals try exact Hold.intro ⟨h.1,g,hab.1.1,hab.1.2⟩
  all_goals try exact Hold.intro ⟨h.1,g,hab.2.1,hab.2.2⟩
  all_goals try exact Hold.intro ⟨Nat.zero_le _,rfl⟩
  all_goals try exact Hold.intro ⟨h.1,g.toGood,fac_has g (by assumption)⟩
  all_goals try (have hi0:(i:Int)<(com34 x a b).length:=by assumption
                 rw [eC] at hi0)
  all_goals have not2:Not2 x a b:=by
              rintro ⟨k1,k2,k3,k4⟩
              first
              | exact absurd k1 (by assumption)
              | exact absurd k2 (by assumption)
              | exact Bool.noConfusion (k3.symm.trans (show innerR x a=true by assumption))
              | exact Bool.noConfusion (k4.symm.trans (show innerR x b=true by assumption))
  all_goals try
    have hv: ¬ FacV x a b ((com34 x a b).getD i 0):=by
      rintro (⟨k1,k2⟩ | ⟨k1,k2⟩)<;>first | exact absurd k1 (by assumption) | exact absurd k2 (by assumption)
    rw [eC] at hv
    exact (why_three hnear not2 hi.2 (by omega) hv).symm
  all_goals try
    have hv:FacV x a b ((com34 x a b).getD i 0):=by first | exact .inl ⟨by assumption,by assumption⟩ | exact .inr ⟨by assumption,by assumption⟩
    rw [eC] at hv
    exact Hold.intro ⟨by omega,why_go hi.2 (by omega) hv⟩
  all_goals try (refine Hold.intro ?_;omega)
  all_goals
    have hi2: ¬ (i:Int)<(com34 x a b).length:=by assumption
    rw [eC] at hi2
    have hW:=why_end hnear not2 hi.2 (by omega)
    have hc10:=cor10_is g hab.1.1 hab.1.2
    have hct:=tHas_iff.1 hc10.1
    have hct2:cor10R x a<3*(nLen x:Int):=hct.2
    have hcd:(cor10R x a).tdiv 3=cor10R x a / 3:=td3 hct.1
    have hlab:=label_at g hab.1.1 hab.1.2
  all_goals try (rw [smS_0];done)
  all_goals try (rw [smS_0];rfl)
  all_goals try (refine Hold.intro ⟨by decide,?_⟩;rw [hcd];unfold i64ok;omega)
  all_goals try (refine Hold.intro ?_;rw [hcd,hofl];exact ⟨by omega,by omega⟩)
  all_goals try have hm:=smS_le x (smM x a) t
  all_goals try (refine Hold.intro ?_;unfold i64ok;omega)
  all_goals try exact Hold.intro ⟨h.1,g,tHas_iff.2 ⟨by omega,by show 3*(t:Int)+c<3*(nLen x:Int);omega⟩⟩
  all_goals try
    have hb:irec (smC x t) (smS x (smM x a) t).2 c=true:=by assumption
    rw [smC_s,hb]
    rfl
  all_goals try
    have hb:irec (smC x t) (smS x (smM x a) t).2 c=false:=by assumption
    rw [smC_s,hb]
    by_cases k:tOpp x (3*t+c)<0
    · rw [decide_eq_true k,decide_eq_false (by omega)];rfl
    · rw [decide_eq_false k,decide_eq_true (by omega)];rfl
  all_goals try
    have hy:(ofR x).getD t 0=(ofR x).getD ((cor10R x a).tdiv 3).toNat 0:=by assumption
    rw [hcd,hlab] at hy
    rw [smS_yes hy]
    (try rw [show c=3 by omega])
  all_goals try
    have hy:(ofR x).getD t 0≠(ofR x).getD ((cor10R x a).tdiv 3).toNat 0:=by assumption
    rw [hcd,hlab] at hy
    rw [smS_no hy]
  all_goals have et:t=(ofR x).length:=by omega
  all_goals rw [hW]
  all_goals first
    | (rw [small_4 et (.inl (by assumption))];done)
    | (rw [small_4 et (.inr ⟨by assumption,by assumption⟩)];done)
    | (rw [small_0 et (by assumption) (.inr (by assumption))];done)
    | (rw [small_0 et (by assumption) (.inl (by assumption))];done)
def why34C (x:tabE.T):List AV→Option Res:=con3 soupE i64E i64E (fun s a b=>some (none,some (s=x.1∧Full x),.s (.int .i64 (whyR x a b))))
theorem why34Row (x:tabE.T):FnRow Tryz.prog 36 (why34C x):=⟨con3_ok fun s a b r h=>by
  cases h;exact fn_by (rulesF (fn:=[(64,near34C x),(65,facing10C x),(66,inner10C x),(67,common34C x),(68,vertex10C x),(69,shells10C x),(70,corner10C x),(71,opp10C x)]) (fr:=[]) ⟨(near34Row x),(facing10Row x),(inner10Row x),(common34Row x),(vertex10Row x),(shells10Row x),(corner10Row x),(opp10Row x),trivial⟩ trivial) Tryz.func36 (by kernel_rfl) fun _ h=>why34_vc s.1 s.2 a b x h,_,Tryz.func36,by kernel_rfl,by kernel_rfl⟩
end S1
open Go Go.Vm Go.Proofs
namespace S1
abbrev FsT:=List Bool×Int
theorem irec_grow {S:Type} (m:S→Int) (f:S→Nat→S) (hf: ∀ s i,f s i=s∨m s<m (f s i)): ∀ n s,(irec f s n=s∧∀ i,i<n→f s i=s)∨m s<m (irec f s n)
  | 0,s=> .inl ⟨rfl,fun i hi=>by omega⟩
  | n +1,s=>by
    have e:irec f s (n+1)=f (irec f s n) n:=rfl
    rcases irec_grow m f hf n s with ⟨h1,h2⟩ | h
    · rw [e,h1]
      rcases hf s n with h | h
      · exact .inl ⟨h,fun i hi=>by
          by_cases k:i=n
          · subst k;exact h
          · exact h2 i (by omega)⟩
      · exact .inr h
    · rw [e]
      rcases hf (irec f s n) n with k | k
      · rw [k];exact .inr h
      · exact .inr (by omega)
theorem irec_fix {S:Type} {f:S→Nat→S} {s:S} : ∀ n,(∀ i,i<n→f s i=s)→irec f s n=s
  | 0,_=>rfl
  | n+1,h=>by
    show f (irec f s n) n=s
    rw [irec_fix n fun i hi=>h i (by omega)];exact h n (by omega)
def fsK (bs:Int→Int→Bool) (L:List Int) (i:Nat) (st:FsT) (k:Nat):FsT :=
  if st.1.getD (L.getD i 0).toNat false=true∧st.1.getD (L.getD k 0).toNat false=false∧bs (L.getD i 0) (L.getD k 0)=true then (st.1.set (L.getD k 0).toNat true,st.2+1) else st
def fsI (bs:Int→Int→Bool) (L:List Int) (st:FsT) (i:Nat):FsT:=irec (fsK bs L i) st L.length
def fsR (bs:Int→Int→Bool) (L:List Int) (st:FsT) (_:Nat):FsT:=irec (fsI bs L) st L.length
def fs0 (L:List Int) (n:Nat):FsT:=((List.replicate n false).set (L.getD 0 0).toNat true,1)
def fsS (bs:Int→Int→Bool) (L:List Int) (n r:Nat):FsT:=irec (fsR bs L) (fs0 L n) r
section
variable {bs:Int→Int→Bool} {L:List Int} {n:Nat}
theorem fsK_grow (i:Nat) (st:FsT) (k:Nat):fsK bs L i st k=st∨st.2<(fsK bs L i st k).2:=by
  unfold fsK;split
  · exact .inr (by show st.2<st.2+1;omega)
  · exact .inl rfl
theorem fsI_grow (st:FsT) (i:Nat):fsI bs L st i=st∨st.2<(fsI bs L st i).2:=(irec_grow (·.2) _ (fsK_grow i) _ st).imp (·.1) id
theorem fsR_grow (st:FsT) (r:Nat):fsR bs L st r=st∨st.2<(fsR bs L st r).2:=(irec_grow (·.2) _ fsI_grow _ st).imp (·.1) id
def FsClo (bs:Int→Int→Bool) (L:List Int) (st:FsT):Prop:= ∀ i k,i<L.length→k<L.length→fsK bs L i st k=st
theorem fsR_clo {st:FsT} {r:Nat} (h:fsR bs L st r=st):FsClo bs L st:=by
  have h1: ∀ i,i<L.length→fsI bs L st i=st:=by
    rcases irec_grow (·.2) (fsI bs L) fsI_grow L.length st with ⟨_,k⟩ | k
    · exact k
    · have e:irec (fsI bs L) st L.length=st:=h
      rw [e] at k;omega
  intro i k hi hk
  rcases irec_grow (·.2) (fsK bs L i) (fsK_grow i) L.length st with ⟨_,q⟩ | q
  · exact q k hk
  · have e:irec (fsK bs L i) st L.length=st:=h1 i hi
    rw [e] at q;omega
theorem FsClo.fix {st:FsT} (h:FsClo bs L st) (r:Nat):fsR bs L st r=st:=irec_fix _ fun i hi=>irec_fix _ fun k hk=>h i k hi hk
theorem fs_done: ∀ r,FsClo bs L (fsS bs L n r)∨1+(r:Int)≤(fsS bs L n r).2
  | 0=> .inr (by show 1+((0:Nat):Int)≤1;omega)
  | r +1=>by
    have e:fsS bs L n (r+1)=fsR bs L (fsS bs L n r) r:=rfl
    rw [e]
    rcases fs_done r with h | h
    · rw [h.fix];exact .inl h
    · rcases fsR_grow (bs:=bs) (L:=L) (fsS bs L n r) r with k | k
      · rw [k];exact .inl (fsR_clo k)
      · exact .inr (by omega)
structure FsInv (L:List Int) (n:Nat) (R:Int→Prop) (st:FsT) (ks:List Int):Prop where
  nd:ks.Nodup
  len:(ks.length:Int)=st.2
  sub: ∀ x∈ks,x∈L∧R x
  size:st.1.length=n
  mem: ∀ x,0≤x→(st.1.getD x.toNat false=true↔x∈ks)
theorem getD_setB (l:List Bool) (i j:Nat) (hi:i<l.length):(l.set i true).getD j false=if i=j then true else l.getD j false:=by
  rw [List.getD_eq_getElem?_getD,List.getElem?_set]
  split
  · rename_i e;subst e;rfl
  · rw [List.getD_eq_getElem?_getD]
variable {R:Int→Prop} (hL: ∀ x∈L,0≤x∧x<(n:Int))
include hL
theorem fsK_inv (hR: ∀ x∈L,∀ y∈L,bs x y=true→R x→R y) {i k:Nat} (hi:i<L.length) (hk:k<L.length) {st:FsT} (h: ∃ ks,FsInv L n R st ks): ∃ ks,FsInv L n R (fsK bs L i st k) ks:=by
  obtain ⟨ks,h⟩:=h
  unfold fsK
  split
  case isFalse=>exact ⟨ks,h⟩
  rename_i hc
  obtain ⟨c1,c2,c3⟩:=hc
  have mi:=getD_mem hi
  have mk:=getD_mem hk
  have b:=hL _ mk
  have nk:L.getD k 0∉ks:=fun e=>by rw [(h.mem _ b.1).2 e] at c2;cases c2
  refine ⟨L.getD k 0::ks,List.nodup_cons.2 ⟨nk,h.nd⟩,?_,fun x hx=> ?_,?_,fun x hx=> ?_⟩
  · have:=h.len
    show ((ks.length+1:Nat):Int)=st.2+1
    omega
  · rcases List.mem_cons.1 hx with e | e
    · subst e;exact ⟨mk,hR _ mi _ mk c3 (h.sub _ ((h.mem _ (hL _ mi).1).1 c1)).2⟩
    · exact h.sub x e
  · show (st.1.set _ true).length=n
    rw [List.length_set];exact h.size
  · show (st.1.set _ true).getD _ false=true↔_
    rw [getD_setB _ _ _ (by rw [h.size];omega),List.mem_cons]
    split
    · rename_i e;exact ⟨fun _=> .inl (by omega),fun _=>rfl⟩
    · rename_i e
      rw [h.mem x hx]
      exact ⟨.inr,fun k=>k.resolve_left (fun e'=>e (by rw [e']))⟩
theorem fsS_inv (hR: ∀ x∈L,∀ y∈L,bs x y=true→R x→R y) (hne:0<L.length) (h0:R (L.getD 0 0)) (r:Nat): ∃ ks,FsInv L n R (fsS bs L n r) ks:=by
  have m0:=getD_mem hne
  have b:=hL _ m0
  refine irec_inv (n:=r) (fun _ st=> ∃ ks,FsInv L n R st ks) ?_ (fun _ st _ h=> ?_) r (Nat.le_refl _)
  · refine ⟨[L.getD 0 0],List.nodup_cons.2 ⟨by simp,List.nodup_nil⟩,rfl,fun x hx=> ?_,?_,fun x hx=> ?_⟩
    · rw [List.mem_singleton.1 hx];exact ⟨m0,h0⟩
    · unfold fs0;simp
    · unfold fs0
      rw [getD_setB _ _ _ (by rw [List.length_replicate];omega),List.mem_singleton]
      split
      · rename_i e;exact ⟨fun _=>by omega,fun _=>rfl⟩
      · rename_i e
        rw [List.getD_eq_getElem?_getD,List.getElem?_replicate]
        split
        · exact ⟨fun h=>(by cases h),fun h=>absurd (by rw [h]) e⟩
        · exact ⟨fun h=>(by cases h),fun h=>absurd (by rw [h]) e⟩
  · exact irec_inv (n:=L.length) (fun _ st=> ∃ ks,FsInv L n R st ks) h (fun i st hi h=>irec_inv (n:=L.length) (fun _ st=> ∃ ks,FsInv L n R st ks) h (fun k st hk h=>fsK_inv hL hR hi hk h) _ (Nat.le_refl _)) _ (Nat.le_refl _)
theorem fan_conn (hn:L.Nodup) (hne:0<L.length):(fsS bs L n L.length).2=(L.length:Int)↔∀ Q:Int→Prop,(∀ x∈L,∀ y∈L,bs x y=true→Q x→Q y)→Q (L.getD 0 0)→∀ x∈L,Q x:=by
  constructor
  · intro h Q hQ h0 x hx
    obtain ⟨ks,k⟩:=fsS_inv hL hQ hne h0 L.length
    have hl:ks.length=L.length:=by have:=k.len;omega
    apply Classical.byContradiction
    intro hq
    have nx:x∉ks:=fun e=>hq (k.sub x e).2
    have:=len_sub (x::ks) L (List.nodup_cons.2 ⟨nx,k.nd⟩) fun y hy=>by
      rcases List.mem_cons.1 hy with e | e
      · rw [e];exact hx
      · exact (k.sub y e).1
    simp only [List.length_cons] at this
    omega
  · intro h
    obtain ⟨ks,k⟩:=fsS_inv (R:=fun _=>True) hL (fun _ _ _ _ _ _=>trivial) hne trivial L.length (bs:=bs)
    have hle:=len_sub ks L k.nd fun y hy=>(k.sub y hy).1
    have hclo:FsClo bs L (fsS bs L n L.length):=(fs_done L.length).resolve_right (by have:=k.len;omega)
    have all := h (fun x=>(fsS bs L n L.length).1.getD x.toNat false=true) (fun x hx y hy b hq=>by
      obtain ⟨i,hi,ei⟩:=List.mem_iff_getElem.1 hx
      obtain ⟨j,hj,ej⟩:=List.mem_iff_getElem.1 hy
      have gi:L.getD i 0=x:=by rw [List.getD_eq_getElem?_getD,List.getElem?_eq_getElem hi];exact ei
      have gj:L.getD j 0=y:=by rw [List.getD_eq_getElem?_getD,List.getElem?_eq_getElem hj];exact ej
      have:=hclo i j hi hj
      unfold fsK at this
      rw [gi,gj] at this
      split at this
      · have e:=congrArg Prod.snd this
        have e:(fsS bs L n L.length).2+1=(fsS bs L n L.length).2:=e
        omega
      · rename_i hc
        apply Classical.byContradiction
        intro hy'
        exact hc ⟨hq,by simpa using hy',b⟩) (by
      obtain ⟨ks1,k1⟩:=fsS_inv (R:=fun _=>True) hL (fun _ _ _ _ _ _=>trivial) hne trivial L.length (bs:=bs)
      have: ∀ r,(fsS bs L n r).1.getD (L.getD 0 0).toNat false=true:=fun r=>by
        have b:=hL _ (getD_mem hne)
        have step: ∀ i k (st:FsT),st.1.getD (L.getD 0 0).toNat false=true→(fsK bs L i st k).1.getD (L.getD 0 0).toNat false=true:=fun i k st h=>by
          unfold fsK;split
          · show (st.1.set _ true).getD _ false=true
            rw [List.getD_eq_getElem?_getD,List.getElem?_set]
            split
            · split
              · rfl
              · rename_i e1 e2
                rw [← e1] at h
                rw [List.getD_eq_getElem?_getD,List.getElem?_eq_none (by omega)] at h
                cases h
            · rw [← List.getD_eq_getElem?_getD];exact h
          · exact h
        refine irec_inv (n:=r) (fun _ (st:FsT)=>st.1.getD (L.getD 0 0).toNat false=true) ?_ (fun _ st _ h=> ?_) r (Nat.le_refl _)
        · unfold fs0
          rw [getD_setB _ _ _ (by rw [List.length_replicate];omega),if_pos rfl]
        · exact irec_inv (n:=L.length) (fun _ (st:FsT)=>st.1.getD (L.getD 0 0).toNat false=true) h (fun i st hi h=>irec_inv (n:=L.length) (fun _ (st:FsT)=>st.1.getD (L.getD 0 0).toNat false=true) h (fun k st hk h=>step i k st h) _ (Nat.le_refl _)) _ (Nat.le_refl _)
      exact this _)
    have:=len_sub L ks hn fun x hx=>(k.mem x (hL x hx).1).1 (all x hx)
    have:=k.len
    omega
end
def FsOk (L:List Int) (n:Nat) (st:FsT):Prop:= ∃ ks,FsInv L n (fun _=>True) st ks
section
variable {bs:Int→Int→Bool} {L:List Int} {n:Nat}
theorem FsOk.le {st:FsT} (h:FsOk L n st):0≤st.2∧st.2≤L.length∧st.1.length=n:=by
  obtain ⟨ks,h⟩:=h
  have:=len_sub ks L h.nd fun y hy=>(h.sub y hy).1
  have:=h.len
  exact ⟨by omega,by omega,h.size⟩
theorem FsOk.k (hL: ∀ x∈L,0≤x∧x<(n:Int)) {st:FsT} (h:FsOk L n st) {i:Nat} (hi:i<L.length): ∀ k,k≤L.length→FsOk L n (irec (fsK bs L i) st k) :=
  irec_inv (n:=L.length) (fun _ st=>FsOk L n st) h (fun k st hk h=>fsK_inv hL (fun _ _ _ _ _ _=>trivial) hi hk h)
theorem FsOk.i (hL: ∀ x∈L,0≤x∧x<(n:Int)) {st:FsT} (h:FsOk L n st): ∀ i,i≤L.length→FsOk L n (irec (fsI bs L) st i) :=
  irec_inv (n:=L.length) (fun _ st=>FsOk L n st) h (fun i st hi h=>FsOk.k hL h hi _ (Nat.le_refl _))
theorem FsOk.r (hL: ∀ x∈L,0≤x∧x<(n:Int)) (hne:0<L.length) (r:Nat):FsOk L n (fsS bs L n r):=fsS_inv hL (fun _ _ _ _ _ _=>trivial) hne trivial r
end
def inG (l:List P3) (v:Int) (i:Nat):Option Int:=if hasV (tg l i) v then some (i:Int) else none
def inL (l:List P3) (v:Int) (i:Nat):List Int:=(List.range i).filterMap (inG l v)
theorem inL_succ (l:List P3) (v:Int) (i:Nat):inL l v (i+1)=inL l v i++(inG l v i).toList:=fm_succ _ _
theorem inL_len (l:List P3) (v:Int) (i:Nat):(inL l v i).length≤i:=fm_len _ _
theorem inL_mem {l:List P3} {v:Int} {n:Nat} {x:Int} :x∈inL l v n↔∃ j:Nat,j<n∧hasV (tg l j) v∧x=j:=by
  unfold inL
  rw [List.mem_filterMap]
  constructor
  · rintro ⟨j,hj,e⟩
    unfold inG at e
    split at e
    · rename_i h;cases e;exact ⟨j,List.mem_range.1 hj,h,rfl⟩
    · cases e
  · rintro ⟨j,hj,h,rfl⟩
    exact ⟨j,List.mem_range.2 hj,by unfold inG;rw [if_pos h]⟩
theorem inL_rng {l:List P3} {v:Int} {n:Nat} : ∀ x∈inL l v n,0≤x∧x<(n:Int):=fun x hx=>by
  obtain ⟨j,hj,_,rfl⟩:=inL_mem.1 hx;omega
theorem inL_nodup (l:List P3) (v:Int): ∀ n,(inL l v n).Nodup
  | 0=>List.nodup_nil
  | n + 1=>by
    rw [inL_succ,List.nodup_append]
    refine ⟨inL_nodup l v n,?_,fun a ha b hb=> ?_⟩
    · unfold inG;split
      · exact List.nodup_cons.2 ⟨by simp,List.nodup_nil⟩
      · exact List.nodup_nil
    · unfold inG at hb
      split at hb
      · rw [Option.toList,List.mem_singleton] at hb
        have:=inL_rng a ha
        omega
      · cases hb
def besN (a b:P3):Nat→Int
  | 0=>0
  | k+1=>if hasV b (cmp3 a k) then besN a b k+1 else besN a b k
def besB (a b:P3):Bool:=decide (besN a b 3≥2)
def bs15 (l:List P3) (p q:Int):Bool:=besB (tg l p.toNat) (tg l q.toNat)
def fan15 (l:List P3) (v:Int):Int×Int:=((inL l v l.length).length,if (inL l v l.length).length=0 then 0 else (fsS (bs15 l) (inL l v l.length) l.length (inL l v l.length).length).2)
theorem besN_s (a b:P3) (k:Nat):besN a b (k+1)=if hasV b (cmp3 a k) then besN a b k+1 else besN a b k:=rfl
theorem besN_le (a b:P3): ∀ k:Nat,0≤besN a b k∧besN a b k≤k
  | 0=>⟨Int.le_refl _,Int.le_refl _⟩
  | k+1=>by
    have:=besN_le a b k
    rw [besN_s];split<;>omega
theorem bes_iff {a b:P3} (hd: ¬ dgn a) {v:Int} (h1:hasV a v) (h2:hasV b v):besB a b=true↔∃ w,w≠v∧hasV a w∧hasV b w:=by
  unfold besB
  rw [decide_eq_true_eq,besN_s,besN_s,besN_s]
  obtain ⟨x,y,z⟩:=a
  unfold dgn at hd
  simp only [cmp3,List.getD_cons_zero,List.getD_cons_succ,besN] at *
  have hv:hasV (x,y,z) v↔(x=v∨y=v∨z=v):=Iff.rfl
  constructor
  · intro h
    have key: ∀ w,(x=w∨y=w∨z=w)→hasV b w→w≠v→∃ w,w≠v∧hasV (x,y,z) w∧hasV b w:=fun w hw hb hn=>⟨w,hn,hw,hb⟩
    by_cases b1:hasV b x<;>by_cases b2:hasV b y<;>by_cases b3:hasV b z<;>simp only [b1,b2,b3,if_true,if_false] at h<;>first
      | omega
      | (by_cases e:x=v
         · exact key y (.inr (.inl rfl)) b2 (by omega)
         · exact key x (.inl rfl) b1 e)
      | (by_cases e:x=v
         · exact key z (.inr (.inr rfl)) b3 (by omega)
         · exact key x (.inl rfl) b1 e)
      | (by_cases e:y=v
         · exact key z (.inr (.inr rfl)) b3 (by omega)
         · exact key y (.inr (.inl rfl)) b2 e)
  · rintro ⟨w,w1,w2,w3⟩
    have w2:x=w∨y=w∨z=w:=w2
    have h1:=hv.1 h1
    have c1: ∀ u,u=v∨u=w→hasV b u:=fun u hu=>by rcases hu with e | e<;>(rw [e];assumption)
    by_cases b1:hasV b x<;>by_cases b2:hasV b y<;>by_cases b3:hasV b z<;>simp only [b1,b2,b3,if_true,if_false]<;>first
      | omega
      | (exfalso
         have k1: ¬ (x=v∨x=w):=fun k=>(by first | exact absurd (c1 _ k) b1 | exact (by assumption:False))
         omega)
      | (exfalso
         by_cases k1:x=v∨x=w
         · by_cases k2:y=v∨y=w
           · first | exact b1 (c1 _ k1) | exact b2 (c1 _ k2)
           · by_cases k3:z=v∨z=w
             · first | exact b1 (c1 _ k1) | exact b3 (c1 _ k3)
             · omega
         · by_cases k2:y=v∨y=w
           · by_cases k3:z=v∨z=w
             · first | exact b2 (c1 _ k2) | exact b3 (c1 _ k3)
             · omega
           · omega)
theorem inL_get {l:List P3} {v:Int} {k:Nat} (hk:k<(inL l v l.length).length):0≤(inL l v l.length).getD k 0∧((inL l v l.length).getD k 0).toNat<l.length∧hasV (tg l ((inL l v l.length).getD k 0).toNat) v:=by
  obtain ⟨j,hj,h,e⟩:=inL_mem.1 (getD_mem hk)
  rw [e]
  exact ⟨by omega,by omega,h⟩
theorem fan_ok {l:List P3} (hd: ∀ i,i<l.length→¬ dgn (tg l i)) {v:Int} (hne:0<(inL l v l.length).length):(fan15 l v).1=(fan15 l v).2↔PinP l v:=by
  have e:(fan15 l v).2=(fsS (bs15 l) (inL l v l.length) l.length (inL l v l.length).length).2:=if_neg (by omega)
  rw [e]
  have hc:=fan_conn (bs:=bs15 l) (L:=inL l v l.length) (n:=l.length) inL_rng (inL_nodup l v _) hne
  have hc:(fan15 l v).1=(fsS (bs15 l) (inL l v l.length) l.length (inL l v l.length).length).2↔_:=⟨fun h=>hc.1 h.symm,fun h=>(hc.2 h).symm⟩
  rw [hc]
  have rel: ∀ i j:Nat,i<l.length→hasV (tg l i) v→hasV (tg l j) v→(bs15 l (i:Int) (j:Int)=true↔∃ w,w≠v∧hasV (tg l i) w∧hasV (tg l j) w):=fun i j hi h1 h2=>by
    unfold bs15
    exact bes_iff (hd i hi) h1 h2
  obtain ⟨z,hz,hzv,ez⟩:=inL_mem.1 (getD_mem hne)
  constructor
  · intro h Q hQ a ha hav hqa i hi hiv
    have go: ∀ R:Nat→Prop,(∀ i j:Nat,i<l.length→j<l.length→hasV (tg l i) v→hasV (tg l j) v→(∃ w:Int,w≠v∧hasV (tg l i) w∧hasV (tg l j) w)→R i→R j)→R z→∀ i,i<l.length→hasV (tg l i) v→R i:=fun R hR h0 i hi hiv=>by
      have:=h (fun x=>R x.toNat) (fun x hx y hy b q=>by
        obtain ⟨p,hp,hpv,rfl⟩:=inL_mem.1 hx
        obtain ⟨s,hs,hsv,rfl⟩:=inL_mem.1 hy
        exact hR p s hp hs hpv hsv ((rel p s hp hpv hsv).1 b) q) (by rw [ez];exact h0) (i:Int) (inL_mem.2 ⟨i,hi,hiv,rfl⟩)
      exact this
    by_cases hqz:Q z
    · exact go Q hQ hqz i hi hiv
    · exact absurd hqa (go (fun k=> ¬ Q k) (fun i j hi hj h1 h2 ⟨w,w1,w2,w3⟩ hn hq=>hn (hQ j i hj hi h2 h1 ⟨w,w1,w3,w2⟩ hq)) hqz a ha hav)
  · intro h Q hQ h0 x hx
    obtain ⟨i,hi,hiv,rfl⟩:=inL_mem.1 hx
    rw [ez] at h0
    exact h (fun k=>Q (k:Int)) (fun p q hp hq h1 h2 hw hqp=>hQ _ (inL_mem.2 ⟨p,hp,h1,rfl⟩) _ (inL_mem.2 ⟨q,hq,h2,rfl⟩) ((rel p q hp h1 h2).2 hw) hqp) z hz hzv h0 i hi hiv
def shE (t u:P3) (p q:Nat):Prop:=cmp3 t p=cmp3 u q∧cmp3 t ((p+1) % 3)=cmp3 u ((q+1) % 3)
def PairOk (t u:P3):Prop:=(∀ p q,p<3→q<3→¬ shE t u p q)∧besN t u 3≠3
theorem dE_cmp {t:P3} {a b:Int} :dE t a b↔∃ p,p<3∧cmp3 t p=a∧cmp3 t ((p+1) % 3)=b:=by
  constructor
  · rintro (⟨h1,h2⟩ | ⟨h1,h2⟩ | ⟨h1,h2⟩)
    · exact ⟨0,by omega,h1,h2⟩
    · exact ⟨1,by omega,h1,h2⟩
    · exact ⟨2,by omega,h1,h2⟩
  · rintro ⟨p,hp,h1,h2⟩
    have:p=0∨p=1∨p=2:=by omega
    rcases this with e | e | e<;>subst e
    · exact .inl ⟨h1,h2⟩
    · exact .inr (.inl ⟨h1,h2⟩)
    · exact .inr (.inr ⟨h1,h2⟩)
theorem bes3 (t u:P3):besN t u 3=3↔hasV u t.1∧hasV u t.2.1∧hasV u t.2.2:=by
  rw [besN_s,besN_s,besN_s]
  have e0:cmp3 t 0=t.1:=rfl
  have e1:cmp3 t 1=t.2.1:=rfl
  have e2:cmp3 t 2=t.2.2:=rfl
  rw [e0,e1,e2]
  show (if _ then (if _ then (if _ then (0:Int)+1 else 0)+1 else _)+1 else _)=3↔_
  by_cases b1:hasV u t.1<;>by_cases b2:hasV u t.2.1<;>by_cases b3:hasV u t.2.2<;>simp [b1,b2,b3,besN]
theorem sub_tri {t u:P3} (h1: ¬ dgn t) (h2: ¬ dgn u) (h:hasV u t.1∧hasV u t.2.1∧hasV u t.2.2):hasV t u.1∧hasV t u.2.1∧hasV t u.2.2:=by
  obtain ⟨x,y,z⟩:=t
  obtain ⟨p,q,r⟩:=u
  unfold hasV at *
  unfold dgn at *
  simp only at *
  omega
theorem surf_of15 {s:Int×List P3} (hf:fitS s) (hd: ∀ i,i<s.2.length→¬ dgn (tg s.2 i)) (hp: ∀ i k,k<i→i<s.2.length→PairOk (tg s.2 i) (tg s.2 k)) (hv: ∀ v:Nat,(v:Int)<s.1→(fan15 s.2 v).1≠0∧(fan15 s.2 v).1=(fan15 s.2 v).2):Surf s:=by
  refine ⟨hf,hd,fun i j hij hj a b k1 k2=> ?_,fun i j hij hj hh=> ?_,fun v hv'=> ?_,fun v hv'=> ?_⟩
  · obtain ⟨p,hp3,e1,e2⟩:=dE_cmp.1 k1
    obtain ⟨q,hq3,e3,e4⟩:=dE_cmp.1 k2
    exact (hp j i hij hj).1 q p hq3 hp3 ⟨e3.trans e1.symm,e4.trans e2.symm⟩
  · refine (hp j i hij hj).2 ((bes3 _ _).2 ?_)
    exact sub_tri (hd i (by omega)) (hd j hj) hh
  · have:=(hv v hv').1
    have:0<(inL s.2 v s.2.length).length:=by
      have e:(fan15 s.2 v).1=((inL s.2 v s.2.length).length:Int):=rfl
      omega
    obtain ⟨j,hj,h,_⟩:=inL_mem.1 (getD_mem this)
    exact ⟨j,hj,h⟩
  · have h1:=(hv v hv').1
    have:0<(inL s.2 v s.2.length).length:=by
      have e:(fan15 s.2 v).1=((inL s.2 v s.2.length).length:Int):=rfl
      omega
    exact (fan_ok hd this).1 (hv v hv').2
theorem surf_pair {s:Int×List P3} (h:Surf s) {i k:Nat} (hki:k<i) (hi:i<s.2.length):PairOk (tg s.2 i) (tg s.2 k):=by
  refine ⟨fun p q hp hq hh=> ?_,fun hh=> ?_⟩
  · exact h.dif k i hki hi _ _ (dE_cmp.2 ⟨q,hq,rfl,rfl⟩) (dE_cmp.2 ⟨p,hp,hh.1,hh.2⟩)
  · exact h.mir k i hki hi (sub_tri (h.deg i hi) (h.deg k (by omega)) ((bes3 _ _).1 hh))
theorem surf_fan {s:Int×List P3} (h:Surf s) {v:Nat} (hv:(v:Int)<s.1):(fan15 s.2 v).1≠0∧(fan15 s.2 v).1=(fan15 s.2 v).2:=by
  obtain ⟨j,hj,hjv⟩:=h.use v hv
  have hm:(j:Int)∈inL s.2 v s.2.length:=inL_mem.2 ⟨j,hj,hjv,rfl⟩
  have:0<(inL s.2 v s.2.length).length:=List.length_pos_of_mem hm
  refine ⟨?_,(fan_ok h.deg this).2 (h.pin v hv)⟩
  have e:(fan15 s.2 v).1=((inL s.2 v s.2.length).length:Int):=rfl
  omega
end S1
open Go Go.Vm Go.Proofs
namespace S1
@[irreducible] def hasB (t:P3) (v:Int):Bool:=decide (hasV t v)
theorem hasB_iff {t:P3} {v:Int} :hasB t v=true↔hasV t v:=by unfold hasB;exact decide_eq_true_iff
theorem hasB_no {t:P3} {v:Int} :hasB t v=false↔¬ hasV t v:=by rw [← hasB_iff];simp
theorem has15_vc {fn} (t:P3) (v:Int):afun ⟨tyL,fn,[]⟩ Tryz.f37 [ETy.arr3.av t,i64E.av v] (fun r=>r= .s (.bool (hasB t v))):=by
  repeat' (conv=>whnf
           first | done | refine qN (by first | rfl | omega | (simp only [i64ok] at *;omega)) ?_ | apply qH | refine qG fun _=> ?_ | apply qB | apply qa | apply qo | refine qe (fun _=> ?_) (fun _=> ?_) | refine qn (fun _=> ?_) (fun _=> ?_) | refine qd (fun _=> ?_) (fun _=> ?_) | apply qt | refine qi (fun _=> ?_) (fun _=> ?_) | refine And.intro rfl ?_ | apply qE | apply qO | exact True.intro | apply qq | apply qs | refine qK (by kernel_rfl) ?_ | apply qr)
  all_goals try first | apply qz1 | apply qz2 | apply qz3 | apply qz4 | apply qz5 | apply qz6 | apply qz7 | apply qz8 | apply qz9 | apply qz0
  all_goals try simp only [take_one,take_one',set_one,take_all,qn1,rec_self,qn2,pair_eta,ETy.dflt,qn3,qn4,Int.reduceToNat,Int.reduceAdd,Int.reduceSub,Int.reduceNeg,Nat.reduceAdd,Nat.zero_add] at *
  all_goals (rw [Bool.eq_iff_iff,hasB_iff];unfold hasV;simp [*])
def has15C:List AV→Option Res:=con2 .arr3 i64E (fun t v=>some (none,none,.s (.bool (hasB t v))))
theorem has15Row:FnRow Tryz.prog 37 has15C:=⟨con2_ok fun t v r h=>by cases h;exact fn_by (rulesF (fn:=[]) (fr:=[]) trivial trivial) Tryz.func37 (by kernel_rfl) fun _ _=>has15_vc t v,_,Tryz.func37,by kernel_rfl,by kernel_rfl⟩
theorem cmp3_is (t:P3) (k:Nat):[t.1,t.2.1,t.2.2].getD k 0=cmp3 t k:=rfl
theorem tmX (x:Nat):(((x:Int)+1).tmod 3).toNat=(x+1) % 3:=by rw [Int.tmod_eq_emod_of_nonneg (by omega)];omega
def loopBes (a b:P3):Spec Nat where
  inv k:=k≤3
  live k:=[(6,.s (.int .i64 k)),(5,.s (.int .i64 (besN a b k)))]
  keep:=[2,3]
  heap _:=[]
  keepH:=[0,1]
  mu k:=3 - k
theorem besN_0 (a b:P3):besN a b 0=0:=rfl
attribute [local irreducible] besN
theorem bes15_vc (a b:P3):afun ⟨tyL,[(37,has15C)],[]⟩ Tryz.f95 [ETy.arr3.av a,ETy.arr3.av b] (fun r=>r= .s (.bool (besB a b))):=by
  repeat' (conv=>whnf
           first | done | refine qN (by first | rfl | omega | (simp only [i64ok] at *;omega)) ?_ | apply qH | refine qG fun _=> ?_ | apply qB | apply qa | apply qo | refine qe (fun _=> ?_) (fun _=> ?_) | refine qn (fun _=> ?_) (fun _=> ?_) | refine qd (fun _=> ?_) (fun _=> ?_) | apply qt | refine qi (fun _=> ?_) (fun _=> ?_) | (refine atReg 3 rfl ?_;refine Or.inr (Exists.intro (Nat) (Exists.intro (loopBes a b) (And.intro (Exists.intro (0) (And.intro (Hold.out ?_) (And.intro ?_ (And.intro ?_ rfl)))) (fun k hk=> ?_))))) | ((with_reducible show (∃ y,And (Spec.inv (loopBes _ _) y) _));refine Exists.intro (k+1) (And.intro (Hold.out ?_) (And.intro (And.intro ?_ (And.intro ?_ rfl)) (Hold.out ?_)))) | refine And.intro rfl ?_ | apply qE | apply qO | exact True.intro | apply qq | apply qs | refine qK (by kernel_rfl) ?_ | apply qr)
  all_goals try first | apply qz1 | apply qz2 | apply qz3 | apply qz4 | apply qz5 | apply qz6 | apply qz7 | apply qz8 | apply qz9 | apply qz0
  all_goals try simp only [take_one,take_one',set_one,take_all,qn1,rec_self,qn2,pair_eta,ETy.dflt,qn3,qn4,Int.reduceToNat,Int.reduceAdd,Int.reduceSub,Int.reduceNeg,Nat.reduceAdd,Nat.zero_add,loopBes,cmp3_is,besB,tmX] at *
  all_goals try exact besN_0 a b
  all_goals try exact Hold.intro (Nat.zero_le _)
  all_goals try (rw [besN_0];done)
  all_goals try (rw [besN_0];rfl)
  all_goals try exact besN_0 _ _
  all_goals try exact (besN_0 _ _).symm
  all_goals have hN:=besN_le a b k
  all_goals try (refine Hold.intro ?_;omega)
  all_goals try (refine Hold.intro ?_;unfold i64ok;omega)
  all_goals try (rw [besN_s,if_pos (hasB_iff.1 (by assumption))];done)
  all_goals try (rw [besN_s,if_neg (hasB_no.1 (by assumption))];done)
  all_goals (rw [show k=3 by omega])
def bes15C:List AV→Option Res:=con2 .arr3 .arr3 (fun a b=>some (none,none,.s (.bool (besB a b))))
theorem bes15Row:FnRow Tryz.prog 95 bes15C:=⟨con2_ok fun a b r h=>by cases h;exact fn_by (rulesF (fn:=[(37,has15C)]) (fr:=[]) ⟨has15Row,trivial⟩ trivial) Tryz.func95 (by kernel_rfl) fun _ _=>bes15_vc a b,_,Tryz.func95,by kernel_rfl,by kernel_rfl⟩
theorem inL_0 (l:List P3) (v:Int):inL l v 0=[]:=rfl
theorem inL_yes {l:List P3} {v:Int} {i:Nat} (h:hasB (l.getD i (0,0,0)) v=true):inL l v (i+1)=inL l v i++[(i:Int)]:=by
  have h:hasV (tg l i) v:=hasB_iff.1 h
  rw [inL_succ];unfold inG;rw [if_pos h];rfl
theorem inL_no {l:List P3} {v:Int} {i:Nat} (h:hasB (l.getD i (0,0,0)) v=false):inL l v (i+1)=inL l v i:=by
  have h: ¬ hasV (tg l i) v:=hasB_no.1 h
  rw [inL_succ];unfold inG;rw [if_neg h];exact List.append_nil _
theorem fsS_02 (bs:Int→Int→Bool) (L:List Int) (n:Nat):(fsS bs L n 0).2=1:=rfl
theorem fsS_01 (bs:Int→Int→Bool) (L:List Int) (n:Nat):(fsS bs L n 0).1=(List.replicate n false).set (L.getD 0 0).toNat true:=rfl
theorem irec_z {X:Type} (f:X→Nat→X) (s:X):irec f s 0=s:=rfl
theorem fsI_s (bs:Int→Int→Bool) (L:List Int) (S:FsT) (p:Nat):irec (fsI bs L) S (p+1)=irec (fsK bs L p) (irec (fsI bs L) S p) L.length:=rfl
theorem fsS_s (bs:Int→Int→Bool) (L:List Int) (n r:Nat):fsS bs L n (r+1)=irec (fsI bs L) (fsS bs L n r) L.length:=rfl
theorem fan15_0 {l:List P3} {v:Int} (h:(inL l v l.length).length=0):fan15 l v=(0,0):=by
  unfold fan15;rw [if_pos h,h];rfl
theorem fan15_n {l:List P3} {v:Int} (h:(inL l v l.length).length≠0):fan15 l v=(((inL l v l.length).length:Int),(fsS (bs15 l) (inL l v l.length) l.length (inL l v l.length).length).2):=by
  unfold fan15;rw [if_neg h]
attribute [local irreducible] inL besB
def loopFa (l:List P3) (v:Int):Spec Nat where
  inv i:=i≤l.length
  live i:=[(7,.s (.int .i64 i)),(6,.s (.own 1 0 (inL l v i).length))]
  keep:=[1,2,4,5]
  heap i:=[(1,.row i64E 3 (inL l v i))]
  keepH:=[0]
  mu i:=l.length - i
def loopFb (l:List P3) (L:List Int):Spec Nat where
  inv r:=r≤L.length
  live r:=[(10,.s (.int .i64 r)),(9,.s (.int .i64 (fsS (bs15 l) L l.length r).2))]
  keep:=[1,2,4,5,6,8]
  heap r:=[(2,.row .bool 4 (fsS (bs15 l) L l.length r).1)]
  keepH:=[0,1]
  mu r:=L.length - r
def loopFc (l:List P3) (L:List Int) (r:Nat):Spec Nat where
  inv i:=i≤L.length
  live i:=[(11,.s (.int .i64 i)),(9,.s (.int .i64 (irec (fsI (bs15 l) L) (fsS (bs15 l) L l.length r) i).2))]
  keep:=[1,2,4,5,6,8,10]
  heap i:=[(2,.row .bool 4 (irec (fsI (bs15 l) L) (fsS (bs15 l) L l.length r) i).1)]
  keepH:=[0,1]
  mu i:=L.length - i
def loopFd (l:List P3) (L:List Int) (r i:Nat):Spec Nat where
  inv k:=k≤L.length
  live k:=[(12,.s (.int .i64 k)),(9,.s (.int .i64 (irec (fsK (bs15 l) L i) (irec (fsI (bs15 l) L) (fsS (bs15 l) L l.length r) i) k).2))]
  keep:=[1,2,4,5,6,8,10,11]
  heap k:=[(2,.row .bool 4 (irec (fsK (bs15 l) L i) (irec (fsI (bs15 l) L) (fsS (bs15 l) L l.length r) i) k).1)]
  keepH:=[0,1]
  mu k:=L.length - k
theorem fsD_yes {bs:Int→Int→Bool} {L:List Int} {i k:Nat} {S:FsT} (h1:(irec (fsK bs L i) S k).1.getD (L.getD i 0).toNat false=true) (h2:(irec (fsK bs L i) S k).1.getD (L.getD k 0).toNat false=false) (h3:bs (L.getD i 0) (L.getD k 0)=true) :
    irec (fsK bs L i) S (k+1)=((irec (fsK bs L i) S k).1.set (L.getD k 0).toNat true,(irec (fsK bs L i) S k).2+1):=if_pos ⟨h1,h2,h3⟩
theorem fsD_no {bs:Int→Int→Bool} {L:List Int} {i k:Nat} {S:FsT} (h:(irec (fsK bs L i) S k).1.getD (L.getD i 0).toNat false=false∨(irec (fsK bs L i) S k).1.getD (L.getD k 0).toNat false=true∨bs (L.getD i 0) (L.getD k 0)=false) :
    irec (fsK bs L i) S (k+1)=irec (fsK bs L i) S k:=if_neg (by
  rintro ⟨h1,h2,h3⟩
  rcases h with h | h | h
  · rw [h] at h1;cases h1
  · rw [h] at h2;cases h2
  · rw [h] at h3;cases h3)
attribute [local irreducible] fsS irec
theorem fan15_vc (n:Int) (l:List P3) (v:Int) (hl:l.length≤8192):afun ⟨tyL,[(37,has15C),(95,bes15C)],[]⟩ Tryz.f63 [soupE.av (n,l),i64E.av v] (fun r=>r= .tup [.s (.int .i64 (fan15 l v).1),.s (.int .i64 (fan15 l v).2)]):=by
  repeat' (conv=>whnf
           first | done | refine qN (by first | rfl | omega | (simp only [i64ok] at *;omega)) ?_ | apply qH | refine qG fun _=> ?_ | apply qB | apply qa | apply qo | refine qe (fun _=> ?_) (fun _=> ?_) | refine qn (fun _=> ?_) (fun _=> ?_) | refine qd (fun _=> ?_) (fun _=> ?_) | apply qt | refine qi (fun _=> ?_) (fun _=> ?_) | (refine atReg 3 rfl ?_;refine Or.inr (Exists.intro (Nat) (Exists.intro (loopFa l v) (And.intro (Exists.intro (0) (And.intro (Hold.out ?_) (And.intro ?_ (And.intro ?_ rfl)))) (fun i hi=> ?_))))) | ((with_reducible show (∃ y,And (Spec.inv (loopFa _ _) y) _));refine Exists.intro (i+1) (And.intro (Hold.out ?_) (And.intro (And.intro ?_ (And.intro ?_ rfl)) (Hold.out ?_)))) | (refine atReg 13 rfl ?_;refine Or.inr (Exists.intro (Nat) (Exists.intro (loopFb l (inL l v l.length)) (And.intro (Exists.intro (0) (And.intro (Hold.out ?_) (And.intro ?_ (And.intro ?_ rfl)))) (fun r hr=> ?_))))) | ((with_reducible show (∃ y,And (Spec.inv (loopFb _ _) y) _));refine Exists.intro (r+1) (And.intro (Hold.out ?_) (And.intro (And.intro ?_ (And.intro ?_ rfl)) (Hold.out ?_)))) | (refine atReg 16 rfl ?_;refine Or.inr (Exists.intro (Nat) (Exists.intro (loopFc l (inL l v l.length) r) (And.intro (Exists.intro (0) (And.intro (Hold.out ?_) (And.intro ?_ (And.intro ?_ rfl)))) (fun p hp=> ?_))))) | ((with_reducible show (∃ y,And (Spec.inv (loopFc _ _ _) y) _));refine Exists.intro (p+1) (And.intro (Hold.out ?_) (And.intro (And.intro ?_ (And.intro ?_ rfl)) (Hold.out ?_)))) | (refine atReg 19 rfl ?_;refine Or.inr (Exists.intro (Nat) (Exists.intro (loopFd l (inL l v l.length) r p) (And.intro (Exists.intro (0) (And.intro (Hold.out ?_) (And.intro ?_ (And.intro ?_ rfl)))) (fun q hq=> ?_))))) | ((with_reducible show (∃ y,And (Spec.inv (loopFd _ _ _ _) y) _));refine Exists.intro (q+1) (And.intro (Hold.out ?_) (And.intro (And.intro ?_ (And.intro ?_ rfl)) (Hold.out ?_)))) | refine And.intro rfl ?_ | apply qE | apply qO | exact True.intro | apply qq | apply qs | refine qK (by kernel_rfl) ?_ | apply qr)
  all_goals try first | apply qz1 | apply qz2 | apply qz3 | apply qz4 | apply qz5 | apply qz6 | apply qz7 | apply qz8 | apply qz9 | apply qz0
  all_goals try simp only [take_one,take_one',set_one,take_all,qn1,rec_self,qn2,pair_eta,ETy.dflt,qn3,qn4,Int.reduceToNat,Int.reduceAdd,Int.reduceSub,Int.reduceNeg,Nat.reduceAdd,Nat.zero_add,loopFa,loopFb,loopFc,loopFd] at *
  all_goals try exact Hold.intro (Nat.zero_le _)
  all_goals try (rw [inL_0];done)
  all_goals try (rw [inL_0];rfl)
  all_goals have hle:=inL_len l v i
  all_goals try (refine Hold.intro ?_;omega)
  all_goals try (rw [inL_yes (by assumption)];first | done | exact List.length_append)
  all_goals try (rw [inL_no (by assumption)];done)
  all_goals have ei:i=l.length:=by omega
  all_goals subst ei
  all_goals have hg:=fun k (hk:k<(inL l v l.length).length)=>inL_get (l:=l) (v:=v) hk
  all_goals have hrg:=inL_rng (l:=l) (v:=v) (n:=l.length)
  all_goals try
    have h0:((inL l v l.length).length:Int)=0:=by assumption
    rw [fan15_0 (show (inL l v l.length).length=0 by omega)]
    exact HoldEq.intro rfl
  all_goals have hne : (inL l v l.length).length ≠ 0 := by have h0:((inL l v l.length).length:Int)≠0:=by assumption
                                                           omega
  all_goals try exact fsS_02 _ _ _
  all_goals try exact fsS_01 _ _ _
  all_goals try (rw [irec_z];done)
  all_goals try (have h:=hg 0 (by omega);refine Hold.intro (And.intro ?_ ?_)<;>omega)
  all_goals try
    have hr1:r=(inL l v l.length).length:=by omega
    rw [fan15_n hne,hr1]
    exact HoldEq.intro rfl
  all_goals try
    have hp1:p=(inL l v l.length).length:=by omega
    rw [fsS_s,hp1];done
  all_goals try
    have hq1:q=(inL l v l.length).length:=by omega
    rw [fsI_s,hq1];done
  all_goals (have kp:=hg p (by omega);have kq:=hg q (by omega))
  all_goals try (refine Hold.intro (And.intro ?_ ?_)<;>omega)
  all_goals have hS:=FsOk.r (bs:=bs15 l) hrg (by omega) r
  all_goals have hS:=FsOk.i (bs:=bs15 l) hrg hS p (by omega)
  all_goals have hS:=(FsOk.k (bs:=bs15 l) hrg hS (i:=p) (by omega) q (by omega)).le
  all_goals try (refine Hold.intro ?_;unfold i64ok;omega)
  all_goals try (refine Hold.intro ?_;omega)
  all_goals first
    | (rw [fsD_yes (by assumption) (by assumption) (by assumption)];done)
    | (rw [fsD_no (.inl (by assumption))];done)
    | (rw [fsD_no (.inr (.inl (by assumption)))];done)
    | (rw [fsD_no (.inr (.inr (by assumption)))];done)
def fan15C:List AV→Option Res:=con2 soupE i64E (fun s v=>some (none,some (s.2.length≤8192),.tup [.s (.int .i64 (fan15 s.2 v).1),.s (.int .i64 (fan15 s.2 v).2)]))
theorem fan15Row:FnRow Tryz.prog 63 fan15C:=⟨con2_ok fun s v r h=>by cases h;exact fn_by (rulesF (fn:=[(37,has15C),(95,bes15C)]) (fr:=[]) ⟨has15Row,bes15Row,trivial⟩ trivial) Tryz.func63 (by kernel_rfl) fun _ h=>fan15_vc s.1 s.2 v h,_,Tryz.func63,by kernel_rfl,by kernel_rfl⟩
end S1
