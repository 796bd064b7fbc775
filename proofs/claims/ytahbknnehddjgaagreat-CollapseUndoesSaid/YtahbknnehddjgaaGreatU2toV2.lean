/- A part of the proofs of the laws. -/
import Derived.Test.YtahbknnehddjgaaGreatY6toF8
import Derived.Test.YtahbknnehddjgaaGreatT17toW1
import Derived.Test.YtahbknnehddjgaaGreatF7toW5p
set_option linter.unusedSimpArgs false
set_option linter.unusedVariables false
set_option maxHeartbeats 8000000
set_option maxRecDepth 100000
open Go Go.Vm Go.Proofs
namespace S1
end S1
open Go Go.Vm Go.Proofs
namespace S1
abbrev nx (x:tabE.T) (u:Int):Int:=nxt (behO (some x)) u
structure LoopOk (x:tabE.T) (L:List Int):Prop where
  ne:0<L.length
  cyc: ∀ i,i<L.length→bE x (L.getD ((i+1) % L.length) 0) (L.getD i 0)
  nd:L.Nodup
theorem mem_getD {L:List Int} {u:Int} (h:u∈L): ∃ i,i<L.length∧L.getD i 0=u:=by
  obtain ⟨i,hi,e⟩:=List.mem_iff_getElem.1 h
  exact ⟨i,hi,by rw [gdE,gE hi];exact e⟩
section
variable {x:tabE.T}
theorem LoopOk.next {L:List Int} (h:LoopOk x L) (g:Full x) {u:Int} (hu:u∈L):nx x u∈L:=by
  obtain ⟨i,hi,e⟩:=mem_getD hu
  have:=h.cyc i hi
  rw [e] at this
  show nxt (behO (some x)) u∈L
  rw [nxt_is g this]
  exact getD_mem (Nat.mod_lt _ h.ne)
end
end S1
open Go Go.Vm Go.Proofs
namespace S1
theorem next10_vc {fn} (c:Int) (h:0≤c∧c≤100000):afun ⟨tyL,fn,[]⟩ Tryz.f122 [i64E.av c] (fun r=>r= .s (.int .i64 (trn c 1))):=by
  repeat' (conv=>whnf
           first | done | refine qN (by first | rfl | omega | (simp only [i64ok] at *;omega)) ?_ | apply qH | refine qG fun _=> ?_ | apply qB | apply qa | apply qo | refine qe (fun _=> ?_) (fun _=> ?_) | refine qn (fun _=> ?_) (fun _=> ?_) | refine qd (fun _=> ?_) (fun _=> ?_) | apply qt | refine qi (fun _=> ?_) (fun _=> ?_) | refine And.intro rfl ?_ | apply qE | apply qO | exact True.intro | apply qq | apply qs | refine qK (by kernel_rfl) ?_ | apply qr)
  all_goals try first | apply qz1 | apply qz2 | apply qz3 | apply qz4 | apply qz5 | apply qz6 | apply qz7 | apply qz8 | apply qz9 | apply qz0
  all_goals try simp only [take_one,take_one',set_one,take_all,qn1,rec_self,qn2,pair_eta,ETy.dflt,qn3,qn4,Int.reduceToNat,Int.reduceAdd,Int.reduceSub,Int.reduceNeg,Nat.reduceAdd,Nat.zero_add] at *
  all_goals try (refine qh ?_;unfold i64ok;omega)
  all_goals (have e:=tm3 h.1;unfold trn;omega)
def next10C:List AV→Option Res:=con1 i64E (fun c=>some (none,some (0≤c∧c≤100000),.s (.int .i64 (trn c 1))))
theorem next10Row:FnRow Tryz.prog 122 next10C:=⟨con1_ok fun c r h=>by cases h;exact fn_by (rulesF (fn:=[]) (fr:=[]) trivial trivial) Tryz.func122 (by kernel_rfl) fun _ h=>next10_vc c h,_,Tryz.func122,by kernel_rfl,by kernel_rfl⟩
theorem prev10_vc {fn} (c:Int) (h:0≤c∧c≤100000):afun ⟨tyL,fn,[]⟩ Tryz.f123 [i64E.av c] (fun r=>r= .s (.int .i64 (trn c 2))):=by
  repeat' (conv=>whnf
           first | done | refine qN (by first | rfl | omega | (simp only [i64ok] at *;omega)) ?_ | apply qH | refine qG fun _=> ?_ | apply qB | apply qa | apply qo | refine qe (fun _=> ?_) (fun _=> ?_) | refine qn (fun _=> ?_) (fun _=> ?_) | refine qd (fun _=> ?_) (fun _=> ?_) | apply qt | refine qi (fun _=> ?_) (fun _=> ?_) | refine And.intro rfl ?_ | apply qE | apply qO | exact True.intro | apply qq | apply qs | refine qK (by kernel_rfl) ?_ | apply qr)
  all_goals try first | apply qz1 | apply qz2 | apply qz3 | apply qz4 | apply qz5 | apply qz6 | apply qz7 | apply qz8 | apply qz9 | apply qz0
  all_goals try simp only [take_one,take_one',set_one,take_all,qn1,rec_self,qn2,pair_eta,ETy.dflt,qn3,qn4,Int.reduceToNat,Int.reduceAdd,Int.reduceSub,Int.reduceNeg,Nat.reduceAdd,Nat.zero_add] at *
  all_goals try (refine qh ?_;unfold i64ok;omega)
  all_goals (have e:=tm3 h.1;unfold trn;omega)
def prev10C:List AV→Option Res:=con1 i64E (fun c=>some (none,some (0≤c∧c≤100000),.s (.int .i64 (trn c 2))))
theorem prev10Row:FnRow Tryz.prog 123 prev10C:=⟨con1_ok fun c r h=>by cases h;exact fn_by (rulesF (fn:=[]) (fr:=[]) trivial trivial) Tryz.func123 (by kernel_rfl) fun _ h=>prev10_vc c h,_,Tryz.func123,by kernel_rfl,by kernel_rfl⟩
theorem has_le {x:tabE.T} (g:Good x) {c:Int} (hc:tHas x c=true):0≤c∧c≤30000:=by
  have:=tHas_iff.1 hc
  have h2:x.1.2.length≤8192:=g.fit.2.2.1
  omega
theorem vertex10_vc {fn} (n:Int) (l:List P3) (c:Int) (x:tabE.T) (h:(n,l)=x.1∧Good x∧tHas x c=true):afun ⟨tyL,fn,[]⟩ Tryz.f68 [soupE.av (n,l),i64E.av c] (fun r=>r= .s (.int .i64 (tVert x c))):=by
  obtain ⟨hx,g,hc⟩:=h
  have hl:=has_le g hc
  have h1:=tHas_iff.1 hc
  have el:x.1.2=l:=(congrArg Prod.snd hx).symm
  rw [el] at h1
  have hv:=tVert_t (x:=x) hl.1 (by rw [el];exact h1.2)
  rw [el] at hv
  have e3:=td3 hl.1
  have m3:=tm3 hl.1
  repeat' (conv=>whnf
           first | done | refine qN (by first | rfl | omega | (simp only [i64ok] at *;omega)) ?_ | apply qH | refine qG fun _=> ?_ | apply qB | apply qa | apply qo | refine qe (fun _=> ?_) (fun _=> ?_) | refine qn (fun _=> ?_) (fun _=> ?_) | refine qd (fun _=> ?_) (fun _=> ?_) | apply qt | refine qi (fun _=> ?_) (fun _=> ?_) | refine And.intro rfl ?_ | apply qE | apply qO | exact True.intro | apply qq | apply qs | refine qK (by kernel_rfl) ?_ | apply qr)
  all_goals try first | apply qz1 | apply qz2 | apply qz3 | apply qz4 | apply qz5 | apply qz6 | apply qz7 | apply qz8 | apply qz9 | apply qz0
  all_goals try simp only [take_one,take_one',set_one,take_all,qn1,rec_self,qn2,pair_eta,ETy.dflt,qn3,qn4,Int.reduceToNat,Int.reduceAdd,Int.reduceSub,Int.reduceNeg,Nat.reduceAdd,Nat.zero_add] at *
  all_goals try rw [e3]
  all_goals try rw [m3]
  all_goals try (refine qh ?_;unfold i64ok;omega)
  all_goals try (refine qh ?_;omega)
  rw [hv]
  exact p3_get _ _ (by omega) (by omega)
def vertex10C (x:tabE.T):List AV→Option Res:=con2 soupE i64E (fun s c=>some (none,some (s=x.1∧Good x∧tHas x c=true),.s (.int .i64 (tVert x c))))
theorem vertex10Row (x:tabE.T):FnRow Tryz.prog 68 (vertex10C x):=⟨con2_ok fun s c r h=>by
  cases h;exact fn_by (rulesF (fn:=[]) (fr:=[]) trivial trivial) Tryz.func68 (by kernel_rfl) fun _ h=>vertex10_vc s.1 s.2 c x h,_,Tryz.func68,by kernel_rfl,by kernel_rfl⟩
theorem edge10_vc (n:Int) (l:List P3) (c:Int) (x:tabE.T) (h:(n,l)=x.1∧Good x∧tHas x c=true):afun ⟨tyL,[(122,next10C),(123,prev10C),(68,vertex10C x)],[]⟩ Tryz.f96 [soupE.av (n,l),i64E.av c] (fun r=>r=(ETy.arr2).av (tEdge x c)):=by
  obtain ⟨hx,g,hc⟩:=h
  have hl:=has_le g hc
  have hnp:=hasNP hc
  rw [tNext_t hc,tPrev_t hc] at hnp
  repeat' (conv=>whnf
           first | done | refine qN (by first | rfl | omega | (simp only [i64ok] at *;omega)) ?_ | apply qH | refine qG fun _=> ?_ | apply qB | apply qa | apply qo | refine qe (fun _=> ?_) (fun _=> ?_) | refine qn (fun _=> ?_) (fun _=> ?_) | refine qd (fun _=> ?_) (fun _=> ?_) | apply qt | refine qi (fun _=> ?_) (fun _=> ?_) | refine And.intro rfl ?_ | apply qE | apply qO | exact True.intro | apply qq | apply qs | refine qK (by kernel_rfl) ?_ | apply qr)
  all_goals try first | apply qz1 | apply qz2 | apply qz3 | apply qz4 | apply qz5 | apply qz6 | apply qz7 | apply qz8 | apply qz9 | apply qz0
  all_goals try simp only [take_one,take_one',set_one,take_all,qn1,rec_self,qn2,pair_eta,ETy.dflt,qn3,qn4,Int.reduceToNat,Int.reduceAdd,Int.reduceSub,Int.reduceNeg,Nat.reduceAdd,Nat.zero_add] at *
  all_goals try exact qh ⟨hl.1,Int.le_trans hl.2 (by decide)⟩
  · exact qh ⟨hx,g,hnp.1⟩
  · exact qh ⟨hx,g,hnp.2⟩
  all_goals (unfold tEdge;rw [tNext_t hc,tPrev_t hc];first | rfl | exact HoldEq.intro rfl)
def edge10C (x:tabE.T):List AV→Option Res:=con2 soupE i64E (fun s c=>some (none,some (s=x.1∧Good x∧tHas x c=true),(ETy.arr2).av (tEdge x c)))
theorem edge10Row (x:tabE.T):FnRow Tryz.prog 96 (edge10C x):=⟨con2_ok fun s c r h=>by
  cases h;exact fn_by (rulesF (fn:=[(122,next10C),(123,prev10C),(68,vertex10C x)]) (fr:=[]) ⟨next10Row,prev10Row,(vertex10Row x),trivial⟩ trivial) Tryz.func96 (by kernel_rfl) fun _ h=>edge10_vc s.1 s.2 c x h,_,Tryz.func96,by kernel_rfl,by kernel_rfl⟩
def loop10 (x:tabE.T) (l:List P3) (P:Int→Prop):Spec Nat where
  inv c:=c≤3*l.length∧∀ d:Nat,d<c→¬ P d
  live c:=[(5,.s (.int .i64 c))]
  keep:=[1,2,3]
  heap _:=[]
  keepH:=[0,1]
  mu c:=3*l.length - c
theorem facing10_vc (n:Int) (l:List P3) (e:Int×Int) (x:tabE.T) (h:(n,l)=x.1∧Full x):afun ⟨tyL,[(96,edge10C x)],[]⟩ Tryz.f65 [soupE.av (n,l),(ETy.arr2).av e] (fun r=>r= .s (.int .i64 (tFacing x e))):=by
  repeat' (conv=>whnf
           first | done | refine qN (by first | rfl | omega | (simp only [i64ok] at *;omega)) ?_ | apply qH | refine qG fun _=> ?_ | apply qB | apply qa | apply qo | refine qe (fun _=> ?_) (fun _=> ?_) | refine qn (fun _=> ?_) (fun _=> ?_) | refine qd (fun _=> ?_) (fun _=> ?_) | apply qt | refine qi (fun _=> ?_) (fun _=> ?_) | (refine atReg 2 rfl ?_;refine Or.inr (Exists.intro (Nat) (Exists.intro (loop10 x l (fun d=>tEdge x d=e)) (And.intro (Exists.intro (0) (And.intro (Hold.out ?_) (And.intro ?_ (And.intro ?_ rfl)))) (fun c hc=> ?_))))) | ((with_reducible show (∃ y,And (Spec.inv (loop10 _ _ _) y) _));refine Exists.intro (c+1) (And.intro (Hold.out ?_) (And.intro (And.intro ?_ (And.intro ?_ rfl)) (Hold.out ?_)))) | refine And.intro rfl ?_ | apply qE | apply qO | exact True.intro | apply qq | apply qs | refine qK (by kernel_rfl) ?_ | apply qr)
  all_goals try first | apply qz1 | apply qz2 | apply qz3 | apply qz4 | apply qz5 | apply qz6 | apply qz7 | apply qz8 | apply qz9 | apply qz0
  all_goals try simp only [take_one,take_one',set_one,take_all,qn1,rec_self,qn2,pair_eta,ETy.dflt,qn3,qn4,Int.reduceToNat,Int.reduceAdd,Int.reduceSub,Int.reduceNeg,Nat.reduceAdd,Nat.zero_add,loop10] at *
  all_goals have el:x.1.2.length=l.length:=(congrArg (fun s=>s.2.length) h.1).symm
  all_goals try have hlt:(c:Int)<3*l.length:=by assumption
  all_goals try have hh:tHas x (c:Int)=true:=tHas_iff.2 ⟨by omega,by omega⟩
  all_goals try (refine qh ?_;omega)
  · exact qh ⟨Nat.zero_le _,fun d hd=>by omega⟩
  · exact qh ⟨h.1,h.2.toGood,hh⟩
  · have e1:tEdge x c=e:=Prod.ext (by assumption) (by assumption)
    rw [← e1];exact (h.2.facing hh).symm
  · refine Hold.intro ⟨by omega,fun d hd=> ?_⟩
    by_cases e1:d=c
    · subst e1;exact fun e2=>absurd (congrArg Prod.snd e2) (by assumption)
    · exact hc.2 d (by omega)
  · refine Hold.intro ⟨by omega,fun d hd=> ?_⟩
    by_cases e1:d=c
    · subst e1;exact fun e2=>absurd (congrArg Prod.fst e2) (by assumption)
    · exact hc.2 d (by omega)
  · have hge: ¬ (c:Int)<3*l.length:=by assumption
    unfold tFacing
    cases e1:mget .arr2 x.2.1 e with
    | none=>rfl
    | some d =>
      obtain ⟨k1,k2⟩:=h.2.map _ _ e1
      have k3:=tHas_iff.1 k1
      have:=hc.2 d.toNat (by omega)
      rw [Int.toNat_of_nonneg k3.1] at this
      exact absurd k2 this
def facing10C (x:tabE.T):List AV→Option Res:=con2 soupE .arr2 (fun s e=>some (none,some (s=x.1∧Full x),.s (.int .i64 (tFacing x e))))
theorem facing10Row (x:tabE.T):FnRow Tryz.prog 65 (facing10C x):=⟨con2_ok fun s e r h=>by
  cases h;exact fn_by (rulesF (fn:=[(96,edge10C x)]) (fr:=[]) ⟨(edge10Row x),trivial⟩ trivial) Tryz.func65 (by kernel_rfl) fun _ h=>facing10_vc s.1 s.2 e x h,_,Tryz.func65,by kernel_rfl,by kernel_rfl⟩
theorem opp10_vc (n:Int) (l:List P3) (c:Int) (x:tabE.T) (h:(n,l)=x.1∧Full x∧tHas x c=true):afun ⟨tyL,[(96,edge10C x),(65,facing10C x)],[]⟩ Tryz.f71 [soupE.av (n,l),i64E.av c] (fun r=>r= .s (.int .i64 (tOpp x c))):=by
  repeat' (conv=>whnf
           first | done | refine qN (by first | rfl | omega | (simp only [i64ok] at *;omega)) ?_ | apply qH | refine qG fun _=> ?_ | apply qB | apply qa | apply qo | refine qe (fun _=> ?_) (fun _=> ?_) | refine qn (fun _=> ?_) (fun _=> ?_) | refine qd (fun _=> ?_) (fun _=> ?_) | apply qt | refine qi (fun _=> ?_) (fun _=> ?_) | refine And.intro rfl ?_ | apply qE | apply qO | exact True.intro | apply qq | apply qs | refine qK (by kernel_rfl) ?_ | apply qr)
  all_goals try first | apply qz1 | apply qz2 | apply qz3 | apply qz4 | apply qz5 | apply qz6 | apply qz7 | apply qz8 | apply qz9 | apply qz0
  all_goals try simp only [take_one,take_one',set_one,take_all,qn1,rec_self,qn2,pair_eta,ETy.dflt,qn3,qn4,Int.reduceToNat,Int.reduceAdd,Int.reduceSub,Int.reduceNeg,Nat.reduceAdd,Nat.zero_add] at *
  · exact qh ⟨h.1,h.2.1.toGood,h.2.2⟩
  · exact qh ⟨h.1,h.2.1⟩
  all_goals rfl
def opp10C (x:tabE.T):List AV→Option Res:=con2 soupE i64E (fun s c=>some (none,some (s=x.1∧Full x∧tHas x c=true),.s (.int .i64 (tOpp x c))))
theorem opp10Row (x:tabE.T):FnRow Tryz.prog 71 (opp10C x):=⟨con2_ok fun s c r h=>by
  cases h;exact fn_by (rulesF (fn:=[(96,edge10C x),(65,facing10C x)]) (fr:=[]) ⟨(edge10Row x),(facing10Row x),trivial⟩ trivial) Tryz.func71 (by kernel_rfl) fun _ h=>opp10_vc s.1 s.2 c x h,_,Tryz.func71,by kernel_rfl,by kernel_rfl⟩
def cor10 (x:tabE.T) (v:Int):Nat→Nat→Int
  | 0,_=> -1
  | m+1,c=>if tVert x c=v then (c:Int) else cor10 x v m (c+1)
def cor10R (x:tabE.T) (v:Int):Int:=cor10 x v (3*x.1.2.length) 0
theorem cor10_at {x:tabE.T} {v:Int} : ∀ m c,(∃ d:Nat,c≤d∧d<c+m∧tVert x d=v)→∃ d:Nat,c≤d∧d<c+m∧tVert x d=v∧cor10 x v m c=d
  | 0,c,⟨d,h1,h2,_⟩=>by omega
  | m + 1,c,⟨d,h1,h2,h3⟩=>by
    unfold cor10
    by_cases e:tVert x c=v
    · rw [if_pos e];exact ⟨c,Nat.le_refl _,by omega,e,rfl⟩
    · rw [if_neg e]
      obtain ⟨d',k1,k2,k3,k4⟩:=cor10_at m (c+1) ⟨d,by
        by_cases ed:d=c
        · subst ed;exact absurd h3 e
        · omega,by omega,h3⟩
      exact ⟨d',by omega,by omega,k3,k4⟩
theorem cor10_is {x:tabE.T} (g:Full x) {v:Int} (h0:0≤v) (h1:v<x.1.1):tHas x (cor10R x v)=true∧tVert x (cor10R x v)=v:=by
  obtain ⟨k1,k2⟩:=g.vtx v h0 h1
  have k3:=tHas_iff.1 k1
  obtain ⟨d,d1,d2,d3,d4⟩:=cor10_at (x:=x) (v:=v) (3*x.1.2.length) 0 ⟨(tCorner x v).toNat,Nat.zero_le _,by omega,by rw [Int.toNat_of_nonneg k3.1];exact k2⟩
  unfold cor10R
  rw [d4]
  exact ⟨tHas_iff.2 ⟨by omega,by omega⟩,d3⟩
def loop10c (x:tabE.T) (v:Int):Spec Nat where
  inv c:=c≤3*x.1.2.length∧cor10R x v=cor10 x v (3*x.1.2.length - c) c
  live c:=[(5,.s (.int .i64 c))]
  keep:=[1,2,3]
  heap _:=[]
  keepH:=[0,1]
  mu c:=3*x.1.2.length - c
theorem corner10_vc (n:Int) (l:List P3) (v:Int) (x:tabE.T) (h:(n,l)=x.1∧Full x):afun ⟨tyL,[(68,vertex10C x)],[]⟩ Tryz.f70 [soupE.av (n,l),i64E.av v] (fun r=>r= .s (.int .i64 (cor10R x v))):=by
  repeat' (conv=>whnf
           first | done | refine qN (by first | rfl | omega | (simp only [i64ok] at *;omega)) ?_ | apply qH | refine qG fun _=> ?_ | apply qB | apply qa | apply qo | refine qe (fun _=> ?_) (fun _=> ?_) | refine qn (fun _=> ?_) (fun _=> ?_) | refine qd (fun _=> ?_) (fun _=> ?_) | apply qt | refine qi (fun _=> ?_) (fun _=> ?_) | (refine atReg 2 rfl ?_;refine Or.inr (Exists.intro (Nat) (Exists.intro (loop10c x v) (And.intro (Exists.intro (0) (And.intro (Hold.out ?_) (And.intro ?_ (And.intro ?_ rfl)))) (fun c hc=> ?_))))) | ((with_reducible show (∃ y,And (Spec.inv (loop10c _ _) y) _));refine Exists.intro (c+1) (And.intro (Hold.out ?_) (And.intro (And.intro ?_ (And.intro ?_ rfl)) (Hold.out ?_)))) | refine And.intro rfl ?_ | apply qE | apply qO | exact True.intro | apply qq | apply qs | refine qK (by kernel_rfl) ?_ | apply qr)
  all_goals try first | apply qz1 | apply qz2 | apply qz3 | apply qz4 | apply qz5 | apply qz6 | apply qz7 | apply qz8 | apply qz9 | apply qz0
  all_goals try simp only [take_one,take_one',set_one,take_all,qn1,rec_self,qn2,pair_eta,ETy.dflt,qn3,qn4,Int.reduceToNat,Int.reduceAdd,Int.reduceSub,Int.reduceNeg,Nat.reduceAdd,Nat.zero_add,loop10c] at *
  all_goals have el:x.1.2.length=l.length:=(congrArg (fun s=>s.2.length) h.1).symm
  all_goals try have hlt:(c:Int)<3*l.length:=by assumption
  all_goals try have hh:tHas x (c:Int)=true:=tHas_iff.2 ⟨by omega,by omega⟩
  all_goals try (refine qh ?_;omega)
  all_goals try (have e2:=hc.2;rw [show 3*x.1.2.length - c=(3*x.1.2.length - (c+1))+1 by omega,cor10] at e2)
  · exact qh ⟨Nat.zero_le _,rfl⟩
  · exact qh ⟨h.1,h.2.toGood,hh⟩
  · rw [if_pos (by assumption)] at e2;exact e2.symm
  · rw [if_neg (by assumption)] at e2;exact qh ⟨by omega,e2⟩
  · rw [hc.2,show 3*x.1.2.length - c=0 by omega];rfl
def corner10C (x:tabE.T):List AV→Option Res:=con2 soupE i64E (fun s v=>some (none,some (s=x.1∧Full x),.s (.int .i64 (cor10R x v))))
theorem corner10Row (x:tabE.T):FnRow Tryz.prog 70 (corner10C x):=⟨con2_ok fun s v r h=>by
  cases h;exact fn_by (rulesF (fn:=[(68,vertex10C x)]) (fr:=[]) ⟨(vertex10Row x),trivial⟩ trivial) Tryz.func70 (by kernel_rfl) fun _ h=>corner10_vc s.1 s.2 v x h,_,Tryz.func70,by kernel_rfl,by kernel_rfl⟩
def loop10i (x:tabE.T) (v:Int):Spec Nat where
  inv c:=c≤3*x.1.2.length∧∀ d:Nat,d<c→((tEdge x d).1=v∨(tEdge x d).2=v)→¬ tOpp x d<0
  live c:=[(5,.s (.int .i64 c))]
  keep:=[1,2]
  heap _:=[]
  keepH:=[0]
  mu c:=3*x.1.2.length - c
theorem inner_no {x:tabE.T} (g:Full x) {v c:Int} (hc:tHas x c=true) (ho:tOpp x c<0) (he:(tEdge x c).1=v∨(tEdge x c).2=v):innerR x v=false:=by
  rw [← Bool.not_eq_true,inner_iff g]
  rintro ⟨_,h⟩
  rcases he with e | e
  · exact h (bE_next g (u:=(tEdge x c).2) ⟨c,hc,ho,Prod.ext e rfl⟩)
  · exact h ⟨(tEdge x c).1,c,hc,ho,Prod.ext rfl e⟩
theorem inner10_vc (n:Int) (l:List P3) (v:Int) (x:tabE.T) (h:(n,l)=x.1∧Full x∧0≤v∧v<x.1.1):afun ⟨tyL,[(96,edge10C x),(71,opp10C x)],[]⟩ Tryz.f66 [soupE.av (n,l),i64E.av v] (fun r=>r= .s (.bool (innerR x v))):=by
  repeat' (conv=>whnf
           first | done | refine qN (by first | rfl | omega | (simp only [i64ok] at *;omega)) ?_ | apply qH | refine qG fun _=> ?_ | apply qB | apply qa | apply qo | refine qe (fun _=> ?_) (fun _=> ?_) | refine qn (fun _=> ?_) (fun _=> ?_) | refine qd (fun _=> ?_) (fun _=> ?_) | apply qt | refine qi (fun _=> ?_) (fun _=> ?_) | (refine atReg 2 rfl ?_;refine Or.inr (Exists.intro (Nat) (Exists.intro (loop10i x v) (And.intro (Exists.intro (0) (And.intro (Hold.out ?_) (And.intro ?_ (And.intro ?_ rfl)))) (fun c hc=> ?_))))) | ((with_reducible show (∃ y,And (Spec.inv (loop10i _ _) y) _));refine Exists.intro (c+1) (And.intro (Hold.out ?_) (And.intro (And.intro ?_ (And.intro ?_ rfl)) (Hold.out ?_)))) | refine And.intro rfl ?_ | apply qE | apply qO | exact True.intro | apply qq | apply qs | refine qK (by kernel_rfl) ?_ | apply qr)
  all_goals try first | apply qz1 | apply qz2 | apply qz3 | apply qz4 | apply qz5 | apply qz6 | apply qz7 | apply qz8 | apply qz9 | apply qz0
  all_goals try simp only [take_one,take_one',set_one,take_all,qn1,rec_self,qn2,pair_eta,ETy.dflt,qn3,qn4,Int.reduceToNat,Int.reduceAdd,Int.reduceSub,Int.reduceNeg,Nat.reduceAdd,Nat.zero_add,loop10i] at *
  all_goals have el:x.1.2.length=l.length:=(congrArg (fun s=>s.2.length) h.1).symm
  all_goals try have hlt:(c:Int)<3*l.length:=by assumption
  all_goals try have hh:tHas x (c:Int)=true:=tHas_iff.2 ⟨by omega,by omega⟩
  all_goals try (refine qh ?_;omega)
  all_goals try exact qh ⟨h.1,h.2.1.toGood,hh⟩
  all_goals try exact qh ⟨h.1,h.2.1,hh⟩
  · exact qh ⟨Nat.zero_le _,fun d hd=>by omega⟩
  · exact (inner_no h.2.1 hh (by assumption) (.inl (by assumption))).symm
  · refine Hold.intro ⟨by omega,fun d hd he=> ?_⟩
    by_cases e1:d=c
    · subst e1;assumption
    · exact hc.2 d (by omega) he
  · exact (inner_no h.2.1 hh (by assumption) (.inr (by assumption))).symm
  · refine Hold.intro ⟨by omega,fun d hd he=> ?_⟩
    by_cases e1:d=c
    · subst e1;assumption
    · exact hc.2 d (by omega) he
  · refine Hold.intro ⟨by omega,fun d hd he=> ?_⟩
    by_cases e1:d=c
    · subst e1;rcases he with e | e
      · exact absurd e (by assumption)
      · exact absurd e (by assumption)
    · exact hc.2 d (by omega) he
  · symm
    refine (inner_iff h.2.1).2 ⟨h.2.2,fun ⟨w,d,d1,d2,d3⟩=> ?_⟩
    have k:=tHas_iff.1 d1
    have hge: ¬ (c:Int)<3*l.length:=by assumption
    have:=hc.2 d.toNat (by omega)
    rw [Int.toNat_of_nonneg k.1] at this
    exact this (.inr (congrArg Prod.snd d3)) d2
def inner10C (x:tabE.T):List AV→Option Res:=con2 soupE i64E (fun s v=>some (none,some (s=x.1∧Full x∧0≤v∧v<x.1.1),.s (.bool (innerR x v))))
theorem inner10Row (x:tabE.T):FnRow Tryz.prog 66 (inner10C x):=⟨con2_ok fun s v r h=>by
  cases h;exact fn_by (rulesF (fn:=[(96,edge10C x),(71,opp10C x)]) (fr:=[]) ⟨(edge10Row x),(opp10Row x),trivial⟩ trivial) Tryz.func66 (by kernel_rfl) fun _ h=>inner10_vc s.1 s.2 v x h,_,Tryz.func66,by kernel_rfl,by kernel_rfl⟩
end S1
open Go Go.Vm Go.Proofs
namespace S1
abbrev vN (x:tabE.T):Int:=x.1.1
end S1
open Go Go.Vm Go.Proofs
namespace S1
theorem near34_vc (n:Int) (l:List P3) (a b:Int) (x:tabE.T) (h:(n,l)=x.1∧Full x):afun ⟨tyL,[(65,facing10C x)],[]⟩ Tryz.f64 [soupE.av (n,l),i64E.av a,i64E.av b] (fun r=>r= .s (.bool (nearR x a b))):=by
  repeat' (conv=>whnf
           first | done | refine qN (by first | rfl | omega | (simp only [i64ok] at *;omega)) ?_ | apply qH | refine qG fun _=> ?_ | apply qB | apply qa | apply qo | refine qe (fun _=> ?_) (fun _=> ?_) | refine qn (fun _=> ?_) (fun _=> ?_) | refine qd (fun _=> ?_) (fun _=> ?_) | apply qt | refine qi (fun _=> ?_) (fun _=> ?_) | refine And.intro rfl ?_ | apply qE | apply qO | exact True.intro | apply qq | apply qs | refine qK (by kernel_rfl) ?_ | apply qr)
  all_goals try first | apply qz1 | apply qz2 | apply qz3 | apply qz4 | apply qz5 | apply qz6 | apply qz7 | apply qz8 | apply qz9 | apply qz0
  all_goals try simp only [take_one,take_one',set_one,take_all,qn1,rec_self,qn2,pair_eta,ETy.dflt,qn3,qn4,Int.reduceToNat,Int.reduceAdd,Int.reduceSub,Int.reduceNeg,Nat.reduceAdd,Nat.zero_add] at *
  all_goals try exact qh h
  · have h1:tFacing x (a,b)≥0:=by assumption
    unfold nearR;rw [decide_eq_true h1];rfl
  · have h1: ¬ tFacing x (a,b)≥0:=by assumption
    unfold nearR;rw [decide_eq_false h1];rfl
def near34C (x:tabE.T):List AV→Option Res:=con3 soupE i64E i64E (fun s a b=>some (none,some (s=x.1∧Full x),.s (.bool (nearR x a b))))
theorem near34Row (x:tabE.T):FnRow Tryz.prog 64 (near34C x):=⟨con3_ok fun s a b r h=>by
  cases h;exact fn_by (rulesF (fn:=[(65,facing10C x)]) (fr:=[]) ⟨(facing10Row x),trivial⟩ trivial) Tryz.func64 (by kernel_rfl) fun _ h=>near34_vc s.1 s.2 a b x h,_,Tryz.func64,by kernel_rfl,by kernel_rfl⟩
def cmG (x:tabE.T) (a b:Int) (v:Nat):Option Int:=if nearR x a v=true∧nearR x b v=true then some v else none
def cmL (x:tabE.T) (a b:Int) (k:Nat):List Int:=(List.range k).filterMap (cmG x a b)
def com34 (x:tabE.T) (a b:Int):List Int:=if a=b∨a<0∨b<0∨a≥vN x∨b≥vN x then [] else cmL x a b (vN x).toNat
def loop34 (x:tabE.T) (a b:Int):Spec Nat where
  inv v:=v≤(vN x).toNat
  live v:=[(8,.s (.int .i64 v)),(7,.s (.own 2 0 (cmL x a b v).length))]
  keep:=[1,2,3,6]
  heap v:=[(2,.row i64E 3 (cmL x a b v))]
  keepH:=[0,1]
  mu v:=(vN x).toNat - v
theorem fitNN {x:tabE.T} (g:Full x):0≤vN x∧vN x≤4096:=⟨g.fit.1,g.fit.2.1⟩
attribute [local irreducible] nearR
theorem common34_vc (n : Int) (l : List P3) (a b : Int) (x:tabE.T) (h:(n,l)=x.1∧Full x):afun ⟨tyL,[(64,near34C x)],[]⟩ Tryz.f67 [soupE.av (n,l),i64E.av a,i64E.av b] (fun r=>r= .s (.sl i64E (com34 x a b))):=by
  repeat' (conv=>whnf
           first | done | refine qN (by first | rfl | omega | (simp only [i64ok] at *;omega)) ?_ | apply qH | refine qG fun _=> ?_ | apply qB | apply qa | apply qo | refine qe (fun _=> ?_) (fun _=> ?_) | refine qn (fun _=> ?_) (fun _=> ?_) | refine qd (fun _=> ?_) (fun _=> ?_) | apply qt | refine qi (fun _=> ?_) (fun _=> ?_) | (refine atReg 5 rfl ?_;refine Or.inr (Exists.intro (Nat) (Exists.intro (loop34 x a b) (And.intro (Exists.intro (0) (And.intro (Hold.out ?_) (And.intro ?_ (And.intro ?_ rfl)))) (fun v hv=> ?_))))) | ((with_reducible show (∃ y,And (Spec.inv (loop34 _ _ _) y) _));refine Exists.intro (v+1) (And.intro (Hold.out ?_) (And.intro (And.intro ?_ (And.intro ?_ rfl)) (Hold.out ?_)))) | refine And.intro rfl ?_ | apply qE | apply qO | exact True.intro | apply qq | apply qs | refine qK (by kernel_rfl) ?_ | apply qr)
  all_goals try first | apply qz1 | apply qz2 | apply qz3 | apply qz4 | apply qz5 | apply qz6 | apply qz7 | apply qz8 | apply qz9 | apply qz0
  all_goals try simp only [take_one,take_one',set_one,take_all,qn1,rec_self,qn2,pair_eta,ETy.dflt,qn3,qn4,Int.reduceToNat,Int.reduceAdd,Int.reduceSub,Int.reduceNeg,Nat.reduceAdd,Nat.zero_add,loop34] at *
  all_goals have en:vN x=n:=(congrArg Prod.fst h.1).symm
  all_goals have hn:=fitNN h.2
  all_goals try (unfold com34;rw [if_pos (by omega)];rfl)
  all_goals try have hlm:=fm_len (cmG x a b) v
  all_goals try (refine qh ?_;first | omega | (unfold i64ok;omega) | (unfold cmL;omega))
  all_goals try
    have h1:nearR x a v=true:=by assumption
    have h2:nearR x b v=true:=by assumption
    have e : cmL x a b (v + 1) = cmL x a b v ++ [(v : Int)] := by unfold cmL;rw [fm_succ];conv=>lhs;rhs;rw [cmG,if_pos ⟨h1,h2⟩]
                                                                  rfl
    first | exact e | (rw [e,List.length_append];rfl)
  all_goals try
    have h2:nearR x b v=false:=by assumption
    have e : cmL x a b (v + 1) = cmL x a b v := by unfold cmL;rw [fm_succ];conv=>lhs;rhs;rw [cmG,if_neg (by rw [h2];simp)]
                                                   simp
    first | exact e | (rw [e];done)
  all_goals try
    have h2:nearR x a v=false:=by assumption
    have e : cmL x a b (v + 1) = cmL x a b v := by unfold cmL;rw [fm_succ];conv=>lhs;rhs;rw [cmG,if_neg (by rw [h2];simp)]
                                                   simp
    first | exact e | (rw [e];done)
  unfold com34
  rw [if_neg (by omega),show v=(vN x).toNat by omega]
theorem sorted_mem: ∀ {l m:List Int},l.Pairwise (· < ·)→m.Pairwise (· < ·)→(∀ v,v∈l↔v∈m)→l=m
  | [],[],_,_,_=>rfl
  | [],b::m,_,_,h=>by have:=(h b).2 (by simp);cases this
  | a::l,[],_,_,h=>by have:=(h a).1 (by simp);cases this
  | a ::l,b::m,h1,h2,h=>by
    obtain ⟨a1,a2⟩:=List.pairwise_cons.1 h1
    obtain ⟨b1,b2⟩:=List.pairwise_cons.1 h2
    have e:a=b:=by
      have ka:=(h a).1 (by simp)
      have kb:=(h b).2 (by simp)
      rcases List.mem_cons.1 ka with e | e
      · exact e
      · rcases List.mem_cons.1 kb with e' | e'
        · exact e'.symm
        · have:=a1 b e';have:=b1 a e;omega
    subst e
    congr 1
    refine sorted_mem a2 b2 fun v=> ?_
    have:=h v
    rw [List.mem_cons,List.mem_cons] at this
    constructor
    · intro hv
      rcases this.1 (.inr hv) with e | e
      · have:=a1 v hv;omega
      · exact e
    · intro hv
      rcases this.2 (.inr hv) with e | e
      · have:=b1 v hv;omega
      · exact e
theorem around_nodupN {x:tabE.T} (g:Full x) {v:Int} (h0:0≤v) (h1:v<vN x):(aroundL (some x) v).Nodup:=by
  obtain ⟨b,_,eL,_⟩:=g.around h0 h1
  have key: ∀ n k,k+n=30000→FInv (tAfter x) b k→(aroundF x b n (iter (tAfter x) b k)).Nodup∧∀ y∈aroundF x b n (iter (tAfter x) b k),∃ m,k≤m∧y=iter (tAfter x) b m∧FInv (tAfter x) b m:=fun n=>by
    induction n with
    | zero=>intro k e h;have:=fin_after g.toGood h;omega
    | succ n ih =>
      intro k e h
      unfold aroundF
      by_cases h1:tAfter x (iter (tAfter x) b k)<0
      · rw [if_pos h1]
        exact ⟨List.nodup_cons.2 ⟨by simp,List.nodup_nil⟩,fun y hy=>⟨k,Nat.le_refl _,List.mem_singleton.1 hy,h⟩⟩
      · rw [if_neg h1]
        by_cases h2:tAfter x (iter (tAfter x) b k)=b
        · rw [if_pos h2]
          exact ⟨List.nodup_cons.2 ⟨by simp,List.nodup_nil⟩,fun y hy=>⟨k,Nat.le_refl _,List.mem_singleton.1 hy,h⟩⟩
        · rw [if_neg h2]
          obtain ⟨i1,i2⟩:=ih (k+1) (by omega) (h.succ h1 h2)
          refine ⟨List.nodup_cons.2 ⟨fun hy=> ?_,i1⟩,fun y hy=> ?_⟩
          · obtain ⟨m,m1,m2,m3⟩:=i2 _ hy
            have:=iter_back (f:=tAfter x) g.toGood.after_inj (c:=b) (i:=k) (j:=m - k) (fun q q1 q2=>(h q q1 q2).1) (by rw [m2];congr 1;omega)
            exact (m3 (m - k) (by omega) (by omega)).2 this
          · rcases List.mem_cons.1 hy with e | hy
            · exact ⟨k,Nat.le_refl _,e,h⟩
            · obtain ⟨m,m1,m2,m3⟩:=i2 y hy
              exact ⟨m,by omega,m2,m3⟩
  rw [eL]
  exact (key 30000 0 rfl (fun j a b=>by omega)).1
theorem link_nodupN {x:tabE.T} (g:Full x) (v:Int):(linkR x v).Nodup:=by
  by_cases hv:0≤v∧v<vN x
  case neg=>rw [link_far hv];exact List.nodup_nil
  obtain ⟨h0,h1⟩:=hv
  obtain ⟨b,_,eL,hb1,hb2,hb3,hall,hcl,_⟩:=g.around h0 h1
  have hpos:(aroundL (some x) v).length≥1:=List.length_pos_of_mem hb3
  have hlast:lkLast (aroundL (some x) v) (aroundL (some x) v).length=(aroundL (some x) v).getD ((aroundL (some x) v).length - 1) 0:=by
    unfold lkLast;rw [if_neg (by omega)]
  have hin:(aroundL (some x) v).getD ((aroundL (some x) v).length - 1) 0∈aroundL (some x) v:=getD_mem (by omega)
  have hm:(lkO x (aroundL (some x) v) (aroundL (some x) v).length).Nodup:=by
    unfold lkO
    rw [List.take_length]
    refine List.Pairwise.map _ (fun c d h=> ?_) ((around_nodupN g h0 h1).imp_of_mem (S:=fun c d=>c≠d∧c∈aroundL (some x) v∧d∈aroundL (some x) v) fun hc hd hn=>⟨hn,hc,hd⟩)
    obtain ⟨hn,hc,hd⟩:=h
    intro e
    exact hn (g.toGood.same (hall c hc).1 (hall d hd).1 ((hall c hc).2.trans (hall d hd).2.symm) e)
  unfold linkR
  rw [List.nodup_append]
  refine ⟨hm,?_,fun p hp q hq e=> ?_⟩
  · split
    · exact List.nodup_cons.2 ⟨by simp,List.nodup_nil⟩
    · exact List.nodup_nil
  · split at hq
    · rename_i hc
      rw [List.mem_singleton] at hq
      subst hq;subst e
      rw [hlast] at hp hc
      generalize (aroundL (some x) v).getD ((aroundL (some x) v).length - 1) 0=c at hin hp hc
      unfold lkO at hp
      rw [List.take_length] at hp
      obtain ⟨d,hd,ed⟩:=List.mem_map.1 hp
      obtain ⟨d1,d2⟩:=hall d hd
      obtain ⟨c1,c2⟩:=hall c hin
      have:tOpp x (tNext x c)=tPrev x d:=g.opp_is (hasNP d1).2 (by rw [edgeP d1,edgeN c1,d2,c2,ed])
      have k:=tHas_iff.1 (hasNP d1).2
      have ha:=hc.2
      unfold tAfter at ha
      rw [if_neg (by omega),this,(np d1).1] at ha
      have:=tHas_iff.1 d1
      omega
    · cases hq
theorem com34_is {x:tabE.T} (g:Full x) (a b:Int):com34 x a b=comR x a b:=by
  unfold com34
  split
  · rename_i h
    unfold comR
    split
    · rfl
    · rename_i hne
      have hf: ¬ (0≤a∧a<x.1.1)∨¬ (0≤b∧b<x.1.1):=by
        by_cases k1:0≤a∧a<vN x
        · by_cases k2:0≤b∧b<vN x
          · omega
          · exact .inr k2
        · exact .inl k1
      rcases hf with h | h
      · rw [link_far h];exact (List.length_eq_zero_iff.1 (sortI_len [])).symm
      · have:=com_far (x:=x) (a:=a) h
        unfold comR at this
        rw [if_neg hne] at this
        exact this.symm
  · rename_i h
    have hs:(comR x a b).Pairwise (· < ·):=by
      unfold comR
      split
      · exact .nil
      · refine List.Pairwise.imp_of_mem (R:=fun p q=>p≤q∧p≠q) (fun _ _ h=>by omega) ?_
        refine List.pairwise_and_iff.2 ⟨sortI_sorted _,?_⟩
        exact (sortI_perm _).nodup_iff.2 ((link_nodupN g a).sublist List.filter_sublist)
    have hc:(cmL x a b (vN x).toNat).Pairwise (· < ·):=by
      unfold cmL
      refine List.Pairwise.filterMap _ (R:=fun p q:Nat=>p<q) (fun p q hpq u hu w hw=> ?_) List.pairwise_lt_range
      unfold cmG at hu hw
      split at hu
      · split at hw
        · cases hu;cases hw;omega
        · cases hw
      · cases hu
    refine sorted_mem hc hs fun v=> ?_
    rw [com_mem g]
    unfold cmL
    rw [List.mem_filterMap]
    constructor
    · rintro ⟨w,hw,e⟩
      unfold cmG at e
      split at e
      · rename_i hh;cases e;exact ⟨by omega,hh.1,hh.2⟩
      · cases e
    · rintro ⟨_,h1,h2⟩
      have hin:=near_in g.toGood h1
      have hv:0≤v∧v<vN x:=hin.2
      refine ⟨v.toNat,List.mem_range.2 (by omega),?_⟩
      unfold cmG
      rw [Int.toNat_of_nonneg hv.1,if_pos ⟨h1,h2⟩]
def common34C (x:tabE.T):List AV→Option Res:=con3 soupE i64E i64E (fun s a b=>some (none,some (s=x.1∧Full x),.s (.sl i64E (com34 x a b))))
theorem common34Row (x:tabE.T):FnRow Tryz.prog 67 (common34C x):=⟨con3_ok fun s a b r h=>by
  cases h;exact fn_by (rulesF (fn:=[(64,near34C x)]) (fr:=[]) ⟨(near34Row x),trivial⟩ trivial) Tryz.func67 (by kernel_rfl) fun _ h=>common34_vc s.1 s.2 a b x h,_,Tryz.func67,by kernel_rfl,by kernel_rfl⟩
end S1
