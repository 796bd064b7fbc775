/- A part of the proofs of the laws. -/
import Derived.Test.YtahbknnehddjgaaF4toT16
import Derived.Test.YtahbknnehddjgaaT19toTS
import Derived.Test.YtahbknnehddjgaaT0toVmInl
set_option linter.unusedSimpArgs false
set_option linter.unusedVariables false
set_option maxHeartbeats 8000000
set_option maxRecDepth 100000
open Go Go.Vm Go.Proofs
namespace S1
def smC (x:tabE.T) (i:Nat) (b:Bool) (c:Nat):Bool:=b|| decide (tOpp x (3*i+c)<0)
def smI (x:tabE.T) (l:List Int) (m:Int) (s:Int×Bool) (i:Nat):Int×Bool :=
  if l.getD i 0≠m then s else (s.1+1,irec (smC x i) s.2 3)
def smS (x:tabE.T) (m:Int) (i:Nat):Int×Bool:=irec (smI x (ofR x) m) (0,false) i
def smM (x:tabE.T) (v:Int):Int:=(ofR x).getD (tCorner x v / 3).toNat 0
def smallR (x:tabE.T) (v:Int):Bool:=decide ((smS x (smM x v) (ofR x).length).1=1)|| (decide ((smS x (smM x v) (ofR x).length).1=4)&& !(smS x (smM x v) (ofR x).length).2)
theorem ofR_len {x:tabE.T} (g:Good x):(ofR x).length=x.1.2.length:=(ofL_ok g _ (Nat.le_refl _)).1
theorem smS_s (x:tabE.T) (m:Int) (i:Nat):smS x m (i+1)=smI x (ofR x) m (smS x m i) i:=rfl
theorem smS_no {x:tabE.T} {m:Int} {i:Nat} (h:(ofR x).getD i 0≠m):smS x m (i+1)=smS x m i:=by
  rw [smS_s];unfold smI;rw [if_pos h]
theorem smS_yes {x:tabE.T} {m:Int} {i:Nat} (h:(ofR x).getD i 0=m):smS x m (i+1)=((smS x m i).1+1,irec (smC x i) (smS x m i).2 3):=by
  rw [smS_s];unfold smI;rw [if_neg (fun e=>e h)]
theorem smS_le (x:tabE.T) (m:Int): ∀ i,0≤(smS x m i).1∧(smS x m i).1≤i
  | 0=>⟨Int.le_refl 0,Int.le_refl 0⟩
  | i+1=>by
    have:=smS_le x m i
    by_cases h:(ofR x).getD i 0=m
    · rw [smS_yes h];show 0≤(smS x m i).1+1∧(smS x m i).1+1≤_;omega
    · rw [smS_no h];omega
theorem smC_s (x:tabE.T) (i:Nat) (b:Bool) (c:Nat):irec (smC x i) b (c+1)=(irec (smC x i) b c|| decide (tOpp x (3*i+c)<0)):=rfl
def loopS1 (x:tabE.T) (m:Int):Spec Nat where
  inv i:=i≤(ofR x).length
  live i:=[(23,.s (.int .i64 i)),(7,.s (.int .i64 (smS x m i).1)),(8,.s (.bool (smS x m i).2))]
  keep:=[0,1,6,21,22]
  heap _:=[]
  keepH:=[]
  mu i:=(ofR x).length - i
def loopS2 (x:tabE.T) (i:Nat) (b:Bool):Spec Nat where
  inv c:=c≤3
  live c:=[(11,.s (.int .i64 (3*i+c))),(8,.s (.bool (irec (smC x i) b c)))]
  keep:=[0,1,6,7,9,21,22,23]
  heap _:=[]
  keepH:=[]
  mu c:=3 - c
theorem small_vc (x:tabE.T) (v:Int) (h:Good x∧tHas x (tCorner x v)=true):afun ⟨tyL,[(64,shOfC),(65,cornerC),(20,oppC)],[]⟩ Try.f42 [(ETy.pt tabE).av (some x),i64E.av v] (fun r=>r= .s (.bool (smallR x v))):=by
  have hn:x.1.2.length≤8192:=h.1.fit.2.2.1
  have hl:=ofR_len h.1
  have hc0:=tHas_iff.1 h.2
  have hm:(ofR x).getD ((tCorner x v).tdiv 3).toNat 0=smM x v:=by rw [td3 hc0.1];rfl
  repeat' (conv=>whnf
           first | done | refine qN (by first | rfl | omega | (simp only [i64ok] at *;omega)) ?_ | apply qH | refine qG fun _=> ?_ | apply qB | apply qa | apply qo | refine qe (fun _=> ?_) (fun _=> ?_) | refine qn (fun _=> ?_) (fun _=> ?_) | refine qd (fun _=> ?_) (fun _=> ?_) | apply qt | refine qi (fun _=> ?_) (fun _=> ?_) | (refine atReg 5 rfl ?_;refine Or.inr (Exists.intro (Nat) (Exists.intro (loopS1 x (smM x v)) (And.intro (Exists.intro (0) (And.intro (Hold.out ?_) (And.intro ?_ (And.intro ?_ rfl)))) (fun i hi=> ?_))))) | ((with_reducible show (∃ y,And (Spec.inv (loopS1 _ _) y) _));refine Exists.intro (i+1) (And.intro (Hold.out ?_) (And.intro (And.intro ?_ (And.intro ?_ rfl)) (Hold.out ?_)))) | (refine atReg 10 rfl ?_;refine Or.inr (Exists.intro (Nat) (Exists.intro (loopS2 x i (smS x (smM x v) i).2) (And.intro (Exists.intro (0) (And.intro (Hold.out ?_) (And.intro ?_ (And.intro ?_ rfl)))) (fun c hc=> ?_))))) | ((with_reducible show (∃ y,And (Spec.inv (loopS2 _ _ _) y) _));refine Exists.intro (c+1) (And.intro (Hold.out ?_) (And.intro (And.intro ?_ (And.intro ?_ rfl)) (Hold.out ?_)))) | refine And.intro rfl ?_ | apply qE | apply qO | exact True.intro | apply qq | apply qs | refine qK (by kernel_rfl) ?_ | apply qr)
  all_goals try first | apply qz1 | apply qz2 | apply qz3 | apply qz4 | apply qz5 | apply qz6 | apply qz7 | apply qz8 | apply qz9 | apply qz0
  all_goals try simp only [take_one,take_one',set_one,take_all,qn1,rec_self,qn2,pair_eta,ETy.dflt,qn3,qn4,Int.reduceToNat,Int.reduceAdd,Int.reduceSub,Int.reduceNeg,Nat.reduceAdd,Nat.zero_add,loopS1,loopS2] at *
  all_goals try (refine qh ?_;omega)
  all_goals try have hS:=smS_le x (smM x v) i
  all_goals try rw [hm] at *
  · exact qh h.1
  · refine Hold.intro ⟨by decide,?_⟩;rw [td3 hc0.1];unfold i64ok;omega
  · refine qh ?_;rw [td3 hc0.1,hl];omega
  · rw [smS_no (by assumption)]
  · rw [smS_no (by assumption)]
  · refine qh ?_;unfold i64ok;omega
  · rw [smC_s,show irec (smC x i) (smS x (smM x v) i).2 c=true by assumption];rfl
  · exact qh (show @LE.le Int _ (3*(i:Int)+c) (1000000:Int) by omega)
  · rw [smC_s,show irec (smC x i) (smS x (smM x v) i).2 c=false by assumption];rfl
  · rw [smS_yes (by assumption)]
  · rw [smS_yes (by assumption)]
    have e:c=3:=by omega
    rw [e]
  all_goals (
    have e:i=(ofR x).length:=by omega
    unfold smallR;rw [← e])
  · rename_i h1;rw [h1];rfl
  · rename_i h1 h2;rw [h2];rfl
  · rename_i h1 h2;rw [decide_eq_false h1,decide_eq_false h2];rfl
def smallC:List AV→Option Res:=con2P tabE i64E (fun x v=>some (none,some (Good x∧tHas x (tCorner x v)=true),.s (.bool (smallR x v))))
theorem smallRow:FnRow Try.prog 42 smallC:=⟨con2P_ok fun x v r h=>by cases h;exact fn_by (rulesF (fn:=[(64,shOfC),(65,cornerC),(20,oppC)]) (fr:=[]) ⟨shOfRow,cornerRow,oppRow,trivial⟩ trivial) Try.func42 (by kernel_rfl) fun _ h=>small_vc x v h,_,Try.func42,by kernel_rfl,by kernel_rfl⟩
end S1
open Go Go.Vm Go.Proofs
namespace S1
def comR (x:tabE.T) (a b:Int):List Int:=if a=b then [] else sortI ((linkR x a).filter fun v=>hasI v (linkR x b))
def comO (o:Option tabE.T) (a b:Int):List Int:=onO o [] fun x=>comR x a b
def comC:List AV→Option Res:=con3 (.pt tabE) i64E i64E (fun o a b=>some (none,some (∀ x,o=some x→Good x),.s (.sl i64E (comO o a b))))
def whyL (f:List Int):List Int→Bool
  | []=>true
  | v::r=>hasI v f&&whyL f r
def whyR (x:tabE.T) (a b:Int):Int :=
  if !nearR x a b then 1 else if (facR x a b).length=2∧innerR x a=false∧innerR x b=false then 2
  else if whyL (facR x a b) (comR x a b)=false then 3 else if smallR x a then 4 else 0
theorem near_cor {x:tabE.T} (g:Good x) {a b:Int} (h:nearR x a b=true):tHas x (tCorner x a)=true∧tHas x (tCorner x b)=true:=by
  have key: ∀ {a b:Int},0≤tFacing x (a,b)→tHas x (tCorner x a)=true∧tHas x (tCorner x b)=true:=fun {a b} h=>by
    unfold tFacing at h
    cases e:mget .arr2 x.2.1 (a,b) with
    | none=>rw [e] at h;exact absurd h (by decide)
    | some c =>
      obtain ⟨h1,h2⟩:=g.map _ _ e
      have e1:tVert x (tNext x c)=a:=congrArg Prod.fst h2
      have e2:tVert x (tPrev x c)=b:=congrArg Prod.snd h2
      have k1:=g.cor _ (hasNP h1).1
      have k2:=g.cor _ (hasNP h1).2
      rw [e1] at k1;rw [e2] at k2
      exact ⟨k1,k2⟩
  unfold nearR at h
  rw [Bool.or_eq_true,decide_eq_true_eq,decide_eq_true_eq] at h
  rcases h with h | h
  · exact key h
  · exact (key h).symm
theorem onO_some {α:Type} {x:tabE.T} {d:α} {f:tabE.T→α} :onO (some x) d f=f x:=rfl
theorem comO_some {x:tabE.T} {a b:Int} :comO (some x) a b=comR x a b:=rfl
attribute [local irreducible] nearR innerR hasI smallR
def loopW (x:tabE.T) (a b:Int):Spec Nat where
  inv i:=i≤(comR x a b).length∧whyL (facR x a b) (comR x a b)=whyL (facR x a b) ((comR x a b).drop i)
  live i:=[(39,.s (.int .i64 i))]
  keep:=[0,1,2,7,37,38]
  heap _:=[]
  keepH:=[]
  mu i:=(comR x a b).length - i
theorem why_vc (x:tabE.T) (a b:Int) (g:Good x):afun ⟨tyL,[(14,nearC),(40,facing2C),(41,innerC),(24,comC),(33,containsC),(42,smallC)],[]⟩ Try.f17 [(ETy.pt tabE).av (some x),i64E.av a,i64E.av b] (fun r=>r= .s (.int .i64 (whyR x a b))):=by
  repeat' (conv=>whnf
           first | done | refine qN (by first | rfl | omega | (simp only [i64ok] at *;omega)) ?_ | apply qH | refine qG fun _=> ?_ | apply qB | apply qa | apply qo | refine qe (fun _=> ?_) (fun _=> ?_) | refine qn (fun _=> ?_) (fun _=> ?_) | refine qd (fun _=> ?_) (fun _=> ?_) | apply qt | refine qi (fun _=> ?_) (fun _=> ?_) | (refine atReg 7 rfl ?_;refine Or.inr (Exists.intro (Nat) (Exists.intro (loopW x a b) (And.intro (Exists.intro (0) (And.intro (Hold.out ?_) (And.intro ?_ (And.intro ?_ rfl)))) (fun i hi=> ?_))))) | ((with_reducible show (∃ y,And (Spec.inv (loopW _ _ _) y) _));refine Exists.intro (i+1) (And.intro (Hold.out ?_) (And.intro (And.intro ?_ (And.intro ?_ rfl)) (Hold.out ?_)))) | refine And.intro rfl ?_ | apply qE | apply qO | exact True.intro | apply qq | apply qs | refine qK (by kernel_rfl) ?_ | apply qr)
  all_goals try first | apply qz1 | apply qz2 | apply qz3 | apply qz4 | apply qz5 | apply qz6 | apply qz7 | apply qz8 | apply qz9 | apply qz0
  all_goals try simp only [take_one,take_one',set_one,take_all,qn1,rec_self,qn2,pair_eta,ETy.dflt,qn3,qn4,Int.reduceToNat,Int.reduceAdd,Int.reduceSub,Int.reduceNeg,Nat.reduceAdd,Nat.zero_add,loopW,onO_some,comO_some] at *
  all_goals try have hnear:nearR x a b=true:=by assumption
  all_goals try have hlt:(i:Int)<((comR x a b).length:Int):=by assumption
  all_goals try have hge: ¬ (i:Int)<((comR x a b).length:Int):=by assumption
  all_goals try have hh:hasI ((comR x a b).getD i 0) (facR x a b)=true:=by assumption
  all_goals try have hf:hasI ((comR x a b).getD i 0) (facR x a b)=false:=by assumption
  all_goals try have hno:nearR x a b=false:=by assumption
  all_goals first
    | exact qh (fun y e=>by cases e;exact g)
    | exact qh ⟨Nat.zero_le _,rfl⟩
    | exact qh ⟨g,(near_cor g hnear).1⟩
    | (refine Hold.intro ⟨by omega,?_⟩;rw [hi.2,drop_now 0 hlt,whyL,hh];rfl)
    | exact qh (by omega)
    | (have hw:whyL (facR x a b) (comR x a b)=true:=by rw [hi.2,drop_all hge];rfl
       clear hi;unfold whyR;(try have hfl:(facR x a b).length=2:=by omega);(try have hfn: ¬ (facR x a b).length=2:=by omega);simp [*];done)
    | (have hw:whyL (facR x a b) (comR x a b)=false:=by rw [hi.2,drop_now 0 hlt,whyL,hf];rfl
       clear hi;unfold whyR;(try have hfl:(facR x a b).length=2:=by omega);(try have hfn: ¬ (facR x a b).length=2:=by omega);simp [*];done)
    | (unfold whyR;(try have hfl:(facR x a b).length=2:=by omega);simp [*];done)
    | skip
end S1
open Go Go.Vm Go.Proofs
namespace S1
theorem notin_vc (v:Int) (l:List Int):afun ⟨tyL,[(33,containsC)],[]⟩ Try.f47 [i64E.av v,(ETy.pt (.sl i64E)).av (some l)] (fun r=>r= .s (.bool (!hasI v l))):=by
  repeat' (conv=>whnf
           first | done | refine qN (by first | rfl | omega | (simp only [i64ok] at *;omega)) ?_ | apply qH | refine qG fun _=> ?_ | apply qB | apply qa | apply qo | refine qe (fun _=> ?_) (fun _=> ?_) | refine qn (fun _=> ?_) (fun _=> ?_) | refine qd (fun _=> ?_) (fun _=> ?_) | apply qt | refine qi (fun _=> ?_) (fun _=> ?_) | refine And.intro rfl ?_ | apply qE | apply qO | exact True.intro | apply qq | apply qs | refine qK (by kernel_rfl) ?_ | apply qr)
  all_goals try first | apply qz1 | apply qz2 | apply qz3 | apply qz4 | apply qz5 | apply qz6 | apply qz7 | apply qz8 | apply qz9 | apply qz0
  all_goals try simp only [take_one,take_one',set_one,take_all,qn1,rec_self,qn2,pair_eta,ETy.dflt,qn3,qn4,Int.reduceToNat,Int.reduceAdd,Int.reduceSub,Int.reduceNeg,Nat.reduceAdd,Nat.zero_add,Option.getD_some] at *
def notinC:List AV→Option Res:=con2 i64E (.pt (.sl i64E)) (fun v o=>match o with | some l=>some (none,none,.s (.bool (!hasI v l))) | none=>none)
theorem notinRow:FnRow Try.prog 47 notinC:=⟨con2_ok fun v o r h=>by
  cases o with
  | none=>cases h
  | some l=>cases h;exact fn_by (rulesF (fn:=[(33,containsC)]) (fr:=[]) ⟨containsRow,trivial⟩ trivial) Try.func47 (by kernel_rfl) fun _ _=>notin_vc v l,_,Try.func47,by kernel_rfl,by kernel_rfl⟩
attribute [local irreducible] hasI
def idxF (p:Int→Bool):List Int→Nat→Int
  | [],_=> -1
  | a::r,i=>if p a=true then (i:Int) else idxF p r (i+1)
def loopIF (p:Int→Bool) (l:List Int):Spec Nat where
  inv x:=x≤l.length∧idxF p l 0=idxF p (l.drop x) x
  live x:=[(8,.s (.int .i64 x))]
  keep:=[0,1,7]
  heap _:=[]
  keepH:=[]
  mu x:=l.length - x
theorem idxF_vc (l m:List Int):afun ⟨tyL,[(47,notinC)],[]⟩ Try.f68 [(ETy.sl i64E).av l,.s (.clo 47 [⟨.sl i64E,m⟩])] (fun r=>r= .s (.int .i64 (idxF (fun v=> !hasI v m) l 0))):=by
  repeat' (conv=>whnf
           first | done | refine qN (by first | rfl | omega | (simp only [i64ok] at *;omega)) ?_ | apply qH | refine qG fun _=> ?_ | apply qB | apply qa | apply qo | refine qe (fun _=> ?_) (fun _=> ?_) | refine qn (fun _=> ?_) (fun _=> ?_) | refine qd (fun _=> ?_) (fun _=> ?_) | apply qt | refine qi (fun _=> ?_) (fun _=> ?_) | (refine atReg 2 rfl ?_;refine Or.inr (Exists.intro (Nat) (Exists.intro (loopIF (fun v=> !hasI v m) l) (And.intro (Exists.intro (0) (And.intro (Hold.out ?_) (And.intro ?_ (And.intro ?_ rfl)))) (fun x hx=> ?_))))) | ((with_reducible show (∃ y,And (Spec.inv (loopIF _ _) y) _));refine Exists.intro (x+1) (And.intro (Hold.out ?_) (And.intro (And.intro ?_ (And.intro ?_ rfl)) (Hold.out ?_)))) | refine And.intro rfl ?_ | apply qE | apply qO | exact True.intro | apply qq | apply qs | refine qK (by kernel_rfl) ?_ | apply qr)
  all_goals try first | apply qz1 | apply qz2 | apply qz3 | apply qz4 | apply qz5 | apply qz6 | apply qz7 | apply qz8 | apply qz9 | apply qz0
  all_goals try simp only [take_one,take_one',set_one,take_all,qn1,rec_self,qn2,pair_eta,ETy.dflt,qn3,qn4,Int.reduceToNat,Int.reduceAdd,Int.reduceSub,Int.reduceNeg,Nat.reduceAdd,Nat.zero_add,loopIF] at *
  all_goals try (refine qh ?_;omega)
  · exact qh ⟨Nat.zero_le _,rfl⟩
  · rename_i h1 h2
    exact qh ⟨by omega,by rw [hx.2,drop_now 0 h1,idxF,if_neg (by rw [h2];simp)]⟩
  · rename_i h1 h2
    rw [hx.2,drop_now 0 h1,idxF,if_pos (by rw [h2];rfl)]
  · rw [hx.2,drop_all (by assumption)];rfl
def idxFC:List AV→Option Res
  | [.s (.sl (.int .i64) l),.s (.clo f [⟨.sl (.int .i64),m⟩])]=>match Nat.beq f 47 with
    | true=>some (none,none,.s (.int .i64 (idxF (fun v=> !hasI v m) l 0)))
    | false=>none
  | _=>none
theorem idxFRow:FnRow Try.prog 68 idxFC:=⟨fun args r h=>by
  unfold idxFC at h
  split at h
  case h_2=>cases h
  split at h
  case h_2=>cases h
  rename_i he
  cases h
  rw [Nat.eq_of_beq_eq_true he]
  exact fn_by (rulesF (fn:=[(47,notinC)]) (fr:=[]) ⟨notinRow,trivial⟩ trivial) Try.func68 (by kernel_rfl) fun _ _=>idxF_vc _ _,_,Try.func68,by kernel_rfl,by kernel_rfl⟩
def delH:List AV→St→(AV→St→Prop)→Prop:=inlRun ⟨tyL,[(47,notinC),(68,idxFC)],[]⟩ Try.f46
theorem delRow : RunOk Try.prog 46 delH ∧ ∃ fn, Try.prog.funcs[46]? = some fn ∧ (fn.name == "runtime.NumGoroutine") = false ∧ fn.body.isNone = false :=
  ⟨inline_ok (rulesF (fn:=[(47,notinC),(68,idxFC)]) (fr:=[]) ⟨notinRow,idxFRow,trivial⟩ trivial) Try.func46 rfl (by kernel_rfl),_,Try.func46,by kernel_rfl,by kernel_rfl⟩
def loopDF (p:Int→Bool) (xs:List Int):Spec (Nat×Nat×List Int) where
  inv x:=x.2.1<x.1∧x.1≤xs.length∧x.2.2.length=xs.length∧x.2.2.take x.2.1=(xs.take x.1).filter (fun v=> !p v)∧x.2.2.drop x.1=xs.drop x.1
  live x:=[(5,.s (.int .i64 x.2.1)),(6,.s (.int .i64 x.1))]
  keep:=[0,1]
  heap x:=[(3,.row i64E 3 x.2.2)]
  keepH:=[0,4,5]
  mu x:=xs.length - x.1
theorem linkO_len (o:Option tabE.T) (a:Int) (hg: ∀ x,o=some x→Good x):(linkO o a).length≤40000:=by
  cases o with
  | none=>exact Nat.zero_le _
  | some x =>
    have:=(aroundL_le (hg x rfl) a).1
    show (linkR x a).length≤40000
    unfold linkR
    rw [List.length_append,lkO_len _ _ _ (Nat.le_refl _)]
    split
    · simp only [List.length_singleton];omega
    · simp only [List.length_nil];omega
theorem idxF_lt (p:Int→Bool): ∀ (l:List Int) (i:Nat),(idxF p l i= -1∧l.filter (fun v=> !p v)=l)∨(∃ k:Nat,idxF p l i=((i+k:Nat):Int)∧k<l.length∧(l.take k).filter (fun v=> !p v)=l.take k∧p (l.getD k 0)=true)
  | [],i=> .inl ⟨rfl,rfl⟩
  | a ::r,i=>by
    unfold idxF
    cases h:p a with
    | true=>exact .inr ⟨0,by simp,by simp,rfl,by simpa using h⟩
    | false =>
      rw [if_neg (by simp)]
      rcases idxF_lt p r (i+1) with ⟨h1,h2⟩ | ⟨k,h1,h2,h3,h4⟩
      · exact .inl ⟨h1,by rw [List.filter_cons_of_pos (by simp [h]),h2]⟩
      · exact .inr ⟨k+1,by rw [h1];congr 1;omega,by simp;omega,by rw [List.take_succ_cons,List.filter_cons_of_pos (by simp [h]),h3],by simpa using h4⟩
theorem com_eq {o:Option tabE.T} {a b:Int} (h:a≠b):comO o a b=sortI ((linkO o a).filter fun v=>hasI v (linkO o b)):=by
  cases o with
  | none=>show []=sortI [];exact (List.length_eq_zero_iff.1 (sortI_len [])).symm
  | some x=>show comR x a b=_;unfold comR;rw [if_neg h];rfl
theorem del_keep {p:Int→Bool} {xs:List Int} {x:Nat×Nat×List Int} (h:(loopDF p xs).inv x) (hlt:x.1<xs.length) (hp:p (x.2.2.getD x.1 0)=false):(loopDF p xs).inv (x.1+1,x.2.1+1,x.2.2.set x.2.1 (x.2.2.getD x.1 0)):=by
  obtain ⟨h1,h2,h3,h4,h5⟩:=h
  have e:x.2.2.getD x.1 0=xs.getD x.1 0:=by
    have:=congrArg (fun l=>l.getD 0 0) h5
    simpa [gdE] using this
  refine ⟨by show x.2.1+1<x.1+1;omega,by show x.1+1≤_;omega,by show (x.2.2.set _ _).length=_;rw [List.length_set];exact h3,?_,?_⟩
  · show (x.2.2.set x.2.1 (x.2.2.getD x.1 0)).take (x.2.1+1)=(xs.take (x.1+1)).filter _
    rw [List.take_succ_eq_append_getElem (by rw [List.length_set];omega),List.take_set_of_le (Nat.le_refl _),h4,List.getElem_set_self,List.take_succ_eq_append_getElem hlt,List.filter_append]
    rw [e] at hp ⊢
    rw [gdE,gE hlt] at hp ⊢
    have hp:p xs[x.1]=false:=hp
    rw [List.filter_cons_of_pos (by rw [hp];rfl)];rfl
  · show (x.2.2.set x.2.1 _).drop (x.1+1)=xs.drop (x.1+1)
    rw [List.drop_set_of_lt (by omega),← List.drop_drop,h5,List.drop_drop]
theorem del_skip {p:Int→Bool} {xs:List Int} {x:Nat×Nat×List Int} (h:(loopDF p xs).inv x) (hlt:x.1<xs.length) (hp:p (x.2.2.getD x.1 0)=true):(loopDF p xs).inv (x.1+1,x.2.1,x.2.2):=by
  obtain ⟨h1,h2,h3,h4,h5⟩:=h
  have e:x.2.2.getD x.1 0=xs.getD x.1 0:=by
    have:=congrArg (fun l=>l.getD 0 0) h5
    simpa [gdE] using this
  refine ⟨by show x.2.1<x.1+1;omega,by show x.1+1≤_;omega,h3,?_,?_⟩
  · show x.2.2.take x.2.1=(xs.take (x.1+1)).filter _
    rw [h4,List.take_succ_eq_append_getElem hlt,List.filter_append]
    rw [e,gdE,gE hlt] at hp
    have hp:p xs[x.1]=true:=hp
    rw [List.filter_cons_of_neg (by rw [hp];simp)];simp
  · show x.2.2.drop (x.1+1)=xs.drop (x.1+1)
    rw [← List.drop_drop,h5,List.drop_drop]
theorem keep_eq (xs m:List Int):xs.filter (fun v=> !!hasI v m)=xs.filter fun v=>hasI v m:=by simp
theorem com_vc (o:Option tabE.T) (a b:Int) (hg: ∀ x,o=some x→Good x):afun ⟨tyL,[],[(45,.res linkFC),(46,.run delH),(48,.run sortNH)]⟩ Try.f24 [(ETy.pt tabE).av o,i64E.av a,i64E.av b] (fun r=>r= .s (.sl i64E (comO o a b))):=by
  have hlt:=idxF_lt (fun v=> !hasI v (linkO o b)) (linkO o a) 0
  have hlen:=linkO_len o a hg
  repeat' (conv=>whnf
           first | done | refine qN (by first | rfl | omega | (simp only [i64ok] at *;omega)) ?_ | apply qH | refine qG fun _=> ?_ | apply qB | apply qa | apply qo | refine qe (fun _=> ?_) (fun _=> ?_) | refine qn (fun _=> ?_) (fun _=> ?_) | refine qd (fun _=> ?_) (fun _=> ?_) | apply qt | refine qi (fun _=> ?_) (fun _=> ?_) | (refine (fun (X:Array Value)=> ?_)) | (refine atReg 5 rfl ?_;refine Or.inr (Exists.intro (Nat×Nat×List Int) (Exists.intro (loopDF (fun v=> !hasI v (linkO o b)) (linkO o a)) (And.intro (Exists.intro (((idxF (fun v=> !hasI v (linkO o b)) (linkO o a) 0).toNat+1,(idxF (fun v=> !hasI v (linkO o b)) (linkO o a) 0).toNat,linkO o a)) (And.intro (Hold.out ?_) (And.intro ?_ (And.intro ?_ rfl)))) (fun x hx=> ?_))))) | ((with_reducible show (∃ y,And (Spec.inv (loopDF _ _) y) _));refine Exists.intro ((x.1+1,if hasI (x.2.2.getD x.1 0) (linkO o b)=true then x.2.1+1 else x.2.1,if hasI (x.2.2.getD x.1 0) (linkO o b)=true then x.2.2.set x.2.1 (x.2.2.getD x.1 0) else x.2.2)) (And.intro (Hold.out ?_) (And.intro (And.intro ?_ (And.intro ?_ rfl)) (Hold.out ?_)))) | refine And.intro rfl ?_ | apply qE | apply qO | exact True.intro | apply qq | apply qs | refine qK (by kernel_rfl) ?_ | apply qr)
  all_goals try first | apply qz1 | apply qz2 | apply qz3 | apply qz4 | apply qz5 | apply qz6 | apply qz7 | apply qz8 | apply qz9 | apply qz0
  all_goals try simp only [take_one,take_one',set_one,take_all,qn1,rec_self,qn2,pair_eta,ETy.dflt,qn3,qn4,Int.reduceToNat,Int.reduceAdd,Int.reduceSub,Int.reduceNeg,Nat.reduceAdd,Nat.zero_add,loopDF] at *
  · rename_i h
    cases o with
    | none=>rfl
    | some x=>show []=comR x a b;unfold comR;rw [if_pos h]
  · have hne:a≠b:=by assumption
    have hi:idxF (fun v=> !hasI v (linkO o b)) (linkO o a) 0= -1:=by assumption
    rcases hlt with ⟨_,hf⟩ | ⟨k,hk,_⟩
    · rw [com_eq hne,← keep_eq (linkO o a) (linkO o b),hf]
      simp only [List.take_zero,List.nil_append,List.drop_zero,List.drop_length,List.append_nil]
      exact List.take_of_length_le (Nat.le_of_eq (sortI_len _))
    · rw [hk] at hi;omega
  all_goals
    have hne:a≠b:=by assumption
    have hi: ¬ idxF (fun v=> !hasI v (linkO o b)) (linkO o a) 0= -1:=by assumption
    obtain ⟨k,hk,hk2,hk3,hk4⟩:=hlt.resolve_left (fun e=>hi e.1)
  · rw [hk];refine qh ?_;unfold i64ok;omega
  · rw [hk]
    refine Hold.intro ⟨by show ((k:Nat):Int).toNat<((k:Nat):Int).toNat+1;omega,by show ((k:Nat):Int).toNat+1≤_;omega,True.intro,?_,True.intro⟩
    rw [Int.toNat_natCast,List.take_succ_eq_append_getElem hk2,List.filter_append,hk3]
    rw [gdE,gE hk2] at hk4
    have hk4:(!hasI (linkO o a)[k] (linkO o b))=true:=hk4
    rw [List.filter_cons_of_neg (by rw [hk4];simp)];simp
  · rw [hk];rfl
  · rw [hk];rfl
  · refine qh ?_;omega
  · refine qh ?_;unfold i64ok;omega
  · rename_i hq
    rw [if_pos hq,if_pos hq]
    exact qh (del_keep hx (by omega) (by rw [hq];rfl))
  · rename_i hq
    rw [if_pos hq];rfl
  · rename_i hq
    rw [if_pos hq]
  · refine qh ?_;omega
  · rename_i hq
    rw [if_neg (by rw [hq];simp),if_neg (by rw [hq];simp)]
    exact qh (del_skip hx (by omega) (by rw [hq];rfl))
  · rename_i hq
    rw [if_neg (by rw [hq];simp)]
  · rename_i hq
    rw [if_neg (by rw [hq];simp)]
  · refine qh ?_;omega
  · refine qh ?_;omega
  · refine qh ?_;omega
  · obtain ⟨h1,h2,h3,h4,h5⟩:=hx
    have he:x.1=(linkO o a).length:=by omega
    rw [he,List.take_length] at h4
    rw [com_eq hne,← keep_eq (linkO o a) (linkO o b),← h4]
    have hl:(x.2.2.take x.2.1).length=x.2.1:=by rw [List.length_take];omega
    simp only [List.drop_zero,List.take_zero,List.nil_append]
    have e2: ∀ z:List Int,List.take x.2.1 (x.2.2.take x.2.1++z)=x.2.2.take x.2.1:=fun z=>by rw [List.take_append_of_le_length (Nat.le_of_eq hl.symm),List.take_of_length_le (Nat.le_of_eq hl)]
    rw [e2,List.take_append_of_le_length (by rw [sortI_len];omega),List.take_of_length_le (by rw [sortI_len];omega)]
theorem comRow:FnRow Try.prog 24 comC:=⟨con3_ok fun o a b r h=>by
  cases h
  exact fn_by (rulesF (fn:=[]) (fr:=[(45,.res linkFC),(46,.run delH),(48,.run sortNH)]) trivial ⟨linkFRow,delRow,sortNRow,trivial⟩) Try.func24 (by kernel_rfl) fun _ h=>com_vc o a b h,_,Try.func24,by kernel_rfl,by kernel_rfl⟩
end S1
open Go Go.Vm Go.Proofs
namespace S1
theorem why0_vc (a b:Int):afun ⟨tyL,[(14,nearC),(40,facing2C),(41,innerC),(24,comC),(33,containsC),(42,smallC)],[]⟩ Try.f17 [(ETy.pt tabE).av none,i64E.av a,i64E.av b] (fun r=>r= .s (.int .i64 1)):=by
  repeat' (conv=>whnf
           first | done | refine qN (by first | rfl | omega | (simp only [i64ok] at *;omega)) ?_ | apply qH | refine qG fun _=> ?_ | apply qB | apply qa | apply qo | refine qe (fun _=> ?_) (fun _=> ?_) | refine qn (fun _=> ?_) (fun _=> ?_) | refine qd (fun _=> ?_) (fun _=> ?_) | apply qt | refine qi (fun _=> ?_) (fun _=> ?_) | refine And.intro rfl ?_ | apply qE | apply qO | exact True.intro | apply qq | apply qs | refine qK (by kernel_rfl) ?_ | apply qr)
  all_goals try first | apply qz1 | apply qz2 | apply qz3 | apply qz4 | apply qz5 | apply qz6 | apply qz7 | apply qz8 | apply qz9 | apply qz0
  all_goals try simp only [take_one,take_one',set_one,take_all,qn1,rec_self,qn2,pair_eta,ETy.dflt,qn3,qn4,Int.reduceToNat,Int.reduceAdd,Int.reduceSub,Int.reduceNeg,Nat.reduceAdd,Nat.zero_add] at *
def whyO (o:Option tabE.T) (a b:Int):Int:=onO o 1 fun x=>whyR x a b
def whyC:List AV→Option Res:=con3 (.pt tabE) i64E i64E (fun o a b=>some (none,some (∀ x,o=some x→Good x),.s (.int .i64 (whyO o a b))))
theorem whyRow:FnRow Try.prog 17 whyC:=⟨con3_ok fun o a b r h=>by
  cases h
  cases o with
  | none=>exact fn_by (rulesF (fn:=[(14,nearC),(40,facing2C),(41,innerC),(24,comC),(33,containsC),(42,smallC)]) (fr:=[]) ⟨nearRow,facing2Row,innerRow,comRow,containsRow,smallRow,trivial⟩ trivial) Try.func17 (by kernel_rfl) fun _ _=>why0_vc a b
  | some x=>exact fn_by (rulesF (fn:=[(14,nearC),(40,facing2C),(41,innerC),(24,comC),(33,containsC),(42,smallC)]) (fr:=[]) ⟨nearRow,facing2Row,innerRow,comRow,containsRow,smallRow,trivial⟩ trivial) Try.func17 (by kernel_rfl) fun _ h=>why_vc x a b (h x rfl),_,Try.func17,by kernel_rfl,by kernel_rfl⟩
theorem may_vc (o:Option tabE.T) (a b:Int) (hg: ∀ x,o=some x→Good x):afun ⟨tyL,[(17,whyC)],[]⟩ Try.f18 [(ETy.pt tabE).av o,i64E.av a,i64E.av b] (fun r=>r= .s (.bool (whyO o a b==0))):=by
  repeat' (conv=>whnf
           first | done | refine qN (by first | rfl | omega | (simp only [i64ok] at *;omega)) ?_ | apply qH | refine qG fun _=> ?_ | apply qB | apply qa | apply qo | refine qe (fun _=> ?_) (fun _=> ?_) | refine qn (fun _=> ?_) (fun _=> ?_) | refine qd (fun _=> ?_) (fun _=> ?_) | apply qt | refine qi (fun _=> ?_) (fun _=> ?_) | refine And.intro rfl ?_ | apply qE | apply qO | exact True.intro | apply qq | apply qs | refine qK (by kernel_rfl) ?_ | apply qr)
  all_goals try first | apply qz1 | apply qz2 | apply qz3 | apply qz4 | apply qz5 | apply qz6 | apply qz7 | apply qz8 | apply qz9 | apply qz0
  all_goals try simp only [take_one,take_one',set_one,take_all,qn1,rec_self,qn2,pair_eta,ETy.dflt,qn3,qn4,Int.reduceToNat,Int.reduceAdd,Int.reduceSub,Int.reduceNeg,Nat.reduceAdd,Nat.zero_add] at *
  all_goals first | exact qh hg | skip
def mayC:List AV→Option Res:=con3 (.pt tabE) i64E i64E (fun o a b=>some (none,some (∀ x,o=some x→Good x),.s (.bool (whyO o a b==0))))
theorem mayRow:FnRow Try.prog 18 mayC:=⟨con3_ok fun o a b r h=>by cases h;exact fn_by (rulesF (fn:=[(17,whyC)]) (fr:=[]) ⟨whyRow,trivial⟩ trivial) Try.func18 (by kernel_rfl) fun _ h=>may_vc o a b h,_,Try.func18,by kernel_rfl,by kernel_rfl⟩
end S1
open Go Go.Vm Go.Proofs
namespace S1
theorem near_self {x:tabE.T} (g:Good x) (a:Int):nearR x a a=false:=by
  have key: ¬ 0≤tFacing x (a,a):=fun h=>by
    unfold tFacing at h
    cases e:mget .arr2 x.2.1 (a,a) with
    | none=>rw [e] at h;exact absurd h (by decide)
    | some c =>
      obtain ⟨h1,h2⟩:=g.map _ _ e
      exact g.ends c h1 (by rw [h2])
  unfold nearR
  rw [decide_eq_false key];rfl
theorem why_far {x:tabE.T} {a b:Int} (h:nearR x a b=false):whyR x a b=1:=by unfold whyR;rw [h];rfl
end S1
open Go Go.Vm Go.Proofs
namespace S1
theorem fstI_mem (v:Int): ∀ (l:List Int) (i:Nat),fstI v l i≥0↔v∈l
  | [],i=>⟨fun h=>by have h:(-1:Int)≥0:=h;omega,fun h=>(by cases h)⟩
  | a ::r,i=>by
    unfold fstI
    split
    · rename_i e;subst e
      exact ⟨fun _=>List.mem_cons_self ..,fun _=>by omega⟩
    · rename_i e
      rw [fstI_mem v r,List.mem_cons]
      exact ⟨.inr,fun h=>h.resolve_left e⟩
theorem hasI_iff {v:Int} {l:List Int} :hasI v l=true↔v∈l:=by
  unfold hasI;rw [decide_eq_true_eq,fstI_mem]
theorem com_mem {x:tabE.T} (g:Full x) {a b v:Int} :v∈comR x a b↔a≠b∧nearR x a v=true∧nearR x b v=true:=by
  unfold comR
  split
  · rename_i h;exact ⟨fun h=>(by cases h),fun h'=>absurd h h'.1⟩
  · rename_i h
    rw [(sortI_perm _).mem_iff,List.mem_filter,hasI_iff,g.link_iff,g.link_iff]
    exact ⟨fun k=>⟨h,k⟩,fun k=>k.2⟩
theorem Full.fac {x:tabE.T} (g:Full x) {c:Int} (hc:tHas x c=true):facR x (tEdge x c).1 (tEdge x c).2=[tVert x c]++(if 0≤tOpp x c then [tVert x (tOpp x c)] else []):=by
  unfold facR
  have e1:tFacing x ((tEdge x c).1,(tEdge x c).2)=c:=g.facing hc
  have e2:tFacing x ((tEdge x c).2,(tEdge x c).1)=tOpp x c:=rfl
  rw [e1,e2,if_pos (tHas_iff.1 hc).1]
theorem whyL_iff {f l:List Int} :whyL f l=true↔∀ v∈l,v∈f:=by
  induction l with
  | nil=>exact ⟨fun _ v h=>(by cases h),fun _=>rfl⟩
  | cons a r ih =>
    unfold whyL
    rw [Bool.and_eq_true,hasI_iff,ih]
    exact ⟨fun ⟨h1,h2⟩ v hv=>by
      rcases List.mem_cons.1 hv with e | hv
      · rw [e];exact h1
      · exact h2 v hv,fun h=>⟨h a (List.mem_cons_self ..),fun v hv=>h v (List.mem_cons_of_mem _ hv)⟩⟩
end S1
open Go Go.Vm Go.Proofs
namespace S1
theorem aroundF_endF {x:tabE.T} (g:Good x) {b:Int} : ∀ n k,k+n=30000→FInv (tAfter x) b k→∃ y∈aroundF x b n (iter (tAfter x) b k),tAfter x y<0∨tAfter x y=b
  | 0,k,e,h=>by have:=fin_after g h;omega
  | n + 1,k,e,h=>by
    unfold aroundF
    by_cases h1:tAfter x (iter (tAfter x) b k)<0
    · rw [if_pos h1];exact ⟨_,List.mem_singleton.2 rfl,.inl h1⟩
    · rw [if_neg h1]
      by_cases h2:tAfter x (iter (tAfter x) b k)=b
      · rw [if_pos h2];exact ⟨_,List.mem_singleton.2 rfl,.inr h2⟩
      · rw [if_neg h2]
        obtain ⟨y,hy,h3⟩:=aroundF_endF g n (k+1) (by omega) (h.succ h1 h2)
        exact ⟨y,List.mem_cons_of_mem _ hy,h3⟩
section
variable {x:tabE.T} {c d:Int}
theorem Full.first_is (g:Full x) (hc:tHas x c=true) (h1:tBefore x c<0):(firstR x (tVert x c)).1=c:=by
  have hv:=tVert_in g.fit hc
  obtain ⟨b,eb,eL,_⟩:=g.around hv.1 hv.2
  have k1:=g.around_all hc
  rw [eL] at k1
  have:=aroundF_all (x:=x) (b:=b) (fun y=>y=b∨0≤tBefore x y) (fun y _ ha=> .inr (by rw [g.before_after ha];exact (tHas_iff.1 (g.after_has ha).1).1)) _ _ (.inl rfl) c k1
  rw [eb]
  rcases this with h | h
  · exact h.symm
  · omega
theorem Full.last_of_first (g:Full x) (hc:tHas x c=true) (h1:tBefore x c<0): ∃ y,tHas x y=true∧tVert x y=tVert x c∧tAfter x y<0:=by
  have hv:=tVert_in g.fit hc
  obtain ⟨b,eb,eL,_,_,_,hall,_⟩:=g.around hv.1 hv.2
  obtain ⟨y,hy,h⟩:=aroundF_endF g.toGood (b:=b) 30000 0 rfl (fun j a b=>by omega)
  have hy:y∈aroundL (some x) (tVert x c):=by rw [eL];exact hy
  obtain ⟨k1,k2⟩:=hall y hy
  rcases h with h | h
  · exact ⟨y,k1,k2,h⟩
  · have hb:=g.first_is hc h1
    rw [eb] at hb
    rw [hb] at h
    have:=g.before_after (c:=y) (by rw [h];exact (tHas_iff.1 hc).1)
    rw [h] at this
    have:=(tHas_iff.1 k1).1
    omega
end
def bE (x:tabE.T) (w u:Int):Prop:= ∃ c,tHas x c=true∧tOpp x c<0∧tEdge x c=(w,u)
section
variable {x:tabE.T}
theorem bE_last (g:Full x) {w u:Int} (h:bE x w u): ∃ d,tHas x d=true∧tVert x d=u∧tAfter x d<0∧tVert x (tPrev x d)=w:=by
  obtain ⟨c,h1,h2,h3⟩:=h
  refine ⟨tPrev x c,(hasNP h1).2,congrArg Prod.snd h3,?_,by rw [(np h1).2.2.2];exact congrArg Prod.fst h3⟩
  unfold tAfter;rw [(np h1).1,if_pos h2];decide
theorem bE_first (g:Full x) {w u:Int} (h:bE x w u): ∃ d,tHas x d=true∧tVert x d=w∧tBefore x d<0∧tVert x (tNext x d)=u:=by
  obtain ⟨c,h1,h2,h3⟩:=h
  refine ⟨tNext x c,(hasNP h1).1,congrArg Prod.fst h3,?_,by rw [(np h1).2.2.1];exact congrArg Prod.snd h3⟩
  unfold tBefore;rw [(np h1).2.1,if_pos h2];decide
theorem last_bE (g:Full x) {d:Int} (h:tHas x d=true) (ha:tAfter x d<0):bE x (tVert x (tPrev x d)) (tVert x d):=by
  refine ⟨tNext x d,(hasNP h).1,?_,edgeN h⟩
  by_cases e:tOpp x (tNext x d)<0
  · exact e
  · unfold tAfter at ha
    rw [if_neg e] at ha
    have:=(tHas_iff.1 (hasNP (g.opp (d:=tNext x d) (by omega)).2.1).1).1
    omega
theorem first_bE (g:Full x) {d:Int} (h:tHas x d=true) (ha:tBefore x d<0):bE x (tVert x d) (tVert x (tNext x d)):=by
  refine ⟨tPrev x d,(hasNP h).2,?_,edgeP h⟩
  by_cases e:tOpp x (tPrev x d)<0
  · exact e
  · unfold tBefore at ha
    rw [if_neg e] at ha
    have:=(tHas_iff.1 (hasNP (g.opp (d:=tPrev x d) (by omega)).2.1).2).1
    omega
theorem bE_next (g:Full x) {w u:Int} (h:bE x w u): ∃ z,bE x z w:=by
  obtain ⟨d,d1,d2,d3,d4⟩:=bE_first g h
  obtain ⟨y,y1,y2,y3⟩:=g.last_of_first d1 d3
  have:=last_bE g y1 y3
  rw [y2,d2] at this
  exact ⟨_,this⟩
end
end S1
open Go Go.Vm Go.Proofs
namespace S1
def eE (l:List P3) (a b:Int):Prop:= ∃ i,i<l.length∧dE (tg l i) a b
theorem cor_dE {x:tabE.T} {c:Int} (h:tHas x c=true):(c / 3).toNat<x.1.2.length∧dE (tg x.1.2 (c / 3).toNat) (tEdge x c).1 (tEdge x c).2:=by
  have hc:=tHas_iff.1 h
  have h1:=tHas_iff.1 (hasNP h).1
  have h2:=tHas_iff.1 (hasNP h).2
  refine ⟨by omega,?_⟩
  show dE _ (tVert x (tNext x c)) (tVert x (tPrev x c))
  rw [tVert_t h1.1 h1.2,tVert_t h2.1 h2.2,tNext_t h,tPrev_t h]
  have e1:(trn c 1 / 3).toNat=(c / 3).toNat:=by unfold trn;omega
  have e2:(trn c 2 / 3).toNat=(c / 3).toNat:=by unfold trn;omega
  rw [e1,e2]
  have:c % 3=0∨c % 3=1∨c % 3=2:=by omega
  rcases this with e | e | e
  · rw [show trn c 1 % 3=1 by unfold trn;omega,show trn c 2 % 3=2 by unfold trn;omega];exact .inr (.inl ⟨rfl,rfl⟩)
  · rw [show trn c 1 % 3=2 by unfold trn;omega,show trn c 2 % 3=0 by unfold trn;omega];exact .inr (.inr ⟨rfl,rfl⟩)
  · rw [show trn c 1 % 3=0 by unfold trn;omega,show trn c 2 % 3=1 by unfold trn;omega];exact .inl ⟨rfl,rfl⟩
theorem dE_cor {x:tabE.T} {j:Nat} {a b:Int} (hj:j<x.1.2.length) (h:dE (tg x.1.2 j) a b): ∃ c,tHas x c=true∧tEdge x c=(a,b)∧(c / 3).toNat=j:=by
  have key: ∀ k:Int,0≤k→k<3→p3 (tg x.1.2 j) ((k+1) % 3)=a→p3 (tg x.1.2 j) ((k+2) % 3)=b→∃ c,tHas x c=true∧tEdge x c=(a,b)∧(c / 3).toNat=j:=fun k h1 h2 ea eb=>by
    have hc:tHas x (3*(j:Int)+k)=true:=tHas_iff.2 (by omega)
    have k1:=tHas_iff.1 (hasNP hc).1
    have k2:=tHas_iff.1 (hasNP hc).2
    refine ⟨3*j+k,hc,?_,by omega⟩
    show (tVert x (tNext x _),tVert x (tPrev x _))=_
    rw [tVert_t k1.1 k1.2,tVert_t k2.1 k2.2,tNext_t hc,tPrev_t hc]
    rw [show (trn (3*(j:Int)+k) 1 / 3).toNat=j by unfold trn;omega,show (trn (3*(j:Int)+k) 2 / 3).toNat=j by unfold trn;omega,
      show trn (3*(j:Int)+k) 1 % 3=(k+1) % 3 by unfold trn;omega,show trn (3*(j:Int)+k) 2 % 3=(k+2) % 3 by unfold trn;omega,ea,eb]
  rcases h with h | h | h
  · exact key 2 (by omega) (by omega) h.1 h.2
  · exact key 0 (by omega) (by omega) h.1 h.2
  · exact key 1 (by omega) (by omega) h.1 h.2
theorem eE_iff {x:tabE.T} {a b:Int} :eE x.1.2 a b↔∃ c,tHas x c=true∧tEdge x c=(a,b):=by
  constructor
  · rintro ⟨i,hi,h⟩
    obtain ⟨c,h1,h2,_⟩:=dE_cor hi h
    exact ⟨c,h1,h2⟩
  · rintro ⟨c,h1,h2⟩
    have:=cor_dE h1
    rw [h2] at this
    exact ⟨_,this⟩
theorem bE_iff {x:tabE.T} (g:Full x) {w u:Int} :bE x w u↔eE x.1.2 w u∧¬ eE x.1.2 u w:=by
  rw [eE_iff,eE_iff]
  constructor
  · rintro ⟨c,h1,h2,h3⟩
    refine ⟨⟨c,h1,h3⟩,fun ⟨d,k1,k2⟩=> ?_⟩
    have:=g.opp_is (c:=c) k1 (by rw [k2,h3])
    have h4:=(tHas_iff.1 k1).1
    omega
  · rintro ⟨⟨c,h1,h3⟩,h⟩
    refine ⟨c,h1,?_,h3⟩
    by_cases e:tOpp x c<0
    · exact e
    · obtain ⟨k1,k2,k3,k4⟩:=g.opp_v (c:=c) (by omega)
      refine absurd ⟨tOpp x c,k2,?_⟩ h
      show (_,_)=_
      rw [k3,k4]
      have e1:tVert x (tNext x c)=w:=congrArg Prod.fst h3
      have e2:tVert x (tPrev x c)=u:=congrArg Prod.snd h3
      rw [e1,e2]
theorem inner_iff {x:tabE.T} (g:Full x) {v:Int} :innerR x v=true↔(0≤v∧v<x.1.1)∧¬ ∃ w,bE x w v:=by
  unfold innerR
  rw [Bool.and_eq_true,Bool.not_eq_true']
  constructor
  · rintro ⟨h1,h2⟩
    have ht:=there_iff.1 h1
    refine ⟨⟨ht.1,ht.2.1⟩,fun ⟨w,hw⟩=> ?_⟩
    obtain ⟨b,eb,eL,hb1,hb2,hb3,hall,_,_,hend⟩:=g.around ht.1 ht.2.1
    obtain ⟨d,d1,d2,d3,_⟩:=bE_last g hw
    rcases hend with h | h
    · rw [h.1] at h2;cases h2
    · have:=h.2 d (by rw [← d2];exact g.around_all d1)
      omega
  · rintro ⟨⟨h0,h1⟩,h2⟩
    refine ⟨g.there h0 h1,?_⟩
    obtain ⟨b,eb,eL,hb1,hb2,hb3,hall,_,_,hend⟩:=g.around h0 h1
    rcases hend with h | h
    · have:=first_bE g hb1 h.2
      rw [hb2] at this
      exact absurd (bE_next g this) h2
    · exact h.1
end S1
open Go Go.Vm Go.Proofs
namespace S1
theorem tg_mem {l:List P3} {i:Nat} (h:i<l.length):tg l i∈l:=by
  unfold tg;rw [gdE,gE h];exact List.getElem_mem h
theorem mem_tg {l:List P3} {t:P3} (h:t∈l): ∃ i,i<l.length∧tg l i=t:=by
  obtain ⟨i,hi,e⟩:=List.mem_iff_getElem.1 h
  exact ⟨i,hi,by unfold tg;rw [gdE,gE hi];exact e⟩
theorem eE_mem {l:List P3} {a b:Int} :eE l a b↔∃ t∈l,dE t a b:=by
  constructor
  · rintro ⟨i,hi,h⟩;exact ⟨_,tg_mem hi,h⟩
  · rintro ⟨t,ht,h⟩
    obtain ⟨i,hi,e⟩:=mem_tg ht
    exact ⟨i,hi,by rw [e];exact h⟩
theorem dE_hasV {t:P3} {a b:Int} (h:dE t a b):hasV t a∧hasV t b:=by
  rcases h with ⟨h1,h2⟩ | ⟨h1,h2⟩ | ⟨h1,h2⟩
  · exact ⟨.inl h1,.inr (.inl h2)⟩
  · exact ⟨.inr (.inl h1),.inr (.inr h2)⟩
  · exact ⟨.inr (.inr h1),.inl h2⟩
theorem fit_hasV {s:Int×List P3} (h:fitS s) {i:Nat} (hi:i<s.2.length) {v:Int} (hv:hasV (tg s.2 i) v):0≤v∧v<s.1:=by
  have:=triIn_spec (h.2.2.2 i hi)
  rcases hv with e | e | e<;>(rw [← e];first | exact this.1 | exact this.2.1 | exact this.2.2)
end S1
open Go Go.Vm Go.Proofs
namespace S1
def PinM (l:List P3) (v:Int):Prop:= ∀ Q:P3→Prop,
    (∀ t∈l,∀ u∈l,hasV t v→hasV u v→(∃ w:Int,w≠v∧hasV t w∧hasV u w)→Q t→Q u)→
    ∀ t∈l,hasV t v→Q t→∀ u∈l,hasV u v→Q u
structure SurfM (V:Int→Prop) (l:List P3):Prop where
  nd:l.Nodup
  ent: ∀ t∈l,∀ v,hasV t v→V v
  deg: ∀ t∈l,¬ dgn t
  dif: ∀ t∈l,∀ u∈l,t≠u→∀ a b,dE t a b→¬ dE u a b
  mir: ∀ t∈l,∀ u∈l,t≠u→¬ (hasV u t.1∧hasV u t.2.1∧hasV u t.2.2)
  use: ∀ v,V v→∃ t∈l,hasV t v
  pin: ∀ v,V v→PinM l v
instance (t:P3) (v:Int):Decidable (hasV t v):=inferInstanceAs (Decidable (t.1=v∨t.2.1=v∨t.2.2=v))
theorem third {t:P3} (hd: ¬ dgn t) {a b:Int} (hab:a≠b) (h1:hasV t a) (h2:hasV t b): ∃ r,r≠a∧r≠b∧hasV t r∧∀ w,hasV t w→w=a∨w=b∨w=r:=by
  obtain ⟨x,y,z⟩:=t
  unfold dgn at hd
  unfold hasV at h1 h2
  simp only at *
  rcases h1 with e1 | e1 | e1<;>rcases h2 with e2 | e2 | e2
  · omega
  · exact ⟨z,by omega,by omega,.inr (.inr rfl),fun w hw=>by unfold hasV at hw;simp only at hw;omega⟩
  · exact ⟨y,by omega,by omega,.inr (.inl rfl),fun w hw=>by unfold hasV at hw;simp only at hw;omega⟩
  · exact ⟨z,by omega,by omega,.inr (.inr rfl),fun w hw=>by unfold hasV at hw;simp only at hw;omega⟩
  · omega
  · exact ⟨x,by omega,by omega,.inl rfl,fun w hw=>by unfold hasV at hw;simp only at hw;omega⟩
  · exact ⟨y,by omega,by omega,.inr (.inl rfl),fun w hw=>by unfold hasV at hw;simp only at hw;omega⟩
  · exact ⟨x,by omega,by omega,.inl rfl,fun w hw=>by unfold hasV at hw;simp only at hw;omega⟩
  · omega
theorem dE_ne {t:P3} (hd: ¬ dgn t) {a b:Int} (h:dE t a b):a≠b:=by
  unfold dgn at hd;unfold dE at h;omega
theorem has_dE {t:P3} {v:Int} (h:hasV t v): ∃ w,dE t v w:=by
  rcases h with e | e | e
  · exact ⟨_,.inl ⟨e,rfl⟩⟩
  · exact ⟨_,.inr (.inl ⟨e,rfl⟩)⟩
  · exact ⟨_,.inr (.inr ⟨e,rfl⟩)⟩
theorem SurfM.same {V:Int→Prop} {l:List P3} (h:SurfM V l) {t u:P3} (ht:t∈l) (hu:u∈l) {a b r:Int} (hab:a≠b) (har:a≠r) (hbr:b≠r) (h1:hasV t a) (h2:hasV t b) (h3:hasV t r) (k1:hasV u a) (k2:hasV u b) (k3:hasV u r):t=u:=by
  apply Classical.byContradiction
  intro hne
  obtain ⟨r',e1,e2,e3,e4⟩:=third (h.deg t ht) hab h1 h2
  have er:r=r':=by
    rcases e4 r h3 with e | e | e
    · exact absurd e.symm har
    · exact absurd e.symm hbr
    · exact e
  subst er
  have key: ∀ w,hasV t w→hasV u w:=fun w hw=>by
    rcases e4 w hw with e | e | e<;>(subst e;assumption)
  exact h.mir t ht u hu hne ⟨key _ (.inl rfl),key _ (.inr (.inl rfl)),key _ (.inr (.inr rfl))⟩
def both (a b:Int) (t:P3):Bool:=decide (hasV t a∧hasV t b)
section
variable {V:Int→Prop} {l:List P3} {a b:Int}
end
end S1
