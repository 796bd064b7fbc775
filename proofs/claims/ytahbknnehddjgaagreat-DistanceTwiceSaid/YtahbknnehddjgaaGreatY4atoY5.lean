/- A part of the proofs of the laws. -/
import Derived.Test.YtahbknnehddjgaaGreatT3toVmInl
import Derived.Test.YtahbknnehddjgaaGreatF7toW5p
import Derived.Test.YtahbknnehddjgaaGreatF4toT16
import Derived.Test.YtahbknnehddjgaaGreatT17toW1
set_option linter.unusedSimpArgs false
set_option linter.unusedVariables false
set_option maxHeartbeats 8000000
set_option maxRecDepth 100000
open Go Go.Vm Go.Proofs
namespace S1
def fitB (t:P3) (n:Int):Bool:=triIn n t&&(t.1 != t.2.1&&(t.2.1 != t.2.2&&t.2.2 != t.1))
theorem fits_vc {fn} (t:P3) (n:Int):afun ⟨tyL,fn,[]⟩ Tryz.f57 [ETy.arr3.av t,i64E.av n] (fun r=>r= .s (.bool (fitB t n))):=by
  repeat' (conv=>whnf
           first | done | refine qN (by first | rfl | omega | (simp only [i64ok] at *;omega)) ?_ | apply qH | refine qG fun _=> ?_ | apply qB | apply qa | apply qo | refine qe (fun _=> ?_) (fun _=> ?_) | refine qn (fun _=> ?_) (fun _=> ?_) | refine qd (fun _=> ?_) (fun _=> ?_) | apply qt | refine qi (fun _=> ?_) (fun _=> ?_) | (refine atReg 2 rfl ?_;refine Or.inl (Exists.intro (4) ?_)) | refine And.intro rfl ?_ | apply qE | apply qO | exact True.intro | apply qq | apply qs | refine qK (by kernel_rfl) ?_ | apply qr)
  all_goals try first | apply qz1 | apply qz2 | apply qz3 | apply qz4 | apply qz5 | apply qz6 | apply qz7 | apply qz8 | apply qz9 | apply qz0
  all_goals try simp only [take_one,take_one',set_one,take_all,qn1,rec_self,qn2,pair_eta,ETy.dflt,qn3,qn4,Int.reduceToNat,Int.reduceAdd,Int.reduceSub,Int.reduceNeg,Nat.reduceAdd,Nat.zero_add,fitB] at *
  all_goals rw [Bool.eq_iff_iff];simp only [triIn,vIn,Bool.and_eq_true,Bool.not_eq_true',Bool.or_eq_false_iff,decide_eq_false_iff_not,bne_iff_ne,Bool.false_eq_true,true_iff,iff_true,false_iff,iff_false];omega
def fitsC:List AV→Option Res:=con2 .arr3 i64E (fun t n=>some (none,none,.s (.bool (fitB t n))))
theorem fitsRow:FnRow Tryz.prog 57 fitsC:=⟨con2_ok fun t n r h=>by cases h;exact fn_by (rulesF (fn:=[]) (fr:=[]) trivial trivial) Tryz.func57 (by kernel_rfl) fun _ _=>fits_vc t n,_,Tryz.func57,by kernel_rfl,by kernel_rfl⟩
theorem fits1_vc (t:P3) (n:Int) (l:List P3):afun ⟨tyL,[(57,fitsC)],[]⟩ Tryz.f56 [ETy.arr3.av t,(ETy.pt soupE).av (some (n,l))] (fun r=>r= .s (.bool (!fitB t n))):=by
  repeat' (conv=>whnf
           first | done | refine qN (by first | rfl | omega | (simp only [i64ok] at *;omega)) ?_ | apply qH | refine qG fun _=> ?_ | apply qB | apply qa | apply qo | refine qe (fun _=> ?_) (fun _=> ?_) | refine qn (fun _=> ?_) (fun _=> ?_) | refine qd (fun _=> ?_) (fun _=> ?_) | apply qt | refine qi (fun _=> ?_) (fun _=> ?_) | refine And.intro rfl ?_ | apply qE | apply qO | exact True.intro | apply qq | apply qs | refine qK (by kernel_rfl) ?_ | apply qr)
  all_goals try first | apply qz1 | apply qz2 | apply qz3 | apply qz4 | apply qz5 | apply qz6 | apply qz7 | apply qz8 | apply qz9 | apply qz0
  all_goals try simp only [take_one,take_one',set_one,take_all,qn1,rec_self,qn2,pair_eta,ETy.dflt,qn3,qn4,Int.reduceToNat,Int.reduceAdd,Int.reduceSub,Int.reduceNeg,Nat.reduceAdd,Nat.zero_add,Option.getD_some] at *
def fits1C:List AV→Option Res:=con2 .arr3 (.pt soupE) (fun t o=>match o with | some s=>some (none,none,.s (.bool (!fitB t s.1))) | none=>none)
theorem fits1Row:FnRow Tryz.prog 56 fits1C:=⟨con2_ok fun t o r h=>by
  cases o with
  | none=>cases h
  | some s=>cases h;exact fn_by (rulesF (fn:=[(57,fitsC)]) (fr:=[]) ⟨fitsRow,trivial⟩ trivial) Tryz.func56 (by kernel_rfl) fun _ _=>fits1_vc t s.1 s.2,_,Tryz.func56,by kernel_rfl,by kernel_rfl⟩
attribute [local irreducible] fitB
def badF (n:Int):List P3→Nat→Int
  | [],_=> -1
  | t::r,i=>if fitB t n=false then (i:Int) else badF n r (i+1)
def loopBF (n:Int) (l:List P3):Spec Nat where
  inv x:=x≤l.length∧badF n l 0=badF n (l.drop x) x
  live x:=[(8,.s (.int .i64 x))]
  keep:=[0,1,7]
  heap _:=[]
  keepH:=[]
  mu x:=l.length - x
theorem drop_nowT {l:List P3} {x:Nat} (h:x<l.length):l.drop x=l.getD x (0,0,0)::l.drop (x+1):=by
  rw [List.drop_eq_getElem_cons h,gdE,gE h];rfl
theorem badI_vc (l:List P3) (s:Int×List P3):afun ⟨tyL,[(56,fits1C)],[]⟩ Tryz.f84 [(ETy.sl .arr3).av l,.s (.clo 56 [⟨soupE,s⟩])] (fun r=>r= .s (.int .i64 (badF s.1 l 0))):=by
  repeat' (conv=>whnf
           first | done | refine qN (by first | rfl | omega | (simp only [i64ok] at *;omega)) ?_ | apply qH | refine qG fun _=> ?_ | apply qB | apply qa | apply qo | refine qe (fun _=> ?_) (fun _=> ?_) | refine qn (fun _=> ?_) (fun _=> ?_) | refine qd (fun _=> ?_) (fun _=> ?_) | apply qt | refine qi (fun _=> ?_) (fun _=> ?_) | (refine atReg 2 rfl ?_;refine Or.inr (Exists.intro (Nat) (Exists.intro (loopBF s.1 l) (And.intro (Exists.intro (0) (And.intro (Hold.out ?_) (And.intro ?_ (And.intro ?_ rfl)))) (fun x hx=> ?_))))) | ((with_reducible show (∃ y,And (Spec.inv (loopBF _ _) y) _));refine Exists.intro (x+1) (And.intro (Hold.out ?_) (And.intro (And.intro ?_ (And.intro ?_ rfl)) (Hold.out ?_)))) | refine And.intro rfl ?_ | apply qE | apply qO | exact True.intro | apply qq | apply qs | refine qK (by kernel_rfl) ?_ | apply qr)
  all_goals try first | apply qz1 | apply qz2 | apply qz3 | apply qz4 | apply qz5 | apply qz6 | apply qz7 | apply qz8 | apply qz9 | apply qz0
  all_goals try simp only [take_one,take_one',set_one,take_all,qn1,rec_self,qn2,pair_eta,ETy.dflt,qn3,qn4,Int.reduceToNat,Int.reduceAdd,Int.reduceSub,Int.reduceNeg,Nat.reduceAdd,Nat.zero_add,loopBF] at *
  all_goals try (refine qh ?_;omega)
  · exact qh ⟨Nat.zero_le _,rfl⟩
  · rename_i h1 h2
    exact qh ⟨by omega,by rw [hx.2,drop_nowT (by omega),badF,if_neg (by rw [h2];simp)]⟩
  · rename_i h1 h2
    rw [hx.2,drop_nowT (by omega),badF,if_pos h2]
  · rw [hx.2,List.drop_eq_nil_of_le (by omega)];rfl
def badIC:List AV→Option Res
  | [.s (.sl .arr3 l),.s (.clo f [⟨.pair (.int .i64) (.sl .arr3),s⟩])]=>match Nat.beq f 56 with
    | true=>some (none,none,.s (.int .i64 (badF s.1 l 0)))
    | false=>none
  | _=>none
theorem badIRow:FnRow Tryz.prog 84 badIC:=⟨fun args r h=>by
  unfold badIC at h
  split at h
  case h_2=>cases h
  split at h
  case h_2=>cases h
  rename_i he
  cases h
  rw [Nat.eq_of_beq_eq_true he]
  exact fn_by (rulesF (fn:=[(56,fits1C)]) (fr:=[]) ⟨fits1Row,trivial⟩ trivial) Tryz.func84 (by kernel_rfl) fun _ _=>badI_vc _ _,_,Tryz.func84,by kernel_rfl,by kernel_rfl⟩
theorem badC_vc (l:List P3) (s:Int×List P3):afun ⟨tyL,[(84,badIC)],[]⟩ Tryz.f55 [(ETy.sl .arr3).av l,.s (.clo 56 [⟨soupE,s⟩])] (fun r=>r= .s (.bool (decide (badF s.1 l 0≥0)))):=by
  repeat' (conv=>whnf
           first | done | refine qN (by first | rfl | omega | (simp only [i64ok] at *;omega)) ?_ | apply qH | refine qG fun _=> ?_ | apply qB | apply qa | apply qo | refine qe (fun _=> ?_) (fun _=> ?_) | refine qn (fun _=> ?_) (fun _=> ?_) | refine qd (fun _=> ?_) (fun _=> ?_) | apply qt | refine qi (fun _=> ?_) (fun _=> ?_) | refine And.intro rfl ?_ | apply qE | apply qO | exact True.intro | apply qq | apply qs | refine qK (by kernel_rfl) ?_ | apply qr)
  all_goals try first | apply qz1 | apply qz2 | apply qz3 | apply qz4 | apply qz5 | apply qz6 | apply qz7 | apply qz8 | apply qz9 | apply qz0
  all_goals try simp only [take_one,take_one',set_one,take_all,qn1,rec_self,qn2,pair_eta,ETy.dflt,qn3,qn4,Int.reduceToNat,Int.reduceAdd,Int.reduceSub,Int.reduceNeg,Nat.reduceAdd,Nat.zero_add] at *
def badCC:List AV→Option Res
  | [.s (.sl .arr3 l),.s (.clo f [⟨.pair (.int .i64) (.sl .arr3),s⟩])]=>match Nat.beq f 56 with
    | true=>some (none,none,.s (.bool (decide (badF s.1 l 0≥0))))
    | false=>none
  | _=>none
theorem badCRow:FnRow Tryz.prog 55 badCC:=⟨fun args r h=>by
  unfold badCC at h
  split at h
  case h_2=>cases h
  split at h
  case h_2=>cases h
  rename_i he
  cases h
  rw [Nat.eq_of_beq_eq_true he]
  exact fn_by (rulesF (fn:=[(84,badIC)]) (fr:=[]) ⟨badIRow,trivial⟩ trivial) Tryz.func55 (by kernel_rfl) fun _ _=>badC_vc _ _,_,Tryz.func55,by kernel_rfl,by kernel_rfl⟩
def soupFit (s:Int×List P3):Bool:= !(decide (s.1<0)|| (decide (s.1>4096)|| (decide ((s.2.length:Int)>8192)|| decide (badF s.1 s.2 0≥0))))
theorem sfit_vc (n:Int) (l:List P3):afun ⟨tyL,[(55,badCC)],[]⟩ Tryz.f29 [soupE.av (n,l)] (fun r=>r= .s (.bool (soupFit (n,l)))):=by
  repeat' (conv=>whnf
           first | done | refine qN (by first | rfl | omega | (simp only [i64ok] at *;omega)) ?_ | apply qH | refine qG fun _=> ?_ | apply qB | apply qa | apply qo | refine qe (fun _=> ?_) (fun _=> ?_) | refine qn (fun _=> ?_) (fun _=> ?_) | refine qd (fun _=> ?_) (fun _=> ?_) | apply qt | refine qi (fun _=> ?_) (fun _=> ?_) | refine And.intro rfl ?_ | apply qE | apply qO | exact True.intro | apply qq | apply qs | refine qK (by kernel_rfl) ?_ | apply qr)
  all_goals try first | apply qz1 | apply qz2 | apply qz3 | apply qz4 | apply qz5 | apply qz6 | apply qz7 | apply qz8 | apply qz9 | apply qz0
  all_goals try simp only [take_one,take_one',set_one,take_all,qn1,rec_self,qn2,pair_eta,ETy.dflt,qn3,qn4,Int.reduceToNat,Int.reduceAdd,Int.reduceSub,Int.reduceNeg,Nat.reduceAdd,Nat.zero_add,soupFit] at *
  all_goals simp [*]
def sfitC:List AV→Option Res:=con1 soupE (fun s=>some (none,none,.s (.bool (soupFit s))))
theorem sfitRow:FnRow Tryz.prog 29 sfitC:=⟨con1_ok fun s r h=>by cases h;exact fn_by (rulesF (fn:=[(55,badCC)]) (fr:=[]) ⟨badCRow,trivial⟩ trivial) Tryz.func29 (by kernel_rfl) fun _ _=>sfit_vc s.1 s.2,_,Tryz.func29,by kernel_rfl,by kernel_rfl⟩
theorem badF_no (n:Int): ∀ (l:List P3) (i:Nat),(∀ t∈l,fitB t n=true)→badF n l i= -1
  | [],_,_=>rfl
  | t::r,i,h=>by
    unfold badF
    rw [if_neg (by rw [h t (List.mem_cons_self ..)];simp)]
    exact badF_no n r (i+1) fun u hu=>h u (List.mem_cons_of_mem _ hu)
abbrev RecT:=Int×Int×List Int×List P3×List Int
abbrev SoT:=Int×List P3
abbrev recE:ETy:= .pair i64E (.pair i64E (.pair (.sl i64E) (.pair (.sl .arr3) (.sl i64E))))
def mapV (v a b:Int):Int:=if v<0 then -1 else if (if v=a then b else v)>a then (if v=a then b else v) - 1 else (if v=a then b else v)
theorem cmap_vc {fn} (v:Int) (r:RecT) (h:(-1000000≤v∧v≤1000000)∧(-1000000≤r.2.1∧r.2.1≤1000000)):afun ⟨tyL,fn,[]⟩ Tryz.f34 [i64E.av v,recE.av r] (fun x=>x= .s (.int .i64 (mapV v r.1 r.2.1))):=by
  repeat' (conv=>whnf
           first | done | refine qN (by first | rfl | omega | (simp only [i64ok] at *;omega)) ?_ | apply qH | refine qG fun _=> ?_ | apply qB | apply qa | apply qo | refine qe (fun _=> ?_) (fun _=> ?_) | refine qn (fun _=> ?_) (fun _=> ?_) | refine qd (fun _=> ?_) (fun _=> ?_) | apply qt | refine qi (fun _=> ?_) (fun _=> ?_) | refine And.intro rfl ?_ | apply qE | apply qO | exact True.intro | apply qq | apply qs | refine qK (by kernel_rfl) ?_ | apply qr)
  all_goals try first | apply qz1 | apply qz2 | apply qz3 | apply qz4 | apply qz5 | apply qz6 | apply qz7 | apply qz8 | apply qz9 | apply qz0
  all_goals try simp only [take_one,take_one',set_one,take_all,qn1,rec_self,qn2,pair_eta,ETy.dflt,qn3,qn4,Int.reduceToNat,Int.reduceAdd,Int.reduceSub,Int.reduceNeg,Nat.reduceAdd,Nat.zero_add,mapV] at *
  all_goals try (refine qh ?_;unfold i64ok;omega)
  all_goals
    (repeat' split)<;>first | rfl | (exfalso;omega) | omega
def cmapC:List AV→Option Res:=con2 i64E recE (fun (v:Int) (r:RecT)=>some (none,some ((-1000000≤v∧v≤1000000)∧(-1000000≤r.2.1∧r.2.1≤1000000)),.s (.int .i64 (mapV v r.1 r.2.1))))
theorem cmapRow:FnRow Tryz.prog 34 cmapC:=⟨con2_ok fun v r r h=>by cases h;exact fn_by (rulesF (fn:=[]) (fr:=[]) trivial trivial) Tryz.func34 (by kernel_rfl) fun _ h=>cmap_vc v r h,_,Tryz.func34,by kernel_rfl,by kernel_rfl⟩
def reasI (w:Int):Int:=if w=1 then 8 else if w=2 then 13 else if w=3∨w=4 then 14 else 0
theorem reas_vc {fn} (w:Int):afun ⟨tyL,fn,[]⟩ Tryz.f30 [i64E.av w] (fun x=>x= .s (.int .i64 (reasI w))):=by
  repeat' (conv=>whnf
           first | done | refine qN (by first | rfl | omega | (simp only [i64ok] at *;omega)) ?_ | apply qH | refine qG fun _=> ?_ | apply qB | apply qa | apply qo | refine qe (fun _=> ?_) (fun _=> ?_) | refine qn (fun _=> ?_) (fun _=> ?_) | refine qd (fun _=> ?_) (fun _=> ?_) | apply qt | refine qi (fun _=> ?_) (fun _=> ?_) | refine And.intro rfl ?_ | apply qE | apply qO | exact True.intro | apply qq | apply qs | refine qK (by kernel_rfl) ?_ | apply qr)
  all_goals try first | apply qz1 | apply qz2 | apply qz3 | apply qz4 | apply qz5 | apply qz6 | apply qz7 | apply qz8 | apply qz9 | apply qz0
  all_goals try simp only [take_one,take_one',set_one,take_all,qn1,rec_self,qn2,pair_eta,ETy.dflt,qn3,qn4,Int.reduceToNat,Int.reduceAdd,Int.reduceSub,Int.reduceNeg,Nat.reduceAdd,Nat.zero_add,reasI] at *
  all_goals
    (repeat' split)<;>first | rfl | (exfalso;omega)
def reasC:List AV→Option Res:=con1 i64E (fun w=>some (none,none,.s (.int .i64 (reasI w))))
theorem reasRow:FnRow Tryz.prog 30 reasC:=⟨con1_ok fun w r h=>by cases h;exact fn_by (rulesF (fn:=[]) (fr:=[]) trivial trivial) Tryz.func30 (by kernel_rfl) fun _ _=>reas_vc w,_,Tryz.func30,by kernel_rfl,by kernel_rfl⟩
def eqS (a b:SoT):Bool:=decide (a=b)
def eqL (a b:List Int):Bool:=decide (a=b)
end S1
open Go Go.Vm Go.Proofs
namespace S1
def atG (a b:Int) (l:List P3) (i:Nat):Option Int:=if both a b (tg l i)=true then some (i:Int) else none
def rtG (a b:Int) (l:List P3) (i:Nat):Option P3:=if both a b (tg l i)=true then some (tg l i) else none
def pos3 (a:Int) (t:P3):Int:=if t.1=a then 0 else if t.2.1=a then 1 else 2
def fanG (a b:Int) (l:List P3) (i:Nat):Option Int:=if both a b (tg l i)=true then none else if hasV (tg l i) a then some (3*(i:Int)+pos3 a (tg l i)) else none
def atL (a b:Int) (l:List P3) (i:Nat):List Int:=(List.range i).filterMap (atG a b l)
def rtL (a b:Int) (l:List P3) (i:Nat):List P3:=(List.range i).filterMap (rtG a b l)
def fanL (a b:Int) (l:List P3) (i:Nat):List Int:=(List.range i).filterMap (fanG a b l)
def recR (s:SoT) (a b:Int):RecT:=(a,b,atL a b s.2 s.2.length,rtL a b s.2 s.2.length,fanL a b s.2 s.2.length)
theorem fm_at {α:Type} (d:α) (f:Nat→Option α) {i:Nat} {x:α} (h:f i=some x): ∀ n,i<n→((List.range i).filterMap f).length<((List.range n).filterMap f).length∧((List.range n).filterMap f).getD ((List.range i).filterMap f).length d=x
  | 0,hi=>by omega
  | n +1,hi=>by
    rw [fm_succ]
    by_cases e:i=n
    · subst e
      rw [h,Option.toList]
      refine ⟨by simp,?_⟩
      rw [gdE,List.getElem?_append_right (Nat.le_refl _)];simp
    · obtain ⟨h1,h2⟩:=fm_at d f h n (by omega)
      refine ⟨by rw [List.length_append];omega,?_⟩
      rw [gdE,List.getElem?_append_left h1,← gdE];exact h2
theorem at_dr (a b:Int) (l:List P3): ∀ i,(atL a b l i).length+(drL a b l i).length=i
  | 0=>rfl
  | i+1=>by
    have ih:=at_dr a b l i
    have e1:atL a b l (i+1)=atL a b l i++(atG a b l i).toList:=fm_succ _ _
    rw [e1,drL_succ]
    unfold atG drG
    split<;>simp only [Option.toList,List.length_append,List.length_singleton,List.length_nil]<;>omega
theorem at_rt (a b:Int) (l:List P3): ∀ i,(atL a b l i).length=(rtL a b l i).length
  | 0=>rfl
  | i+1=>by
    have ih:=at_rt a b l i
    have e1:atL a b l (i+1)=atL a b l i++(atG a b l i).toList:=fm_succ _ _
    have e2:rtL a b l (i+1)=rtL a b l i++(rtG a b l i).toList:=fm_succ _ _
    rw [e1,e2]
    unfold atG rtG
    split<;>simp only [Option.toList,List.length_append,List.length_singleton,List.length_nil]<;>omega
theorem at_len (a b:Int) (l:List P3) (i:Nat):(atL a b l i).length≤i:=fm_len _ _
theorem rt_len (a b:Int) (l:List P3) (i:Nat):(rtL a b l i).length≤i:=fm_len _ _
theorem fan_len (a b:Int) (l:List P3) (i:Nat):(fanL a b l i).length≤i:=fm_len _ _
def upV (A v:Int):Int:=if v≥A then v+1 else v
def upT (A:Int) (t:P3):P3:=(upV A t.1,upV A t.2.1,upV A t.2.2)
abbrev GoT:=List (Int×P3)
def gonM (at_:List Int) (ts:List P3) (k:Nat):GoT:=irec (fun (m:GoT) k=>(mset (.int .i64) m (at_.getD k 0) (ts.getD k (0,0,0)):GoT)) [] k
def kF (g:GoT):Nat→Nat
  | 0=>0
  | i+1=>if (mget (.int .i64) g (i:Int)).isSome=true then kF g i else kF g i+1
def bkT (g:GoT) (T:List P3) (A:Int) (i:Nat):P3:=(mget (.int .i64) g (i:Int)).getD (upT A (tg T (kF g i)))
def outB (g:GoT) (T:List P3) (A:Int) (i:Nat):List P3:=(List.range i).map (bkT g T A)
def set3 (t:P3) (k:Nat) (v:Int):P3:=(if k=0 then v else t.1,if k=1 then v else t.2.1,if k=2 then v else t.2.2)
def fanS1 (A:Int) (o:List P3) (c:Int):List P3:=o.set (c.tdiv 3).toNat (set3 (o.getD (c.tdiv 3).toNat (0,0,0)) (c.tmod 3).toNat A)
def fanO (A:Int) (fan:List Int) (o:List P3) (j:Nat):List P3:=irec (fun o k=>fanS1 A o (fan.getD k 0)) o j
def bkN (s:SoT) (r:RecT):Nat:=s.2.length+r.2.2.1.length
def bkC (s:SoT) (r:RecT):Prop:=r.2.2.1.length=r.2.2.2.1.length∧0≤r.1∧r.1≤s.1∧s.1<4096∧bkN s r≤8192
instance (s:SoT) (r:RecT):Decidable (bkC s r):=inferInstanceAs (Decidable (_∧_))
def bkG (r:RecT):GoT:=gonM r.2.2.1 r.2.2.2.1 r.2.2.1.length
def fanB (n:Nat) (fan:List Int):Bool:=fan.all fun c=>decide (0≤c∧c<3*(n:Int))
def bkR (s:SoT) (r:RecT):SoT×Bool :=
  if bkC s r∧kF (bkG r) (bkN s r)≤s.2.length∧fanB (bkN s r) r.2.2.2.2=true then
    ((s.1+1,fanO r.1 r.2.2.2.2 (outB (bkG r) s.2 r.1 (bkN s r)) r.2.2.2.2.length),decide (kF (bkG r) (bkN s r)=s.2.length))
  else ((0,[]),false)
structure Was (w:SoT) (a b:Int):Prop where
  surf:Surf w
  ha:InN w.1 a
  hb:InN w.1 b
  ne:a≠b
section
variable {w:SoT} {a b:Int} (h:Was w a b)
theorem pos3_r {a:Int} {t:P3} :0≤pos3 a t∧pos3 a t<3:=by unfold pos3;split<;>(try split)<;>omega
include h
end
def rbC (s:SoT) (r:RecT):Prop:=r.2.2.1.length=r.2.2.2.1.length∧bkN s r≤8192∧0≤r.1∧r.1≤s.1
instance (s:SoT) (r:RecT):Decidable (rbC s r):=inferInstanceAs (Decidable (_∧_))
section
variable {w:SoT} {a b:Int} (h:Was w a b)
include h
end
end S1
open Go Go.Vm Go.Proofs
namespace S1
theorem nil_av {σ:Sig} {β:Places} {v:Value} (h:VRep σ β ((ETy.pt tabE).av none) v):VRep σ β (nilO none) v:=by
  have h:[v]=[Value.pointer none]:=h
  exact ⟨(List.cons.inj h).1,by simp [Scal]⟩
theorem FnOk.res {P:Program} {f:FuncId} {args:List AV} {p q:Option Prop} {u u':AV} (h:FnOk P f args (p,q,u)) (hu: ∀ (σ:Sig) (v:Value),VRep σ [] u v→VRep σ [] u' v):FnOk P f args (p,q,u') :=
  fun σ vals w h1 h2=>⟨(h σ vals w h1 h2).1,fun hq=>((h σ vals w h1 h2).2 hq).mono fun _ _ ⟨v,σ',e1,e2,e3,e4,e5,e6⟩=>⟨v,σ',e1,e2,e3,e4,hu σ' v e5,e6⟩⟩
def newXC (x:tabE.T):List AV→Option Res:=con1 soupE (fun s=>some (none,some (newO s=some x),.tup [(ETy.pt tabE).av (some x),witE.av (0,0,0)]))
theorem newXRow (x:tabE.T):FnRow Tryz.prog 28 (newXC x):=⟨con1_ok fun s r h=>by
  cases h
  intro σ vals w hag hv
  refine ⟨trivial,fun hq=> ?_⟩
  have hq:newO s=some x:=hq
  have:=(newRow.1 _ _ (rfl:newC [soupE.av s]=_) σ vals w hag hv).2 trivial
  have hc:(chkR s).1=0:=by
    unfold newO at hq
    split at hq
    · assumption
    · cases hq
  rw [hq,chk_eq hc] at this
  exact this,_,Tryz.func28,by kernel_rfl,by kernel_rfl⟩
def newNC:List AV→Option Res:=con1 soupE (fun s=>some (none,some (newO s=none),.tup [nilO none,witE.av (chkR s)]))
theorem newNRow:FnRow Tryz.prog 28 newNC:=⟨con1_ok fun s r h=>by
  cases h
  intro σ vals w hag hv
  refine ⟨trivial,fun hq=> ?_⟩
  have hq:newO s=none:=hq
  have:=(newRow.1 _ _ (rfl:newC [soupE.av s]=_) σ vals w hag hv).2 trivial
  rw [hq] at this
  refine this.mono fun e w' ⟨v,σ',e1,e2,e3,e4,e5,e6⟩=>⟨v,σ',e1,e2,e3,e4,?_,e6⟩
  obtain ⟨vs,e,r⟩:=e5
  match vs,r with
  | [a,b],r=>exact ⟨_,e,nil_av r.1,r.2.1,trivial⟩,_,Tryz.func28,by kernel_rfl,by kernel_rfl⟩
end S1
open Go Go.Vm Go.Proofs
namespace S1
def doE (s:SoT) (a b:Int):Int:=if isR s=true then (if (0≤a∧a<s.1)∧(0≤b∧b<s.1) then reasI (whyR (newT s) a b) else 2) else 11
def doR (s:SoT) (a b:Int):SoT×RecT×Int:=if doE s a b=0 then ((s.1 - 1,drL a b s.2 s.2.length),recR s a b,0) else ((0,[]),(0,0,[],[],[]),doE s a b)
def doV (r:SoT×RecT×Int):AV:= .tup [soupE.av r.1,recE.av r.2.1,.s (.int .i64 r.2.2)]
def doW (r:SoT×RecT×Int):AV:=if r.2.2=0 then doV r else .tup [.agg [.int .i64 0,.val (.slice none 0 0)],.agg [.int .i64 0,.int .i64 0,.val (.slice none 0 0),.val (.slice none 0 0),.val (.slice none 0 0)],.s (.int .i64 r.2.2)]
theorem doR_0 {s:SoT} {a b:Int} (h:doE s a b=0):doR s a b=((s.1 - 1,drL a b s.2 s.2.length),recR s a b,0):=if_pos h
theorem doR_e {s:SoT} {a b:Int} (h:doE s a b≠0):doR s a b=((0,[]),(0,0,[],[],[]),doE s a b):=if_neg h
theorem doR_err (s:SoT) (a b:Int):(doR s a b).2.2=doE s a b:=by
  by_cases h:doE s a b=0
  · rw [doR_0 h,h]
  · rw [doR_e h]
theorem is_surf (s:SoT):isR s=true↔Surf s:=by
  unfold isR
  rw [decide_eq_true_eq]
  exact ⟨fun h=>(surf_iff s).1 (by rw [h]),fun h=>chk_eq ((surf_iff s).2 h)⟩
theorem doE_surf {s:SoT} (h:Surf s) (a b:Int):doE s a b=if (0≤a∧a<s.1)∧(0≤b∧b<s.1) then reasI (whyR (newT s) a b) else 2:=if_pos ((is_surf s).2 h)
theorem doE_no {s:SoT} (h:newO s=none) (a b:Int):doE s a b=11:=if_neg fun k=>by
  have:=(new_of ((is_surf s).1 k)).1
  rw [h] at this;cases this
theorem doW_e {s:SoT} {a b e:Int} (h:doE s a b=e) (he:e≠0):doW (doR s a b)= .tup [.agg [.int .i64 0,.val (.slice none 0 0)],.agg [.int .i64 0,.int .i64 0,.val (.slice none 0 0),.val (.slice none 0 0),.val (.slice none 0 0)],.s (.int .i64 e)]:=by
  unfold doW
  rw [doR_err,h,if_neg he]
theorem doW_0 {s:SoT} {a b:Int} (h:doE s a b=0):doW (doR s a b)=doV ((s.1 - 1,drL a b s.2 s.2.length),recR s a b,0):=by
  unfold doW
  rw [doR_err,h,if_pos rfl,doR_0 h]
theorem nil_sl {σ:Sig} {e:ETy} {v:Value} (h:ARep σ [] (.val (.slice none 0 0)) v):ARep σ [] (.sl e []) v:=by
  obtain ⟨h,_⟩:=h
  subst h
  exact zeroVals_rep (.sl e)
theorem doW_rep {σ:Sig} {s:SoT} {a b:Int} {v:Value} (h:VRep σ [] (doW (doR s a b)) v):VRep σ [] (doV (doR s a b)) v:=by
  by_cases he:doE s a b=0
  · rw [doW_0 he] at h;rw [doR_0 he];exact h
  · rw [doW_e rfl he] at h
    rw [doR_e he]
    obtain ⟨vs,e1,h⟩:=h
    match vs,h with
    | [x,y,z],⟨⟨ds,ea,h1⟩,⟨dt,eb,h2⟩,h3⟩ =>
      refine ⟨_,e1,⟨ds,ea,?_⟩,⟨dt,eb,?_⟩,h3⟩
      · match ds,h1 with
        | [d1,d2],⟨k1,k2,k3⟩=>exact ⟨k1,nil_sl k2,k3⟩
      · match dt,h2 with
        | [d1,d2,d3,d4,d5],⟨k1,k2,k3,k4,k5,k6⟩=>exact ⟨k1,k2,nil_sl k3,nil_sl k4,nil_sl k5,k6⟩
theorem fst3 (a:Int) (t:P3):(fstI a [t.1,t.2.1,t.2.2] 0≥0↔hasV t a)∧(hasV t a→fstI a [t.1,t.2.1,t.2.2] 0=pos3 a t):=by
  obtain ⟨x,y,z⟩:=t
  simp only [fstI,hasV,pos3]
  refine ⟨?_,fun h=> ?_⟩
  · by_cases h1:a=x
    · rw [if_pos h1];exact ⟨fun _=> .inl h1.symm,fun _=>by decide⟩
    · rw [if_neg h1]
      by_cases h2:a=y
      · rw [if_pos h2];exact ⟨fun _=> .inr (.inl h2.symm),fun _=>by decide⟩
      · rw [if_neg h2]
        by_cases h3:a=z
        · rw [if_pos h3];exact ⟨fun _=> .inr (.inr h3.symm),fun _=>by decide⟩
        · rw [if_neg h3];exact ⟨fun h=>absurd h (by decide),fun h=>by omega⟩
  · by_cases h1:x=a
    · rw [if_pos h1,if_pos h1.symm];rfl
    · rw [if_neg h1,if_neg (Ne.symm h1)]
      by_cases h2:y=a
      · rw [if_pos h2,if_pos h2.symm];rfl
      · rw [if_neg h2,if_neg (Ne.symm h2),if_pos (by omega)];rfl
theorem has3 (a:Int) (t:P3):hasI a [t.1,t.2.1,t.2.2]=true↔hasV t a:=by unfold hasI;rw [decide_eq_true_eq];exact (fst3 a t).1
theorem mapV_dr {a b v:Int} (h:0≤v):mapV v a b=dn a (ph a b v):=by
  unfold mapV dn ph;rw [if_neg (by omega)]
theorem atL_0 (a b:Int) (l:List P3):atL a b l 0=[]:=rfl
theorem rtL_0 (a b:Int) (l:List P3):rtL a b l 0=[]:=rfl
theorem fanL_0 (a b:Int) (l:List P3):fanL a b l 0=[]:=rfl
theorem drL_0 (a b:Int) (l:List P3):drL a b l 0=[]:=rfl
theorem do_k1 {a b:Int} {l:List P3} {i:Nat} (h:both a b (tg l i)=true):atL a b l (i+1)=atL a b l i++[(i:Int)]∧rtL a b l (i+1)=rtL a b l i++[tg l i]∧fanL a b l (i+1)=fanL a b l i∧drL a b l (i+1)=drL a b l i:=by
  have e1:atL a b l (i+1)=atL a b l i++(atG a b l i).toList:=fm_succ _ _
  have e2:rtL a b l (i+1)=rtL a b l i++(rtG a b l i).toList:=fm_succ _ _
  have e3:fanL a b l (i+1)=fanL a b l i++(fanG a b l i).toList:=fm_succ _ _
  rw [e1,e2,e3,drL_succ]
  unfold atG rtG fanG drG
  rw [if_pos h,if_pos h,if_pos h,if_pos h]
  exact ⟨rfl,rfl,List.append_nil _,List.append_nil _⟩
theorem do_k2 {a b:Int} {l:List P3} {i:Nat} (h: ¬ both a b (tg l i)=true) (h2:hasV (tg l i) a):atL a b l (i+1)=atL a b l i∧rtL a b l (i+1)=rtL a b l i∧fanL a b l (i+1)=fanL a b l i++[3*(i:Int)+pos3 a (tg l i)]∧drL a b l (i+1)=drL a b l i++[drT a b (tg l i)]:=by
  have e1:atL a b l (i+1)=atL a b l i++(atG a b l i).toList:=fm_succ _ _
  have e2:rtL a b l (i+1)=rtL a b l i++(rtG a b l i).toList:=fm_succ _ _
  have e3:fanL a b l (i+1)=fanL a b l i++(fanG a b l i).toList:=fm_succ _ _
  rw [e1,e2,e3,drL_succ]
  unfold atG rtG fanG drG
  rw [if_neg h,if_neg h,if_neg h,if_neg h,if_pos h2]
  exact ⟨List.append_nil _,List.append_nil _,rfl,rfl⟩
theorem do_k3 {a b:Int} {l:List P3} {i:Nat} (h2: ¬ hasV (tg l i) a):atL a b l (i+1)=atL a b l i∧rtL a b l (i+1)=rtL a b l i∧fanL a b l (i+1)=fanL a b l i∧drL a b l (i+1)=drL a b l i++[drT a b (tg l i)]:=by
  have h: ¬ both a b (tg l i)=true:=fun k=>h2 ((both_iff.1 k).1)
  have e1:atL a b l (i+1)=atL a b l i++(atG a b l i).toList:=fm_succ _ _
  have e2:rtL a b l (i+1)=rtL a b l i++(rtG a b l i).toList:=fm_succ _ _
  have e3:fanL a b l (i+1)=fanL a b l i++(fanG a b l i).toList:=fm_succ _ _
  rw [e1,e2,e3,drL_succ]
  unfold atG rtG fanG drG
  rw [if_neg h,if_neg h,if_neg h,if_neg h,if_neg h2]
  exact ⟨List.append_nil _,List.append_nil _,List.append_nil _,rfl⟩
theorem sfit_surf {s:SoT} (h:Surf s):soupFit s=true:=by
  have hf:=h.fit
  have hb:badF s.1 s.2 0= -1:=badF_no _ _ _ fun t ht=>by
    obtain ⟨i,hi,e⟩:=mem_tg ht
    have h1:=hf.2.2.2 i hi
    have h2:=h.deg i hi
    have e2:s.2.getD i (0,0,0)=t:=e
    rw [e2] at h1
    rw [e] at h2
    unfold dgn at h2
    unfold fitB
    rw [h1]
    simp only [Bool.true_and,Bool.and_eq_true,bne_iff_ne]
    exact ⟨fun k=>h2 (.inl k),fun k=>h2 (.inr (.inl k)),fun k=>h2 (.inr (.inr k))⟩
  unfold soupFit
  have h1:=hf.1;have h2:=hf.2.1;have h3:=hf.2.2.1
  rw [hb,decide_eq_false (by omega),decide_eq_false (by omega),decide_eq_false (by omega),decide_eq_false (by omega)];rfl
theorem doE_rng {s:SoT} (h:Surf s) {a b:Int} (hn: ¬ ((0≤a∧a<s.1)∧(0≤b∧b<s.1))):doE s a b=2:=by rw [doE_surf h,if_neg hn]
theorem doE_in {s:SoT} (h:Surf s) {a b:Int} (hn:(0≤a∧a<s.1)∧(0≤b∧b<s.1)):doE s a b=reasI (whyO (some (newT s)) a b):=by rw [doE_surf h,if_pos hn];rfl
def loopDo (n a b:Int) (l:List P3):Spec Nat where
  inv i:=i≤l.length
  live i:=[(71,.s (.int .i64 i))]
  keep:=[1,2,3,6,7,8,12,13,69,70]
  heap i:=[(4,.flat 29 [.int .i64 a,.int .i64 b,.own 6 0 (atL a b l i).length,.own 7 0 (rtL a b l i).length,.own 8 0 (fanL a b l i).length]),(5,.flat 24 [.int .i64 (n - 1),.own 9 0 (drL a b l i).length]),
    (6,.row i64E 3 (atL a b l i)),(7,.row .arr3 61 (rtL a b l i)),(8,.row i64E 3 (fanL a b l i)),(9,.row .arr3 61 (drL a b l i))]
  keepH:=[0,1,2,3]
  mu i:=l.length - i
  nils:=[4,4,4,5]
attribute [local irreducible] doW whyO reasI hasI fstI atL rtL fanL drL mapV soupFit
theorem cdo_vc (n:Int) (l:List P3) (a b:Int) (x:tabE.T) (hx:newO (n,l)=some x):afun ⟨tyL,[(28,newXC x),(29,sfitC),(31,whyC),(30,reasC),(32,indexIC),(33,containsC),(34,cmapC)],[]⟩ Tryz.f11 [soupE.av (n,l),i64E.av a,i64E.av b] (fun r=>r=doW (doR (n,l) a b)):=by
  obtain ⟨e0,g,hs⟩:=new_full hx
  repeat' (conv=>whnf
           first | done | refine qN (by first | rfl | omega | (simp only [i64ok] at *;omega)) ?_ | apply qH | refine qG fun _=> ?_ | apply qB | apply qa | apply qo | refine qe (fun _=> ?_) (fun _=> ?_) | refine qn (fun _=> ?_) (fun _=> ?_) | refine qd (fun _=> ?_) (fun _=> ?_) | apply qt | refine qi (fun _=> ?_) (fun _=> ?_) | (refine atReg 12 rfl ?_;refine Or.inr (Exists.intro (Nat) (Exists.intro (loopDo n a b l) (And.intro (Exists.intro (0) (And.intro (Hold.out ?_) (And.intro ?_ (And.intro ?_ rfl)))) (fun i hi=> ?_))))) | ((with_reducible show (∃ y,And (Spec.inv (loopDo _ _ _ _) y) _));refine Exists.intro (i+1) (And.intro (Hold.out ?_) (And.intro (And.intro ?_ (And.intro ?_ rfl)) (Hold.out ?_)))) | refine And.intro rfl ?_ | apply qE | apply qO | exact True.intro | apply qq | apply qs | refine qK (by kernel_rfl) ?_ | apply qr)
  all_goals try first | apply qz1 | apply qz2 | apply qz3 | apply qz4 | apply qz5 | apply qz6 | apply qz7 | apply qz8 | apply qz9 | apply qz0
  all_goals try simp only [take_one,take_one',set_one,take_all,qn1,rec_self,qn2,pair_eta,ETy.dflt,qn3,qn4,Int.reduceToNat,Int.reduceAdd,Int.reduceSub,Int.reduceNeg,Nat.reduceAdd,Nat.zero_add,loopDo] at *
  all_goals have hf:=hs.fit
  all_goals have hn:0≤n∧n≤4096:=⟨hf.1,hf.2.1⟩
  all_goals have hl:l.length≤8192:=hf.2.2.1
  all_goals try exact HoldEq.intro (doW_e (doE_rng hs (by show ¬ ((0≤a∧a<n)∧0≤b∧b<n);omega)) (by decide)).symm
  all_goals try exact qh (fun y e=>by cases e;exact g.toGood)
  all_goals try exact absurd (sfit_surf hs) (by rw [show soupFit (n,l)=false by assumption];decide)
  all_goals have hab:(0≤a∧a<n)∧(0≤b∧b<n):=by omega
  all_goals have hE:doE (n,l) a b=reasI (whyO (some x) a b):=by rw [e0];exact doE_in hs hab
  all_goals try exact HoldEq.intro (doW_e hE (by assumption)).symm
  all_goals try first | exact atL_0 a b l | exact rtL_0 a b l | exact fanL_0 a b l | exact drL_0 a b l | (rw [atL_0,rtL_0,fanL_0];exact HoldOb.intro rfl) | (rw [drL_0];exact HoldOb.intro rfl)
  all_goals try (refine qh ?_;unfold i64ok;omega)
  all_goals try (refine qh ?_;omega)
  all_goals try
    have hi9:i=l.length:=by omega
    subst hi9
    rw [doW_0 (hE.trans (by assumption))]
    exact HoldEq.intro rfl
  all_goals have hi1:(i:Int)<l.length:=by assumption
  all_goals have hla:(atL a b l i).length≤i:=at_len a b l i
  all_goals have hlr:(rtL a b l i).length≤i:=rt_len a b l i
  all_goals have hlf:(fanL a b l i).length≤i:=fan_len a b l i
  all_goals have hld:=drL_len a b l i
  all_goals have ht:(0≤(l.getD i (0,0,0)).1∧(l.getD i (0,0,0)).1<n)∧(0≤(l.getD i (0,0,0)).2.1∧(l.getD i (0,0,0)).2.1<n)∧(0≤(l.getD i (0,0,0)).2.2∧(l.getD i (0,0,0)).2.2<n):=triIn_spec (hf.2.2.2 i (show i<l.length by omega))
  all_goals try (refine qh ?_;omega)
  all_goals try (refine Hold.intro ⟨⟨?_,?_⟩,?_,?_⟩<;>clear hi hi1 hx e0 g hs hf hE<;>omega)
  all_goals try exact absurd (show fstI a [(l.getD i (0,0,0)).fst,(l.getD i (0,0,0)).snd.fst,(l.getD i (0,0,0)).snd.snd] 0≥0 by assumption) (by assumption)
  all_goals have fa:=fst3 a (l.getD i (0,0,0))
  all_goals have fb:=has3 b (l.getD i (0,0,0))
  all_goals have hp3:=pos3_r (a:=a) (t:=l.getD i (0,0,0))
  all_goals have eD:drT a b (l.getD i (0,0,0))=(mapV (l.getD i (0,0,0)).1 a b,mapV (l.getD i (0,0,0)).2.1 a b,mapV (l.getD i (0,0,0)).2.2 a b):=by
              rw [mapV_dr ht.1.1,mapV_dr ht.2.1.1,mapV_dr ht.2.2.1];rfl
  all_goals try
    have kb:hasI b [(l.getD i (0,0,0)).fst,(l.getD i (0,0,0)).snd.fst,(l.getD i (0,0,0)).snd.snd]=true:=by assumption
    have ka:hasV (l.getD i (0,0,0)) a:=fa.1.1 (by assumption)
    obtain ⟨k1,k2,k3,k4⟩:=do_k1 (a:=a) (b:=b) (l:=l) (i:=i) (both_iff.2 ⟨ka,fb.1 kb⟩)
    rw [k1,k2,k3]
    exact HoldOb.intro (by simp only [List.length_append,List.length_singleton])
  all_goals try
    have kb:hasI b [(l.getD i (0,0,0)).fst,(l.getD i (0,0,0)).snd.fst,(l.getD i (0,0,0)).snd.snd]=true:=by assumption
    have ka:hasV (l.getD i (0,0,0)) a:=fa.1.1 (by assumption)
    obtain ⟨k1,k2,k3,k4⟩:=do_k1 (a:=a) (b:=b) (l:=l) (i:=i) (both_iff.2 ⟨ka,fb.1 kb⟩)
    first | exact k1 | exact k2 | exact k3 | exact k4 | (rw [k4];exact HoldOb.intro rfl)
  all_goals try
    have kb:hasI b [(l.getD i (0,0,0)).fst,(l.getD i (0,0,0)).snd.fst,(l.getD i (0,0,0)).snd.snd]=false:=by assumption
    have ka:hasV (l.getD i (0,0,0)) a:=fa.1.1 (by assumption)
    have eF:=fa.2 ka
    have kn: ¬ both a b (tg l i)=true:=fun k=>by rw [fb.2 (both_iff.1 k).2] at kb;cases kb
    obtain ⟨k1,k2,k3,k4⟩:=do_k2 (a:=a) (b:=b) (l:=l) (i:=i) kn ka
    first
    | exact k1
    | exact k2
    | (rw [eF];exact k3)
    | (rw [← eD];exact k4)
    | (rw [k1,k2,k3];exact HoldOb.intro (by simp only [List.length_append,List.length_singleton]))
    | (rw [k4];exact HoldOb.intro (by simp only [List.length_append,List.length_singleton]))
    | (rw [eF];refine qh ?_;unfold i64ok;omega)
  all_goals
    have ka: ¬ hasV (l.getD i (0,0,0)) a:=fun k=>absurd (fa.1.2 k) (by assumption)
    obtain ⟨k1,k2,k3,k4⟩:=do_k3 (a:=a) (b:=b) (l:=l) (i:=i) ka
    first
    | exact k1
    | exact k2
    | exact k3
    | (rw [← eD];exact k4)
    | (rw [k1,k2,k3];exact HoldOb.intro rfl)
    | (rw [k4];exact HoldOb.intro (by simp only [List.length_append,List.length_singleton]))
theorem cdo0_vc (n:Int) (l:List P3) (a b:Int) (hx:newO (n,l)=none):afun ⟨tyL,[(28,newNC),(29,sfitC),(31,whyC),(30,reasC),(32,indexIC),(33,containsC),(34,cmapC)],[]⟩ Tryz.f11 [soupE.av (n,l),i64E.av a,i64E.av b] (fun r=>r=doW (doR (n,l) a b)):=by
  have e:=doW_e (doE_no hx a b) (by decide)
  repeat' (conv=>whnf
           first | done | refine qN (by first | rfl | omega | (simp only [i64ok] at *;omega)) ?_ | apply qH | refine qG fun _=> ?_ | apply qB | apply qa | apply qo | refine qe (fun _=> ?_) (fun _=> ?_) | refine qn (fun _=> ?_) (fun _=> ?_) | refine qd (fun _=> ?_) (fun _=> ?_) | apply qt | refine qi (fun _=> ?_) (fun _=> ?_) | (refine atReg 12 rfl ?_;refine Or.inr (Exists.intro (Nat) (Exists.intro (loopDo n a b l) (And.intro (Exists.intro (0) (And.intro (Hold.out ?_) (And.intro ?_ (And.intro ?_ rfl)))) (fun i hi=> ?_))))) | ((with_reducible show (∃ y,And (Spec.inv (loopDo _ _ _ _) y) _));refine Exists.intro (i+1) (And.intro (Hold.out ?_) (And.intro (And.intro ?_ (And.intro ?_ rfl)) (Hold.out ?_)))) | refine And.intro rfl ?_ | apply qE | apply qO | exact True.intro | apply qq | apply qs | refine qK (by kernel_rfl) ?_ | apply qr)
  all_goals try first | apply qz1 | apply qz2 | apply qz3 | apply qz4 | apply qz5 | apply qz6 | apply qz7 | apply qz8 | apply qz9 | apply qz0
  all_goals try simp only [take_one,take_one',set_one,take_all,qn1,rec_self,qn2,pair_eta,ETy.dflt,qn3,qn4,Int.reduceToNat,Int.reduceAdd,Int.reduceSub,Int.reduceNeg,Nat.reduceAdd,Nat.zero_add] at *
  all_goals try exact qh hx
  all_goals exact HoldEq.intro e.symm
def cdoC:List AV→Option Res:=con3 soupE i64E i64E (fun s a b=>some (none,none,doV (doR s a b)))
theorem cdoRow:FnRow Tryz.prog 11 cdoC:=⟨con3_ok fun s a b r h=>by
  cases h
  cases e:newO s with
  | none=>exact FnOk.res (fn_by (rulesF (fn:=[(28,newNC),(29,sfitC),(31,whyC),(30,reasC),(32,indexIC),(33,containsC),(34,cmapC)]) (fr:=[]) ⟨newNRow,sfitRow,whyRow,reasRow,indexIRow,containsRow,cmapRow,trivial⟩ trivial) Tryz.func11 (by kernel_rfl) fun _ _=>cdo0_vc s.1 s.2 a b e) fun σ v h=>doW_rep h
  | some x=>exact FnOk.res (fn_by (rulesF (fn:=[(28,newXC x),(29,sfitC),(31,whyC),(30,reasC),(32,indexIC),(33,containsC),(34,cmapC)]) (fr:=[]) ⟨(newXRow x),sfitRow,whyRow,reasRow,indexIRow,containsRow,cmapRow,trivial⟩ trivial) Tryz.func11 (by kernel_rfl) fun _ _=>cdo_vc s.1 s.2 a b x e) fun σ v h=>doW_rep h,_,Tryz.func11,by kernel_rfl,by kernel_rfl⟩
end S1
