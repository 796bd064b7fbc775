/- A part of the proofs of the laws. -/
import Derived.Test.YtahbknnehddjgaaT0toVmInl
import Derived.Test.YtahbknnehddjgaaF7toW5p
import Derived.Test.YtahbknnehddjgaaF4toT16
import Derived.Test.YtahbknnehddjgaaT17toW1
set_option linter.unusedSimpArgs false
set_option linter.unusedVariables false
set_option maxHeartbeats 8000000
set_option maxRecDepth 100000
open Go Go.Vm Go.Proofs
namespace S1
def fitB (t:P3) (n:Int):Bool:=triIn n t&&(t.1 != t.2.1&&(t.2.1 != t.2.2&&t.2.2 != t.1))
theorem fits_vc {fn} (t:P3) (n:Int):afun ⟨tyL,fn,[]⟩ Try.f57 [ETy.arr3.av t,i64E.av n] (fun r=>r= .s (.bool (fitB t n))):=by
  repeat' (conv=>whnf
           first | done | refine qN (by first | rfl | omega | (simp only [i64ok] at *;omega)) ?_ | apply qH | refine qG fun _=> ?_ | apply qB | apply qa | apply qo | refine qe (fun _=> ?_) (fun _=> ?_) | refine qn (fun _=> ?_) (fun _=> ?_) | refine qd (fun _=> ?_) (fun _=> ?_) | apply qt | refine qi (fun _=> ?_) (fun _=> ?_) | (refine atReg 2 rfl ?_;refine Or.inl (Exists.intro (4) ?_)) | refine And.intro rfl ?_ | apply qE | apply qO | exact True.intro | apply qq | apply qs | refine qK (by kernel_rfl) ?_ | apply qr)
  all_goals try first | apply qz1 | apply qz2 | apply qz3 | apply qz4 | apply qz5 | apply qz6 | apply qz7 | apply qz8 | apply qz9 | apply qz0
  all_goals try simp only [take_one,take_one',set_one,take_all,qn1,rec_self,qn2,pair_eta,ETy.dflt,qn3,qn4,Int.reduceToNat,Int.reduceAdd,Int.reduceSub,Int.reduceNeg,Nat.reduceAdd,Nat.zero_add,fitB] at *
  all_goals rw [Bool.eq_iff_iff];simp only [triIn,vIn,Bool.and_eq_true,Bool.not_eq_true',Bool.or_eq_false_iff,decide_eq_false_iff_not,bne_iff_ne,Bool.false_eq_true,true_iff,iff_true,false_iff,iff_false];omega
def fitsC:List AV→Option Res:=con2 .arr3 i64E (fun t n=>some (none,none,.s (.bool (fitB t n))))
theorem fitsRow:FnRow Try.prog 57 fitsC:=⟨con2_ok fun t n r h=>by cases h;exact fn_by (rulesF (fn:=[]) (fr:=[]) trivial trivial) Try.func57 (by kernel_rfl) fun _ _=>fits_vc t n,_,Try.func57,by kernel_rfl,by kernel_rfl⟩
theorem fits1_vc (t:P3) (n:Int) (l:List P3):afun ⟨tyL,[(57,fitsC)],[]⟩ Try.f56 [ETy.arr3.av t,(ETy.pt soupE).av (some (n,l))] (fun r=>r= .s (.bool (!fitB t n))):=by
  repeat' (conv=>whnf
           first | done | refine qN (by first | rfl | omega | (simp only [i64ok] at *;omega)) ?_ | apply qH | refine qG fun _=> ?_ | apply qB | apply qa | apply qo | refine qe (fun _=> ?_) (fun _=> ?_) | refine qn (fun _=> ?_) (fun _=> ?_) | refine qd (fun _=> ?_) (fun _=> ?_) | apply qt | refine qi (fun _=> ?_) (fun _=> ?_) | refine And.intro rfl ?_ | apply qE | apply qO | exact True.intro | apply qq | apply qs | refine qK (by kernel_rfl) ?_ | apply qr)
  all_goals try first | apply qz1 | apply qz2 | apply qz3 | apply qz4 | apply qz5 | apply qz6 | apply qz7 | apply qz8 | apply qz9 | apply qz0
  all_goals try simp only [take_one,take_one',set_one,take_all,qn1,rec_self,qn2,pair_eta,ETy.dflt,qn3,qn4,Int.reduceToNat,Int.reduceAdd,Int.reduceSub,Int.reduceNeg,Nat.reduceAdd,Nat.zero_add,Option.getD_some] at *
def fits1C:List AV→Option Res:=con2 .arr3 (.pt soupE) (fun t o=>match o with | some s=>some (none,none,.s (.bool (!fitB t s.1))) | none=>none)
theorem fits1Row:FnRow Try.prog 56 fits1C:=⟨con2_ok fun t o r h=>by
  cases o with
  | none=>cases h
  | some s=>cases h;exact fn_by (rulesF (fn:=[(57,fitsC)]) (fr:=[]) ⟨fitsRow,trivial⟩ trivial) Try.func56 (by kernel_rfl) fun _ _=>fits1_vc t s.1 s.2,_,Try.func56,by kernel_rfl,by kernel_rfl⟩
attribute [local irreducible] fitB
def badF (n:Int):List P3→Nat→Int
  | [],_=> -1
  | t::r,i=>if fitB t n=false then (i:Int) else badF n r (i+1)
def loopBF (n:Int) (l:List P3):Spec Nat where
  inv x:=x≤l.length∧badF n l 0=badF n (l.drop x) x
  live x:=[(8,.s (.int .i64 x))]
  keep:=[0,1,7]
  heap _:=[]
  keepH:=[]
  mu x:=l.length - x
theorem drop_nowT {l:List P3} {x:Nat} (h:x<l.length):l.drop x=l.getD x (0,0,0)::l.drop (x+1):=by
  rw [List.drop_eq_getElem_cons h,gdE,gE h];rfl
theorem badI_vc (l:List P3) (s:Int×List P3):afun ⟨tyL,[(56,fits1C)],[]⟩ Try.f77 [(ETy.sl .arr3).av l,.s (.clo 56 [⟨soupE,s⟩])] (fun r=>r= .s (.int .i64 (badF s.1 l 0))):=by
  repeat' (conv=>whnf
           first | done | refine qN (by first | rfl | omega | (simp only [i64ok] at *;omega)) ?_ | apply qH | refine qG fun _=> ?_ | apply qB | apply qa | apply qo | refine qe (fun _=> ?_) (fun _=> ?_) | refine qn (fun _=> ?_) (fun _=> ?_) | refine qd (fun _=> ?_) (fun _=> ?_) | apply qt | refine qi (fun _=> ?_) (fun _=> ?_) | (refine atReg 2 rfl ?_;refine Or.inr (Exists.intro (Nat) (Exists.intro (loopBF s.1 l) (And.intro (Exists.intro (0) (And.intro (Hold.out ?_) (And.intro ?_ (And.intro ?_ rfl)))) (fun x hx=> ?_))))) | ((with_reducible show (∃ y,And (Spec.inv (loopBF _ _) y) _));refine Exists.intro (x+1) (And.intro (Hold.out ?_) (And.intro (And.intro ?_ (And.intro ?_ rfl)) (Hold.out ?_)))) | refine And.intro rfl ?_ | apply qE | apply qO | exact True.intro | apply qq | apply qs | refine qK (by kernel_rfl) ?_ | apply qr)
  all_goals try first | apply qz1 | apply qz2 | apply qz3 | apply qz4 | apply qz5 | apply qz6 | apply qz7 | apply qz8 | apply qz9 | apply qz0
  all_goals try simp only [take_one,take_one',set_one,take_all,qn1,rec_self,qn2,pair_eta,ETy.dflt,qn3,qn4,Int.reduceToNat,Int.reduceAdd,Int.reduceSub,Int.reduceNeg,Nat.reduceAdd,Nat.zero_add,loopBF] at *
  all_goals try (refine qh ?_;omega)
  · exact qh ⟨Nat.zero_le _,rfl⟩
  · rename_i h1 h2
    exact qh ⟨by omega,by rw [hx.2,drop_nowT (by omega),badF,if_neg (by rw [h2];simp)]⟩
  · rename_i h1 h2
    rw [hx.2,drop_nowT (by omega),badF,if_pos h2]
  · rw [hx.2,List.drop_eq_nil_of_le (by omega)];rfl
def badIC:List AV→Option Res
  | [.s (.sl .arr3 l),.s (.clo f [⟨.pair (.int .i64) (.sl .arr3),s⟩])]=>match Nat.beq f 56 with
    | true=>some (none,none,.s (.int .i64 (badF s.1 l 0)))
    | false=>none
  | _=>none
theorem badIRow:FnRow Try.prog 77 badIC:=⟨fun args r h=>by
  unfold badIC at h
  split at h
  case h_2=>cases h
  split at h
  case h_2=>cases h
  rename_i he
  cases h
  rw [Nat.eq_of_beq_eq_true he]
  exact fn_by (rulesF (fn:=[(56,fits1C)]) (fr:=[]) ⟨fits1Row,trivial⟩ trivial) Try.func77 (by kernel_rfl) fun _ _=>badI_vc _ _,_,Try.func77,by kernel_rfl,by kernel_rfl⟩
theorem badC_vc (l:List P3) (s:Int×List P3):afun ⟨tyL,[(77,badIC)],[]⟩ Try.f55 [(ETy.sl .arr3).av l,.s (.clo 56 [⟨soupE,s⟩])] (fun r=>r= .s (.bool (decide (badF s.1 l 0≥0)))):=by
  repeat' (conv=>whnf
           first | done | refine qN (by first | rfl | omega | (simp only [i64ok] at *;omega)) ?_ | apply qH | refine qG fun _=> ?_ | apply qB | apply qa | apply qo | refine qe (fun _=> ?_) (fun _=> ?_) | refine qn (fun _=> ?_) (fun _=> ?_) | refine qd (fun _=> ?_) (fun _=> ?_) | apply qt | refine qi (fun _=> ?_) (fun _=> ?_) | refine And.intro rfl ?_ | apply qE | apply qO | exact True.intro | apply qq | apply qs | refine qK (by kernel_rfl) ?_ | apply qr)
  all_goals try first | apply qz1 | apply qz2 | apply qz3 | apply qz4 | apply qz5 | apply qz6 | apply qz7 | apply qz8 | apply qz9 | apply qz0
  all_goals try simp only [take_one,take_one',set_one,take_all,qn1,rec_self,qn2,pair_eta,ETy.dflt,qn3,qn4,Int.reduceToNat,Int.reduceAdd,Int.reduceSub,Int.reduceNeg,Nat.reduceAdd,Nat.zero_add] at *
def badCC:List AV→Option Res
  | [.s (.sl .arr3 l),.s (.clo f [⟨.pair (.int .i64) (.sl .arr3),s⟩])]=>match Nat.beq f 56 with
    | true=>some (none,none,.s (.bool (decide (badF s.1 l 0≥0))))
    | false=>none
  | _=>none
theorem badCRow:FnRow Try.prog 55 badCC:=⟨fun args r h=>by
  unfold badCC at h
  split at h
  case h_2=>cases h
  split at h
  case h_2=>cases h
  rename_i he
  cases h
  rw [Nat.eq_of_beq_eq_true he]
  exact fn_by (rulesF (fn:=[(77,badIC)]) (fr:=[]) ⟨badIRow,trivial⟩ trivial) Try.func55 (by kernel_rfl) fun _ _=>badC_vc _ _,_,Try.func55,by kernel_rfl,by kernel_rfl⟩
def soupFit (s:Int×List P3):Bool:= !(decide (s.1<0)|| (decide (s.1>4096)|| (decide ((s.2.length:Int)>8192)|| decide (badF s.1 s.2 0≥0))))
theorem sfit_vc (n:Int) (l:List P3):afun ⟨tyL,[(55,badCC)],[]⟩ Try.f30 [soupE.av (n,l)] (fun r=>r= .s (.bool (soupFit (n,l)))):=by
  repeat' (conv=>whnf
           first | done | refine qN (by first | rfl | omega | (simp only [i64ok] at *;omega)) ?_ | apply qH | refine qG fun _=> ?_ | apply qB | apply qa | apply qo | refine qe (fun _=> ?_) (fun _=> ?_) | refine qn (fun _=> ?_) (fun _=> ?_) | refine qd (fun _=> ?_) (fun _=> ?_) | apply qt | refine qi (fun _=> ?_) (fun _=> ?_) | refine And.intro rfl ?_ | apply qE | apply qO | exact True.intro | apply qq | apply qs | refine qK (by kernel_rfl) ?_ | apply qr)
  all_goals try first | apply qz1 | apply qz2 | apply qz3 | apply qz4 | apply qz5 | apply qz6 | apply qz7 | apply qz8 | apply qz9 | apply qz0
  all_goals try simp only [take_one,take_one',set_one,take_all,qn1,rec_self,qn2,pair_eta,ETy.dflt,qn3,qn4,Int.reduceToNat,Int.reduceAdd,Int.reduceSub,Int.reduceNeg,Nat.reduceAdd,Nat.zero_add,soupFit] at *
  all_goals simp [*]
def sfitC:List AV→Option Res:=con1 soupE (fun s=>some (none,none,.s (.bool (soupFit s))))
theorem sfitRow:FnRow Try.prog 30 sfitC:=⟨con1_ok fun s r h=>by cases h;exact fn_by (rulesF (fn:=[(55,badCC)]) (fr:=[]) ⟨badCRow,trivial⟩ trivial) Try.func30 (by kernel_rfl) fun _ _=>sfit_vc s.1 s.2,_,Try.func30,by kernel_rfl,by kernel_rfl⟩
theorem badF_no (n:Int): ∀ (l:List P3) (i:Nat),(∀ t∈l,fitB t n=true)→badF n l i= -1
  | [],_,_=>rfl
  | t::r,i,h=>by
    unfold badF
    rw [if_neg (by rw [h t (List.mem_cons_self ..)];simp)]
    exact badF_no n r (i+1) fun u hu=>h u (List.mem_cons_of_mem _ hu)
abbrev RecT:=Int×Int×List Int×List P3×List Int
abbrev SoT:=Int×List P3
abbrev recE:ETy:= .pair i64E (.pair i64E (.pair (.sl i64E) (.pair (.sl .arr3) (.sl i64E))))
def mapV (v a b:Int):Int:=if v<0 then -1 else if (if v=a then b else v)>a then (if v=a then b else v) - 1 else (if v=a then b else v)
theorem cmap_vc {fn} (v:Int) (r:RecT) (h:(-1000000≤v∧v≤1000000)∧(-1000000≤r.2.1∧r.2.1≤1000000)):afun ⟨tyL,fn,[]⟩ Try.f13 [i64E.av v,recE.av r] (fun x=>x= .s (.int .i64 (mapV v r.1 r.2.1))):=by
  repeat' (conv=>whnf
           first | done | refine qN (by first | rfl | omega | (simp only [i64ok] at *;omega)) ?_ | apply qH | refine qG fun _=> ?_ | apply qB | apply qa | apply qo | refine qe (fun _=> ?_) (fun _=> ?_) | refine qn (fun _=> ?_) (fun _=> ?_) | refine qd (fun _=> ?_) (fun _=> ?_) | apply qt | refine qi (fun _=> ?_) (fun _=> ?_) | refine And.intro rfl ?_ | apply qE | apply qO | exact True.intro | apply qq | apply qs | refine qK (by kernel_rfl) ?_ | apply qr)
  all_goals try first | apply qz1 | apply qz2 | apply qz3 | apply qz4 | apply qz5 | apply qz6 | apply qz7 | apply qz8 | apply qz9 | apply qz0
  all_goals try simp only [take_one,take_one',set_one,take_all,qn1,rec_self,qn2,pair_eta,ETy.dflt,qn3,qn4,Int.reduceToNat,Int.reduceAdd,Int.reduceSub,Int.reduceNeg,Nat.reduceAdd,Nat.zero_add,mapV] at *
  all_goals try (refine qh ?_;unfold i64ok;omega)
  all_goals
    (repeat' split)<;>first | rfl | (exfalso;omega) | omega
def cmapC:List AV→Option Res:=con2 i64E recE (fun (v:Int) (r:RecT)=>some (none,some ((-1000000≤v∧v≤1000000)∧(-1000000≤r.2.1∧r.2.1≤1000000)),.s (.int .i64 (mapV v r.1 r.2.1))))
theorem cmapRow:FnRow Try.prog 13 cmapC:=⟨con2_ok fun v r r h=>by cases h;exact fn_by (rulesF (fn:=[]) (fr:=[]) trivial trivial) Try.func13 (by kernel_rfl) fun _ h=>cmap_vc v r h,_,Try.func13,by kernel_rfl,by kernel_rfl⟩
def reasI (w:Int):Int:=if w=1 then 8 else if w=2 then 13 else if w=3∨w=4 then 14 else 0
theorem reas_vc {fn} (w:Int):afun ⟨tyL,fn,[]⟩ Try.f31 [i64E.av w] (fun x=>x= .s (.int .i64 (reasI w))):=by
  repeat' (conv=>whnf
           first | done | refine qN (by first | rfl | omega | (simp only [i64ok] at *;omega)) ?_ | apply qH | refine qG fun _=> ?_ | apply qB | apply qa | apply qo | refine qe (fun _=> ?_) (fun _=> ?_) | refine qn (fun _=> ?_) (fun _=> ?_) | refine qd (fun _=> ?_) (fun _=> ?_) | apply qt | refine qi (fun _=> ?_) (fun _=> ?_) | refine And.intro rfl ?_ | apply qE | apply qO | exact True.intro | apply qq | apply qs | refine qK (by kernel_rfl) ?_ | apply qr)
  all_goals try first | apply qz1 | apply qz2 | apply qz3 | apply qz4 | apply qz5 | apply qz6 | apply qz7 | apply qz8 | apply qz9 | apply qz0
  all_goals try simp only [take_one,take_one',set_one,take_all,qn1,rec_self,qn2,pair_eta,ETy.dflt,qn3,qn4,Int.reduceToNat,Int.reduceAdd,Int.reduceSub,Int.reduceNeg,Nat.reduceAdd,Nat.zero_add,reasI] at *
  all_goals
    (repeat' split)<;>first | rfl | (exfalso;omega)
def reasC:List AV→Option Res:=con1 i64E (fun w=>some (none,none,.s (.int .i64 (reasI w))))
theorem reasRow:FnRow Try.prog 31 reasC:=⟨con1_ok fun w r h=>by cases h;exact fn_by (rulesF (fn:=[]) (fr:=[]) trivial trivial) Try.func31 (by kernel_rfl) fun _ _=>reas_vc w,_,Try.func31,by kernel_rfl,by kernel_rfl⟩
def great35R (s:SoT):Int:=if (s.2.length:Int)>40∨s.1>60∨s.1< -9 then 1 else 0
theorem great35_vc {fn} (n:Int) (l:List P3):afun ⟨tyL,fn,[]⟩ Try.f10 [soupE.av (n,l)] (fun r=>r= .s (.int .i64 (great35R (n,l)))):=by
  repeat' (conv=>whnf
           first | done | refine qN (by first | rfl | omega | (simp only [i64ok] at *;omega)) ?_ | apply qH | refine qG fun _=> ?_ | apply qB | apply qa | apply qo | refine qe (fun _=> ?_) (fun _=> ?_) | refine qn (fun _=> ?_) (fun _=> ?_) | refine qd (fun _=> ?_) (fun _=> ?_) | apply qt | refine qi (fun _=> ?_) (fun _=> ?_) | refine And.intro rfl ?_ | apply qE | apply qO | exact True.intro | apply qq | apply qs | refine qK (by kernel_rfl) ?_ | apply qr)
  all_goals try first | apply qz1 | apply qz2 | apply qz3 | apply qz4 | apply qz5 | apply qz6 | apply qz7 | apply qz8 | apply qz9 | apply qz0
  all_goals try simp only [take_one,take_one',set_one,take_all,qn1,rec_self,qn2,pair_eta,ETy.dflt,qn3,qn4,Int.reduceToNat,Int.reduceAdd,Int.reduceSub,Int.reduceNeg,Nat.reduceAdd,Nat.zero_add,great35R] at *
  all_goals simp [*]
def great35C:List AV→Option Res:=con1 soupE (fun s=>some (none,none,.s (.int .i64 (great35R s))))
theorem great35Row:FnRow Try.prog 10 great35C:=⟨con1_ok fun s r h=>by cases h;exact fn_by (rulesF (fn:=[]) (fr:=[]) trivial trivial) Try.func10 (by kernel_rfl) fun _ _=>great35_vc s.1 s.2,_,Try.func10,by kernel_rfl,by kernel_rfl⟩
def eqS (a b:SoT):Bool:=decide (a=b)
def loopS15 (a b:List P3):Spec Nat where
  inv x:=x≤a.length∧∀ i,i<x→a.getD i (0,0,0)=b.getD i (0,0,0)
  live x:=[(5,.s (.int .i64 x))]
  keep:=[2,3]
  heap _:=[]
  keepH:=[0,1]
  mu x:=a.length - x
theorem same15_vc {fn} (n m:Int) (a b:List P3) (hl:a.length≤100000):afun ⟨tyL,fn,[]⟩ Try.f16 [soupE.av (n,a),soupE.av (m,b)] (fun v=>v= .s (.bool (eqS (n,a) (m,b)))):=by
  repeat' (conv=>whnf
           first | done | refine qN (by first | rfl | omega | (simp only [i64ok] at *;omega)) ?_ | apply qH | refine qG fun _=> ?_ | apply qB | apply qa | apply qo | refine qe (fun _=> ?_) (fun _=> ?_) | refine qn (fun _=> ?_) (fun _=> ?_) | refine qd (fun _=> ?_) (fun _=> ?_) | apply qt | refine qi (fun _=> ?_) (fun _=> ?_) | (refine atReg 4 rfl ?_;refine Or.inr (Exists.intro (Nat) (Exists.intro (loopS15 a b) (And.intro (Exists.intro (0) (And.intro (Hold.out ?_) (And.intro ?_ (And.intro ?_ rfl)))) (fun x hx=> ?_))))) | ((with_reducible show (∃ y,And (Spec.inv (loopS15 _ _) y) _));refine Exists.intro (x+1) (And.intro (Hold.out ?_) (And.intro (And.intro ?_ (And.intro ?_ rfl)) (Hold.out ?_)))) | refine And.intro rfl ?_ | apply qE | apply qO | exact True.intro | apply qq | apply qs | refine qK (by kernel_rfl) ?_ | apply qr)
  all_goals try first | apply qz1 | apply qz2 | apply qz3 | apply qz4 | apply qz5 | apply qz6 | apply qz7 | apply qz8 | apply qz9 | apply qz0
  all_goals try simp only [take_one,take_one',set_one,take_all,qn1,rec_self,qn2,pair_eta,ETy.dflt,qn3,qn4,Int.reduceToNat,Int.reduceAdd,Int.reduceSub,Int.reduceNeg,Nat.reduceAdd,Nat.zero_add,loopS15,eqS] at *
  all_goals try (refine qh ?_;unfold i64ok;omega)
  all_goals try (refine qh ?_;omega)
  all_goals try exact qh ⟨Nat.zero_le _,fun i hi=>by omega⟩
  all_goals try
    (symm;rw [decide_eq_false_iff_not];intro e;cases e;exact absurd rfl (by assumption))
  · refine Hold.intro ⟨by omega,fun i hi=> ?_⟩
    by_cases e:i=x
    · subst e
      exact Prod.ext ‹_› (Prod.ext ‹_› ‹_›)
    · exact hx.2 i (by omega)
  · have e:a=b:=List.ext_getElem (by omega) fun i h1 h2=>by
      have:=hx.2 i (by omega)
      rwa [gdE,gdE,gE h1,gE h2] at this
    symm;rw [decide_eq_true_eq,e,show n=m by assumption]
def same15C:List AV→Option Res:=con2 soupE soupE (fun a b=>some (none,some (a.2.length≤100000),.s (.bool (eqS a b))))
theorem same15Row:FnRow Try.prog 16 same15C:=⟨con2_ok fun a b r h=>by cases h;exact fn_by (rulesF (fn:=[]) (fr:=[]) trivial trivial) Try.func16 (by kernel_rfl) fun _ h=>same15_vc a.1 b.1 a.2 b.2 h,_,Try.func16,by kernel_rfl,by kernel_rfl⟩
def eqL (a b:List Int):Bool:=decide (a=b)
def loopEI (a b:List Int):Spec Nat where
  inv x:=x≤a.length∧∀ i,i<x→a.getD i 0=b.getD i 0
  live x:=[(13,.s (.int .i64 x))]
  keep:=[0,1,12]
  heap _:=[]
  keepH:=[]
  mu x:=a.length - x
theorem equalI_vc {fn} (a b:List Int):afun ⟨tyL,fn,[]⟩ Try.f61 [(ETy.sl i64E).av a,(ETy.sl i64E).av b] (fun v=>v= .s (.bool (eqL a b))):=by
  repeat' (conv=>whnf
           first | done | refine qN (by first | rfl | omega | (simp only [i64ok] at *;omega)) ?_ | apply qH | refine qG fun _=> ?_ | apply qB | apply qa | apply qo | refine qe (fun _=> ?_) (fun _=> ?_) | refine qn (fun _=> ?_) (fun _=> ?_) | refine qd (fun _=> ?_) (fun _=> ?_) | apply qt | refine qi (fun _=> ?_) (fun _=> ?_) | (refine atReg 4 rfl ?_;refine Or.inr (Exists.intro (Nat) (Exists.intro (loopEI a b) (And.intro (Exists.intro (0) (And.intro (Hold.out ?_) (And.intro ?_ (And.intro ?_ rfl)))) (fun x hx=> ?_))))) | ((with_reducible show (∃ y,And (Spec.inv (loopEI _ _) y) _));refine Exists.intro (x+1) (And.intro (Hold.out ?_) (And.intro (And.intro ?_ (And.intro ?_ rfl)) (Hold.out ?_)))) | refine And.intro rfl ?_ | apply qE | apply qO | exact True.intro | apply qq | apply qs | refine qK (by kernel_rfl) ?_ | apply qr)
  all_goals try first | apply qz1 | apply qz2 | apply qz3 | apply qz4 | apply qz5 | apply qz6 | apply qz7 | apply qz8 | apply qz9 | apply qz0
  all_goals try simp only [take_one,take_one',set_one,take_all,qn1,rec_self,qn2,pair_eta,ETy.dflt,qn3,qn4,Int.reduceToNat,Int.reduceAdd,Int.reduceSub,Int.reduceNeg,Nat.reduceAdd,Nat.zero_add,loopEI,eqL] at *
  · symm;rw [decide_eq_false_iff_not];intro e;subst e;exact absurd rfl (by assumption)
  · exact qh ⟨Nat.zero_le _,fun i hi=>by omega⟩
  · symm;rw [decide_eq_false_iff_not];intro e;subst e;exact absurd rfl (by assumption)
  · refine Hold.intro ⟨by omega,fun i hi=> ?_⟩
    by_cases e:i=x
    · subst e;assumption
    · exact hx.2 i (by omega)
  · refine qh ?_;omega
  · symm;rw [decide_eq_true_eq]
    apply List.ext_getElem
    · omega
    · intro i h1 h2
      have:=hx.2 i (by omega)
      rw [gdE,gdE,gE h1,gE h2] at this
      exact this
def equalIC:List AV→Option Res:=con2 (.sl i64E) (.sl i64E) (fun a b=>some (none,none,.s (.bool (eqL a b))))
theorem equalIRow:FnRow Try.prog 61 equalIC:=⟨con2_ok fun a b r h=>by cases h;exact fn_by (rulesF (fn:=[]) (fr:=[]) trivial trivial) Try.func61 (by kernel_rfl) fun _ _=>equalI_vc a b,_,Try.func61,by kernel_rfl,by kernel_rfl⟩
end S1
open Go Go.Vm Go.Proofs
namespace S1
def atG (a b:Int) (l:List P3) (i:Nat):Option Int:=if both a b (tg l i)=true then some (i:Int) else none
def rtG (a b:Int) (l:List P3) (i:Nat):Option P3:=if both a b (tg l i)=true then some (tg l i) else none
def pos3 (a:Int) (t:P3):Int:=if t.1=a then 0 else if t.2.1=a then 1 else 2
def fanG (a b:Int) (l:List P3) (i:Nat):Option Int:=if both a b (tg l i)=true then none else if hasV (tg l i) a then some (3*(i:Int)+pos3 a (tg l i)) else none
def atL (a b:Int) (l:List P3) (i:Nat):List Int:=(List.range i).filterMap (atG a b l)
def rtL (a b:Int) (l:List P3) (i:Nat):List P3:=(List.range i).filterMap (rtG a b l)
def fanL (a b:Int) (l:List P3) (i:Nat):List Int:=(List.range i).filterMap (fanG a b l)
def recR (s:SoT) (a b:Int):RecT:=(a,b,atL a b s.2 s.2.length,rtL a b s.2 s.2.length,fanL a b s.2 s.2.length)
theorem fm_at {α:Type} (d:α) (f:Nat→Option α) {i:Nat} {x:α} (h:f i=some x): ∀ n,i<n→((List.range i).filterMap f).length<((List.range n).filterMap f).length∧((List.range n).filterMap f).getD ((List.range i).filterMap f).length d=x
  | 0,hi=>by omega
  | n +1,hi=>by
    rw [fm_succ]
    by_cases e:i=n
    · subst e
      rw [h,Option.toList]
      refine ⟨by simp,?_⟩
      rw [gdE,List.getElem?_append_right (Nat.le_refl _)];simp
    · obtain ⟨h1,h2⟩:=fm_at d f h n (by omega)
      refine ⟨by rw [List.length_append];omega,?_⟩
      rw [gdE,List.getElem?_append_left h1,← gdE];exact h2
theorem at_dr (a b:Int) (l:List P3): ∀ i,(atL a b l i).length+(drL a b l i).length=i
  | 0=>rfl
  | i+1=>by
    have ih:=at_dr a b l i
    have e1:atL a b l (i+1)=atL a b l i++(atG a b l i).toList:=fm_succ _ _
    rw [e1,drL_succ]
    unfold atG drG
    split<;>simp only [Option.toList,List.length_append,List.length_singleton,List.length_nil]<;>omega
theorem at_rt (a b:Int) (l:List P3): ∀ i,(atL a b l i).length=(rtL a b l i).length
  | 0=>rfl
  | i+1=>by
    have ih:=at_rt a b l i
    have e1:atL a b l (i+1)=atL a b l i++(atG a b l i).toList:=fm_succ _ _
    have e2:rtL a b l (i+1)=rtL a b l i++(rtG a b l i).toList:=fm_succ _ _
    rw [e1,e2]
    unfold atG rtG
    split<;>simp only [Option.toList,List.length_append,List.length_singleton,List.length_nil]<;>omega
theorem at_len (a b:Int) (l:List P3) (i:Nat):(atL a b l i).length≤i:=fm_len _ _
theorem rt_len (a b:Int) (l:List P3) (i:Nat):(rtL a b l i).length≤i:=fm_len _ _
theorem fan_len (a b:Int) (l:List P3) (i:Nat):(fanL a b l i).length≤i:=fm_len _ _
def upV (A v:Int):Int:=if v≥A then v+1 else v
def upT (A:Int) (t:P3):P3:=(upV A t.1,upV A t.2.1,upV A t.2.2)
abbrev GoT:=List (Int×P3)
def gonM (at_:List Int) (ts:List P3) (k:Nat):GoT:=irec (fun (m:GoT) k=>(mset (.int .i64) m (at_.getD k 0) (ts.getD k (0,0,0)):GoT)) [] k
def kF (g:GoT):Nat→Nat
  | 0=>0
  | i+1=>if (mget (.int .i64) g (i:Int)).isSome=true then kF g i else kF g i+1
def bkT (g:GoT) (T:List P3) (A:Int) (i:Nat):P3:=(mget (.int .i64) g (i:Int)).getD (upT A (tg T (kF g i)))
def outB (g:GoT) (T:List P3) (A:Int) (i:Nat):List P3:=(List.range i).map (bkT g T A)
def set3 (t:P3) (k:Nat) (v:Int):P3:=(if k=0 then v else t.1,if k=1 then v else t.2.1,if k=2 then v else t.2.2)
def fanS1 (A:Int) (o:List P3) (c:Int):List P3:=o.set (c.tdiv 3).toNat (set3 (o.getD (c.tdiv 3).toNat (0,0,0)) (c.tmod 3).toNat A)
def fanO (A:Int) (fan:List Int) (o:List P3) (j:Nat):List P3:=irec (fun o k=>fanS1 A o (fan.getD k 0)) o j
def bkN (s:SoT) (r:RecT):Nat:=s.2.length+r.2.2.1.length
def bkC (s:SoT) (r:RecT):Prop:=r.2.2.1.length=r.2.2.2.1.length∧0≤r.1∧r.1≤s.1∧s.1<4096∧bkN s r≤8192
instance (s:SoT) (r:RecT):Decidable (bkC s r):=inferInstanceAs (Decidable (_∧_))
def bkG (r:RecT):GoT:=gonM r.2.2.1 r.2.2.2.1 r.2.2.1.length
def fanB (n:Nat) (fan:List Int):Bool:=fan.all fun c=>decide (0≤c∧c<3*(n:Int))
def bkR (s:SoT) (r:RecT):SoT×Bool :=
  if bkC s r∧kF (bkG r) (bkN s r)≤s.2.length∧fanB (bkN s r) r.2.2.2.2=true then
    ((s.1+1,fanO r.1 r.2.2.2.2 (outB (bkG r) s.2 r.1 (bkN s r)) r.2.2.2.2.length),decide (kF (bkG r) (bkN s r)=s.2.length))
  else ((0,[]),false)
theorem kF_s (g:GoT) (i:Nat):kF g (i+1)=if (mget (.int .i64) g (i:Int)).isSome=true then kF g i else kF g i+1:=rfl
theorem kF_mono (g:GoT): ∀ {i j:Nat},i≤j→kF g i≤kF g j
  | i,0,h=>by rw [show i=0 by omega];exact Nat.le_refl _
  | i,j+1,h=>by
    by_cases e:i=j+1
    · rw [e];exact Nat.le_refl _
    · have:=kF_mono g (i:=i) (j:=j) (by omega)
      rw [kF_s];split<;>omega
structure Was (w:SoT) (a b:Int):Prop where
  surf:Surf w
  ha:InN w.1 a
  hb:InN w.1 b
  ne:a≠b
section
variable {w:SoT} {a b:Int} (h:Was w a b)
theorem gon_at (a b:Int) (l:List P3): ∀ i,i≤l.length→∀ j:Nat,mget (.int .i64) (gonM (atL a b l l.length) (rtL a b l l.length) (atL a b l i).length) (j:Int)=if j<i∧both a b (tg l j)=true then some (tg l j) else none
  | 0,_,j=>by rw [if_neg (by omega)];rfl
  | i + 1,hi,j=>by
    have ih:=gon_at a b l i (by omega) j
    have e1:atL a b l (i+1)=atL a b l i++(atG a b l i).toList:=fm_succ _ _
    rw [e1]
    by_cases k:both a b (tg l i)=true
    · have f1:atG a b l i=some (i:Int):=by unfold atG;rw [if_pos k]
      have f2:rtG a b l i=some (tg l i):=by unfold rtG;rw [if_pos k]
      have g1:=(fm_at (0:Int) (atG a b l) f1 l.length (by omega)).2
      have g2:=(fm_at ((0,0,0):P3) (rtG a b l) f2 l.length (by omega)).2
      have er:(atL a b l i).length=(rtL a b l i).length:=at_rt a b l i
      have g2:(rtL a b l l.length).getD (atL a b l i).length (0,0,0)=tg l i:=by rw [er];exact g2
      have g1:(atL a b l l.length).getD (atL a b l i).length 0=(i:Int):=g1
      rw [f1,Option.toList,List.length_append,List.length_singleton]
      show mget (.int .i64) (mset (.int .i64) (gonM _ _ (atL a b l i).length) ((atL a b l l.length).getD (atL a b l i).length 0) ((rtL a b l l.length).getD (atL a b l i).length (0,0,0))) (j:Int)=_
      rw [g1,g2]
      by_cases e:j=i
      · subst e
        rw [mget_same,if_pos ⟨by omega,k⟩]
      · rw [mget_other _ (show ((i:Nat):Int)≠(j:Int) by omega),ih]
        by_cases q:both a b (tg l j)=true
        · by_cases q2:j<i
          · rw [if_pos ⟨q2,q⟩,if_pos ⟨by omega,q⟩]
          · rw [if_neg (fun z=>q2 z.1),if_neg (fun z=>by omega)]
        · rw [if_neg (fun z=>q z.2),if_neg (fun z=>q z.2)]
    · have f1:atG a b l i=none:=by unfold atG;rw [if_neg k]
      rw [f1,Option.toList,List.append_nil,ih]
      by_cases q:both a b (tg l j)=true
      · by_cases q2:j<i
        · rw [if_pos ⟨q2,q⟩,if_pos ⟨by omega,q⟩]
        · have: ¬ j<i+1:=fun z=>k (by rw [← show j=i by omega];exact q)
          rw [if_neg (fun z=>q2 z.1),if_neg (fun z=>this z.1)]
      · rw [if_neg (fun z=>q z.2),if_neg (fun z=>q z.2)]
theorem gon_get (a b:Int) {l:List P3} {j:Nat} (hj:j<l.length):mget (.int .i64) (gonM (atL a b l l.length) (rtL a b l l.length) (atL a b l l.length).length) (j:Int)=if both a b (tg l j)=true then some (tg l j) else none:=by
  rw [gon_at a b l l.length (Nat.le_refl _) j]
  by_cases q:both a b (tg l j)=true
  · rw [if_pos ⟨hj,q⟩,if_pos q]
  · rw [if_neg (fun z=>q z.2),if_neg q]
theorem kF_was (a b:Int) (l:List P3): ∀ i,i≤l.length→kF (gonM (atL a b l l.length) (rtL a b l l.length) (atL a b l l.length).length) i=(drL a b l i).length
  | 0,_=>rfl
  | i+1,hi=>by
    rw [kF_s,kF_was a b l i (by omega),gon_get a b (by omega),drL_succ]
    unfold drG
    split
    · simp [Option.toList]
    · simp [Option.toList]
theorem up_dn {a b v:Int} (h:v≠a):upV a (dn a (ph a b v))=v:=by
  rw [ph_n h];unfold upV dn
  split<;>split<;>omega
def upD (a b:Int) (t:P3):P3:=if both a b t=true then t else upT a (drT a b t)
theorem out_was (a b:Int) (l:List P3) {i:Nat} (hi:i≤l.length):outB (gonM (atL a b l l.length) (rtL a b l l.length) (atL a b l l.length).length) (drL a b l l.length) a i=(List.range i).map fun j=>upD a b (tg l j):=by
  unfold outB
  refine List.map_congr_left fun j hj=> ?_
  have hj:=List.mem_range.1 hj
  unfold bkT upD
  rw [gon_get a b (by omega)]
  split
  · rfl
  · rename_i k
    rw [kF_was a b l j (by omega)]
    have f:drG a b l j=some (drT a b (tg l j)):=by unfold drG;rw [if_neg k]
    have:=(fm_at ((0,0,0):P3) (drG a b l) f l.length (by omega)).2
    have:tg (drL a b l l.length) (drL a b l j).length=drT a b (tg l j):=this
    show upT a (tg (drL a b l l.length) (drL a b l j).length)=_
    rw [this]
theorem pos3_r {a:Int} {t:P3} :0≤pos3 a t∧pos3 a t<3:=by unfold pos3;split<;>(try split)<;>omega
theorem fix_tri {a b:Int} {t:P3} (hd: ¬ dgn t) (ha:hasV t a):set3 (upT a (drT a b t)) (pos3 a t).toNat a=t:=by
  obtain ⟨x,y,z⟩:=t
  unfold dgn at hd;unfold hasV at ha
  simp only at hd ha
  have key: ∀ {v:Int},v≠a→upV a (dn a (ph a b v))=v:=fun h=>up_dn h
  by_cases h1:x=a
  · have h2:y≠a:=by omega
    have h3:z≠a:=by omega
    simp only [pos3,h1,if_true,set3,upT,drT,mapT,phT,key h2,key h3]
    simp
  · by_cases h2:y=a
    · have h3:z≠a:=by omega
      simp only [pos3,h1,h2,if_true,if_false,set3,upT,drT,mapT,phT,key h1,key h3]
      simp
    · have h3:z=a:=by omega
      simp only [pos3,h1,h2,h3,if_true,if_false,set3,upT,drT,mapT,phT,key h1,key h2]
      simp
theorem same_tri {a b:Int} {t:P3} (ha: ¬ hasV t a):upT a (drT a b t)=t:=by
  obtain ⟨x,y,z⟩:=t
  unfold hasV at ha
  simp only at ha
  show (upV a (dn a (ph a b x)),upV a (dn a (ph a b y)),upV a (dn a (ph a b z)))=_
  rw [up_dn (by omega),up_dn (by omega),up_dn (by omega)]
def mixF (a b:Int) (l:List P3) (i j:Nat):P3:=if j<i then tg l j else upD a b (tg l j)
theorem fan_was {a b:Int} {l:List P3} (hd: ∀ j,j<l.length→¬ dgn (tg l j)): ∀ i,i≤l.length→fanO a (fanL a b l l.length) ((List.range l.length).map fun j=>upD a b (tg l j)) (fanL a b l i).length=(List.range l.length).map (mixF a b l i)
  | 0,_=>by
    show ((List.range l.length).map fun j=>upD a b (tg l j))=_
    refine List.map_congr_left fun j hj=> ?_
    unfold mixF;rw [if_neg (by omega)]
  | i + 1,hi=>by
    have ih:=fan_was (a:=a) (b:=b) hd i (by omega)
    have e1:fanL a b l (i+1)=fanL a b l i++(fanG a b l i).toList:=fm_succ _ _
    have oth: ∀ j,j≠i→mixF a b l (i+1) j=mixF a b l i j:=fun j hj=>by
      unfold mixF
      by_cases q:j<i
      · rw [if_pos q,if_pos (by omega)]
      · rw [if_neg q,if_neg (by omega)]
    rw [e1]
    cases f:fanG a b l i with
    | none =>
      rw [Option.toList,List.append_nil,ih]
      refine List.map_congr_left fun j hj=> ?_
      by_cases e:j=i
      · subst e
        unfold mixF
        rw [if_neg (by omega),if_pos (by omega)]
        unfold upD
        split
        · rfl
        · rename_i k
          unfold fanG at f
          rw [if_neg k] at f
          split at f
          · cases f
          · rename_i k2;exact same_tri k2
      · exact (oth j e).symm
    | some c =>
      have g1:=(fm_at (0:Int) (fanG a b l) f l.length (by omega)).2
      have g1:(fanL a b l l.length).getD (fanL a b l i).length 0=c:=g1
      rw [Option.toList,List.length_append,List.length_singleton]
      show fanS1 a (fanO a (fanL a b l l.length) _ (fanL a b l i).length) ((fanL a b l l.length).getD (fanL a b l i).length 0)=_
      rw [g1,ih]
      unfold fanG at f
      split at f
      · cases f
      rename_i k
      split at f
      case isFalse=>cases f
      rename_i k2
      cases f
      have hp:=pos3_r (a:=a) (t:=tg l i)
      unfold fanS1
      have q1:((3*(i:Int)+pos3 a (tg l i)).tdiv 3).toNat=i:=by
        rw [Int.tdiv_eq_ediv_of_nonneg (by omega)];omega
      have q2:((3*(i:Int)+pos3 a (tg l i)).tmod 3).toNat=(pos3 a (tg l i)).toNat:=by
        rw [Int.tmod_eq_emod_of_nonneg (by omega)];omega
      rw [q1,q2]
      have gi:((List.range l.length).map (mixF a b l i)).getD i (0,0,0)=upT a (drT a b (tg l i)):=by
        rw [gdE,List.getElem?_map,List.getElem?_range (by omega)]
        show mixF a b l i i=_
        unfold mixF upD
        rw [if_neg (by omega),if_neg k]
      rw [gi,fix_tri (hd i (by omega)) k2]
      apply List.ext_getElem
      · simp
      · intro j h1 h2
        rw [List.getElem_set]
        by_cases e:i=j
        · subst e
          rw [if_pos rfl,List.getElem_map,List.getElem_range]
          unfold mixF;rw [if_pos (by omega)]
        · rw [if_neg e,List.getElem_map,List.getElem_map,List.getElem_range]
          exact (oth j (Ne.symm e)).symm
theorem fan_mem {a b:Int} {l:List P3} {n:Nat} {c:Int} :c∈fanL a b l n↔∃ j,j<n∧fanG a b l j=some c:=by
  unfold fanL
  rw [List.mem_filterMap]
  exact ⟨fun ⟨j,h1,h2⟩=>⟨j,List.mem_range.1 h1,h2⟩,fun ⟨j,h1,h2⟩=>⟨j,List.mem_range.2 h1,h2⟩⟩
theorem fanG_some {a b:Int} {l:List P3} {j:Nat} {c:Int} (h:fanG a b l j=some c): ¬ (both a b (tg l j)=true)∧hasV (tg l j) a∧c=3*(j:Int)+pos3 a (tg l j):=by
  unfold fanG at h
  split at h
  · cases h
  · rename_i k
    split at h
    · rename_i k2;cases h;exact ⟨k,k2,rfl⟩
    · cases h
include h
theorem bk_was:bkR (w.1 - 1,drL a b w.2 w.2.length) (recR w a b)=(w,true):=by
  obtain ⟨n,l⟩:=w
  have hf:=h.surf.fit
  have hn:bkN (n - 1,drL a b l l.length) (recR (n,l) a b)=l.length:=by
    have:=at_dr a b l l.length
    show (drL a b l l.length).length+(atL a b l l.length).length=_
    omega
  have hk:=kF_was a b l l.length (Nat.le_refl _)
  unfold bkR
  rw [hn]
  have hC:bkC (n - 1,drL a b l l.length) (recR (n,l) a b):=by
    refine ⟨at_rt a b l l.length,h.ha.1,?_,?_,?_⟩
    · show a≤n - 1
      have:=h.ha.2
      have:a<n:=this
      omega
    · show n - 1<4096
      have:n≤4096:=hf.2.1
      omega
    · rw [hn];exact hf.2.2.1
  have hK:kF (bkG (recR (n,l) a b)) l.length=(drL a b l l.length).length:=hk
  have hF:fanB l.length (recR (n,l) a b).2.2.2.2=true:=by
    unfold fanB
    rw [List.all_eq_true]
    intro c hc
    obtain ⟨j,hj,f⟩:=fan_mem.1 hc
    obtain ⟨_,_,e⟩:=fanG_some f
    have h3:=pos3_r (a:=a) (t:=tg l j)
    have hj:j<l.length:=hj
    have e:c=3*(j:Int)+pos3 a (tg l j):=e
    rw [decide_eq_true_eq];omega
  rw [if_pos ⟨hC,by rw [hK];exact Nat.le_refl _,hF⟩,decide_eq_true (by rw [hK])]
  refine Prod.ext (Prod.ext (by show n - 1+1=n;omega) ?_) rfl
  show fanO a (fanL a b l l.length) (outB _ (drL a b l l.length) a l.length) (fanL a b l l.length).length=l
  have e:=out_was a b l (Nat.le_refl _)
  have e:outB (bkG (recR (n,l) a b)) (drL a b l l.length) a l.length=_:=e
  rw [e,fan_was h.surf.deg l.length (Nat.le_refl _)]
  conv=>rhs;rw [← range_getD (0,0,0) l]
  refine List.map_congr_left fun j hj=> ?_
  unfold mixF;rw [if_pos (List.mem_range.1 hj)]
end
def aF (at_:List Int):Nat→Nat
  | 0=>0
  | i+1=>if aF at_ i<at_.length∧at_.getD (aF at_ i) 0=(i:Int) then aF at_ i+1 else aF at_ i
def fv (A:Int) (fan:List Int) (c v:Int):Int:=if c∈fan then A else v
def rfT (A:Int) (fan:List Int) (i:Nat) (t:P3):P3:=(fv A fan (3*(i:Int)) (upV A t.1),fv A fan (3*(i:Int)+1) (upV A t.2.1),fv A fan (3*(i:Int)+2) (upV A t.2.2))
def rbT (at_:List Int) (ts T:List P3) (A:Int) (fan:List Int) (i:Nat):P3:=if aF at_ i<at_.length∧at_.getD (aF at_ i) 0=(i:Int) then tg ts (aF at_ i) else rfT A fan i (tg T (i - aF at_ i))
def outR (at_:List Int) (ts T:List P3) (A:Int) (fan:List Int) (i:Nat):List P3:=(List.range i).map (rbT at_ ts T A fan)
def rbC (s:SoT) (r:RecT):Prop:=r.2.2.1.length=r.2.2.2.1.length∧bkN s r≤8192∧0≤r.1∧r.1≤s.1
instance (s:SoT) (r:RecT):Decidable (rbC s r):=inferInstanceAs (Decidable (_∧_))
def rbk (s:SoT) (r:RecT):Option SoT :=
  if rbC s r∧bkN s r - aF r.2.2.1 (bkN s r)≤s.2.length then some (s.1+1,outR r.2.2.1 r.2.2.2.1 s.2 r.1 r.2.2.2.2 (bkN s r)) else none
theorem aF_s (at_:List Int) (i:Nat):aF at_ (i+1)=if aF at_ i<at_.length∧at_.getD (aF at_ i) 0=(i:Int) then aF at_ i+1 else aF at_ i:=rfl
section
variable {w:SoT} {a b:Int} (h:Was w a b)
theorem at_hit (a b:Int) (l:List P3) {i:Nat} (hi:i<l.length):((atL a b l i).length<(atL a b l l.length).length∧(atL a b l l.length).getD (atL a b l i).length 0=(i:Int))↔both a b (tg l i)=true:=by
  constructor
  · rintro ⟨h1,h2⟩
    have:=getD_mem h1
    rw [h2] at this
    unfold atL at this
    obtain ⟨j,hj,e⟩:=List.mem_filterMap.1 this
    unfold atG at e
    split at e
    · rename_i k
      have e:=Option.some.inj e
      rw [← show j=i by omega];exact k
    · cases e
  · intro k
    exact fm_at (0:Int) (atG a b l) (x:=(i:Int)) (by unfold atG;rw [if_pos k]) l.length hi
theorem aF_was (a b:Int) (l:List P3): ∀ i,i≤l.length→aF (atL a b l l.length) i=(atL a b l i).length
  | 0,_=>rfl
  | i +1,hi=>by
    have e1:atL a b l (i+1)=atL a b l i++(atG a b l i).toList:=fm_succ _ _
    rw [aF_s,aF_was a b l i (by omega),e1]
    by_cases k:both a b (tg l i)=true
    · rw [if_pos ((at_hit a b l (by omega)).2 k)]
      unfold atG;rw [if_pos k];simp [Option.toList]
    · rw [if_neg (fun z=>k ((at_hit a b l (by omega)).1 z))]
      unfold atG;rw [if_neg k];simp [Option.toList]
theorem fv_was {a b:Int} {l:List P3} {i:Nat} (hi:i<l.length) (hd: ¬ dgn (tg l i)) (hb: ¬ (both a b (tg l i)=true)):rfT a (fanL a b l l.length) i (drT a b (tg l i))=tg l i:=by
  have key: ∀ (k:Int) (v:Int),0≤k→k<3→(v=a↔(hasV (tg l i) a∧pos3 a (tg l i)=k))→fv a (fanL a b l l.length) (3*(i:Int)+k) (upV a (dn a (ph a b v)))=v:=fun k v k0 k3 hv=>by
    unfold fv
    split
    · rename_i hm
      obtain ⟨j,hj,f⟩:=fan_mem.1 hm
      obtain ⟨_,f2,f3⟩:=fanG_some f
      have:=pos3_r (a:=a) (t:=tg l j)
      have e:j=i:=by omega
      subst e
      exact (hv.2 ⟨f2,by omega⟩).symm
    · rename_i hm
      refine up_dn fun e=>hm ?_
      obtain ⟨q1,q2⟩:=hv.1 e
      refine fan_mem.2 ⟨i,hi,?_⟩
      unfold fanG;rw [if_neg hb,if_pos q1,q2]
  unfold dgn at hd
  have e0:=key 0 (tg l i).1 (by omega) (by omega) (by
    unfold hasV pos3
    constructor
    · intro e;exact ⟨.inl e,by rw [if_pos e]⟩
    · rintro ⟨_,e⟩;split at e
      · assumption
      · split at e<;>omega)
  have e1:=key 1 (tg l i).2.1 (by omega) (by omega) (by
    unfold hasV pos3
    constructor
    · intro e;exact ⟨.inr (.inl e),by rw [if_neg (by omega),if_pos e]⟩
    · rintro ⟨_,e⟩;split at e
      · omega
      · split at e
        · assumption
        · omega)
  have e2:=key 2 (tg l i).2.2 (by omega) (by omega) (by
    unfold hasV pos3
    constructor
    · intro e;exact ⟨.inr (.inr e),by rw [if_neg (by omega),if_neg (by omega)]⟩
    · rintro ⟨q,e⟩;split at e
      · omega
      · split at e<;>omega)
  rw [Int.add_zero] at e0
  exact Prod.ext e0 (Prod.ext e1 e2)
include h
theorem rbk_was:rbk (w.1 - 1,drL a b w.2 w.2.length) (recR w a b)=some w:=by
  obtain ⟨n,l⟩:=w
  have hf:=h.surf.fit
  have hn:bkN (n - 1,drL a b l l.length) (recR (n,l) a b)=l.length:=by
    have:=at_dr a b l l.length
    show (drL a b l l.length).length+(atL a b l l.length).length=_
    omega
  have hC:rbC (n - 1,drL a b l l.length) (recR (n,l) a b):=by
    refine ⟨at_rt a b l l.length,by rw [hn];exact hf.2.2.1,h.ha.1,?_⟩
    show a≤n - 1
    have:=h.ha.2
    have:a<n:=this
    omega
  have ha:=aF_was a b l
  have hl: ∀ i,i≤l.length→i - aF (atL a b l l.length) i=(drL a b l i).length:=fun i hi=>by
    rw [ha i hi];have:=at_dr a b l i;omega
  unfold rbk
  rw [hn]
  have h2:l.length - aF (recR (n,l) a b).2.2.1 l.length≤(drL a b l l.length).length:=Nat.le_of_eq (hl l.length (Nat.le_refl _))
  rw [if_pos ⟨hC,h2⟩]
  refine congrArg some (Prod.ext (by show n - 1+1=n;omega) ?_)
  show outR (atL a b l l.length) (rtL a b l l.length) (drL a b l l.length) a (fanL a b l l.length) l.length=l
  unfold outR
  conv=>rhs;rw [← range_getD (0,0,0) l]
  refine List.map_congr_left fun j hj=> ?_
  have hj:=List.mem_range.1 hj
  show rbT _ _ _ a _ j=tg l j
  unfold rbT
  rw [ha j (by omega)]
  by_cases k:both a b (tg l j)=true
  · rw [if_pos ((at_hit a b l hj).2 k)]
    have f2:rtG a b l j=some (tg l j):=by unfold rtG;rw [if_pos k]
    have g2:=(fm_at ((0,0,0):P3) (rtG a b l) f2 l.length hj).2
    rw [at_rt a b l j]
    exact g2
  · rw [if_neg (fun z=>k ((at_hit a b l hj).1 z))]
    have f:drG a b l j=some (drT a b (tg l j)):=by unfold drG;rw [if_neg k]
    have g:=(fm_at ((0,0,0):P3) (drG a b l) f l.length hj).2
    have g:tg (drL a b l l.length) (drL a b l j).length=drT a b (tg l j):=g
    rw [show j - (atL a b l j).length=(drL a b l j).length by have:=at_dr a b l j;omega,g]
    exact fv_was hj (h.surf.deg j hj) k
end
end S1
open Go Go.Vm Go.Proofs
namespace S1
theorem nil_av {σ:Sig} {β:Places} {v:Value} (h:VRep σ β ((ETy.pt tabE).av none) v):VRep σ β (nilO none) v:=by
  have h:[v]=[Value.pointer none]:=h
  exact ⟨(List.cons.inj h).1,by simp [Scal]⟩
theorem FnOk.res {P:Program} {f:FuncId} {args:List AV} {p q:Option Prop} {u u':AV} (h:FnOk P f args (p,q,u)) (hu: ∀ (σ:Sig) (v:Value),VRep σ [] u v→VRep σ [] u' v):FnOk P f args (p,q,u') :=
  fun σ vals w h1 h2=>⟨(h σ vals w h1 h2).1,fun hq=>((h σ vals w h1 h2).2 hq).mono fun _ _ ⟨v,σ',e1,e2,e3,e4,e5,e6⟩=>⟨v,σ',e1,e2,e3,e4,hu σ' v e5,e6⟩⟩
def newXC (x:tabE.T):List AV→Option Res:=con1 soupE (fun s=>some (none,some (newO s=some x),.tup [(ETy.pt tabE).av (some x),witE.av (0,0,0)]))
theorem newXRow (x:tabE.T):FnRow Try.prog 12 (newXC x):=⟨con1_ok fun s r h=>by
  cases h
  intro σ vals w hag hv
  refine ⟨trivial,fun hq=> ?_⟩
  have hq:newO s=some x:=hq
  have:=(newRow.1 _ _ (rfl:newC [soupE.av s]=_) σ vals w hag hv).2 trivial
  have hc:(chkR s).1=0:=by
    unfold newO at hq
    split at hq
    · assumption
    · cases hq
  rw [hq,chk_eq hc] at this
  exact this,_,Try.func12,by kernel_rfl,by kernel_rfl⟩
def newNC:List AV→Option Res:=con1 soupE (fun s=>some (none,some (newO s=none),.tup [nilO none,witE.av (chkR s)]))
theorem newNRow:FnRow Try.prog 12 newNC:=⟨con1_ok fun s r h=>by
  cases h
  intro σ vals w hag hv
  refine ⟨trivial,fun hq=> ?_⟩
  have hq:newO s=none:=hq
  have:=(newRow.1 _ _ (rfl:newC [soupE.av s]=_) σ vals w hag hv).2 trivial
  rw [hq] at this
  refine this.mono fun e w' ⟨v,σ',e1,e2,e3,e4,e5,e6⟩=>⟨v,σ',e1,e2,e3,e4,?_,e6⟩
  obtain ⟨vs,e,r⟩:=e5
  match vs,r with
  | [a,b],r=>exact ⟨_,e,nil_av r.1,r.2.1,trivial⟩,_,Try.func12,by kernel_rfl,by kernel_rfl⟩
end S1
open Go Go.Vm Go.Proofs
namespace S1
def doE (s:SoT) (a b:Int):Int:=if isR s=true then (if (0≤a∧a<s.1)∧(0≤b∧b<s.1) then reasI (whyR (newT s) a b) else 2) else 11
def doR (s:SoT) (a b:Int):SoT×RecT×Int:=if doE s a b=0 then ((s.1 - 1,drL a b s.2 s.2.length),recR s a b,0) else ((0,[]),(0,0,[],[],[]),doE s a b)
def doV (r:SoT×RecT×Int):AV:= .tup [soupE.av r.1,recE.av r.2.1,.s (.int .i64 r.2.2)]
def doW (r:SoT×RecT×Int):AV:=if r.2.2=0 then doV r else .tup [.agg [.int .i64 0,.val (.slice none 0 0)],.agg [.int .i64 0,.int .i64 0,.val (.slice none 0 0),.val (.slice none 0 0),.val (.slice none 0 0)],.s (.int .i64 r.2.2)]
theorem doR_0 {s:SoT} {a b:Int} (h:doE s a b=0):doR s a b=((s.1 - 1,drL a b s.2 s.2.length),recR s a b,0):=if_pos h
theorem doR_e {s:SoT} {a b:Int} (h:doE s a b≠0):doR s a b=((0,[]),(0,0,[],[],[]),doE s a b):=if_neg h
theorem doR_err (s:SoT) (a b:Int):(doR s a b).2.2=doE s a b:=by
  by_cases h:doE s a b=0
  · rw [doR_0 h,h]
  · rw [doR_e h]
theorem is_surf (s:SoT):isR s=true↔Surf s:=by
  unfold isR
  rw [decide_eq_true_eq]
  exact ⟨fun h=>(surf_iff s).1 (by rw [h]),fun h=>chk_eq ((surf_iff s).2 h)⟩
theorem doE_surf {s:SoT} (h:Surf s) (a b:Int):doE s a b=if (0≤a∧a<s.1)∧(0≤b∧b<s.1) then reasI (whyR (newT s) a b) else 2:=if_pos ((is_surf s).2 h)
theorem doE_no {s:SoT} (h:newO s=none) (a b:Int):doE s a b=11:=if_neg fun k=>by
  have:=(new_of ((is_surf s).1 k)).1
  rw [h] at this;cases this
theorem doW_e {s:SoT} {a b e:Int} (h:doE s a b=e) (he:e≠0):doW (doR s a b)= .tup [.agg [.int .i64 0,.val (.slice none 0 0)],.agg [.int .i64 0,.int .i64 0,.val (.slice none 0 0),.val (.slice none 0 0),.val (.slice none 0 0)],.s (.int .i64 e)]:=by
  unfold doW
  rw [doR_err,h,if_neg he]
theorem doW_0 {s:SoT} {a b:Int} (h:doE s a b=0):doW (doR s a b)=doV ((s.1 - 1,drL a b s.2 s.2.length),recR s a b,0):=by
  unfold doW
  rw [doR_err,h,if_pos rfl,doR_0 h]
theorem nil_sl {σ:Sig} {e:ETy} {v:Value} (h:ARep σ [] (.val (.slice none 0 0)) v):ARep σ [] (.sl e []) v:=by
  obtain ⟨h,_⟩:=h
  subst h
  exact zeroVals_rep (.sl e)
theorem doW_rep {σ:Sig} {s:SoT} {a b:Int} {v:Value} (h:VRep σ [] (doW (doR s a b)) v):VRep σ [] (doV (doR s a b)) v:=by
  by_cases he:doE s a b=0
  · rw [doW_0 he] at h;rw [doR_0 he];exact h
  · rw [doW_e rfl he] at h
    rw [doR_e he]
    obtain ⟨vs,e1,h⟩:=h
    match vs,h with
    | [x,y,z],⟨⟨ds,ea,h1⟩,⟨dt,eb,h2⟩,h3⟩ =>
      refine ⟨_,e1,⟨ds,ea,?_⟩,⟨dt,eb,?_⟩,h3⟩
      · match ds,h1 with
        | [d1,d2],⟨k1,k2,k3⟩=>exact ⟨k1,nil_sl k2,k3⟩
      · match dt,h2 with
        | [d1,d2,d3,d4,d5],⟨k1,k2,k3,k4,k5,k6⟩=>exact ⟨k1,k2,nil_sl k3,nil_sl k4,nil_sl k5,k6⟩
theorem fst3 (a:Int) (t:P3):(fstI a [t.1,t.2.1,t.2.2] 0≥0↔hasV t a)∧(hasV t a→fstI a [t.1,t.2.1,t.2.2] 0=pos3 a t):=by
  obtain ⟨x,y,z⟩:=t
  simp only [fstI,hasV,pos3]
  refine ⟨?_,fun h=> ?_⟩
  · by_cases h1:a=x
    · rw [if_pos h1];exact ⟨fun _=> .inl h1.symm,fun _=>by decide⟩
    · rw [if_neg h1]
      by_cases h2:a=y
      · rw [if_pos h2];exact ⟨fun _=> .inr (.inl h2.symm),fun _=>by decide⟩
      · rw [if_neg h2]
        by_cases h3:a=z
        · rw [if_pos h3];exact ⟨fun _=> .inr (.inr h3.symm),fun _=>by decide⟩
        · rw [if_neg h3];exact ⟨fun h=>absurd h (by decide),fun h=>by omega⟩
  · by_cases h1:x=a
    · rw [if_pos h1,if_pos h1.symm];rfl
    · rw [if_neg h1,if_neg (Ne.symm h1)]
      by_cases h2:y=a
      · rw [if_pos h2,if_pos h2.symm];rfl
      · rw [if_neg h2,if_neg (Ne.symm h2),if_pos (by omega)];rfl
theorem has3 (a:Int) (t:P3):hasI a [t.1,t.2.1,t.2.2]=true↔hasV t a:=by unfold hasI;rw [decide_eq_true_eq];exact (fst3 a t).1
theorem mapV_dr {a b v:Int} (h:0≤v):mapV v a b=dn a (ph a b v):=by
  unfold mapV dn ph;rw [if_neg (by omega)]
theorem atL_0 (a b:Int) (l:List P3):atL a b l 0=[]:=rfl
theorem rtL_0 (a b:Int) (l:List P3):rtL a b l 0=[]:=rfl
theorem fanL_0 (a b:Int) (l:List P3):fanL a b l 0=[]:=rfl
theorem drL_0 (a b:Int) (l:List P3):drL a b l 0=[]:=rfl
theorem do_k1 {a b:Int} {l:List P3} {i:Nat} (h:both a b (tg l i)=true):atL a b l (i+1)=atL a b l i++[(i:Int)]∧rtL a b l (i+1)=rtL a b l i++[tg l i]∧fanL a b l (i+1)=fanL a b l i∧drL a b l (i+1)=drL a b l i:=by
  have e1:atL a b l (i+1)=atL a b l i++(atG a b l i).toList:=fm_succ _ _
  have e2:rtL a b l (i+1)=rtL a b l i++(rtG a b l i).toList:=fm_succ _ _
  have e3:fanL a b l (i+1)=fanL a b l i++(fanG a b l i).toList:=fm_succ _ _
  rw [e1,e2,e3,drL_succ]
  unfold atG rtG fanG drG
  rw [if_pos h,if_pos h,if_pos h,if_pos h]
  exact ⟨rfl,rfl,List.append_nil _,List.append_nil _⟩
theorem do_k2 {a b:Int} {l:List P3} {i:Nat} (h: ¬ both a b (tg l i)=true) (h2:hasV (tg l i) a):atL a b l (i+1)=atL a b l i∧rtL a b l (i+1)=rtL a b l i∧fanL a b l (i+1)=fanL a b l i++[3*(i:Int)+pos3 a (tg l i)]∧drL a b l (i+1)=drL a b l i++[drT a b (tg l i)]:=by
  have e1:atL a b l (i+1)=atL a b l i++(atG a b l i).toList:=fm_succ _ _
  have e2:rtL a b l (i+1)=rtL a b l i++(rtG a b l i).toList:=fm_succ _ _
  have e3:fanL a b l (i+1)=fanL a b l i++(fanG a b l i).toList:=fm_succ _ _
  rw [e1,e2,e3,drL_succ]
  unfold atG rtG fanG drG
  rw [if_neg h,if_neg h,if_neg h,if_neg h,if_pos h2]
  exact ⟨List.append_nil _,List.append_nil _,rfl,rfl⟩
theorem do_k3 {a b:Int} {l:List P3} {i:Nat} (h2: ¬ hasV (tg l i) a):atL a b l (i+1)=atL a b l i∧rtL a b l (i+1)=rtL a b l i∧fanL a b l (i+1)=fanL a b l i∧drL a b l (i+1)=drL a b l i++[drT a b (tg l i)]:=by
  have h: ¬ both a b (tg l i)=true:=fun k=>h2 ((both_iff.1 k).1)
  have e1:atL a b l (i+1)=atL a b l i++(atG a b l i).toList:=fm_succ _ _
  have e2:rtL a b l (i+1)=rtL a b l i++(rtG a b l i).toList:=fm_succ _ _
  have e3:fanL a b l (i+1)=fanL a b l i++(fanG a b l i).toList:=fm_succ _ _
  rw [e1,e2,e3,drL_succ]
  unfold atG rtG fanG drG
  rw [if_neg h,if_neg h,if_neg h,if_neg h,if_neg h2]
  exact ⟨List.append_nil _,List.append_nil _,List.append_nil _,rfl⟩
theorem sfit_surf {s:SoT} (h:Surf s):soupFit s=true:=by
  have hf:=h.fit
  have hb:badF s.1 s.2 0= -1:=badF_no _ _ _ fun t ht=>by
    obtain ⟨i,hi,e⟩:=mem_tg ht
    have h1:=hf.2.2.2 i hi
    have h2:=h.deg i hi
    have e2:s.2.getD i (0,0,0)=t:=e
    rw [e2] at h1
    rw [e] at h2
    unfold dgn at h2
    unfold fitB
    rw [h1]
    simp only [Bool.true_and,Bool.and_eq_true,bne_iff_ne]
    exact ⟨fun k=>h2 (.inl k),fun k=>h2 (.inr (.inl k)),fun k=>h2 (.inr (.inr k))⟩
  unfold soupFit
  have h1:=hf.1;have h2:=hf.2.1;have h3:=hf.2.2.1
  rw [hb,decide_eq_false (by omega),decide_eq_false (by omega),decide_eq_false (by omega),decide_eq_false (by omega)];rfl
theorem doE_rng {s:SoT} (h:Surf s) {a b:Int} (hn: ¬ ((0≤a∧a<s.1)∧(0≤b∧b<s.1))):doE s a b=2:=by rw [doE_surf h,if_neg hn]
theorem doE_in {s:SoT} (h:Surf s) {a b:Int} (hn:(0≤a∧a<s.1)∧(0≤b∧b<s.1)):doE s a b=reasI (whyO (some (newT s)) a b):=by rw [doE_surf h,if_pos hn];rfl
def loopDo (n a b:Int) (l:List P3):Spec Nat where
  inv i:=i≤l.length
  live i:=[(71,.s (.int .i64 i))]
  keep:=[1,2,3,6,7,8,12,13,69,70]
  heap i:=[(4,.flat 29 [.int .i64 a,.int .i64 b,.own 6 0 (atL a b l i).length,.own 7 0 (rtL a b l i).length,.own 8 0 (fanL a b l i).length]),(5,.flat 24 [.int .i64 (n - 1),.own 9 0 (drL a b l i).length]),
    (6,.row i64E 3 (atL a b l i)),(7,.row .arr3 40 (rtL a b l i)),(8,.row i64E 3 (fanL a b l i)),(9,.row .arr3 40 (drL a b l i))]
  keepH:=[0,1,2,3]
  mu i:=l.length - i
  nils:=[4,4,4,5]
attribute [local irreducible] doW whyO reasI hasI fstI atL rtL fanL drL mapV soupFit
theorem cdo_vc (n:Int) (l:List P3) (a b:Int) (x:tabE.T) (hx:newO (n,l)=some x):afun ⟨tyL,[(12,newXC x),(30,sfitC),(17,whyC),(31,reasC),(32,indexIC),(33,containsC),(13,cmapC)],[]⟩ Try.f11 [soupE.av (n,l),i64E.av a,i64E.av b] (fun r=>r=doW (doR (n,l) a b)):=by
  obtain ⟨e0,g,hs⟩:=new_full hx
  repeat' (conv=>whnf
           first | done | refine qN (by first | rfl | omega | (simp only [i64ok] at *;omega)) ?_ | apply qH | refine qG fun _=> ?_ | apply qB | apply qa | apply qo | refine qe (fun _=> ?_) (fun _=> ?_) | refine qn (fun _=> ?_) (fun _=> ?_) | refine qd (fun _=> ?_) (fun _=> ?_) | apply qt | refine qi (fun _=> ?_) (fun _=> ?_) | (refine atReg 12 rfl ?_;refine Or.inr (Exists.intro (Nat) (Exists.intro (loopDo n a b l) (And.intro (Exists.intro (0) (And.intro (Hold.out ?_) (And.intro ?_ (And.intro ?_ rfl)))) (fun i hi=> ?_))))) | ((with_reducible show (∃ y,And (Spec.inv (loopDo _ _ _ _) y) _));refine Exists.intro (i+1) (And.intro (Hold.out ?_) (And.intro (And.intro ?_ (And.intro ?_ rfl)) (Hold.out ?_)))) | refine And.intro rfl ?_ | apply qE | apply qO | exact True.intro | apply qq | apply qs | refine qK (by kernel_rfl) ?_ | apply qr)
  all_goals try first | apply qz1 | apply qz2 | apply qz3 | apply qz4 | apply qz5 | apply qz6 | apply qz7 | apply qz8 | apply qz9 | apply qz0
  all_goals try simp only [take_one,take_one',set_one,take_all,qn1,rec_self,qn2,pair_eta,ETy.dflt,qn3,qn4,Int.reduceToNat,Int.reduceAdd,Int.reduceSub,Int.reduceNeg,Nat.reduceAdd,Nat.zero_add,loopDo] at *
  all_goals have hf:=hs.fit
  all_goals have hn:0≤n∧n≤4096:=⟨hf.1,hf.2.1⟩
  all_goals have hl:l.length≤8192:=hf.2.2.1
  all_goals try exact HoldEq.intro (doW_e (doE_rng hs (by show ¬ ((0≤a∧a<n)∧0≤b∧b<n);omega)) (by decide)).symm
  all_goals try exact qh (fun y e=>by cases e;exact g.toGood)
  all_goals try exact absurd (sfit_surf hs) (by rw [show soupFit (n,l)=false by assumption];decide)
  all_goals have hab:(0≤a∧a<n)∧(0≤b∧b<n):=by omega
  all_goals have hE:doE (n,l) a b=reasI (whyO (some x) a b):=by rw [e0];exact doE_in hs hab
  all_goals try exact HoldEq.intro (doW_e hE (by assumption)).symm
  all_goals try first | exact atL_0 a b l | exact rtL_0 a b l | exact fanL_0 a b l | exact drL_0 a b l | (rw [atL_0,rtL_0,fanL_0];exact HoldOb.intro rfl) | (rw [drL_0];exact HoldOb.intro rfl)
  all_goals try (refine qh ?_;unfold i64ok;omega)
  all_goals try (refine qh ?_;omega)
  all_goals try
    have hi9:i=l.length:=by omega
    subst hi9
    rw [doW_0 (hE.trans (by assumption))]
    exact HoldEq.intro rfl
  all_goals have hi1:(i:Int)<l.length:=by assumption
  all_goals have hla:(atL a b l i).length≤i:=at_len a b l i
  all_goals have hlr:(rtL a b l i).length≤i:=rt_len a b l i
  all_goals have hlf:(fanL a b l i).length≤i:=fan_len a b l i
  all_goals have hld:=drL_len a b l i
  all_goals have ht:(0≤(l.getD i (0,0,0)).1∧(l.getD i (0,0,0)).1<n)∧(0≤(l.getD i (0,0,0)).2.1∧(l.getD i (0,0,0)).2.1<n)∧(0≤(l.getD i (0,0,0)).2.2∧(l.getD i (0,0,0)).2.2<n):=triIn_spec (hf.2.2.2 i (show i<l.length by omega))
  all_goals try (refine qh ?_;omega)
  all_goals try (refine Hold.intro ⟨⟨?_,?_⟩,?_,?_⟩<;>clear hi hi1 hx e0 g hs hf hE<;>omega)
  all_goals try exact absurd (show fstI a [(l.getD i (0,0,0)).fst,(l.getD i (0,0,0)).snd.fst,(l.getD i (0,0,0)).snd.snd] 0≥0 by assumption) (by assumption)
  all_goals have fa:=fst3 a (l.getD i (0,0,0))
  all_goals have fb:=has3 b (l.getD i (0,0,0))
  all_goals have hp3:=pos3_r (a:=a) (t:=l.getD i (0,0,0))
  all_goals have eD:drT a b (l.getD i (0,0,0))=(mapV (l.getD i (0,0,0)).1 a b,mapV (l.getD i (0,0,0)).2.1 a b,mapV (l.getD i (0,0,0)).2.2 a b):=by
              rw [mapV_dr ht.1.1,mapV_dr ht.2.1.1,mapV_dr ht.2.2.1];rfl
  all_goals try
    have kb:hasI b [(l.getD i (0,0,0)).fst,(l.getD i (0,0,0)).snd.fst,(l.getD i (0,0,0)).snd.snd]=true:=by assumption
    have ka:hasV (l.getD i (0,0,0)) a:=fa.1.1 (by assumption)
    obtain ⟨k1,k2,k3,k4⟩:=do_k1 (a:=a) (b:=b) (l:=l) (i:=i) (both_iff.2 ⟨ka,fb.1 kb⟩)
    rw [k1,k2,k3]
    exact HoldOb.intro (by simp only [List.length_append,List.length_singleton])
  all_goals try
    have kb:hasI b [(l.getD i (0,0,0)).fst,(l.getD i (0,0,0)).snd.fst,(l.getD i (0,0,0)).snd.snd]=true:=by assumption
    have ka:hasV (l.getD i (0,0,0)) a:=fa.1.1 (by assumption)
    obtain ⟨k1,k2,k3,k4⟩:=do_k1 (a:=a) (b:=b) (l:=l) (i:=i) (both_iff.2 ⟨ka,fb.1 kb⟩)
    first | exact k1 | exact k2 | exact k3 | exact k4 | (rw [k4];exact HoldOb.intro rfl)
  all_goals try
    have kb:hasI b [(l.getD i (0,0,0)).fst,(l.getD i (0,0,0)).snd.fst,(l.getD i (0,0,0)).snd.snd]=false:=by assumption
    have ka:hasV (l.getD i (0,0,0)) a:=fa.1.1 (by assumption)
    have eF:=fa.2 ka
    have kn: ¬ both a b (tg l i)=true:=fun k=>by rw [fb.2 (both_iff.1 k).2] at kb;cases kb
    obtain ⟨k1,k2,k3,k4⟩:=do_k2 (a:=a) (b:=b) (l:=l) (i:=i) kn ka
    first
    | exact k1
    | exact k2
    | (rw [eF];exact k3)
    | (rw [← eD];exact k4)
    | (rw [k1,k2,k3];exact HoldOb.intro (by simp only [List.length_append,List.length_singleton]))
    | (rw [k4];exact HoldOb.intro (by simp only [List.length_append,List.length_singleton]))
    | (rw [eF];refine qh ?_;unfold i64ok;omega)
  all_goals
    have ka: ¬ hasV (l.getD i (0,0,0)) a:=fun k=>absurd (fa.1.2 k) (by assumption)
    obtain ⟨k1,k2,k3,k4⟩:=do_k3 (a:=a) (b:=b) (l:=l) (i:=i) ka
    first
    | exact k1
    | exact k2
    | exact k3
    | (rw [← eD];exact k4)
    | (rw [k1,k2,k3];exact HoldOb.intro rfl)
    | (rw [k4];exact HoldOb.intro (by simp only [List.length_append,List.length_singleton]))
theorem cdo0_vc (n:Int) (l:List P3) (a b:Int) (hx:newO (n,l)=none):afun ⟨tyL,[(12,newNC),(30,sfitC),(17,whyC),(31,reasC),(32,indexIC),(33,containsC),(13,cmapC)],[]⟩ Try.f11 [soupE.av (n,l),i64E.av a,i64E.av b] (fun r=>r=doW (doR (n,l) a b)):=by
  have e:=doW_e (doE_no hx a b) (by decide)
  repeat' (conv=>whnf
           first | done | refine qN (by first | rfl | omega | (simp only [i64ok] at *;omega)) ?_ | apply qH | refine qG fun _=> ?_ | apply qB | apply qa | apply qo | refine qe (fun _=> ?_) (fun _=> ?_) | refine qn (fun _=> ?_) (fun _=> ?_) | refine qd (fun _=> ?_) (fun _=> ?_) | apply qt | refine qi (fun _=> ?_) (fun _=> ?_) | (refine atReg 12 rfl ?_;refine Or.inr (Exists.intro (Nat) (Exists.intro (loopDo n a b l) (And.intro (Exists.intro (0) (And.intro (Hold.out ?_) (And.intro ?_ (And.intro ?_ rfl)))) (fun i hi=> ?_))))) | ((with_reducible show (∃ y,And (Spec.inv (loopDo _ _ _ _) y) _));refine Exists.intro (i+1) (And.intro (Hold.out ?_) (And.intro (And.intro ?_ (And.intro ?_ rfl)) (Hold.out ?_)))) | refine And.intro rfl ?_ | apply qE | apply qO | exact True.intro | apply qq | apply qs | refine qK (by kernel_rfl) ?_ | apply qr)
  all_goals try first | apply qz1 | apply qz2 | apply qz3 | apply qz4 | apply qz5 | apply qz6 | apply qz7 | apply qz8 | apply qz9 | apply qz0
  all_goals try simp only [take_one,take_one',set_one,take_all,qn1,rec_self,qn2,pair_eta,ETy.dflt,qn3,qn4,Int.reduceToNat,Int.reduceAdd,Int.reduceSub,Int.reduceNeg,Nat.reduceAdd,Nat.zero_add] at *
  all_goals try exact qh hx
  all_goals exact HoldEq.intro e.symm
def cdoC:List AV→Option Res:=con3 soupE i64E i64E (fun s a b=>some (none,none,doV (doR s a b)))
theorem cdoRow:FnRow Try.prog 11 cdoC:=⟨con3_ok fun s a b r h=>by
  cases h
  cases e:newO s with
  | none=>exact FnOk.res (fn_by (rulesF (fn:=[(12,newNC),(30,sfitC),(17,whyC),(31,reasC),(32,indexIC),(33,containsC),(13,cmapC)]) (fr:=[]) ⟨newNRow,sfitRow,whyRow,reasRow,indexIRow,containsRow,cmapRow,trivial⟩ trivial) Try.func11 (by kernel_rfl) fun _ _=>cdo0_vc s.1 s.2 a b e) fun σ v h=>doW_rep h
  | some x=>exact FnOk.res (fn_by (rulesF (fn:=[(12,newXC x),(30,sfitC),(17,whyC),(31,reasC),(32,indexIC),(33,containsC),(13,cmapC)]) (fr:=[]) ⟨(newXRow x),sfitRow,whyRow,reasRow,indexIRow,containsRow,cmapRow,trivial⟩ trivial) Try.func11 (by kernel_rfl) fun _ _=>cdo_vc s.1 s.2 a b x e) fun σ v h=>doW_rep h,_,Try.func11,by kernel_rfl,by kernel_rfl⟩
end S1
