/- A part of the proofs of the laws. -/
import Derived.Test.YtahbknnehddjgaaT0toVmInl
import Derived.Test.YtahbknnehddjgaaVmSort
import Derived.Test.YtahbknnehddjgaaLaySort
set_option linter.unusedSimpArgs false
set_option linter.unusedVariables false
set_option maxHeartbeats 8000000
set_option maxRecDepth 100000
open Go Go.Vm Go.Proofs
namespace S1
def cmpR (x y:Int):Int:=if x<y then -1 else if x>y then 1 else 0
theorem nan_vc {fn} (x:Int):afun ⟨tyL,fn,[]⟩ Try.f108 [(ETy.int .i64).av x] (fun v=>v= .s (.bool false)):=by
  repeat' (conv=>whnf
           first | done | refine qN (by first | rfl | omega | (simp only [i64ok] at *;omega)) ?_ | apply qH | refine qG fun _=> ?_ | apply qB | apply qa | apply qo | refine qe (fun _=> ?_) (fun _=> ?_) | refine qn (fun _=> ?_) (fun _=> ?_) | refine qd (fun _=> ?_) (fun _=> ?_) | apply qt | refine qi (fun _=> ?_) (fun _=> ?_) | refine And.intro rfl ?_ | apply qE | apply qO | exact True.intro | apply qq | apply qs | refine qK (by kernel_rfl) ?_ | apply qr)
  all_goals try first | apply qz1 | apply qz2 | apply qz3 | apply qz4 | apply qz5 | apply qz6 | apply qz7 | apply qz8 | apply qz9 | apply qz0
  all_goals try simp only [take_one,take_one',set_one,take_all,qn1,rec_self,qn2,pair_eta,ETy.dflt,qn3,qn4,Int.reduceToNat,Int.reduceAdd,Int.reduceSub,Int.reduceNeg,Nat.reduceAdd,Nat.zero_add] at *
  simp
def nanC:List AV→Option Res:=con1 (.int .i64) (fun _=>some (none,none,.s (.bool false)))
theorem nanRow:FnRow Try.prog 108 nanC:=⟨con1_ok fun x r h=>by cases h;exact fn_by (rulesF (fn:=[]) (fr:=[]) trivial trivial) Try.func108 (by kernel_rfl) fun _ _=>nan_vc x,_,Try.func108,by kernel_rfl,by kernel_rfl⟩
theorem cmp_vc (x y:Int):afun ⟨tyL,[(108,nanC)],[]⟩ Try.f87 [(ETy.int .i64).av x,(ETy.int .i64).av y] (fun v=>v= .s (.int .i64 (cmpR x y))):=by
  repeat' (conv=>whnf
           first | done | refine qN (by first | rfl | omega | (simp only [i64ok] at *;omega)) ?_ | apply qH | refine qG fun _=> ?_ | apply qB | apply qa | apply qo | refine qe (fun _=> ?_) (fun _=> ?_) | refine qn (fun _=> ?_) (fun _=> ?_) | refine qd (fun _=> ?_) (fun _=> ?_) | apply qt | refine qi (fun _=> ?_) (fun _=> ?_) | refine And.intro rfl ?_ | apply qE | apply qO | exact True.intro | apply qq | apply qs | refine qK (by kernel_rfl) ?_ | apply qr)
  all_goals try first | apply qz1 | apply qz2 | apply qz3 | apply qz4 | apply qz5 | apply qz6 | apply qz7 | apply qz8 | apply qz9 | apply qz0
  all_goals try simp only [take_one,take_one',set_one,take_all,qn1,rec_self,qn2,pair_eta,ETy.dflt,qn3,qn4,Int.reduceToNat,Int.reduceAdd,Int.reduceSub,Int.reduceNeg,Nat.reduceAdd,Nat.zero_add,cmpR] at *
  all_goals (repeat' split)<;>omega
def cmpC:List AV→Option Res:=con2 (.int .i64) (.int .i64) (fun x y=>some (none,none,.s (.int .i64 (cmpR x y))))
theorem cmpRow:FnRow Try.prog 87 cmpC:=⟨con2_ok fun x y r h=>by cases h;exact fn_by (rulesF (fn:=[(108,nanC)]) (fr:=[]) ⟨nanRow,trivial⟩ trivial) Try.func87 (by kernel_rfl) fun _ _=>cmp_vc x y,_,Try.func87,by kernel_rfl,by kernel_rfl⟩
def orR:List Int→Int
  | []=>0
  | x::r=>if x=0 then orR r else x
def loopO (l:List Int):Spec Nat where
  inv x:=x≤l.length∧orR l=orR (l.drop x)
  live x:=[(8,.s (.int .i64 x))]
  keep:=[3,6,7]
  heap _:=[]
  keepH:=[]
  mu x:=l.length - x
theorem or_vc {fn} (l:List Int):afun ⟨tyL,fn,[]⟩ Try.f86 [(ETy.sl (.int .i64)).av l] (fun v=>v= .s (.int .i64 (orR l))):=by
  repeat' (conv=>whnf
           first | done | refine qN (by first | rfl | omega | (simp only [i64ok] at *;omega)) ?_ | apply qH | refine qG fun _=> ?_ | apply qB | apply qa | apply qo | refine qe (fun _=> ?_) (fun _=> ?_) | refine qn (fun _=> ?_) (fun _=> ?_) | refine qd (fun _=> ?_) (fun _=> ?_) | apply qt | refine qi (fun _=> ?_) (fun _=> ?_) | (refine atReg 3 rfl ?_;refine Or.inr (Exists.intro (Nat) (Exists.intro (loopO l) (And.intro (Exists.intro (0) (And.intro (Hold.out ?_) (And.intro ?_ (And.intro ?_ rfl)))) (fun x hx=> ?_))))) | ((with_reducible show (∃ y,And (Spec.inv (loopO _) y) _));refine Exists.intro (x+1) (And.intro (Hold.out ?_) (And.intro (And.intro ?_ (And.intro ?_ rfl)) (Hold.out ?_)))) | refine And.intro rfl ?_ | apply qE | apply qO | exact True.intro | apply qq | apply qs | refine qK (by kernel_rfl) ?_ | apply qr)
  all_goals try first | apply qz1 | apply qz2 | apply qz3 | apply qz4 | apply qz5 | apply qz6 | apply qz7 | apply qz8 | apply qz9 | apply qz0
  all_goals try simp only [take_one,take_one',set_one,take_all,qn1,rec_self,qn2,pair_eta,ETy.dflt,qn3,qn4,Int.reduceToNat,Int.reduceAdd,Int.reduceSub,Int.reduceNeg,Nat.reduceAdd,Nat.zero_add,loopO] at *
  all_goals try (refine qh ?_;omega)
  · exact qh ⟨Nat.zero_le _,rfl⟩
  · rename_i h1 h2
    rw [hx.2,drop_now 0 h1,orR,if_neg h2]
  · rename_i h1 h2
    exact qh ⟨by omega,by rw [hx.2,drop_now 0 h1,orR,if_pos h2]⟩
  · rw [hx.2,drop_all (by assumption)];rfl
def orC:List AV→Option Res:=con1 (.sl (.int .i64)) (fun l=>some (none,none,.s (.int .i64 (orR l))))
theorem orRow:FnRow Try.prog 86 orC:=⟨con1_ok fun l r h=>by cases h;exact fn_by (rulesF (fn:=[]) (fr:=[]) trivial trivial) Try.func86 (by kernel_rfl) fun _ _=>or_vc l,_,Try.func86,by kernel_rfl,by kernel_rfl⟩
def cfW (a b:Wit):Int:=orR [cmpR a.2.2 b.2.2,cmpR a.2.1 b.2.1]
theorem all1_vc (a b:Wit):afun ⟨tyL,[(87,cmpC),(86,orC)],[]⟩ Try.f85 [witE.av a,witE.av b] (fun v=>v= .s (.int .i64 (cfW a b))):=by
  repeat' (conv=>whnf
           first | done | refine qN (by first | rfl | omega | (simp only [i64ok] at *;omega)) ?_ | apply qH | refine qG fun _=> ?_ | apply qB | apply qa | apply qo | refine qe (fun _=> ?_) (fun _=> ?_) | refine qn (fun _=> ?_) (fun _=> ?_) | refine qd (fun _=> ?_) (fun _=> ?_) | apply qt | refine qi (fun _=> ?_) (fun _=> ?_) | refine And.intro rfl ?_ | apply qE | apply qO | exact True.intro | apply qq | apply qs | refine qK (by kernel_rfl) ?_ | apply qr)
  all_goals try first | apply qz1 | apply qz2 | apply qz3 | apply qz4 | apply qz5 | apply qz6 | apply qz7 | apply qz8 | apply qz9 | apply qz0
  all_goals try simp only [take_one,take_one',set_one,take_all,qn1,rec_self,qn2,pair_eta,ETy.dflt,qn3,qn4,Int.reduceToNat,Int.reduceAdd,Int.reduceSub,Int.reduceNeg,Nat.reduceAdd,Nat.zero_add,cfW] at *
  try rfl
def all1C:List AV→Option Res:=con2 witE witE (fun a b=>some (none,none,.s (.int .i64 (cfW a b))))
theorem all1Row:FnRow Try.prog 85 all1C:=⟨con2_ok fun a b r h=>by cases h;exact fn_by (rulesF (fn:=[(87,cmpC),(86,orC)]) (fr:=[]) ⟨cmpRow,orRow,trivial⟩ trivial) Try.func85 (by kernel_rfl) fun _ _=>all1_vc a b,_,Try.func85,by kernel_rfl,by kernel_rfl⟩
theorem cfW_eq (a b:Wit):cfW a b=if a.2.2=b.2.2 then cmpR a.2.1 b.2.1 else cmpR a.2.2 b.2.2:=by
  simp only [cfW,orR,cmpR]
  repeat' split
  all_goals first | rfl | omega
def lt2 (p r q s:Int):Bool:=decide (p<q∨(p=q∧r<s))
theorem lt2_eq (p r q s:Int):decide ((if p=q then cmpR r s else cmpR p q)<0)=lt2 p r q s:=by
  unfold lt2
  congr 1
  unfold cmpR
  apply propext
  by_cases h1:p=q
  · subst h1
    by_cases h2:r<s
    · simp [h2]
    · by_cases h3:r>s<;>simp [h2,h3]
  · by_cases h2:p<q
    · simp [h1,h2]
    · by_cases h3:p>q<;>simp [h1,h2,h3]
theorem lt2_irr (p r:Int):lt2 p r p r=false:=by simp [lt2]
theorem lt2_trans (p r q s t u:Int) (h1:lt2 p r q s=true) (h2:lt2 q s t u=true):lt2 p r t u=true:=by
  simp only [lt2,decide_eq_true_eq] at *;omega
theorem lt2_ntrans (p r q s t u:Int) (h1:lt2 p r q s=false) (h2:lt2 q s t u=false):lt2 p r t u=false:=by
  simp only [lt2,decide_eq_false_iff_not] at *;omega
theorem swoW:SwoF witE cfW:=by
  have key: ∀ a b:RT witE,ltOf (fun a b:RT witE=>cfW a.1 b.1) a b=lt2 a.1.2.2 a.1.2.1 b.1.2.2 b.1.2.1:=by
    intro a b
    show decide (cfW a.1 b.1<0)=_
    rw [cfW_eq]
    exact lt2_eq _ _ _ _
  refine ⟨fun x=>by rw [key];exact lt2_irr _ _,fun x y z h1 h2=> ?_,fun x y z h1 h2=> ?_⟩
  · rw [key] at h1 h2 ⊢;exact lt2_trans _ _ _ _ _ _ h1 h2
  · rw [key] at h1 h2 ⊢;exact lt2_ntrans _ _ _ _ _ _ h1 h2
def sortWH:List AV→St→(AV→St→Prop)→Prop:=sortRun witE (sortF witE cfW) (isFn 85) 1
theorem sortWRow : RunOk Try.prog 84 sortWH ∧ ∃ fn, Try.prog.funcs[84]? = some fn ∧ (fn.name == "runtime.NumGoroutine") = false ∧ fn.body.isNone = false :=
  ⟨sortF_ok (ρ:=Go.Proofs.S1.laySortF_ren) Go.Proofs.S1.laySortF (e:=witE) rfl rfl (by decide) (fun w=>((rules (fn:=[]) trivial).ty 35 _ rfl).run_isAgg) (fun w=>((rules (fn:=[]) trivial).ty 35 _ rfl).run_sizeOf) (enters_of Try.func85 (by kernel_rfl) rfl) swoW (fun x y=>all1Row.1 _ _ rfl),
    _,Try.func84,by kernel_rfl,by kernel_rfl⟩
def sortNH:List AV→St→(AV→St→Prop)→Prop:=sortRunI sortI (fun l=>l.isEmpty)
theorem sortNRow : RunOk Try.prog 48 sortNH ∧ ∃ fn, Try.prog.funcs[48]? = some fn ∧ (fn.name == "runtime.NumGoroutine") = false ∧ fn.body.isNone = false :=
  ⟨sortI_arr (ρ:=Go.Proofs.S1.laySortI_ren) Go.Proofs.S1.laySortI,_,Try.func48,by kernel_rfl,by kernel_rfl⟩
end S1
open Go Go.Vm Go.Proofs
namespace S1
def s3 (t:P3):P3:=((sortI [t.1,t.2.1,t.2.2]).getD 0 0,(sortI [t.1,t.2.1,t.2.2]).getD 1 0,(sortI [t.1,t.2.1,t.2.2]).getD 2 0)
def kMir (t:P3):List P3:=[s3 t]
theorem mir1_vc (t:P3):afun ⟨tyL,[],[(48,.run sortNH)]⟩ Try.f105 [ETy.arr3.av t] (fun v=>v= .s (.sl .arr3 (kMir t))):=by
  repeat' (conv=>whnf
           first | done | refine qN (by first | rfl | omega | (simp only [i64ok] at *;omega)) ?_ | apply qH | refine qG fun _=> ?_ | apply qB | apply qa | apply qo | refine qe (fun _=> ?_) (fun _=> ?_) | refine qn (fun _=> ?_) (fun _=> ?_) | refine qd (fun _=> ?_) (fun _=> ?_) | apply qt | refine qi (fun _=> ?_) (fun _=> ?_) | refine And.intro rfl ?_ | apply qE | apply qO | exact True.intro | apply qq | apply qs | refine qK (by kernel_rfl) ?_ | apply qr)
  all_goals try first | apply qz1 | apply qz2 | apply qz3 | apply qz4 | apply qz5 | apply qz6 | apply qz7 | apply qz8 | apply qz9 | apply qz0
  all_goals try simp only [take_one,take_one',set_one,take_all,qn1,rec_self,qn2,pair_eta,ETy.dflt,qn3,qn4,Int.reduceToNat,Int.reduceAdd,Int.reduceSub,Int.reduceNeg,Nat.reduceAdd,Nat.zero_add,kMir,s3] at *
  try rfl
def mir1C:List AV→Option Res:=con1 .arr3 (fun t=>some (none,none,.s (.sl .arr3 (kMir t))))
theorem mir1Row:FnRow Try.prog 105 mir1C:=⟨con1_ok fun t r h=>by cases h;exact fn_by (rulesF (fn:=[]) (fr:=[(48,.run sortNH)]) trivial ⟨sortNRow,trivial⟩) Try.func105 (by kernel_rfl) fun _ _=>mir1_vc t,_,Try.func105,by kernel_rfl,by kernel_rfl⟩
theorem pairsMi_vc (n kind:Int) (l:List P3) (hb:l.length≤8192):afunF ⟨tyL,[(105,mir1C)],[]⟩ Try.f103 [soupE.av (n,l),(ETy.int .i64).av kind,ETy.fnc.av (some 105)] (fun v obs=>v= .s (.own 0 0 (prS kMir kind l l.length).2.2.length)∧obs=[.row witE 35 (prS kMir kind l l.length).2.2]):=by
  have hS:=fun x (h:x≤8192)=>prS_ok kMir (fun _=>(by decide:1≤3)) kind l x h
  repeat' (conv=>whnf
           first | done | refine qN (by first | rfl | omega | (simp only [i64ok] at *;omega)) ?_ | apply qH | refine qG fun _=> ?_ | apply qB | apply qa | apply qo | refine qe (fun _=> ?_) (fun _=> ?_) | refine qn (fun _=> ?_) (fun _=> ?_) | refine qd (fun _=> ?_) (fun _=> ?_) | apply qt | refine qi (fun _=> ?_) (fun _=> ?_) | (refine atReg 5 rfl ?_;refine Or.inr (Exists.intro (Nat) (Exists.intro (loopP1 kMir kind l) (And.intro (Exists.intro (0) (And.intro (Hold.out ?_) (And.intro ?_ (And.intro ?_ rfl)))) (fun x hx=> ?_))))) | ((with_reducible show (∃ y,And (Spec.inv (loopP1 _ _ _) y) _));refine Exists.intro (x+1) (And.intro (Hold.out ?_) (And.intro (And.intro ?_ (And.intro ?_ rfl)) (Hold.out ?_)))) | (refine atReg 8 rfl ?_;refine Or.inr (Exists.intro (Nat) (Exists.intro (loopP2 kind x (kMir (l.getD x (0,0,0))) (prS kMir kind l x)) (And.intro (Exists.intro (0) (And.intro (Hold.out ?_) (And.intro ?_ (And.intro ?_ rfl)))) (fun y hy=> ?_))))) | ((with_reducible show (∃ y,And (Spec.inv (loopP2 _ _ _ _) y) _));refine Exists.intro (y+1) (And.intro (Hold.out ?_) (And.intro (And.intro ?_ (And.intro ?_ rfl)) (Hold.out ?_)))) | (refine atReg 11 rfl ?_;refine Or.inr (Exists.intro (Nat) (Exists.intro (loopP3 kind x (hadAt (irec (prK kind x (kMir (l.getD x (0,0,0)))) (prS kMir kind l x) y).1 ((kMir (l.getD x (0,0,0))).getD y (0,0,0))) (irec (prK kind x (kMir (l.getD x (0,0,0)))) (prS kMir kind l x) y).2) (And.intro (Exists.intro (0) (And.intro (Hold.out ?_) (And.intro ?_ (And.intro ?_ rfl)))) (fun z hz=> ?_))))) | ((with_reducible show (∃ y,And (Spec.inv (loopP3 _ _ _ _) y) _));refine Exists.intro (z+1) (And.intro (Hold.out ?_) (And.intro (And.intro ?_ (And.intro ?_ rfl)) (Hold.out ?_)))) | refine And.intro rfl ?_ | apply qE | apply qO | exact True.intro | apply qq | apply qs | refine qK (by kernel_rfl) ?_ | apply qr)
  all_goals try first | apply qz1 | apply qz2 | apply qz3 | apply qz4 | apply qz5 | apply qz6 | apply qz7 | apply qz8 | apply qz9 | apply qz0
  all_goals try simp only [take_one,take_one',set_one,take_all,qn1,rec_self,qn2,pair_eta,ETy.dflt,qn3,qn4,Int.reduceToNat,Int.reduceAdd,Int.reduceSub,Int.reduceNeg,Nat.reduceAdd,Nat.zero_add,loopP1,loopP2,loopP3,mset_mset,hadAt_def,hadAt_same] at *
  all_goals try (refine qh ?_;omega)
  all_goals try (rw [prA_same (by assumption)];done)
  all_goals try (rw [prA_new (by assumption)];(try simp);done)
  all_goals try first
    | (have e:z=(hadAt (irec (prK kind x (kMir (l.getD x (0,0,0)))) (prS kMir kind l x) y).1 ((kMir (l.getD x (0,0,0))).getD y (0,0,0))).length:=by omega
       subst e;first | rfl | (rw [mset_mset,mget_same];rfl))
    | (have e:y=(kMir (l.getD x (0,0,0))).length:=by omega
       subst e;rfl)
    | (have e:x=l.length:=by omega
       subst e;rfl)
  all_goals
    have hB:=prKs_ok (kind:=kind) (i:=x) (ks:=kMir (l.getD x (0,0,0))) (hS x (by omega)) (by decide:1≤3) y (by omega)
    have h1:=hB.1 ((kMir (l.getD x (0,0,0))).getD y (0,0,0))
    have h2:=hB.2
    have h3:=prA_len kind x (hadAt (irec (prK kind x (kMir (l.getD x (0,0,0)))) (prS kMir kind l x) y).1 ((kMir (l.getD x (0,0,0))).getD y (0,0,0))) (irec (prK kind x (kMir (l.getD x (0,0,0)))) (prS kMir kind l x) y).2 z
    have h4:y≤3:=Nat.le_trans hy (by decide:1≤3)
    have h5:y*(3*x+3)≤3*(3*x+3):=Nat.mul_le_mul_right _ h4
    refine qh ?_
    generalize y*(3*x+3)=q at *
  · omega
  · unfold growFits
    simp only [List.length_cons,List.take_zero,List.length_nil]
    omega
def pairsMiC:List AV→Option ResF:=con3 soupE (.int .i64) .fnc (fun s kind f=>match f with
  | some 105=>some (none,some (s.2.length≤8192),.s (.own 0 0 (prS kMir kind s.2 s.2.length).2.2.length),[.row witE 35 (prS kMir kind s.2 s.2.length).2.2])
  | _=>none)
theorem pairsTwRow:FnRowF Try.prog 103 pairsTwC:=⟨con3_okF fun s kind f r h=>by
  match f,h with
  | some 104,h=>cases h;exact fn_byF (rulesF (fn:=[(104,twice1C)]) (fr:=[]) ⟨twice1Row,trivial⟩ trivial) Try.func103 (by kernel_rfl) fun _ h=>pairsTw_vc s.1 kind s.2 h,_,Try.func103,by kernel_rfl,by kernel_rfl⟩
theorem pairsMiRow:FnRowF Try.prog 103 pairsMiC:=⟨con3_okF fun s kind f r h=>by
  match f,h with
  | some 105,h=>cases h;exact fn_byF (rulesF (fn:=[(105,mir1C)]) (fr:=[]) ⟨mir1Row,trivial⟩ trivial) Try.func103 (by kernel_rfl) fun _ h=>pairsMi_vc s.1 kind s.2 h,_,Try.func103,by kernel_rfl,by kernel_rfl⟩
theorem twice_vc (n:Int) (l:List P3) (hb:l.length≤8192):afunF ⟨tyL,[],[(103,.res pairsTwC)]⟩ Try.f80 [soupE.av (n,l)] (fun v obs=>v= .s (.own 0 0 (prS kTwice 3 l l.length).2.2.length)∧obs=[.row witE 35 (prS kTwice 3 l l.length).2.2]):=by
  repeat' (conv=>whnf
           first | done | refine qN (by first | rfl | omega | (simp only [i64ok] at *;omega)) ?_ | apply qH | refine qG fun _=> ?_ | apply qB | apply qa | apply qo | refine qe (fun _=> ?_) (fun _=> ?_) | refine qn (fun _=> ?_) (fun _=> ?_) | refine qd (fun _=> ?_) (fun _=> ?_) | apply qt | refine qi (fun _=> ?_) (fun _=> ?_) | refine And.intro rfl ?_ | apply qE | apply qO | exact True.intro | apply qq | apply qs | refine qK (by kernel_rfl) ?_ | apply qr)
  all_goals try first | apply qz1 | apply qz2 | apply qz3 | apply qz4 | apply qz5 | apply qz6 | apply qz7 | apply qz8 | apply qz9 | apply qz0
  all_goals try simp only [take_one,take_one',set_one,take_all,qn1,rec_self,qn2,pair_eta,ETy.dflt,qn3,qn4,Int.reduceToNat,Int.reduceAdd,Int.reduceSub,Int.reduceNeg,Nat.reduceAdd,Nat.zero_add] at *
def twiceC:List AV→Option ResF:=con1 soupE (fun s=>some (none,some (s.2.length≤8192),.s (.own 0 0 (prS kTwice 3 s.2 s.2.length).2.2.length),[.row witE 35 (prS kTwice 3 s.2 s.2.length).2.2]))
theorem twiceRow:FnRowF Try.prog 80 twiceC:=⟨con1_okF fun s r h=>by cases h;exact fn_byF (rulesF (fn:=[]) (fr:=[(103,.res pairsTwC)]) trivial ⟨pairsTwRow,trivial⟩) Try.func80 (by kernel_rfl) fun _ h=>twice_vc s.1 s.2 h,_,Try.func80,by kernel_rfl,by kernel_rfl⟩
theorem mirrored_vc (n:Int) (l:List P3) (hb:l.length≤8192):afunF ⟨tyL,[],[(103,.res pairsMiC)]⟩ Try.f81 [soupE.av (n,l)] (fun v obs=>v= .s (.own 0 0 (prS kMir 4 l l.length).2.2.length)∧obs=[.row witE 35 (prS kMir 4 l l.length).2.2]):=by
  repeat' (conv=>whnf
           first | done | refine qN (by first | rfl | omega | (simp only [i64ok] at *;omega)) ?_ | apply qH | refine qG fun _=> ?_ | apply qB | apply qa | apply qo | refine qe (fun _=> ?_) (fun _=> ?_) | refine qn (fun _=> ?_) (fun _=> ?_) | refine qd (fun _=> ?_) (fun _=> ?_) | apply qt | refine qi (fun _=> ?_) (fun _=> ?_) | refine And.intro rfl ?_ | apply qE | apply qO | exact True.intro | apply qq | apply qs | refine qK (by kernel_rfl) ?_ | apply qr)
  all_goals try first | apply qz1 | apply qz2 | apply qz3 | apply qz4 | apply qz5 | apply qz6 | apply qz7 | apply qz8 | apply qz9 | apply qz0
  all_goals try simp only [take_one,take_one',set_one,take_all,qn1,rec_self,qn2,pair_eta,ETy.dflt,qn3,qn4,Int.reduceToNat,Int.reduceAdd,Int.reduceSub,Int.reduceNeg,Nat.reduceAdd,Nat.zero_add] at *
def mirroredC:List AV→Option ResF:=con1 soupE (fun s=>some (none,some (s.2.length≤8192),.s (.own 0 0 (prS kMir 4 s.2 s.2.length).2.2.length),[.row witE 35 (prS kMir 4 s.2 s.2.length).2.2]))
theorem mirroredRow:FnRowF Try.prog 81 mirroredC:=⟨con1_okF fun s r h=>by cases h;exact fn_byF (rulesF (fn:=[]) (fr:=[(103,.res pairsMiC)]) trivial ⟨pairsMiRow,trivial⟩) Try.func81 (by kernel_rfl) fun _ h=>mirrored_vc s.1 s.2 h,_,Try.func81,by kernel_rfl,by kernel_rfl⟩
end S1
open Go Go.Vm Go.Proofs
namespace S1
theorem not_pos {α:Type} {l:List α} (h: ¬ (l.length:Int)>0):l=[]:=by
  cases l with
  | nil=>rfl
  | cons a l=>exact absurd (by simp) h
theorem idx_fit {n:Int} {l:List P3} (h: ¬ ((indexR (n,l)).length:Int)>0):fitS (n,l):=by
  have h:=not_pos h
  unfold indexR at h
  split at h
  · cases h
  · rename_i hb
    have hb: ¬ (n<0∨n>4096∨(l.length:Int)>8192):=by
      simpa only [bigR,Bool.or_eq_true,decide_eq_true_eq] using hb
    have hc:n≤4096∧0≤n∧l.length≤8192:=by omega
    refine ⟨hc.2.1,hc.1,hc.2.2,fun i hi=> ?_⟩
    have:=List.filterMap_eq_nil_iff.1 h i (List.mem_range.2 hi)
    unfold idxG at this
    split at this
    · assumption
    · cases this
theorem set_true {s:List Bool} {i j:Nat} (h:(s.set i true).getD j false=true):i=j∨s.getD j false=true:=by
  by_cases e:i=j
  · exact .inl e
  · rw [gdE,List.getElem?_set_ne e] at h
    exact .inr (by rw [gdE];exact h)
theorem there_has {n:Nat} {l:List P3} {v:Nat} (hl: ∀ j,j<l.length→0≤(l.getD j (0,0,0)).1∧0≤(l.getD j (0,0,0)).2.1∧0≤(l.getD j (0,0,0)).2.2) :
    ∀ i,i≤l.length→(thereF n l i).getD v false=true→∃ j,j<i∧hasV (l.getD j (0,0,0)) v
  | 0,_,h=>by
    have:(thereF n l 0).getD v false=false:=by
      show (List.replicate n false).getD v false=false
      rw [gdE,List.getElem?_replicate];split<;>rfl
    rw [this] at h;cases h
  | i + 1,hi,h=>by
    have h:(mark3 (thereF n l i) (l.getD i (0,0,0))).getD v false=true:=h
    obtain ⟨k1,k2,k3⟩:=hl i (by omega)
    rcases set_true h with e | h
    · exact ⟨i,by omega,.inr (.inr (by omega))⟩
    · rcases set_true h with e | h
      · exact ⟨i,by omega,.inr (.inl (by omega))⟩
      · rcases set_true h with e | h
        · exact ⟨i,by omega,.inl (by omega)⟩
        · obtain ⟨j,h1,h2⟩:=there_has hl i (by omega) h
          exact ⟨j,by omega,h2⟩
theorem lone_cov {n:Int} {l:List P3} (hf:fitS (n,l)) (h: ¬ ((loneR (n,l)).length:Int)>0):covS (n,l):=by
  have h:=not_pos h
  intro v hv
  have:=List.filterMap_eq_nil_iff.1 h v (List.mem_range.2 (by omega))
  unfold loG at this
  split at this
  · rename_i ht
    exact there_has (fun j hj=>by have:=triIn_spec (hf.2.2.2 j hj);omega) l.length (Nat.le_refl _) ht
  · cases this
def firstW:List (List Wit)→List Wit
  | []=>[]
  | l::r=>if (l.length:Int)>0 then sortF witE cfW l else firstW r
def allR (s:Int×List P3):List Wit:=firstW [indexR s,dgL s.2 s.2.length,(prS kTwice 3 s.2 s.2.length).2.2,(prS kMir 4 s.2 s.2.length).2.2,loneR s,pinR s]
theorem sortW_len (l:List Wit):(sortF witE cfW l).length=l.length:=sortF_len swoW l
theorem all_vc (n:Int) (l:List P3):afunF ⟨tyL,[],[(78,.res indexC),(79,.res loopC),(80,.res twiceC),(81,.res mirroredC),(82,.res lonelyC),(83,.res pinchC),(84,.run sortWH)]⟩ Try.f58 [soupE.av (n,l)] (fun v obs=>v= .s (.own 0 0 (allR (n,l)).length)∧obs=[.row witE 35 (allR (n,l))]):=by
  repeat' (conv=>whnf
           first | done | refine qN (by first | rfl | omega | (simp only [i64ok] at *;omega)) ?_ | apply qH | refine qG fun _=> ?_ | apply qB | apply qa | apply qo | refine qe (fun _=> ?_) (fun _=> ?_) | refine qn (fun _=> ?_) (fun _=> ?_) | refine qd (fun _=> ?_) (fun _=> ?_) | apply qt | refine qi (fun _=> ?_) (fun _=> ?_) | (refine atReg 2 rfl ?_;refine Or.inl (Exists.intro (7) ?_)) | refine And.intro rfl ?_ | apply qE | apply qO | exact True.intro | apply qq | apply qs | refine qK (by kernel_rfl) ?_ | apply qr)
  all_goals try first | apply qz1 | apply qz2 | apply qz3 | apply qz4 | apply qz5 | apply qz6 | apply qz7 | apply qz8 | apply qz9 | apply qz0
  all_goals try simp only [take_one,take_one',set_one,take_all,qn1,rec_self,qn2,pair_eta,ETy.dflt,qn3,qn4,Int.reduceToNat,Int.reduceAdd,Int.reduceSub,Int.reduceNeg,Nat.reduceAdd,Nat.zero_add] at *
  all_goals first
    | (simp only [allR,firstW, *,sortW_len,if_true,if_false,List.take_zero,List.drop_length,List.append_nil,List.nil_append,List.length_nil];first | done | exact (sortW_len _).symm)
    | (refine qh ?_;first | exact (idx_fit ‹_›).2.2.1 | exact idx_fit ‹_› | exact ⟨idx_fit ‹_›,lone_cov (idx_fit ‹_›) ‹_›⟩)
def allC:List AV→Option ResF:=con1 soupE (fun s=>some (none,none,.s (.own 0 0 (allR s).length),[.row witE 35 (allR s)]))
theorem allRow:FnRowF Try.prog 58 allC:=⟨con1_okF fun s r h=>by cases h;exact fn_byF (rulesF (fn:=[]) (fr:=[(78,.res indexC),(79,.res loopC),(80,.res twiceC),(81,.res mirroredC),(82,.res lonelyC),(83,.res pinchC),(84,.run sortWH)]) trivial ⟨indexRow,loopRow,twiceRow,mirroredRow,lonelyRow,pinchRow,sortWRow,trivial⟩) Try.func58 (by kernel_rfl) fun _ _=>all_vc s.1 s.2,_,Try.func58,by kernel_rfl,by kernel_rfl⟩
end S1
open Go Go.Vm Go.Proofs
namespace S1
def chkR (s:Int×List P3):Wit:=(allR s).headD (0,0,0)
theorem check_vc (n:Int) (l:List P3):afun ⟨tyL,[],[(58,.res allC)]⟩ Try.f34 [soupE.av (n,l)] (fun v=>v=witE.av (chkR (n,l))):=by
  repeat' (conv=>whnf
           first | done | refine qN (by first | rfl | omega | (simp only [i64ok] at *;omega)) ?_ | apply qH | refine qG fun _=> ?_ | apply qB | apply qa | apply qo | refine qe (fun _=> ?_) (fun _=> ?_) | refine qn (fun _=> ?_) (fun _=> ?_) | refine qd (fun _=> ?_) (fun _=> ?_) | apply qt | refine qi (fun _=> ?_) (fun _=> ?_) | refine And.intro rfl ?_ | apply qE | apply qO | exact True.intro | apply qq | apply qs | refine qK (by kernel_rfl) ?_ | apply qr)
  all_goals try first | apply qz1 | apply qz2 | apply qz3 | apply qz4 | apply qz5 | apply qz6 | apply qz7 | apply qz8 | apply qz9 | apply qz0
  all_goals try simp only [take_one,take_one',set_one,take_all,qn1,rec_self,qn2,pair_eta,ETy.dflt,qn3,qn4,Int.reduceToNat,Int.reduceAdd,Int.reduceSub,Int.reduceNeg,Nat.reduceAdd,Nat.zero_add] at *
  · rename_i h1 h2
    cases h:allR (n,l) with
    | nil=>rw [h] at h2;simp at h2
    | cons a r=>unfold chkR;rw [h];exact HoldEq.intro rfl
  · rename_i h2
    unfold chkR;rw [not_pos h2];exact HoldEq.intro rfl
def checkC:List AV→Option Res:=con1 soupE (fun s=>some (none,none,witE.av (chkR s)))
theorem checkRow:FnRow Try.prog 34 checkC:=⟨con1_ok fun s r h=>by cases h;exact fn_by (rulesF (fn:=[]) (fr:=[(58,.res allC)]) trivial ⟨allRow,trivial⟩) Try.func34 (by kernel_rfl) fun _ _=>check_vc s.1 s.2,_,Try.func34,by kernel_rfl,by kernel_rfl⟩
theorem clone_vc {fn} (l:List P3) (hb:l.length≤8192):afun ⟨tyL,fn,[]⟩ Try.f35 [(ETy.sl .arr3).av l] (fun v=>v=(ETy.sl .arr3).av l):=by
  repeat' (conv=>whnf
           first | done | refine qN (by first | rfl | omega | (simp only [i64ok] at *;omega)) ?_ | apply qH | refine qG fun _=> ?_ | apply qB | apply qa | apply qo | refine qe (fun _=> ?_) (fun _=> ?_) | refine qn (fun _=> ?_) (fun _=> ?_) | refine qd (fun _=> ?_) (fun _=> ?_) | apply qt | refine qi (fun _=> ?_) (fun _=> ?_) | refine And.intro rfl ?_ | apply qE | apply qO | exact True.intro | apply qq | apply qs | refine qK (by kernel_rfl) ?_ | apply qr)
  all_goals try first | apply qz1 | apply qz2 | apply qz3 | apply qz4 | apply qz5 | apply qz6 | apply qz7 | apply qz8 | apply qz9 | apply qz0
  all_goals try simp only [take_one,take_one',set_one,take_all,qn1,rec_self,qn2,pair_eta,ETy.dflt,qn3,qn4,Int.reduceToNat,Int.reduceAdd,Int.reduceSub,Int.reduceNeg,Nat.reduceAdd,Nat.zero_add] at *
  · exact (‹l=[]›).symm
  · exact List.take_length
def cloneC:List AV→Option Res:=con1 (.sl .arr3) (fun l=>some (none,some (l.length≤8192),.s (.sl .arr3 l)))
theorem cloneRow:FnRow Try.prog 35 cloneC:=⟨con1_ok fun l r h=>by cases h;exact fn_by (rulesF (fn:=[]) (fr:=[]) trivial trivial) Try.func35 (by kernel_rfl) fun _ h=>clone_vc l h,_,Try.func35,by kernel_rfl,by kernel_rfl⟩
end S1
open Go Go.Vm Go.Proofs
namespace S1
abbrev tabE:ETy:= .pair soupE (.pair (.mp .arr2 (.int .i64)) (.sl (.int .i64)))
def con1P {ρ:Type} (e:ETy) (f:e.T→Option ρ):List AV→Option ρ :=
  con1 (.pt e) (fun o=>match o with | some x=>f x | none=>none)
def con2P {ρ:Type} (e b:ETy) (f:e.T→b.T→Option ρ):List AV→Option ρ :=
  con2 (.pt e) b (fun o y=>match o with | some x=>f x y | none=>none)
theorem con1P_ok {P:Program} {e:ETy} {f:e.T→Option Res} {n:FuncId} (h: ∀ x r,f x=some r→FnOk P n [(ETy.pt e).av (some x)] r): ∀ args r,con1P e f args=some r→FnOk P n args r :=
  con1_ok fun o r hr=>by cases o with | none=>cases hr | some x=>exact h x r hr
theorem con2P_ok {P:Program} {e b:ETy} {f:e.T→b.T→Option Res} {n:FuncId} (h: ∀ x y r,f x y=some r→FnOk P n [(ETy.pt e).av (some x),b.av y] r): ∀ args r,con2P e b f args=some r→FnOk P n args r :=
  con2_ok fun o y r hr=>by cases o with | none=>cases hr | some x=>exact h x y r hr
def trn (c b:Int):Int:=c - c % 3+(c+b) % 3
def tHas (x:tabE.T) (c:Int):Bool:=decide (0≤c)&&decide (c<3*(x.1.2.length:Int))
def tNext (x:tabE.T) (c:Int):Int:=if tHas x c then trn c 1 else -1
def tPrev (x:tabE.T) (c:Int):Int:=if tHas x c then trn c 2 else -1
def p3 (t:P3) (k:Int):Int:=if k=0 then t.1 else if k=1 then t.2.1 else t.2.2
def tVert (x:tabE.T) (c:Int):Int:=if tHas x c then p3 (x.1.2.getD (c / 3).toNat (0,0,0)) (c % 3) else -1
def tEdge (x:tabE.T) (c:Int):Int×Int:=(tVert x (tNext x c),tVert x (tPrev x c))
def tFacing (x:tabE.T) (e:Int×Int):Int:=(mget .arr2 x.2.1 e).getD (-1)
def tOpp (x:tabE.T) (c:Int):Int:=tFacing x ((tEdge x c).2,(tEdge x c).1)
def tCorner (x:tabE.T) (v:Int):Int:=if 0≤v∧v<x.2.2.length then x.2.2.getD v.toNat 0 else -1
theorem tm3 {c:Int} (h:0≤c):c.tmod 3=c % 3:=Int.tmod_eq_emod_of_nonneg h
theorem td3 {c:Int} (h:0≤c):c.tdiv 3=c / 3:=Int.tdiv_eq_ediv_of_nonneg h
theorem tHas_iff {x:tabE.T} {c:Int} :tHas x c=true↔0≤c∧c<3*(x.1.2.length:Int):=by
  unfold tHas;rw [Bool.and_eq_true,decide_eq_true_eq,decide_eq_true_eq]
theorem turned_vc {fn} (c b:Int) (h:0≤c∧c≤1000000000∧0≤b∧b≤2):afun ⟨tyL,fn,[]⟩ Try.f71 [i64E.av c,i64E.av b] (fun v=>v= .s (.int .i64 (trn c b))):=by
  repeat' (conv=>whnf
           first | done | refine qN (by first | rfl | omega | (simp only [i64ok] at *;omega)) ?_ | apply qH | refine qG fun _=> ?_ | apply qB | apply qa | apply qo | refine qe (fun _=> ?_) (fun _=> ?_) | refine qn (fun _=> ?_) (fun _=> ?_) | refine qd (fun _=> ?_) (fun _=> ?_) | apply qt | refine qi (fun _=> ?_) (fun _=> ?_) | refine And.intro rfl ?_ | apply qE | apply qO | exact True.intro | apply qq | apply qs | refine qK (by kernel_rfl) ?_ | apply qr)
  all_goals try first | apply qz1 | apply qz2 | apply qz3 | apply qz4 | apply qz5 | apply qz6 | apply qz7 | apply qz8 | apply qz9 | apply qz0
  all_goals try simp only [take_one,take_one',set_one,take_all,qn1,rec_self,qn2,pair_eta,ETy.dflt,qn3,qn4,Int.reduceToNat,Int.reduceAdd,Int.reduceSub,Int.reduceNeg,Nat.reduceAdd,Nat.zero_add,trn] at *
  all_goals try refine qh ?_
  all_goals (rw [tm3 (by omega)];try rw [tm3 (by omega)])
  all_goals (try simp only [i64ok]);(try omega)
def turnedC:List AV→Option Res:=con2 i64E i64E (fun c b=>some (none,some (0≤c∧c≤1000000000∧0≤b∧b≤2),.s (.int .i64 (trn c b))))
theorem turnedRow:FnRow Try.prog 71 turnedC:=⟨con2_ok fun c b r h=>by cases h;exact fn_by (rulesF (fn:=[]) (fr:=[]) trivial trivial) Try.func71 (by kernel_rfl) fun _ h=>turned_vc c b h,_,Try.func71,by kernel_rfl,by kernel_rfl⟩
theorem has_vc {fn} (x:tabE.T) (c:Int):afun ⟨tyL,fn,[]⟩ Try.f59 [(ETy.pt tabE).av (some x),i64E.av c] (fun v=>v= .s (.bool (tHas x c))):=by
  obtain ⟨⟨n,l⟩,m,f⟩:=x
  repeat' (conv=>whnf
           first | done | refine qN (by first | rfl | omega | (simp only [i64ok] at *;omega)) ?_ | apply qH | refine qG fun _=> ?_ | apply qB | apply qa | apply qo | refine qe (fun _=> ?_) (fun _=> ?_) | refine qn (fun _=> ?_) (fun _=> ?_) | refine qd (fun _=> ?_) (fun _=> ?_) | apply qt | refine qi (fun _=> ?_) (fun _=> ?_) | refine And.intro rfl ?_ | apply qE | apply qO | exact True.intro | apply qq | apply qs | refine qK (by kernel_rfl) ?_ | apply qr)
  all_goals try first | apply qz1 | apply qz2 | apply qz3 | apply qz4 | apply qz5 | apply qz6 | apply qz7 | apply qz8 | apply qz9 | apply qz0
  all_goals try simp only [take_one,take_one',set_one,take_all,qn1,rec_self,qn2,pair_eta,ETy.dflt,qn3,qn4,Int.reduceToNat,Int.reduceAdd,Int.reduceSub,Int.reduceNeg,Nat.reduceAdd,Nat.zero_add,tHas,Option.getD_some] at *
  all_goals (rw [Bool.eq_iff_iff,Bool.and_eq_true,decide_eq_true_eq,decide_eq_true_eq])
  · constructor
    · intro h;exact ⟨by omega,h⟩
    · intro h;exact h.2
  · constructor
    · intro h;cases h
    · intro h;omega
def hasC:List AV→Option Res:=con2P tabE i64E (fun x c=>some (none,none,.s (.bool (tHas x c))))
theorem hasRow:FnRow Try.prog 59 hasC:=⟨con2P_ok fun x c r h=>by cases h;exact fn_by (rulesF (fn:=[]) (fr:=[]) trivial trivial) Try.func59 (by kernel_rfl) fun _ _=>has_vc x c,_,Try.func59,by kernel_rfl,by kernel_rfl⟩
theorem tVert_t {x:tabE.T} {c:Int} (h1:0≤c) (h2:c<3*(x.1.2.length:Int)):tVert x c=p3 (x.1.2.getD (c / 3).toNat (0,0,0)) (c % 3):=by
  unfold tVert;rw [if_pos (tHas_iff.2 ⟨h1,h2⟩)]
theorem has_no {x:tabE.T} {c:Int} (h: ¬ (0≤c∧c<3*(x.1.2.length:Int))):tHas x c=false:=by
  rw [← Bool.not_eq_true];exact fun e=>h (tHas_iff.1 e)
theorem tVert_f {x:tabE.T} {c:Int} (h: ¬ (0≤c∧c<3*(x.1.2.length:Int))):tVert x c= -1:=by
  unfold tVert;rw [has_no h];rfl
theorem p3_get (t:P3) (k:Int) (h1:0≤k) (h2:k<3):[t.1,t.2.1,t.2.2].getD k.toNat 0=p3 t k:=by
  have:k=0∨k=1∨k=2:=by omega
  rcases this with e | e | e<;>subst e<;>rfl
theorem triangles_vc {fn} (x:tabE.T):afun ⟨tyL,fn,[]⟩ Try.f89 [(ETy.pt tabE).av (some x)] (fun v=>v= .s (.int .i64 x.1.2.length)):=by
  obtain ⟨⟨n,l⟩,m,f⟩:=x
  repeat' (conv=>whnf
           first | done | refine qN (by first | rfl | omega | (simp only [i64ok] at *;omega)) ?_ | apply qH | refine qG fun _=> ?_ | apply qB | apply qa | apply qo | refine qe (fun _=> ?_) (fun _=> ?_) | refine qn (fun _=> ?_) (fun _=> ?_) | refine qd (fun _=> ?_) (fun _=> ?_) | apply qt | refine qi (fun _=> ?_) (fun _=> ?_) | refine And.intro rfl ?_ | apply qE | apply qO | exact True.intro | apply qq | apply qs | refine qK (by kernel_rfl) ?_ | apply qr)
  all_goals try first | apply qz1 | apply qz2 | apply qz3 | apply qz4 | apply qz5 | apply qz6 | apply qz7 | apply qz8 | apply qz9 | apply qz0
  all_goals try simp only [take_one,take_one',set_one,take_all,qn1,rec_self,qn2,pair_eta,ETy.dflt,qn3,qn4,Int.reduceToNat,Int.reduceAdd,Int.reduceSub,Int.reduceNeg,Nat.reduceAdd,Nat.zero_add,Option.getD_some] at *
def trianglesC:List AV→Option Res:=con1P tabE (fun x=>some (none,none,.s (.int .i64 x.1.2.length)))
theorem trianglesRow:FnRow Try.prog 89 trianglesC:=⟨con1P_ok fun x r h=>by cases h;exact fn_by (rulesF (fn:=[]) (fr:=[]) trivial trivial) Try.func89 (by kernel_rfl) fun _ _=>triangles_vc x,_,Try.func89,by kernel_rfl,by kernel_rfl⟩
theorem vertices_vc {fn} (x:tabE.T):afun ⟨tyL,fn,[]⟩ Try.f74 [(ETy.pt tabE).av (some x)] (fun v=>v= .s (.int .i64 x.1.1)):=by
  obtain ⟨⟨n,l⟩,m,f⟩:=x
  repeat' (conv=>whnf
           first | done | refine qN (by first | rfl | omega | (simp only [i64ok] at *;omega)) ?_ | apply qH | refine qG fun _=> ?_ | apply qB | apply qa | apply qo | refine qe (fun _=> ?_) (fun _=> ?_) | refine qn (fun _=> ?_) (fun _=> ?_) | refine qd (fun _=> ?_) (fun _=> ?_) | apply qt | refine qi (fun _=> ?_) (fun _=> ?_) | refine And.intro rfl ?_ | apply qE | apply qO | exact True.intro | apply qq | apply qs | refine qK (by kernel_rfl) ?_ | apply qr)
  all_goals try first | apply qz1 | apply qz2 | apply qz3 | apply qz4 | apply qz5 | apply qz6 | apply qz7 | apply qz8 | apply qz9 | apply qz0
  all_goals try simp only [take_one,take_one',set_one,take_all,qn1,rec_self,qn2,pair_eta,ETy.dflt,qn3,qn4,Int.reduceToNat,Int.reduceAdd,Int.reduceSub,Int.reduceNeg,Nat.reduceAdd,Nat.zero_add,Option.getD_some] at *
def verticesC:List AV→Option Res:=con1P tabE (fun x=>some (none,none,.s (.int .i64 x.1.1)))
theorem verticesRow:FnRow Try.prog 74 verticesC:=⟨con1P_ok fun x r h=>by cases h;exact fn_by (rulesF (fn:=[]) (fr:=[]) trivial trivial) Try.func74 (by kernel_rfl) fun _ _=>vertices_vc x,_,Try.func74,by kernel_rfl,by kernel_rfl⟩
theorem vertex_vc (x:tabE.T) (c:Int) (h:c≤1000000000):afun ⟨tyL,[(59,hasC)],[]⟩ Try.f36 [(ETy.pt tabE).av (some x),i64E.av c] (fun v=>v= .s (.int .i64 (tVert x c))):=by
  obtain ⟨⟨n,l⟩,m,f⟩:=x
  repeat' (conv=>whnf
           first | done | refine qN (by first | rfl | omega | (simp only [i64ok] at *;omega)) ?_ | apply qH | refine qG fun _=> ?_ | apply qB | apply qa | apply qo | refine qe (fun _=> ?_) (fun _=> ?_) | refine qn (fun _=> ?_) (fun _=> ?_) | refine qd (fun _=> ?_) (fun _=> ?_) | apply qt | refine qi (fun _=> ?_) (fun _=> ?_) | refine And.intro rfl ?_ | apply qE | apply qO | exact True.intro | apply qq | apply qs | refine qK (by kernel_rfl) ?_ | apply qr)
  all_goals try first | apply qz1 | apply qz2 | apply qz3 | apply qz4 | apply qz5 | apply qz6 | apply qz7 | apply qz8 | apply qz9 | apply qz0
  all_goals try simp only [take_one,take_one',set_one,take_all,qn1,rec_self,qn2,pair_eta,ETy.dflt,qn3,qn4,Int.reduceToNat,Int.reduceAdd,Int.reduceSub,Int.reduceNeg,Nat.reduceAdd,Nat.zero_add,Option.getD_some] at *
  · refine Hold.intro ⟨by omega,?_⟩;rw [td3 (by assumption)];unfold i64ok;omega
  · refine qh ?_;rw [td3 (by assumption)];omega
  · refine qh ?_;rw [tm3 (by assumption)];omega
  · rw [tm3 (by assumption),td3 (by assumption),tVert_t (by assumption) (by assumption)]
    exact p3_get _ _ (by omega) (by omega)
  all_goals (rw [tVert_f];intro h';first | exact absurd h'.2 ‹_› | exact absurd h'.1 ‹_›)
def vertexC:List AV→Option Res:=con2P tabE i64E (fun x c=>some (none,some (c≤1000000000),.s (.int .i64 (tVert x c))))
theorem vertexRow:FnRow Try.prog 36 vertexC:=⟨con2P_ok fun x c r h=>by cases h;exact fn_by (rulesF (fn:=[(59,hasC)]) (fr:=[]) ⟨hasRow,trivial⟩ trivial) Try.func36 (by kernel_rfl) fun _ h=>vertex_vc x c h,_,Try.func36,by kernel_rfl,by kernel_rfl⟩
theorem next_vc (x:tabE.T) (c:Int) (h:c≤1000000):afun ⟨tyL,[(59,hasC),(71,turnedC)],[]⟩ Try.f52 [(ETy.pt tabE).av (some x),i64E.av c] (fun v=>v= .s (.int .i64 (tNext x c))):=by
  repeat' (conv=>whnf
           first | done | refine qN (by first | rfl | omega | (simp only [i64ok] at *;omega)) ?_ | apply qH | refine qG fun _=> ?_ | apply qB | apply qa | apply qo | refine qe (fun _=> ?_) (fun _=> ?_) | refine qn (fun _=> ?_) (fun _=> ?_) | refine qd (fun _=> ?_) (fun _=> ?_) | apply qt | refine qi (fun _=> ?_) (fun _=> ?_) | refine And.intro rfl ?_ | apply qE | apply qO | exact True.intro | apply qq | apply qs | refine qK (by kernel_rfl) ?_ | apply qr)
  all_goals try first | apply qz1 | apply qz2 | apply qz3 | apply qz4 | apply qz5 | apply qz6 | apply qz7 | apply qz8 | apply qz9 | apply qz0
  all_goals try simp only [take_one,take_one',set_one,take_all,qn1,rec_self,qn2,pair_eta,ETy.dflt,qn3,qn4,Int.reduceToNat,Int.reduceAdd,Int.reduceSub,Int.reduceNeg,Nat.reduceAdd,Nat.zero_add,Option.getD_some] at *
  · exact qh ⟨by assumption,Int.le_trans h (by decide),by decide,by decide⟩
  · unfold tNext;rw [if_pos (tHas_iff.2 ⟨by assumption,by assumption⟩)]
  all_goals (unfold tNext;rw [has_no (by omega)];rfl)
def nextC:List AV→Option Res:=con2P tabE i64E (fun x c=>some (none,some (c≤1000000),.s (.int .i64 (tNext x c))))
theorem nextRow:FnRow Try.prog 52 nextC:=⟨con2P_ok fun x c r h=>by cases h;exact fn_by (rulesF (fn:=[(59,hasC),(71,turnedC)]) (fr:=[]) ⟨hasRow,turnedRow,trivial⟩ trivial) Try.func52 (by kernel_rfl) fun _ h=>next_vc x c h,_,Try.func52,by kernel_rfl,by kernel_rfl⟩
theorem prev_vc (x:tabE.T) (c:Int) (h:c≤1000000):afun ⟨tyL,[(59,hasC),(71,turnedC)],[]⟩ Try.f53 [(ETy.pt tabE).av (some x),i64E.av c] (fun v=>v= .s (.int .i64 (tPrev x c))):=by
  repeat' (conv=>whnf
           first | done | refine qN (by first | rfl | omega | (simp only [i64ok] at *;omega)) ?_ | apply qH | refine qG fun _=> ?_ | apply qB | apply qa | apply qo | refine qe (fun _=> ?_) (fun _=> ?_) | refine qn (fun _=> ?_) (fun _=> ?_) | refine qd (fun _=> ?_) (fun _=> ?_) | apply qt | refine qi (fun _=> ?_) (fun _=> ?_) | refine And.intro rfl ?_ | apply qE | apply qO | exact True.intro | apply qq | apply qs | refine qK (by kernel_rfl) ?_ | apply qr)
  all_goals try first | apply qz1 | apply qz2 | apply qz3 | apply qz4 | apply qz5 | apply qz6 | apply qz7 | apply qz8 | apply qz9 | apply qz0
  all_goals try simp only [take_one,take_one',set_one,take_all,qn1,rec_self,qn2,pair_eta,ETy.dflt,qn3,qn4,Int.reduceToNat,Int.reduceAdd,Int.reduceSub,Int.reduceNeg,Nat.reduceAdd,Nat.zero_add,Option.getD_some] at *
  · exact qh ⟨by assumption,Int.le_trans h (by decide),by decide,by decide⟩
  · unfold tPrev;rw [if_pos (tHas_iff.2 ⟨by assumption,by assumption⟩)]
  all_goals (unfold tPrev;rw [has_no (by omega)];rfl)
def prevC:List AV→Option Res:=con2P tabE i64E (fun x c=>some (none,some (c≤1000000),.s (.int .i64 (tPrev x c))))
theorem prevRow:FnRow Try.prog 53 prevC:=⟨con2P_ok fun x c r h=>by cases h;exact fn_by (rulesF (fn:=[(59,hasC),(71,turnedC)]) (fr:=[]) ⟨hasRow,turnedRow,trivial⟩ trivial) Try.func53 (by kernel_rfl) fun _ h=>prev_vc x c h,_,Try.func53,by kernel_rfl,by kernel_rfl⟩
theorem facing_vc {fn} (x:tabE.T) (e:Int×Int):afun ⟨tyL,fn,[]⟩ Try.f19 [(ETy.pt tabE).av (some x),ETy.arr2.av e] (fun v=>v= .s (.int .i64 (tFacing x e))):=by
  obtain ⟨⟨n,l⟩,m,f⟩:=x
  repeat' (conv=>whnf
           first | done | refine qN (by first | rfl | omega | (simp only [i64ok] at *;omega)) ?_ | apply qH | refine qG fun _=> ?_ | apply qB | apply qa | apply qo | refine qe (fun _=> ?_) (fun _=> ?_) | refine qn (fun _=> ?_) (fun _=> ?_) | refine qd (fun _=> ?_) (fun _=> ?_) | apply qt | refine qi (fun _=> ?_) (fun _=> ?_) | refine And.intro rfl ?_ | apply qE | apply qO | exact True.intro | apply qq | apply qs | refine qK (by kernel_rfl) ?_ | apply qr)
  all_goals try first | apply qz1 | apply qz2 | apply qz3 | apply qz4 | apply qz5 | apply qz6 | apply qz7 | apply qz8 | apply qz9 | apply qz0
  all_goals try simp only [take_one,take_one',set_one,take_all,qn1,rec_self,qn2,pair_eta,ETy.dflt,qn3,qn4,Int.reduceToNat,Int.reduceAdd,Int.reduceSub,Int.reduceNeg,Nat.reduceAdd,Nat.zero_add,Option.getD_some,tFacing] at *
  · rename_i h
    cases hm:mget .arr2 m e with
    | none=>rw [hm] at h;cases h
    | some v=>rfl
  · rename_i h
    cases hm:mget .arr2 m e with
    | none=>rfl
    | some v=>rw [hm] at h;cases h
def facingC:List AV→Option Res:=con2P tabE .arr2 (fun x e=>some (none,none,.s (.int .i64 (tFacing x e))))
theorem facingRow:FnRow Try.prog 19 facingC:=⟨con2P_ok fun x e r h=>by cases h;exact fn_by (rulesF (fn:=[]) (fr:=[]) trivial trivial) Try.func19 (by kernel_rfl) fun _ _=>facing_vc x e,_,Try.func19,by kernel_rfl,by kernel_rfl⟩
theorem corner_vc {fn} (x:tabE.T) (v:Int):afun ⟨tyL,fn,[]⟩ Try.f65 [(ETy.pt tabE).av (some x),i64E.av v] (fun r=>r= .s (.int .i64 (tCorner x v))):=by
  obtain ⟨⟨n,l⟩,m,f⟩:=x
  repeat' (conv=>whnf
           first | done | refine qN (by first | rfl | omega | (simp only [i64ok] at *;omega)) ?_ | apply qH | refine qG fun _=> ?_ | apply qB | apply qa | apply qo | refine qe (fun _=> ?_) (fun _=> ?_) | refine qn (fun _=> ?_) (fun _=> ?_) | refine qd (fun _=> ?_) (fun _=> ?_) | apply qt | refine qi (fun _=> ?_) (fun _=> ?_) | refine And.intro rfl ?_ | apply qE | apply qO | exact True.intro | apply qq | apply qs | refine qK (by kernel_rfl) ?_ | apply qr)
  all_goals try first | apply qz1 | apply qz2 | apply qz3 | apply qz4 | apply qz5 | apply qz6 | apply qz7 | apply qz8 | apply qz9 | apply qz0
  all_goals try simp only [take_one,take_one',set_one,take_all,qn1,rec_self,qn2,pair_eta,ETy.dflt,qn3,qn4,Int.reduceToNat,Int.reduceAdd,Int.reduceSub,Int.reduceNeg,Nat.reduceAdd,Nat.zero_add,Option.getD_some,tCorner] at *
  · rw [if_neg (by omega)]
  · rw [if_neg (by omega)]
  · rw [if_pos (by omega)]
def cornerC:List AV→Option Res:=con2P tabE i64E (fun x v=>some (none,none,.s (.int .i64 (tCorner x v))))
theorem cornerRow:FnRow Try.prog 65 cornerC:=⟨con2P_ok fun x v r h=>by cases h;exact fn_by (rulesF (fn:=[]) (fr:=[]) trivial trivial) Try.func65 (by kernel_rfl) fun _ _=>corner_vc x v,_,Try.func65,by kernel_rfl,by kernel_rfl⟩
theorem trn_le {c b:Int} :trn c b≤c+2:=by unfold trn;omega
theorem tNext_le {x:tabE.T} {c:Int} (h:c≤1000000):tNext x c≤1000000000:=by
  have:= @trn_le c 1
  unfold tNext;split<;>omega
theorem tPrev_le {x:tabE.T} {c:Int} (h:c≤1000000):tPrev x c≤1000000000:=by
  have:= @trn_le c 2
  unfold tPrev;split<;>omega
theorem edge_vc (x:tabE.T) (c:Int) (h:c≤1000000):afun ⟨tyL,[(52,nextC),(53,prevC),(36,vertexC)],[]⟩ Try.f27 [(ETy.pt tabE).av (some x),i64E.av c] (fun v=>v=ETy.arr2.av (tEdge x c)):=by
  repeat' (conv=>whnf
           first | done | refine qN (by first | rfl | omega | (simp only [i64ok] at *;omega)) ?_ | apply qH | refine qG fun _=> ?_ | apply qB | apply qa | apply qo | refine qe (fun _=> ?_) (fun _=> ?_) | refine qn (fun _=> ?_) (fun _=> ?_) | refine qd (fun _=> ?_) (fun _=> ?_) | apply qt | refine qi (fun _=> ?_) (fun _=> ?_) | refine And.intro rfl ?_ | apply qE | apply qO | exact True.intro | apply qq | apply qs | refine qK (by kernel_rfl) ?_ | apply qr)
  all_goals try first | apply qz1 | apply qz2 | apply qz3 | apply qz4 | apply qz5 | apply qz6 | apply qz7 | apply qz8 | apply qz9 | apply qz0
  all_goals try simp only [take_one,take_one',set_one,take_all,qn1,rec_self,qn2,pair_eta,ETy.dflt,qn3,qn4,Int.reduceToNat,Int.reduceAdd,Int.reduceSub,Int.reduceNeg,Nat.reduceAdd,Nat.zero_add,Option.getD_some] at *
  · exact qh (tNext_le (by omega))
  · exact qh (tPrev_le (by omega))
  · exact HoldEq.intro rfl
def edgeC:List AV→Option Res:=con2P tabE i64E (fun x c=>some (none,some (c≤1000000),ETy.arr2.av (tEdge x c)))
theorem edgeRow:FnRow Try.prog 27 edgeC:=⟨con2P_ok fun x c r h=>by cases h;exact fn_by (rulesF (fn:=[(52,nextC),(53,prevC),(36,vertexC)]) (fr:=[]) ⟨nextRow,prevRow,vertexRow,trivial⟩ trivial) Try.func27 (by kernel_rfl) fun _ h=>edge_vc x c h,_,Try.func27,by kernel_rfl,by kernel_rfl⟩
theorem opp_vc (x:tabE.T) (c:Int) (h:c≤1000000):afun ⟨tyL,[(27,edgeC),(19,facingC)],[]⟩ Try.f20 [(ETy.pt tabE).av (some x),i64E.av c] (fun v=>v= .s (.int .i64 (tOpp x c))):=by
  repeat' (conv=>whnf
           first | done | refine qN (by first | rfl | omega | (simp only [i64ok] at *;omega)) ?_ | apply qH | refine qG fun _=> ?_ | apply qB | apply qa | apply qo | refine qe (fun _=> ?_) (fun _=> ?_) | refine qn (fun _=> ?_) (fun _=> ?_) | refine qd (fun _=> ?_) (fun _=> ?_) | apply qt | refine qi (fun _=> ?_) (fun _=> ?_) | refine And.intro rfl ?_ | apply qE | apply qO | exact True.intro | apply qq | apply qs | refine qK (by kernel_rfl) ?_ | apply qr)
  all_goals try first | apply qz1 | apply qz2 | apply qz3 | apply qz4 | apply qz5 | apply qz6 | apply qz7 | apply qz8 | apply qz9 | apply qz0
  all_goals try simp only [take_one,take_one',set_one,take_all,qn1,rec_self,qn2,pair_eta,ETy.dflt,qn3,qn4,Int.reduceToNat,Int.reduceAdd,Int.reduceSub,Int.reduceNeg,Nat.reduceAdd,Nat.zero_add,Option.getD_some] at *
  rfl
def oppC:List AV→Option Res:=con2P tabE i64E (fun x c=>some (none,some (c≤1000000),.s (.int .i64 (tOpp x c))))
theorem oppRow:FnRow Try.prog 20 oppC:=⟨con2P_ok fun x c r h=>by cases h;exact fn_by (rulesF (fn:=[(27,edgeC),(19,facingC)]) (fr:=[]) ⟨edgeRow,facingRow,trivial⟩ trivial) Try.func20 (by kernel_rfl) fun _ h=>opp_vc x c h,_,Try.func20,by kernel_rfl,by kernel_rfl⟩
end S1
open Go Go.Vm Go.Proofs
namespace S1
def WOk (w:Wit):Prop:=w.1≠0∧witE.inR w=true
theorem wrap64 {n:Int} (h: -10000≤n∧n≤10000):IntKind.i64.wrap n=n:=wrap_in (InK.i64.2 (by unfold i64ok;omega))
theorem wok_of {k a b:Int} (h0:k≠0) (hk: -10000≤k∧k≤10000) (ha: -10000≤a∧a≤10000) (hb: -10000≤b∧b≤10000):WOk (k,a,b) :=
  ⟨h0,by simp only [ETy.inR,wrap64 hk,wrap64 ha,wrap64 hb,beq_self_eq_true,Bool.and_self]⟩
theorem fm_wok {f:Nat→Option Wit} {n:Nat} (h: ∀ i,i<n→∀ w,f i=some w→WOk w): ∀ w∈(List.range n).filterMap f,WOk w:=by
  intro w hw
  obtain ⟨i,hi,e⟩:=List.mem_filterMap.1 hw
  exact h i (List.mem_range.1 hi) w e
theorem indexR_wok (s:Int×List P3): ∀ w∈indexR s,WOk w:=by
  unfold indexR
  split
  · intro w hw
    rw [List.mem_singleton] at hw
    subst hw
    exact wok_of (by decide) (by decide) (by decide) (by decide)
  · rename_i hb
    have hb: ¬ (s.1<0∨s.1>4096∨(s.2.length:Int)>8192):=by
      simpa only [bigR,Bool.or_eq_true,decide_eq_true_eq] using hb
    refine fm_wok fun i hi w e=> ?_
    unfold idxG at e
    split at e
    · cases e
    · cases e;exact wok_of (by decide) (by decide) (by omega) (by decide)
theorem dgL_wok {l:List P3} (hl:l.length≤8192): ∀ w∈dgL l l.length,WOk w :=
  fm_wok fun i hi w e=>by
    unfold dgG at e
    split at e
    · cases e;exact wok_of (by decide) (by decide) (by omega) (by decide)
    · cases e
theorem loneR_wok {s:Int×List P3} (h:fitS s): ∀ w∈loneR s,WOk w :=
  fm_wok fun i hi w e=>by
    have h1:=h.1;have h2:=h.2.1
    unfold loG at e
    split at e
    · cases e
    · cases e;exact wok_of (by decide) (by decide) (by omega) (by decide)
theorem pinR_wok {s:Int×List P3} (h:fitS s): ∀ w∈pinR s,WOk w :=
  fm_wok fun i hi w e=>by
    have h1:=h.1;have h2:=h.2.1
    unfold piG at e
    split at e
    · cases e
    · cases e;exact wok_of (by decide) (by decide) (by omega) (by decide)
def SmallL (l:List Int):Prop:= ∀ a∈l,0≤a∧a≤8192
theorem prA_wok {kind:Int} {i:Nat} {av:List Int} (h0:kind≠0) (hk: -10000≤kind∧kind≤10000) (hi:i≤8192) (ha:SmallL av) (s:PS) (hs: ∀ w∈s.2,WOk w): ∀ w∈(irec (prA kind i av) s av.length).2,WOk w :=
  irec_inv (n:=av.length) (fun _ (t:PS)=> ∀ w∈t.2,WOk w) hs (fun j t hj ht=>by
    unfold prA
    split
    · exact ht
    · intro w hw
      rcases List.mem_append.1 hw with hw | hw
      · exact ht w hw
      · rw [List.mem_singleton] at hw
        subst hw
        have:=ha (av.getD j 0) (by rw [gdE,gE hj];exact List.getElem_mem hj)
        exact wok_of h0 hk (by omega) (by omega)) av.length (Nat.le_refl _)
theorem prS_wok (kp:P3→List P3) {kind:Int} (h0:kind≠0) (hk: -10000≤kind∧kind≤10000) {l:List P3} (hl:l.length≤8192): ∀ w∈(prS kp kind l l.length).2.2,WOk w :=
  (irec_inv (n:=l.length) (fun _ (t:HadM×PS)=>(∀ k,SmallL (hadAt t.1 k))∧∀ w∈t.2.2,WOk w) ⟨fun k a h=>(by cases h),fun w h=>(by cases h)⟩ (fun i t hi ht=>by
    unfold prI
    refine irec_inv (n:=(kp (l.getD i (0,0,0))).length) (fun _ (t:HadM×PS)=>(∀ k,SmallL (hadAt t.1 k))∧∀ w∈t.2.2,WOk w) ht (fun m t hm ht=> ?_) _ (Nat.le_refl _)
    refine ⟨fun k a ha=> ?_,prA_wok h0 hk (by omega) (ht.1 _) _ ht.2⟩
    have ha:a∈hadAt (mset .arr3 t.1 ((kp (l.getD i (0,0,0))).getD m (0,0,0)) (hadAt t.1 ((kp (l.getD i (0,0,0))).getD m (0,0,0))++[(i:Int)])) k:=ha
    rw [hadAt_set] at ha
    split at ha
    · rcases List.mem_append.1 ha with ha | ha
      · exact ht.1 _ a ha
      · rw [List.mem_singleton] at ha;omega
    · exact ht.1 _ a ha) l.length (Nat.le_refl _)).2
theorem sortW_wok {l:List Wit} (h: ∀ w∈l,WOk w): ∀ w∈sortF witE cfW l,WOk w:=fun w hw=>h w (sortF_mem swoW l (fun x hx=>(h x hx).2) w hw)
theorem allR_wok (s:Int×List P3): ∀ w∈allR s,WOk w:=by
  obtain ⟨n,l⟩:=s
  unfold allR firstW
  split
  · exact sortW_wok (indexR_wok _)
  · rename_i h1
    have hf:=idx_fit h1
    have hl:l.length≤8192:=hf.2.2.1
    unfold firstW
    split
    · exact sortW_wok (dgL_wok hl)
    · unfold firstW
      split
      · exact sortW_wok (prS_wok _ (by decide) (by decide) hl)
      · unfold firstW
        split
        · exact sortW_wok (prS_wok _ (by decide) (by decide) hl)
        · unfold firstW
          split
          · exact sortW_wok (loneR_wok hf)
          · unfold firstW
            split
            · exact sortW_wok (pinR_wok hf)
            · intro w hw;cases hw
theorem chk_all {s:Int×List P3} (h:(chkR s).1=0):allR s=[]:=by
  unfold chkR at h
  have hw:=allR_wok s
  cases e:allR s with
  | nil=>rfl
  | cons w r =>
    rw [e] at h hw
    exact absurd h (hw w (List.mem_cons_self ..)).1
theorem chk_eq {s:Int×List P3} (h:(chkR s).1=0):chkR s=(0,0,0):=by unfold chkR;rw [chk_all h];rfl
theorem firstW_nil: ∀ {ls:List (List Wit)},firstW ls=[]→∀ l∈ls,l=[]
  | [],_,l,hl=>by cases hl
  | a ::r,h,l,hl=>by
    unfold firstW at h
    split at h
    · rename_i ha
      have:=sortW_len a
      rw [h] at this
      simp at this;omega
    · rename_i ha
      rcases List.mem_cons.1 hl with e | hl
      · subst e;exact not_pos ha
      · exact firstW_nil h l hl
structure Cert (s:Int×List P3):Prop where
  fit:fitS s
  deg:dgL s.2 s.2.length=[]
  twi:(prS kTwice 3 s.2 s.2.length).2.2=[]
theorem cert_of {s:Int×List P3} (h:(chkR s).1=0):Cert s:=by
  have h:=firstW_nil (chk_all h)
  obtain ⟨n,l⟩:=s
  refine ⟨idx_fit (by rw [h (indexR (n,l)) (by simp)];simp),h _ (by simp),h _ (by simp)⟩
end S1
open Go Go.Vm Go.Proofs
namespace S1
def newI (x:Int×List P3) (s:List ((Int×Int)×Int)×List Int) (i:Nat):List ((Int×Int)×Int)×List Int :=
  (mset .arr2 s.1 (tEdge (x,[],[]) (3*x.2.length - 1 - i)) (3*x.2.length - 1 - i),s.2.set (tVert (x,[],[]) (3*x.2.length - 1 - i)).toNat (3*x.2.length - 1 - i))
def newS (x:Int×List P3) (i:Nat):List ((Int×Int)×Int)×List Int:=irec (newI x) ([],List.replicate x.1.toNat 0) i
def newT (x:Int×List P3):tabE.T:=(x,(newS x (3*x.2.length)).1,(newS x (3*x.2.length)).2)
def loopN (n:Int) (l:List P3):Spec Nat where
  inv x:=x≤3*l.length
  live x:=[(6,.s (.int .i64 (3*l.length - 1 - x)))]
  keep:=[3,5]
  heap x:=[(3,.map .arr2 (.int .i64) (newS (n,l) x).1),(4,.row (.int .i64) 3 (newS (n,l) x).2)]
  keepH:=[1,5]
  mu x:=3*l.length - x
theorem p3_in {n:Int} {t:P3} (h:triIn n t=true) (k:Int):0≤p3 t k∧p3 t k<n:=by
  have:=triIn_spec h
  unfold p3;split
  · omega
  · split<;>omega
theorem tVert_in {x:tabE.T} {c:Int} (hf:fitS x.1) (h:tHas x c=true):0≤tVert x c∧tVert x c<x.1.1:=by
  unfold tVert;rw [if_pos h]
  rw [tHas_iff] at h
  exact p3_in (hf.2.2.2 _ (by omega)) _
theorem newS_len (x:Int×List P3): ∀ i,(newS x i).2.length=x.1.toNat
  | 0=>List.length_replicate
  | i+1=>by
    show ((newS x i).2.set _ _).length=_
    rw [List.length_set];exact newS_len x i
def newO (s:Int×List P3):Option tabE.T:=if (chkR s).1=0 then some (newT s) else none
def nilO:Option tabE.T→AV
  | none=> .s (.val (.pointer none))
  | some x=>(ETy.pt tabE).av (some x)
theorem nilO_rep {σ:Sig} {β:Places} {o:Option tabE.T} {v:Value} (h:VRep σ β (nilO o) v):VRep σ β ((ETy.pt tabE).av o) v:=by
  cases o with
  | some x=>exact h
  | none=>show [v]=[.pointer none];rw [show v= .pointer none from h.1]
theorem FnOk.out {P:Program} {f:FuncId} {args:List AV} {p q:Option Prop} {u u':AV} (h:FnOk P f args (p,q,u)) (hu: ∀ σ v,VRep σ [] u v→VRep σ [] u' v):FnOk P f args (p,q,u'):=fun σ vals w hag hv=>by
  obtain ⟨h1,h2⟩:=h σ vals w hag hv
  refine ⟨h1,fun hq=> ?_⟩
  exact (h2 hq).mono fun e w' ⟨v,σ',e1,e2,e3,e4,e5,e6⟩=>⟨v,σ',e1,e2,e3,e4,hu _ _ e5,e6⟩
theorem new_vc (n:Int) (l:List P3):afun ⟨tyL,[(34,checkC),(35,cloneC),(27,edgeC),(36,vertexC)],[]⟩ Try.f12 [soupE.av (n,l)] (fun v=>v= .tup [nilO (newO (n,l)),witE.av (chkR (n,l))]):=by
  repeat' (conv=>whnf
           first | done | refine qN (by first | rfl | omega | (simp only [i64ok] at *;omega)) ?_ | apply qH | refine qG fun _=> ?_ | apply qB | apply qa | apply qo | refine qe (fun _=> ?_) (fun _=> ?_) | refine qn (fun _=> ?_) (fun _=> ?_) | refine qd (fun _=> ?_) (fun _=> ?_) | apply qt | refine qi (fun _=> ?_) (fun _=> ?_) | (refine atReg 6 rfl ?_;refine Or.inr (Exists.intro (Nat) (Exists.intro (loopN n l) (And.intro (Exists.intro (0) (And.intro (Hold.out ?_) (And.intro ?_ (And.intro ?_ rfl)))) (fun x hx=> ?_))))) | ((with_reducible show (∃ y,And (Spec.inv (loopN _ _) y) _));refine Exists.intro (x+1) (And.intro (Hold.out ?_) (And.intro (And.intro ?_ (And.intro ?_ rfl)) (Hold.out ?_)))) | refine And.intro rfl ?_ | apply qE | apply qO | exact True.intro | apply qq | apply qs | refine qK (by kernel_rfl) ?_ | apply qr)
  all_goals try first | apply qz1 | apply qz2 | apply qz3 | apply qz4 | apply qz5 | apply qz6 | apply qz7 | apply qz8 | apply qz9 | apply qz0
  all_goals try simp only [take_one,take_one',set_one,take_all,qn1,rec_self,qn2,pair_eta,ETy.dflt,qn3,qn4,Int.reduceToNat,Int.reduceAdd,Int.reduceSub,Int.reduceNeg,Nat.reduceAdd,Nat.zero_add,Option.getD_some,loopN] at *
  · rename_i h;unfold newO;rw [if_neg h];exact HoldEq.intro rfl
  all_goals
    have hc:=cert_of (s:=(n,l)) ‹_›
    have hl:l.length≤8192:=hc.fit.2.2.1
    have h0:0≤n:=hc.fit.1
    have h1:n≤4096:=hc.fit.2.1
  · exact qh hl
  · exact qh ⟨h0,Int.le_refl _,by omega⟩
  · exact qh (Nat.zero_le _)
  · omega
  · exact qh (show 3*(l.length:Int) - 1 - x≤1000000 by omega)
  · exact qh (show 3*(l.length:Int) - 1 - x≤1000000000 by omega)
  · have:=tVert_in (x:=((n,l),[],[])) (c:=3*(l.length:Int) - 1 - x) hc.fit (tHas_iff.2 ⟨by omega,by show _<3*(l.length:Int);omega⟩)
    refine Hold.intro ⟨this.1,Int.lt_of_lt_of_le this.2 ?_⟩
    show n≤_;omega
  · exact qh (by omega)
  · omega
  · rfl
  · exact qh (by omega)
  · have e:x=3*l.length:=by omega
    subst e
    have e2:List.take n.toNat (List.drop 0 (newS (n,l) (3*l.length)).snd)=(newS (n,l) (3*l.length)).snd:=by
      rw [List.drop_zero];exact List.take_of_length_le (Nat.le_of_eq (newS_len (n,l) _))
    unfold newO
    rw [if_pos ‹_›,chk_eq ‹_›]
    refine HoldEq.intro ?_
    rw [e2]
    rfl
def newC:List AV→Option Res:=con1 soupE (fun s=>some (none,none,.tup [(ETy.pt tabE).av (newO s),witE.av (chkR s)]))
theorem newRow:FnRow Try.prog 12 newC:=⟨con1_ok fun s r h=>by
  cases h
  refine FnOk.out (fn_by (rulesF (fn:=[(34,checkC),(35,cloneC),(27,edgeC),(36,vertexC)]) (fr:=[]) ⟨checkRow,cloneRow,edgeRow,vertexRow,trivial⟩ trivial) Try.func12 (by kernel_rfl) fun _ _=>new_vc s.1 s.2) fun σ v h=> ?_
  obtain ⟨vs,e,r⟩:=h
  match vs,r with
  | [a,b],r=>exact ⟨_,e,nilO_rep r.1,r.2.1,trivial⟩,_,Try.func12,by kernel_rfl,by kernel_rfl⟩
end S1
