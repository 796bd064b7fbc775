/- A part of the proofs of the laws. -/
import Derived.Test.YtahbknnehddjgaaGreatT5toT11
import Derived.Test.YtahbknnehddjgaaGreatF4toT16
set_option linter.unusedSimpArgs false
set_option linter.unusedVariables false
set_option maxHeartbeats 8000000
set_option maxRecDepth 100000
open Go Go.Vm Go.Proofs
namespace S9
open S1
@[irreducible] def hasR (t:P3) (v:Int):Bool:=t.1==v|| (t.2.1==v|| t.2.2==v)
@[irreducible] def edgeR (t:P3) (a b:Int):Bool:=(t.1==a&&t.2.1==b)|| ((t.2.1==a&&t.2.2==b)|| (t.2.2==a&&t.1==b))
theorem edge9_vc {fn} (t:P3) (a b:Int):afun ⟨tyL,fn,[]⟩ Tryz.f176 [ETy.arr3.av t,(ETy.int .i64).av a,(ETy.int .i64).av b] (fun r=>r= .s (.bool (edgeR t a b))):=by
  repeat' (conv=>whnf
           first | done | refine qN (by first | rfl | omega | (simp only [i64ok] at *;omega)) ?_ | apply qH | refine qG fun _=> ?_ | apply qB | apply qa | apply qo | refine qe (fun _=> ?_) (fun _=> ?_) | refine qn (fun _=> ?_) (fun _=> ?_) | refine qd (fun _=> ?_) (fun _=> ?_) | apply qt | refine qi (fun _=> ?_) (fun _=> ?_) | refine And.intro rfl ?_ | apply qE | apply qO | exact True.intro | apply qq | apply qs | refine qK (by kernel_rfl) ?_ | apply qr)
  all_goals try first | apply qz1 | apply qz2 | apply qz3 | apply qz4 | apply qz5 | apply qz6 | apply qz7 | apply qz8 | apply qz9 | apply qz0
  all_goals try simp only [take_one,take_one',set_one,take_all,qn1,rec_self,qn2,pair_eta,ETy.dflt,qn3,qn4,Int.reduceToNat,Int.reduceAdd,Int.reduceSub,Int.reduceNeg,Nat.reduceAdd,Nat.zero_add,edgeR] at *
  all_goals rw [Bool.eq_iff_iff];simp only [Bool.or_eq_true,Bool.and_eq_true,beq_iff_eq,Bool.false_eq_true,true_iff,iff_true,false_iff,iff_false];omega
def edge9C:List AV→Option Res:=con3 .arr3 (.int .i64) (.int .i64) (fun t a b=>some (none,none,.s (.bool (edgeR t a b))))
theorem edge9Row:FnRow Tryz.prog 176 edge9C:=⟨con3_ok fun t a b r h=>by cases h;exact fn_by (rulesF (fn:=[]) (fr:=[]) trivial trivial) Tryz.func176 (by kernel_rfl) fun _ _=>edge9_vc t a b,_,Tryz.func176,by kernel_rfl,by kernel_rfl⟩
theorem has9_vc {fn} (t:P3) (v:Int):afun ⟨tyL,fn,[]⟩ Tryz.f126 [ETy.arr3.av t,(ETy.int .i64).av v] (fun r=>r= .s (.bool (hasR t v))):=by
  repeat' (conv=>whnf
           first | done | refine qN (by first | rfl | omega | (simp only [i64ok] at *;omega)) ?_ | apply qH | refine qG fun _=> ?_ | apply qB | apply qa | apply qo | refine qe (fun _=> ?_) (fun _=> ?_) | refine qn (fun _=> ?_) (fun _=> ?_) | refine qd (fun _=> ?_) (fun _=> ?_) | apply qt | refine qi (fun _=> ?_) (fun _=> ?_) | refine And.intro rfl ?_ | apply qE | apply qO | exact True.intro | apply qq | apply qs | refine qK (by kernel_rfl) ?_ | apply qr)
  all_goals try first | apply qz1 | apply qz2 | apply qz3 | apply qz4 | apply qz5 | apply qz6 | apply qz7 | apply qz8 | apply qz9 | apply qz0
  all_goals try simp only [take_one,take_one',set_one,take_all,qn1,rec_self,qn2,pair_eta,ETy.dflt,qn3,qn4,Int.reduceToNat,Int.reduceAdd,Int.reduceSub,Int.reduceNeg,Nat.reduceAdd,Nat.zero_add,hasR] at *
  · rename_i h;rw [h];simp
  · rename_i h1 h;rw [h];simp
  · rename_i h1 h2;rw [beq_false_of_ne h1,beq_false_of_ne h2];rfl
def has9C:List AV→Option Res:=con2 .arr3 (.int .i64) (fun t v=>some (none,none,.s (.bool (hasR t v))))
theorem has9Row:FnRow Tryz.prog 126 has9C:=⟨con2_ok fun t v r h=>by cases h;exact fn_by (rulesF (fn:=[]) (fr:=[]) trivial trivial) Tryz.func126 (by kernel_rfl) fun _ _=>has9_vc t v,_,Tryz.func126,by kernel_rfl,by kernel_rfl⟩
@[irreducible] def twiceR (t u:P3):Bool:=edgeR u t.1 t.2.1|| (edgeR u t.2.1 t.2.2|| edgeR u t.2.2 t.1)
theorem twice9_vc (t u:P3):afun ⟨tyL,[(176,edge9C)],[]⟩ Tryz.f156 [ETy.arr3.av t,ETy.arr3.av u] (fun r=>r= .s (.bool (twiceR t u))):=by
  repeat' (conv=>whnf
           first | done | refine qN (by first | rfl | omega | (simp only [i64ok] at *;omega)) ?_ | apply qH | refine qG fun _=> ?_ | apply qB | apply qa | apply qo | refine qe (fun _=> ?_) (fun _=> ?_) | refine qn (fun _=> ?_) (fun _=> ?_) | refine qd (fun _=> ?_) (fun _=> ?_) | apply qt | refine qi (fun _=> ?_) (fun _=> ?_) | refine And.intro rfl ?_ | apply qE | apply qO | exact True.intro | apply qq | apply qs | refine qK (by kernel_rfl) ?_ | apply qr)
  all_goals try first | apply qz1 | apply qz2 | apply qz3 | apply qz4 | apply qz5 | apply qz6 | apply qz7 | apply qz8 | apply qz9 | apply qz0
  all_goals try simp only [take_one,take_one',set_one,take_all,qn1,rec_self,qn2,pair_eta,ETy.dflt,qn3,qn4,Int.reduceToNat,Int.reduceAdd,Int.reduceSub,Int.reduceNeg,Nat.reduceAdd,Nat.zero_add,twiceR] at *
  all_goals simp [*]
def twice9C:List AV→Option Res:=con2 .arr3 .arr3 (fun t u=>some (none,none,.s (.bool (twiceR t u))))
theorem twice9Row:FnRow Tryz.prog 156 twice9C:=⟨con2_ok fun t u r h=>by cases h;exact fn_by (rulesF (fn:=[(176,edge9C)]) (fr:=[]) ⟨edge9Row,trivial⟩ trivial) Tryz.func156 (by kernel_rfl) fun _ _=>twice9_vc t u,_,Tryz.func156,by kernel_rfl,by kernel_rfl⟩
def idxL (n:Int):Nat→List P3→List Wit
  | _,[]=>[]
  | i,t::r=>if triIn n t then idxL n (i+1) r else (1,(i:Int),0)::idxL n (i+1) r
def bigR (s:Int×List P3):Bool:=decide (s.1<0)|| (decide (s.1>4096)|| decide ((s.2.length:Int)>8192))
def indexR (s:Int×List P3):List Wit:=if bigR s then [(1,-1,0)] else idxL s.1 0 s.2
def loopI (n:Int) (l:List P3):Spec (Nat×List Wit) where
  inv x:=x.1≤l.length∧x.2.length≤x.1∧idxL n 0 l=x.2++idxL n x.1 (l.drop x.1)
  live x:=[(4,.s (.int .i64 x.1)),(3,.s (.own 2 0 x.2.length))]
  keep:=[1]
  heap x:=[(2,.row witE 159 x.2)]
  keepH:=[0]
  mu x:=l.length - x.1
theorem tri_bad {n:Int} {t:P3} (h:t.1<0∨t.1≥n∨t.2.1<0∨t.2.1≥n∨t.2.2<0∨t.2.2≥n):triIn n t=false:=by
  rw [← Bool.not_eq_true];intro e;have:=triIn_spec e;omega
theorem tri_good {n:Int} {t:P3} (h: ¬ (t.1<0∨t.1≥n∨t.2.1<0∨t.2.1≥n∨t.2.2<0∨t.2.2≥n)):triIn n t=true:=by
  simp only [triIn,vIn,Bool.and_eq_true,Bool.not_eq_true',Bool.or_eq_false_iff,decide_eq_false_iff_not];omega
theorem index9_vc {fn} (n:Int) (l:List P3):afunF ⟨tyL,fn,[]⟩ Tryz.f124 [soupE.av (n,l)] (fun v obs=>v= .s (.own 0 0 (indexR (n,l)).length)∧obs=[.row witE 159 (indexR (n,l))]):=by
  repeat' (conv=>whnf
           first | done | refine qN (by first | rfl | omega | (simp only [i64ok] at *;omega)) ?_ | apply qH | refine qG fun _=> ?_ | apply qB | apply qa | apply qo | refine qe (fun _=> ?_) (fun _=> ?_) | refine qn (fun _=> ?_) (fun _=> ?_) | refine qd (fun _=> ?_) (fun _=> ?_) | apply qt | refine qi (fun _=> ?_) (fun _=> ?_) | (refine atReg 5 rfl ?_;refine Or.inr (Exists.intro (Nat×List Wit) (Exists.intro (loopI n l) (And.intro (Exists.intro ((0,[])) (And.intro (Hold.out ?_) (And.intro ?_ (And.intro ?_ rfl)))) (fun x hx=> ?_))))) | (refine atReg 9 rfl ?_;refine Or.inl (Exists.intro (4) ?_)) | ((with_reducible show (∃ y,And (Spec.inv (loopI _ _) y) _));refine Exists.intro ((x.1+1,if triIn n (l.getD x.1 (0,0,0)) then x.2 else x.2++[(1,(x.1:Int),0)])) (And.intro (Hold.out ?_) (And.intro (And.intro ?_ (And.intro ?_ rfl)) (Hold.out ?_)))) | refine And.intro rfl ?_ | apply qE | apply qO | exact True.intro | apply qq | apply qs | refine qK (by kernel_rfl) ?_ | apply qr)
  all_goals try first | apply qz1 | apply qz2 | apply qz3 | apply qz4 | apply qz5 | apply qz6 | apply qz7 | apply qz8 | apply qz9 | apply qz0
  all_goals try simp only [take_one,take_one',set_one,take_all,qn1,rec_self,qn2,pair_eta,ETy.dflt,qn3,qn4,Int.reduceToNat,Int.reduceAdd,Int.reduceSub,Int.reduceNeg,Nat.reduceAdd,Nat.zero_add,loopI] at *
  all_goals try (refine qh ?_;omega)
  all_goals try (refine qh ?_;simp only [List.length_singleton];omega)
  · rename_i h;simp only [indexR,bigR,decide_eq_true h,Bool.true_or,if_true];rfl
  · rename_i h;simp only [indexR,bigR,decide_eq_true h,Bool.true_or,if_true]
  · rename_i h;simp only [indexR,bigR,decide_eq_true h,Bool.true_or,Bool.or_true,if_true];rfl
  · rename_i h;simp only [indexR,bigR,decide_eq_true h,Bool.true_or,Bool.or_true,if_true]
  · rename_i h;simp only [indexR,bigR,decide_eq_true h,Bool.true_or,Bool.or_true,if_true];rfl
  · rename_i h;simp only [indexR,bigR,decide_eq_true h,Bool.true_or,Bool.or_true,if_true]
  · exact qh ⟨Nat.zero_le _,Nat.le_refl _,rfl⟩
  all_goals try
    (have ht:triIn n (l.getD x.1 (0,0,0))=false:=tri_bad (by omega)
     (simp only [ht,Bool.false_eq_true,if_false,List.length_append,List.length_singleton]) <;>
     (refine Hold.intro ⟨by omega,by omega,?_⟩;rw [hx.2.2,drop_now (0,0,0) (by assumption),idxL,ht];simp;done))
  all_goals try
    (have ht:triIn n (l.getD x.1 (0,0,0))=true:=tri_good (by omega)
     (simp only [ht,if_true]) <;>
     (refine Hold.intro ⟨by omega,by omega,?_⟩;rw [hx.2.2,drop_now (0,0,0) (by assumption),idxL,ht];simp;done))
  all_goals
    have e:indexR (n,l)=x.2:=by
      have hb:bigR (n,l)=false:=by simp only [bigR,Bool.or_eq_false_iff,decide_eq_false_iff_not];omega
      simp only [indexR,hb,Bool.false_eq_true,if_false]
      rw [hx.2.2,drop_all (by assumption)];simp [idxL]
    rw [e]
def index9C:List AV→Option ResF:=con1 soupE (fun s=>some (none,none,.s (.own 0 0 (indexR s).length),[.row witE 159 (indexR s)]))
theorem index9Row:FnRowF Tryz.prog 124 index9C:=⟨con1_okF fun s r h=>by cases h;exact fn_byF (rulesF (fn:=[]) (fr:=[]) trivial trivial) Tryz.func124 (by kernel_rfl) fun _ _=>index9_vc s.1 s.2,_,Tryz.func124,by kernel_rfl,by kernel_rfl⟩
end S9
open Go Go.Vm Go.Proofs
namespace S9
open S1
@[irreducible] def ptR (k:Int) (t u:P3):Bool:=(k==3&&twiceR t u)|| (k==4&&(hasR u t.1&&(hasR u t.2.1&&hasR u t.2.2)))
def prG (l:List P3) (k:Int) (b a:Nat):Option Wit:=if ptR k (l.getD a (0,0,0)) (l.getD b (0,0,0)) then some (k,(a:Int),(b:Int)) else none
def prI (l:List P3) (k:Int) (b a:Nat):List Wit:=(List.range a).filterMap (prG l k b)
def prO (l:List P3) (k:Int) (b:Nat):List Wit:=(List.range b).flatMap fun b=>prI l k b b
theorem prI_succ (l:List P3) (k:Int) (b a:Nat):prI l k b (a+1)=prI l k b a++(prG l k b a).toList:=by
  unfold prI;rw [List.range_succ,List.filterMap_append];simp only [List.filterMap_cons,List.filterMap_nil];cases prG l k b a<;>rfl
theorem prO_succ (l:List P3) (k:Int) (b:Nat):prO l k (b+1)=prO l k b++prI l k b b:=by
  unfold prO;rw [List.range_succ,List.flatMap_append];simp
theorem prI_len (l:List P3) (k:Int) (b a:Nat):(prI l k b a).length≤a:=by
  unfold prI;exact Nat.le_trans (List.length_filterMap_le _ _) (by simp)
theorem prO_len (l:List P3) (k:Int): ∀ b:Nat,b≤8192→(prO l k b).length≤b*8192
  | 0,_=>by simp [prO]
  | b+1,h=>by
    rw [prO_succ,List.length_append]
    have:=prO_len l k b (by omega)
    have:=prI_len l k b b
    omega
def loopP1 (l:List P3) (k:Int):Spec Nat where
  inv b:=b≤l.length
  live b:=[(6,.s (.int .i64 b)),(5,.s (.own 2 0 (prO l k b).length))]
  keep:=[1,2]
  heap b:=[(2,.row witE 159 (prO l k b))]
  keepH:=[0]
  mu b:=l.length - b
def loopP2 (l:List P3) (k:Int) (b:Nat):Spec Nat where
  inv a:=a≤b
  live a:=[(7,.s (.int .i64 a)),(5,.s (.own 2 0 (prO l k b++prI l k b a).length))]
  keep:=[1,2,6]
  heap a:=[(2,.row witE 159 (prO l k b++prI l k b a))]
  keepH:=[0]
  mu a:=b - a
theorem pairs9_vc (n:Int) (l:List P3) (k:Int) (hl:l.length≤8192):afunF ⟨tyL,[(156,twice9C),(126,has9C)],[]⟩ Tryz.f125 [soupE.av (n,l),(ETy.int .i64).av k] (fun v obs=>v= .s (.own 0 0 (prO l k l.length).length)∧obs=[.row witE 159 (prO l k l.length)]):=by
  repeat' (conv=>whnf
           first | done | refine qN (by first | rfl | omega | (simp only [i64ok] at *;omega)) ?_ | apply qH | refine qG fun _=> ?_ | apply qB | apply qa | apply qo | refine qe (fun _=> ?_) (fun _=> ?_) | refine qn (fun _=> ?_) (fun _=> ?_) | refine qd (fun _=> ?_) (fun _=> ?_) | apply qt | refine qi (fun _=> ?_) (fun _=> ?_) | (refine atReg 3 rfl ?_;refine Or.inr (Exists.intro (Nat) (Exists.intro (loopP1 l k) (And.intro (Exists.intro (0) (And.intro (Hold.out ?_) (And.intro ?_ (And.intro ?_ rfl)))) (fun b hb=> ?_))))) | ((with_reducible show (∃ y,And (Spec.inv (loopP1 _ _) y) _));refine Exists.intro (b+1) (And.intro (Hold.out ?_) (And.intro (And.intro ?_ (And.intro ?_ rfl)) (Hold.out ?_)))) | (refine atReg 6 rfl ?_;refine Or.inr (Exists.intro (Nat) (Exists.intro (loopP2 l k b) (And.intro (Exists.intro (0) (And.intro (Hold.out ?_) (And.intro ?_ (And.intro ?_ rfl)))) (fun a ha=> ?_))))) | ((with_reducible show (∃ y,And (Spec.inv (loopP2 _ _ _) y) _));refine Exists.intro (a+1) (And.intro (Hold.out ?_) (And.intro (And.intro ?_ (And.intro ?_ rfl)) (Hold.out ?_)))) | refine And.intro rfl ?_ | apply qE | apply qO | exact True.intro | apply qq | apply qs | refine qK (by kernel_rfl) ?_ | apply qr)
  all_goals try first | apply qz1 | apply qz2 | apply qz3 | apply qz4 | apply qz5 | apply qz6 | apply qz7 | apply qz8 | apply qz9 | apply qz0
  all_goals try simp only [take_one,take_one',set_one,take_all,qn1,rec_self,qn2,pair_eta,ETy.dflt,qn3,qn4,Int.reduceToNat,Int.reduceAdd,Int.reduceSub,Int.reduceNeg,Nat.reduceAdd,Nat.zero_add,loopP1,loopP2] at *
  all_goals try (refine qh ?_;omega)
  all_goals try
    (have h1:=prO_len l k b (by omega)
     have h2:=prI_len l k b a
     refine qh ?_;rw [List.length_append];omega)
  all_goals try (simp [prI];done)
  all_goals try (exfalso;omega)
  all_goals try
    (have hp:ptR k (l.getD a (0,0,0)) (l.getD b (0,0,0))=true:=by unfold ptR;simp only [*];simp
     rw [prI_succ,prG,if_pos hp];simp [Nat.add_assoc];done)
  all_goals try
    (have hp:ptR k (l.getD a (0,0,0)) (l.getD b (0,0,0))=false:=by unfold ptR;simp only [*];simp [*]
     rw [prI_succ,prG,if_neg (by rw [hp];decide)];simp;done)
  all_goals try
    (have hp:ptR k (l.getD a (0,0,0)) (l.getD b (0,0,0))=false:=by
       unfold ptR;rw [beq_false_of_ne (by assumption:k≠3),beq_false_of_ne (by assumption:k≠4)];rfl
     rw [prI_succ,prG,if_neg (by rw [hp];decide)];simp;done)
  all_goals try
    (have e:a=b:=by omega
     subst e;rw [prO_succ])
  all_goals
    have e:b=l.length:=by omega
    rw [e]
def pairs9C:List AV→Option ResF:=con2 soupE (.int .i64) (fun s k=>some (none,some (s.2.length≤8192),.s (.own 0 0 (prO s.2 k s.2.length).length),[.row witE 159 (prO s.2 k s.2.length)]))
theorem pairs9Row:FnRowF Tryz.prog 125 pairs9C:=⟨con2_okF fun s k r h=>by cases h;exact fn_byF (rulesF (fn:=[(156,twice9C),(126,has9C)]) (fr:=[]) ⟨twice9Row,has9Row,trivial⟩ trivial) Tryz.func125 (by kernel_rfl) fun _ h=>pairs9_vc s.1 s.2 k h,_,Tryz.func125,by kernel_rfl,by kernel_rfl⟩
def ringL (l:List P3) (v:Int):List P3:=l.filter (hasR · v)
def tch (v w:Int) (u:P3):Bool:=decide (w≠v)&&hasR u w
@[irreducible] def touch (m:List P3) (v:Int) (i k:Nat):Bool :=
  tch v (m.getD i (0,0,0)).1 (m.getD k (0,0,0))|| (tch v (m.getD i (0,0,0)).2.1 (m.getD k (0,0,0))|| tch v (m.getD i (0,0,0)).2.2 (m.getD k (0,0,0)))
def pk (m:List P3) (v:Int) (i:Nat) (s:List Bool) (k:Nat):List Bool:=if s.getD i false=false∨s.getD k false=true then s else if touch m v i k then s.set k true else s
def foldK (m:List P3) (v:Int) (i:Nat) (s:List Bool) (k:Nat):List Bool:=(List.range k).foldl (pk m v i) s
def foldI (m:List P3) (v:Int) (s:List Bool) (i:Nat):List Bool:=(List.range i).foldl (fun s i=>foldK m v i s m.length) s
def foldR (m:List P3) (v:Int) (r:Nat):List Bool:=(List.range r).foldl (fun s _=>foldI m v s m.length) ((List.replicate m.length false).set 0 true)
@[irreducible] def pinchR (l:List P3) (v:Int):Bool:= !(List.range (ringL l v).length).all fun j=>(foldR (ringL l v) v (ringL l v).length).getD j false
theorem foldK_succ (m:List P3) (v:Int) (i:Nat) (s:List Bool) (k:Nat):foldK m v i s (k+1)=pk m v i (foldK m v i s k) k:=by
  unfold foldK;rw [List.range_succ,List.foldl_append];rfl
theorem foldI_succ (m:List P3) (v:Int) (s:List Bool) (i:Nat):foldI m v s (i+1)=foldK m v i (foldI m v s i) m.length:=by
  unfold foldI;rw [List.range_succ,List.foldl_append];rfl
theorem foldR_succ (m:List P3) (v:Int) (r:Nat):foldR m v (r+1)=foldI m v (foldR m v r) m.length:=by
  unfold foldR;rw [List.range_succ,List.foldl_append];rfl
theorem ringL_take (l:List P3) (v:Int) {i:Nat} (h:(i:Int)<l.length):ringL (l.take (i+1)) v=ringL (l.take i) v++(if hasR (l.getD i (0,0,0)) v then [l.getD i (0,0,0)] else []):=by
  have h:i<l.length:=by omega
  unfold ringL
  rw [List.take_add_one,List.filter_append,gdE,gE h]
  simp only [Option.toList_some,Option.getD_some,List.filter_cons,List.filter_nil]
theorem ringL_len (l:List P3) (v:Int) (i:Nat):(ringL (l.take i) v).length≤l.length:=by
  unfold ringL
  exact Nat.le_trans (List.length_filter_le _ _) (by simp;omega)
theorem not_or_t {s:List Bool} {i k:Nat} (h1:s.getD i false=true) (h2:s.getD k false=false): ¬ (s.getD i false=false∨s.getD k false=true):=by
  rw [h1,h2];decide
theorem touch_t {m:List P3} {v:Int} {i k:Nat} (h:((m.getD i (0,0,0)).1≠v∧hasR (m.getD k (0,0,0)) (m.getD i (0,0,0)).1=true)∨((m.getD i (0,0,0)).2.1≠v∧hasR (m.getD k (0,0,0)) (m.getD i (0,0,0)).2.1=true)∨
    ((m.getD i (0,0,0)).2.2≠v∧hasR (m.getD k (0,0,0)) (m.getD i (0,0,0)).2.2=true)):touch m v i k=true:=by
  unfold touch tch
  simp only [Bool.or_eq_true,Bool.and_eq_true,decide_eq_true_eq];exact h
theorem touch_f {m:List P3} {v:Int} {i k:Nat} (h1:(m.getD i (0,0,0)).1=v∨hasR (m.getD k (0,0,0)) (m.getD i (0,0,0)).1=false) (h2:(m.getD i (0,0,0)).2.1=v∨hasR (m.getD k (0,0,0)) (m.getD i (0,0,0)).2.1=false)
    (h3:(m.getD i (0,0,0)).2.2=v∨hasR (m.getD k (0,0,0)) (m.getD i (0,0,0)).2.2=false): ¬ touch m v i k=true:=by
  have key: ∀ {w:Int} {u:P3},w=v∨hasR u w=false→¬ (w≠v∧hasR u w=true):=by
    rintro w u (h | h) ⟨a,b⟩
    · exact a h
    · rw [h] at b;cases b
  unfold touch tch
  simp only [Bool.or_eq_true,Bool.and_eq_true,decide_eq_true_eq]
  rintro (h | h | h)
  · exact key h1 h
  · exact key h2 h
  · exact key h3 h
def loopV1 (l:List P3) (v:Int):Spec Nat where
  inv i:=i≤l.length
  live i:=[(6,.s (.int .i64 i)),(5,.s (.own 1 0 (ringL (l.take i) v).length))]
  keep:=[1,2]
  heap i:=[(1,.row .arr3 61 (ringL (l.take i) v))]
  keepH:=[0]
  mu i:=l.length - i
def loopV2 (m:List P3) (v:Int):Spec Nat where
  inv r:=r≤m.length
  live r:=[(45,.s (.int .i64 r))]
  keep:=[1,5,7,44]
  heap r:=[(2,.row .bool 4 (foldR m v r))]
  keepH:=[1]
  mu r:=m.length - r
def loopV3 (m:List P3) (v:Int) (s:List Bool):Spec Nat where
  inv i:=i≤m.length
  live i:=[(8,.s (.int .i64 i))]
  keep:=[1,5,7,44,45]
  heap i:=[(2,.row .bool 4 (foldI m v s i))]
  keepH:=[1]
  mu i:=m.length - i
def loopV4 (m:List P3) (v:Int) (i:Nat) (s:List Bool):Spec Nat where
  inv k:=k≤m.length
  live k:=[(9,.s (.int .i64 k))]
  keep:=[1,5,7,8,44,45]
  heap k:=[(2,.row .bool 4 (foldK m v i s k))]
  keepH:=[1]
  mu k:=m.length - k
def loopV5 (n:Nat) (s:List Bool):Spec Nat where
  inv i:=i≤n∧∀ j,j<i→s.getD j false=true
  live i:=[(12,.s (.int .i64 i))]
  keep:=[1,5,7]
  heap _:=[]
  keepH:=[1,2]
  mu i:=n - i
theorem pinch9_vc (n:Int) (l:List P3) (v:Int) (hl:l.length≤8192):afun ⟨tyL,[(126,has9C)],[]⟩ Tryz.f127 [soupE.av (n,l),(ETy.int .i64).av v] (fun r=>r= .s (.bool (pinchR l v))):=by
  repeat' (conv=>whnf
           first | done | refine qN (by first | rfl | omega | (simp only [i64ok] at *;omega)) ?_ | apply qH | refine qG fun _=> ?_ | apply qB | apply qa | apply qo | refine qe (fun _=> ?_) (fun _=> ?_) | refine qn (fun _=> ?_) (fun _=> ?_) | refine qd (fun _=> ?_) (fun _=> ?_) | apply qt | refine qi (fun _=> ?_) (fun _=> ?_) | (refine atReg 3 rfl ?_;refine Or.inr (Exists.intro (Nat) (Exists.intro (loopV1 l v) (And.intro (Exists.intro (0) (And.intro (Hold.out ?_) (And.intro ?_ (And.intro ?_ rfl)))) (fun i hi=> ?_))))) | ((with_reducible show (∃ y,And (Spec.inv (loopV1 _ _) y) _));refine Exists.intro (i+1) (And.intro (Hold.out ?_) (And.intro (And.intro ?_ (And.intro ?_ rfl)) (Hold.out ?_)))) | (refine atReg 12 rfl ?_;refine Or.inr (Exists.intro (Nat) (Exists.intro (loopV2 (ringL (l.take i) v) v) (And.intro (Exists.intro (0) (And.intro (Hold.out ?_) (And.intro ?_ (And.intro ?_ rfl)))) (fun r hr=> ?_))))) | ((with_reducible show (∃ y,And (Spec.inv (loopV2 _ _) y) _));refine Exists.intro (r+1) (And.intro (Hold.out ?_) (And.intro (And.intro ?_ (And.intro ?_ rfl)) (Hold.out ?_)))) | (refine atReg 14 rfl ?_;refine Or.inr (Exists.intro (Nat) (Exists.intro (loopV3 (ringL (l.take i) v) v (foldR (ringL (l.take i) v) v r)) (And.intro (Exists.intro (0) (And.intro (Hold.out ?_) (And.intro ?_ (And.intro ?_ rfl)))) (fun x hx=> ?_))))) | ((with_reducible show (∃ y,And (Spec.inv (loopV3 _ _ _) y) _));refine Exists.intro (x+1) (And.intro (Hold.out ?_) (And.intro (And.intro ?_ (And.intro ?_ rfl)) (Hold.out ?_)))) | (refine atReg 17 rfl ?_;refine Or.inr (Exists.intro (Nat) (Exists.intro (loopV4 (ringL (l.take i) v) v x (foldI (ringL (l.take i) v) v (foldR (ringL (l.take i) v) v r) x)) (And.intro (Exists.intro (0) (And.intro (Hold.out ?_) (And.intro ?_ (And.intro ?_ rfl)))) (fun k hk=> ?_))))) | ((with_reducible show (∃ y,And (Spec.inv (loopV4 _ _ _ _) y) _));refine Exists.intro (k+1) (And.intro (Hold.out ?_) (And.intro (And.intro ?_ (And.intro ?_ rfl)) (Hold.out ?_)))) | (refine atReg 21 rfl ?_;refine Or.inl (Exists.intro (4) ?_)) | (refine atReg 28 rfl ?_;refine Or.inr (Exists.intro (Nat) (Exists.intro (loopV5 (ringL (l.take i) v).length (foldR (ringL (l.take i) v) v r)) (And.intro (Exists.intro (0) (And.intro (Hold.out ?_) (And.intro ?_ (And.intro ?_ rfl)))) (fun y hy=> ?_))))) | ((with_reducible show (∃ y,And (Spec.inv (loopV5 _ _) y) _));refine Exists.intro (y+1) (And.intro (Hold.out ?_) (And.intro (And.intro ?_ (And.intro ?_ rfl)) (Hold.out ?_)))) | refine And.intro rfl ?_ | apply qE | apply qO | exact True.intro | apply qq | apply qs | refine qK (by kernel_rfl) ?_ | apply qr)
  all_goals try first | apply qz1 | apply qz2 | apply qz3 | apply qz4 | apply qz5 | apply qz6 | apply qz7 | apply qz8 | apply qz9 | apply qz0
  all_goals try simp only [take_one,take_one',set_one,take_all,qn1,rec_self,qn2,pair_eta,ETy.dflt,qn3,qn4,Int.reduceToNat,Int.reduceAdd,Int.reduceSub,Int.reduceNeg,Nat.reduceAdd,Nat.zero_add,loopV1,loopV2,loopV3,loopV4,loopV5] at *
  all_goals try (refine qh ?_;omega)
  all_goals try rfl
  all_goals try
    (have h:=ringL_len l v i
     refine qh ?_;omega)
  all_goals try (rw [foldK_succ,pk,if_pos (Or.inl (by assumption))];done)
  all_goals try (rw [foldK_succ,pk,if_pos (Or.inr (by assumption))];done)
  all_goals try (rw [foldK_succ,pk,if_neg (not_or_t (by assumption) (by assumption)),if_pos (touch_t (by first | exact .inl ⟨by assumption,by assumption⟩ | exact .inr (.inl ⟨by assumption,by assumption⟩) | exact .inr (.inr ⟨by assumption,by assumption⟩)))];(try simp only [List.set_set]);done)
  all_goals try (rw [foldK_succ,pk,if_neg (not_or_t (by assumption) (by assumption)),if_neg (touch_f (by first | exact .inl (by assumption) | exact .inr (by assumption)) (by first | exact .inl (by assumption) | exact .inr (by assumption)) (by first | exact .inl (by assumption) | exact .inr (by assumption)))];done)
  all_goals try
    (have e:k=(ringL (l.take i) v).length:=by omega
     rw [foldI_succ,← e];done)
  all_goals try
    (have e:x=(ringL (l.take i) v).length:=by omega
     rw [foldR_succ,← e];done)
  · rw [ringL_take _ _ (by assumption),if_pos (by assumption)];simp
  · rw [ringL_take _ _ (by assumption),if_pos (by assumption)]
  · rw [ringL_take _ _ (by assumption),if_neg (by rw [‹hasR _ _=false›];decide)];simp
  · rw [ringL_take _ _ (by assumption),if_neg (by rw [‹hasR _ _=false›];decide)];simp
  · have e:l.take i=l:=List.take_of_length_le (by omega)
    rename_i h;rw [e] at h
    have h:(ringL l v).length=0:=by omega
    unfold pinchR;rw [h];rfl
  · exact qh ⟨Nat.zero_le _,fun j hj=>absurd hj (by omega)⟩
  · refine Hold.intro ⟨by omega,fun j hj=> ?_⟩
    by_cases e:j=y
    · subst e;assumption
    · exact hy.2 j (by omega)
  all_goals
    have e:l.take i=l:=List.take_of_length_le (by omega)
    have er:r=(ringL (l.take i) v).length:=by omega
    rw [er] at hy
    rw [e] at hy
  · rename_i h
    have hyl:y<(ringL l v).length:=by rw [← e];omega
    rw [er,e] at h
    unfold pinchR
    symm
    rw [Bool.not_eq_true',← Bool.not_eq_true,List.all_eq_true]
    intro hh
    rw [hh y (List.mem_range.2 hyl)] at h;cases h
  · rename_i h;rw [e] at h
    have hyl:(ringL l v).length≤y:=by omega
    unfold pinchR
    symm
    rw [Bool.not_eq_false',List.all_eq_true]
    intro j hj
    exact hy.2 j (by have:=List.mem_range.1 hj;omega)
def pinch9C:List AV→Option Res:=con2 soupE (.int .i64) (fun s v=>some (none,some (s.2.length≤8192),.s (.bool (pinchR s.2 v))))
theorem pinch9Row:FnRow Tryz.prog 127 pinch9C:=⟨con2_ok fun s v r h=>by cases h;exact fn_by (rulesF (fn:=[(126,has9C)]) (fr:=[]) ⟨has9Row,trivial⟩ trivial) Tryz.func127 (by kernel_rfl) fun _ h=>pinch9_vc s.1 s.2 v h,_,Tryz.func127,by kernel_rfl,by kernel_rfl⟩
end S9
open Go Go.Vm Go.Proofs
namespace S9
open S1
theorem any_step {l:List P3} {f:P3→Bool} {b z:Bool} {x:Nat} (hi:x≤l.length∧(b|| l.any f)=(z|| (l.drop x).any f)) (h:(x:Int)<l.length):x+1≤l.length∧(b|| l.any f)=(z|| f (l.getD x (0,0,0))|| (l.drop (x+1)).any f) :=
  ⟨by omega,by rw [hi.2,drop_now (0,0,0) h,List.any_cons,Bool.or_assoc]⟩
theorem any_end {l:List P3} {f:P3→Bool} {b z:Bool} {x:Nat} (hi:x≤l.length∧(b|| l.any f)=(z|| (l.drop x).any f)) (h: ¬ (x:Int)<l.length):(b|| l.any f)=z:=by
  rw [hi.2,drop_all h];simp
@[irreducible] def degR (t:P3):Bool:=t.1==t.2.1|| (t.2.1==t.2.2|| t.2.2==t.1)
def dgG (l:List P3) (i:Nat):Option Wit:=if degR (l.getD i (0,0,0)) then some (2,(i:Int),0) else none
def dgL (l:List P3) (i:Nat):List Wit:=(List.range i).filterMap (dgG l)
def loG (l:List P3) (v:Nat):Option Wit:=if l.any (hasR · v) then none else some (5,(v:Int),0)
def loL (l:List P3) (v:Nat):List Wit:=(List.range v).filterMap (loG l)
def piG (l:List P3) (v:Nat):Option Wit:=if pinchR l v then some (6,(v:Int),0) else none
def piL (l:List P3) (v:Nat):List Wit:=(List.range v).filterMap (piG l)
def allR (s:Int×List P3):List Wit :=
  if 0<(indexR s).length then indexR s else if 0<(dgL s.2 s.2.length).length then dgL s.2 s.2.length else if 0<(prO s.2 3 s.2.length).length then prO s.2 3 s.2.length else
  if 0<(prO s.2 4 s.2.length).length then prO s.2 4 s.2.length else if 0<(loL s.2 s.1.toNat).length then loL s.2 s.1.toNat else piL s.2 s.1.toNat
theorem fm_succ {α:Type _} (f:Nat→Option α) (i:Nat):(List.range (i+1)).filterMap f=(List.range i).filterMap f++(f i).toList:=by
  rw [List.range_succ,List.filterMap_append];simp only [List.filterMap_cons,List.filterMap_nil];cases f i<;>rfl
theorem fm_len {α:Type _} (f:Nat→Option α) (i:Nat):((List.range i).filterMap f).length≤i:=Nat.le_trans (List.length_filterMap_le _ _) (by simp)
theorem index_small {s:Int×List P3} (h: ¬ ((indexR s).length:Int)>0):bigR s=false∧indexR s=[]:=by
  have h:(indexR s).length=0:=by omega
  refine ⟨?_,List.eq_nil_of_length_eq_zero h⟩
  cases hb:bigR s with
  | false=>rfl
  | true=>unfold indexR at h;rw [hb] at h;simp at h
theorem big_spec {n:Int} {l:List P3} (h:bigR (n,l)=false):0≤n∧n≤4096∧l.length≤8192:=by
  simp only [bigR,Bool.or_eq_false_iff,decide_eq_false_iff_not] at h;omega
theorem deg_t {t:P3} (h:t.1=t.2.1∨t.2.1=t.2.2∨t.2.2=t.1):degR t=true:=by
  unfold degR;simp only [Bool.or_eq_true,beq_iff_eq];exact h
theorem deg_f {t:P3} (h1:t.1≠t.2.1) (h2:t.2.1≠t.2.2) (h3:t.2.2≠t.1):degR t=false:=by
  unfold degR;rw [beq_false_of_ne h1,beq_false_of_ne h2,beq_false_of_ne h3];rfl
theorem dg_t {l:List P3} {i:Nat} (h:degR (l.getD i (0,0,0))=true):dgL l (i+1)=dgL l i++[(2,(i:Int),0)]:=by
  unfold dgL;rw [fm_succ,dgG,if_pos h];rfl
theorem dg_f {l:List P3} {i:Nat} (h:degR (l.getD i (0,0,0))=false):dgL l (i+1)=dgL l i:=by
  unfold dgL;rw [fm_succ,dgG,if_neg (by rw [h];decide)];simp
theorem lo_t {l:List P3} {v:Nat} (h:(l.any (hasR · v))=true):loL l (v+1)=loL l v:=by
  unfold loL;rw [fm_succ,loG,if_pos h];simp
theorem lo_f {l:List P3} {v:Nat} (h:(l.any (hasR · v))=false):loL l (v+1)=loL l v++[(5,(v:Int),0)]:=by
  unfold loL;rw [fm_succ,loG,if_neg (by rw [h];decide)];rfl
theorem pi_t {l:List P3} {v:Nat} (h:pinchR l v=true):piL l (v+1)=piL l v++[(6,(v:Int),0)]:=by
  unfold piL;rw [fm_succ,piG,if_pos h];rfl
theorem pi_f {l:List P3} {v:Nat} (h:pinchR l v=false):piL l (v+1)=piL l v:=by
  unfold piL;rw [fm_succ,piG,if_neg (by rw [h];decide)];simp
section
variable {n:Int} {l:List P3}
theorem all_1 (h:((indexR (n,l)).length:Int)>0):allR (n,l)=indexR (n,l):=by
  unfold allR;rw [if_pos (by omega)]
theorem all_2 (h1: ¬ ((indexR (n,l)).length:Int)>0) {i:Nat} (hi:i=l.length) (h2:((dgL l i).length:Int)>0):allR (n,l)=dgL l i:=by
  subst hi;unfold allR;rw [if_neg (by omega),if_pos (by dsimp only;omega)]
theorem all_3 (h1: ¬ ((indexR (n,l)).length:Int)>0) {i:Nat} (hi:i=l.length) (h2: ¬ ((dgL l i).length:Int)>0) (h3:((prO l 3 l.length).length:Int)>0):allR (n,l)=prO l 3 l.length:=by
  subst hi;unfold allR;rw [if_neg (by omega),if_neg (by dsimp only;omega),if_pos (by dsimp only;omega)]
theorem all_4 (h1: ¬ ((indexR (n,l)).length:Int)>0) {i:Nat} (hi:i=l.length) (h2: ¬ ((dgL l i).length:Int)>0) (h3: ¬ ((prO l 3 l.length).length:Int)>0) (h4:((prO l 4 l.length).length:Int)>0):allR (n,l)=prO l 4 l.length:=by
  subst hi;unfold allR;rw [if_neg (by omega),if_neg (by dsimp only;omega),if_neg (by dsimp only;omega),if_pos (by dsimp only;omega)]
theorem all_5 (h1: ¬ ((indexR (n,l)).length:Int)>0) {i:Nat} (hi:i=l.length) (h2: ¬ ((dgL l i).length:Int)>0) (h3: ¬ ((prO l 3 l.length).length:Int)>0) (h4: ¬ ((prO l 4 l.length).length:Int)>0) {v:Nat} (hv:v=n.toNat) (h5:((loL l v).length:Int)>0):allR (n,l)=loL l v:=by
  subst hi;subst hv;unfold allR;rw [if_neg (by omega),if_neg (by dsimp only;omega),if_neg (by dsimp only;omega),if_neg (by dsimp only;omega),if_pos (by dsimp only;omega)]
theorem all_6 (h1: ¬ ((indexR (n,l)).length:Int)>0) {i:Nat} (hi:i=l.length) (h2: ¬ ((dgL l i).length:Int)>0) (h3: ¬ ((prO l 3 l.length).length:Int)>0) (h4: ¬ ((prO l 4 l.length).length:Int)>0) {v:Nat} (hv:v=n.toNat) (h5: ¬ ((loL l v).length:Int)>0) {y:Nat} (hy:y=n.toNat):allR (n,l)=piL l y:=by
  subst hi;subst hv;subst hy;unfold allR;rw [if_neg (by omega),if_neg (by dsimp only;omega),if_neg (by dsimp only;omega),if_neg (by dsimp only;omega),if_neg (by dsimp only;omega)]
end
def loopA1 (l:List P3):Spec Nat where
  inv i:=i≤l.length
  live i:=[(4,.s (.int .i64 i)),(3,.s (.own 2 0 (dgL l i).length))]
  keep:=[1]
  heap i:=[(2,.row witE 159 (dgL l i))]
  keepH:=[0]
  mu i:=l.length - i
def loopA2 (n:Int) (l:List P3):Spec Nat where
  inv v:=(v:Int)≤n
  live v:=[(6,.s (.int .i64 v)),(3,.s (.own 4 0 (loL l v).length))]
  keep:=[1]
  heap v:=[(4,.row witE 159 (loL l v))]
  keepH:=[0]
  mu v:=n.toNat - v
def loopA3 (l:List P3) (v:Nat):Spec (Nat×Bool) where
  inv x:=x.1≤l.length∧(false|| l.any (hasR · v))=(x.2|| (l.drop x.1).any (hasR · v))
  live x:=[(8,.s (.int .i64 x.1)),(7,.s (.bool x.2))]
  keep:=[1,3,6]
  heap _:=[]
  keepH:=[0,4]
  mu x:=l.length - x.1
def loopA4 (n:Int) (l:List P3):Spec Nat where
  inv v:=(v:Int)≤n
  live v:=[(9,.s (.int .i64 v)),(3,.s (.own 4 0 (piL l v).length))]
  keep:=[1]
  heap v:=[(4,.row witE 159 (piL l v))]
  keepH:=[0]
  mu v:=n.toNat - v
theorem all9_vc (n:Int) (l:List P3):afunF ⟨tyL,[(126,has9C),(127,pinch9C)],[(124,.res index9C),(125,.res pairs9C)]⟩ Tryz.f97 [soupE.av (n,l)] (fun v obs=>v= .s (.own 0 0 (allR (n,l)).length)∧obs=[.row witE 159 (allR (n,l))]):=by
  repeat' (conv=>whnf
           first | done | refine qN (by first | rfl | omega | (simp only [i64ok] at *;omega)) ?_ | apply qH | refine qG fun _=> ?_ | apply qB | apply qa | apply qo | refine qe (fun _=> ?_) (fun _=> ?_) | refine qn (fun _=> ?_) (fun _=> ?_) | refine qd (fun _=> ?_) (fun _=> ?_) | apply qt | refine qi (fun _=> ?_) (fun _=> ?_) | (refine atReg 5 rfl ?_;refine Or.inr (Exists.intro (Nat) (Exists.intro (loopA1 l) (And.intro (Exists.intro (0) (And.intro (Hold.out ?_) (And.intro ?_ (And.intro ?_ rfl)))) (fun i hi=> ?_))))) | ((with_reducible show (∃ y,And (Spec.inv (loopA1 _) y) _));refine Exists.intro (i+1) (And.intro (Hold.out ?_) (And.intro (And.intro ?_ (And.intro ?_ rfl)) (Hold.out ?_)))) | (refine atReg 19 rfl ?_;refine Or.inr (Exists.intro (Nat) (Exists.intro (loopA2 n l) (And.intro (Exists.intro (0) (And.intro (Hold.out ?_) (And.intro ?_ (And.intro ?_ rfl)))) (fun v hv=> ?_))))) | ((with_reducible show (∃ y,And (Spec.inv (loopA2 _ _) y) _));refine Exists.intro (v+1) (And.intro (Hold.out ?_) (And.intro (And.intro ?_ (And.intro ?_ rfl)) (Hold.out ?_)))) | (refine atReg 23 rfl ?_;refine Or.inr (Exists.intro (Nat×Bool) (Exists.intro (loopA3 l v) (And.intro (Exists.intro ((0,false)) (And.intro (Hold.out ?_) (And.intro ?_ (And.intro ?_ rfl)))) (fun x hx=> ?_))))) | ((with_reducible show (∃ y,And (Spec.inv (loopA3 _ _) y) _));refine Exists.intro ((x.1+1,x.2|| hasR (l.getD x.1 (0,0,0)) v)) (And.intro (Hold.out ?_) (And.intro (And.intro ?_ (And.intro ?_ rfl)) (Hold.out ?_)))) | (refine atReg 31 rfl ?_;refine Or.inr (Exists.intro (Nat) (Exists.intro (loopA4 n l) (And.intro (Exists.intro (0) (And.intro (Hold.out ?_) (And.intro ?_ (And.intro ?_ rfl)))) (fun y hy=> ?_))))) | ((with_reducible show (∃ y,And (Spec.inv (loopA4 _ _) y) _));refine Exists.intro (y+1) (And.intro (Hold.out ?_) (And.intro (And.intro ?_ (And.intro ?_ rfl)) (Hold.out ?_)))) | refine And.intro rfl ?_ | apply qE | apply qO | exact True.intro | apply qq | apply qs | refine qK (by kernel_rfl) ?_ | apply qr)
  all_goals try first | apply qz1 | apply qz2 | apply qz3 | apply qz4 | apply qz5 | apply qz6 | apply qz7 | apply qz8 | apply qz9 | apply qz0
  all_goals try simp only [take_one,take_one',set_one,take_all,qn1,rec_self,qn2,pair_eta,ETy.dflt,qn3,qn4,Int.reduceToNat,Int.reduceAdd,Int.reduceSub,Int.reduceNeg,Nat.reduceAdd,Nat.zero_add,loopA1,loopA2,loopA3,loopA4] at *
  all_goals try (refine qh ?_;omega)
  all_goals try
    (have hb:=big_spec (index_small (s:=(n,l)) (by assumption)).1
     refine qh ?_;first | omega | (simp only [i64ok];omega))
  all_goals try
    (have hb:=big_spec (index_small (s:=(n,l)) (by assumption)).1
     have h1:=fm_len (dgG l) i
     refine qh ?_;simp only [dgL,loL,piL];first | omega | (have h2:=fm_len (loG l) v;first | omega | (have h3:=fm_len (piG l) y;omega)))
  all_goals try first
    | rw [all_1 (by assumption)]
    | rw [all_2 (i:=i) (by assumption) (by omega) (by assumption)]
    | rw [all_3 (i:=i) (by assumption) (by omega) (by assumption) (by assumption)]
    | rw [all_4 (i:=i) (by assumption) (by omega) (by assumption) (by assumption) (by assumption)]
    | rw [all_5 (i:=i) (v:=v) (by assumption) (by omega) (by assumption) (by assumption) (by assumption) (by omega) (by assumption)]
    | rw [all_6 (i:=i) (v:=v) (y:=y) (by assumption) (by omega) (by assumption) (by assumption) (by assumption) (by omega) (by assumption) (by omega)]
  all_goals try
    (have hd:degR (l.getD i (0,0,0))=true:=deg_t (by omega)
     rw [dg_t hd];(try simp only [List.length_append,List.length_singleton]);done)
  all_goals try
    (have hd:degR (l.getD i (0,0,0))=false:=deg_f (by omega) (by omega) (by omega)
     rw [dg_f hd];done)
  all_goals try (rw [(index_small (s:=(n,l)) (by assumption)).2];rfl)
  all_goals try (rw [List.eq_nil_of_length_eq_zero (l:=prO l 4 l.length) (by omega)];rfl)
  all_goals try (rw [List.eq_nil_of_length_eq_zero (l:=loL l v) (by omega)];rfl)
  all_goals try first
    | exact qh ⟨Nat.zero_le _,rfl⟩
    | exact qh (any_step hx (by assumption))
    | (simp only [*];done)
    | (simp only [*];simp;done)
  all_goals try (rw [pi_f (by assumption)];done)
  all_goals try (rw [pi_t (by assumption)];(try simp only [List.length_append,List.length_singleton]);done)
  all_goals
    have hu:=any_end hx (by assumption)
    rw [Bool.false_or] at hu
  all_goals first
    | (rw [lo_t (hu.trans (by assumption))];done)
    | (rw [lo_f (hu.trans (by assumption))];(try simp only [List.length_append,List.length_singleton]);done)
def all9C:List AV→Option ResF:=con1 soupE (fun s=>some (none,none,.s (.own 0 0 (allR s).length),[.row witE 159 (allR s)]))
theorem all9Row:FnRowF Tryz.prog 97 all9C:=⟨con1_okF fun s r h=>by cases h;exact fn_byF (rulesF (fn:=[(126,has9C),(127,pinch9C)]) (fr:=[(124,.res index9C),(125,.res pairs9C)]) ⟨has9Row,pinch9Row,trivial⟩ ⟨index9Row,pairs9Row,trivial⟩) Tryz.func97 (by kernel_rfl) fun _ _=>all9_vc s.1 s.2,_,Tryz.func97,by kernel_rfl,by kernel_rfl⟩
def surfR (s:Int×List P3):Bool:=(allR s).length==0
theorem surf9_vc (s:Int×List P3):afun ⟨tyL,[],[(97,.res all9C)]⟩ Tryz.f75 [soupE.av s] (fun v=>v= .s (.bool (surfR s))):=by
  repeat' (conv=>whnf
           first | done | refine qN (by first | rfl | omega | (simp only [i64ok] at *;omega)) ?_ | apply qH | refine qG fun _=> ?_ | apply qB | apply qa | apply qo | refine qe (fun _=> ?_) (fun _=> ?_) | refine qn (fun _=> ?_) (fun _=> ?_) | refine qd (fun _=> ?_) (fun _=> ?_) | apply qt | refine qi (fun _=> ?_) (fun _=> ?_) | refine And.intro rfl ?_ | apply qE | apply qO | exact True.intro | apply qq | apply qs | refine qK (by kernel_rfl) ?_ | apply qr)
  all_goals try first | apply qz1 | apply qz2 | apply qz3 | apply qz4 | apply qz5 | apply qz6 | apply qz7 | apply qz8 | apply qz9 | apply qz0
  all_goals try simp only [take_one,take_one',set_one,take_all,qn1,rec_self,qn2,pair_eta,ETy.dflt,qn3,qn4,Int.reduceToNat,Int.reduceAdd,Int.reduceSub,Int.reduceNeg,Nat.reduceAdd,Nat.zero_add,surfR] at *
  rw [Bool.eq_iff_iff,beq_iff_eq,beq_iff_eq];omega
def surf9C:List AV→Option Res:=con1 soupE (fun s=>some (none,none,.s (.bool (surfR s))))
theorem surf9Row:FnRow Tryz.prog 75 surf9C:=⟨con1_ok fun s r h=>by cases h;exact fn_by (rulesF (fn:=[]) (fr:=[(97,.res all9C)]) trivial ⟨all9Row,trivial⟩) Tryz.func75 (by kernel_rfl) fun _ _=>surf9_vc s,_,Tryz.func75,by kernel_rfl,by kernel_rfl⟩
end S9
open Go Go.Vm Go.Proofs
namespace S9
open S1
theorem hasR_iff {t:P3} {v:Int} :hasR t v=true↔hasV t v:=by
  unfold hasR hasV
  simp only [Bool.or_eq_true,beq_iff_eq]
theorem edgeR_iff {t:P3} {a b:Int} :edgeR t a b=true↔dE t a b:=by
  unfold edgeR dE
  simp only [Bool.or_eq_true,Bool.and_eq_true,beq_iff_eq]
theorem twiceR_iff {t u:P3} :twiceR t u=true↔∃ a b,dE t a b∧dE u a b:=by
  unfold twiceR
  simp only [Bool.or_eq_true,edgeR_iff]
  constructor
  · rintro (h | h | h)
    · exact ⟨_,_,.inl ⟨rfl,rfl⟩,h⟩
    · exact ⟨_,_,.inr (.inl ⟨rfl,rfl⟩),h⟩
    · exact ⟨_,_,.inr (.inr ⟨rfl,rfl⟩),h⟩
  · rintro ⟨a,b,(⟨rfl,rfl⟩ | ⟨rfl,rfl⟩ | ⟨rfl,rfl⟩),h⟩
    · exact .inl h
    · exact .inr (.inl h)
    · exact .inr (.inr h)
theorem idxL_nil {n:Int} : ∀ {l:List P3} {i:Nat},idxL n i l=[]↔∀ t∈l,triIn n t=true
  | [],_=>⟨fun _ t h=>(by cases h),fun _=>rfl⟩
  | t ::r,i=>by
    unfold idxL
    split
    · rename_i h
      rw [idxL_nil]
      exact ⟨fun k u hu=>by
        rcases List.mem_cons.1 hu with e | hu
        · rw [e];exact h
        · exact k u hu,fun k u hu=>k u (List.mem_cons_of_mem _ hu)⟩
    · rename_i h
      exact ⟨fun k=>(by cases k),fun k=>absurd (k t (List.mem_cons_self ..)) h⟩
theorem all_getD {l:List P3} {p:P3→Prop} :(∀ t∈l,p t)↔∀ i,i<l.length→p (tg l i):=by
  constructor
  · intro h i hi
    unfold tg
    rw [gdE,gE hi]
    exact h _ (List.getElem_mem hi)
  · intro h t ht
    obtain ⟨i,hi,e⟩:=List.mem_iff_getElem.1 ht
    have:=h i hi
    unfold tg at this
    rw [gdE,gE hi] at this
    rw [← e];exact this
theorem idx9_iff {s:Int×List P3} :indexR s=[]↔fitS s:=by
  obtain ⟨n,l⟩:=s
  unfold indexR
  constructor
  · intro h
    cases hb:bigR (n,l) with
    | true=>rw [hb] at h;cases h
    | false =>
      rw [hb] at h
      have h:idxL n 0 l=[]:=h
      have:=big_spec hb
      exact ⟨this.1,this.2.1,this.2.2,all_getD.1 (idxL_nil.1 h)⟩
  · intro h
    have h1:0≤n:=h.1
    have h2:n≤4096:=h.2.1
    have h3:l.length≤8192:=h.2.2.1
    have hb:bigR (n,l)=false:=by
      unfold bigR
      simp only [Bool.or_eq_false_iff,decide_eq_false_iff_not]
      omega
    rw [hb]
    exact idxL_nil.2 (all_getD.2 h.2.2.2)
theorem dg9_iff {l:List P3} :dgL l l.length=[]↔∀ i,i<l.length→¬ dgn (tg l i):=by
  unfold dgL
  rw [List.filterMap_eq_nil_iff]
  constructor
  · intro h i hi e
    have:=h i (List.mem_range.2 hi)
    unfold dgG at this
    rw [if_pos (deg_t e)] at this
    cases this
  · intro h i hi
    have h:=h i (List.mem_range.1 hi)
    unfold dgn at h
    unfold dgG
    rw [if_neg ?_]
    rw [deg_f (fun e=>h (.inl e)) (fun e=>h (.inr (.inl e))) (fun e=>h (.inr (.inr e)))]
    simp
theorem prO_iff {l:List P3} {k:Int} :prO l k l.length=[]↔∀ i j,i<j→j<l.length→ptR k (tg l i) (tg l j)=false:=by
  unfold prO prI
  rw [List.flatMap_eq_nil_iff]
  constructor
  · intro h i j hij hj
    have:=List.filterMap_eq_nil_iff.1 (h j (List.mem_range.2 hj)) i (List.mem_range.2 hij)
    unfold prG at this
    split at this
    · cases this
    · rename_i e;rw [← Bool.not_eq_true];exact e
  · intro h j hj
    refine List.filterMap_eq_nil_iff.2 fun i hi=> ?_
    unfold prG
    rw [if_neg (by rw [h i j (List.mem_range.1 hi) (List.mem_range.1 hj)];simp)]
theorem pt3 {t u:P3} :ptR 3 t u=twiceR t u:=by unfold ptR;simp
theorem pt4 {t u:P3} :ptR 4 t u=(hasR u t.1&&(hasR u t.2.1&&hasR u t.2.2)):=by unfold ptR;simp
theorem lo9_iff {l:List P3} {n:Nat} :loL l n=[]↔∀ v:Nat,v<n→∃ j,j<l.length∧hasV (tg l j) v:=by
  unfold loL
  rw [List.filterMap_eq_nil_iff]
  have key: ∀ v:Nat,l.any (hasR · v)=true↔∃ j,j<l.length∧hasV (tg l j) v:=fun v=>by
    rw [List.any_eq_true]
    constructor
    · rintro ⟨t,ht,hv⟩
      obtain ⟨i,hi,e⟩:=List.mem_iff_getElem.1 ht
      refine ⟨i,hi,?_⟩
      unfold tg
      rw [gdE,gE hi]
      exact hasR_iff.1 (by rw [← e] at hv;exact hv)
    · rintro ⟨j,hj,h⟩
      unfold tg at h
      rw [gdE,gE hj] at h
      exact ⟨_,List.getElem_mem hj,hasR_iff.2 h⟩
  constructor
  · intro h v hv
    have:=h v (List.mem_range.2 hv)
    unfold loG at this
    split at this
    · rename_i e;exact (key v).1 e
    · cases this
  · intro h v hv
    unfold loG
    rw [if_pos ((key v).2 (h v (List.mem_range.1 hv)))]
theorem touch_iff {m:List P3} {v:Int} {i k:Nat} :touch m v i k=true↔∃ w,w≠v∧hasV (tg m i) w∧hasV (tg m k) w:=by
  unfold touch tch
  simp only [Bool.or_eq_true,Bool.and_eq_true,decide_eq_true_eq,hasR_iff]
  constructor
  · rintro (⟨h1,h2⟩ | ⟨h1,h2⟩ | ⟨h1,h2⟩)
    · exact ⟨_,h1,.inl rfl,h2⟩
    · exact ⟨_,h1,.inr (.inl rfl),h2⟩
    · exact ⟨_,h1,.inr (.inr rfl),h2⟩
  · rintro ⟨w,h1,(h2 | h2 | h2),h3⟩
    · subst h2;exact .inl ⟨h1,h3⟩
    · subst h2;exact .inr (.inl ⟨h1,h3⟩)
    · subst h2;exact .inr (.inr ⟨h1,h3⟩)
section
variable {m:List P3} {v:Int}
theorem set_getD {s:List Bool} {k j:Nat} :(s.set k true).getD j false=if k=j∧j<s.length then true else s.getD j false:=by
  rw [gdE,List.getElem?_set,gdE]
  by_cases e:k=j
  · subst e
    by_cases h:k<s.length
    · simp [h]
    · simp [h]
  · simp [e]
theorem pk_len {i k:Nat} {s:List Bool} :(pk m v i s k).length=s.length:=by
  unfold pk;split
  · rfl
  · split
    · rw [List.length_set]
    · rfl
theorem pk_keep {i k j:Nat} {s:List Bool} (h:s.getD j false=true):(pk m v i s k).getD j false=true:=by
  unfold pk;split
  · exact h
  · split
    · rw [set_getD];split
      · rfl
      · exact h
    · exact h
theorem foldK_len {i:Nat} {s:List Bool} : ∀ k,(foldK m v i s k).length=s.length
  | 0=>rfl
  | k+1=>by rw [foldK_succ,pk_len,foldK_len k]
theorem foldI_len {s:List Bool} : ∀ i,(foldI m v s i).length=s.length
  | 0=>rfl
  | i+1=>by rw [foldI_succ,foldK_len,foldI_len i]
theorem foldR_len: ∀ r,(foldR m v r).length=m.length
  | 0=>by show ((List.replicate m.length false).set 0 true).length=_;simp
  | r+1=>by rw [foldR_succ,foldI_len,foldR_len r]
theorem foldK_keep {i j:Nat} {s:List Bool} (h:s.getD j false=true): ∀ k,(foldK m v i s k).getD j false=true
  | 0=>h
  | k+1=>by rw [foldK_succ];exact pk_keep (foldK_keep h k)
theorem foldI_keep {j:Nat} {s:List Bool} (h:s.getD j false=true): ∀ i,(foldI m v s i).getD j false=true
  | 0=>h
  | i+1=>by rw [foldI_succ];exact foldK_keep (foldI_keep h i) _
theorem foldK_put {i k:Nat} {s:List Bool} (hi:s.getD i false=true) (ht:touch m v i k=true) (hk:k<s.length): ∀ n,k<n→(foldK m v i s n).getD k false=true
  | n + 1,h=>by
    rw [foldK_succ]
    by_cases e:k=n
    · subst e
      have h1:=foldK_keep (m:=m) (v:=v) (i:=i) hi k
      cases h2:(foldK m v i s k).getD k false with
      | true=>exact pk_keep h2
      | false =>
        unfold pk
        rw [if_neg (not_or_t h1 h2),if_pos ht,set_getD,if_pos ⟨rfl,by rw [foldK_len];exact hk⟩]
    · exact pk_keep (foldK_put hi ht hk n (by omega))
theorem foldI_put {i k:Nat} {s:List Bool} (hi:s.getD i false=true) (ht:touch m v i k=true) (hk:k<s.length) (hm:k<m.length): ∀ n,i<n→(foldI m v s n).getD k false=true
  | n +1,h=>by
    rw [foldI_succ]
    by_cases e:i=n
    · subst e
      exact foldK_put (foldI_keep hi i) ht (by rw [foldI_len];exact hk) _ hm
    · exact foldK_keep (foldI_put hi ht hk hm n (by omega)) _
def Clo (m:List P3) (v:Int) (s:List Bool):Prop:= ∀ i k,i<m.length→k<m.length→s.getD i false=true→touch m v i k=true→s.getD k false=true
def unset (m:List P3) (s:List Bool):Nat:=((List.range m.length).filter fun j=> !s.getD j false).length
theorem pk_clo {i k:Nat} {s:List Bool} (h:Clo m v s) (hi:i<m.length) (hk:k<m.length):pk m v i s k=s:=by
  unfold pk
  split
  · rfl
  · rename_i hn
    split
    · rename_i ht
      have h1:s.getD i false=true:=by cases e:s.getD i false with | true=>rfl | false=>exact absurd (.inl e) hn
      exact absurd (.inr (h i k hi hk h1 ht)) hn
    · rfl
theorem foldK_clo {i:Nat} {s:List Bool} (h:Clo m v s) (hi:i<m.length): ∀ k,k≤m.length→foldK m v i s k=s
  | 0,_=>rfl
  | k+1,hk=>by rw [foldK_succ,foldK_clo h hi k (by omega),pk_clo h hi (by omega)]
theorem foldI_clo {s:List Bool} (h:Clo m v s): ∀ i,i≤m.length→foldI m v s i=s
  | 0,_=>rfl
  | i+1,hi=>by rw [foldI_succ,foldI_clo h i (by omega),foldK_clo h (by omega) _ (Nat.le_refl _)]
theorem round_dec {s:List Bool} (hl:s.length=m.length):Clo m v s∨unset m (foldI m v s m.length)+1≤unset m s:=by
  by_cases h:Clo m v s
  · exact .inl h
  · right
    unfold Clo at h
    have: ∃ i k,i<m.length∧k<m.length∧s.getD i false=true∧touch m v i k=true∧s.getD k false=false:=by
      refine Classical.byContradiction fun hn=>h fun i k hi hk h1 h2=> ?_
      cases e:s.getD k false with
      | true=>rfl
      | false=>exact absurd ⟨i,k,hi,hk,h1,h2,e⟩ hn
    obtain ⟨i,k,hi,hk,h1,h2,h3⟩:=this
    unfold unset
    refine filt_lt (a:=k) (fun j hj=> ?_) (by rw [h3];rfl) (by rw [foldI_put h1 h2 (by rw [hl];exact hk) hk _ hi];simp) (List.mem_range.2 hk)
    cases e:s.getD j false with
    | false=>rfl
    | true=>rw [foldI_keep e] at hj;exact absurd hj (by simp)
theorem rounds_clo (hm:0<m.length): ∀ r,Clo m v (foldR m v r)∨unset m (foldR m v r)+r+1≤m.length
  | 0=>by
    right
    have h0:((List.replicate m.length false).set 0 true).getD 0 false=true:=by rw [set_getD,if_pos ⟨rfl,by simpa using hm⟩]
    have:=filt_lt (p:=fun _:Nat=>true) (q:=fun j=> !((List.replicate m.length false).set 0 true).getD j false) (fun _ _=>rfl) (a:=0) rfl (by rw [h0];simp) (l:=List.range m.length) (List.mem_range.2 hm)
    have e:((List.range m.length).filter fun _:Nat=>true).length=m.length:=by rw [List.filter_eq_self.2 (fun _ _=>rfl),List.length_range]
    show ((List.range m.length).filter fun j=> !((List.replicate m.length false).set 0 true).getD j false).length+0+1≤_
    rw [e] at this;omega
  | r +1=>by
    rcases rounds_clo hm r with h | h
    · left;rw [foldR_succ,foldI_clo h _ (Nat.le_refl _)];exact h
    · rcases round_dec (m:=m) (v:=v) (foldR_len (m:=m) (v:=v) r) with h' | h'
      · left;rw [foldR_succ,foldI_clo h' _ (Nat.le_refl _)];exact h'
      · right;rw [foldR_succ];omega
theorem foldR_all (hm:0<m.length):Clo m v (foldR m v m.length):=by
  rcases rounds_clo (v:=v) hm m.length with h | h
  · exact h
  · omega
theorem foldR_zero (hm:0<m.length): ∀ r,(foldR m v r).getD 0 false=true
  | 0=>by
    show ((List.replicate m.length false).set 0 true).getD 0 false=true
    rw [set_getD,if_pos ⟨rfl,by simpa using hm⟩]
  | r+1=>by rw [foldR_succ];exact foldI_keep (foldR_zero hm r) _
theorem pk_in {Q:Nat→Prop} (hc: ∀ i k,k<m.length→Q i→touch m v i k=true→Q k) {i k:Nat} {s:List Bool} (hl:s.length=m.length) (h: ∀ j,s.getD j false=true→Q j): ∀ j,(pk m v i s k).getD j false=true→Q j:=by
  unfold pk
  split
  · exact h
  · rename_i hn
    split
    · rename_i ht
      intro j hj
      rw [set_getD] at hj
      split at hj
      · rename_i e
        obtain ⟨rfl,e2⟩:=e
        refine hc i _ (by rw [← hl];exact e2) (h i ?_) ht
        cases e:s.getD i false with | true=>rfl | false=>exact absurd (.inl e) hn
      · exact h j hj
    · exact h
theorem foldK_in {Q:Nat→Prop} (hc: ∀ i k,k<m.length→Q i→touch m v i k=true→Q k) {i:Nat} {s:List Bool} (hl:s.length=m.length) (h: ∀ j,s.getD j false=true→Q j): ∀ k j,(foldK m v i s k).getD j false=true→Q j
  | 0=>h
  | k+1=>by rw [foldK_succ];exact pk_in hc (by rw [foldK_len];exact hl) (foldK_in hc hl h k)
theorem foldI_in {Q:Nat→Prop} (hc: ∀ i k,k<m.length→Q i→touch m v i k=true→Q k) {s:List Bool} (hl:s.length=m.length) (h: ∀ j,s.getD j false=true→Q j): ∀ i j,(foldI m v s i).getD j false=true→Q j
  | 0=>h
  | i+1=>by rw [foldI_succ];exact foldK_in hc (by rw [foldI_len];exact hl) (foldI_in hc hl h i) _
theorem foldR_in {Q:Nat→Prop} (hc: ∀ i k,k<m.length→Q i→touch m v i k=true→Q k) (h:Q 0): ∀ r j,(foldR m v r).getD j false=true→Q j
  | 0 =>fun j hj=>by
    have hj:((List.replicate m.length false).set 0 true).getD j false=true:=hj
    rw [set_getD] at hj
    split at hj
    · rename_i e;rw [← e.1];exact h
    · rw [gdE,List.getElem?_replicate] at hj
      split at hj<;>cases hj
  | r+1=>by rw [foldR_succ];exact foldI_in hc (foldR_len r) (foldR_in hc h r) _
end
theorem ring_mem {l:List P3} {v:Int} {t:P3} :t∈ringL l v↔∃ i,i<l.length∧tg l i=t∧hasV t v:=by
  unfold ringL
  rw [List.mem_filter,hasR_iff]
  constructor
  · rintro ⟨ht,hv⟩
    obtain ⟨i,hi,e⟩:=List.mem_iff_getElem.1 ht
    exact ⟨i,hi,by unfold tg;rw [gdE,gE hi];exact e,hv⟩
  · rintro ⟨i,hi,e,hv⟩
    unfold tg at e
    rw [gdE,gE hi] at e
    have e:l[i]=t:=e
    exact ⟨by rw [← e];exact List.getElem_mem hi,hv⟩
theorem tg_mem {m:List P3} {j:Nat} (h:j<m.length):tg m j∈m:=by
  unfold tg;rw [gdE,gE h];exact List.getElem_mem h
theorem mem_tg {m:List P3} {t:P3} (h:t∈m): ∃ j,j<m.length∧tg m j=t:=by
  obtain ⟨i,hi,e⟩:=List.mem_iff_getElem.1 h
  exact ⟨i,hi,by unfold tg;rw [gdE,gE hi];exact e⟩
theorem other {t:P3} {v:Int} (hd: ¬ dgn t): ∃ w,w≠v∧hasV t w:=by
  unfold dgn at hd
  by_cases h:t.1=v
  · exact ⟨t.2.1,by omega,.inr (.inl rfl)⟩
  · exact ⟨t.1,h,.inl rfl⟩
theorem pinch_iff {l:List P3} {v:Int} (hd: ∀ i,i<l.length→¬ dgn (tg l i)):pinchR l v=false↔PinP l v:=by
  unfold pinchR
  rw [Bool.not_eq_false',List.all_eq_true]
  constructor
  · intro h Q hQ a ha hva hQa i hi hvi
    have hpos:0<(ringL l v).length:=List.length_pos_of_mem (ring_mem.2 ⟨a,ha,rfl,hva⟩)
    have key: ∀ R:Nat→Prop,(∀ i j:Nat,i<l.length→j<l.length→hasV (tg l i) v→hasV (tg l j) v→(∃ w:Int,w≠v∧hasV (tg l i) w∧hasV (tg l j) w)→R i→R j)→
        (∃ z,z<l.length∧tg l z=tg (ringL l v) 0∧hasV (tg l z) v∧R z)→∀ i,i<l.length→hasV (tg l i) v→R i:=fun R hR ⟨z,hz,ez,hzv,hRz⟩ i hi hvi=>by
      have hin:=foldR_in (m:=ringL l v) (v:=v) (Q:=fun j=>j<(ringL l v).length∧∀ i,i<l.length→tg l i=tg (ringL l v) j→hasV (tg l i) v→R i) (fun j k hk hj ht=>⟨hk,fun i hi ei hvi=>by
        obtain ⟨w,hw,h1,h2⟩:=touch_iff.1 ht
        obtain ⟨i',hi',ei',hvi'⟩:=ring_mem.1 (tg_mem hj.1)
        exact hR i' i hi' hi (by rw [ei'];exact hvi') hvi ⟨w,hw,by rw [ei'];exact h1,by rw [ei];exact h2⟩ (hj.2 i' hi' ei' (by rw [ei'];exact hvi'))⟩)
        ⟨hpos,fun i hi ei hvi=>by
          obtain ⟨w,hw,h1⟩:=other (v:=v) (hd z hz)
          exact hR z i hz hi hzv hvi ⟨w,hw,h1,by rw [ei,← ez];exact h1⟩ hRz⟩ (ringL l v).length
      obtain ⟨j,hj,ej⟩:=mem_tg (ring_mem.2 ⟨i,hi,rfl,hvi⟩)
      exact (hin j (h j (List.mem_range.2 hj))).2 i hi ej.symm hvi
    obtain ⟨z,hz,ez,hzv⟩:=ring_mem.1 (tg_mem hpos)
    by_cases hq:Q z
    · exact key Q hQ ⟨z,hz,ez,by rw [ez];exact hzv,hq⟩ i hi hvi
    · exact absurd hQa (key (fun i=> ¬ Q i) (fun i j hi hj h1 h2 ⟨w,h3,h4,h5⟩ hn hq=>hn (hQ j i hj hi h2 h1 ⟨w,h3,h5,h4⟩ hq)) ⟨z,hz,ez,by rw [ez];exact hzv,hq⟩ a ha hva)
  · intro h j hj
    have hj:=List.mem_range.1 hj
    have hpos:0<(ringL l v).length:=by omega
    have hc:=foldR_all (m:=ringL l v) (v:=v) hpos
    have hz:=foldR_zero (m:=ringL l v) (v:=v) hpos (ringL l v).length
    obtain ⟨z,hz1,hz2,hz3⟩:=ring_mem.1 (tg_mem hpos)
    obtain ⟨i,hi1,hi2,hi3⟩:=ring_mem.1 (tg_mem hj)
    have:=h (fun i=> ∃ j,j<(ringL l v).length∧tg (ringL l v) j=tg l i∧(foldR (ringL l v) v (ringL l v).length).getD j false=true) (fun a b ha hb hva hvb ⟨w,hw,h1,h2⟩ ⟨j,hj,e,hs⟩=>by
      obtain ⟨k,hk,ek⟩:=mem_tg (ring_mem.2 ⟨b,hb,rfl,hvb⟩)
      exact ⟨k,hk,ek,hc j k hj hk hs (touch_iff.2 ⟨w,hw,by rw [e];exact h1,by rw [ek];exact h2⟩)⟩) z hz1 (by rw [hz2];exact hz3) ⟨0,hpos,hz2.symm,hz⟩ i hi1 (by rw [hi2];exact hi3)
    obtain ⟨k,hk,ek,hs⟩:=this
    obtain ⟨w,hw,h1⟩:=other (v:=v) (hd i hi1)
    exact hc k j hk hj hs (touch_iff.2 ⟨w,hw,by rw [ek];exact h1,by rw [← hi2];exact h1⟩)
theorem pi9_iff {l:List P3} {n:Nat} (hd: ∀ i,i<l.length→¬ dgn (tg l i)):piL l n=[]↔∀ v:Nat,v<n→PinP l v:=by
  unfold piL
  rw [List.filterMap_eq_nil_iff]
  constructor
  · intro h v hv
    have:=h v (List.mem_range.2 hv)
    unfold piG at this
    split at this
    · cases this
    · rename_i e
      exact (pinch_iff hd).1 (by rw [← Bool.not_eq_true];exact e)
  · intro h v hv
    unfold piG
    rw [if_neg (by rw [(pinch_iff hd).2 (h v (List.mem_range.1 hv))];simp)]
theorem all9_iff (s:Int×List P3):allR s=[]↔(indexR s=[]∧dgL s.2 s.2.length=[]∧prO s.2 3 s.2.length=[]∧prO s.2 4 s.2.length=[]∧loL s.2 s.1.toNat=[]∧piL s.2 s.1.toNat=[]):=by
  unfold allR
  constructor
  · intro h
    repeat' split at h
    all_goals first
      | (rename_i hh;rw [h] at hh;exact absurd hh (by decide))
      | skip
    rename_i h1 h2 h3 h4 h5
    exact ⟨List.length_eq_zero_iff.1 (by omega),List.length_eq_zero_iff.1 (by omega),List.length_eq_zero_iff.1 (by omega),List.length_eq_zero_iff.1 (by omega),List.length_eq_zero_iff.1 (by omega),h⟩
  · rintro ⟨h1,h2,h3,h4,h5,h6⟩
    simp [h1,h2,h3,h4,h5,h6]
theorem surf9_iff (s:Int×List P3):surfR s=true↔Surf s:=by
  unfold surfR
  rw [beq_iff_eq,List.length_eq_zero_iff,all9_iff,idx9_iff,dg9_iff,prO_iff,prO_iff,lo9_iff]
  constructor
  · rintro ⟨hf,hd,h3,h4,hu,hp⟩
    have h0:0≤s.1:=hf.1
    refine ⟨hf,hd,fun i j hij hj a b h1 h2=> ?_,fun i j hij hj h=> ?_,fun v hv=>hu v (by omega),fun v hv=>(pi9_iff hd).1 hp v (by omega)⟩
    · have:=h3 i j hij hj
      rw [pt3] at this
      rw [twiceR_iff.2 ⟨a,b,h1,h2⟩] at this;cases this
    · have:=h4 i j hij hj
      rw [pt4,hasR_iff.2 h.1,hasR_iff.2 h.2.1,hasR_iff.2 h.2.2] at this;cases this
  · intro h
    have h0:0≤s.1:=h.fit.1
    refine ⟨h.fit,h.deg,fun i j hij hj=> ?_,fun i j hij hj=> ?_,fun v hv=>h.use v (by omega),(pi9_iff h.deg).2 fun v hv=>h.pin v (by omega)⟩
    · rw [pt3,← Bool.not_eq_true]
      intro e
      obtain ⟨a,b,h1,h2⟩:=twiceR_iff.1 e
      exact h.dif i j hij hj a b h1 h2
    · rw [pt4,← Bool.not_eq_true]
      intro e
      simp only [Bool.and_eq_true,hasR_iff] at e
      exact h.mir i j hij hj e
end S9
