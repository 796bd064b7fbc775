/- A part of the proofs of the laws. -/
import Derived.Test.YtahbknnehddjgaaS1
import Derived.Test.YtahbknnehddjgaaVmFuntoVmKit
set_option linter.unusedSimpArgs false
set_option linter.unusedVariables false
set_option maxHeartbeats 8000000
set_option maxRecDepth 100000
open Go Go.Vm Go.Proofs
namespace S1
abbrev P3:=Int×Int×Int
abbrev soupE:ETy:= .pair (.int .i64) (.sl .arr3)
abbrev witE:ETy:= .pair (.int .i64) (.pair (.int .i64) (.int .i64))
abbrev Wit:=Int×Int×Int
def FnRow (P : Program) (f : Nat) (c : List AV → Option Res) : Prop := (∀ args r, c args = some r → FnOk P f args r) ∧ ∃ fn, P.funcs[f]? = some fn ∧ (fn.name == "runtime.NumGoroutine") = false ∧ fn.body.isNone = false
theorem drop_at {α:Type} {l:List α} {i:Nat} (d:α) (h:i<l.length):l.drop i=l.getD i d::l.drop (i+1):=by
  rw [List.drop_eq_getElem_cons h]
  simp [gdE,h]
theorem drop_all {α:Type} {l:List α} {i:Nat} (h: ¬ (i:Int)<l.length):l.drop i=[]:=List.drop_eq_nil_of_le (by omega)
theorem drop_now {α:Type} {l:List α} {i:Nat} (d:α) (h:(i:Int)<l.length):l.drop i=l.getD i d::l.drop (i+1):=drop_at d (by omega)
theorem fm_succ {α:Type _} (f:Nat→Option α) (i:Nat):(List.range (i+1)).filterMap f=(List.range i).filterMap f++(f i).toList:=by
  rw [List.range_succ,List.filterMap_append];rfl
theorem fm_len {α:Type _} (f:Nat→Option α) (i:Nat):((List.range i).filterMap f).length≤i:=Nat.le_trans (List.length_filterMap_le _ _) (by simp)
def vIn (n v:Int):Bool:= !(decide (v<0)|| decide (v≥n))
def triIn (n:Int) (t:P3):Bool:=vIn n t.1&&(vIn n t.2.1&&vIn n t.2.2)
theorem vIn_spec {n v:Int} (h:vIn n v=true):0≤v∧v<n:=by simp [vIn] at h;omega
theorem triIn_spec {n:Int} {t:P3} (h:triIn n t=true):(0≤t.1∧t.1<n)∧(0≤t.2.1∧t.2.1<n)∧(0≤t.2.2∧t.2.2<n):=by
  simp only [triIn,Bool.and_eq_true] at h
  exact ⟨vIn_spec h.1,vIn_spec h.2.1,vIn_spec h.2.2⟩
theorem tri_bad {n:Int} {t:P3} (h:t.1<0∨t.1≥n∨t.2.1<0∨t.2.1≥n∨t.2.2<0∨t.2.2≥n):triIn n t=false:=by
  rw [← Bool.not_eq_true];intro e;have:=triIn_spec e;omega
theorem tri_good {n:Int} {t:P3} (h: ¬ (t.1<0∨t.1≥n∨t.2.1<0∨t.2.1≥n∨t.2.2<0∨t.2.2≥n)):triIn n t=true:=by
  simp only [triIn,vIn,Bool.and_eq_true,Bool.not_eq_true',Bool.or_eq_false_iff,decide_eq_false_iff_not];omega
def irec {S:Type} (f:S→Nat→S) (s:S):Nat→S
  | 0=>s
  | i+1=>f (irec f s i) i
theorem mget_same {k:ETy} {V:Type} (v:V) (q:k.T): ∀ m:List (k.T×V),mget k (mset k m q v) q=some v
  | []=>by
    simp only [mset,mget]
    cases k.decT q q with
    | isTrue h=>rfl
    | isFalse h=>exact absurd rfl h
  | (x,y)::r=>by
    simp only [mset]
    cases h1:k.decT x q with
    | isTrue h =>
      simp only [mget]
      cases k.decT x q with
      | isTrue h=>rfl
      | isFalse h2=>exact absurd h h2
    | isFalse h =>
      simp only [mget]
      cases k.decT x q with
      | isTrue h2=>exact absurd h2 h
      | isFalse h2=>exact mget_same v q r
theorem mget_other {k:ETy} {V:Type} (v:V) {q q':k.T} (hn:q≠q'): ∀ m:List (k.T×V),mget k (mset k m q v) q'=mget k m q'
  | []=>by
    simp only [mset,mget]
    cases k.decT q q' with
    | isTrue h=>exact absurd h hn
    | isFalse h=>rfl
  | (x,y)::r=>by
    simp only [mset]
    cases h1:k.decT x q with
    | isTrue h =>
      simp only [mget]
      cases k.decT x q' with
      | isTrue h2=>exact absurd (h.symm.trans h2) hn
      | isFalse h=>rfl
    | isFalse h =>
      simp only [mget]
      cases k.decT x q' with
      | isTrue h2=>rfl
      | isFalse h2=>exact mget_other v hn r
theorem mset_mset {k:ETy} {V:Type} (v v':V) (q:k.T): ∀ m:List (k.T×V),mset k (mset k m q v) q v'=mset k m q v'
  | []=>by
    simp only [mset]
    cases k.decT q q with
    | isTrue h=>rfl
    | isFalse h=>exact absurd rfl h
  | (x,y)::r=>by
    simp only [mset]
    cases h1:k.decT x q with
    | isTrue h=>simp only [mset,h1]
    | isFalse h=>simp only [mset,h1,mset_mset v v' q r]
def idxG (n:Int) (l:List P3) (i:Nat):Option Wit:=if triIn n (l.getD i (0,0,0)) then none else some (1,(i:Int),0)
def idxL (n:Int) (l:List P3) (i:Nat):List Wit:=(List.range i).filterMap (idxG n l)
theorem idx_t {n:Int} {l:List P3} {i:Nat} (h:triIn n (l.getD i (0,0,0))=true):idxL n l (i+1)=idxL n l i:=by
  rw [idxL,fm_succ,idxG,if_pos h];simp [idxL]
theorem idx_f {n:Int} {l:List P3} {i:Nat} (h:triIn n (l.getD i (0,0,0))=false):idxL n l (i+1)=idxL n l i++[(1,(i:Int),0)]:=by
  rw [idxL,fm_succ,idxG,if_neg (by rw [h];simp)];rfl
def bigR (s:Int×List P3):Bool:=decide (s.1<0)|| (decide (s.1>4096)|| decide ((s.2.length:Int)>8192))
def indexR (s:Int×List P3):List Wit:=if bigR s then [(1,-1,0)] else idxL s.1 s.2 s.2.length
def loopI (n:Int) (l:List P3):Spec Nat where
  inv x:=x≤l.length
  live x:=[(27,.s (.int .i64 x)),(3,.s (.own 2 0 (idxL n l x).length))]
  keep:=[1,25,26]
  heap x:=[(2,.row witE 35 (idxL n l x))]
  keepH:=[0]
  mu x:=l.length - x
theorem indexR_big {n:Int} {l:List P3} (h:n<0∨n>4096∨(l.length:Int)>8192):indexR (n,l)=[(1,-1,0)]:=by
  have:bigR (n,l)=true:=by simp only [bigR,Bool.or_eq_true,decide_eq_true_eq];omega
  rw [indexR,if_pos this]
theorem indexR_small {n:Int} {l:List P3} (h1: ¬ n<0) (h2: ¬ n>4096) (h3: ¬ (l.length:Int)>8192):indexR (n,l)=idxL n l l.length:=by
  have:bigR (n,l)=false:=by simp only [bigR,Bool.or_eq_false_iff,decide_eq_false_iff_not];omega
  rw [indexR,if_neg (by simp [this])]
theorem idxL_len (n:Int) (l:List P3) (i:Nat):(idxL n l i).length≤i:=fm_len _ _
theorem index_vc {fn} (n:Int) (l:List P3):afunF ⟨tyL,fn,[]⟩ Try.f78 [soupE.av (n,l)] (fun v obs=>v= .s (.own 0 0 (indexR (n,l)).length)∧obs=[.row witE 35 (indexR (n,l))]):=by
  repeat' (conv=>whnf
           first | done | refine qN (by first | rfl | omega | (simp only [i64ok] at *;omega)) ?_ | apply qH | refine qG fun _=> ?_ | apply qB | apply qa | apply qo | refine qe (fun _=> ?_) (fun _=> ?_) | refine qn (fun _=> ?_) (fun _=> ?_) | refine qd (fun _=> ?_) (fun _=> ?_) | apply qt | refine qi (fun _=> ?_) (fun _=> ?_) | (refine atReg 5 rfl ?_;refine Or.inr (Exists.intro (Nat) (Exists.intro (loopI n l) (And.intro (Exists.intro (0) (And.intro (Hold.out ?_) (And.intro ?_ (And.intro ?_ rfl)))) (fun x hx=> ?_))))) | (refine atReg 8 rfl ?_;refine Or.inl (Exists.intro (4) ?_)) | ((with_reducible show (∃ y,And (Spec.inv (loopI _ _) y) _));refine Exists.intro (x+1) (And.intro (Hold.out ?_) (And.intro (And.intro ?_ (And.intro ?_ rfl)) (Hold.out ?_)))) | refine And.intro rfl ?_ | apply qE | apply qO | exact True.intro | apply qq | apply qs | refine qK (by kernel_rfl) ?_ | apply qr)
  all_goals try first | apply qz1 | apply qz2 | apply qz3 | apply qz4 | apply qz5 | apply qz6 | apply qz7 | apply qz8 | apply qz9 | apply qz0
  all_goals try simp only [take_one,take_one',set_one,take_all,qn1,rec_self,qn2,pair_eta,ETy.dflt,qn3,qn4,Int.reduceToNat,Int.reduceAdd,Int.reduceSub,Int.reduceNeg,Nat.reduceAdd,Nat.zero_add,loopI] at *
  all_goals try (refine qh ?_;omega)
  all_goals try (refine qh ?_;have:=idxL_len n l x;(try simp only [List.length_singleton]);omega)
  all_goals try (rw [indexR_big (by omega)];done)
  all_goals try (rw [indexR_big (by omega)];rfl)
  all_goals try (rw [indexR_small (by assumption) (by assumption) (by assumption),show x=l.length by omega];done)
  all_goals try (rw [idx_f (tri_bad (by omega))];(try simp);done)
  all_goals try (rw [idx_t (tri_good (by omega))];done)
def indexC:List AV→Option ResF:=con1 soupE (fun s=>some (none,none,.s (.own 0 0 (indexR s).length),[.row witE 35 (indexR s)]))
theorem indexRow:FnRowF Try.prog 78 indexC:=⟨con1_okF fun s r h=>by cases h;exact fn_byF (rulesF (fn:=[]) (fr:=[]) trivial trivial) Try.func78 (by kernel_rfl) fun _ _=>index_vc s.1 s.2,_,Try.func78,by kernel_rfl,by kernel_rfl⟩
end S1
open Go Go.Vm Go.Proofs
namespace S1
@[irreducible] def degR (t:P3):Bool:=t.1==t.2.1|| (t.2.1==t.2.2|| t.2.2==t.1)
theorem deg_t {t:P3} (h:t.1=t.2.1∨t.2.1=t.2.2∨t.2.2=t.1):degR t=true:=by
  simp only [degR,Bool.or_eq_true,beq_iff_eq];exact h
theorem deg_f {t:P3} (h: ¬ (t.1=t.2.1∨t.2.1=t.2.2∨t.2.2=t.1)):degR t=false:=by
  rw [← Bool.not_eq_true];intro e;apply h;simpa only [degR,Bool.or_eq_true,beq_iff_eq] using e
def dgG (l:List P3) (i:Nat):Option Wit:=if degR (l.getD i (0,0,0)) then some (2,(i:Int),0) else none
def dgL (l:List P3) (i:Nat):List Wit:=(List.range i).filterMap (dgG l)
theorem dg_t {l:List P3} {i:Nat} (h:degR (l.getD i (0,0,0))=true):dgL l (i+1)=dgL l i++[(2,(i:Int),0)]:=by
  rw [dgL,fm_succ,dgG,if_pos h];rfl
theorem dg_f {l:List P3} {i:Nat} (h:degR (l.getD i (0,0,0))=false):dgL l (i+1)=dgL l i:=by
  rw [dgL,fm_succ,dgG,if_neg (by rw [h];simp)];simp [dgL]
theorem dgL_len (l:List P3) (i:Nat):(dgL l i).length≤i:=fm_len _ _
def loopD (l:List P3):Spec Nat where
  inv x:=x≤l.length
  live x:=[(9,.s (.int .i64 x)),(3,.s (.own 2 0 (dgL l x).length))]
  keep:=[1,7,8]
  heap x:=[(2,.row witE 35 (dgL l x))]
  keepH:=[0]
  mu x:=l.length - x
theorem loop_vc {fn} (n:Int) (l:List P3) (hb:l.length≤8192):afunF ⟨tyL,fn,[]⟩ Try.f79 [soupE.av (n,l)] (fun v obs=>v= .s (.own 0 0 (dgL l l.length).length)∧obs=[.row witE 35 (dgL l l.length)]):=by
  repeat' (conv=>whnf
           first | done | refine qN (by first | rfl | omega | (simp only [i64ok] at *;omega)) ?_ | apply qH | refine qG fun _=> ?_ | apply qB | apply qa | apply qo | refine qe (fun _=> ?_) (fun _=> ?_) | refine qn (fun _=> ?_) (fun _=> ?_) | refine qd (fun _=> ?_) (fun _=> ?_) | apply qt | refine qi (fun _=> ?_) (fun _=> ?_) | (refine atReg 3 rfl ?_;refine Or.inr (Exists.intro (Nat) (Exists.intro (loopD l) (And.intro (Exists.intro (0) (And.intro (Hold.out ?_) (And.intro ?_ (And.intro ?_ rfl)))) (fun x hx=> ?_))))) | ((with_reducible show (∃ y,And (Spec.inv (loopD _) y) _));refine Exists.intro (x+1) (And.intro (Hold.out ?_) (And.intro (And.intro ?_ (And.intro ?_ rfl)) (Hold.out ?_)))) | refine And.intro rfl ?_ | apply qE | apply qO | exact True.intro | apply qq | apply qs | refine qK (by kernel_rfl) ?_ | apply qr)
  all_goals try first | apply qz1 | apply qz2 | apply qz3 | apply qz4 | apply qz5 | apply qz6 | apply qz7 | apply qz8 | apply qz9 | apply qz0
  all_goals try simp only [take_one,take_one',set_one,take_all,qn1,rec_self,qn2,pair_eta,ETy.dflt,qn3,qn4,Int.reduceToNat,Int.reduceAdd,Int.reduceSub,Int.reduceNeg,Nat.reduceAdd,Nat.zero_add,loopD] at *
  all_goals try (refine qh ?_;omega)
  all_goals try (refine qh ?_;have:=dgL_len l x;(try simp only [List.length_singleton]);omega)
  all_goals try (rw [dg_t (deg_t (by omega))];(try simp);done)
  all_goals try (rw [dg_f (deg_f (by omega))];done)
  all_goals (rw [show x=l.length by omega];done)
def loopC:List AV→Option ResF:=con1 soupE (fun s=>some (none,some (s.2.length≤8192),.s (.own 0 0 (dgL s.2 s.2.length).length),[.row witE 35 (dgL s.2 s.2.length)]))
theorem loopRow:FnRowF Try.prog 79 loopC:=⟨con1_okF fun s r h=>by cases h;exact fn_byF (rulesF (fn:=[]) (fr:=[]) trivial trivial) Try.func79 (by kernel_rfl) fun _ h=>loop_vc s.1 s.2 h,_,Try.func79,by kernel_rfl,by kernel_rfl⟩
def mark3 (s:List Bool) (t:P3):List Bool:=((s.set t.1.toNat true).set t.2.1.toNat true).set t.2.2.toNat true
def thereF (n:Nat) (l:List P3) (i:Nat):List Bool:=irec (fun s j=>mark3 s (l.getD j (0,0,0))) (List.replicate n false) i
theorem thereF_len (n:Nat) (l:List P3): ∀ i,(thereF n l i).length=n
  | 0=>by simp [thereF,irec]
  | i+1=>by
    have:=thereF_len n l i
    unfold thereF at this ⊢
    simp only [irec,mark3,List.length_set];exact this
def loG (s:List Bool) (v:Nat):Option Wit:=if s.getD v false then none else some (5,(v:Int),0)
def loL (s:List Bool) (v:Nat):List Wit:=(List.range v).filterMap (loG s)
theorem lo_t {s:List Bool} {i:Nat} (h:s.getD i false=true):loL s (i+1)=loL s i:=by
  rw [loL,fm_succ,loG,if_pos h];simp [loL]
theorem lo_f {s:List Bool} {i:Nat} (h:s.getD i false=false):loL s (i+1)=loL s i++[(5,(i:Int),0)]:=by
  rw [loL,fm_succ,loG,if_neg (by rw [h];simp)];rfl
theorem loL_len (s:List Bool) (i:Nat):(loL s i).length≤i:=fm_len _ _
def loopL1 (n:Nat) (l:List P3):Spec Nat where
  inv x:=x≤l.length
  live x:=[(17,.s (.int .i64 x))]
  keep:=[1,3,15,16]
  heap x:=[(2,.row .bool 4 (thereF n l x))]
  keepH:=[0]
  mu x:=l.length - x
def loopL2 (n:Nat) (s:List Bool):Spec Nat where
  inv x:=x≤n
  live x:=[(32,.s (.int .i64 x)),(8,.s (.own 3 0 (loL s x).length))]
  keep:=[1,3,30,31]
  heap x:=[(3,.row witE 35 (loL s x))]
  keepH:=[0,2]
  mu x:=n - x
def loneR (s:Int×List P3):List Wit:=loL (thereF s.1.toNat s.2 s.2.length) s.1.toNat
def fitS (s:Int×List P3):Prop:=0≤s.1∧s.1≤4096∧s.2.length≤8192∧∀ i,i<s.2.length→triIn s.1 (s.2.getD i (0,0,0))=true
theorem lonely_vc {fn} (n:Int) (l:List P3) (hf:fitS (n,l)):afunF ⟨tyL,fn,[]⟩ Try.f82 [soupE.av (n,l)] (fun v obs=>v= .s (.own 0 0 (loneR (n,l)).length)∧obs=[.row witE 35 (loneR (n,l))]):=by
  obtain ⟨h1,h2,h3,h4⟩:=hf
  repeat' (conv=>whnf
           first | done | refine qN (by first | rfl | omega | (simp only [i64ok] at *;omega)) ?_ | apply qH | refine qG fun _=> ?_ | apply qB | apply qa | apply qo | refine qe (fun _=> ?_) (fun _=> ?_) | refine qn (fun _=> ?_) (fun _=> ?_) | refine qd (fun _=> ?_) (fun _=> ?_) | apply qt | refine qi (fun _=> ?_) (fun _=> ?_) | (refine atReg 3 rfl ?_;refine Or.inr (Exists.intro (Nat) (Exists.intro (loopL1 n.toNat l) (And.intro (Exists.intro (0) (And.intro (Hold.out ?_) (And.intro ?_ (And.intro ?_ rfl)))) (fun x hx=> ?_))))) | (refine atReg 6 rfl ?_;refine Or.inl (Exists.intro (4) ?_)) | ((with_reducible show (∃ y,And (Spec.inv (loopL1 _ _) y) _));refine Exists.intro (x+1) (And.intro (Hold.out ?_) (And.intro (And.intro ?_ (And.intro ?_ rfl)) (Hold.out ?_)))) | (refine atReg 13 rfl ?_;refine Or.inr (Exists.intro (Nat) (Exists.intro (loopL2 n.toNat (thereF n.toNat l l.length)) (And.intro (Exists.intro (0) (And.intro (Hold.out ?_) (And.intro ?_ (And.intro ?_ rfl)))) (fun y hy=> ?_))))) | ((with_reducible show (∃ y,And (Spec.inv (loopL2 _ _) y) _));refine Exists.intro (y+1) (And.intro (Hold.out ?_) (And.intro (And.intro ?_ (And.intro ?_ rfl)) (Hold.out ?_)))) | refine And.intro rfl ?_ | apply qE | apply qO | exact True.intro | apply qq | apply qs | refine qK (by kernel_rfl) ?_ | apply qr)
  all_goals try first | apply qz1 | apply qz2 | apply qz3 | apply qz4 | apply qz5 | apply qz6 | apply qz7 | apply qz8 | apply qz9 | apply qz0
  all_goals try simp only [take_one,take_one',set_one,take_all,qn1,rec_self,qn2,pair_eta,ETy.dflt,qn3,qn4,Int.reduceToNat,Int.reduceAdd,Int.reduceSub,Int.reduceNeg,Nat.reduceAdd,Nat.zero_add,loopL1,loopL2] at *
  all_goals try (refine qh ?_;omega)
  all_goals try (have ht:=triIn_spec (h4 x (by omega));refine qh ?_;(try simp only [Int.toNat_of_nonneg h1]);omega)
  all_goals try (have e:x=l.length:=by omega)
  all_goals try subst e
  all_goals try (refine qh ?_;have:=loL_len (thereF n.toNat l l.length) y;(try simp only [List.length_singleton]);omega)
  all_goals try (rw [lo_t (by assumption)];done)
  all_goals try (rw [lo_f (by assumption)];(try simp);done)
  all_goals try rfl
  all_goals (have e:y=n.toNat:=by omega
             subst e;rfl)
def lonelyC:List AV→Option ResF:=con1 soupE (fun s=>some (none,some (fitS s),.s (.own 0 0 (loneR s).length),[.row witE 35 (loneR s)]))
theorem lonelyRow:FnRowF Try.prog 82 lonelyC:=⟨con1_okF fun s r h=>by cases h;exact fn_byF (rulesF (fn:=[]) (fr:=[]) trivial trivial) Try.func82 (by kernel_rfl) fun _ h=>lonely_vc s.1 s.2 h,_,Try.func82,by kernel_rfl,by kernel_rfl⟩
end S1
open Go Go.Vm Go.Proofs
namespace S1
theorem irec_inv {S:Type} {f:S→Nat→S} {s:S} (P:Nat→S→Prop) (h0:P 0 s) {n:Nat} (hs: ∀ i s,i<n→P i s→P (i+1) (f s i)): ∀ i,i≤n→P i (irec f s i)
  | 0,_=>h0
  | i+1,h=>hs i _ (by omega) (irec_inv P h0 hs i (by omega))
def kTwice (t:P3):List P3:=[(t.1,t.2.1,0),(t.2.1,t.2.2,0),(t.2.2,t.1,0)]
theorem twice1_vc {fn} (t:P3):afun ⟨tyL,fn,[]⟩ Try.f104 [ETy.arr3.av t] (fun v=>v= .s (.sl .arr3 (kTwice t))):=by
  repeat' (conv=>whnf
           first | done | refine qN (by first | rfl | omega | (simp only [i64ok] at *;omega)) ?_ | apply qH | refine qG fun _=> ?_ | apply qB | apply qa | apply qo | refine qe (fun _=> ?_) (fun _=> ?_) | refine qn (fun _=> ?_) (fun _=> ?_) | refine qd (fun _=> ?_) (fun _=> ?_) | apply qt | refine qi (fun _=> ?_) (fun _=> ?_) | refine And.intro rfl ?_ | apply qE | apply qO | exact True.intro | apply qq | apply qs | refine qK (by kernel_rfl) ?_ | apply qr)
  all_goals try first | apply qz1 | apply qz2 | apply qz3 | apply qz4 | apply qz5 | apply qz6 | apply qz7 | apply qz8 | apply qz9 | apply qz0
  all_goals try simp only [take_one,take_one',set_one,take_all,qn1,rec_self,qn2,pair_eta,ETy.dflt,qn3,qn4,Int.reduceToNat,Int.reduceAdd,Int.reduceSub,Int.reduceNeg,Nat.reduceAdd,Nat.zero_add,kTwice] at *
  rfl
def twice1C:List AV→Option Res:=con1 .arr3 (fun t=>some (none,none,.s (.sl .arr3 (kTwice t))))
theorem twice1Row:FnRow Try.prog 104 twice1C:=⟨con1_ok fun t r h=>by cases h;exact fn_by (rulesF (fn:=[]) (fr:=[]) trivial trivial) Try.func104 (by kernel_rfl) fun _ _=>twice1_vc t,_,Try.func104,by kernel_rfl,by kernel_rfl⟩
abbrev HadM:=List (ETy.arr3.T×List Int)
abbrev SeenM:=List (ETy.arr2.T×ETy.bool.T)
abbrev PS:=SeenM×List Wit
def prA (kind:Int) (i:Nat) (av:List Int) (s:PS) (j:Nat):PS :=
  match (mget .arr2 s.1 (av.getD j 0,(i:Int))).getD false with
  | true=>s
  | false=>(mset .arr2 s.1 (av.getD j 0,(i:Int)) true,s.2++[(kind,av.getD j 0,(i:Int))])
def hadAt (h:HadM) (k:P3):List Int:=(mget .arr3 h k).getD []
def prK (kind:Int) (i:Nat) (ks:List P3) (s:HadM×PS) (m:Nat):HadM×PS :=
  (mset .arr3 s.1 (ks.getD m (0,0,0)) (hadAt s.1 (ks.getD m (0,0,0))++[(i:Int)]),irec (prA kind i (hadAt s.1 (ks.getD m (0,0,0)))) s.2 (hadAt s.1 (ks.getD m (0,0,0))).length)
def prI (kp:P3→List P3) (kind:Int) (l:List P3) (s:HadM×PS) (i:Nat):HadM×PS:=irec (prK kind i (kp (l.getD i (0,0,0)))) s (kp (l.getD i (0,0,0))).length
def prS (kp:P3→List P3) (kind:Int) (l:List P3) (i:Nat):HadM×PS:=irec (prI kp kind l) ([],[],[]) i
theorem hadAt_def (h:HadM) (k:P3):Option.getD (mget .arr3 h k) []=hadAt h k:=rfl
theorem hadAt_same (h:HadM) (k:P3) (v:List Int):hadAt (mset .arr3 h k v) k=v:=by rw [hadAt,mget_same];rfl
theorem prA_t {kind:Int} {i:Nat} {av:List Int} {s:PS} {j:Nat} (h:(mget .arr2 s.1 (av.getD j 0,(i:Int))).getD false=true):irec (prA kind i av) s 0=s∧prA kind i av s j=s:=by
  refine ⟨rfl,?_⟩;unfold prA;rw [h]
theorem prA_f {kind:Int} {i:Nat} {av:List Int} {s:PS} {j:Nat} (h:(mget .arr2 s.1 (av.getD j 0,(i:Int))).getD false=false) :
    prA kind i av s j=(mset .arr2 s.1 (av.getD j 0,(i:Int)) true,s.2++[(kind,av.getD j 0,(i:Int))]):=by
  unfold prA;rw [h]
theorem prA_same {kind:Int} {i:Nat} {av:List Int} {s:PS} {z:Nat} (h:(mget .arr2 (irec (prA kind i av) s z).1 (av.getD z 0,(i:Int))).getD false=true):irec (prA kind i av) s (z+1)=irec (prA kind i av) s z:=(prA_t h).2
theorem prA_new {kind:Int} {i:Nat} {av:List Int} {s:PS} {z:Nat} (h:(mget .arr2 (irec (prA kind i av) s z).1 (av.getD z 0,(i:Int))).getD false=false) :
    irec (prA kind i av) s (z+1)=(mset .arr2 (irec (prA kind i av) s z).1 (av.getD z 0,(i:Int)) true,(irec (prA kind i av) s z).2++[(kind,av.getD z 0,(i:Int))]):=prA_f h
theorem prA_le (kind:Int) (i:Nat) (av:List Int) (s:PS) (j:Nat):(prA kind i av s j).2.length≤s.2.length+1:=by
  unfold prA;split
  · omega
  · simp
theorem prA_len (kind:Int) (i:Nat) (av:List Int) (s:PS) (j:Nat):(irec (prA kind i av) s j).2.length≤s.2.length+j :=
  irec_inv (n:=j) (fun j (t:PS)=>t.2.length≤s.2.length+j) (by simp) (fun j t _ h=>Nat.le_trans (prA_le _ _ _ _ _) (by omega)) j (Nat.le_refl _)
def HadOk (c b:Nat) (s:HadM×PS):Prop:=(∀ k,(hadAt s.1 k).length≤c)∧s.2.2.length≤b
theorem hadAt_set (h:HadM) (k:P3) (v:List Int) (k':P3):hadAt (mset .arr3 h k v) k'=if k=k' then v else hadAt h k':=by
  unfold hadAt
  split
  · rename_i e;subst e;rw [mget_same];rfl
  · rename_i e;rw [mget_other _ e]
theorem prK_ok {kind:Int} {i c b:Nat} {ks:List P3} {s:HadM×PS} {m:Nat} (h:HadOk c b s):HadOk (c+1) (b+c) (prK kind i ks s m):=by
  refine ⟨fun k=> ?_,?_⟩
  · show (hadAt (mset .arr3 s.1 _ _) k).length≤_
    rw [hadAt_set]
    split
    · have:=h.1 (ks.getD m (0,0,0));rw [List.length_append];simp only [List.length_singleton];omega
    · have:=h.1 k;omega
  · have:=prA_len kind i (hadAt s.1 (ks.getD m (0,0,0))) s.2 (hadAt s.1 (ks.getD m (0,0,0))).length
    have:=h.1 (ks.getD m (0,0,0))
    have:=h.2
    show (irec (prA kind i (hadAt s.1 (ks.getD m (0,0,0)))) s.2 (hadAt s.1 (ks.getD m (0,0,0))).length).2.length≤_
    omega
theorem prKs_ok {kind:Int} {i:Nat} {ks:List P3} {c b:Nat} {s:HadM×PS} (h:HadOk c b s) (hk:ks.length≤3): ∀ m,m≤ks.length→HadOk (c+m) (b+m*(c+3)) (irec (prK kind i ks) s m) :=
  irec_inv (fun m (t:HadM×PS)=>HadOk (c+m) (b+m*(c+3)) t) (by simpa using h) fun m t hm ht=>by
    have:=prK_ok (kind:=kind) (i:=i) (ks:=ks) (m:=m) ht
    refine ⟨fun k=>Nat.le_trans (this.1 k) (by omega),Nat.le_trans this.2 ?_⟩
    rw [Nat.succ_mul];omega
theorem prS_ok (kp:P3→List P3) (hk: ∀ t,(kp t).length≤3) (kind:Int) (l:List P3) (i:Nat) (hi:i≤8192):HadOk (3*i) (i*73737) (prS kp kind l i) :=
  irec_inv (n:=8192) (fun i t=>HadOk (3*i) (i*73737) t) ⟨fun k=>by simp [hadAt,mget],by simp⟩ (fun i t hi h=>by
    have h1:=prKs_ok (kind:=kind) (i:=i) h (hk (l.getD i (0,0,0))) _ (Nat.le_refl _)
    have h3:=hk (l.getD i (0,0,0))
    have h4:(kp (l.getD i (0,0,0))).length*(3*i+3)≤3*(3*i+3):=Nat.mul_le_mul_right _ h3
    exact ⟨fun k=>Nat.le_trans (h1.1 k) (by omega),Nat.le_trans h1.2 (Nat.le_trans (Nat.add_le_add_left h4 _) (by omega))⟩) i hi
def loopP1 (kp:P3→List P3) (kind:Int) (l:List P3):Spec Nat where
  inv x:=x≤l.length
  live x:=[(22,.s (.int .i64 x)),(7,.s (.own 2 0 (prS kp kind l x).2.2.length))]
  keep:=[1,2,3,8,9,20,21]
  heap x:=[(2,.row witE 35 (prS kp kind l x).2.2),(3,.gmap .arr3 (.int .i64) (prS kp kind l x).1),(4,.map .arr2 .bool (prS kp kind l x).2.1)]
  keepH:=[0]
  mu x:=l.length - x
def loopP2 (kind:Int) (i:Nat) (ks:List P3) (s:HadM×PS):Spec Nat where
  inv x:=x≤ks.length
  live x:=[(31,.s (.int .i64 x)),(7,.s (.own 2 0 (irec (prK kind i ks) s x).2.2.length))]
  keep:=[1,2,3,8,9,10,11,20,21,22,29,30]
  heap x:=[(2,.row witE 35 (irec (prK kind i ks) s x).2.2),(3,.gmap .arr3 (.int .i64) (irec (prK kind i ks) s x).1),(4,.map .arr2 .bool (irec (prK kind i ks) s x).2.1)]
  keepH:=[0,5]
  mu x:=ks.length - x
def loopP3 (kind:Int) (i:Nat) (av:List Int) (s:PS):Spec Nat where
  inv x:=x≤av.length
  live x:=[(39,.s (.int .i64 x)),(7,.s (.own 2 0 (irec (prA kind i av) s x).2.length))]
  keep:=[1,2,3,8,9,10,11,13,20,21,22,29,30,31,37,38]
  heap x:=[(2,.row witE 35 (irec (prA kind i av) s x).2),(4,.map .arr2 .bool (irec (prA kind i av) s x).1)]
  keepH:=[0,3,5,6]
  mu x:=av.length - x
theorem pairsTw_vc (n kind:Int) (l:List P3) (hb:l.length≤8192):afunF ⟨tyL,[(104,twice1C)],[]⟩ Try.f103 [soupE.av (n,l),(ETy.int .i64).av kind,ETy.fnc.av (some 104)] (fun v obs=>v= .s (.own 0 0 (prS kTwice kind l l.length).2.2.length)∧obs=[.row witE 35 (prS kTwice kind l l.length).2.2]):=by
  have hS:=fun x (h:x≤8192)=>prS_ok kTwice (fun _=>Nat.le_refl 3) kind l x h
  repeat' (conv=>whnf
           first | done | refine qN (by first | rfl | omega | (simp only [i64ok] at *;omega)) ?_ | apply qH | refine qG fun _=> ?_ | apply qB | apply qa | apply qo | refine qe (fun _=> ?_) (fun _=> ?_) | refine qn (fun _=> ?_) (fun _=> ?_) | refine qd (fun _=> ?_) (fun _=> ?_) | apply qt | refine qi (fun _=> ?_) (fun _=> ?_) | (refine atReg 5 rfl ?_;refine Or.inr (Exists.intro (Nat) (Exists.intro (loopP1 kTwice kind l) (And.intro (Exists.intro (0) (And.intro (Hold.out ?_) (And.intro ?_ (And.intro ?_ rfl)))) (fun x hx=> ?_))))) | ((with_reducible show (∃ y,And (Spec.inv (loopP1 _ _ _) y) _));refine Exists.intro (x+1) (And.intro (Hold.out ?_) (And.intro (And.intro ?_ (And.intro ?_ rfl)) (Hold.out ?_)))) | (refine atReg 8 rfl ?_;refine Or.inr (Exists.intro (Nat) (Exists.intro (loopP2 kind x (kTwice (l.getD x (0,0,0))) (prS kTwice kind l x)) (And.intro (Exists.intro (0) (And.intro (Hold.out ?_) (And.intro ?_ (And.intro ?_ rfl)))) (fun y hy=> ?_))))) | ((with_reducible show (∃ y,And (Spec.inv (loopP2 _ _ _ _) y) _));refine Exists.intro (y+1) (And.intro (Hold.out ?_) (And.intro (And.intro ?_ (And.intro ?_ rfl)) (Hold.out ?_)))) | (refine atReg 11 rfl ?_;refine Or.inr (Exists.intro (Nat) (Exists.intro (loopP3 kind x (hadAt (irec (prK kind x (kTwice (l.getD x (0,0,0)))) (prS kTwice kind l x) y).1 ((kTwice (l.getD x (0,0,0))).getD y (0,0,0))) (irec (prK kind x (kTwice (l.getD x (0,0,0)))) (prS kTwice kind l x) y).2) (And.intro (Exists.intro (0) (And.intro (Hold.out ?_) (And.intro ?_ (And.intro ?_ rfl)))) (fun z hz=> ?_))))) | ((with_reducible show (∃ y,And (Spec.inv (loopP3 _ _ _ _) y) _));refine Exists.intro (z+1) (And.intro (Hold.out ?_) (And.intro (And.intro ?_ (And.intro ?_ rfl)) (Hold.out ?_)))) | refine And.intro rfl ?_ | apply qE | apply qO | exact True.intro | apply qq | apply qs | refine qK (by kernel_rfl) ?_ | apply qr)
  all_goals try first | apply qz1 | apply qz2 | apply qz3 | apply qz4 | apply qz5 | apply qz6 | apply qz7 | apply qz8 | apply qz9 | apply qz0
  all_goals try simp only [take_one,take_one',set_one,take_all,qn1,rec_self,qn2,pair_eta,ETy.dflt,qn3,qn4,Int.reduceToNat,Int.reduceAdd,Int.reduceSub,Int.reduceNeg,Nat.reduceAdd,Nat.zero_add,loopP1,loopP2,loopP3,mset_mset,hadAt_def,hadAt_same] at *
  all_goals try (refine qh ?_;omega)
  all_goals try (rw [prA_same (by assumption)];done)
  all_goals try (rw [prA_new (by assumption)];(try simp);done)
  all_goals try first
    | (have e:z=(hadAt (irec (prK kind x (kTwice (l.getD x (0,0,0)))) (prS kTwice kind l x) y).1 ((kTwice (l.getD x (0,0,0))).getD y (0,0,0))).length:=by omega
       subst e;first | rfl | (rw [mset_mset,mget_same];rfl))
    | (have e:y=(kTwice (l.getD x (0,0,0))).length:=by omega
       subst e;rfl)
    | (have e:x=l.length:=by omega
       subst e;rfl)
  all_goals
    have hB:=prKs_ok (kind:=kind) (i:=x) (ks:=kTwice (l.getD x (0,0,0))) (hS x (by omega)) (Nat.le_refl 3) y (by omega)
    have h1:=hB.1 ((kTwice (l.getD x (0,0,0))).getD y (0,0,0))
    have h2:=hB.2
    have h3:=prA_len kind x (hadAt (irec (prK kind x (kTwice (l.getD x (0,0,0)))) (prS kTwice kind l x) y).1 ((kTwice (l.getD x (0,0,0))).getD y (0,0,0))) (irec (prK kind x (kTwice (l.getD x (0,0,0)))) (prS kTwice kind l x) y).2 z
    have h4:y≤3:=hy
    have h5:y*(3*x+3)≤3*(3*x+3):=Nat.mul_le_mul_right _ h4
    refine qh ?_
    generalize y*(3*x+3)=q at *
  · omega
  · unfold growFits
    simp only [List.length_cons,List.take_zero,List.length_nil]
    omega
def pairsTwC:List AV→Option ResF:=con3 soupE (.int .i64) .fnc (fun s kind f=>match f with
  | some 104=>some (none,some (s.2.length≤8192),.s (.own 0 0 (prS kTwice kind s.2 s.2.length).2.2.length),[.row witE 35 (prS kTwice kind s.2 s.2.length).2.2])
  | _=>none)
end S1
open Go Go.Vm Go.Proofs
namespace S1
abbrev EndM:=List ((ETy.int .i64).T×List Int)
abbrev ReM:=List ((ETy.int .i64).T×ETy.bool.T)
def endAt (m:EndM) (w:Int):List Int:=(mget (.int .i64) m w).getD []
theorem endAt_def (m:EndM) (w:Int):(mget (.int .i64) m w).getD []=endAt m w:=rfl
theorem endAt_set (h:EndM) (k:Int) (v:List Int) (k':Int):endAt (mset (.int .i64) h k v) k'=if k=k' then v else endAt h k':=by
  unfold endAt
  split
  · rename_i e;subst e;rw [mget_same];rfl
  · rename_i e;rw [mget_other _ e]
theorem endAt_same (h:EndM) (k:Int) (v:List Int):endAt (mset (.int .i64) h k v) k=v:=by rw [endAt_set,if_pos rfl]
def trl (t:P3):List Int:=[t.1,t.2.1,t.2.2]
def tri (l:List P3) (i:Int):P3:=l.getD i.toNat (0,0,0)
theorem trl_def (t:P3):[t.1,t.2.1,t.2.2]=trl t:=rfl
theorem tri_def (l:List P3) (i:Int):l.getD i.toNat (0,0,0)=tri l i:=rfl
def enW (v i:Int) (t:P3) (m:EndM) (k:Nat):EndM:=if (trl t).getD k 0=v then m else mset (.int .i64) m ((trl t).getD k 0) (endAt m ((trl t).getD k 0)++[i])
def enT (l:List P3) (v:Int) (tris:List Int) (m:EndM) (j:Nat):EndM:=irec (enW v (tris.getD j 0) (tri l (tris.getD j 0))) m 3
def enA (l:List P3) (v:Int) (tris:List Int) (j:Nat):EndM:=irec (enT l v tris) [] j
theorem enW_same {v i:Int} {t:P3} {m:EndM} {k:Nat} (h:(trl t).getD k 0=v):irec (enW v i t) m (k+1)=irec (enW v i t) m k:=by
  show enW v i t (irec (enW v i t) m k) k=_
  rw [enW,if_pos h]
theorem enW_new {v i:Int} {t:P3} {m:EndM} {k:Nat} (h:(trl t).getD k 0≠v):irec (enW v i t) m (k+1)=mset (.int .i64) (irec (enW v i t) m k) ((trl t).getD k 0) (endAt (irec (enW v i t) m k) ((trl t).getD k 0)++[i]):=by
  show enW v i t (irec (enW v i t) m k) k=_
  rw [enW,if_neg h]
def EnOk (tris:List Int) (c:Nat) (m:EndM):Prop:= ∀ w,(endAt m w).length≤c∧∀ x∈endAt m w,x∈tris
theorem enW_ok {v i:Int} {t:P3} {tris:List Int} {c:Nat} {m:EndM} {k:Nat} (h:EnOk tris c m) (hi:i∈tris):EnOk tris (c+1) (enW v i t m k):=by
  intro w
  unfold enW
  split
  · exact ⟨by have:=(h w).1;omega,(h w).2⟩
  · rw [endAt_set]
    split
    · have:=h ((trl t).getD k 0)
      refine ⟨by rw [List.length_append];simp only [List.length_singleton];omega,fun x hx=> ?_⟩
      rw [List.mem_append,List.mem_singleton] at hx
      rcases hx with hx | rfl
      · exact this.2 x hx
      · exact hi
    · exact ⟨by have:=(h w).1;omega,(h w).2⟩
theorem enWs_ok {v i:Int} {t:P3} {tris:List Int} {c:Nat} {m:EndM} (h:EnOk tris c m) (hi:i∈tris) (k:Nat):EnOk tris (c+k) (irec (enW v i t) m k) :=
  irec_inv (n:=k) (fun k (m:EndM)=>EnOk tris (c+k) m) h (fun k _ _ hm=>enW_ok (k:=k) hm hi) k (Nat.le_refl _)
theorem getD_mem {l:List Int} {j:Nat} (h:j<l.length):l.getD j 0∈l:=by
  rw [gdE,gE h];exact List.getElem_mem h
theorem enA_ok (l:List P3) (v:Int) (tris:List Int): ∀ j,j≤tris.length→EnOk tris (3*j) (enA l v tris j) :=
  irec_inv (fun j (m:EndM)=>EnOk tris (3*j) m) (fun w=>⟨by simp [endAt,mget],by simp [endAt,mget]⟩) fun j m hj h=>enWs_ok h (getD_mem hj) 3
abbrev TgS:=Nat×List Int×ReM
def had (m:ReM) (k:Int):Bool:=(mget (.int .i64) m k).getD false
theorem had_def (m:ReM) (k:Int):(mget (.int .i64) m k).getD false=had m k:=rfl
theorem had_def2 (m:ReM) (k:Int): @Option.getD Bool (@mget (.int .i64) Bool m k) false=had m k:=rfl
theorem had_set (m:ReM) (k k':Int):had (mset (.int .i64) m k true) k'=if k=k' then true else had m k':=by
  unfold had
  split
  · rename_i e;subst e;rw [mget_same];rfl
  · rename_i e;rw [mget_other _ e]
def vis (av:List Int) (S:TgS) (j:Nat):TgS:=if had S.2.2 (av.getD j 0)=true then S else (0,S.2.1.drop S.1++[av.getD j 0],mset (.int .i64) S.2.2 (av.getD j 0) true)
theorem vis_same {av:List Int} {S:TgS} {j:Nat} (h:had (irec (vis av) S j).2.2 (av.getD j 0)=true):irec (vis av) S (j+1)=irec (vis av) S j:=by
  show vis av (irec (vis av) S j) j=_
  rw [vis,if_pos h]
theorem vis_new {av:List Int} {S:TgS} {j:Nat} (h:had (irec (vis av) S j).2.2 (av.getD j 0)=false) :
    irec (vis av) S (j+1)=(0,(irec (vis av) S j).2.1.drop (irec (vis av) S j).1++[av.getD j 0],mset (.int .i64) (irec (vis av) S j).2.2 (av.getD j 0) true):=by
  show vis av (irec (vis av) S j) j=_
  rw [vis,if_neg (by rw [h];simp)]
def tgW (E:EndM) (v:Int) (t:P3) (S:TgS) (k:Nat):TgS:=if (trl t).getD k 0=v then S else irec (vis (endAt E ((trl t).getD k 0))) S (endAt E ((trl t).getD k 0)).length
theorem tgW_same {E:EndM} {v:Int} {t:P3} {S:TgS} {k:Nat} (h:(trl t).getD k 0=v):irec (tgW E v t) S (k+1)=irec (tgW E v t) S k:=by
  show tgW E v t (irec (tgW E v t) S k) k=_
  rw [tgW,if_pos h]
theorem tgW_new {E:EndM} {v:Int} {t:P3} {S:TgS} {k:Nat} (h:(trl t).getD k 0≠v):irec (tgW E v t) S (k+1)=irec (vis (endAt E ((trl t).getD k 0))) (irec (tgW E v t) S k) (endAt E ((trl t).getD k 0)).length:=by
  show tgW E v t (irec (tgW E v t) S k) k=_
  rw [tgW,if_neg h]
def tgR (E:EndM) (l:List P3) (v:Int) (S:TgS) (_:Nat):TgS:=if S.1<S.2.1.length then irec (tgW E v (tri l (S.2.1.getD S.1 0))) (S.1+1,S.2.1,S.2.2) 3 else S
def tgS (E:EndM) (l:List P3) (v x0:Int) (r:Nat):TgS:=irec (tgR E l v) (0,[x0],[(x0,true)]) r
def unr (tris:List Int) (m:ReM):Nat:=(tris.filter fun k=> !had m k).length
def meas (tris:List Int) (S:TgS):Nat:=(S.2.1.length - S.1)+unr tris S.2.2
def TgOk (tris:List Int) (S:TgS):Prop:=S.1≤S.2.1.length∧(∀ x∈S.2.1,x∈tris)∧S.2.2.length+unr tris S.2.2≤tris.length+1
theorem mset_len {k:ETy} {V:Type} (v:V) (q:k.T): ∀ m:List (k.T×V),(mset k m q v).length≤m.length+1
  | []=>by simp [mset]
  | (x,y)::r=>by
    simp only [mset]
    split
    · simp
    · have:=mset_len v q r
      simp only [List.length_cons];omega
theorem filt_le {α:Type} {p q:α→Bool} (h: ∀ x,q x=true→p x=true): ∀ l:List α,(l.filter q).length≤(l.filter p).length
  | []=>Nat.le_refl _
  | a ::l=>by
    have:=filt_le h l
    by_cases hq:q a=true
    · rw [List.filter_cons_of_pos hq,List.filter_cons_of_pos (h a hq)];simp only [List.length_cons];omega
    · rw [List.filter_cons_of_neg hq]
      by_cases hp:p a=true
      · rw [List.filter_cons_of_pos hp];simp only [List.length_cons];omega
      · rw [List.filter_cons_of_neg hp];exact this
theorem filt_lt {α:Type} {p q:α→Bool} (h: ∀ x,q x=true→p x=true) {a:α} (hp:p a=true) (hq: ¬ q a=true): ∀ {l:List α},a∈l→(l.filter q).length+1≤(l.filter p).length
  | b ::l,hm=>by
    rcases List.mem_cons.1 hm with e | hm
    · subst e
      rw [List.filter_cons_of_pos hp,List.filter_cons_of_neg hq]
      have:=filt_le h l
      simp only [List.length_cons];omega
    · have:=filt_lt h hp hq hm
      by_cases hq':q b=true
      · rw [List.filter_cons_of_pos hq',List.filter_cons_of_pos (h b hq')];simp only [List.length_cons];omega
      · rw [List.filter_cons_of_neg hq']
        by_cases hp':p b=true
        · rw [List.filter_cons_of_pos hp'];simp only [List.length_cons];omega
        · rw [List.filter_cons_of_neg hp'];exact this
theorem unr_set {tris:List Int} {m:ReM} {k:Int} (hk:k∈tris) (h:had m k=false):unr tris (mset (.int .i64) m k true)+1≤unr tris m:=by
  refine filt_lt (fun x hx=> ?_) (a:=k) (by rw [h];rfl) (by rw [had_set,if_pos rfl];simp) hk
  rw [had_set] at hx
  split at hx
  · simp at hx
  · exact hx
theorem vis_ok {tris av:List Int} {S:TgS} {j:Nat} (h:TgOk tris S) (hj:j<av.length) (ha: ∀ x∈av,x∈tris):TgOk tris (vis av S j)∧meas tris (vis av S j)≤meas tris S:=by
  unfold vis
  split
  · exact ⟨h,Nat.le_refl _⟩
  · rename_i hh
    have hm:=ha _ (getD_mem hj)
    refine ⟨⟨Nat.zero_le _,fun x hx=> ?_,?_⟩,?_⟩
    · rw [List.mem_append,List.mem_singleton] at hx
      rcases hx with hx | rfl
      · exact h.2.1 x (List.mem_of_mem_drop hx)
      · exact hm
    · have:=unr_set hm (by simpa using hh)
      have:=mset_len (k:= .int .i64) true (av.getD j 0) S.2.2
      have:=h.2.2
      show (mset (.int .i64) S.2.2 (av.getD j 0) true).length+unr tris (mset (.int .i64) S.2.2 (av.getD j 0) true)≤_
      omega
    · have:=unr_set hm (by simpa using hh)
      show ((S.2.1.drop S.1++[av.getD j 0]).length - 0)+unr tris (mset (.int .i64) S.2.2 (av.getD j 0) true)≤meas tris S
      rw [List.length_append,List.length_drop,List.length_singleton]
      unfold meas
      omega
theorem viss_ok {tris av:List Int} {S:TgS} (h:TgOk tris S) (ha: ∀ x∈av,x∈tris): ∀ j,j≤av.length→TgOk tris (irec (vis av) S j)∧meas tris (irec (vis av) S j)≤meas tris S :=
  irec_inv (fun _ (T:TgS)=>TgOk tris T∧meas tris T≤meas tris S) ⟨h,Nat.le_refl _⟩ fun j T hj hT=>let ⟨a,b⟩:=vis_ok (j:=j) hT.1 hj ha;⟨a,Nat.le_trans b hT.2⟩
theorem tgW_ok {tris:List Int} {E:EndM} {c:Nat} (hE:EnOk tris c E) {v:Int} {t:P3} {S:TgS} (h:TgOk tris S) (k:Nat):TgOk tris (irec (tgW E v t) S k)∧meas tris (irec (tgW E v t) S k)≤meas tris S :=
  irec_inv (n:=k) (fun _ (T:TgS)=>TgOk tris T∧meas tris T≤meas tris S) ⟨h,Nat.le_refl _⟩ (fun j T _ hT=>by
    unfold tgW
    split
    · exact hT
    · obtain ⟨a,b⟩:=viss_ok hT.1 (hE _).2 _ (Nat.le_refl _)
      exact ⟨a,Nat.le_trans b hT.2⟩) k (Nat.le_refl _)
theorem pop_ok {tris:List Int} {S:TgS} (h:TgOk tris S) (hs:S.1<S.2.1.length):TgOk tris (S.1+1,S.2.1,S.2.2)∧meas tris (S.1+1,S.2.1,S.2.2)+1≤meas tris S :=
  ⟨⟨hs,h.2⟩,by unfold meas;show S.2.1.length - (S.1+1)+unr tris S.2.2+1≤_;omega⟩
theorem tgR_ok {tris:List Int} {E:EndM} {c:Nat} (hE:EnOk tris c E) {l:List P3} {v:Int} {S:TgS} {r:Nat} (h:TgOk tris S):TgOk tris (tgR E l v S r)∧(meas tris (tgR E l v S r)≤meas tris S)∧(S.1<S.2.1.length→meas tris (tgR E l v S r)+1≤meas tris S):=by
  unfold tgR
  split
  · rename_i hs
    obtain ⟨a,b⟩:=pop_ok h hs
    obtain ⟨c,d⟩:=tgW_ok hE (v:=v) (t:=tri l (S.2.1.getD S.1 0)) a 3
    exact ⟨c,by omega,fun _=>by omega⟩
  · rename_i hs
    exact ⟨h,Nat.le_refl _,fun e=>absurd e hs⟩
theorem tg_init {tris:List Int} {x0:Int} (_:x0∈tris):([(x0,true)]:ReM).length+unr tris [(x0,true)]≤tris.length+1:=by
  have:unr tris [(x0,true)]≤tris.length:=List.length_filter_le _ _
  simp only [List.length_singleton];omega
theorem meas_init {tris:List Int} {x0:Int} :meas tris (0,[x0],[(x0,true)])≤tris.length+1:=by
  have:unr tris [(x0,true)]≤tris.length:=List.length_filter_le _ _
  show 1+unr tris [(x0,true)]≤_
  omega
theorem tgS_ok {tris:List Int} {E:EndM} {c:Nat} (hE:EnOk tris c E) {l:List P3} {v x0:Int} (hx:x0∈tris) (r:Nat):TgOk tris (tgS E l v x0 r)∧meas tris (tgS E l v x0 r)≤meas tris (0,[x0],[(x0,true)]) :=
  irec_inv (n:=r) (fun _ (T:TgS)=>TgOk tris T∧meas tris T≤meas tris (0,[x0],[(x0,true)])) ⟨⟨Nat.zero_le _,fun x hx'=>by rw [List.mem_singleton] at hx';rw [hx'];exact hx,tg_init hx⟩,Nat.le_refl _⟩
    (fun j T _ hT=>let ⟨a,b,_⟩:=tgR_ok (r:=j) hE hT.1;⟨a,Nat.le_trans b hT.2⟩) r (Nat.le_refl _)
theorem tgS_stop {E:EndM} {l:List P3} {v x0:Int} {r:Nat} (h: ¬ (tgS E l v x0 r).1<(tgS E l v x0 r).2.1.length): ∀ d,tgS E l v x0 (r+d)=tgS E l v x0 r
  | 0=>rfl
  | d+1=>by
    show tgR E l v (tgS E l v x0 (r+d)) (r+d)=_
    rw [tgS_stop h d,tgR,if_neg h]
theorem tgS_go {E:EndM} {l:List P3} {v x0:Int} {r:Nat} (h:(tgS E l v x0 r).1<(tgS E l v x0 r).2.1.length) :
    tgS E l v x0 (r+1)=irec (tgW E v (tri l ((tgS E l v x0 r).2.1.getD (tgS E l v x0 r).1 0))) ((tgS E l v x0 r).1+1,(tgS E l v x0 r).2.1,(tgS E l v x0 r).2.2) 3:=by
  show tgR E l v (tgS E l v x0 r) r=_
  rw [tgR,if_pos h]
def tgP (S:TgS):TgS:=(S.1+1,S.2.1,S.2.2)
def tgT (l:List P3) (S:TgS):P3:=tri l (S.2.1.getD S.1 0)
def togR (l:List P3) (v:Int) (tris:List Int):Bool:=(((tgS (enA l v tris tris.length) l v (tris.getD 0 0) (2*tris.length+2)).2.2.length:Int)==(tris.length:Int))
def loopT1 (l:List P3) (v:Int) (tris:List Int):Spec Nat where
  inv x:=x≤tris.length
  live x:=[(22,.s (.int .i64 x))]
  keep:=[1,2,3,7,20,21]
  heap x:=[(1,.gmap (.int .i64) (.int .i64) (enA l v tris x))]
  keepH:=[0]
  mu x:=tris.length - x
def loopT2 (l:List P3) (v:Int) (tris:List Int) (j:Nat):Spec Nat where
  inv x:=x≤3
  live x:=[(31,.s (.int .i64 x))]
  keep:=[1,2,3,7,9,20,21,22,30]
  heap x:=[(1,.gmap (.int .i64) (.int .i64) (irec (enW v (tris.getD j 0) (tri l (tris.getD j 0))) (enA l v tris j) x))]
  keepH:=[0]
  mu x:=3 - x
def loopT3 (E:EndM) (l:List P3) (v x0:Int) (tris:List Int):Spec Nat where
  inv x:=x+meas tris (tgS E l v x0 x)≤2*tris.length+2
  live x:=[(13,.s (.own 3 (tgS E l v x0 x).1 ((tgS E l v x0 x).2.1.length - (tgS E l v x0 x).1)))]
  keep:=[1,2,3,7,12]
  heap x:=[(2,.map (.int .i64) .bool (tgS E l v x0 x).2.2),(3,.row (.int .i64) 3 (tgS E l v x0 x).2.1)]
  keepH:=[0,1]
  mu x:=meas tris (tgS E l v x0 x)
def loopT4 (E:EndM) (v:Int) (t:P3) (S:TgS):Spec Nat where
  inv x:=x≤3
  live x:=[(69,.s (.int .i64 x)),(13,.s (.own 3 (irec (tgW E v t) S x).1 ((irec (tgW E v t) S x).2.1.length - (irec (tgW E v t) S x).1)))]
  keep:=[1,2,3,7,12,14,68]
  heap x:=[(2,.map (.int .i64) .bool (irec (tgW E v t) S x).2.2),(3,.row (.int .i64) 3 (irec (tgW E v t) S x).2.1)]
  keepH:=[0,1]
  mu x:=3 - x
def loopT5 (av:List Int) (S:TgS):Spec Nat where
  inv x:=x≤av.length
  live x:=[(79,.s (.int .i64 x)),(13,.s (.own 3 (irec (vis av) S x).1 ((irec (vis av) S x).2.1.length - (irec (vis av) S x).1)))]
  keep:=[1,2,3,7,12,14,68,69,77,78]
  heap x:=[(2,.map (.int .i64) .bool (irec (vis av) S x).2.2),(3,.row (.int .i64) 3 (irec (vis av) S x).2.1)]
  keepH:=[0,1]
  mu x:=av.length - x
theorem take_rest {α:Type} (l:List α) (s:Nat):List.take (l.length - s) (List.drop s l)=List.drop s l:=List.take_of_length_le (by simp)
def fitT (l:List P3) (tris:List Int):Prop:=l.length≤8192∧tris.length≤24576∧tris≠[]∧∀ x∈tris,0≤x∧x<l.length
theorem tog_vc {fn} (n v:Int) (l:List P3) (tris:List Int) (hf:fitT l tris):afun ⟨tyL,fn,[]⟩ Try.f106 [soupE.av (n,l),(ETy.int .i64).av v,(ETy.sl (.int .i64)).av tris] (fun r=>r= .s (.bool (togR l v tris))):=by
  obtain ⟨h1,h2,h3,h4⟩:=hf
  have h5:0<tris.length:=List.length_pos_iff.2 h3
  repeat' (conv=>whnf
           first | done | refine qN (by first | rfl | omega | (simp only [i64ok] at *;omega)) ?_ | apply qH | refine qG fun _=> ?_ | apply qB | apply qa | apply qo | refine qe (fun _=> ?_) (fun _=> ?_) | refine qn (fun _=> ?_) (fun _=> ?_) | refine qd (fun _=> ?_) (fun _=> ?_) | apply qt | refine qi (fun _=> ?_) (fun _=> ?_) | (refine atReg 3 rfl ?_;refine Or.inr (Exists.intro (Nat) (Exists.intro (loopT1 l v tris) (And.intro (Exists.intro (0) (And.intro (Hold.out ?_) (And.intro ?_ (And.intro ?_ rfl)))) (fun x hx=> ?_))))) | ((with_reducible show (∃ y,And (Spec.inv (loopT1 _ _ _) y) _));refine Exists.intro (x+1) (And.intro (Hold.out ?_) (And.intro (And.intro ?_ (And.intro ?_ rfl)) (Hold.out ?_)))) | (refine atReg 6 rfl ?_;refine Or.inr (Exists.intro (Nat) (Exists.intro (loopT2 l v tris x) (And.intro (Exists.intro (0) (And.intro (Hold.out ?_) (And.intro ?_ (And.intro ?_ rfl)))) (fun y hy=> ?_))))) | ((with_reducible show (∃ y,And (Spec.inv (loopT2 _ _ _ _) y) _));refine Exists.intro (y+1) (And.intro (Hold.out ?_) (And.intro (And.intro ?_ (And.intro ?_ rfl)) (Hold.out ?_)))) | (refine atReg 14 rfl ?_;refine Or.inr (Exists.intro (Nat) (Exists.intro (loopT3 (enA l v tris tris.length) l v (tris.getD 0 0) tris) (And.intro (Exists.intro (0) (And.intro (Hold.out ?_) (And.intro ?_ (And.intro ?_ rfl)))) (fun z hz=> ?_))))) | ((with_reducible show (∃ y,And (Spec.inv (loopT3 _ _ _ _ _) y) _));refine Exists.intro (z+1) (And.intro (Hold.out ?_) (And.intro (And.intro ?_ (And.intro ?_ rfl)) (Hold.out ?_)))) | (refine atReg 18 rfl ?_;refine Or.inr (Exists.intro (Nat) (Exists.intro (loopT4 (enA l v tris tris.length) v (tgT l (tgS (enA l v tris tris.length) l v (tris.getD 0 0) z)) (tgP (tgS (enA l v tris tris.length) l v (tris.getD 0 0) z))) (And.intro (Exists.intro (0) (And.intro (Hold.out ?_) (And.intro ?_ (And.intro ?_ rfl)))) (fun k hk=> ?_))))) | ((with_reducible show (∃ y,And (Spec.inv (loopT4 _ _ _ _) y) _));refine Exists.intro (k+1) (And.intro (Hold.out ?_) (And.intro (And.intro ?_ (And.intro ?_ rfl)) (Hold.out ?_)))) | (refine atReg 22 rfl ?_;refine Or.inr (Exists.intro (Nat) (Exists.intro (loopT5 (endAt (enA l v tris tris.length) ((trl (tgT l (tgS (enA l v tris tris.length) l v (tris.getD 0 0) z))).getD k 0)) (irec (tgW (enA l v tris tris.length) v (tgT l (tgS (enA l v tris tris.length) l v (tris.getD 0 0) z))) (tgP (tgS (enA l v tris tris.length) l v (tris.getD 0 0) z)) k)) (And.intro (Exists.intro (0) (And.intro (Hold.out ?_) (And.intro ?_ (And.intro ?_ rfl)))) (fun j hj=> ?_))))) | ((with_reducible show (∃ y,And (Spec.inv (loopT5 _ _) y) _));refine Exists.intro (j+1) (And.intro (Hold.out ?_) (And.intro (And.intro ?_ (And.intro ?_ rfl)) (Hold.out ?_)))) | refine And.intro rfl ?_ | apply qE | apply qO | exact True.intro | apply qq | apply qs | refine qK (by kernel_rfl) ?_ | apply qr)
  all_goals try first | apply qz1 | apply qz2 | apply qz3 | apply qz4 | apply qz5 | apply qz6 | apply qz7 | apply qz8 | apply qz9 | apply qz0
  all_goals try simp only [take_one,take_one',set_one,take_all,qn1,rec_self,qn2,pair_eta,ETy.dflt,qn3,qn4,Int.reduceToNat,Int.reduceAdd,Int.reduceSub,Int.reduceNeg,Nat.reduceAdd,Nat.zero_add,loopT1,loopT2,loopT3,loopT4,loopT5,trl_def,tri_def,tgT,tgP,Nat.add_zero,mset_mset,endAt_def,endAt_same,had_def,had_def2,take_rest] at *
  all_goals try (refine qh ?_;omega)
  all_goals try (rw [enW_same (by assumption)];done)
  all_goals try (rw [enW_new (by assumption)];(try rfl);done)
  all_goals try (have e:x=tris.length:=by omega)
  all_goals try subst e
  all_goals try (refine qh ?_;omega)
  all_goals try (rw [tgW_same (by assumption)];done)
  all_goals try (rw [vis_same (by assumption)];done)
  all_goals try (rw [vis_new (by assumption)];(try simp);done)
  all_goals try (have e:j=(endAt (enA l v tris tris.length) ((trl (tgT l (tgS (enA l v tris tris.length) l v (tris.getD 0 0) z))).getD k 0)).length:=by (unfold tgT;omega)
                 subst e;rw [tgW_new (by assumption)];rfl)
  · exact qh (h4 _ (getD_mem (by omega)))
  · have:=(enWs_ok (enA_ok l v tris x (by omega)) (getD_mem (l:=tris) (j:=x) (by omega)) (v:=v) (t:=tri l (tris.getD x 0)) y ((trl (tri l (tris.getD x 0))).getD y 0)).1
    refine Hold.intro ⟨?_,trivial⟩
    unfold growFits
    simp only [List.length_cons,List.replicate_zero,List.length_nil]
    omega
  · have e:y=3:=by omega
    subst e;rfl
  · have:=meas_init (tris:=tris) (x0:=tris.getD 0 0)
    refine qh ?_
    show meas tris (0,[tris.getD 0 0],[(tris.getD 0 0,true)])≤_
    omega
  all_goals
    have hE:=enA_ok l v tris tris.length (Nat.le_refl _)
    obtain ⟨hS1,hS2⟩:=tgS_ok hE (l:=l) (v:=v) (getD_mem h5) z
    have hS3:=meas_init (tris:=tris) (x0:=tris.getD 0 0)
  · exact qh (h4 _ (hS1.2.1 _ (getD_mem (by omega))))
  · have hP:=pop_ok hS1 (by omega)
    have hW:=tgW_ok hE (v:=v) (t:=tgT l (tgS (enA l v tris tris.length) l v (tris.getD 0 0) z)) hP.1 k
    have hV:=viss_ok hW.1 (hE ((trl (tgT l (tgS (enA l v tris tris.length) l v (tris.getD 0 0) z))).getD k 0)).2 j (by assumption)
    have hM:=Nat.le_trans hV.2 hW.2
    have hL: ∀ S:TgS,S.2.1.length - S.1≤meas tris S:=fun S=>Nat.le_add_right _ _
    have hN:=Nat.le_trans (hL _) hM
    refine qh ?_
    simp only [tgT,pair_eta] at hN
    have hP2:=hP.2
    simp only [pair_eta] at hP2
    omega
  all_goals try (have e:k=3:=by omega)
  all_goals try subst e
  all_goals try (rw [tgS_go (by omega)];done)
  · have hP:=pop_ok hS1 (by omega)
    have hW:=tgW_ok hE (v:=v) (t:=tri l ((tgS (enA l v tris tris.length) l v (tris.getD 0 0) z).2.1.getD (tgS (enA l v tris tris.length) l v (tris.getD 0 0) z).1 0)) hP.1 3
    rw [← tgS_go (by omega)] at hW
    exact qh (by omega)
  · have hP:=pop_ok hS1 (by omega)
    have hW:=tgW_ok hE (v:=v) (t:=tri l ((tgS (enA l v tris tris.length) l v (tris.getD 0 0) z).2.1.getD (tgS (enA l v tris tris.length) l v (tris.getD 0 0) z).1 0)) hP.1 3
    rw [← tgS_go (by omega)] at hW
    exact qh (by omega)
  · have:=hS1.2.2
    exact qh (by omega)
  · have:=tgS_stop (E:=enA l v tris tris.length) (l:=l) (v:=v) (x0:=tris.getD 0 0) (r:=z) (by omega) (2*tris.length+2 - z)
    rw [show z+(2*tris.length+2 - z)=2*tris.length+2 by omega] at this
    rw [togR,this]
attribute [irreducible] togR
def togC:List AV→Option Res:=con3 soupE (.int .i64) (.sl (.int .i64)) (fun s v tris=>some (none,some (fitT s.2 tris),.s (.bool (togR s.2 v tris))))
theorem togRow:FnRow Try.prog 106 togC:=⟨con3_ok fun s v tris r h=>by cases h;exact fn_by (rulesF (fn:=[]) (fr:=[]) trivial trivial) Try.func106 (by kernel_rfl) fun _ h=>tog_vc s.1 v s.2 tris h,_,Try.func106,by kernel_rfl,by kernel_rfl⟩
end S1
open Go Go.Vm Go.Proofs
namespace S1
def hasV (t:P3) (v:Int):Prop:=t.1=v∨t.2.1=v∨t.2.2=v
def atP (s:List (List Int)) (w:Int) (j:Nat):List (List Int):=s.set w.toNat (s.getD w.toNat []++[(j:Int)])
def at3 (s:List (List Int)) (t:P3) (j:Nat):List (List Int):=atP (atP (atP s t.1 j) t.2.1 j) t.2.2 j
def atF (n:Nat) (l:List P3) (i:Nat):List (List Int):=irec (fun s j=>at3 s (l.getD j (0,0,0)) j) (List.replicate n []) i
def AtOk (n c b:Nat) (s:List (List Int)):Prop:=s.length=n∧∀ v,(s.getD v []).length≤c∧∀ x∈s.getD v [],0≤x∧x<(b:Int)
theorem atP_get (s:List (List Int)) (w:Int) (j v:Nat):(atP s w j).getD v []=if w.toNat=v∧v<s.length then s.getD v []++[(j:Int)] else s.getD v []:=by
  unfold atP
  simp only [gdE,List.getElem?_set]
  by_cases h1:w.toNat=v
  · subst h1
    by_cases h2:w.toNat<s.length
    · simp [h2]
    · simp [h2]
  · simp [h1]
theorem atP_len (s:List (List Int)) (w:Int) (j:Nat):(atP s w j).length=s.length:=by simp [atP]
theorem atP_ok {n c b:Nat} {s:List (List Int)} {w:Int} {j:Nat} (h:AtOk n c b s) (hj:j<b):AtOk n (c+1) b (atP s w j):=by
  refine ⟨by rw [atP_len];exact h.1,fun v=> ?_⟩
  rw [atP_get]
  split
  · have:=h.2 v
    refine ⟨by rw [List.length_append];simp only [List.length_singleton];omega,fun x hx=> ?_⟩
    rw [List.mem_append,List.mem_singleton] at hx
    rcases hx with hx | rfl
    · exact this.2 x hx
    · omega
  · exact ⟨by have:=(h.2 v).1;omega,(h.2 v).2⟩
theorem AtOk.more {n c b b':Nat} {s:List (List Int)} (h:AtOk n c b s) (hb:b≤b'):AtOk n c b' s :=
  ⟨h.1,fun v=>⟨(h.2 v).1,fun x hx=>by have:=(h.2 v).2 x hx;omega⟩⟩
theorem atF_ok (n:Nat) (l:List P3) (i:Nat):AtOk n (3*i) i (atF n l i) :=
  irec_inv (n:=i) (fun i (s:List (List Int))=>AtOk n (3*i) i s) ⟨by simp,fun v=>by
    have:(List.replicate n ([]:List Int)).getD v []=[]:=by
      rw [gdE,List.getElem?_replicate];split<;>rfl
    rw [this];simp⟩ (fun i s _ h=>by
    have h:=h.more (Nat.le_succ i)
    exact atP_ok (atP_ok (atP_ok h (Nat.lt_succ_self i)) (Nat.lt_succ_self i)) (Nat.lt_succ_self i)) i (Nat.le_refl _)
theorem app_ne {α:Type} {l:List α} {a:α} :l++[a]≠[]:=by simp
theorem atP_keep {s:List (List Int)} {w:Int} {j v:Nat} (h:s.getD v []≠[]):(atP s w j).getD v []≠[]:=by
  rw [atP_get];split
  · exact app_ne
  · exact h
theorem at3_new {s:List (List Int)} {t:P3} {j v:Nat} (hv:v<s.length) (h:hasV t v):(at3 s t j).getD v []≠[]:=by
  unfold at3
  rcases h with h | h | h
  · exact atP_keep (atP_keep (by rw [atP_get,if_pos ⟨by omega,hv⟩];exact app_ne))
  · exact atP_keep (by rw [atP_get,if_pos ⟨by omega,by rw [atP_len];exact hv⟩];exact app_ne)
  · rw [atP_get,if_pos ⟨by omega,by rw [atP_len,atP_len];exact hv⟩];exact app_ne
theorem atF_ne (n:Nat) (l:List P3) {v:Nat} (hv:v<n): ∀ i,(∃ j,j<i∧hasV (l.getD j (0,0,0)) v)→(atF n l i).getD v []≠[]
  | 0,⟨j,h,_⟩=>by omega
  | i+1,⟨j,hj,h⟩=>by
    show (at3 (atF n l i) (l.getD i (0,0,0)) i).getD v []≠[]
    by_cases e:j=i
    · subst e;exact at3_new (by rw [(atF_ok n l j).1];exact hv) h
    · exact atP_keep (atP_keep (atP_keep (atF_ne n l hv i ⟨j,by omega,h⟩)))
def covS (s:Int×List P3):Prop:= ∀ v:Nat,(v:Int)<s.1→∃ j,j<s.2.length∧hasV (s.2.getD j (0,0,0)) v
def piG (n:Nat) (l:List P3) (v:Nat):Option Wit:=if togR l v ((atF n l l.length).getD v []) then none else some (6,(v:Int),0)
def piL (n:Nat) (l:List P3) (v:Nat):List Wit:=(List.range v).filterMap (piG n l)
theorem pi_t {n:Nat} {l:List P3} {i:Nat} (h:togR l i ((atF n l l.length).getD i [])=true):piL n l (i+1)=piL n l i:=by
  rw [piL,fm_succ,piG,if_pos h];simp [piL]
theorem pi_f {n:Nat} {l:List P3} {i:Nat} (h:togR l i ((atF n l l.length).getD i [])=false):piL n l (i+1)=piL n l i++[(6,(i:Int),0)]:=by
  rw [piL,fm_succ,piG,if_neg (by rw [h];simp)];rfl
theorem piL_len (n:Nat) (l:List P3) (i:Nat):(piL n l i).length≤i:=fm_len _ _
def pinR (s:Int×List P3):List Wit:=piL s.1.toNat s.2 s.1.toNat
def loopV1 (n:Nat) (l:List P3):Spec Nat where
  inv x:=x≤l.length
  live x:=[(17,.s (.int .i64 x))]
  keep:=[1,3,15,16]
  heap x:=[(2,.grow (.int .i64) 27 (atF n l x))]
  keepH:=[0]
  mu x:=l.length - x
def loopV2 (n:Nat) (l:List P3):Spec Nat where
  inv x:=x≤n
  live x:=[(40,.s (.int .i64 x)),(8,.s (.own 3 0 (piL n l x).length))]
  keep:=[1,3,38,39]
  heap x:=[(3,.row witE 35 (piL n l x))]
  keepH:=[0,2]
  mu x:=n - x
theorem pinch_vc (n:Int) (l:List P3) (hf:fitS (n,l)∧covS (n,l)):afunF ⟨tyL,[(106,togC)],[]⟩ Try.f83 [soupE.av (n,l)] (fun v obs=>v= .s (.own 0 0 (pinR (n,l)).length)∧obs=[.row witE 35 (pinR (n,l))]):=by
  obtain ⟨⟨h1,h2,h3,h4⟩,h5⟩:=hf
  repeat' (conv=>whnf
           first | done | refine qN (by first | rfl | omega | (simp only [i64ok] at *;omega)) ?_ | apply qH | refine qG fun _=> ?_ | apply qB | apply qa | apply qo | refine qe (fun _=> ?_) (fun _=> ?_) | refine qn (fun _=> ?_) (fun _=> ?_) | refine qd (fun _=> ?_) (fun _=> ?_) | apply qt | refine qi (fun _=> ?_) (fun _=> ?_) | (refine atReg 3 rfl ?_;refine Or.inr (Exists.intro (Nat) (Exists.intro (loopV1 n.toNat l) (And.intro (Exists.intro (0) (And.intro (Hold.out ?_) (And.intro ?_ (And.intro ?_ rfl)))) (fun x hx=> ?_))))) | (refine atReg 6 rfl ?_;refine Or.inl (Exists.intro (4) ?_)) | ((with_reducible show (∃ y,And (Spec.inv (loopV1 _ _) y) _));refine Exists.intro (x+1) (And.intro (Hold.out ?_) (And.intro (And.intro ?_ (And.intro ?_ rfl)) (Hold.out ?_)))) | (refine atReg 13 rfl ?_;refine Or.inr (Exists.intro (Nat) (Exists.intro (loopV2 n.toNat l) (And.intro (Exists.intro (0) (And.intro (Hold.out ?_) (And.intro ?_ (And.intro ?_ rfl)))) (fun y hy=> ?_))))) | ((with_reducible show (∃ y,And (Spec.inv (loopV2 _ _) y) _));refine Exists.intro (y+1) (And.intro (Hold.out ?_) (And.intro (And.intro ?_ (And.intro ?_ rfl)) (Hold.out ?_)))) | refine And.intro rfl ?_ | apply qE | apply qO | exact True.intro | apply qq | apply qs | refine qK (by kernel_rfl) ?_ | apply qr)
  all_goals try first | apply qz1 | apply qz2 | apply qz3 | apply qz4 | apply qz5 | apply qz6 | apply qz7 | apply qz8 | apply qz9 | apply qz0
  all_goals try simp only [take_one,take_one',set_one,take_all,qn1,rec_self,qn2,pair_eta,ETy.dflt,qn3,qn4,Int.reduceToNat,Int.reduceAdd,Int.reduceSub,Int.reduceNeg,Nat.reduceAdd,Nat.zero_add,loopV1,loopV2] at *
  all_goals try (refine qh ?_;omega)
  all_goals try (have ht:=triIn_spec (h4 x (by omega));refine qh ?_;(try simp only [Int.toNat_of_nonneg h1]);omega)
  all_goals try rfl
  all_goals try
    (have ht:=triIn_spec (h4 x (by omega))
     have hA:=atF_ok n.toNat l x
     have hA1:=atP_ok (w:=(l.getD x (0,0,0)).1) (hA.more (Nat.le_succ x)) (Nat.lt_succ_self x)
     have hA2:=atP_ok (w:=(l.getD x (0,0,0)).2.1) hA1 (Nat.lt_succ_self x)
     first
      | (have hB:=(hA.2 (l.getD x (0,0,0)).1.toNat).1
         exact qh ⟨by unfold growFits;simp only [List.length_cons,List.replicate_zero,List.length_nil];omega,by omega,trivial⟩)
      | (have hB:=(hA1.2 (l.getD x (0,0,0)).2.1.toNat).1
         exact qh ⟨by unfold growFits;simp only [List.length_cons,List.replicate_zero,List.length_nil];unfold atP at hB;omega,by omega,trivial⟩)
      | (have hB:=(hA2.2 (l.getD x (0,0,0)).2.2.toNat).1
         exact qh ⟨by unfold growFits;simp only [List.length_cons,List.replicate_zero,List.length_nil];unfold atP at hB;omega,by omega,trivial⟩))
  all_goals try (have e:x=l.length:=by omega)
  all_goals try subst e
  all_goals try (refine qh ?_;have:=piL_len n.toNat l y;(try simp only [List.length_singleton]);omega)
  all_goals try (rw [pi_t (by assumption)];done)
  all_goals try (rw [pi_f (by assumption)];(try simp);done)
  · have hA:=atF_ok n.toNat l l.length
    exact qh ⟨h3,by have:=(hA.2 y).1;omega,atF_ne n.toNat l (by omega) l.length (h5 y (by omega)),(hA.2 y).2⟩
  all_goals (have e:y=n.toNat:=by omega
             subst e;rfl)
def pinchC:List AV→Option ResF:=con1 soupE (fun s=>some (none,some (fitS s∧covS s),.s (.own 0 0 (pinR s).length),[.row witE 35 (pinR s)]))
theorem pinchRow:FnRowF Try.prog 83 pinchC:=⟨con1_okF fun s r h=>by cases h;exact fn_byF (rulesF (fn:=[(106,togC)]) (fr:=[]) ⟨togRow,trivial⟩ trivial) Try.func83 (by kernel_rfl) fun _ h=>pinch_vc s.1 s.2 h,_,Try.func83,by kernel_rfl,by kernel_rfl⟩
abbrev i64E:ETy:= .int .i64
end S1
/- A call whose body is run in its caller's memory. -/
namespace Go.Vm
open Go.RowKit
section
variable {P:Program} {T:Tab} {B:Base} {w:World} {σ:Sig} {β:Places} {st:St} {tmps:Array Value}
theorem packE_get: ∀ (s:List Nat) (env:Env) (t:Nat),eget (packE s env) t= .junk∨(eget (packE s env) t=eget env t∧memB t s=false)
  | s,[],t=> .inl rfl
  | s, (k,v)::r,t=>by
    simp only [packE]
    split
    · rename_i hm
      rcases packE_get s r t with h | ⟨h,h2⟩
      · exact .inl h
      · by_cases e:k=t
        · subst e;rw [hm] at h2;cases h2
        · exact .inr ⟨by rw [h,eget_cons,if_neg e],h2⟩
    · rename_i hm
      rw [eget_cons,eget_cons]
      by_cases e:k=t
      · subst e
        rw [if_pos rfl,if_pos rfl]
        cases v with
        | s a=>exact .inr ⟨rfl,hm⟩
        | agg l=>exact .inr ⟨rfl,hm⟩
        | tup l=>exact .inl rfl
      · rw [if_neg e,if_neg e]
        rcases packE_get (k::s) r t with h | ⟨h,h2⟩
        · exact .inl h
        · refine .inr ⟨h,?_⟩
          simp only [memB] at h2
          split at h2
          · cases h2
          · exact h2
theorem pack_rep (h: ∀ t,VRep σ β (eget st.env t) (tmps.getD t undef)) (t:Nat):VRep σ β (eget (packE [] st.env) t) (tmps.getD t undef):=by
  rcases packE_get [] st.env t with e | ⟨e,_⟩
  · rw [e];trivial
  · rw [e];exact h t
theorem ga_call (h:GG B σ β st tmps w) {vals:List Value} {args:List AV} {N:Nat} (hv:VReps σ β args vals) (hN:args.length≤N) :
    GA {B with dfs:=[]} N ⟨argEnv 0 args,(st.next,.fr tmps (packE [] st.env))::st.hp,st.next+1⟩ {tmps:=vals.toArray++Array.replicate (N - vals.toArray.size) undef,defers:=[]} w:=by
  have hlen:=vreps_length hv
  have hlast:(β++[none])[st.next]? =some none:=by rw [← h.len];simp
  have hold: ∀ {id:Nat},id<st.next→(β++[none])[id]? =β[id]? :=fun hi=>by rw [List.getElem?_append_left];rw [h.len];exact hi
  refine ⟨rfl,by simp;omega,σ,β++[none],⟨h.mem.ag,fun id ob hi=> ?_⟩,fun t=> ?_,by simp [h.len],fun id ob p hi hp=> ?_,h.bel,h.grew⟩
  · simp only [hget_cons] at hi
    split at hi
    · rename_i e;subst e;cases hi
      exact ⟨hlast,fun t=>(pack_rep h.env t).more none⟩
    · exact (h.mem.ob _ _ hi).keep none (fun _ _=>rfl) fun _ _ _=>rfl
  · have hv':VReps σ (β++[none]) args vals:=(vreps_all2.2 ((vreps_all2.1 hv).mono fun _ _ h=>h.more none))
    have:=argEnv_rep (m:=N - vals.length) 0 hv' t
    simp only [Nat.not_lt_zero,if_false,Nat.sub_zero] at this
    have e:((vals.toArray++Array.replicate (N - vals.toArray.size) undef).getD t undef)=(vals++List.replicate (N - vals.length) undef).getD t undef:=by
      rw [show vals.toArray++Array.replicate (N - vals.toArray.size) undef=(vals++List.replicate (N - vals.length) undef).toArray by simp]
      simp [Array.getD_eq_getD_getElem?,gdE]
    show VRep σ _ (eget (argEnv 0 args) t) ((vals.toArray++Array.replicate (N - vals.toArray.size) undef).getD t undef)
    rw [e];exact this
  · simp only [hget_cons] at hi
    split at hi
    · rename_i e;subst e;rw [hlast] at hp;cases hp
    · have hlt:=h.id_lt hi
      rw [hold hlt] at hp
      obtain ⟨s1,s2,s3⟩:=h.sep _ _ _ hi hp
      refine ⟨s1,s2,fun id2 ob2 p2 hne2 hi2 hp2=> ?_⟩
      simp only [hget_cons] at hi2
      split at hi2
      · rename_i e;subst e;rw [hlast] at hp2;cases hp2
      · rw [hold (h.id_lt hi2)] at hp2
        exact s3 _ _ _ hne2 hi2 hp2
theorem inline_ok (R:Rules P T) {f:FuncId} {fn:Func} {c:Code} (hf:P.funcs[f]? =some fn) (hb:fn.body=some c) (hok:codeOk fn.ntmps c=true):RunOk P f (inlRun T fn):=by
  intro B σ β st tmps w args vals K hg hv hk
  unfold inlRun at hk
  rw [hb] at hk
  split at hk
  case h_2=>exact hk.elim
  rename_i c' hbc hble
  cases hbc
  have hk:=hk tmps
  rw [St.forceAll_eq] at hk
  have hga:=ga_call (N:=fn.ntmps) hg hv (Nat.le_of_ble_eq_true hble)
  refine (callsIn_of_wp (F:=Fence.wide) (n:=0) hf hb trivial ?_).calls (fun _ _ hd=>by cases hd)
  rw [← FR.none]
  refine acode_wp R c hok hga hk fun e st' a' w' hp h'=> ?_
  have fin:inlEnd T fn st.next tmps st' K→a'.defers=[]∧∃ v,(results fn a'.tmps).run P w'= .ok v w'∧∃ v' av st2 σ' β',(Ending.returned v)= .returned v'∧K av st2∧GG B σ' β' st2 tmps w'∧VRep σ' β' av v':=by
    intro hu
    unfold inlEnd at hu
    split at hu
    case h_2=>exact hu.elim
    rename_i X l hallok hfr
    rw [AV.force_eq,St.forceAll_eq] at hu
    obtain ⟨rfl,hu⟩:=hu
    obtain ⟨σ1,β1,hg1⟩:=h'.gg
    obtain ⟨vs,hrun,hall⟩:=results_run (P:=P) (w:=w') (fn:=fn) (tmps:=a'.tmps) (Q:=fun r v=>VRep σ1 β1 (rawOne T st' r) v) (fun r hr=>by
      have hro:=List.all_eq_true.1 hallok r hr
      cases r with
      | tmp t=>exact ⟨_,rfl,hg1.env t⟩
      | cell a t =>
        simp only [resOk] at hro
        simp only [rawOne]
        have hx:=hg1.env a
        split at hro
        · rename_i id i k hea
          rw [hea] at hx
          split at hro
          · rename_i v hv
            obtain ⟨p,_,hptr,_⟩:=hx
            obtain ⟨_,hrun⟩:=cLoad_sound (w:=w') R.ty R.one hg1.mem (t:=t) (hg1.env a) (p:=none) (q:=none) (v:=v) (by rw [hea];exact hv)
            obtain ⟨val,h1,h2⟩:=hrun trivial
            refine ⟨val,?_,h2⟩
            rw [hptr] at h1 ⊢
            rw [loadAt_run] at h1
            simp only [asAddr,Sem.run_bind,Sem.run_pure,Result.andThen_ok]
            exact h1
          · cases hro
        · cases hro)
    have hob:=hg1.mem.ob _ _ hfr
    have get: ∀ {i:Nat} {ob:Ob},hget (hdel st'.hp st.next) i=some ob→hget st'.hp i=some ob:=fun {i ob} e=>by
      rw [hget_hdel] at e
      split at e
      · cases e
      · exact e
    refine ⟨h'.defers,_,hrun,_,_,_,σ1,β1,rfl,hu,⟨⟨hg1.mem.ag,fun i ob hi=>hg1.mem.ob _ _ (get hi)⟩,hob.2,hg1.len,fun i ob p hi hp=> ?_,hg1.bel,hg1.grew⟩,rawAll_rep hall⟩
    obtain ⟨s1,s2,s3⟩:=hg1.sep _ _ _ (get hi) hp
    exact ⟨s1,s2,fun i2 ob2 p2 hne hi2 hp2=>s3 _ _ _ hne (get hi2) hp2⟩
  cases e with
  | normal=>exact fin hp
  | ret=>exact fin hp
  | _=>exact hp.elim
end
end Go.Vm
