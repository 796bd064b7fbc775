/- A part of the proofs of the laws. -/
import Derived.Test.YtahbknnehddjgaaGreatS1
set_option linter.unusedSimpArgs false
set_option linter.unusedVariables false
set_option maxHeartbeats 8000000
set_option maxRecDepth 100000
open Go Go.Vm Go.Proofs
namespace S1
abbrev P3:=Int×Int×Int
abbrev soupE:ETy:= .pair (.int .i64) (.sl .arr3)
abbrev witE:ETy:= .pair (.int .i64) (.pair (.int .i64) (.int .i64))
abbrev Wit:=Int×Int×Int
def FnRow (P : Program) (f : Nat) (c : List AV → Option Res) : Prop := (∀ args r, c args = some r → FnOk P f args r) ∧ ∃ fn, P.funcs[f]? = some fn ∧ (fn.name == "runtime.NumGoroutine") = false ∧ fn.body.isNone = false
theorem drop_at {α:Type} {l:List α} {i:Nat} (d:α) (h:i<l.length):l.drop i=l.getD i d::l.drop (i+1):=by
  rw [List.drop_eq_getElem_cons h]
  simp [gdE,h]
theorem drop_all {α:Type} {l:List α} {i:Nat} (h: ¬ (i:Int)<l.length):l.drop i=[]:=List.drop_eq_nil_of_le (by omega)
theorem drop_now {α:Type} {l:List α} {i:Nat} (d:α) (h:(i:Int)<l.length):l.drop i=l.getD i d::l.drop (i+1):=drop_at d (by omega)
theorem fm_succ {α:Type _} (f:Nat→Option α) (i:Nat):(List.range (i+1)).filterMap f=(List.range i).filterMap f++(f i).toList:=by
  rw [List.range_succ,List.filterMap_append];rfl
theorem fm_len {α:Type _} (f:Nat→Option α) (i:Nat):((List.range i).filterMap f).length≤i:=Nat.le_trans (List.length_filterMap_le _ _) (by simp)
def vIn (n v:Int):Bool:= !(decide (v<0)|| decide (v≥n))
def triIn (n:Int) (t:P3):Bool:=vIn n t.1&&(vIn n t.2.1&&vIn n t.2.2)
theorem vIn_spec {n v:Int} (h:vIn n v=true):0≤v∧v<n:=by simp [vIn] at h;omega
theorem triIn_spec {n:Int} {t:P3} (h:triIn n t=true):(0≤t.1∧t.1<n)∧(0≤t.2.1∧t.2.1<n)∧(0≤t.2.2∧t.2.2<n):=by
  simp only [triIn,Bool.and_eq_true] at h
  exact ⟨vIn_spec h.1,vIn_spec h.2.1,vIn_spec h.2.2⟩
theorem tri_bad {n:Int} {t:P3} (h:t.1<0∨t.1≥n∨t.2.1<0∨t.2.1≥n∨t.2.2<0∨t.2.2≥n):triIn n t=false:=by
  rw [← Bool.not_eq_true];intro e;have:=triIn_spec e;omega
theorem tri_good {n:Int} {t:P3} (h: ¬ (t.1<0∨t.1≥n∨t.2.1<0∨t.2.1≥n∨t.2.2<0∨t.2.2≥n)):triIn n t=true:=by
  simp only [triIn,vIn,Bool.and_eq_true,Bool.not_eq_true',Bool.or_eq_false_iff,decide_eq_false_iff_not];omega
def irec {S:Type} (f:S→Nat→S) (s:S):Nat→S
  | 0=>s
  | i+1=>f (irec f s i) i
theorem mget_same {k:ETy} {V:Type} (v:V) (q:k.T): ∀ m:List (k.T×V),mget k (mset k m q v) q=some v
  | []=>by
    simp only [mset,mget]
    cases k.decT q q with
    | isTrue h=>rfl
    | isFalse h=>exact absurd rfl h
  | (x,y)::r=>by
    simp only [mset]
    cases h1:k.decT x q with
    | isTrue h =>
      simp only [mget]
      cases k.decT x q with
      | isTrue h=>rfl
      | isFalse h2=>exact absurd h h2
    | isFalse h =>
      simp only [mget]
      cases k.decT x q with
      | isTrue h2=>exact absurd h2 h
      | isFalse h2=>exact mget_same v q r
theorem mget_other {k:ETy} {V:Type} (v:V) {q q':k.T} (hn:q≠q'): ∀ m:List (k.T×V),mget k (mset k m q v) q'=mget k m q'
  | []=>by
    simp only [mset,mget]
    cases k.decT q q' with
    | isTrue h=>exact absurd h hn
    | isFalse h=>rfl
  | (x,y)::r=>by
    simp only [mset]
    cases h1:k.decT x q with
    | isTrue h =>
      simp only [mget]
      cases k.decT x q' with
      | isTrue h2=>exact absurd (h.symm.trans h2) hn
      | isFalse h=>rfl
    | isFalse h =>
      simp only [mget]
      cases k.decT x q' with
      | isTrue h2=>rfl
      | isFalse h2=>exact mget_other v hn r
theorem mset_mset {k:ETy} {V:Type} (v v':V) (q:k.T): ∀ m:List (k.T×V),mset k (mset k m q v) q v'=mset k m q v'
  | []=>by
    simp only [mset]
    cases k.decT q q with
    | isTrue h=>rfl
    | isFalse h=>exact absurd rfl h
  | (x,y)::r=>by
    simp only [mset]
    cases h1:k.decT x q with
    | isTrue h=>simp only [mset,h1]
    | isFalse h=>simp only [mset,h1,mset_mset v v' q r]
def idxG (n:Int) (l:List P3) (i:Nat):Option Wit:=if triIn n (l.getD i (0,0,0)) then none else some (1,(i:Int),0)
def idxL (n:Int) (l:List P3) (i:Nat):List Wit:=(List.range i).filterMap (idxG n l)
theorem idx_t {n:Int} {l:List P3} {i:Nat} (h:triIn n (l.getD i (0,0,0))=true):idxL n l (i+1)=idxL n l i:=by
  rw [idxL,fm_succ,idxG,if_pos h];simp [idxL]
theorem idx_f {n:Int} {l:List P3} {i:Nat} (h:triIn n (l.getD i (0,0,0))=false):idxL n l (i+1)=idxL n l i++[(1,(i:Int),0)]:=by
  rw [idxL,fm_succ,idxG,if_neg (by rw [h];simp)];rfl
def bigR (s:Int×List P3):Bool:=decide (s.1<0)|| (decide (s.1>4096)|| decide ((s.2.length:Int)>8192))
def indexR (s:Int×List P3):List Wit:=if bigR s then [(1,-1,0)] else idxL s.1 s.2 s.2.length
def loopI (n:Int) (l:List P3):Spec Nat where
  inv x:=x≤l.length
  live x:=[(27,.s (.int .i64 x)),(3,.s (.own 2 0 (idxL n l x).length))]
  keep:=[1,25,26]
  heap x:=[(2,.row witE 64 (idxL n l x))]
  keepH:=[0]
  mu x:=l.length - x
theorem indexR_big {n:Int} {l:List P3} (h:n<0∨n>4096∨(l.length:Int)>8192):indexR (n,l)=[(1,-1,0)]:=by
  have:bigR (n,l)=true:=by simp only [bigR,Bool.or_eq_true,decide_eq_true_eq];omega
  rw [indexR,if_pos this]
theorem indexR_small {n:Int} {l:List P3} (h1: ¬ n<0) (h2: ¬ n>4096) (h3: ¬ (l.length:Int)>8192):indexR (n,l)=idxL n l l.length:=by
  have:bigR (n,l)=false:=by simp only [bigR,Bool.or_eq_false_iff,decide_eq_false_iff_not];omega
  rw [indexR,if_neg (by simp [this])]
theorem idxL_len (n:Int) (l:List P3) (i:Nat):(idxL n l i).length≤i:=fm_len _ _
theorem index_vc {fn} (n:Int) (l:List P3):afunF ⟨tyL,fn,[]⟩ Tryz.f99 [soupE.av (n,l)] (fun v obs=>v= .s (.own 0 0 (indexR (n,l)).length)∧obs=[.row witE 64 (indexR (n,l))]):=by
  repeat' (conv=>whnf
           first | done | refine qN (by first | rfl | omega | (simp only [i64ok] at *;omega)) ?_ | apply qH | refine qG fun _=> ?_ | apply qB | apply qa | apply qo | refine qe (fun _=> ?_) (fun _=> ?_) | refine qn (fun _=> ?_) (fun _=> ?_) | refine qd (fun _=> ?_) (fun _=> ?_) | apply qt | refine qi (fun _=> ?_) (fun _=> ?_) | (refine atReg 5 rfl ?_;refine Or.inr (Exists.intro (Nat) (Exists.intro (loopI n l) (And.intro (Exists.intro (0) (And.intro (Hold.out ?_) (And.intro ?_ (And.intro ?_ rfl)))) (fun x hx=> ?_))))) | (refine atReg 8 rfl ?_;refine Or.inl (Exists.intro (4) ?_)) | ((with_reducible show (∃ y,And (Spec.inv (loopI _ _) y) _));refine Exists.intro (x+1) (And.intro (Hold.out ?_) (And.intro (And.intro ?_ (And.intro ?_ rfl)) (Hold.out ?_)))) | refine And.intro rfl ?_ | apply qE | apply qO | exact True.intro | apply qq | apply qs | refine qK (by kernel_rfl) ?_ | apply qr)
  all_goals try first | apply qz1 | apply qz2 | apply qz3 | apply qz4 | apply qz5 | apply qz6 | apply qz7 | apply qz8 | apply qz9 | apply qz0
  all_goals try simp only [take_one,take_one',set_one,take_all,qn1,rec_self,qn2,pair_eta,ETy.dflt,qn3,qn4,Int.reduceToNat,Int.reduceAdd,Int.reduceSub,Int.reduceNeg,Nat.reduceAdd,Nat.zero_add,loopI] at *
  all_goals try (refine qh ?_;omega)
  all_goals try (refine qh ?_;have:=idxL_len n l x;(try simp only [List.length_singleton]);omega)
  all_goals try (rw [indexR_big (by omega)];done)
  all_goals try (rw [indexR_big (by omega)];rfl)
  all_goals try (rw [indexR_small (by assumption) (by assumption) (by assumption),show x=l.length by omega];done)
  all_goals try (rw [idx_f (tri_bad (by omega))];(try simp);done)
  all_goals try (rw [idx_t (tri_good (by omega))];done)
def indexC:List AV→Option ResF:=con1 soupE (fun s=>some (none,none,.s (.own 0 0 (indexR s).length),[.row witE 64 (indexR s)]))
theorem indexRow:FnRowF Tryz.prog 99 indexC:=⟨con1_okF fun s r h=>by cases h;exact fn_byF (rulesF (fn:=[]) (fr:=[]) trivial trivial) Tryz.func99 (by kernel_rfl) fun _ _=>index_vc s.1 s.2,_,Tryz.func99,by kernel_rfl,by kernel_rfl⟩
end S1
open Go Go.Vm Go.Proofs
namespace S1
theorem kit_int {k:IntKind} {m n:Int} (h:m=n):AV.s (.int k m)=AV.s (.int k n):=by rw [h]
def far1 (p q:Int):Int:=min ((p - q).natAbs:Int) 9223372036854775807
def farI (p q:Int×Int×Int):Int:=max (max (far1 p.1 q.1) (far1 p.2.1 q.2.1)) (far1 p.2.2 q.2.2)
theorem far1_eq (p q:Int) (hp:i64ok p) (hq:i64ok q):((min ((max p q - min p q) % 18446744073709551616) 9223372036854775807+9223372036854775808) % 18446744073709551616 - 9223372036854775808)=far1 p q:=by
  unfold i64ok at hp hq
  unfold far1
  have e:max p q - min p q=((p - q).natAbs:Int):=by omega
  rw [e];omega
theorem dfar_vc {fn} (p q:Int×Int×Int) (h:goodArgs [ETy.arr3.av p,ETy.arr3.av q]):afun ⟨tyL,fn,[]⟩ Tryz.f25 [ETy.arr3.av p,ETy.arr3.av q] (fun v=>v= .s (.int .i64 (farI p q))):=by
  obtain ⟨p0,p1,p2⟩:=p
  obtain ⟨q0,q1,q2⟩:=q
  obtain ⟨⟨h0,h1,h2,_⟩,⟨k0,k1,k2,_⟩,_⟩:=h
  repeat' (conv=>whnf
           first | refine Need.intro (by first | omega | (simp only [i64ok] at *;omega)) ?_ | refine qG fun _=> ?_ | refine Or.inl ⟨4,?_⟩ | refine qe (fun _=> ?_) (fun _=> ?_) | refine qd (fun _=> ?_) (fun _=> ?_))
  conv=>whnf
  refine kit_int ?_
  simp [farI,IntKind.wrap_u64,IntKind.wrap_i64]
  rw [far1_eq _ _ h0 k0,far1_eq _ _ h1 k1,far1_eq _ _ h2 k2]
  simp only [far1]
  omega
def dfarC:List AV→Option Res:=con2 .arr3 .arr3 (fun p q=>some (none,none,.s (.int .i64 (farI p q))))
theorem dfarRow:FnRow Tryz.prog 25 dfarC:=⟨con2_ok fun p q r h=>by cases h;exact fn_by (rulesF (fn:=[]) (fr:=[]) trivial trivial) Tryz.func25 (by kernel_rfl) fun hg _=>dfar_vc p q hg,_,Tryz.func25,by kernel_rfl,by kernel_rfl⟩
def badAny (n:Int):List Int→Bool
  | []=>false
  | k::r=>decide (k<0)|| decide (k≥n)|| badAny n r
def dcheckR (p:List P3) (image:List Int) (q:List P3):Int :=
  if (image.length:Int)≠p.length then 1 else if badAny q.length image then 2 else 0
def loopCheck (image:List Int) (n:Int):Spec Nat where
  inv i:=i≤image.length∧badAny n image=badAny n (image.drop i)
  live i:=[(16,.s (.int .i64 i))]
  keep:=[0,1,2,14,15]
  heap _:=[]
  keepH:=[]
  mu i:=image.length - i
theorem dcheck_vc {fn} (p:List P3) (image:List Int) (q:List P3):afun ⟨tyL,fn,[]⟩ Tryz.f46 [(ETy.sl .arr3).av p,(ETy.sl (.int .i64)).av image,(ETy.sl .arr3).av q] (fun v=>v= .s (.int .i64 (dcheckR p image q))):=by
  repeat' (conv=>whnf
           first | done | refine qN (by first | rfl | omega | (simp only [i64ok] at *;omega)) ?_ | apply qH | refine qG fun _=> ?_ | apply qB | apply qa | apply qo | refine qe (fun _=> ?_) (fun _=> ?_) | refine qn (fun _=> ?_) (fun _=> ?_) | refine qd (fun _=> ?_) (fun _=> ?_) | apply qt | refine qi (fun _=> ?_) (fun _=> ?_) | refine Or.inr (Exists.intro (Nat) (Exists.intro (loopCheck image q.length) (And.intro (Exists.intro (0) (And.intro (Hold.out ?_) (And.intro ?_ (And.intro ?_ rfl)))) (fun x hi=> ?_)))) | refine Exists.intro (x+1) (And.intro (Hold.out ?_) (And.intro (And.intro ?_ (And.intro ?_ rfl)) (Hold.out ?_))) | refine And.intro rfl ?_ | apply qE | apply qO | exact True.intro | apply qq | apply qs | refine qK (by kernel_rfl) ?_ | apply qr)
  · exact HoldEq.int (by simp [dcheckR, *])
  · exact qh ⟨Nat.zero_le _,rfl⟩
  · rename_i h1 h2
    refine HoldEq.int ?_
    have h2:image.getD x 0<0:=h2
    simp only [dcheckR]
    rw [if_neg (by omega),hi.2,drop_now 0 h1]
    simp only [badAny,decide_eq_true h2,Bool.true_or,if_true]
  · rename_i h1 h2 _ h3
    refine HoldEq.int ?_
    have h3:image.getD x 0≥q.length:=h3
    simp only [dcheckR]
    rw [if_neg (by omega),hi.2,drop_now 0 h1]
    simp only [badAny,decide_eq_true h3,Bool.true_or,Bool.or_true,if_true]
  · rename_i h1 h2 _ h3
    have h2: ¬ image.getD x 0<0:=h2
    have h3: ¬ image.getD x 0≥q.length:=h3
    refine Hold.intro ⟨by omega,?_⟩
    rw [hi.2,drop_now 0 h1]
    simp only [badAny,decide_eq_false h2,decide_eq_false h3,Bool.false_or]
  · rename_i h1 h2 _ h3
    refine qh ?_
    show image.length - (x+1)<image.length - x
    omega
  · rename_i h1
    refine HoldEq.int ?_
    simp only [dcheckR]
    rw [if_neg (by omega),hi.2,drop_all h1]
    rfl
def dcheckC:List AV→Option Res:=con3 (.sl .arr3) (.sl (.int .i64)) (.sl .arr3) (fun p im q=>some (none,none,.s (.int .i64 (dcheckR p im q))))
theorem dcheckRow:FnRow Tryz.prog 46 dcheckC:=⟨con3_ok fun p im q r h=>by cases h;exact fn_by (rulesF (fn:=[]) (fr:=[]) trivial trivial) Tryz.func46 (by kernel_rfl) fun _ _=>dcheck_vc p im q,_,Tryz.func46,by kernel_rfl,by kernel_rfl⟩
def farFold (p q:List P3):Nat→List Int→Int→Int
  | _,[],m=>m
  | i,k::r,m=>farFold p q (i+1) r (max m (farI (p.getD i (0,0,0)) (q.getD k.toNat (0,0,0))))
def moveR (p:List P3) (image:List Int) (q:List P3):Int×Int :=
  if dcheckR p image q≠0 then (0,dcheckR p image q) else (farFold p q 0 image 0,0)
def loopMove (p:List P3) (image:List Int) (q:List P3):Spec (Nat×Int) where
  inv x:=x.1≤image.length∧farFold p q 0 image 0=farFold p q x.1 (image.drop x.1) x.2
  live x:=[(21,.s (.int .i64 x.1)),(9,.s (.int .i64 x.2))]
  keep:=[0,1,2,19,20]
  heap _:=[]
  keepH:=[]
  mu x:=image.length - x.1
theorem bad_at {n:Int} : ∀ {l:List Int} {i:Nat},badAny n l=false→i<l.length→0≤l.getD i 0∧l.getD i 0<n
  | [],i,_,h=>by simp at h
  | k::r,0,hb,_=>by
    simp [badAny] at hb
    simp;omega
  | k::r,i+1,hb,h=>by
    simp [badAny] at hb
    simpa using bad_at hb.2 (by simpa using h)
theorem check_zero {p:List P3} {image:List Int} {q:List P3} (h: ¬ dcheckR p image q≠0):image.length=p.length∧badAny q.length image=false:=by
  unfold dcheckR at h
  split at h
  · omega
  · split at h
    · omega
    · rename_i h1 h2;exact ⟨by omega,by simpa using h2⟩
theorem dmove_vc (p:List P3) (image:List Int) (q:List P3):afun ⟨tyL,[(25,dfarC),(46,dcheckC)],[]⟩ Tryz.f22 [(ETy.sl .arr3).av p,(ETy.sl (.int .i64)).av image,(ETy.sl .arr3).av q]
    (fun v=>v= .tup [.s (.int .i64 (moveR p image q).1),.s (.int .i64 (moveR p image q).2)]):=by
  repeat' (conv=>whnf
           first | done | refine qN (by first | rfl | omega | (simp only [i64ok] at *;omega)) ?_ | apply qH | refine qG fun _=> ?_ | apply qB | apply qa | apply qo | refine qe (fun _=> ?_) (fun _=> ?_) | refine qn (fun _=> ?_) (fun _=> ?_) | refine qd (fun _=> ?_) (fun _=> ?_) | apply qt | refine qi (fun _=> ?_) (fun _=> ?_) | refine Or.inr (Exists.intro (Nat×Int) (Exists.intro (loopMove p image q) (And.intro (Exists.intro ((0,0)) (And.intro (Hold.out ?_) (And.intro ?_ (And.intro ?_ rfl)))) (fun x hi=> ?_)))) | refine Exists.intro ((x.1+1,max x.2 (farI (p.getD x.1 (0,0,0)) (q.getD (image.getD x.1 0).toNat (0,0,0))))) (And.intro (Hold.out ?_) (And.intro (And.intro ?_ (And.intro ?_ rfl)) (Hold.out ?_))) | refine And.intro rfl ?_ | apply qE | apply qO | exact True.intro | apply qq | apply qs | refine qK (by kernel_rfl) ?_ | apply qr)
  · rename_i h0
    have h0:dcheckR p image q≠0:=h0
    refine HoldEq.intro ?_
    simp only [moveR,if_pos h0]
  · exact qh ⟨Nat.zero_le _,rfl⟩
  · rename_i h0 _ h1
    have h0:dcheckR p image q=0:=h0
    have:=(check_zero (p:=p) (image:=image) (q:=q) (by omega)).1
    exact qh (by omega)
  · rename_i h0 _ h1
    have h0:dcheckR p image q=0:=h0
    exact qh (bad_at (check_zero (p:=p) (image:=image) (q:=q) (by omega)).2 (by omega))
  · rename_i h0 _ h1
    have hi:_∧_:=hi
    refine Hold.intro ⟨by omega,?_⟩
    rw [hi.2,drop_now 0 h1];rfl
  · refine qh ?_
    show image.length - (x.1+1)<image.length - x.1
    omega
  · rename_i h0 _ h1
    have h0:dcheckR p image q=0:=h0
    have hi:_∧_:=hi
    refine HoldEq.intro ?_
    simp only [moveR,if_neg (show ¬ dcheckR p image q≠0 by omega)]
    rw [hi.2,drop_all h1];rfl
def dmoveC:List AV→Option Res:=con3 (.sl .arr3) (.sl (.int .i64)) (.sl .arr3) (fun p im q=>some (none,none,.tup [.s (.int .i64 (moveR p im q).1),.s (.int .i64 (moveR p im q).2)]))
theorem dmoveRow:FnRow Tryz.prog 22 dmoveC:=⟨con3_ok fun p im q r h=>by cases h;exact fn_by (rulesF (fn:=[(25,dfarC),(46,dcheckC)]) (fr:=[]) ⟨dfarRow,dcheckRow,trivial⟩ trivial) Tryz.func22 (by kernel_rfl) fun _ _=>dmove_vc p im q,_,Tryz.func22,by kernel_rfl,by kernel_rfl⟩
def dgreatR (s:Int×List P3):Bool:=decide ((s.2.length:Int)>40)|| decide (s.1>120)
theorem dgreat_vc {fn} (s:Int×List P3):afun ⟨tyL,fn,[]⟩ Tryz.f74 [soupE.av s] (fun v=>v= .s (.bool (dgreatR s))):=by
  repeat' (conv=>whnf
           first | done | refine qN (by first | rfl | omega | (simp only [i64ok] at *;omega)) ?_ | apply qH | refine qG fun _=> ?_ | apply qB | apply qa | apply qo | refine qe (fun _=> ?_) (fun _=> ?_) | refine qn (fun _=> ?_) (fun _=> ?_) | refine qd (fun _=> ?_) (fun _=> ?_) | apply qt | refine qi (fun _=> ?_) (fun _=> ?_) | refine And.intro rfl ?_ | apply qE | apply qO | exact True.intro | apply qq | apply qs | refine qK (by kernel_rfl) ?_ | apply qr)
  all_goals refine HoldEq.bool ?_
  all_goals simp [dgreatR, *]
def dgreatC:List AV→Option Res:=con1 soupE (fun s=>some (none,none,.s (.bool (dgreatR s))))
theorem dgreatRow:FnRow Tryz.prog 74 dgreatC:=⟨con1_ok fun s r h=>by cases h;exact fn_by (rulesF (fn:=[]) (fr:=[]) trivial trivial) Tryz.func74 (by kernel_rfl) fun _ _=>dgreat_vc s,_,Tryz.func74,by kernel_rfl,by kernel_rfl⟩
def coordOk (x:Int):Bool:= !(decide (x>536870912)|| decide (x< -536870912))
def ptOk (p:P3):Bool:=coordOk p.1&&(coordOk p.2.1&&coordOk p.2.2)
def dsmallR (l:List P3):Bool:=l.all ptOk&&decide ((l.length:Int)≤120)
def loopSmall (l:List P3):Spec Nat where
  inv i:=i≤l.length∧l.all ptOk=(l.drop i).all ptOk
  live i:=[(3,.s (.int .i64 i))]
  keep:=[0]
  heap _:=[]
  keepH:=[]
  mu i:=l.length - i
theorem dsmall_vc {fn} (l:List P3):afun ⟨tyL,fn,[]⟩ Tryz.f19 [(ETy.sl .arr3).av l] (fun v=>v= .s (.bool (dsmallR l))):=by
  repeat' (conv=>whnf
           first | done | refine qN (by first | rfl | omega | (simp only [i64ok] at *;omega)) ?_ | apply qH | refine qG fun _=> ?_ | apply qB | apply qa | apply qo | refine qe (fun _=> ?_) (fun _=> ?_) | refine qn (fun _=> ?_) (fun _=> ?_) | refine qd (fun _=> ?_) (fun _=> ?_) | apply qt | refine qi (fun _=> ?_) (fun _=> ?_) | refine And.intro rfl ?_ | apply qE | apply qO | exact True.intro | apply qq | apply qs | refine qK (by kernel_rfl) ?_ | apply qr)
  refine HoldOr.intro ?_
  refine Or.inr (Exists.intro (Nat) (Exists.intro (loopSmall l) (And.intro (Exists.intro (0) (And.intro (Hold.out ?_) (And.intro ?_ (And.intro ?_ rfl)))) (fun x hi=> ?_))))
  repeat' (conv=>whnf
           first | done | refine qN (by first | rfl | omega | (simp only [i64ok] at *;omega)) ?_ | apply qH | refine qG fun _=> ?_ | apply qB | apply qa | apply qo | refine qe (fun _=> ?_) (fun _=> ?_) | refine qn (fun _=> ?_) (fun _=> ?_) | refine qd (fun _=> ?_) (fun _=> ?_) | apply qt | refine qi (fun _=> ?_) (fun _=> ?_) | refine Or.inl (Exists.intro (4) ?_) | refine Exists.intro (x+1) (And.intro (Hold.out ?_) (And.intro (And.intro ?_ (And.intro ?_ rfl)) (Hold.out ?_))) | refine And.intro rfl ?_ | apply qE | apply qO | exact True.intro | apply qq | apply qs | refine qK (by kernel_rfl) ?_ | apply qr)
  · exact qh ⟨Nat.zero_le _,rfl⟩
  all_goals (try (refine HoldEq.bool ?_;simp only [dsmallR];rw [show l.all ptOk=(l.drop x).all ptOk from hi.2,drop_now ETy.arr3.dflt (by omega)];simp [ptOk,coordOk,-List.all_eq_true] at *;omega))
  all_goals (try (refine HoldEq.bool ?_;simp only [dsmallR];rw [show l.all ptOk=(l.drop x).all ptOk from hi.2,drop_all (by omega)];simp;done))
  · refine Hold.intro ⟨by omega,?_⟩
    have hp:ptOk (l.getD x ETy.arr3.dflt)=true:=by simp [ptOk,coordOk] at *;omega
    rw [show l.all ptOk=(l.drop x).all ptOk from hi.2,drop_now ETy.arr3.dflt (by omega),List.all_cons,hp,Bool.true_and]
  · refine qh ?_
    show l.length - (x+1)<l.length - x
    omega
def dsmallC:List AV→Option Res:=con1 (.sl .arr3) (fun s=>some (none,none,.s (.bool (dsmallR s))))
theorem dsmallRow:FnRow Tryz.prog 19 dsmallC:=⟨con1_ok fun s r h=>by cases h;exact fn_by (rulesF (fn:=[]) (fr:=[]) trivial trivial) Tryz.func19 (by kernel_rfl) fun _ _=>dsmall_vc s,_,Tryz.func19,by kernel_rfl,by kernel_rfl⟩
def sq (p q:Int):Int:=(p - q)*(p - q)
def sqR (p q:P3):Int:=sq p.1 q.1+sq p.2.1 q.2.1+sq p.2.2 q.2.2
def ptNear (p q:P3):Prop:=ptOk p=true∧ptOk q=true
theorem sq_le (a:Int) (h1: -1073741824≤a) (h2:a≤1073741824):0≤a*a∧a*a≤1152921504606846976:=by
  have e:a*a=((a.natAbs*a.natAbs:Nat):Int):=by rw [Int.natAbs_mul_self]
  have:a.natAbs*a.natAbs≤1073741824*1073741824:=Nat.mul_le_mul (by omega) (by omega)
  omega
theorem dsq_vc {fn} (p q:P3) (h:ptNear p q):afun ⟨tyL,fn,[]⟩ Tryz.f42 [ETy.arr3.av p,ETy.arr3.av q] (fun v=>v= .s (.int .i64 (sqR p q))):=by
  simp [ptNear,ptOk,coordOk] at h
  have b1:=sq_le (p.1 - q.1) (by omega) (by omega)
  have b2:=sq_le (p.2.1 - q.2.1) (by omega) (by omega)
  have b3:=sq_le (p.2.2 - q.2.2) (by omega) (by omega)
  repeat' (conv=>whnf
           first | done | refine qN (by first | rfl | omega | (simp only [i64ok] at *;omega)) ?_ | apply qH | refine qG fun _=> ?_ | apply qB | apply qa | apply qo | refine qe (fun _=> ?_) (fun _=> ?_) | refine qn (fun _=> ?_) (fun _=> ?_) | refine qd (fun _=> ?_) (fun _=> ?_) | apply qt | refine qi (fun _=> ?_) (fun _=> ?_) | refine Or.inl (Exists.intro (4) ?_) | refine And.intro rfl ?_ | apply qE | apply qO | exact True.intro | apply qq | apply qs | refine qK (by kernel_rfl) ?_ | apply qr)
  all_goals first
    | (refine qh ?_;simp [i64ok];omega)
    | (refine HoldEq.int ?_;simp [sqR,sq])
def dsqC:List AV→Option Res:=con2 .arr3 .arr3 (fun p q=>some (none,some (ptNear p q),.s (.int .i64 (sqR p q))))
theorem dsqRow:FnRow Tryz.prog 42 dsqC:=⟨con2_ok fun p q r h=>by cases h;exact fn_by (rulesF (fn:=[]) (fr:=[]) trivial trivial) Tryz.func42 (by kernel_rfl) fun _ h=>dsq_vc p q h,_,Tryz.func42,by kernel_rfl,by kernel_rfl⟩
def sw1 (t:P3):P3:=if t.1>t.2.1 then (t.2.1,t.1,t.2.2) else t
def sw2 (t:P3):P3:=if t.2.1>t.2.2 then (t.1,t.2.2,t.2.1) else t
def sortR (t:P3):P3:=sw1 (sw2 (sw1 t))
theorem sw1_pos {a b c:Int} (h:a>b):sw1 (a,b,c)=(b,a,c):=if_pos h
theorem sw1_neg {a b c:Int} (h: ¬ a>b):sw1 (a,b,c)=(a,b,c):=if_neg h
theorem sw2_pos {a b c:Int} (h:b>c):sw2 (a,b,c)=(a,c,b):=if_pos h
theorem sw2_neg {a b c:Int} (h: ¬ b>c):sw2 (a,b,c)=(a,b,c):=if_neg h
theorem dsort_vc {fn} (t:P3):afun ⟨tyL,fn,[]⟩ Tryz.f49 [ETy.arr3.av t] (fun v=>v=ETy.arr3.av (sortR t)):=by
  obtain ⟨a,b,c⟩:=t
  repeat' (conv=>whnf
           first | done | refine qN (by first | rfl | omega | (simp only [i64ok] at *;omega)) ?_ | apply qH | refine qG fun _=> ?_ | apply qB | apply qa | apply qo | refine qe (fun _=> ?_) (fun _=> ?_) | refine qn (fun _=> ?_) (fun _=> ?_) | refine qd (fun _=> ?_) (fun _=> ?_) | apply qt | refine qi (fun _=> ?_) (fun _=> ?_) | refine And.intro rfl ?_ | apply qE | apply qO | exact True.intro | apply qq | apply qs | refine qK (by kernel_rfl) ?_ | apply qr)
  all_goals rename_i h1 h2 h3
  all_goals refine HoldEq.intro ?_
  all_goals unfold sortR
  all_goals (first | rw [sw1_pos h1] | rw [sw1_neg h1])
  all_goals (first | rw [sw2_pos h2] | rw [sw2_neg h2])
  all_goals (first | rw [sw1_pos h3] | rw [sw1_neg h3])
  all_goals rfl
def dsortC:List AV→Option Res:=con1 .arr3 (fun t=>some (none,none,ETy.arr3.av (sortR t)))
theorem dsortRow:FnRow Tryz.prog 49 dsortC:=⟨con1_ok fun s r h=>by cases h;exact fn_by (rulesF (fn:=[]) (fr:=[]) trivial trivial) Tryz.func49 (by kernel_rfl) fun _ _=>dsort_vc s,_,Tryz.func49,by kernel_rfl,by kernel_rfl⟩
def fitsR (s:Int×List P3):Bool:=s.2.all (triIn s.1)
def loopFits (n:Int) (l:List P3):Spec Nat where
  inv i:=i≤l.length∧l.all (triIn n)=(l.drop i).all (triIn n)
  live i:=[(10,.s (.int .i64 i))]
  keep:=[0,1,8,9]
  heap _:=[]
  keepH:=[0]
  mu i:=l.length - i
theorem dfits_vc {fn} (n:Int) (l:List P3):afun ⟨tyL,fn,[]⟩ Tryz.f47 [soupE.av (n,l)] (fun v=>v= .s (.bool (fitsR (n,l)))):=by
  repeat' (conv=>whnf
           first | done | refine qN (by first | rfl | omega | (simp only [i64ok] at *;omega)) ?_ | apply qH | refine qG fun _=> ?_ | apply qB | apply qa | apply qo | refine qe (fun _=> ?_) (fun _=> ?_) | refine qn (fun _=> ?_) (fun _=> ?_) | refine qd (fun _=> ?_) (fun _=> ?_) | apply qt | refine qi (fun _=> ?_) (fun _=> ?_) | refine And.intro rfl ?_ | apply qE | apply qO | exact True.intro | apply qq | apply qs | refine qK (by kernel_rfl) ?_ | apply qr)
  refine HoldOr.intro ?_
  refine Or.inr (Exists.intro (Nat) (Exists.intro (loopFits n l) (And.intro (Exists.intro (0) (And.intro (Hold.out ?_) (And.intro ?_ (And.intro ?_ rfl)))) (fun x hi=> ?_))))
  repeat' (conv=>whnf
           first | done | refine qN (by first | rfl | omega | (simp only [i64ok] at *;omega)) ?_ | apply qH | refine qG fun _=> ?_ | apply qB | apply qa | apply qo | refine qe (fun _=> ?_) (fun _=> ?_) | refine qn (fun _=> ?_) (fun _=> ?_) | refine qd (fun _=> ?_) (fun _=> ?_) | apply qt | refine qi (fun _=> ?_) (fun _=> ?_) | refine Or.inl (Exists.intro (4) ?_) | refine Exists.intro (x+1) (And.intro (Hold.out ?_) (And.intro (And.intro ?_ (And.intro ?_ rfl)) (Hold.out ?_))) | refine And.intro rfl ?_ | apply qE | apply qO | exact True.intro | apply qq | apply qs | refine qK (by kernel_rfl) ?_ | apply qr)
  · exact qh ⟨Nat.zero_le _,rfl⟩
  all_goals (try dsimp only at *)
  all_goals (try (refine HoldEq.bool ?_;simp only [fitsR];rw [show l.all (triIn n)=(l.drop x).all (triIn n) from hi.2,drop_now ETy.arr3.dflt (by omega)];simp [triIn,vIn,-List.all_eq_true] at *;omega))
  all_goals (try (refine HoldEq.bool ?_;simp only [fitsR];rw [show l.all (triIn n)=(l.drop x).all (triIn n) from hi.2,drop_all (by omega)];simp;done))
  · refine Hold.intro ⟨by omega,?_⟩
    have hp:triIn n (l.getD x ETy.arr3.dflt)=true:=by simp [triIn,vIn] at *;omega
    rw [show l.all (triIn n)=(l.drop x).all (triIn n) from hi.2,drop_now ETy.arr3.dflt (by omega),List.all_cons,hp,Bool.true_and]
  · refine qh ?_
    show l.length - (x+1)<l.length - x
    omega
def dfitsC:List AV→Option Res:=con1 soupE (fun s=>some (none,none,.s (.bool (fitsR s))))
theorem dfitsRow:FnRow Tryz.prog 47 dfitsC:=⟨con1_ok fun s r h=>by cases h;exact fn_by (rulesF (fn:=[]) (fr:=[]) trivial trivial) Tryz.func47 (by kernel_rfl) fun _ _=>dfits_vc s.1 s.2,_,Tryz.func47,by kernel_rfl,by kernel_rfl⟩
abbrev M2:=List (ETy.arr2.T×ETy.bool.T)
abbrev M3:=List (ETy.arr3.T×ETy.bool.T)
def dedge (a b:Int):Int×Int:=(min a b,max a b)
def addE (m:M2) (t:P3):M2:=mset .arr2 (mset .arr2 (mset .arr2 m (dedge t.1 t.2.1) true) (dedge t.2.1 t.2.2) true) (dedge t.2.2 t.1) true
def knownR:List P3→M2→M3→M2×M3
  | [],m,k=>(m,k)
  | t::l,m,k=>knownR l (addE m t) (mset .arr3 k (sortR t) true)
def loopKnown (l:List P3):Spec (Nat×M2×M3) where
  inv x:=x.1≤l.length∧knownR l [] []=knownR (l.drop x.1) x.2.1 x.2.2
  live x:=[(16,.s (.int .i64 x.1))]
  keep:=[0,1,4,5,14,15]
  heap x:=[(1,.map .arr2 .bool x.2.1),(2,.map .arr3 .bool x.2.2)]
  keepH:=[0]
  mu x:=l.length - x.1
theorem dknown_vc (n:Int) (l:List P3):afun ⟨tyL,[(49,dsortC)],[]⟩ Tryz.f48 [soupE.av (n,l)] (fun v=>v= .tup [.s (.mp .arr2 .bool (knownR l [] []).1),.s (.mp .arr3 .bool (knownR l [] []).2)]):=by
  repeat' (conv=>whnf
           first | done | refine qN (by first | rfl | omega | (simp only [i64ok] at *;omega)) ?_ | apply qH | refine qG fun _=> ?_ | apply qB | apply qa | apply qo | refine qe (fun _=> ?_) (fun _=> ?_) | refine qn (fun _=> ?_) (fun _=> ?_) | refine qd (fun _=> ?_) (fun _=> ?_) | apply qt | refine qi (fun _=> ?_) (fun _=> ?_) | refine And.intro rfl ?_ | apply qE | apply qO | exact True.intro | apply qq | apply qs | refine qK (by kernel_rfl) ?_ | apply qr)
  refine HoldOr.intro ?_
  refine Or.inr (Exists.intro (Nat×M2×M3) (Exists.intro (loopKnown l) (And.intro (Exists.intro ((0,[],[])) (And.intro (Hold.out ?_) (And.intro ?_ (And.intro ?_ rfl)))) (fun x hi=> ?_))))
  repeat' (conv=>whnf
           first | done | refine qN (by first | rfl | omega | (simp only [i64ok] at *;omega)) ?_ | apply qH | refine qG fun _=> ?_ | apply qB | apply qa | apply qo | refine qe (fun _=> ?_) (fun _=> ?_) | refine qn (fun _=> ?_) (fun _=> ?_) | refine qd (fun _=> ?_) (fun _=> ?_) | apply qt | refine qi (fun _=> ?_) (fun _=> ?_) | refine Or.inl (Exists.intro (4) ?_) | refine Exists.intro ((x.1+1,addE x.2.1 (l.getD x.1 ETy.arr3.dflt),mset .arr3 x.2.2 (sortR (l.getD x.1 ETy.arr3.dflt)) true)) (And.intro (Hold.out ?_) (And.intro (And.intro ?_ (And.intro ?_ rfl)) (Hold.out ?_))) | refine And.intro rfl ?_ | apply qE | apply qO | exact True.intro | apply qq | apply qs | refine qK (by kernel_rfl) ?_ | apply qr)
  · exact qh ⟨Nat.zero_le _,rfl⟩
  · exact qh (by decide)
  · exact qh (by decide)
  · exact qh (by decide)
  all_goals (try dsimp only at *)
  · have hi:_∧_:=hi
    refine Hold.intro ⟨by omega,?_⟩
    rw [hi.2,drop_now ETy.arr3.dflt (by omega)];rfl
  · refine qh ?_
    show l.length - (x.1+1)<l.length - x.1
    omega
  · have hi:_∧_:=hi
    refine HoldEq.intro ?_
    rw [hi.2,drop_all (by omega)];rfl
def dknownC:List AV→Option Res:=con1 soupE (fun s=>some (none,none,.tup [.s (.mp .arr2 .bool (knownR s.2 [] []).1),.s (.mp .arr3 .bool (knownR s.2 [] []).2)]))
theorem dknownRow:FnRow Tryz.prog 48 dknownC:=⟨con1_ok fun s r h=>by cases h;exact fn_by (rulesF (fn:=[(49,dsortC)]) (fr:=[]) ⟨dsortRow,trivial⟩ trivial) Tryz.func48 (by kernel_rfl) fun _ _=>dknown_vc s.1 s.2,_,Tryz.func48,by kernel_rfl,by kernel_rfl⟩
def imgOf (image:List Int) (t:P3):P3:=sortR (image.getD t.1.toNat 0,image.getD t.2.1.toNat 0,image.getD t.2.2.toNat 0)
def simpT (m:M2) (k:M3) (image:List Int) (t:P3):Bool :=
  if (imgOf image t).1=(imgOf image t).2.2 then true
  else if (imgOf image t).1=(imgOf image t).2.1∨(imgOf image t).2.1=(imgOf image t).2.2 then (mget .arr2 m ((imgOf image t).1,(imgOf image t).2.2)).getD false
  else (mget .arr3 k (imgOf image t)).getD false
def simpG (fine coarse:Int×List P3) (image:List Int):Bool :=
  (image.length:Int)==max fine.1 0&&(fitsR fine&&(fitsR coarse&&((image.length:Int)==fine.1&& !badAny coarse.1 image)))
def simpR (fine coarse:Int×List P3) (image:List Int):Bool :=
  simpG fine coarse image&&fine.2.all (simpT (knownR coarse.2 [] []).1 (knownR coarse.2 [] []).2 image)
def dloopS1 (image:List Int) (n:Int):Spec Nat where
  inv i:=i≤image.length∧badAny n image=badAny n (image.drop i)
  live i:=[(39,.s (.int .i64 i))]
  keep:=[2,3,4,37,38]
  heap _:=[]
  keepH:=[0,1]
  mu i:=image.length - i
def dloopS2 (l:List P3) (f:P3→Bool):Spec Nat where
  inv i:=i≤l.length∧l.all f=(l.drop i).all f
  live i:=[(60,.s (.int .i64 i))]
  keep:=[2,3,4,9,10,58,59]
  heap _:=[]
  keepH:=[0,1]
  mu i:=l.length - i
theorem all_step {l:List P3} {f:P3→Bool} {x:Nat} (hi:x≤l.length∧l.all f=(l.drop x).all f) (h:(x:Int)<l.length) (hf:f (l.getD x (0,0,0))=true):x+1≤l.length∧l.all f=(l.drop (x+1)).all f :=
  ⟨by omega,by rw [hi.2,drop_now (0,0,0) h,List.all_cons,hf,Bool.true_and]⟩
theorem all_bad {l:List P3} {f:P3→Bool} {x:Nat} (hi:x≤l.length∧l.all f=(l.drop x).all f) (h:(x:Int)<l.length) (hf:f (l.getD x (0,0,0))=false):false=l.all f:=by
  rw [hi.2,drop_now (0,0,0) h,List.all_cons,hf,Bool.false_and]
theorem all_end {l:List P3} {f:P3→Bool} {x:Nat} (hi:x≤l.length∧l.all f=(l.drop x).all f) (h: ¬ (x:Int)<l.length):true=l.all f:=by
  rw [hi.2,drop_all h];rfl
theorem simpT_1 {m:M2} {k:M3} {image:List Int} {t:P3} (h:(imgOf image t).1=(imgOf image t).2.2):simpT m k image t=true:=if_pos h
theorem simpT_2 {m:M2} {k:M3} {image:List Int} {t:P3} {b:Bool} (h:(imgOf image t).1≠(imgOf image t).2.2) (h2:(imgOf image t).1=(imgOf image t).2.1) (hb:(mget .arr2 m ((imgOf image t).1,(imgOf image t).2.2)).getD false=b):simpT m k image t=b:=by
  unfold simpT;rw [if_neg h,if_pos (.inl h2),hb]
theorem simpT_3 {m:M2} {k:M3} {image:List Int} {t:P3} {b:Bool} (h:(imgOf image t).1≠(imgOf image t).2.2) (h2:(imgOf image t).2.1=(imgOf image t).2.2) (hb:(mget .arr2 m ((imgOf image t).1,(imgOf image t).2.2)).getD false=b):simpT m k image t=b:=by
  unfold simpT;rw [if_neg h,if_pos (.inr h2),hb]
theorem simpT_4 {m:M2} {k:M3} {image:List Int} {t:P3} {b:Bool} (h:(imgOf image t).1≠(imgOf image t).2.2) (h2:(imgOf image t).1≠(imgOf image t).2.1) (h3:(imgOf image t).2.1≠(imgOf image t).2.2) (hb:(mget .arr3 k (imgOf image t)).getD false=b):simpT m k image t=b:=by
  unfold simpT;rw [if_neg h,if_neg (by rintro (h | h)<;>contradiction),hb]
theorem fits_at {n:Int} {l:List P3} {x:Nat} (h:fitsR (n,l)=true) (hx:(x:Int)<l.length):triIn n (l.getD x (0,0,0))=true:=by
  simp only [fitsR,List.all_eq_true] at h
  have hx:x<l.length:=by omega
  rw [gdE,gE hx]
  exact h _ (List.getElem_mem hx)
theorem dsimp_vc (fine coarse:Int×List P3) (image:List Int):afun ⟨tyL,[(47,dfitsC),(48,dknownC),(49,dsortC)],[]⟩ Tryz.f24 [soupE.av fine,soupE.av coarse,(ETy.sl (.int .i64)).av image] (fun v=>v= .s (.bool (simpR fine coarse image))):=by
  obtain ⟨fn,fl⟩:=fine
  obtain ⟨cn,cl⟩:=coarse
  repeat' (conv=>whnf
           first | done | refine qN (by first | rfl | omega | (simp only [i64ok] at *;omega)) ?_ | apply qH | refine qG fun _=> ?_ | apply qB | apply qa | apply qo | refine qe (fun _=> ?_) (fun _=> ?_) | refine qn (fun _=> ?_) (fun _=> ?_) | refine qd (fun _=> ?_) (fun _=> ?_) | apply qt | refine qi (fun _=> ?_) (fun _=> ?_) | refine And.intro rfl ?_ | apply qE | apply qO | exact True.intro | apply qq | apply qs | refine qK (by kernel_rfl) ?_ | apply qr)
  · rename_i h
    refine HoldEq.bool ?_
    have h:((image.length:Int)==max fn 0)=false:=beq_false_of_ne h
    simp only [simpR,simpG,h,Bool.false_and]
  · rename_i h
    refine HoldEq.bool ?_
    have h:((image.length:Int)==fn)=false:=beq_false_of_ne h
    simp only [simpR,simpG,h,Bool.false_and,Bool.and_false]
  · rename_i a1 a2 a3 a4 a5 a6 a7
    have hm:(image.length:Int)=max fn 0:=a2
    have hf:fitsR (fn,fl)=true:=a3
    have hc:fitsR (cn,cl)=true:=a4
    have hl:(image.length:Int)=fn:=a6
    clear a2 a3 a4 a5 a6 a7
    have hG:simpG (fn,fl) (cn,cl) image= !badAny cn image:=by
      have e1:((image.length:Int)==max fn 0)=true:=beq_iff_eq.2 hm
      have e2:((image.length:Int)==fn)=true:=beq_iff_eq.2 hl
      simp only [simpG,hf,hc,e1,e2,Bool.true_and]
    refine HoldOr.intro ?_
    refine Or.inr (Exists.intro (Nat) (Exists.intro (dloopS1 image cn) (And.intro (Exists.intro (0) (And.intro (Hold.out ?_) (And.intro ?_ (And.intro ?_ rfl)))) (fun x hi=> ?_))))
    repeat' (conv=>whnf
             first | done | refine qN (by first | rfl | omega | (simp only [i64ok] at *;omega)) ?_ | apply qH | refine qG fun _=> ?_ | apply qB | apply qa | apply qo | refine qe (fun _=> ?_) (fun _=> ?_) | refine qn (fun _=> ?_) (fun _=> ?_) | refine qd (fun _=> ?_) (fun _=> ?_) | apply qt | refine qi (fun _=> ?_) (fun _=> ?_) | refine Exists.intro (x+1) (And.intro (Hold.out ?_) (And.intro (And.intro ?_ (And.intro ?_ rfl)) (Hold.out ?_))) | refine And.intro rfl ?_ | apply qE | apply qO | exact True.intro | apply qq | apply qs | refine qK (by kernel_rfl) ?_ | apply qr)
    · exact qh ⟨Nat.zero_le _,rfl⟩
    · rename_i h1 h2
      have h2:image.getD x 0<0:=h2
      have hi:_∧_:=hi
      refine HoldEq.bool ?_
      simp only [simpR,hG]
      rw [hi.2,drop_now 0 h1]
      simp only [badAny,decide_eq_true h2,Bool.true_or,Bool.not_true,Bool.false_and]
    · rename_i h1 h2 h3
      have h3:image.getD x 0≥cn:=h3
      have hi:_∧_:=hi
      refine HoldEq.bool ?_
      simp only [simpR,hG]
      rw [hi.2,drop_now 0 h1]
      simp only [badAny,decide_eq_true h3,Bool.true_or,Bool.or_true,Bool.not_true,Bool.false_and]
    · rename_i h1 h2 h3
      have h2: ¬ image.getD x 0<0:=h2
      have h3: ¬ image.getD x 0≥cn:=h3
      have hi:_∧_:=hi
      refine Hold.intro ⟨by omega,?_⟩
      rw [hi.2,drop_now 0 h1]
      simp only [badAny,decide_eq_false h2,decide_eq_false h3,Bool.false_or]
    · rename_i h1 h2 h3
      refine qh ?_
      show image.length - (x+1)<image.length - x
      omega
    · rename_i h1 h2
      have hi:_∧_:=hi
      have hb:badAny cn image=false:=by rw [hi.2,drop_all h1];rfl
      rw [hb] at hG
      have hR:simpR (fn,fl) (cn,cl) image=fl.all (simpT (knownR cl [] []).1 (knownR cl [] []).2 image):=by
        simp only [simpR,hG,Bool.not_false,Bool.true_and]
      clear hi h1
      rename Nat=>x0
      refine HoldOr.intro ?_
      refine Or.inr (Exists.intro (Nat) (Exists.intro (dloopS2 fl (simpT (knownR cl [] []).1 (knownR cl [] []).2 image)) (And.intro (Exists.intro (0) (And.intro (Hold.out ?_) (And.intro ?_ (And.intro ?_ rfl)))) (fun x hi=> ?_))))
      repeat' (conv=>whnf
               first | done | refine qN (by first | rfl | omega | (simp only [i64ok] at *;omega)) ?_ | apply qH | refine qG fun _=> ?_ | apply qB | apply qa | apply qo | refine qe (fun _=> ?_) (fun _=> ?_) | refine qn (fun _=> ?_) (fun _=> ?_) | refine qd (fun _=> ?_) (fun _=> ?_) | apply qt | refine qi (fun _=> ?_) (fun _=> ?_) | refine Exists.intro (x+1) (And.intro (Hold.out ?_) (And.intro (And.intro ?_ (And.intro ?_ rfl)) (Hold.out ?_))) | refine And.intro rfl ?_ | apply qE | apply qO | exact True.intro | apply qq | apply qs | refine qK (by kernel_rfl) ?_ | apply qr)
      · exact qh ⟨Nat.zero_le _,rfl⟩
      · rename_i h1
        have:=fits_at hf h1
        simp only [triIn,Bool.and_eq_true] at this
        rw [← hl] at this
        exact qh (vIn_spec this.1)
      · rename_i h1
        have:=fits_at hf h1
        simp only [triIn,Bool.and_eq_true] at this
        rw [← hl] at this
        exact qh (vIn_spec this.2.1)
      · rename_i h1
        have:=fits_at hf h1
        simp only [triIn,Bool.and_eq_true] at this
        rw [← hl] at this
        exact qh (vIn_spec this.2.2)
      · rename_i h1 h3
        exact qh (all_step hi h1 (simpT_1 h3))
      · rename_i h1 h3
        have h1:(x:Int)<fl.length:=h1
        exact qh (show fl.length - (x+1)<fl.length - x by omega)
      · rename_i h1 h3 h4 h5
        exact qh (all_step hi h1 (simpT_2 h3 h4 h5))
      · rename_i h1 h3 h4 h5
        have h1:(x:Int)<fl.length:=h1
        exact qh (show fl.length - (x+1)<fl.length - x by omega)
      · rename_i h1 h3 h4 h5
        refine HoldEq.bool ?_
        rw [hR]
        exact all_bad hi h1 (simpT_2 h3 h4 h5)
      · rename_i h1 h3 h3' h4 h5
        exact qh (all_step hi h1 (simpT_3 h3 h4 h5))
      · rename_i h1 h3 h3' h4 h5
        have h1:(x:Int)<fl.length:=h1
        exact qh (show fl.length - (x+1)<fl.length - x by omega)
      · rename_i h1 h3 h3' h4 h5
        refine HoldEq.bool ?_
        rw [hR]
        exact all_bad hi h1 (simpT_3 h3 h4 h5)
      · rename_i h1 h3 h3' h4 h5
        exact qh (all_step hi h1 (simpT_4 h3 h3' h4 h5))
      · rename_i h1 h3 h3' h4 h5
        have h1:(x:Int)<fl.length:=h1
        exact qh (show fl.length - (x+1)<fl.length - x by omega)
      · rename_i h1 h3 h3' h4 h5
        refine HoldEq.bool ?_
        rw [hR]
        exact all_bad hi h1 (simpT_4 h3 h3' h4 h5)
      · rename_i h1
        refine HoldEq.bool ?_
        rw [hR]
        exact all_end hi h1
  · rename_i h
    have h:fitsR (cn,cl)=false:=h
    refine HoldEq.bool ?_
    simp only [simpR,simpG,h,Bool.false_and,Bool.and_false]
  · rename_i h
    have h:fitsR (fn,fl)=false:=h
    refine HoldEq.bool ?_
    simp only [simpR,simpG,h,Bool.false_and,Bool.and_false]
def dsimpC:List AV→Option Res:=con3 soupE soupE (.sl (.int .i64)) (fun s t im=>some (none,none,.s (.bool (simpR s t im))))
theorem dsimpRow:FnRow Tryz.prog 24 dsimpC:=⟨con3_ok fun s t im r h=>by cases h;exact fn_by (rulesF (fn:=[(47,dfitsC),(48,dknownC),(49,dsortC)]) (fr:=[]) ⟨dfitsRow,dknownRow,dsortRow,trivial⟩ trivial) Tryz.func24 (by kernel_rfl) fun _ _=>dsimp_vc s t im,_,Tryz.func24,by kernel_rfl,by kernel_rfl⟩
def worstFind (p q:List P3) (far:Int):Nat→List Int→Int×Bool
  | _,[]=>(0,false)
  | i,k::r=>if farI (p.getD i (0,0,0)) (q.getD k.toNat (0,0,0))=far then (i,true) else worstFind p q far (i+1) r
def worstR (p:List P3) (image:List Int) (q:List P3):Int×Bool :=
  if (moveR p image q).2≠0 then (0,false) else worstFind p q (moveR p image q).1 0 image
def loopWorst (p:List P3) (image:List Int) (q:List P3) (far:Int):Spec Nat where
  inv x:=x≤image.length∧worstFind p q far 0 image=worstFind p q far x (image.drop x)
  live x:=[(23,.s (.int .i64 x))]
  keep:=[0,1,2,8,21,22]
  heap _:=[]
  keepH:=[]
  mu x:=image.length - x
theorem move_zero {p:List P3} {image:List Int} {q:List P3} (h:(moveR p image q).2=0): ¬ dcheckR p image q≠0:=by
  unfold moveR at h
  split at h
  · exact fun _=>by omega
  · assumption
theorem dworst_vc (p:List P3) (image:List Int) (q:List P3):afun ⟨tyL,[(22,dmoveC),(25,dfarC)],[]⟩ Tryz.f23 [(ETy.sl .arr3).av p,(ETy.sl (.int .i64)).av image,(ETy.sl .arr3).av q]
    (fun v=>v= .tup [.s (.int .i64 (worstR p image q).1),.s (.bool (worstR p image q).2)]):=by
  repeat' (conv=>whnf
           first | done | refine qN (by first | rfl | omega | (simp only [i64ok] at *;omega)) ?_ | apply qH | refine qG fun _=> ?_ | apply qB | apply qa | apply qo | refine qe (fun _=> ?_) (fun _=> ?_) | refine qn (fun _=> ?_) (fun _=> ?_) | refine qd (fun _=> ?_) (fun _=> ?_) | apply qt | refine qi (fun _=> ?_) (fun _=> ?_) | refine And.intro rfl ?_ | apply qE | apply qO | exact True.intro | apply qq | apply qs | refine qK (by kernel_rfl) ?_ | apply qr)
  · rename_i h
    have h:(moveR p image q).2≠0:=h
    refine HoldEq.intro ?_
    simp only [worstR,if_pos h]
  · rename_i h0 _
    have h0:(moveR p image q).2=0:=h0
    have hz:=check_zero (move_zero h0)
    have hw:worstR p image q=worstFind p q (moveR p image q).1 0 image:=if_neg (by omega)
    refine HoldOr.intro ?_
    refine Or.inr (Exists.intro (Nat) (Exists.intro (loopWorst p image q (moveR p image q).1) (And.intro (Exists.intro (0) (And.intro (Hold.out ?_) (And.intro ?_ (And.intro ?_ rfl)))) (fun x hi=> ?_))))
    repeat' (conv=>whnf
             first | done | refine qN (by first | rfl | omega | (simp only [i64ok] at *;omega)) ?_ | apply qH | refine qG fun _=> ?_ | apply qB | apply qa | apply qo | refine qe (fun _=> ?_) (fun _=> ?_) | refine qn (fun _=> ?_) (fun _=> ?_) | refine qd (fun _=> ?_) (fun _=> ?_) | apply qt | refine qi (fun _=> ?_) (fun _=> ?_) | refine Exists.intro (x+1) (And.intro (Hold.out ?_) (And.intro (And.intro ?_ (And.intro ?_ rfl)) (Hold.out ?_))) | refine And.intro rfl ?_ | apply qE | apply qO | exact True.intro | apply qq | apply qs | refine qK (by kernel_rfl) ?_ | apply qr)
    all_goals try first | apply qz1 | apply qz2 | apply qz3 | apply qz4 | apply qz5 | apply qz6 | apply qz7 | apply qz8 | apply qz9 | apply qz0
    all_goals try simp only [take_one,take_one',set_one,take_all,qn1,rec_self,qn2,pair_eta,ETy.dflt,qn3,qn4,Int.reduceToNat,Int.reduceAdd,Int.reduceSub,Int.reduceNeg,Nat.reduceAdd,Nat.zero_add] at *
    · exact qh ⟨Nat.zero_le _,rfl⟩
    · rename_i h1
      exact qh (bad_at hz.2 (by omega))
    · rename_i h1 h2
      have hi:_∧_:=hi
      refine HoldEq.intro ?_
      have e:worstFind p q (moveR p image q).1 x (image.drop x)=((x:Int),true):=by
        rw [drop_now 0 h1]
        exact if_pos h2
      rw [hw,hi.2,e]
    · rename_i h1 h2
      have hi:_∧_:=hi
      refine Hold.intro ⟨by omega,?_⟩
      rw [hi.2,drop_now 0 h1]
      exact if_neg h2
    · rename_i h1 h2
      have h1:(x:Int)<image.length:=h1
      exact qh (show image.length - (x+1)<image.length - x by omega)
    · rename_i h1
      have hi:_∧_:=hi
      refine HoldEq.intro ?_
      rw [hw,hi.2,drop_all h1];rfl
def dworstC:List AV→Option Res:=con3 (.sl .arr3) (.sl (.int .i64)) (.sl .arr3) (fun p im q=>some (none,none,.tup [.s (.int .i64 (worstR p im q).1),.s (.bool (worstR p im q).2)]))
theorem dworstRow:FnRow Tryz.prog 23 dworstC:=⟨con3_ok fun s t im r h=>by cases h;exact fn_by (rulesF (fn:=[(22,dmoveC),(25,dfarC)]) (fr:=[]) ⟨dmoveRow,dfarRow,trivial⟩ trivial) Tryz.func23 (by kernel_rfl) fun _ _=>dworst_vc s t im,_,Tryz.func23,by kernel_rfl,by kernel_rfl⟩
theorem dawake_vc:afun ⟨tyL,[(22,dmoveC),(23,dworstC),(24,dsimpC),(42,dsqC)],[]⟩ Tryz.f18 [] (fun v=>v= .s (.bool true)):=by
  repeat' (conv=>whnf
           first | done | refine qN (by first | rfl | omega | (simp only [i64ok] at *;omega)) ?_ | apply qH | refine qG fun _=> ?_ | apply qB | apply qa | apply qo | refine qe (fun _=> ?_) (fun _=> ?_) | refine qn (fun _=> ?_) (fun _=> ?_) | refine qd (fun _=> ?_) (fun _=> ?_) | apply qt | refine qi (fun _=> ?_) (fun _=> ?_) | refine And.intro rfl ?_ | apply qE | apply qO | exact True.intro | apply qq | apply qs | refine qK (by kernel_rfl) ?_ | apply qr)
  · refine qh ?_;unfold ptNear;decide
  · exact HoldEq.intro rfl
def dawakeC:List AV→Option Res
  | []=>some (none,none,.s (.bool true))
  | _=>none
theorem dawakeRow:FnRow Tryz.prog 18 dawakeC:=⟨fun args r h=>by
  match args,h with
  | [],h=>cases h;exact fn_by (rulesF (fn:=[(22,dmoveC),(23,dworstC),(24,dsimpC),(42,dsqC)]) (fr:=[]) ⟨dmoveRow,dworstRow,dsimpRow,dsqRow,trivial⟩ trivial) Tryz.func18 (by kernel_rfl) fun _ _=>dawake_vc,_,Tryz.func18,by kernel_rfl,by kernel_rfl⟩
end S1
open Go Go.Vm Go.Proofs
namespace S1
@[irreducible] def degR (t:P3):Bool:=t.1==t.2.1|| (t.2.1==t.2.2|| t.2.2==t.1)
theorem deg_t {t:P3} (h:t.1=t.2.1∨t.2.1=t.2.2∨t.2.2=t.1):degR t=true:=by
  simp only [degR,Bool.or_eq_true,beq_iff_eq];exact h
theorem deg_f {t:P3} (h: ¬ (t.1=t.2.1∨t.2.1=t.2.2∨t.2.2=t.1)):degR t=false:=by
  rw [← Bool.not_eq_true];intro e;apply h;simpa only [degR,Bool.or_eq_true,beq_iff_eq] using e
def dgG (l:List P3) (i:Nat):Option Wit:=if degR (l.getD i (0,0,0)) then some (2,(i:Int),0) else none
def dgL (l:List P3) (i:Nat):List Wit:=(List.range i).filterMap (dgG l)
theorem dg_t {l:List P3} {i:Nat} (h:degR (l.getD i (0,0,0))=true):dgL l (i+1)=dgL l i++[(2,(i:Int),0)]:=by
  rw [dgL,fm_succ,dgG,if_pos h];rfl
theorem dg_f {l:List P3} {i:Nat} (h:degR (l.getD i (0,0,0))=false):dgL l (i+1)=dgL l i:=by
  rw [dgL,fm_succ,dgG,if_neg (by rw [h];simp)];simp [dgL]
theorem dgL_len (l:List P3) (i:Nat):(dgL l i).length≤i:=fm_len _ _
def loopD (l:List P3):Spec Nat where
  inv x:=x≤l.length
  live x:=[(9,.s (.int .i64 x)),(3,.s (.own 2 0 (dgL l x).length))]
  keep:=[1,7,8]
  heap x:=[(2,.row witE 64 (dgL l x))]
  keepH:=[0]
  mu x:=l.length - x
theorem loop_vc {fn} (n:Int) (l:List P3) (hb:l.length≤8192):afunF ⟨tyL,fn,[]⟩ Tryz.f100 [soupE.av (n,l)] (fun v obs=>v= .s (.own 0 0 (dgL l l.length).length)∧obs=[.row witE 64 (dgL l l.length)]):=by
  repeat' (conv=>whnf
           first | done | refine qN (by first | rfl | omega | (simp only [i64ok] at *;omega)) ?_ | apply qH | refine qG fun _=> ?_ | apply qB | apply qa | apply qo | refine qe (fun _=> ?_) (fun _=> ?_) | refine qn (fun _=> ?_) (fun _=> ?_) | refine qd (fun _=> ?_) (fun _=> ?_) | apply qt | refine qi (fun _=> ?_) (fun _=> ?_) | (refine atReg 3 rfl ?_;refine Or.inr (Exists.intro (Nat) (Exists.intro (loopD l) (And.intro (Exists.intro (0) (And.intro (Hold.out ?_) (And.intro ?_ (And.intro ?_ rfl)))) (fun x hx=> ?_))))) | ((with_reducible show (∃ y,And (Spec.inv (loopD _) y) _));refine Exists.intro (x+1) (And.intro (Hold.out ?_) (And.intro (And.intro ?_ (And.intro ?_ rfl)) (Hold.out ?_)))) | refine And.intro rfl ?_ | apply qE | apply qO | exact True.intro | apply qq | apply qs | refine qK (by kernel_rfl) ?_ | apply qr)
  all_goals try first | apply qz1 | apply qz2 | apply qz3 | apply qz4 | apply qz5 | apply qz6 | apply qz7 | apply qz8 | apply qz9 | apply qz0
  all_goals try simp only [take_one,take_one',set_one,take_all,qn1,rec_self,qn2,pair_eta,ETy.dflt,qn3,qn4,Int.reduceToNat,Int.reduceAdd,Int.reduceSub,Int.reduceNeg,Nat.reduceAdd,Nat.zero_add,loopD] at *
  all_goals try (refine qh ?_;omega)
  all_goals try (refine qh ?_;have:=dgL_len l x;(try simp only [List.length_singleton]);omega)
  all_goals try (rw [dg_t (deg_t (by omega))];(try simp);done)
  all_goals try (rw [dg_f (deg_f (by omega))];done)
  all_goals (rw [show x=l.length by omega];done)
def loopC:List AV→Option ResF:=con1 soupE (fun s=>some (none,some (s.2.length≤8192),.s (.own 0 0 (dgL s.2 s.2.length).length),[.row witE 64 (dgL s.2 s.2.length)]))
theorem loopRow:FnRowF Tryz.prog 100 loopC:=⟨con1_okF fun s r h=>by cases h;exact fn_byF (rulesF (fn:=[]) (fr:=[]) trivial trivial) Tryz.func100 (by kernel_rfl) fun _ h=>loop_vc s.1 s.2 h,_,Tryz.func100,by kernel_rfl,by kernel_rfl⟩
def mark3 (s:List Bool) (t:P3):List Bool:=((s.set t.1.toNat true).set t.2.1.toNat true).set t.2.2.toNat true
def thereF (n:Nat) (l:List P3) (i:Nat):List Bool:=irec (fun s j=>mark3 s (l.getD j (0,0,0))) (List.replicate n false) i
theorem thereF_len (n:Nat) (l:List P3): ∀ i,(thereF n l i).length=n
  | 0=>by simp [thereF,irec]
  | i+1=>by
    have:=thereF_len n l i
    unfold thereF at this ⊢
    simp only [irec,mark3,List.length_set];exact this
def loG (s:List Bool) (v:Nat):Option Wit:=if s.getD v false then none else some (5,(v:Int),0)
def loL (s:List Bool) (v:Nat):List Wit:=(List.range v).filterMap (loG s)
theorem lo_t {s:List Bool} {i:Nat} (h:s.getD i false=true):loL s (i+1)=loL s i:=by
  rw [loL,fm_succ,loG,if_pos h];simp [loL]
theorem lo_f {s:List Bool} {i:Nat} (h:s.getD i false=false):loL s (i+1)=loL s i++[(5,(i:Int),0)]:=by
  rw [loL,fm_succ,loG,if_neg (by rw [h];simp)];rfl
theorem loL_len (s:List Bool) (i:Nat):(loL s i).length≤i:=fm_len _ _
def loopL1 (n:Nat) (l:List P3):Spec Nat where
  inv x:=x≤l.length
  live x:=[(17,.s (.int .i64 x))]
  keep:=[1,3,15,16]
  heap x:=[(2,.row .bool 4 (thereF n l x))]
  keepH:=[0]
  mu x:=l.length - x
def loopL2 (n:Nat) (s:List Bool):Spec Nat where
  inv x:=x≤n
  live x:=[(32,.s (.int .i64 x)),(8,.s (.own 3 0 (loL s x).length))]
  keep:=[1,3,30,31]
  heap x:=[(3,.row witE 64 (loL s x))]
  keepH:=[0,2]
  mu x:=n - x
def loneR (s:Int×List P3):List Wit:=loL (thereF s.1.toNat s.2 s.2.length) s.1.toNat
def fitS (s:Int×List P3):Prop:=0≤s.1∧s.1≤4096∧s.2.length≤8192∧∀ i,i<s.2.length→triIn s.1 (s.2.getD i (0,0,0))=true
theorem lonely_vc {fn} (n:Int) (l:List P3) (hf:fitS (n,l)):afunF ⟨tyL,fn,[]⟩ Tryz.f103 [soupE.av (n,l)] (fun v obs=>v= .s (.own 0 0 (loneR (n,l)).length)∧obs=[.row witE 64 (loneR (n,l))]):=by
  obtain ⟨h1,h2,h3,h4⟩:=hf
  repeat' (conv=>whnf
           first | done | refine qN (by first | rfl | omega | (simp only [i64ok] at *;omega)) ?_ | apply qH | refine qG fun _=> ?_ | apply qB | apply qa | apply qo | refine qe (fun _=> ?_) (fun _=> ?_) | refine qn (fun _=> ?_) (fun _=> ?_) | refine qd (fun _=> ?_) (fun _=> ?_) | apply qt | refine qi (fun _=> ?_) (fun _=> ?_) | (refine atReg 3 rfl ?_;refine Or.inr (Exists.intro (Nat) (Exists.intro (loopL1 n.toNat l) (And.intro (Exists.intro (0) (And.intro (Hold.out ?_) (And.intro ?_ (And.intro ?_ rfl)))) (fun x hx=> ?_))))) | (refine atReg 6 rfl ?_;refine Or.inl (Exists.intro (4) ?_)) | ((with_reducible show (∃ y,And (Spec.inv (loopL1 _ _) y) _));refine Exists.intro (x+1) (And.intro (Hold.out ?_) (And.intro (And.intro ?_ (And.intro ?_ rfl)) (Hold.out ?_)))) | (refine atReg 13 rfl ?_;refine Or.inr (Exists.intro (Nat) (Exists.intro (loopL2 n.toNat (thereF n.toNat l l.length)) (And.intro (Exists.intro (0) (And.intro (Hold.out ?_) (And.intro ?_ (And.intro ?_ rfl)))) (fun y hy=> ?_))))) | ((with_reducible show (∃ y,And (Spec.inv (loopL2 _ _) y) _));refine Exists.intro (y+1) (And.intro (Hold.out ?_) (And.intro (And.intro ?_ (And.intro ?_ rfl)) (Hold.out ?_)))) | refine And.intro rfl ?_ | apply qE | apply qO | exact True.intro | apply qq | apply qs | refine qK (by kernel_rfl) ?_ | apply qr)
  all_goals try first | apply qz1 | apply qz2 | apply qz3 | apply qz4 | apply qz5 | apply qz6 | apply qz7 | apply qz8 | apply qz9 | apply qz0
  all_goals try simp only [take_one,take_one',set_one,take_all,qn1,rec_self,qn2,pair_eta,ETy.dflt,qn3,qn4,Int.reduceToNat,Int.reduceAdd,Int.reduceSub,Int.reduceNeg,Nat.reduceAdd,Nat.zero_add,loopL1,loopL2] at *
  all_goals try (refine qh ?_;omega)
  all_goals try (have ht:=triIn_spec (h4 x (by omega));refine qh ?_;(try simp only [Int.toNat_of_nonneg h1]);omega)
  all_goals try (have e:x=l.length:=by omega)
  all_goals try subst e
  all_goals try (refine qh ?_;have:=loL_len (thereF n.toNat l l.length) y;(try simp only [List.length_singleton]);omega)
  all_goals try (rw [lo_t (by assumption)];done)
  all_goals try (rw [lo_f (by assumption)];(try simp);done)
  all_goals try rfl
  all_goals (have e:y=n.toNat:=by omega
             subst e;rfl)
def lonelyC:List AV→Option ResF:=con1 soupE (fun s=>some (none,some (fitS s),.s (.own 0 0 (loneR s).length),[.row witE 64 (loneR s)]))
theorem lonelyRow:FnRowF Tryz.prog 103 lonelyC:=⟨con1_okF fun s r h=>by cases h;exact fn_byF (rulesF (fn:=[]) (fr:=[]) trivial trivial) Tryz.func103 (by kernel_rfl) fun _ h=>lonely_vc s.1 s.2 h,_,Tryz.func103,by kernel_rfl,by kernel_rfl⟩
end S1
open Go Go.Vm Go.Proofs
namespace S1
theorem irec_inv {S:Type} {f:S→Nat→S} {s:S} (P:Nat→S→Prop) (h0:P 0 s) {n:Nat} (hs: ∀ i s,i<n→P i s→P (i+1) (f s i)): ∀ i,i≤n→P i (irec f s i)
  | 0,_=>h0
  | i+1,h=>hs i _ (by omega) (irec_inv P h0 hs i (by omega))
def kTwice (t:P3):List P3:=[(t.1,t.2.1,0),(t.2.1,t.2.2,0),(t.2.2,t.1,0)]
theorem twice1_vc {fn} (t:P3):afun ⟨tyL,fn,[]⟩ Tryz.f129 [ETy.arr3.av t] (fun v=>v= .s (.sl .arr3 (kTwice t))):=by
  repeat' (conv=>whnf
           first | done | refine qN (by first | rfl | omega | (simp only [i64ok] at *;omega)) ?_ | apply qH | refine qG fun _=> ?_ | apply qB | apply qa | apply qo | refine qe (fun _=> ?_) (fun _=> ?_) | refine qn (fun _=> ?_) (fun _=> ?_) | refine qd (fun _=> ?_) (fun _=> ?_) | apply qt | refine qi (fun _=> ?_) (fun _=> ?_) | refine And.intro rfl ?_ | apply qE | apply qO | exact True.intro | apply qq | apply qs | refine qK (by kernel_rfl) ?_ | apply qr)
  all_goals try first | apply qz1 | apply qz2 | apply qz3 | apply qz4 | apply qz5 | apply qz6 | apply qz7 | apply qz8 | apply qz9 | apply qz0
  all_goals try simp only [take_one,take_one',set_one,take_all,qn1,rec_self,qn2,pair_eta,ETy.dflt,qn3,qn4,Int.reduceToNat,Int.reduceAdd,Int.reduceSub,Int.reduceNeg,Nat.reduceAdd,Nat.zero_add,kTwice] at *
  rfl
def twice1C:List AV→Option Res:=con1 .arr3 (fun t=>some (none,none,.s (.sl .arr3 (kTwice t))))
theorem twice1Row:FnRow Tryz.prog 129 twice1C:=⟨con1_ok fun t r h=>by cases h;exact fn_by (rulesF (fn:=[]) (fr:=[]) trivial trivial) Tryz.func129 (by kernel_rfl) fun _ _=>twice1_vc t,_,Tryz.func129,by kernel_rfl,by kernel_rfl⟩
abbrev HadM:=List (ETy.arr3.T×List Int)
abbrev SeenM:=List (ETy.arr2.T×ETy.bool.T)
abbrev PS:=SeenM×List Wit
def prA (kind:Int) (i:Nat) (av:List Int) (s:PS) (j:Nat):PS :=
  match (mget .arr2 s.1 (av.getD j 0,(i:Int))).getD false with
  | true=>s
  | false=>(mset .arr2 s.1 (av.getD j 0,(i:Int)) true,s.2++[(kind,av.getD j 0,(i:Int))])
def hadAt (h:HadM) (k:P3):List Int:=(mget .arr3 h k).getD []
def prK (kind:Int) (i:Nat) (ks:List P3) (s:HadM×PS) (m:Nat):HadM×PS :=
  (mset .arr3 s.1 (ks.getD m (0,0,0)) (hadAt s.1 (ks.getD m (0,0,0))++[(i:Int)]),irec (prA kind i (hadAt s.1 (ks.getD m (0,0,0)))) s.2 (hadAt s.1 (ks.getD m (0,0,0))).length)
def prI (kp:P3→List P3) (kind:Int) (l:List P3) (s:HadM×PS) (i:Nat):HadM×PS:=irec (prK kind i (kp (l.getD i (0,0,0)))) s (kp (l.getD i (0,0,0))).length
def prS (kp:P3→List P3) (kind:Int) (l:List P3) (i:Nat):HadM×PS:=irec (prI kp kind l) ([],[],[]) i
theorem hadAt_def (h:HadM) (k:P3):Option.getD (mget .arr3 h k) []=hadAt h k:=rfl
theorem hadAt_same (h:HadM) (k:P3) (v:List Int):hadAt (mset .arr3 h k v) k=v:=by rw [hadAt,mget_same];rfl
theorem prA_t {kind:Int} {i:Nat} {av:List Int} {s:PS} {j:Nat} (h:(mget .arr2 s.1 (av.getD j 0,(i:Int))).getD false=true):irec (prA kind i av) s 0=s∧prA kind i av s j=s:=by
  refine ⟨rfl,?_⟩;unfold prA;rw [h]
theorem prA_f {kind:Int} {i:Nat} {av:List Int} {s:PS} {j:Nat} (h:(mget .arr2 s.1 (av.getD j 0,(i:Int))).getD false=false) :
    prA kind i av s j=(mset .arr2 s.1 (av.getD j 0,(i:Int)) true,s.2++[(kind,av.getD j 0,(i:Int))]):=by
  unfold prA;rw [h]
theorem prA_same {kind:Int} {i:Nat} {av:List Int} {s:PS} {z:Nat} (h:(mget .arr2 (irec (prA kind i av) s z).1 (av.getD z 0,(i:Int))).getD false=true):irec (prA kind i av) s (z+1)=irec (prA kind i av) s z:=(prA_t h).2
theorem prA_new {kind:Int} {i:Nat} {av:List Int} {s:PS} {z:Nat} (h:(mget .arr2 (irec (prA kind i av) s z).1 (av.getD z 0,(i:Int))).getD false=false) :
    irec (prA kind i av) s (z+1)=(mset .arr2 (irec (prA kind i av) s z).1 (av.getD z 0,(i:Int)) true,(irec (prA kind i av) s z).2++[(kind,av.getD z 0,(i:Int))]):=prA_f h
theorem prA_le (kind:Int) (i:Nat) (av:List Int) (s:PS) (j:Nat):(prA kind i av s j).2.length≤s.2.length+1:=by
  unfold prA;split
  · omega
  · simp
theorem prA_len (kind:Int) (i:Nat) (av:List Int) (s:PS) (j:Nat):(irec (prA kind i av) s j).2.length≤s.2.length+j :=
  irec_inv (n:=j) (fun j (t:PS)=>t.2.length≤s.2.length+j) (by simp) (fun j t _ h=>Nat.le_trans (prA_le _ _ _ _ _) (by omega)) j (Nat.le_refl _)
def HadOk (c b:Nat) (s:HadM×PS):Prop:=(∀ k,(hadAt s.1 k).length≤c)∧s.2.2.length≤b
theorem hadAt_set (h:HadM) (k:P3) (v:List Int) (k':P3):hadAt (mset .arr3 h k v) k'=if k=k' then v else hadAt h k':=by
  unfold hadAt
  split
  · rename_i e;subst e;rw [mget_same];rfl
  · rename_i e;rw [mget_other _ e]
theorem prK_ok {kind:Int} {i c b:Nat} {ks:List P3} {s:HadM×PS} {m:Nat} (h:HadOk c b s):HadOk (c+1) (b+c) (prK kind i ks s m):=by
  refine ⟨fun k=> ?_,?_⟩
  · show (hadAt (mset .arr3 s.1 _ _) k).length≤_
    rw [hadAt_set]
    split
    · have:=h.1 (ks.getD m (0,0,0));rw [List.length_append];simp only [List.length_singleton];omega
    · have:=h.1 k;omega
  · have:=prA_len kind i (hadAt s.1 (ks.getD m (0,0,0))) s.2 (hadAt s.1 (ks.getD m (0,0,0))).length
    have:=h.1 (ks.getD m (0,0,0))
    have:=h.2
    show (irec (prA kind i (hadAt s.1 (ks.getD m (0,0,0)))) s.2 (hadAt s.1 (ks.getD m (0,0,0))).length).2.length≤_
    omega
theorem prKs_ok {kind:Int} {i:Nat} {ks:List P3} {c b:Nat} {s:HadM×PS} (h:HadOk c b s) (hk:ks.length≤3): ∀ m,m≤ks.length→HadOk (c+m) (b+m*(c+3)) (irec (prK kind i ks) s m) :=
  irec_inv (fun m (t:HadM×PS)=>HadOk (c+m) (b+m*(c+3)) t) (by simpa using h) fun m t hm ht=>by
    have:=prK_ok (kind:=kind) (i:=i) (ks:=ks) (m:=m) ht
    refine ⟨fun k=>Nat.le_trans (this.1 k) (by omega),Nat.le_trans this.2 ?_⟩
    rw [Nat.succ_mul];omega
theorem prS_ok (kp:P3→List P3) (hk: ∀ t,(kp t).length≤3) (kind:Int) (l:List P3) (i:Nat) (hi:i≤8192):HadOk (3*i) (i*73737) (prS kp kind l i) :=
  irec_inv (n:=8192) (fun i t=>HadOk (3*i) (i*73737) t) ⟨fun k=>by simp [hadAt,mget],by simp⟩ (fun i t hi h=>by
    have h1:=prKs_ok (kind:=kind) (i:=i) h (hk (l.getD i (0,0,0))) _ (Nat.le_refl _)
    have h3:=hk (l.getD i (0,0,0))
    have h4:(kp (l.getD i (0,0,0))).length*(3*i+3)≤3*(3*i+3):=Nat.mul_le_mul_right _ h3
    exact ⟨fun k=>Nat.le_trans (h1.1 k) (by omega),Nat.le_trans h1.2 (Nat.le_trans (Nat.add_le_add_left h4 _) (by omega))⟩) i hi
def loopP1 (kp:P3→List P3) (kind:Int) (l:List P3):Spec Nat where
  inv x:=x≤l.length
  live x:=[(22,.s (.int .i64 x)),(7,.s (.own 2 0 (prS kp kind l x).2.2.length))]
  keep:=[1,2,3,8,9,20,21]
  heap x:=[(2,.row witE 64 (prS kp kind l x).2.2),(3,.gmap .arr3 (.int .i64) (prS kp kind l x).1),(4,.map .arr2 .bool (prS kp kind l x).2.1)]
  keepH:=[0]
  mu x:=l.length - x
def loopP2 (kind:Int) (i:Nat) (ks:List P3) (s:HadM×PS):Spec Nat where
  inv x:=x≤ks.length
  live x:=[(31,.s (.int .i64 x)),(7,.s (.own 2 0 (irec (prK kind i ks) s x).2.2.length))]
  keep:=[1,2,3,8,9,10,11,20,21,22,29,30]
  heap x:=[(2,.row witE 64 (irec (prK kind i ks) s x).2.2),(3,.gmap .arr3 (.int .i64) (irec (prK kind i ks) s x).1),(4,.map .arr2 .bool (irec (prK kind i ks) s x).2.1)]
  keepH:=[0,5]
  mu x:=ks.length - x
def loopP3 (kind:Int) (i:Nat) (av:List Int) (s:PS):Spec Nat where
  inv x:=x≤av.length
  live x:=[(39,.s (.int .i64 x)),(7,.s (.own 2 0 (irec (prA kind i av) s x).2.length))]
  keep:=[1,2,3,8,9,10,11,13,20,21,22,29,30,31,37,38]
  heap x:=[(2,.row witE 64 (irec (prA kind i av) s x).2),(4,.map .arr2 .bool (irec (prA kind i av) s x).1)]
  keepH:=[0,3,5,6]
  mu x:=av.length - x
theorem pairsTw_vc (n kind:Int) (l:List P3) (hb:l.length≤8192):afunF ⟨tyL,[(129,twice1C)],[]⟩ Tryz.f128 [soupE.av (n,l),(ETy.int .i64).av kind,ETy.fnc.av (some 129)] (fun v obs=>v= .s (.own 0 0 (prS kTwice kind l l.length).2.2.length)∧obs=[.row witE 64 (prS kTwice kind l l.length).2.2]):=by
  have hS:=fun x (h:x≤8192)=>prS_ok kTwice (fun _=>Nat.le_refl 3) kind l x h
  repeat' (conv=>whnf
           first | done | refine qN (by first | rfl | omega | (simp only [i64ok] at *;omega)) ?_ | apply qH | refine qG fun _=> ?_ | apply qB | apply qa | apply qo | refine qe (fun _=> ?_) (fun _=> ?_) | refine qn (fun _=> ?_) (fun _=> ?_) | refine qd (fun _=> ?_) (fun _=> ?_) | apply qt | refine qi (fun _=> ?_) (fun _=> ?_) | (refine atReg 5 rfl ?_;refine Or.inr (Exists.intro (Nat) (Exists.intro (loopP1 kTwice kind l) (And.intro (Exists.intro (0) (And.intro (Hold.out ?_) (And.intro ?_ (And.intro ?_ rfl)))) (fun x hx=> ?_))))) | ((with_reducible show (∃ y,And (Spec.inv (loopP1 _ _ _) y) _));refine Exists.intro (x+1) (And.intro (Hold.out ?_) (And.intro (And.intro ?_ (And.intro ?_ rfl)) (Hold.out ?_)))) | (refine atReg 8 rfl ?_;refine Or.inr (Exists.intro (Nat) (Exists.intro (loopP2 kind x (kTwice (l.getD x (0,0,0))) (prS kTwice kind l x)) (And.intro (Exists.intro (0) (And.intro (Hold.out ?_) (And.intro ?_ (And.intro ?_ rfl)))) (fun y hy=> ?_))))) | ((with_reducible show (∃ y,And (Spec.inv (loopP2 _ _ _ _) y) _));refine Exists.intro (y+1) (And.intro (Hold.out ?_) (And.intro (And.intro ?_ (And.intro ?_ rfl)) (Hold.out ?_)))) | (refine atReg 11 rfl ?_;refine Or.inr (Exists.intro (Nat) (Exists.intro (loopP3 kind x (hadAt (irec (prK kind x (kTwice (l.getD x (0,0,0)))) (prS kTwice kind l x) y).1 ((kTwice (l.getD x (0,0,0))).getD y (0,0,0))) (irec (prK kind x (kTwice (l.getD x (0,0,0)))) (prS kTwice kind l x) y).2) (And.intro (Exists.intro (0) (And.intro (Hold.out ?_) (And.intro ?_ (And.intro ?_ rfl)))) (fun z hz=> ?_))))) | ((with_reducible show (∃ y,And (Spec.inv (loopP3 _ _ _ _) y) _));refine Exists.intro (z+1) (And.intro (Hold.out ?_) (And.intro (And.intro ?_ (And.intro ?_ rfl)) (Hold.out ?_)))) | refine And.intro rfl ?_ | apply qE | apply qO | exact True.intro | apply qq | apply qs | refine qK (by kernel_rfl) ?_ | apply qr)
  all_goals try first | apply qz1 | apply qz2 | apply qz3 | apply qz4 | apply qz5 | apply qz6 | apply qz7 | apply qz8 | apply qz9 | apply qz0
  all_goals try simp only [take_one,take_one',set_one,take_all,qn1,rec_self,qn2,pair_eta,ETy.dflt,qn3,qn4,Int.reduceToNat,Int.reduceAdd,Int.reduceSub,Int.reduceNeg,Nat.reduceAdd,Nat.zero_add,loopP1,loopP2,loopP3,mset_mset,hadAt_def,hadAt_same] at *
  all_goals try (refine qh ?_;omega)
  all_goals try (rw [prA_same (by assumption)];done)
  all_goals try (rw [prA_new (by assumption)];(try simp);done)
  all_goals try first
    | (have e:z=(hadAt (irec (prK kind x (kTwice (l.getD x (0,0,0)))) (prS kTwice kind l x) y).1 ((kTwice (l.getD x (0,0,0))).getD y (0,0,0))).length:=by omega
       subst e;first | rfl | (rw [mset_mset,mget_same];rfl))
    | (have e:y=(kTwice (l.getD x (0,0,0))).length:=by omega
       subst e;rfl)
    | (have e:x=l.length:=by omega
       subst e;rfl)
  all_goals
    have hB:=prKs_ok (kind:=kind) (i:=x) (ks:=kTwice (l.getD x (0,0,0))) (hS x (by omega)) (Nat.le_refl 3) y (by omega)
    have h1:=hB.1 ((kTwice (l.getD x (0,0,0))).getD y (0,0,0))
    have h2:=hB.2
    have h3:=prA_len kind x (hadAt (irec (prK kind x (kTwice (l.getD x (0,0,0)))) (prS kTwice kind l x) y).1 ((kTwice (l.getD x (0,0,0))).getD y (0,0,0))) (irec (prK kind x (kTwice (l.getD x (0,0,0)))) (prS kTwice kind l x) y).2 z
    have h4:y≤3:=hy
    have h5:y*(3*x+3)≤3*(3*x+3):=Nat.mul_le_mul_right _ h4
    refine qh ?_
    generalize y*(3*x+3)=q at *
  · omega
  · unfold growFits
    simp only [List.length_cons,List.take_zero,List.length_nil]
    omega
def pairsTwC:List AV→Option ResF:=con3 soupE (.int .i64) .fnc (fun s kind f=>match f with
  | some 129=>some (none,some (s.2.length≤8192),.s (.own 0 0 (prS kTwice kind s.2 s.2.length).2.2.length),[.row witE 64 (prS kTwice kind s.2 s.2.length).2.2])
  | _=>none)
end S1
