/- A part of the proofs of the laws. -/
import Derived.Test.YtlhoihabllompaaGreatS1
import Derived.Test.YtlhoihabllompaaGreatVmGrow2toVmKit
set_option linter.unusedSimpArgs false
set_option linter.unusedVariables false
set_option maxHeartbeats 8000000
set_option maxRecDepth 100000
open Go.Proofs.Tryz
open Go Go.Vm Go.Proofs
namespace S1
abbrev P3:=Int×Int×Int
abbrev qP:ETy:= .pair (.int .i64) (.sl .arr3)
abbrev zB0:ETy:= .pair (.int .i64) (.pair (.int .i64) (.int .i64))
abbrev Wit:=Int×Int×Int
def qM (P : Program) (f : Nat) (c : List AV → Option Res) : Prop := (∀ args r, c args = some r → zCn P f args r) ∧ ∃ fn, P.funcs[f]? = some fn ∧ (fn.name == "runtime.NumGoroutine") = false ∧ fn.body.isNone = false
theorem mkR {P : Program} {f : Nat} {c : List AV → Option Res} {fn : Func} (h : ∀ args r, c args = some r → zCn P f args r) (h2 : P.funcs[f]? = some fn) (h3 : (fn.name == "runtime.NumGoroutine") = false := by kernel_rfl) (h4 : fn.body.isNone = false := by kernel_rfl) : qM P f c := ⟨h, fn, h2, h3, h4⟩
theorem drop_at {α:Type} {l:List α} {i:Nat} (d:α) (h:i<l.length):l.drop i=l.getD i d::l.drop (i+1):=by
 rw [List.drop_eq_getElem_cons h];simp [gdE,h]
theorem zE9 {α:Type} {l:List α} {i:Nat} (h: ¬ (i:Int)<l.length):l.drop i=[]:=zb7 (by omega)
theorem zBU {α:Type} {l:List α} {i:Nat} (d:α) (h:(i:Int)<l.length):l.drop i=l.getD i d::l.drop (i+1):=drop_at d (by omega)
theorem q9 {α:Type _} (f:Nat->Option α) (i:Nat):(List.range (i+1)).filterMap f=(List.range i).filterMap f++(f i).toList:=by
 rw [List.range_succ,List.filterMap_append];rfl
theorem zC7 {α:Type _} (f:Nat->Option α) (i:Nat):((List.range i).filterMap f).length<=i:=zb0 (List.length_filterMap_le _ _) (by simp)
def vIn (n v:Int):Bool:= !(decide (v<0)|| decide (v>=n))
def zCm (n:Int) (t:P3):Bool:=vIn n t.1&&(vIn n t.2.1&&vIn n t.2.2)
theorem zMQ {n v:Int} (h:vIn n v=true):0<=v/\v<n:=by simp [vIn] at h;omega
theorem zAH {n:Int} {t:P3} (h:zCm n t=true):(0<=t.1/\t.1<n)/\(0<=t.2.1/\t.2.1<n)/\(0<=t.2.2/\t.2.2<n):=by
 simp only [zCm,zC] at h;exact ⟨zMQ h.1,zMQ h.2.1,zMQ h.2.2⟩
theorem zP6 {n:Int} {t:P3} (h:t.1<0\/t.1>=n\/t.2.1<0\/t.2.1>=n\/t.2.2<0\/t.2.2>=n):zCm n t=false:=by
 rw [<- zbV];intro e;have:=zAH e;omega
theorem zG0 {n:Int} {t:P3} (h: ¬ (t.1<0\/t.1>=n\/t.2.1<0\/t.2.1>=n\/t.2.2<0\/t.2.2>=n)):zCm n t=true:=by
 simp only [zCm,vIn,zC,zbB,Bool.or_eq_false_iff,yM];omega
def qA {S:Type} (f:S->Nat->S) (s:S):Nat->S
 | 0=>s
 | i+1=>f (qA f s i) i
theorem zAT {k:ETy} {V:Type} (v:V) (q:k.T): ∀ m:List (k.T×V),jS k (zAB k m q v) q=some v
 | []=>by
   simp only [zAB,jS];cases k.decT q q with
   | isTrue h=>rfl
   | isFalse h=>exact absurd rfl h
 | (x,y)::r=>by
   simp only [zAB];cases h1:k.decT x q with
   | isTrue h =>
     simp only [jS];cases k.decT x q with
     | isTrue h=>rfl
     | isFalse h2=>exact absurd h h2
   | isFalse h =>
     simp only [jS];cases k.decT x q with
     | isTrue h2=>exact absurd h2 h
     | isFalse h2=>exact zAT v q r
theorem zA4 {k:ETy} {V:Type} (v:V) {q q':k.T} (hn:q≠q'): ∀ m:List (k.T×V),jS k (zAB k m q v) q'=jS k m q'
 | []=>by
   simp only [zAB,jS];cases k.decT q q' with
   | isTrue h=>exact absurd h hn
   | isFalse h=>rfl
 | (x,y)::r=>by
   simp only [zAB];cases h1:k.decT x q with
   | isTrue h =>
     simp only [jS];cases k.decT x q' with
     | isTrue h2=>exact absurd (h.symm.trans h2) hn
     | isFalse h=>rfl
   | isFalse h =>
     simp only [jS];cases k.decT x q' with
     | isTrue h2=>rfl
     | isFalse h2=>exact zA4 v hn r
theorem zDJ {k:ETy} {V:Type} (v v':V) (q:k.T): ∀ m:List (k.T×V),zAB k (zAB k m q v) q v'=zAB k m q v'
 | []=>by
   simp only [zAB];cases k.decT q q with
   | isTrue h=>rfl
   | isFalse h=>exact absurd rfl h
 | (x,y)::r=>by
   simp only [zAB];cases h1:k.decT x q with
   | isTrue h=>simp only [zAB,h1]
   | isFalse h=>simp only [zAB,h1,zDJ v v' q r]
def z6D (n:Int) (l:List P3) (i:Nat):Option Wit:=if zCm n (l.getD i (0,0,0)) then none else some (1,(i:Int),0)
def zHq (n:Int) (l:List P3) (i:Nat):List Wit:=(List.range i).filterMap (z6D n l)
theorem z8d {n:Int} {l:List P3} {i:Nat} (h:zCm n (l.getD i (0,0,0))=true):zHq n l (i+1)=zHq n l i:=by
 rw [zHq,q9,z6D,if_pos h];simp [zHq]
theorem z90 {n:Int} {l:List P3} {i:Nat} (h:zCm n (l.getD i (0,0,0))=false):zHq n l (i+1)=zHq n l i++[(1,(i:Int),0)]:=by
 rw [zHq,q9,z6D,if_neg (by rw [h];simp)];rfl
def zHN (s:Int×List P3):Bool:=decide (s.1<0)|| (decide (s.1>4096)|| decide ((s.2.length:Int)>8192))
def jF (s:Int×List P3):List Wit:=if zHN s then [(1,-1,0)] else zHq s.1 s.2 s.2.length
def zPj (n:Int) (l:List P3):Spec Nat where
 inv x:=x<=l.length
 live x:=[(27,.s (.int .i64 x)),(3,.s (.own 2 0 (zHq n l x).length))]
 keep:=[1,25,26]
 heap x:=[(2,.row zB0 91 (zHq n l x))]
 keepH:=[0]
 mu x:=l.length - x
theorem zKO {n:Int} {l:List P3} (h:n<0\/n>4096\/(l.length:Int)>8192):jF (n,l)=[(1,-1,0)]:=by
 have:zHN (n,l)=true:=by simp only [zHN,zbA,zP];omega
 rw [jF,if_pos this]
theorem zOZ {n:Int} {l:List P3} (h1: ¬ n<0) (h2: ¬ n>4096) (h3: ¬ (l.length:Int)>8192):jF (n,l)=zHq n l l.length:=by
 have:zHN (n,l)=false:=by simp only [zHN,Bool.or_eq_false_iff,yM];omega
 rw [jF,if_neg (by simp [this])]
theorem zZK (n:Int) (l:List P3) (i:Nat):(zHq n l i).length<=i:=zC7 _ _
theorem zZ4 {fn} (n:Int) (l:List P3):zFB ⟨tyL,fn,[]⟩ f160 [qP.av (n,l)] (fun v obs=>v= .s (.own 0 0 (jF (n,l)).length)/\obs=[.row zB0 91 (jF (n,l))]):=by
 repeat' (conv=>whnf
          first|done|refine qy ?_|refine qG fun _=> ?_|refine qw (fun _=> ?_) (fun _=> ?_)|apply qt|refine qi (fun _=> ?_) (fun _=> ?_)|(refine zaB 5 rfl (zPj n l) (0) ?_ ?_ ?_ fun x hx=> ?_)|(refine zdg 8 rfl ?_;refine Or.inl (zB (4) ?_))|with_reducible refine zaA (zPj _ _) (x+1) ?_ ?_ ?_ ?_|refine qu ?_|refine qv ?_ ?_|exact zO)
 all_goals try first|refine qz ?_|apply qz5
 all_goals try simp only [qn0,z7,zX,ETy.dflt,Int.reduceToNat,Int.reduceAdd,Int.reduceSub,Int.reduceNeg,Nat.reduceAdd,zPj] at *
 all_goals try (refine qh ?_;omega)
 all_goals try (refine qh ?_;have:=zZK n l x;(try simp only [List.length_singleton]);omega)
 all_goals try (rw [zKO (by omega)];done)
 all_goals try (rw [zKO (by omega)];rfl)
 all_goals try (rw [zOZ (by assumption) (by assumption) (by assumption),show x=l.length by omega];done)
 all_goals try (rw [z90 (zP6 (by omega))];(try simp);done)
 all_goals try (rw [z8d (zG0 (by omega))];done)
def zTj:List AV->Option zKQ:=zEz qP (fun s=>some (none,none,.s (.own 0 0 (jF s).length),[.row zB0 91 (jF s)]))
theorem zZd:zDM prog 160 zTj:=zaw (zCC fun s r h=>by cases h;exact fbF (fn:=[]) trivial func160 fun _ _=>zZ4 s.1 s.2) func160
end S1
namespace S1
@[irreducible] def zMi (t:P3):Bool:=t.1==t.2.1|| (t.2.1==t.2.2|| t.2.2==t.1)
theorem zWp {t:P3} (h:t.1=t.2.1\/t.2.1=t.2.2\/t.2.2=t.1):zMi t=true:=by
 simp only [zMi,zbA,beq_iff_eq];exact h
theorem zZ3 {t:P3} (h: ¬ (t.1=t.2.1\/t.2.1=t.2.2\/t.2.2=t.1)):zMi t=false:=by
 rw [<- zbV];intro e;apply h;simpa only [zMi,zbA,beq_iff_eq] using e
def dgG (l:List P3) (i:Nat):Option Wit:=if zMi (l.getD i (0,0,0)) then some (2,(i:Int),0) else none
def dgL (l:List P3) (i:Nat):List Wit:=(List.range i).filterMap (dgG l)
theorem z9a {l:List P3} {i:Nat} (h:zMi (l.getD i (0,0,0))=true):dgL l (i+1)=dgL l i++[(2,(i:Int),0)]:=by
 rw [dgL,q9,dgG,if_pos h];rfl
theorem z98 {l:List P3} {i:Nat} (h:zMi (l.getD i (0,0,0))=false):dgL l (i+1)=dgL l i:=by
 rw [dgL,q9,dgG,if_neg (by rw [h];simp)];simp [dgL]
theorem z33 (l:List P3) (i:Nat):(dgL l i).length<=i:=zC7 _ _
def z5V (l:List P3):Spec Nat where
 inv x:=x<=l.length
 live x:=[(9,.s (.int .i64 x)),(3,.s (.own 2 0 (dgL l x).length))]
 keep:=[1,7,8]
 heap x:=[(2,.row zB0 91 (dgL l x))]
 keepH:=[0]
 mu x:=l.length - x
theorem z5L {fn} (n:Int) (l:List P3) (hb:l.length<=8192):zFB ⟨tyL,fn,[]⟩ f161 [qP.av (n,l)] (fun v obs=>v= .s (.own 0 0 (dgL l l.length).length)/\obs=[.row zB0 91 (dgL l l.length)]):=by
 repeat' (conv=>whnf
          first|done|refine qy ?_|refine qG fun _=> ?_|refine qw (fun _=> ?_) (fun _=> ?_)|apply qt|refine qi (fun _=> ?_) (fun _=> ?_)|(refine zaB 3 rfl (z5V l) (0) ?_ ?_ ?_ fun x hx=> ?_)|with_reducible refine zaA (z5V _) (x+1) ?_ ?_ ?_ ?_|refine qu ?_|refine qv ?_ ?_|exact zO)
 all_goals try first|refine qz ?_|apply qz5
 all_goals try simp only [qn0,z7,zX,ETy.dflt,Int.reduceToNat,Int.reduceAdd,Int.reduceSub,Int.reduceNeg,Nat.reduceAdd,z5V] at *
 all_goals try (refine qh ?_;omega)
 all_goals try (refine qh ?_;have:=z33 l x;(try simp only [List.length_singleton]);omega)
 all_goals try (rw [z9a (zWp (by omega))];(try simp);done)
 all_goals try (rw [z98 (zZ3 (by omega))];done)
 all_goals (rw [show x=l.length by omega];done)
def z41:List AV->Option zKQ:=zEz qP (fun s=>some (none,some (s.2.length<=8192),.s (.own 0 0 (dgL s.2 s.2.length).length),[.row zB0 91 (dgL s.2 s.2.length)]))
theorem z4v:zDM prog 161 z41:=zaw (zCC fun s r h=>by cases h;exact fbF (fn:=[]) trivial func161 fun _ h=>z5L s.1 s.2 h) func161
def zNQ (s:List Bool) (t:P3):List Bool:=((s.set t.1.toNat true).set t.2.1.toNat true).set t.2.2.toNat true
def zC8 (n:Nat) (l:List P3) (i:Nat):List Bool:=qA (fun s j=>zNQ s (l.getD j (0,0,0))) (List.replicate n false) i
theorem zJv (n:Nat) (l:List P3): ∀ i,(zC8 n l i).length=n
 | 0=>by simp [zC8,qA]
 | i+1=>by
   have:=zJv n l i;unfold zC8 at this ⊢;simp only [qA,zNQ,zbY];exact this
def loG (s:List Bool) (v:Nat):Option Wit:=if s.getD v false then none else some (5,(v:Int),0)
def loL (s:List Bool) (v:Nat):List Wit:=(List.range v).filterMap (loG s)
theorem z9N {s:List Bool} {i:Nat} (h:s.getD i false=true):loL s (i+1)=loL s i:=by
 rw [loL,q9,loG,if_pos h];simp [loL]
theorem z95 {s:List Bool} {i:Nat} (h:s.getD i false=false):loL s (i+1)=loL s i++[(5,(i:Int),0)]:=by
 rw [loL,q9,loG,if_neg (by rw [h];simp)];rfl
theorem z4j (s:List Bool) (i:Nat):(loL s i).length<=i:=zC7 _ _
def zVe (n:Nat) (l:List P3):Spec Nat where
 inv x:=x<=l.length
 live x:=[(17,.s (.int .i64 x))]
 keep:=[1,3,15,16]
 heap x:=[(2,.row .bool 4 (zC8 n l x))]
 keepH:=[0]
 mu x:=l.length - x
def zWe (n:Nat) (s:List Bool):Spec Nat where
 inv x:=x<=n
 live x:=[(32,.s (.int .i64 x)),(8,.s (.own 3 0 (loL s x).length))]
 keep:=[1,3,30,31]
 heap x:=[(3,.row zB0 91 (loL s x))]
 keepH:=[0,2]
 mu x:=n - x
def zH3 (s:Int×List P3):List Wit:=loL (zC8 s.1.toNat s.2 s.2.length) s.1.toNat
def zMc (s:Int×List P3):Prop:=0<=s.1/\s.1<=4096/\s.2.length<=8192/\∀ i,i<s.2.length->zCm s.1 (s.2.getD i (0,0,0))=true
theorem zUO {fn} (n:Int) (l:List P3) (hf:zMc (n,l)):zFB ⟨tyL,fn,[]⟩ f164 [qP.av (n,l)] (fun v obs=>v= .s (.own 0 0 (zH3 (n,l)).length)/\obs=[.row zB0 91 (zH3 (n,l))]):=by
 obtain ⟨h1,h2,h3,h4⟩:=hf
 repeat' (conv=>whnf
          first|done|refine qy ?_|refine qG fun _=> ?_|refine qw (fun _=> ?_) (fun _=> ?_)|apply qt|refine qi (fun _=> ?_) (fun _=> ?_)|(refine zaB 3 rfl (zVe n.toNat l) (0) ?_ ?_ ?_ fun x hx=> ?_)|(refine zdg 6 rfl ?_;refine Or.inl (zB (4) ?_))|with_reducible refine zaA (zVe _ _) (x+1) ?_ ?_ ?_ ?_|(refine zaB 13 rfl (zWe n.toNat (zC8 n.toNat l l.length)) (0) ?_ ?_ ?_ fun y hy=> ?_)|with_reducible refine zaA (zWe _ _) (y+1) ?_ ?_ ?_ ?_|refine qu ?_|refine qv ?_ ?_|exact zO)
 all_goals try first|refine qz ?_|apply qz5
 all_goals try simp only [qn0,z7,zX,ETy.dflt,Int.reduceToNat,Int.reduceAdd,Int.reduceSub,Int.reduceNeg,Nat.reduceAdd,zVe,zWe] at *
 all_goals try (refine qh ?_;omega)
 all_goals try (have ht:=zAH (h4 x (by omega));refine qh ?_;(try simp only [zAC h1]);omega)
 all_goals try (have e:x=l.length:=by omega)
 all_goals try subst e
 all_goals try (refine qh ?_;have:=z4j (zC8 n.toNat l l.length) y;(try simp only [List.length_singleton]);omega)
 all_goals try (rw [z9N (by assumption)];done)
 all_goals try (rw [z95 (by assumption)];(try simp);done)
 all_goals try rfl
 all_goals (have e:y=n.toNat:=by omega
            subst e;rfl)
def zPf:List AV->Option zKQ:=zEz qP (fun s=>some (none,some (zMc s),.s (.own 0 0 (zH3 s).length),[.row zB0 91 (zH3 s)]))
theorem zTh:zDM prog 164 zPf:=zaw (zCC fun s r h=>by cases h;exact fbF (fn:=[]) trivial func164 fun _ h=>zUO s.1 s.2 h) func164
end S1
namespace S1
theorem qX {S:Type} {f:S->Nat->S} {s:S} (P:Nat->S->Prop) (h0:P 0 s) {n:Nat} (hs: ∀ i s,i<n->P i s->P (i+1) (f s i)): ∀ i,i<=n->P i (qA f s i)
 | 0,_=>h0
 | i+1,h=>hs i _ (by omega) (qX P h0 hs i (by omega))
def qQ (t:P3):List P3:=[(t.1,t.2.1,0),(t.2.1,t.2.2,0),(t.2.2,t.1,0)]
theorem zVK {fn} (t:P3):zAG ⟨tyL,fn,[]⟩ f180 [ETy.arr3.av t] (fun v=>v= .s (.sl .arr3 (qQ t))):=by
 repeat' (conv=>whnf
          first|done|refine qy ?_|refine qG fun _=> ?_|refine qw (fun _=> ?_) (fun _=> ?_)|apply qt|refine qi (fun _=> ?_) (fun _=> ?_)|refine qu ?_|refine qv ?_ ?_|exact zO)
 all_goals try first|refine qz ?_|apply qz5
 all_goals try simp only [qn0,z7,zX,ETy.dflt,Int.reduceToNat,Int.reduceAdd,Int.reduceSub,Int.reduceNeg,Nat.reduceAdd,qQ] at *
 rfl
def zQC:List AV->Option Res:=zEz .arr3 (fun t=>some (none,none,.s (.sl .arr3 (qQ t))))
theorem zUR:qM prog 180 zQC:=mkR (zA1 fun t r h=>by cases h;exact fb (fn:=[]) trivial func180 fun _ _=>zVK t) func180
abbrev zJQ:=List (ETy.arr3.T×List Int)
abbrev z9L:=List (ETy.arr2.T×ETy.bool.T)
abbrev PS:=z9L×List Wit
def prA (kind:Int) (i:Nat) (av:List Int) (s:PS) (j:Nat):PS :=
 match (jS .arr2 s.1 (av.getD j 0,(i:Int))).getD false with
 | true=>s
 | false=>(zAB .arr2 s.1 (av.getD j 0,(i:Int)) true,s.2++[(kind,av.getD j 0,(i:Int))])
def zAL (h:zJQ) (k:P3):List Int:=(jS .arr3 h k).getD []
def prK (kind:Int) (i:Nat) (ks:List P3) (s:zJQ×PS) (m:Nat):zJQ×PS :=
 (zAB .arr3 s.1 (ks.getD m (0,0,0)) (zAL s.1 (ks.getD m (0,0,0))++[(i:Int)]),qA (prA kind i (zAL s.1 (ks.getD m (0,0,0)))) s.2 (zAL s.1 (ks.getD m (0,0,0))).length)
def prI (kp:P3->List P3) (kind:Int) (l:List P3) (s:zJQ×PS) (i:Nat):zJQ×PS:=qA (prK kind i (kp (l.getD i (0,0,0)))) s (kp (l.getD i (0,0,0))).length
def prS (kp:P3->List P3) (kind:Int) (l:List P3) (i:Nat):zJQ×PS:=qA (prI kp kind l) ([],[],[]) i
theorem zNq (h:zJQ) (k:P3):Option.getD (jS .arr3 h k) []=zAL h k:=rfl
theorem zKh (h:zJQ) (k:P3) (v:List Int):zAL (zAB .arr3 h k v) k=v:=by rw [zAL,zAT];rfl
theorem z85 {kind:Int} {i:Nat} {av:List Int} {s:PS} {j:Nat} (h:(jS .arr2 s.1 (av.getD j 0,(i:Int))).getD false=true):qA (prA kind i av) s 0=s/\prA kind i av s j=s:=by
 refine ⟨rfl,?_⟩;unfold prA;rw [h]
theorem z91 {kind:Int} {i:Nat} {av:List Int} {s:PS} {j:Nat} (h:(jS .arr2 s.1 (av.getD j 0,(i:Int))).getD false=false) :
 prA kind i av s j=(zAB .arr2 s.1 (av.getD j 0,(i:Int)) true,s.2++[(kind,av.getD j 0,(i:Int))]):=by
 unfold prA;rw [h]
theorem zQf {kind:Int} {i:Nat} {av:List Int} {s:PS} {z:Nat} (h:(jS .arr2 (qA (prA kind i av) s z).1 (av.getD z 0,(i:Int))).getD false=true):qA (prA kind i av) s (z+1)=qA (prA kind i av) s z:=(z85 h).2
theorem zUI {kind:Int} {i:Nat} {av:List Int} {s:PS} {z:Nat} (h:(jS .arr2 (qA (prA kind i av) s z).1 (av.getD z 0,(i:Int))).getD false=false) :
 qA (prA kind i av) s (z+1)=(zAB .arr2 (qA (prA kind i av) s z).1 (av.getD z 0,(i:Int)) true,(qA (prA kind i av) s z).2++[(kind,av.getD z 0,(i:Int))]):=z91 h
theorem z63 (kind:Int) (i:Nat) (av:List Int) (s:PS) (j:Nat):(prA kind i av s j).2.length<=s.2.length+1:=by
 unfold prA;split
 ·omega
 ·simp
theorem zPq (kind:Int) (i:Nat) (av:List Int) (s:PS) (j:Nat):(qA (prA kind i av) s j).2.length<=s.2.length+j :=
 qX (n:=j) (fun j (t:PS)=>t.2.length<=s.2.length+j) (by simp) (fun j t _ h=>zb0 (z63 _ _ _ _ _) (by omega)) j (zI _)
def zPK (c b:Nat) (s:zJQ×PS):Prop:=(∀ k,(zAL s.1 k).length<=c)/\s.2.2.length<=b
theorem zDq (h:zJQ) (k:P3) (v:List Int) (k':P3):zAL (zAB .arr3 h k v) k'=if k=k' then v else zAL h k':=by
 unfold zAL;split
 ·rename_i e;subst e;rw [zAT];rfl
 ·rename_i e;rw [zA4 _ e]
theorem z7E {kind:Int} {i c b:Nat} {ks:List P3} {s:zJQ×PS} {m:Nat} (h:zPK c b s):zPK (c+1) (b+c) (prK kind i ks s m):=by
 refine ⟨fun k=> ?_,?_⟩
 ·show (zAL (zAB .arr3 s.1 _ _) k).length<=_;rw [zDq];split
  ·have:=h.1 (ks.getD m (0,0,0));rw [zN];simp only [List.length_singleton];omega
  ·have:=h.1 k;omega
 ·have:=zPq kind i (zAL s.1 (ks.getD m (0,0,0))) s.2 (zAL s.1 (ks.getD m (0,0,0))).length;have:=h.1 (ks.getD m (0,0,0));have:=h.2;show (qA (prA kind i (zAL s.1 (ks.getD m (0,0,0)))) s.2 (zAL s.1 (ks.getD m (0,0,0))).length).2.length<=_;omega
theorem zPT {kind:Int} {i:Nat} {ks:List P3} {c b:Nat} {s:zJQ×PS} (h:zPK c b s) (hk:ks.length<=3): ∀ m,m<=ks.length->zPK (c+m) (b+m*(c+3)) (qA (prK kind i ks) s m) :=
 qX (fun m (t:zJQ×PS)=>zPK (c+m) (b+m*(c+3)) t) (by simpa using h) fun m t hm ht=>by
  have:=z7E (kind:=kind) (i:=i) (ks:=ks) (m:=m) ht;refine ⟨fun k=>zb0 (this.1 k) (by omega),zb0 this.2 ?_⟩;rw [Nat.succ_mul];omega
theorem z2t (kp:P3->List P3) (hk: ∀ t,(kp t).length<=3) (kind:Int) (l:List P3) (i:Nat) (hi:i<=8192):zPK (3*i) (i*73737) (prS kp kind l i) :=
 qX (n:=8192) (fun i t=>zPK (3*i) (i*73737) t) ⟨fun k=>by simp [zAL,jS],by simp⟩ (fun i t hi h=>by
  have h1:=zPT (kind:=kind) (i:=i) h (hk (l.getD i (0,0,0))) _ (zI _);have h3:=hk (l.getD i (0,0,0));have h4:(kp (l.getD i (0,0,0))).length*(3*i+3)<=3*(3*i+3):=zbE _ h3
  exact ⟨fun k=>zb0 (h1.1 k) (by omega),zb0 h1.2 (zb0 (Nat.add_le_add_left h4 _) (by omega))⟩) i hi
def zFJ (kp:P3->List P3) (kind:Int) (l:List P3):Spec Nat where
 inv x:=x<=l.length
 live x:=[(22,.s (.int .i64 x)),(7,.s (.own 2 0 (prS kp kind l x).2.2.length))]
 keep:=[1,2,3,8,9,20,21]
 heap x:=[(2,.row zB0 91 (prS kp kind l x).2.2),(3,.gmap .arr3 (.int .i64) (prS kp kind l x).1),(4,.map .arr2 .bool (prS kp kind l x).2.1)]
 keepH:=[0]
 mu x:=l.length - x
def zFE (kind:Int) (i:Nat) (ks:List P3) (s:zJQ×PS):Spec Nat where
 inv x:=x<=ks.length
 live x:=[(31,.s (.int .i64 x)),(7,.s (.own 2 0 (qA (prK kind i ks) s x).2.2.length))]
 keep:=[1,2,3,8,9,10,11,20,21,22,29,30]
 heap x:=[(2,.row zB0 91 (qA (prK kind i ks) s x).2.2),(3,.gmap .arr3 (.int .i64) (qA (prK kind i ks) s x).1),(4,.map .arr2 .bool (qA (prK kind i ks) s x).2.1)]
 keepH:=[0,5]
 mu x:=ks.length - x
def zJx (kind:Int) (i:Nat) (av:List Int) (s:PS):Spec Nat where
 inv x:=x<=av.length
 live x:=[(39,.s (.int .i64 x)),(7,.s (.own 2 0 (qA (prA kind i av) s x).2.length))]
 keep:=[1,2,3,8,9,10,11,13,20,21,22,29,30,31,37,38]
 heap x:=[(2,.row zB0 91 (qA (prA kind i av) s x).2),(4,.map .arr2 .bool (qA (prA kind i av) s x).1)]
 keepH:=[0,3,5,6]
 mu x:=av.length - x
theorem zTB (n kind:Int) (l:List P3) (hb:l.length<=8192):zFB ⟨tyL,[(180,zQC)],[]⟩ f179 [qP.av (n,l),(ETy.int .i64).av kind,ETy.fnc.av (some 180)] (fun v obs=>v= .s (.own 0 0 (prS qQ kind l l.length).2.2.length)/\obs=[.row zB0 91 (prS qQ kind l l.length).2.2]):=by
 have hS:=fun x (h:x<=8192)=>z2t qQ (fun _=>zI 3) kind l x h
 repeat' (conv=>whnf
          first|done|refine qy ?_|refine qG fun _=> ?_|refine qw (fun _=> ?_) (fun _=> ?_)|apply qt|refine qi (fun _=> ?_) (fun _=> ?_)|(refine zaB 5 rfl (zFJ qQ kind l) (0) ?_ ?_ ?_ fun x hx=> ?_)|with_reducible refine zaA (zFJ _ _ _) (x+1) ?_ ?_ ?_ ?_|(refine zaB 8 rfl (zFE kind x (qQ (l.getD x (0,0,0))) (prS qQ kind l x)) (0) ?_ ?_ ?_ fun y hy=> ?_)|with_reducible refine zaA (zFE _ _ _ _) (y+1) ?_ ?_ ?_ ?_|(refine zaB 11 rfl (zJx kind x (zAL (qA (prK kind x (qQ (l.getD x (0,0,0)))) (prS qQ kind l x) y).1 ((qQ (l.getD x (0,0,0))).getD y (0,0,0))) (qA (prK kind x (qQ (l.getD x (0,0,0)))) (prS qQ kind l x) y).2) (0) ?_ ?_ ?_ fun z hz=> ?_)|with_reducible refine zaA (zJx _ _ _ _) (z+1) ?_ ?_ ?_ ?_|refine qu ?_|refine qv ?_ ?_|exact zO)
 all_goals try first|refine qz ?_|apply qz5
 all_goals try simp only [qn0,z7,zX,ETy.dflt,Int.reduceToNat,Int.reduceAdd,Int.reduceSub,Int.reduceNeg,Nat.reduceAdd,zFJ,zFE,zJx,zDJ,zNq,zKh] at *
 all_goals try (refine qh ?_;omega)
 all_goals try (rw [zQf (by assumption)];done)
 all_goals try (rw [zUI (by assumption)];(try simp);done)
 all_goals try first
  | (have e:z=(zAL (qA (prK kind x (qQ (l.getD x (0,0,0)))) (prS qQ kind l x) y).1 ((qQ (l.getD x (0,0,0))).getD y (0,0,0))).length:=by omega
     subst e;first|rfl|(rw [zDJ,zAT];rfl))
  | (have e:y=(qQ (l.getD x (0,0,0))).length:=by omega
     subst e;rfl)
  | (have e:x=l.length:=by omega
     subst e;rfl)
 all_goals
  have hB:=zPT (kind:=kind) (i:=x) (ks:=qQ (l.getD x (0,0,0))) (hS x (by omega)) (zI 3) y (by omega);have h1:=hB.1 ((qQ (l.getD x (0,0,0))).getD y (0,0,0));have h2:=hB.2;have h3:=zPq kind x (zAL (qA (prK kind x (qQ (l.getD x (0,0,0)))) (prS qQ kind l x) y).1 ((qQ (l.getD x (0,0,0))).getD y (0,0,0))) (qA (prK kind x (qQ (l.getD x (0,0,0)))) (prS qQ kind l x) y).2 z;have h4:y<=3:=hy;have h5:y*(3*x+3)<=3*(3*x+3):=zbE _ h4
  refine qh ?_;generalize y*(3*x+3)=q at *
 ·omega
 ·unfold zBT;simp only [yA,List.take_zero,List.length_nil];omega
def zMH:List AV->Option zKQ:=zOw qP (.int .i64) .fnc (fun s kind f=>match f with
 | some 180=>some (none,some (s.2.length<=8192),.s (.own 0 0 (prS qQ kind s.2 s.2.length).2.2.length),[.row zB0 91 (prS qQ kind s.2 s.2.length).2.2])
 | _=>none)
end S1
namespace S1
abbrev zC5:=List ((ETy.int .i64).T×List Int)
abbrev ReM:=List ((ETy.int .i64).T×ETy.bool.T)
def zAy (m:zC5) (w:Int):List Int:=(jS (.int .i64) m w).getD []
theorem zUs (m:zC5) (w:Int):(jS (.int .i64) m w).getD []=zAy m w:=rfl
theorem zEY (h:zC5) (k:Int) (v:List Int) (k':Int):zAy (zAB (.int .i64) h k v) k'=if k=k' then v else zAy h k':=by
 unfold zAy;split
 ·rename_i e;subst e;rw [zAT];rfl
 ·rename_i e;rw [zA4 _ e]
theorem zTP (h:zC5) (k:Int) (v:List Int):zAy (zAB (.int .i64) h k v) k=v:=by rw [zEY,if_pos rfl]
def trl (t:P3):List Int:=[t.1,t.2.1,t.2.2]
def tri (l:List P3) (i:Int):P3:=l.getD i.toNat (0,0,0)
theorem z3v (t:P3):[t.1,t.2.1,t.2.2]=trl t:=rfl
theorem z3R (l:List P3) (i:Int):l.getD i.toNat (0,0,0)=tri l i:=rfl
def enW (v i:Int) (t:P3) (m:zC5) (k:Nat):zC5:=if (trl t).getD k 0=v then m else zAB (.int .i64) m ((trl t).getD k 0) (zAy m ((trl t).getD k 0)++[i])
def enT (l:List P3) (v:Int) (tris:List Int) (m:zC5) (j:Nat):zC5:=qA (enW v (tris.getD j 0) (tri l (tris.getD j 0))) m 3
def enA (l:List P3) (v:Int) (tris:List Int) (j:Nat):zC5:=qA (enT l v tris) [] j
theorem z1O {v i:Int} {t:P3} {m:zC5} {k:Nat} (h:(trl t).getD k 0=v):qA (enW v i t) m (k+1)=qA (enW v i t) m k:=by
 show enW v i t (qA (enW v i t) m k) k=_;rw [enW,if_pos h]
theorem z3q {v i:Int} {t:P3} {m:zC5} {k:Nat} (h:(trl t).getD k 0≠v):qA (enW v i t) m (k+1)=zAB (.int .i64) (qA (enW v i t) m k) ((trl t).getD k 0) (zAy (qA (enW v i t) m k) ((trl t).getD k 0)++[i]):=by
 show enW v i t (qA (enW v i t) m k) k=_;rw [enW,if_neg h]
def zVL (tris:List Int) (c:Nat) (m:zC5):Prop:= ∀ w,(zAy m w).length<=c/\∀ x∈zAy m w,x∈tris
theorem z7k {v i:Int} {t:P3} {tris:List Int} {c:Nat} {m:zC5} {k:Nat} (h:zVL tris c m) (hi:i∈tris):zVL tris (c+1) (enW v i t m k):=by
 intro w;unfold enW;split
 ·exact ⟨by have:=(h w).1;omega,(h w).2⟩
 ·rw [zEY];split
  ·have:=h ((trl t).getD k 0);refine ⟨by rw [zN];simp only [List.length_singleton];omega,fun x hx=> ?_⟩;rw [yD,zF] at hx;rcases hx with hx|rfl
   ·exact this.2 x hx
   ·exact hi
  ·exact ⟨by have:=(h w).1;omega,(h w).2⟩
theorem zY9 {v i:Int} {t:P3} {tris:List Int} {c:Nat} {m:zC5} (h:zVL tris c m) (hi:i∈tris) (k:Nat):zVL tris (c+k) (qA (enW v i t) m k) :=
 qX (n:=k) (fun k (m:zC5)=>zVL tris (c+k) m) h (fun k _ _ hm=>z7k (k:=k) hm hi) k (zI _)
theorem jB {l:List Int} {j:Nat} (h:j<l.length):l.getD j 0∈l:=by
 rw [gdE,gE h];exact yQ h
theorem zWE (l:List P3) (v:Int) (tris:List Int): ∀ j,j<=tris.length->zVL tris (3*j) (enA l v tris j) :=
 qX (fun j (m:zC5)=>zVL tris (3*j) m) (fun w=>⟨by simp [zAy,jS],by simp [zAy,jS]⟩) fun j m hj h=>zY9 h (jB hj) 3
abbrev TgS:=Nat×List Int×ReM
def had (m:ReM) (k:Int):Bool:=(jS (.int .i64) m k).getD false
theorem z3A (m:ReM) (k:Int):(jS (.int .i64) m k).getD false=had m k:=rfl
theorem zZ5 (m:ReM) (k:Int): @Option.getD Bool (@jS (.int .i64) Bool m k) false=had m k:=rfl
theorem zFS (m:ReM) (k k':Int):had (zAB (.int .i64) m k true) k'=if k=k' then true else had m k':=by
 unfold had;split
 ·rename_i e;subst e;rw [zAT];rfl
 ·rename_i e;rw [zA4 _ e]
def vis (av:List Int) (S:TgS) (j:Nat):TgS:=if had S.2.2 (av.getD j 0)=true then S else (0,S.2.1.drop S.1++[av.getD j 0],zAB (.int .i64) S.2.2 (av.getD j 0) true)
theorem z0R {av:List Int} {S:TgS} {j:Nat} (h:had (qA (vis av) S j).2.2 (av.getD j 0)=true):qA (vis av) S (j+1)=qA (vis av) S j:=by
 show vis av (qA (vis av) S j) j=_;rw [vis,if_pos h]
theorem z5A {av:List Int} {S:TgS} {j:Nat} (h:had (qA (vis av) S j).2.2 (av.getD j 0)=false) :
 qA (vis av) S (j+1)=(0,(qA (vis av) S j).2.1.drop (qA (vis av) S j).1++[av.getD j 0],zAB (.int .i64) (qA (vis av) S j).2.2 (av.getD j 0) true):=by
 show vis av (qA (vis av) S j) j=_;rw [vis,if_neg (by rw [h];simp)]
def tgW (E:zC5) (v:Int) (t:P3) (S:TgS) (k:Nat):TgS:=if (trl t).getD k 0=v then S else qA (vis (zAy E ((trl t).getD k 0))) S (zAy E ((trl t).getD k 0)).length
theorem zZr {E:zC5} {v:Int} {t:P3} {S:TgS} {k:Nat} (h:(trl t).getD k 0=v):qA (tgW E v t) S (k+1)=qA (tgW E v t) S k:=by
 show tgW E v t (qA (tgW E v t) S k) k=_;rw [tgW,if_pos h]
theorem z5T {E:zC5} {v:Int} {t:P3} {S:TgS} {k:Nat} (h:(trl t).getD k 0≠v):qA (tgW E v t) S (k+1)=qA (vis (zAy E ((trl t).getD k 0))) (qA (tgW E v t) S k) (zAy E ((trl t).getD k 0)).length:=by
 show tgW E v t (qA (tgW E v t) S k) k=_;rw [tgW,if_neg h]
def tgR (E:zC5) (l:List P3) (v:Int) (S:TgS) (_:Nat):TgS:=if S.1<S.2.1.length then qA (tgW E v (tri l (S.2.1.getD S.1 0))) (S.1+1,S.2.1,S.2.2) 3 else S
def tgS (E:zC5) (l:List P3) (v x0:Int) (r:Nat):TgS:=qA (tgR E l v) (0,[x0],[(x0,true)]) r
def unr (tris:List Int) (m:ReM):Nat:=(tris.filter fun k=> !had m k).length
def meas (tris:List Int) (S:TgS):Nat:=(S.2.1.length - S.1)+unr tris S.2.2
def zRo (tris:List Int) (S:TgS):Prop:=S.1<=S.2.1.length/\(∀ x∈S.2.1,x∈tris)/\S.2.2.length+unr tris S.2.2<=tris.length+1
theorem zRp {k:ETy} {V:Type} (v:V) (q:k.T): ∀ m:List (k.T×V),(zAB k m q v).length<=m.length+1
 | []=>by simp [zAB]
 | (x,y)::r=>by
   simp only [zAB];split
   ·simp
   ·have:=zRp v q r;simp only [yA];omega
theorem zUe {α:Type} {p q:α->Bool} (h: ∀ x,q x=true->p x=true): ∀ l:List α,(l.filter q).length<=(l.filter p).length
 | []=>zI _
 | a ::l=>by
   have:=zUe h l
   by_cases hq:q a=true
   ·rw [zbP hq,zbP (h a hq)];simp only [yA];omega
   ·rw [zb3 hq]
    by_cases hp:p a=true
    ·rw [zbP hp];simp only [yA];omega
    ·rw [zb3 hp];exact this
theorem zKx {α:Type} {p q:α->Bool} (h: ∀ x,q x=true->p x=true) {a:α} (hp:p a=true) (hq: ¬ q a=true): ∀ {l:List α},a∈l->(l.filter q).length+1<=(l.filter p).length
 | b ::l,hm=>by
   rcases zT.1 hm with e|hm
   ·subst e;rw [zbP hp,zb3 hq];have:=zUe h l;simp only [yA];omega
   ·have:=zKx h hp hq hm
    by_cases hq':q b=true
    ·rw [zbP hq',zbP (h b hq')];simp only [yA];omega
    ·rw [zb3 hq']
     by_cases hp':p b=true
     ·rw [zbP hp'];simp only [yA];omega
     ·rw [zb3 hp'];exact this
theorem zYJ {tris:List Int} {m:ReM} {k:Int} (hk:k∈tris) (h:had m k=false):unr tris (zAB (.int .i64) m k true)+1<=unr tris m:=by
 refine zKx (fun x hx=> ?_) (a:=k) (by rw [h];rfl) (by rw [zFS,if_pos rfl];simp) hk;rw [zFS] at hx;split at hx
 ·simp at hx
 ·exact hx
theorem z7o {tris av:List Int} {S:TgS} {j:Nat} (h:zRo tris S) (hj:j<av.length) (ha: ∀ x∈av,x∈tris):zRo tris (vis av S j)/\meas tris (vis av S j)<=meas tris S:=by
 unfold vis;split
 ·exact ⟨h,zI _⟩
 ·rename_i hh;have hm:=ha _ (jB hj);refine ⟨⟨zbH _,fun x hx=> ?_,?_⟩,?_⟩
  ·rw [yD,zF] at hx;rcases hx with hx|rfl
   ·exact h.2.1 x (zb1 hx)
   ·exact hm
  ·have:=zYJ hm (by simpa using hh);have:=zRp (k:= .int .i64) true (av.getD j 0) S.2.2;have:=h.2.2;show (zAB (.int .i64) S.2.2 (av.getD j 0) true).length+unr tris (zAB (.int .i64) S.2.2 (av.getD j 0) true)<=_;omega
  ·have:=zYJ hm (by simpa using hh);show ((S.2.1.drop S.1++[av.getD j 0]).length - 0)+unr tris (zAB (.int .i64) S.2.2 (av.getD j 0) true)<=meas tris S;rw [zN,zbw,List.length_singleton];unfold meas;omega
theorem zYo {tris av:List Int} {S:TgS} (h:zRo tris S) (ha: ∀ x∈av,x∈tris): ∀ j,j<=av.length->zRo tris (qA (vis av) S j)/\meas tris (qA (vis av) S j)<=meas tris S :=
 qX (fun _ (T:TgS)=>zRo tris T/\meas tris T<=meas tris S) ⟨h,zI _⟩ fun j T hj hT=>let ⟨a,b⟩:=z7o (j:=j) hT.1 hj ha;⟨a,zb0 b hT.2⟩
theorem zQc {tris:List Int} {E:zC5} {c:Nat} (hE:zVL tris c E) {v:Int} {t:P3} {S:TgS} (h:zRo tris S) (k:Nat):zRo tris (qA (tgW E v t) S k)/\meas tris (qA (tgW E v t) S k)<=meas tris S :=
 qX (n:=k) (fun _ (T:TgS)=>zRo tris T/\meas tris T<=meas tris S) ⟨h,zI _⟩ (fun j T _ hT=>by
  unfold tgW;split
  ·exact hT
  ·obtain ⟨a,b⟩:=zYo hT.1 (hE _).2 _ (zI _)
   exact ⟨a,zb0 b hT.2⟩) k (zI _)
theorem zRy {tris:List Int} {S:TgS} (h:zRo tris S) (hs:S.1<S.2.1.length):zRo tris (S.1+1,S.2.1,S.2.2)/\meas tris (S.1+1,S.2.1,S.2.2)+1<=meas tris S :=
 ⟨⟨hs,h.2⟩,by unfold meas;show S.2.1.length - (S.1+1)+unr tris S.2.2+1<=_;omega⟩
theorem z2T {tris:List Int} {E:zC5} {c:Nat} (hE:zVL tris c E) {l:List P3} {v:Int} {S:TgS} {r:Nat} (h:zRo tris S):zRo tris (tgR E l v S r)/\(meas tris (tgR E l v S r)<=meas tris S)/\(S.1<S.2.1.length->meas tris (tgR E l v S r)+1<=meas tris S):=by
 unfold tgR;split
 ·rename_i hs;obtain ⟨a,b⟩:=zRy h hs;obtain ⟨c,d⟩:=zQc hE (v:=v) (t:=tri l (S.2.1.getD S.1 0)) a 3;exact ⟨c,by omega,fun _=>by omega⟩
 ·rename_i hs;exact ⟨h,zI _,fun e=>absurd e hs⟩
theorem z5N {tris:List Int} {x0:Int} (_:x0∈tris):([(x0,true)]:ReM).length+unr tris [(x0,true)]<=tris.length+1:=by
 have:unr tris [(x0,true)]<=tris.length:=zcC _ _;simp only [List.length_singleton];omega
theorem zI9 {tris:List Int} {x0:Int} :meas tris (0,[x0],[(x0,true)])<=tris.length+1:=by
 have:unr tris [(x0,true)]<=tris.length:=zcC _ _;show 1+unr tris [(x0,true)]<=_;omega
theorem z2K {tris:List Int} {E:zC5} {c:Nat} (hE:zVL tris c E) {l:List P3} {v x0:Int} (hx:x0∈tris) (r:Nat):zRo tris (tgS E l v x0 r)/\meas tris (tgS E l v x0 r)<=meas tris (0,[x0],[(x0,true)]) :=
 qX (n:=r) (fun _ (T:TgS)=>zRo tris T/\meas tris T<=meas tris (0,[x0],[(x0,true)])) ⟨⟨zbH _,fun x hx'=>by rw [zF] at hx';rw [hx'];exact hx,z5N hx⟩,zI _⟩
  (fun j T _ hT=>let ⟨a,b,_⟩:=z2T (r:=j) hE hT.1;⟨a,zb0 b hT.2⟩) r (zI _)
theorem zL4 {E:zC5} {l:List P3} {v x0:Int} {r:Nat} (h: ¬ (tgS E l v x0 r).1<(tgS E l v x0 r).2.1.length): ∀ d,tgS E l v x0 (r+d)=tgS E l v x0 r
 | 0=>rfl
 | d+1=>by
   show tgR E l v (tgS E l v x0 (r+d)) (r+d)=_;rw [zL4 h d,tgR,if_neg h]
theorem zXP {E:zC5} {l:List P3} {v x0:Int} {r:Nat} (h:(tgS E l v x0 r).1<(tgS E l v x0 r).2.1.length) :
 tgS E l v x0 (r+1)=qA (tgW E v (tri l ((tgS E l v x0 r).2.1.getD (tgS E l v x0 r).1 0))) ((tgS E l v x0 r).1+1,(tgS E l v x0 r).2.1,(tgS E l v x0 r).2.2) 3:=by
 show tgR E l v (tgS E l v x0 r) r=_;rw [tgR,if_pos h]
def tgP (S:TgS):TgS:=(S.1+1,S.2.1,S.2.2)
def tgT (l:List P3) (S:TgS):P3:=tri l (S.2.1.getD S.1 0)
def zT2 (l:List P3) (v:Int) (tris:List Int):Bool:=(((tgS (enA l v tris tris.length) l v (tris.getD 0 0) (2*tris.length+2)).2.2.length:Int)==(tris.length:Int))
def zVr (l:List P3) (v:Int) (tris:List Int):Spec Nat where
 inv x:=x<=tris.length
 live x:=[(22,.s (.int .i64 x))]
 keep:=[1,2,3,7,20,21]
 heap x:=[(1,.gmap (.int .i64) (.int .i64) (enA l v tris x))]
 keepH:=[0]
 mu x:=tris.length - x
def zTp (l:List P3) (v:Int) (tris:List Int) (j:Nat):Spec Nat where
 inv x:=x<=3
 live x:=[(31,.s (.int .i64 x))]
 keep:=[1,2,3,7,9,20,21,22,30]
 heap x:=[(1,.gmap (.int .i64) (.int .i64) (qA (enW v (tris.getD j 0) (tri l (tris.getD j 0))) (enA l v tris j) x))]
 keepH:=[0]
 mu x:=3 - x
def zYF (E:zC5) (l:List P3) (v x0:Int) (tris:List Int):Spec Nat where
 inv x:=x+meas tris (tgS E l v x0 x)<=2*tris.length+2
 live x:=[(13,.s (.own 3 (tgS E l v x0 x).1 ((tgS E l v x0 x).2.1.length - (tgS E l v x0 x).1)))]
 keep:=[1,2,3,7,12]
 heap x:=[(2,.map (.int .i64) .bool (tgS E l v x0 x).2.2),(3,.row (.int .i64) 3 (tgS E l v x0 x).2.1)]
 keepH:=[0,1]
 mu x:=meas tris (tgS E l v x0 x)
def zWQ (E:zC5) (v:Int) (t:P3) (S:TgS):Spec Nat where
 inv x:=x<=3
 live x:=[(69,.s (.int .i64 x)),(13,.s (.own 3 (qA (tgW E v t) S x).1 ((qA (tgW E v t) S x).2.1.length - (qA (tgW E v t) S x).1)))]
 keep:=[1,2,3,7,12,14,68]
 heap x:=[(2,.map (.int .i64) .bool (qA (tgW E v t) S x).2.2),(3,.row (.int .i64) 3 (qA (tgW E v t) S x).2.1)]
 keepH:=[0,1]
 mu x:=3 - x
def zXS (av:List Int) (S:TgS):Spec Nat where
 inv x:=x<=av.length
 live x:=[(79,.s (.int .i64 x)),(13,.s (.own 3 (qA (vis av) S x).1 ((qA (vis av) S x).2.1.length - (qA (vis av) S x).1)))]
 keep:=[1,2,3,7,12,14,68,69,77,78]
 heap x:=[(2,.map (.int .i64) .bool (qA (vis av) S x).2.2),(3,.row (.int .i64) 3 (qA (vis av) S x).2.1)]
 keepH:=[0,1]
 mu x:=av.length - x
theorem zXC {α:Type} (l:List α) (s:Nat):List.take (l.length - s) (List.drop s l)=List.drop s l:=zbT (by simp)
def z9j (l:List P3) (tris:List Int):Prop:=l.length<=8192/\tris.length<=24576/\tris≠[]/\∀ x∈tris,0<=x/\x<l.length
theorem z7n {fn} (n v:Int) (l:List P3) (tris:List Int) (hf:z9j l tris):zAG ⟨tyL,fn,[]⟩ f182 [qP.av (n,l),(ETy.int .i64).av v,(ETy.sl (.int .i64)).av tris] (fun r=>r= .s (.bool (zT2 l v tris))):=by
 obtain ⟨h1,h2,h3,h4⟩:=hf;have h5:0<tris.length:=zbl.2 h3
 repeat' (conv=>whnf
          first|done|refine qy ?_|refine qG fun _=> ?_|refine qw (fun _=> ?_) (fun _=> ?_)|apply qt|refine qi (fun _=> ?_) (fun _=> ?_)|(refine zaB 3 rfl (zVr l v tris) (0) ?_ ?_ ?_ fun x hx=> ?_)|with_reducible refine zaA (zVr _ _ _) (x+1) ?_ ?_ ?_ ?_|(refine zaB 6 rfl (zTp l v tris x) (0) ?_ ?_ ?_ fun y hy=> ?_)|with_reducible refine zaA (zTp _ _ _ _) (y+1) ?_ ?_ ?_ ?_|(refine zaB 14 rfl (zYF (enA l v tris tris.length) l v (tris.getD 0 0) tris) (0) ?_ ?_ ?_ fun z hz=> ?_)|with_reducible refine zaA (zYF _ _ _ _ _) (z+1) ?_ ?_ ?_ ?_|(refine zaB 18 rfl (zWQ (enA l v tris tris.length) v (tgT l (tgS (enA l v tris tris.length) l v (tris.getD 0 0) z)) (tgP (tgS (enA l v tris tris.length) l v (tris.getD 0 0) z))) (0) ?_ ?_ ?_ fun k hk=> ?_)|with_reducible refine zaA (zWQ _ _ _ _) (k+1) ?_ ?_ ?_ ?_|(refine zaB 22 rfl (zXS (zAy (enA l v tris tris.length) ((trl (tgT l (tgS (enA l v tris tris.length) l v (tris.getD 0 0) z))).getD k 0)) (qA (tgW (enA l v tris tris.length) v (tgT l (tgS (enA l v tris tris.length) l v (tris.getD 0 0) z))) (tgP (tgS (enA l v tris tris.length) l v (tris.getD 0 0) z)) k)) (0) ?_ ?_ ?_ fun j hj=> ?_)|with_reducible refine zaA (zXS _ _) (j+1) ?_ ?_ ?_ ?_|refine qu ?_|refine qv ?_ ?_|exact zO)
 all_goals try first|refine qz ?_|apply qz5
 all_goals try simp only [qn0,z7,zX,ETy.dflt,Int.reduceToNat,Int.reduceAdd,Int.reduceSub,Int.reduceNeg,Nat.reduceAdd,zVr,zTp,zYF,zWQ,zXS,z3v,z3R,tgT,tgP,zcB,zDJ,zUs,zTP,z3A,zZ5,zXC] at *
 all_goals try (refine qh ?_;omega)
 all_goals try (rw [z1O (by assumption)];done)
 all_goals try (rw [z3q (by assumption)];(try rfl);done)
 all_goals try (have e:x=tris.length:=by omega)
 all_goals try subst e
 all_goals try (refine qh ?_;omega)
 all_goals try (rw [zZr (by assumption)];done)
 all_goals try (rw [z0R (by assumption)];done)
 all_goals try (rw [z5A (by assumption)];(try simp);done)
 all_goals try (have e:j=(zAy (enA l v tris tris.length) ((trl (tgT l (tgS (enA l v tris tris.length) l v (tris.getD 0 0) z))).getD k 0)).length:=by (unfold tgT;omega)
                subst e;rw [z5T (by assumption)];rfl)
 ·exact qh (h4 _ (jB (by omega)))
 ·have:=(zY9 (zWE l v tris x (by omega)) (jB (l:=tris) (j:=x) (by omega)) (v:=v) (t:=tri l (tris.getD x 0)) y ((trl (tri l (tris.getD x 0))).getD y 0)).1;refine yJ.intro ⟨?_,trivial⟩;unfold zBT;simp only [yA,List.replicate_zero,List.length_nil];omega
 ·have e:y=3:=by omega
  subst e;rfl
 ·have:=zI9 (tris:=tris) (x0:=tris.getD 0 0);refine qh ?_;show meas tris (0,[tris.getD 0 0],[(tris.getD 0 0,true)])<=_;omega
 all_goals
  have hE:=zWE l v tris tris.length (zI _);obtain ⟨hS1,hS2⟩:=z2K hE (l:=l) (v:=v) (jB h5) z;have hS3:=zI9 (tris:=tris) (x0:=tris.getD 0 0)
 ·exact qh (h4 _ (hS1.2.1 _ (jB (by omega))))
 ·have hP:=zRy hS1 (by omega);have hW:=zQc hE (v:=v) (t:=tgT l (tgS (enA l v tris tris.length) l v (tris.getD 0 0) z)) hP.1 k;have hV:=zYo hW.1 (hE ((trl (tgT l (tgS (enA l v tris tris.length) l v (tris.getD 0 0) z))).getD k 0)).2 j (by assumption);have hM:=zb0 hV.2 hW.2;have hL: ∀ S:TgS,S.2.1.length - S.1<=meas tris S:=fun S=>Nat.le_add_right _ _;have hN:=zb0 (hL _) hM;refine qh ?_;simp only [tgT,zX] at hN
  have hP2:=hP.2;simp only [zX] at hP2;omega
 all_goals try (have e:k=3:=by omega)
 all_goals try subst e
 all_goals try (rw [zXP (by omega)];done)
 ·have hP:=zRy hS1 (by omega);have hW:=zQc hE (v:=v) (t:=tri l ((tgS (enA l v tris tris.length) l v (tris.getD 0 0) z).2.1.getD (tgS (enA l v tris tris.length) l v (tris.getD 0 0) z).1 0)) hP.1 3;rw [<- zXP (by omega)] at hW;exact qh (by omega)
 ·have hP:=zRy hS1 (by omega);have hW:=zQc hE (v:=v) (t:=tri l ((tgS (enA l v tris tris.length) l v (tris.getD 0 0) z).2.1.getD (tgS (enA l v tris tris.length) l v (tris.getD 0 0) z).1 0)) hP.1 3;rw [<- zXP (by omega)] at hW;exact qh (by omega)
 ·have:=hS1.2.2;exact qh (by omega)
 ·have:=zL4 (E:=enA l v tris tris.length) (l:=l) (v:=v) (x0:=tris.getD 0 0) (r:=z) (by omega) (2*tris.length+2 - z);rw [show z+(2*tris.length+2 - z)=2*tris.length+2 by omega] at this;rw [zT2,this]
attribute [irreducible] zT2
def z9W:List AV->Option Res:=zOw qP (.int .i64) (.sl (.int .i64)) (fun s v tris=>some (none,some (z9j s.2 tris),.s (.bool (zT2 s.2 v tris))))
theorem z7N:qM prog 182 z9W:=mkR (zDZ fun s v tris r h=>by cases h;exact fb (fn:=[]) trivial func182 fun _ h=>z7n s.1 v s.2 tris h) func182
end S1
namespace S1
def z8 (t:P3) (v:Int):Prop:=t.1=v\/t.2.1=v\/t.2.2=v
def atP (s:List (List Int)) (w:Int) (j:Nat):List (List Int):=s.set w.toNat (s.getD w.toNat []++[(j:Int)])
def at3 (s:List (List Int)) (t:P3) (j:Nat):List (List Int):=atP (atP (atP s t.1 j) t.2.1 j) t.2.2 j
def atF (n:Nat) (l:List P3) (i:Nat):List (List Int):=qA (fun s j=>at3 s (l.getD j (0,0,0)) j) (List.replicate n []) i
def z3e (n c b:Nat) (s:List (List Int)):Prop:=s.length=n/\∀ v,(s.getD v []).length<=c/\∀ x∈s.getD v [],0<=x/\x<(b:Int)
theorem zBd (s:List (List Int)) (w:Int) (j v:Nat):(atP s w j).getD v []=if w.toNat=v/\v<s.length then s.getD v []++[(j:Int)] else s.getD v []:=by
 unfold atP;simp only [gdE,zbQ]
 by_cases h1:w.toNat=v
 ·subst h1
  by_cases h2:w.toNat<s.length
  ·simp [h2]
  ·simp [h2]
 ·simp [h1]
theorem zF8 (s:List (List Int)) (w:Int) (j:Nat):(atP s w j).length=s.length:=by simp [atP]
theorem zOe {n c b:Nat} {s:List (List Int)} {w:Int} {j:Nat} (h:z3e n c b s) (hj:j<b):z3e n (c+1) b (atP s w j):=by
 refine ⟨by rw [zF8];exact h.1,fun v=> ?_⟩;rw [zBd];split
 ·have:=h.2 v;refine ⟨by rw [zN];simp only [List.length_singleton];omega,fun x hx=> ?_⟩;rw [yD,zF] at hx;rcases hx with hx|rfl
  ·exact this.2 x hx
  ·omega
 ·exact ⟨by have:=(h.2 v).1;omega,(h.2 v).2⟩
theorem z3e.more {n c b b':Nat} {s:List (List Int)} (h:z3e n c b s) (hb:b<=b'):z3e n c b' s :=
 ⟨h.1,fun v=>⟨(h.2 v).1,fun x hx=>by have:=(h.2 v).2 x hx;omega⟩⟩
theorem zSL (n:Nat) (l:List P3) (i:Nat):z3e n (3*i) i (atF n l i) :=
 qX (n:=i) (fun i (s:List (List Int))=>z3e n (3*i) i s) ⟨by simp,fun v=>by
  have:(List.replicate n ([]:List Int)).getD v []=[]:=by
   rw [gdE,zbI];split<;>rfl
  rw [this];simp⟩ (fun i s _ h=>by
  have h:=h.more (Nat.le_succ i)
  exact zOe (zOe (zOe h (Nat.lt_succ_self i)) (Nat.lt_succ_self i)) (Nat.lt_succ_self i)) i (zI _)
theorem zRw {α:Type} {l:List α} {a:α} :l++[a]≠[]:=by simp
theorem zEk {s:List (List Int)} {w:Int} {j v:Nat} (h:s.getD v []≠[]):(atP s w j).getD v []≠[]:=by
 rw [zBd];split
 ·exact zRw
 ·exact h
theorem z3b {s:List (List Int)} {t:P3} {j v:Nat} (hv:v<s.length) (h:z8 t v):(at3 s t j).getD v []≠[]:=by
 unfold at3;rcases h with h|h|h
 ·exact zEk (zEk (by rw [zBd,if_pos ⟨by omega,hv⟩];exact zRw))
 ·exact zEk (by rw [zBd,if_pos ⟨by omega,by rw [zF8];exact hv⟩];exact zRw)
 ·rw [zBd,if_pos ⟨by omega,by rw [zF8,zF8];exact hv⟩];exact zRw
theorem zOL (n:Nat) (l:List P3) {v:Nat} (hv:v<n): ∀ i,(∃ j,j<i/\z8 (l.getD j (0,0,0)) v)->(atF n l i).getD v []≠[]
 | 0,⟨j,h,_⟩=>by omega
 | i+1,⟨j,hj,h⟩=>by
   show (at3 (atF n l i) (l.getD i (0,0,0)) i).getD v []≠[]
   by_cases e:j=i
   ·subst e;exact z3b (by rw [(zSL n l j).1];exact hv) h
   ·exact zEk (zEk (zEk (zOL n l hv i ⟨j,by omega,h⟩)))
def z87 (s:Int×List P3):Prop:= ∀ v:Nat,(v:Int)<s.1->∃ j,j<s.2.length/\z8 (s.2.getD j (0,0,0)) v
def piG (n:Nat) (l:List P3) (v:Nat):Option Wit:=if zT2 l v ((atF n l l.length).getD v []) then none else some (6,(v:Int),0)
def piL (n:Nat) (l:List P3) (v:Nat):List Wit:=(List.range v).filterMap (piG n l)
theorem z8t {n:Nat} {l:List P3} {i:Nat} (h:zT2 l i ((atF n l l.length).getD i [])=true):piL n l (i+1)=piL n l i:=by
 rw [piL,q9,piG,if_pos h];simp [piL]
theorem z8a {n:Nat} {l:List P3} {i:Nat} (h:zT2 l i ((atF n l l.length).getD i [])=false):piL n l (i+1)=piL n l i++[(6,(i:Int),0)]:=by
 rw [piL,q9,piG,if_neg (by rw [h];simp)];rfl
theorem z3f (n:Nat) (l:List P3) (i:Nat):(piL n l i).length<=i:=zC7 _ _
def zXw (s:Int×List P3):List Wit:=piL s.1.toNat s.2 s.1.toNat
def zJZ (n:Nat) (l:List P3):Spec Nat where
 inv x:=x<=l.length
 live x:=[(17,.s (.int .i64 x))]
 keep:=[1,3,15,16]
 heap x:=[(2,.grow (.int .i64) 54 (atF n l x))]
 keepH:=[0]
 mu x:=l.length - x
def zIJ (n:Nat) (l:List P3):Spec Nat where
 inv x:=x<=n
 live x:=[(40,.s (.int .i64 x)),(8,.s (.own 3 0 (piL n l x).length))]
 keep:=[1,3,38,39]
 heap x:=[(3,.row zB0 91 (piL n l x))]
 keepH:=[0,2]
 mu x:=n - x
theorem z12 (n:Int) (l:List P3) (hf:zMc (n,l)/\z87 (n,l)):zFB ⟨tyL,[(182,z9W)],[]⟩ f165 [qP.av (n,l)] (fun v obs=>v= .s (.own 0 0 (zXw (n,l)).length)/\obs=[.row zB0 91 (zXw (n,l))]):=by
 obtain ⟨⟨h1,h2,h3,h4⟩,h5⟩:=hf
 repeat' (conv=>whnf
          first|done|refine qy ?_|refine qG fun _=> ?_|refine qw (fun _=> ?_) (fun _=> ?_)|apply qt|refine qi (fun _=> ?_) (fun _=> ?_)|(refine zaB 3 rfl (zJZ n.toNat l) (0) ?_ ?_ ?_ fun x hx=> ?_)|(refine zdg 6 rfl ?_;refine Or.inl (zB (4) ?_))|with_reducible refine zaA (zJZ _ _) (x+1) ?_ ?_ ?_ ?_|(refine zaB 13 rfl (zIJ n.toNat l) (0) ?_ ?_ ?_ fun y hy=> ?_)|with_reducible refine zaA (zIJ _ _) (y+1) ?_ ?_ ?_ ?_|refine qu ?_|refine qv ?_ ?_|exact zO)
 all_goals try first|refine qz ?_|apply qz5
 all_goals try simp only [qn0,z7,zX,ETy.dflt,Int.reduceToNat,Int.reduceAdd,Int.reduceSub,Int.reduceNeg,Nat.reduceAdd,zJZ,zIJ] at *
 all_goals try (refine qh ?_;omega)
 all_goals try (have ht:=zAH (h4 x (by omega));refine qh ?_;(try simp only [zAC h1]);omega)
 all_goals try rfl
 all_goals try
  (have ht:=zAH (h4 x (by omega))
   have hA:=zSL n.toNat l x;have hA1:=zOe (w:=(l.getD x (0,0,0)).1) (hA.more (Nat.le_succ x)) (Nat.lt_succ_self x);have hA2:=zOe (w:=(l.getD x (0,0,0)).2.1) hA1 (Nat.lt_succ_self x)
   first
    | (have hB:=(hA.2 (l.getD x (0,0,0)).1.toNat).1
       exact qh ⟨by unfold zBT;simp only [yA,List.replicate_zero,List.length_nil];omega,by omega,trivial⟩)
    | (have hB:=(hA1.2 (l.getD x (0,0,0)).2.1.toNat).1
       exact qh ⟨by unfold zBT;simp only [yA,List.replicate_zero,List.length_nil];unfold atP at hB;omega,by omega,trivial⟩)
    | (have hB:=(hA2.2 (l.getD x (0,0,0)).2.2.toNat).1
       exact qh ⟨by unfold zBT;simp only [yA,List.replicate_zero,List.length_nil];unfold atP at hB;omega,by omega,trivial⟩))
 all_goals try (have e:x=l.length:=by omega)
 all_goals try subst e
 all_goals try (refine qh ?_;have:=z3f n.toNat l y;(try simp only [List.length_singleton]);omega)
 all_goals try (rw [z8t (by assumption)];done)
 all_goals try (rw [z8a (by assumption)];(try simp);done)
 ·have hA:=zSL n.toNat l l.length;exact qh ⟨h3,by have:=(hA.2 y).1;omega,zOL n.toNat l (by omega) l.length (h5 y (by omega)),(hA.2 y).2⟩
 all_goals (have e:y=n.toNat:=by omega
            subst e;rfl)
def zXi:List AV->Option zKQ:=zEz qP (fun s=>some (none,some (zMc s/\z87 s),.s (.own 0 0 (zXw s).length),[.row zB0 91 (zXw s)]))
theorem z1R:zDM prog 165 zXi:=zaw (zCC fun s r h=>by cases h;exact fbF (by exact ⟨z7N,trivial⟩) func165 fun _ h=>z12 s.1 s.2 h) func165
abbrev y8:ETy:= .int .i64
end S1
namespace Go.Vm
open Go.RowKit
section
variable {P:Program} {T:Tab} {B:Base} {w:World} {I:Sig} {M:yR} {st:St} {tmps:Array Value}
theorem zI4: ∀ (s:List Nat) (env:Env) (t:Nat),yZ (zJq s env) t= .junk\/(yZ (zJq s env) t=yZ env t/\zUt t s=false)
 | s,[],t=> .inl rfl
 | s, (k,v)::r,t=>by
   simp only [zJq];split
   ·rename_i hm;rcases zI4 s r t with h|⟨h,h2⟩
    ·exact .inl h
    ·by_cases e:k=t
     ·subst e;rw [hm] at h2;cases h2
     ·exact .inr ⟨by rw [h,qR,if_neg e],h2⟩
   ·rename_i hm;rw [qR,qR]
    by_cases e:k=t
    ·subst e;rw [if_pos rfl,if_pos rfl];cases v with
     | s a=>exact .inr ⟨rfl,hm⟩
     | agg l=>exact .inr ⟨rfl,hm⟩
     | tup l=>exact .inl rfl
    ·rw [if_neg e,if_neg e];rcases zI4 (k::s) r t with h|⟨h,h2⟩
     ·exact .inl h
     ·refine .inr ⟨h,?_⟩;simp only [zUt] at h2;split at h2
      ·cases h2
      ·exact h2
theorem zKq (h: ∀ t,y6 I M (yZ st.env t) (tmps.getD t undef)) (t:Nat):y6 I M (yZ (zJq [] st.env) t) (tmps.getD t undef):=by
 rcases zI4 [] st.env t with e|⟨e,_⟩
 ·rw [e];trivial
 ·rw [e];exact h t
theorem z5H (h:GG B I M st tmps w) {vals:List Value} {args:List AV} {N:Nat} (hv:jH I M args vals) (hN:args.length<=N) :
 GA {B with dfs:=[]} N ⟨zHQ 0 args,(st.next,.fr tmps (zJq [] st.env))::st.hp,st.next+1⟩ {tmps:=vals.toArray++Array.replicate (N - vals.toArray.size) undef,defers:=[]} w:=by
 have hlen:=zDz hv;have hlast:(M++[none])[st.next]? =some none:=by rw [<- h.len];simp
 have hold: ∀ {id:Nat},id<st.next->(M++[none])[id]? =M[id]? :=fun hi=>by rw [zbD];rw [h.len];exact hi
 refine ⟨rfl,by simp;omega,I,M++[none],⟨h.mem.ag,fun id ob hi=> ?_⟩,fun t=> ?_,by simp [h.len],fun id ob p hi hp=> ?_,h.bel,h.grew⟩
 ·simp only [yL] at hi;split at hi
  ·rename_i e;subst e;cases hi;exact ⟨hlast,fun t=>(zKq h.env t).more none⟩
  ·exact (h.mem.ob _ _ hi).keep none (fun _ _=>rfl) fun _ _ _=>rfl
 ·have hv':jH I (M++[none]) args vals:=(zCL.2 ((zCL.1 hv).mono fun _ _ h=>h.more none));have:=zGh (m:=N - vals.length) 0 hv' t;simp only [Nat.not_lt_zero,if_false,Nat.sub_zero] at this
  have e:((vals.toArray++Array.replicate (N - vals.toArray.size) undef).getD t undef)=(vals++List.replicate (N - vals.length) undef).getD t undef:=by
   rw [show vals.toArray++Array.replicate (N - vals.toArray.size) undef=(vals++List.replicate (N - vals.length) undef).toArray by simp];simp [zL,gdE]
  show y6 I _ (yZ (zHQ 0 args) t) ((vals.toArray++Array.replicate (N - vals.toArray.size) undef).getD t undef);rw [e];exact this
 ·simp only [yL] at hi;split at hi
  ·rename_i e;subst e;rw [hlast] at hp;cases hp
  ·have hlt:=h.id_lt hi;rw [hold hlt] at hp;obtain ⟨s1,s2,s3⟩:=h.sep _ _ _ hi hp;refine ⟨s1,s2,fun id2 ob2 p2 hne2 hi2 hp2=> ?_⟩;simp only [yL] at hi2;split at hi2
   ·rename_i e;subst e;rw [hlast] at hp2;cases hp2
   ·rw [hold (h.id_lt hi2)] at hp2;exact s3 _ _ _ hne2 hi2 hp2
theorem zOG (R:jM P T) {f:FuncId} {fn:Func} {c:Code} (hf:P.funcs[f]? =some fn) (hb:fn.body=some c) (hok:codeOk fn.ntmps c=true):zJM P f (zR3 T fn):=by
 intro B I M st tmps w args vals K hg hv hk;unfold zR3 at hk;rw [hb] at hk;split at hk
 case h_2=>exact hk.elim
 rename_i c' hbc hble;cases hbc;have hk:=hk tmps;rw [St.forceAll_eq] at hk;have hga:=z5H (N:=fn.ntmps) hg hv (zU hble);refine (callsIn_of_wp (F:=Fence.wide) (n:=0) hf hb trivial ?_).calls (fun _ _ hd=>by cases hd);rw [<- FR.none];refine zA2 R c hok hga hk fun e st' a' w' hp h'=> ?_
 have fin:zSA T fn st.next tmps st' K->a'.defers=[]/\∃ v,(results fn a'.tmps).run P w'= .ok v w'/\∃ v' av st2 σ' β',(Ending.returned v)= .returned v'/\K av st2/\GG B σ' β' st2 tmps w'/\y6 σ' β' av v':=by
  intro hu;unfold zSA at hu;split at hu
  case h_2=>exact hu.elim
  rename_i X l hallok hfr;rw [AV.force_eq,St.forceAll_eq] at hu;obtain ⟨rfl,hu⟩:=hu;obtain ⟨σ1,β1,hg1⟩:=h'.gg
  obtain ⟨vs,hrun,hall⟩:=zB5 (P:=P) (w:=w') (fn:=fn) (tmps:=a'.tmps) (Q:=fun r v=>y6 σ1 β1 (zEW T st' r) v) (fun r hr=>by
   have hro:=zJ.1 hallok r hr;cases r with
   | tmp t=>exact ⟨_,rfl,hg1.env t⟩
   | cell a t =>
     simp only [zGU] at hro;simp only [zEW];have hx:=hg1.env a;split at hro
     ·rename_i id i k hea;rw [hea] at hx;split at hro
      ·rename_i v hv;obtain ⟨p,_,hptr,_⟩:=hx;obtain ⟨_,hrun⟩:=zBf (w:=w') R.ty R.one hg1.mem (t:=t) (hg1.env a) (p:=none) (q:=none) (v:=v) (by rw [hea];exact hv);obtain ⟨val,h1,h2⟩:=hrun trivial;refine ⟨val,?_,h2⟩;rw [hptr] at h1 ⊢;rw [zBL] at h1;simp only [asAddr,zaz,zb4,zay];exact h1
      ·cases hro
     ·cases hro)
  have hob:=hg1.mem.ob _ _ hfr
  have get: ∀ {i:Nat} {ob:Ob},hget (zDU st'.hp st.next) i=some ob->hget st'.hp i=some ob:=fun {i ob} e=>by
   rw [zAk] at e;split at e
   ·cases e
   ·exact e
  refine ⟨h'.defers,_,hrun,_,_,_,σ1,β1,rfl,hu,⟨⟨hg1.mem.ag,fun i ob hi=>hg1.mem.ob _ _ (get hi)⟩,hob.2,hg1.len,fun i ob p hi hp=> ?_,hg1.bel,hg1.grew⟩,zG8 hall⟩;obtain ⟨s1,s2,s3⟩:=hg1.sep _ _ _ (get hi) hp;exact ⟨s1,s2,fun i2 ob2 p2 hne hi2 hp2=>s3 _ _ _ hne (get hi2) hp2⟩
 cases e with
 | normal=>exact fin hp
 | ret=>exact fin hp
 | _=>exact hp.elim
end
end Go.Vm
