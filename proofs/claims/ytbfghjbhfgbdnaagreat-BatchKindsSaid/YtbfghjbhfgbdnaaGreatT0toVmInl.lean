/- A part of the proofs of the laws. -/
import Derived.Test.YtbfghjbhfgbdnaaGreatS1
import Derived.Test.YtbfghjbhfgbdnaaGreatVmCode2toVmKit
set_option linter.unusedSimpArgs false
set_option linter.unusedVariables false
set_option maxHeartbeats 8000000
set_option maxRecDepth 100000
open Go.Proofs.Tryz
open Go Go.Vm Go.Proofs
namespace S1
abbrev P3:=Int×Int×Int
abbrev jQ:ETy:= .pair (.int .i64) (.sl .arr3)
abbrev zCp:ETy:= .pair (.int .i64) (.pair (.int .i64) (.int .i64))
abbrev Wit:=Int×Int×Int
def jN (P : Program) (f : Nat) (c : List AV → Option Res) : Prop := (∀ args r, c args = some r → zDY P f args r) ∧ ∃ fn, P.funcs[f]? = some fn ∧ (fn.name == "runtime.NumGoroutine") = false ∧ fn.body.isNone = false
theorem mkR {P : Program} {f : Nat} {c : List AV → Option Res} {fn : Func} (h : ∀ args r, c args = some r → zDY P f args r) (h2 : P.funcs[f]? = some fn) (h3 : (fn.name == "runtime.NumGoroutine") = false := by kernel_rfl) (h4 : fn.body.isNone = false := by kernel_rfl) : jN P f c := ⟨h, fn, h2, h3, h4⟩
theorem drop_at {α:Type} {l:List α} {i:Nat} (d:α) (h:i<l.length):l.drop i=l.getD i d::l.drop (i+1):=by
 rw [List.drop_eq_getElem_cons h];simp [gdE,h]
theorem zHf {α:Type} {l:List α} {i:Nat} (h: ¬ (i:Int)<l.length):l.drop i=[]:=y9 (by omega)
theorem zCt {α:Type} {l:List α} {i:Nat} (d:α) (h:(i:Int)<l.length):l.drop i=l.getD i d::l.drop (i+1):=drop_at d (by omega)
theorem zAE {α:Type _} (f:Nat->Option α) (i:Nat):(List.range (i+1)).filterMap f=(List.range i).filterMap f++(f i).toList:=by
 rw [List.range_succ,List.filterMap_append];rfl
theorem zFt {α:Type _} (f:Nat->Option α) (i:Nat):((List.range i).filterMap f).length<=i:=jB (List.length_filterMap_le _ _) (by simp)
def vIn (n v:Int):Bool:= !(decide (v<0)|| decide (v>=n))
def zGz (n:Int) (t:P3):Bool:=vIn n t.1&&(vIn n t.2.1&&vIn n t.2.2)
theorem zLh {n v:Int} (h:vIn n v=true):0<=v/\v<n:=by simp [vIn] at h;omega
theorem zAv {n:Int} {t:P3} (h:zGz n t=true):(0<=t.1/\t.1<n)/\(0<=t.2.1/\t.2.1<n)/\(0<=t.2.2/\t.2.2<n):=by
 simp only [zGz,zA] at h;exact ⟨zLh h.1,zLh h.2.1,zLh h.2.2⟩
theorem z1s {n:Int} {t:P3} (h:t.1<0\/t.1>=n\/t.2.1<0\/t.2.1>=n\/t.2.2<0\/t.2.2>=n):zGz n t=false:=by
 rw [<- zA3];intro e;have:=zAv e;omega
theorem zQ5 {n:Int} {t:P3} (h: ¬ (t.1<0\/t.1>=n\/t.2.1<0\/t.2.1>=n\/t.2.2<0\/t.2.2>=n)):zGz n t=true:=by
 simp only [zGz,vIn,zA,y8,Bool.or_eq_false_iff,yX];omega
def jL {S:Type} (f:S->Nat->S) (s:S):Nat->S
 | 0=>s
 | i+1=>f (jL f s i) i
theorem zAt {k:ETy} {V:Type} (v:V) (q:k.T): ∀ m:List (k.T×V),zAR k (zAe k m q v) q=some v
 | []=>by
   simp only [zAe,zAR];cases k.decT q q with
   | isTrue h=>rfl
   | isFalse h=>exact absurd rfl h
 | (x,y)::r=>by
   simp only [zAe];cases h1:k.decT x q with
   | isTrue h =>
     simp only [zAR];cases k.decT x q with
     | isTrue h=>rfl
     | isFalse h2=>exact absurd h h2
   | isFalse h =>
     simp only [zAR];cases k.decT x q with
     | isTrue h2=>exact absurd h2 h
     | isFalse h2=>exact zAt v q r
theorem zBM {k:ETy} {V:Type} (v:V) {q q':k.T} (hn:q≠q'): ∀ m:List (k.T×V),zAR k (zAe k m q v) q'=zAR k m q'
 | []=>by
   simp only [zAe,zAR];cases k.decT q q' with
   | isTrue h=>exact absurd h hn
   | isFalse h=>rfl
 | (x,y)::r=>by
   simp only [zAe];cases h1:k.decT x q with
   | isTrue h =>
     simp only [zAR];cases k.decT x q' with
     | isTrue h2=>exact absurd (h.symm.trans h2) hn
     | isFalse h=>rfl
   | isFalse h =>
     simp only [zAR];cases k.decT x q' with
     | isTrue h2=>rfl
     | isFalse h2=>exact zBM v hn r
theorem zD6 {k:ETy} {V:Type} (v v':V) (q:k.T): ∀ m:List (k.T×V),zAe k (zAe k m q v) q v'=zAe k m q v'
 | []=>by
   simp only [zAe];cases k.decT q q with
   | isTrue h=>rfl
   | isFalse h=>exact absurd rfl h
 | (x,y)::r=>by
   simp only [zAe];cases h1:k.decT x q with
   | isTrue h=>simp only [zAe,h1]
   | isFalse h=>simp only [zAe,h1,zD6 v v' q r]
def z2m (n:Int) (l:List P3) (i:Nat):Option Wit:=if zGz n (l.getD i (0,0,0)) then none else some (1,(i:Int),0)
def zSE (n:Int) (l:List P3) (i:Nat):List Wit:=(List.range i).filterMap (z2m n l)
theorem z5q {n:Int} {l:List P3} {i:Nat} (h:zGz n (l.getD i (0,0,0))=true):zSE n l (i+1)=zSE n l i:=by
 rw [zSE,zAE,z2m,if_pos h];simp [zSE]
theorem z5o {n:Int} {l:List P3} {i:Nat} (h:zGz n (l.getD i (0,0,0))=false):zSE n l (i+1)=zSE n l i++[(1,(i:Int),0)]:=by
 rw [zSE,zAE,z2m,if_neg (by rw [h];simp)];rfl
def zXc (s:Int×List P3):Bool:=decide (s.1<0)|| (decide (s.1>4096)|| decide ((s.2.length:Int)>8192))
def zBm (s:Int×List P3):List Wit:=if zXc s then [(1,-1,0)] else zSE s.1 s.2 s.2.length
def z2Z (n:Int) (l:List P3):Spec Nat where
 inv x:=x<=l.length
 live x:=[(27,.s (.int .i64 x)),(3,.s (.own 2 0 (zSE n l x).length))]
 keep:=[1,25,26]
 heap x:=[(2,.row zCp 45 (zSE n l x))]
 keepH:=[0]
 mu x:=l.length - x
theorem zKT {n:Int} {l:List P3} (h:n<0\/n>4096\/(l.length:Int)>8192):zBm (n,l)=[(1,-1,0)]:=by
 have:zXc (n,l)=true:=by simp only [zXc,yN,zB];omega
 rw [zBm,if_pos this]
theorem zMp {n:Int} {l:List P3} (h1: ¬ n<0) (h2: ¬ n>4096) (h3: ¬ (l.length:Int)>8192):zBm (n,l)=zSE n l l.length:=by
 have:zXc (n,l)=false:=by simp only [zXc,Bool.or_eq_false_iff,yX];omega
 rw [zBm,if_neg (by simp [this])]
theorem zYI (n:Int) (l:List P3) (i:Nat):(zSE n l i).length<=i:=zFt _ _
theorem zY7 {fn} (n:Int) (l:List P3):zGM ⟨tyL,fn,[]⟩ f116 [jQ.av (n,l)] (fun v obs=>v= .s (.own 0 0 (zBm (n,l)).length)/\obs=[.row zCp 45 (zBm (n,l))]):=by
 repeat' (conv=>whnf
          first|done|refine qy ?_|refine qG fun _=> ?_|refine qw (fun _=> ?_) (fun _=> ?_)|apply qt|refine qi (fun _=> ?_) (fun _=> ?_)|(refine jS 5 rfl (z2Z n l) (0) ?_ ?_ ?_ fun x hx=> ?_)|(refine zJa 8 rfl ?_;refine Or.inl (yM (4) ?_))|with_reducible refine jK (z2Z _ _) (x+1) ?_ ?_ ?_ ?_|refine qu ?_|refine qv ?_ ?_|exact zL)
 all_goals try first|refine qz ?_|apply qz5
 all_goals try simp only [qn0,zY,zX,ETy.dflt,Int.reduceToNat,Int.reduceAdd,Int.reduceSub,Int.reduceNeg,Nat.reduceAdd,z2Z] at *
 all_goals try (refine qh ?_;omega)
 all_goals try (refine qh ?_;have:=zYI n l x;(try simp only [List.length_singleton]);omega)
 all_goals try (rw [zKT (by omega)];done)
 all_goals try (rw [zKT (by omega)];rfl)
 all_goals try (rw [zMp (by assumption) (by assumption) (by assumption),show x=l.length by omega];done)
 all_goals try (rw [z5o (z1s (by omega))];(try simp);done)
 all_goals try (rw [z5q (zQ5 (by omega))];done)
def zYq:List AV->Option zLx:=zF4 jQ (fun s=>some (none,none,.s (.own 0 0 (zBm s).length),[.row zCp 45 (zBm s)]))
theorem zWv:zEO prog 116 zYq:=zW5 (zDq fun s r h=>by cases h;exact fbF (fn:=[]) trivial func116 fun _ _=>zY7 s.1 s.2) func116
end S1
namespace S1
@[irreducible] def zZg (t:P3):Bool:=t.1==t.2.1|| (t.2.1==t.2.2|| t.2.2==t.1)
theorem z3k {t:P3} (h:t.1=t.2.1\/t.2.1=t.2.2\/t.2.2=t.1):zZg t=true:=by
 simp only [zZg,yN,beq_iff_eq];exact h
theorem z5b {t:P3} (h: ¬ (t.1=t.2.1\/t.2.1=t.2.2\/t.2.2=t.1)):zZg t=false:=by
 rw [<- zA3];intro e;apply h;simpa only [zZg,yN,beq_iff_eq] using e
def dgG (l:List P3) (i:Nat):Option Wit:=if zZg (l.getD i (0,0,0)) then some (2,(i:Int),0) else none
def dgL (l:List P3) (i:Nat):List Wit:=(List.range i).filterMap (dgG l)
theorem z6U {l:List P3} {i:Nat} (h:zZg (l.getD i (0,0,0))=true):dgL l (i+1)=dgL l i++[(2,(i:Int),0)]:=by
 rw [dgL,zAE,dgG,if_pos h];rfl
theorem z64 {l:List P3} {i:Nat} (h:zZg (l.getD i (0,0,0))=false):dgL l (i+1)=dgL l i:=by
 rw [dgL,zAE,dgG,if_neg (by rw [h];simp)];simp [dgL]
theorem z01 (l:List P3) (i:Nat):(dgL l i).length<=i:=zFt _ _
def z1W (l:List P3):Spec Nat where
 inv x:=x<=l.length
 live x:=[(9,.s (.int .i64 x)),(3,.s (.own 2 0 (dgL l x).length))]
 keep:=[1,7,8]
 heap x:=[(2,.row zCp 45 (dgL l x))]
 keepH:=[0]
 mu x:=l.length - x
theorem z1N {fn} (n:Int) (l:List P3) (hb:l.length<=8192):zGM ⟨tyL,fn,[]⟩ f117 [jQ.av (n,l)] (fun v obs=>v= .s (.own 0 0 (dgL l l.length).length)/\obs=[.row zCp 45 (dgL l l.length)]):=by
 repeat' (conv=>whnf
          first|done|refine qy ?_|refine qG fun _=> ?_|refine qw (fun _=> ?_) (fun _=> ?_)|apply qt|refine qi (fun _=> ?_) (fun _=> ?_)|(refine jS 3 rfl (z1W l) (0) ?_ ?_ ?_ fun x hx=> ?_)|with_reducible refine jK (z1W _) (x+1) ?_ ?_ ?_ ?_|refine qu ?_|refine qv ?_ ?_|exact zL)
 all_goals try first|refine qz ?_|apply qz5
 all_goals try simp only [qn0,zY,zX,ETy.dflt,Int.reduceToNat,Int.reduceAdd,Int.reduceSub,Int.reduceNeg,Nat.reduceAdd,z1W] at *
 all_goals try (refine qh ?_;omega)
 all_goals try (refine qh ?_;have:=z01 l x;(try simp only [List.length_singleton]);omega)
 all_goals try (rw [z6U (z3k (by omega))];(try simp);done)
 all_goals try (rw [z64 (z5b (by omega))];done)
 all_goals (rw [show x=l.length by omega];done)
def z42:List AV->Option zLx:=zF4 jQ (fun s=>some (none,some (s.2.length<=8192),.s (.own 0 0 (dgL s.2 s.2.length).length),[.row zCp 45 (dgL s.2 s.2.length)]))
theorem z0q:zEO prog 117 z42:=zW5 (zDq fun s r h=>by cases h;exact fbF (fn:=[]) trivial func117 fun _ h=>z1N s.1 s.2 h) func117
def zMf (s:List Bool) (t:P3):List Bool:=((s.set t.1.toNat true).set t.2.1.toNat true).set t.2.2.toNat true
def zDE (n:Nat) (l:List P3) (i:Nat):List Bool:=jL (fun s j=>zMf s (l.getD j (0,0,0))) (List.replicate n false) i
theorem zKU (n:Nat) (l:List P3): ∀ i,(zDE n l i).length=n
 | 0=>by simp [zDE,jL]
 | i+1=>by
   have:=zKU n l i;unfold zDE at this ⊢;simp only [jL,zMf,qY];exact this
def loG (s:List Bool) (v:Nat):Option Wit:=if s.getD v false then none else some (5,(v:Int),0)
def loL (s:List Bool) (v:Nat):List Wit:=(List.range v).filterMap (loG s)
theorem z6Z {s:List Bool} {i:Nat} (h:s.getD i false=true):loL s (i+1)=loL s i:=by
 rw [loL,zAE,loG,if_pos h];simp [loL]
theorem z65 {s:List Bool} {i:Nat} (h:s.getD i false=false):loL s (i+1)=loL s i++[(5,(i:Int),0)]:=by
 rw [loL,zAE,loG,if_neg (by rw [h];simp)];rfl
theorem z1S (s:List Bool) (i:Nat):(loL s i).length<=i:=zFt _ _
def zVt (n:Nat) (l:List P3):Spec Nat where
 inv x:=x<=l.length
 live x:=[(17,.s (.int .i64 x))]
 keep:=[1,3,15,16]
 heap x:=[(2,.row .bool 4 (zDE n l x))]
 keepH:=[0]
 mu x:=l.length - x
def zTS (n:Nat) (s:List Bool):Spec Nat where
 inv x:=x<=n
 live x:=[(32,.s (.int .i64 x)),(8,.s (.own 3 0 (loL s x).length))]
 keep:=[1,3,30,31]
 heap x:=[(3,.row zCp 45 (loL s x))]
 keepH:=[0,2]
 mu x:=n - x
def zH4 (s:Int×List P3):List Wit:=loL (zDE s.1.toNat s.2 s.2.length) s.1.toNat
def zM1 (s:Int×List P3):Prop:=0<=s.1/\s.1<=4096/\s.2.length<=8192/\∀ i,i<s.2.length->zGz s.1 (s.2.getD i (0,0,0))=true
theorem zVW {fn} (n:Int) (l:List P3) (hf:zM1 (n,l)):zGM ⟨tyL,fn,[]⟩ f120 [jQ.av (n,l)] (fun v obs=>v= .s (.own 0 0 (zH4 (n,l)).length)/\obs=[.row zCp 45 (zH4 (n,l))]):=by
 obtain ⟨h1,h2,h3,h4⟩:=hf
 repeat' (conv=>whnf
          first|done|refine qy ?_|refine qG fun _=> ?_|refine qw (fun _=> ?_) (fun _=> ?_)|apply qt|refine qi (fun _=> ?_) (fun _=> ?_)|(refine jS 3 rfl (zVt n.toNat l) (0) ?_ ?_ ?_ fun x hx=> ?_)|(refine zJa 6 rfl ?_;refine Or.inl (yM (4) ?_))|with_reducible refine jK (zVt _ _) (x+1) ?_ ?_ ?_ ?_|(refine jS 13 rfl (zTS n.toNat (zDE n.toNat l l.length)) (0) ?_ ?_ ?_ fun y hy=> ?_)|with_reducible refine jK (zTS _ _) (y+1) ?_ ?_ ?_ ?_|refine qu ?_|refine qv ?_ ?_|exact zL)
 all_goals try first|refine qz ?_|apply qz5
 all_goals try simp only [qn0,zY,zX,ETy.dflt,Int.reduceToNat,Int.reduceAdd,Int.reduceSub,Int.reduceNeg,Nat.reduceAdd,zVt,zTS] at *
 all_goals try (refine qh ?_;omega)
 all_goals try (have ht:=zAv (h4 x (by omega));refine qh ?_;(try simp only [zA6 h1]);omega)
 all_goals try (have e:x=l.length:=by omega)
 all_goals try subst e
 all_goals try (refine qh ?_;have:=z1S (zDE n.toNat l l.length) y;(try simp only [List.length_singleton]);omega)
 all_goals try (rw [z6Z (by assumption)];done)
 all_goals try (rw [z65 (by assumption)];(try simp);done)
 all_goals try rfl
 all_goals (have e:y=n.toNat:=by omega
            subst e;rfl)
def zSI:List AV->Option zLx:=zF4 jQ (fun s=>some (none,some (zM1 s),.s (.own 0 0 (zH4 s).length),[.row zCp 45 (zH4 s)]))
theorem zSP:zEO prog 120 zSI:=zW5 (zDq fun s r h=>by cases h;exact fbF (fn:=[]) trivial func120 fun _ h=>zVW s.1 s.2 h) func120
end S1
namespace S1
theorem zAM {S:Type} {f:S->Nat->S} {s:S} (P:Nat->S->Prop) (h0:P 0 s) {n:Nat} (hs: ∀ i s,i<n->P i s->P (i+1) (f s i)): ∀ i,i<=n->P i (jL f s i)
 | 0,_=>h0
 | i+1,h=>hs i _ (by omega) (zAM P h0 hs i (by omega))
def jC (t:P3):List P3:=[(t.1,t.2.1,0),(t.2.1,t.2.2,0),(t.2.2,t.1,0)]
theorem zWL {fn} (t:P3):zAk ⟨tyL,fn,[]⟩ f140 [ETy.arr3.av t] (fun v=>v= .s (.sl .arr3 (jC t))):=by
 repeat' (conv=>whnf
          first|done|refine qy ?_|refine qG fun _=> ?_|refine qw (fun _=> ?_) (fun _=> ?_)|apply qt|refine qi (fun _=> ?_) (fun _=> ?_)|refine qu ?_|refine qv ?_ ?_|exact zL)
 all_goals try first|refine qz ?_|apply qz5
 all_goals try simp only [qn0,zY,zX,ETy.dflt,Int.reduceToNat,Int.reduceAdd,Int.reduceSub,Int.reduceNeg,Nat.reduceAdd,jC] at *
 rfl
def zPI:List AV->Option Res:=zF4 .arr3 (fun t=>some (none,none,.s (.sl .arr3 (jC t))))
theorem zSt:jN prog 140 zPI:=mkR (zAm fun t r h=>by cases h;exact fb (fn:=[]) trivial func140 fun _ _=>zWL t) func140
abbrev zIa:=List (ETy.arr3.T×List Int)
abbrev z5O:=List (ETy.arr2.T×ETy.bool.T)
abbrev PS:=z5O×List Wit
def prA (kind:Int) (i:Nat) (av:List Int) (s:PS) (j:Nat):PS :=
 match (zAR .arr2 s.1 (av.getD j 0,(i:Int))).getD false with
 | true=>s
 | false=>(zAe .arr2 s.1 (av.getD j 0,(i:Int)) true,s.2++[(kind,av.getD j 0,(i:Int))])
def zAc (h:zIa) (k:P3):List Int:=(zAR .arr3 h k).getD []
def prK (kind:Int) (i:Nat) (ks:List P3) (s:zIa×PS) (m:Nat):zIa×PS :=
 (zAe .arr3 s.1 (ks.getD m (0,0,0)) (zAc s.1 (ks.getD m (0,0,0))++[(i:Int)]),jL (prA kind i (zAc s.1 (ks.getD m (0,0,0)))) s.2 (zAc s.1 (ks.getD m (0,0,0))).length)
def prI (kp:P3->List P3) (kind:Int) (l:List P3) (s:zIa×PS) (i:Nat):zIa×PS:=jL (prK kind i (kp (l.getD i (0,0,0)))) s (kp (l.getD i (0,0,0))).length
def prS (kp:P3->List P3) (kind:Int) (l:List P3) (i:Nat):zIa×PS:=jL (prI kp kind l) ([],[],[]) i
theorem zN5 (h:zIa) (k:P3):Option.getD (zAR .arr3 h k) []=zAc h k:=rfl
theorem zKP (h:zIa) (k:P3) (v:List Int):zAc (zAe .arr3 h k v) k=v:=by rw [zAc,zAt];rfl
theorem z5u {kind:Int} {i:Nat} {av:List Int} {s:PS} {j:Nat} (h:(zAR .arr2 s.1 (av.getD j 0,(i:Int))).getD false=true):jL (prA kind i av) s 0=s/\prA kind i av s j=s:=by
 refine ⟨rfl,?_⟩;unfold prA;rw [h]
theorem z5B {kind:Int} {i:Nat} {av:List Int} {s:PS} {j:Nat} (h:(zAR .arr2 s.1 (av.getD j 0,(i:Int))).getD false=false) :
 prA kind i av s j=(zAe .arr2 s.1 (av.getD j 0,(i:Int)) true,s.2++[(kind,av.getD j 0,(i:Int))]):=by
 unfold prA;rw [h]
theorem zQf {kind:Int} {i:Nat} {av:List Int} {s:PS} {z:Nat} (h:(zAR .arr2 (jL (prA kind i av) s z).1 (av.getD z 0,(i:Int))).getD false=true):jL (prA kind i av) s (z+1)=jL (prA kind i av) s z:=(z5u h).2
theorem zTF {kind:Int} {i:Nat} {av:List Int} {s:PS} {z:Nat} (h:(zAR .arr2 (jL (prA kind i av) s z).1 (av.getD z 0,(i:Int))).getD false=false) :
 jL (prA kind i av) s (z+1)=(zAe .arr2 (jL (prA kind i av) s z).1 (av.getD z 0,(i:Int)) true,(jL (prA kind i av) s z).2++[(kind,av.getD z 0,(i:Int))]):=z5B h
theorem z3z (kind:Int) (i:Nat) (av:List Int) (s:PS) (j:Nat):(prA kind i av s j).2.length<=s.2.length+1:=by
 unfold prA;split
 ·omega
 ·simp
theorem zOS (kind:Int) (i:Nat) (av:List Int) (s:PS) (j:Nat):(jL (prA kind i av) s j).2.length<=s.2.length+j :=
 zAM (n:=j) (fun j (t:PS)=>t.2.length<=s.2.length+j) (by simp) (fun j t _ h=>jB (z3z _ _ _ _ _) (by omega)) j (zH _)
def zOt (c b:Nat) (s:zIa×PS):Prop:=(∀ k,(zAc s.1 k).length<=c)/\s.2.2.length<=b
theorem zE0 (h:zIa) (k:P3) (v:List Int) (k':P3):zAc (zAe .arr3 h k v) k'=if k=k' then v else zAc h k':=by
 unfold zAc;split
 ·rename_i e;subst e;rw [zAt];rfl
 ·rename_i e;rw [zBM _ e]
theorem z3f {kind:Int} {i c b:Nat} {ks:List P3} {s:zIa×PS} {m:Nat} (h:zOt c b s):zOt (c+1) (b+c) (prK kind i ks s m):=by
 refine ⟨fun k=> ?_,?_⟩
 ·show (zAc (zAe .arr3 s.1 _ _) k).length<=_;rw [zE0];split
  ·have:=h.1 (ks.getD m (0,0,0));rw [zO];simp only [List.length_singleton];omega
  ·have:=h.1 k;omega
 ·have:=zOS kind i (zAc s.1 (ks.getD m (0,0,0))) s.2 (zAc s.1 (ks.getD m (0,0,0))).length;have:=h.1 (ks.getD m (0,0,0));have:=h.2;show (jL (prA kind i (zAc s.1 (ks.getD m (0,0,0)))) s.2 (zAc s.1 (ks.getD m (0,0,0))).length).2.length<=_;omega
theorem zOb {kind:Int} {i:Nat} {ks:List P3} {c b:Nat} {s:zIa×PS} (h:zOt c b s) (hk:ks.length<=3): ∀ m,m<=ks.length->zOt (c+m) (b+m*(c+3)) (jL (prK kind i ks) s m) :=
 zAM (fun m (t:zIa×PS)=>zOt (c+m) (b+m*(c+3)) t) (by simpa using h) fun m t hm ht=>by
  have:=z3f (kind:=kind) (i:=i) (ks:=ks) (m:=m) ht;refine ⟨fun k=>jB (this.1 k) (by omega),jB this.2 ?_⟩;rw [Nat.succ_mul];omega
theorem zYv (kp:P3->List P3) (hk: ∀ t,(kp t).length<=3) (kind:Int) (l:List P3) (i:Nat) (hi:i<=8192):zOt (3*i) (i*73737) (prS kp kind l i) :=
 zAM (n:=8192) (fun i t=>zOt (3*i) (i*73737) t) ⟨fun k=>by simp [zAc,zAR],by simp⟩ (fun i t hi h=>by
  have h1:=zOb (kind:=kind) (i:=i) h (hk (l.getD i (0,0,0))) _ (zH _);have h3:=hk (l.getD i (0,0,0));have h4:(kp (l.getD i (0,0,0))).length*(3*i+3)<=3*(3*i+3):=yG _ h3
  exact ⟨fun k=>jB (h1.1 k) (by omega),jB h1.2 (jB (Nat.add_le_add_left h4 _) (by omega))⟩) i hi
def zJz (kp:P3->List P3) (kind:Int) (l:List P3):Spec Nat where
 inv x:=x<=l.length
 live x:=[(22,.s (.int .i64 x)),(7,.s (.own 2 0 (prS kp kind l x).2.2.length))]
 keep:=[1,2,3,8,9,20,21]
 heap x:=[(2,.row zCp 45 (prS kp kind l x).2.2),(3,.gmap .arr3 (.int .i64) (prS kp kind l x).1),(4,.map .arr2 .bool (prS kp kind l x).2.1)]
 keepH:=[0]
 mu x:=l.length - x
def zJq (kind:Int) (i:Nat) (ks:List P3) (s:zIa×PS):Spec Nat where
 inv x:=x<=ks.length
 live x:=[(31,.s (.int .i64 x)),(7,.s (.own 2 0 (jL (prK kind i ks) s x).2.2.length))]
 keep:=[1,2,3,8,9,10,11,20,21,22,29,30]
 heap x:=[(2,.row zCp 45 (jL (prK kind i ks) s x).2.2),(3,.gmap .arr3 (.int .i64) (jL (prK kind i ks) s x).1),(4,.map .arr2 .bool (jL (prK kind i ks) s x).2.1)]
 keepH:=[0,5]
 mu x:=ks.length - x
def zJx (kind:Int) (i:Nat) (av:List Int) (s:PS):Spec Nat where
 inv x:=x<=av.length
 live x:=[(39,.s (.int .i64 x)),(7,.s (.own 2 0 (jL (prA kind i av) s x).2.length))]
 keep:=[1,2,3,8,9,10,11,13,20,21,22,29,30,31,37,38]
 heap x:=[(2,.row zCp 45 (jL (prA kind i av) s x).2),(4,.map .arr2 .bool (jL (prA kind i av) s x).1)]
 keepH:=[0,3,5,6]
 mu x:=av.length - x
theorem zRj (n kind:Int) (l:List P3) (hb:l.length<=8192):zGM ⟨tyL,[(140,zPI)],[]⟩ f139 [jQ.av (n,l),(ETy.int .i64).av kind,ETy.fnc.av (some 140)] (fun v obs=>v= .s (.own 0 0 (prS jC kind l l.length).2.2.length)/\obs=[.row zCp 45 (prS jC kind l l.length).2.2]):=by
 have hS:=fun x (h:x<=8192)=>zYv jC (fun _=>zH 3) kind l x h
 repeat' (conv=>whnf
          first|done|refine qy ?_|refine qG fun _=> ?_|refine qw (fun _=> ?_) (fun _=> ?_)|apply qt|refine qi (fun _=> ?_) (fun _=> ?_)|(refine jS 5 rfl (zJz jC kind l) (0) ?_ ?_ ?_ fun x hx=> ?_)|with_reducible refine jK (zJz _ _ _) (x+1) ?_ ?_ ?_ ?_|(refine jS 8 rfl (zJq kind x (jC (l.getD x (0,0,0))) (prS jC kind l x)) (0) ?_ ?_ ?_ fun y hy=> ?_)|with_reducible refine jK (zJq _ _ _ _) (y+1) ?_ ?_ ?_ ?_|(refine jS 11 rfl (zJx kind x (zAc (jL (prK kind x (jC (l.getD x (0,0,0)))) (prS jC kind l x) y).1 ((jC (l.getD x (0,0,0))).getD y (0,0,0))) (jL (prK kind x (jC (l.getD x (0,0,0)))) (prS jC kind l x) y).2) (0) ?_ ?_ ?_ fun z hz=> ?_)|with_reducible refine jK (zJx _ _ _ _) (z+1) ?_ ?_ ?_ ?_|refine qu ?_|refine qv ?_ ?_|exact zL)
 all_goals try first|refine qz ?_|apply qz5
 all_goals try simp only [qn0,zY,zX,ETy.dflt,Int.reduceToNat,Int.reduceAdd,Int.reduceSub,Int.reduceNeg,Nat.reduceAdd,zJz,zJq,zJx,zD6,zN5,zKP] at *
 all_goals try (refine qh ?_;omega)
 all_goals try (rw [zQf (by assumption)];done)
 all_goals try (rw [zTF (by assumption)];(try simp);done)
 all_goals try first
  | (have e:z=(zAc (jL (prK kind x (jC (l.getD x (0,0,0)))) (prS jC kind l x) y).1 ((jC (l.getD x (0,0,0))).getD y (0,0,0))).length:=by omega
     subst e;first|rfl|(rw [zD6,zAt];rfl))
  | (have e:y=(jC (l.getD x (0,0,0))).length:=by omega
     subst e;rfl)
  | (have e:x=l.length:=by omega
     subst e;rfl)
 all_goals
  have hB:=zOb (kind:=kind) (i:=x) (ks:=jC (l.getD x (0,0,0))) (hS x (by omega)) (zH 3) y (by omega);have h1:=hB.1 ((jC (l.getD x (0,0,0))).getD y (0,0,0));have h2:=hB.2;have h3:=zOS kind x (zAc (jL (prK kind x (jC (l.getD x (0,0,0)))) (prS jC kind l x) y).1 ((jC (l.getD x (0,0,0))).getD y (0,0,0))) (jL (prK kind x (jC (l.getD x (0,0,0)))) (prS jC kind l x) y).2 z;have h4:y<=3:=hy;have h5:y*(3*x+3)<=3*(3*x+3):=yG _ h4
  refine qh ?_;generalize y*(3*x+3)=q at *
 ·omega
 ·unfold zBi;simp only [zZ,List.take_zero,List.length_nil];omega
def zP3:List AV->Option zLx:=zOs jQ (.int .i64) .fnc (fun s kind f=>match f with
 | some 140=>some (none,some (s.2.length<=8192),.s (.own 0 0 (prS jC kind s.2 s.2.length).2.2.length),[.row zCp 45 (prS jC kind s.2 s.2.length).2.2])
 | _=>none)
end S1
namespace S1
abbrev zCq:=List ((ETy.int .i64).T×List Int)
abbrev ReM:=List ((ETy.int .i64).T×ETy.bool.T)
def zBV (m:zCq) (w:Int):List Int:=(zAR (.int .i64) m w).getD []
theorem zUC (m:zCq) (w:Int):(zAR (.int .i64) m w).getD []=zBV m w:=rfl
theorem zE8 (h:zCq) (k:Int) (v:List Int) (k':Int):zBV (zAe (.int .i64) h k v) k'=if k=k' then v else zBV h k':=by
 unfold zBV;split
 ·rename_i e;subst e;rw [zAt];rfl
 ·rename_i e;rw [zBM _ e]
theorem zRa (h:zCq) (k:Int) (v:List Int):zBV (zAe (.int .i64) h k v) k=v:=by rw [zE8,if_pos rfl]
def trl (t:P3):List Int:=[t.1,t.2.1,t.2.2]
def tri (l:List P3) (i:Int):P3:=l.getD i.toNat (0,0,0)
theorem z1t (t:P3):[t.1,t.2.1,t.2.2]=trl t:=rfl
theorem z0w (l:List P3) (i:Int):l.getD i.toNat (0,0,0)=tri l i:=rfl
def enW (v i:Int) (t:P3) (m:zCq) (k:Nat):zCq:=if (trl t).getD k 0=v then m else zAe (.int .i64) m ((trl t).getD k 0) (zBV m ((trl t).getD k 0)++[i])
def enT (l:List P3) (v:Int) (tris:List Int) (m:zCq) (j:Nat):zCq:=jL (enW v (tris.getD j 0) (tri l (tris.getD j 0))) m 3
def enA (l:List P3) (v:Int) (tris:List Int) (j:Nat):zCq:=jL (enT l v tris) [] j
theorem zXx {v i:Int} {t:P3} {m:zCq} {k:Nat} (h:(trl t).getD k 0=v):jL (enW v i t) m (k+1)=jL (enW v i t) m k:=by
 show enW v i t (jL (enW v i t) m k) k=_;rw [enW,if_pos h]
theorem z15 {v i:Int} {t:P3} {m:zCq} {k:Nat} (h:(trl t).getD k 0≠v):jL (enW v i t) m (k+1)=zAe (.int .i64) (jL (enW v i t) m k) ((trl t).getD k 0) (zBV (jL (enW v i t) m k) ((trl t).getD k 0)++[i]):=by
 show enW v i t (jL (enW v i t) m k) k=_;rw [enW,if_neg h]
def zWK (tris:List Int) (c:Nat) (m:zCq):Prop:= ∀ w,(zBV m w).length<=c/\∀ x∈zBV m w,x∈tris
theorem z4U {v i:Int} {t:P3} {tris:List Int} {c:Nat} {m:zCq} {k:Nat} (h:zWK tris c m) (hi:i∈tris):zWK tris (c+1) (enW v i t m k):=by
 intro w;unfold enW;split
 ·exact ⟨by have:=(h w).1;omega,(h w).2⟩
 ·rw [zE8];split
  ·have:=h ((trl t).getD k 0);refine ⟨by rw [zO];simp only [List.length_singleton];omega,fun x hx=> ?_⟩;rw [z8,zF] at hx;rcases hx with hx|rfl
   ·exact this.2 x hx
   ·exact hi
  ·exact ⟨by have:=(h w).1;omega,(h w).2⟩
theorem zUE {v i:Int} {t:P3} {tris:List Int} {c:Nat} {m:zCq} (h:zWK tris c m) (hi:i∈tris) (k:Nat):zWK tris (c+k) (jL (enW v i t) m k) :=
 zAM (n:=k) (fun k (m:zCq)=>zWK tris (c+k) m) h (fun k _ _ hm=>z4U (k:=k) hm hi) k (zH _)
theorem zA0 {l:List Int} {j:Nat} (h:j<l.length):l.getD j 0∈l:=by
 rw [gdE,gE h];exact qF h
theorem zVz (l:List P3) (v:Int) (tris:List Int): ∀ j,j<=tris.length->zWK tris (3*j) (enA l v tris j) :=
 zAM (fun j (m:zCq)=>zWK tris (3*j) m) (fun w=>⟨by simp [zBV,zAR],by simp [zBV,zAR]⟩) fun j m hj h=>zUE h (zA0 hj) 3
abbrev TgS:=Nat×List Int×ReM
def had (m:ReM) (k:Int):Bool:=(zAR (.int .i64) m k).getD false
theorem zZo (m:ReM) (k:Int):(zAR (.int .i64) m k).getD false=had m k:=rfl
theorem zXM (m:ReM) (k:Int): @Option.getD Bool (@zAR (.int .i64) Bool m k) false=had m k:=rfl
theorem zF3 (m:ReM) (k k':Int):had (zAe (.int .i64) m k true) k'=if k=k' then true else had m k':=by
 unfold had;split
 ·rename_i e;subst e;rw [zAt];rfl
 ·rename_i e;rw [zBM _ e]
def vis (av:List Int) (S:TgS) (j:Nat):TgS:=if had S.2.2 (av.getD j 0)=true then S else (0,S.2.1.drop S.1++[av.getD j 0],zAe (.int .i64) S.2.2 (av.getD j 0) true)
theorem zWs {av:List Int} {S:TgS} {j:Nat} (h:had (jL (vis av) S j).2.2 (av.getD j 0)=true):jL (vis av) S (j+1)=jL (vis av) S j:=by
 show vis av (jL (vis av) S j) j=_;rw [vis,if_pos h]
theorem z2A {av:List Int} {S:TgS} {j:Nat} (h:had (jL (vis av) S j).2.2 (av.getD j 0)=false) :
 jL (vis av) S (j+1)=(0,(jL (vis av) S j).2.1.drop (jL (vis av) S j).1++[av.getD j 0],zAe (.int .i64) (jL (vis av) S j).2.2 (av.getD j 0) true):=by
 show vis av (jL (vis av) S j) j=_;rw [vis,if_neg (by rw [h];simp)]
def tgW (E:zCq) (v:Int) (t:P3) (S:TgS) (k:Nat):TgS:=if (trl t).getD k 0=v then S else jL (vis (zBV E ((trl t).getD k 0))) S (zBV E ((trl t).getD k 0)).length
theorem zYW {E:zCq} {v:Int} {t:P3} {S:TgS} {k:Nat} (h:(trl t).getD k 0=v):jL (tgW E v t) S (k+1)=jL (tgW E v t) S k:=by
 show tgW E v t (jL (tgW E v t) S k) k=_;rw [tgW,if_pos h]
theorem z0k {E:zCq} {v:Int} {t:P3} {S:TgS} {k:Nat} (h:(trl t).getD k 0≠v):jL (tgW E v t) S (k+1)=jL (vis (zBV E ((trl t).getD k 0))) (jL (tgW E v t) S k) (zBV E ((trl t).getD k 0)).length:=by
 show tgW E v t (jL (tgW E v t) S k) k=_;rw [tgW,if_neg h]
def tgR (E:zCq) (l:List P3) (v:Int) (S:TgS) (_:Nat):TgS:=if S.1<S.2.1.length then jL (tgW E v (tri l (S.2.1.getD S.1 0))) (S.1+1,S.2.1,S.2.2) 3 else S
def tgS (E:zCq) (l:List P3) (v x0:Int) (r:Nat):TgS:=jL (tgR E l v) (0,[x0],[(x0,true)]) r
def unr (tris:List Int) (m:ReM):Nat:=(tris.filter fun k=> !had m k).length
def meas (tris:List Int) (S:TgS):Nat:=(S.2.1.length - S.1)+unr tris S.2.2
def zRB (tris:List Int) (S:TgS):Prop:=S.1<=S.2.1.length/\(∀ x∈S.2.1,x∈tris)/\S.2.2.length+unr tris S.2.2<=tris.length+1
theorem zQE {k:ETy} {V:Type} (v:V) (q:k.T): ∀ m:List (k.T×V),(zAe k m q v).length<=m.length+1
 | []=>by simp [zAe]
 | (x,y)::r=>by
   simp only [zAe];split
   ·simp
   ·have:=zQE v q r;simp only [zZ];omega
theorem zSG {α:Type} {p q:α->Bool} (h: ∀ x,q x=true->p x=true): ∀ l:List α,(l.filter q).length<=(l.filter p).length
 | []=>zH _
 | a ::l=>by
   have:=zSG h l
   by_cases hq:q a=true
   ·rw [yZ hq,yZ (h a hq)];simp only [zZ];omega
   ·rw [qM hq]
    by_cases hp:p a=true
    ·rw [yZ hp];simp only [zZ];omega
    ·rw [qM hp];exact this
theorem zTC {α:Type} {p q:α->Bool} (h: ∀ x,q x=true->p x=true) {a:α} (hp:p a=true) (hq: ¬ q a=true): ∀ {l:List α},a∈l->(l.filter q).length+1<=(l.filter p).length
 | b ::l,hm=>by
   rcases zS.1 hm with e|hm
   ·subst e;rw [yZ hp,qM hq];have:=zSG h l;simp only [zZ];omega
   ·have:=zTC h hp hq hm
    by_cases hq':q b=true
    ·rw [yZ hq',yZ (h b hq')];simp only [zZ];omega
    ·rw [qM hq']
     by_cases hp':p b=true
     ·rw [yZ hp'];simp only [zZ];omega
     ·rw [qM hp'];exact this
theorem zWU {tris:List Int} {m:ReM} {k:Int} (hk:k∈tris) (h:had m k=false):unr tris (zAe (.int .i64) m k true)+1<=unr tris m:=by
 refine zTC (fun x hx=> ?_) (a:=k) (by rw [h];rfl) (by rw [zF3,if_pos rfl];simp) hk;rw [zF3] at hx;split at hx
 ·simp at hx
 ·exact hx
theorem z3b {tris av:List Int} {S:TgS} {j:Nat} (h:zRB tris S) (hj:j<av.length) (ha: ∀ x∈av,x∈tris):zRB tris (vis av S j)/\meas tris (vis av S j)<=meas tris S:=by
 unfold vis;split
 ·exact ⟨h,zH _⟩
 ·rename_i hh;have hm:=ha _ (zA0 hj);refine ⟨⟨y7 _,fun x hx=> ?_,?_⟩,?_⟩
  ·rw [z8,zF] at hx;rcases hx with hx|rfl
   ·exact h.2.1 x (zAI hx)
   ·exact hm
  ·have:=zWU hm (by simpa using hh);have:=zQE (k:= .int .i64) true (av.getD j 0) S.2.2;have:=h.2.2;show (zAe (.int .i64) S.2.2 (av.getD j 0) true).length+unr tris (zAe (.int .i64) S.2.2 (av.getD j 0) true)<=_;omega
  ·have:=zWU hm (by simpa using hh);show ((S.2.1.drop S.1++[av.getD j 0]).length - 0)+unr tris (zAe (.int .i64) S.2.2 (av.getD j 0) true)<=meas tris S;rw [zO,zEf,List.length_singleton];unfold meas;omega
theorem zTx {tris av:List Int} {S:TgS} (h:zRB tris S) (ha: ∀ x∈av,x∈tris): ∀ j,j<=av.length->zRB tris (jL (vis av) S j)/\meas tris (jL (vis av) S j)<=meas tris S :=
 zAM (fun _ (T:TgS)=>zRB tris T/\meas tris T<=meas tris S) ⟨h,zH _⟩ fun j T hj hT=>let ⟨a,b⟩:=z3b (j:=j) hT.1 hj ha;⟨a,jB b hT.2⟩
theorem zQJ {tris:List Int} {E:zCq} {c:Nat} (hE:zWK tris c E) {v:Int} {t:P3} {S:TgS} (h:zRB tris S) (k:Nat):zRB tris (jL (tgW E v t) S k)/\meas tris (jL (tgW E v t) S k)<=meas tris S :=
 zAM (n:=k) (fun _ (T:TgS)=>zRB tris T/\meas tris T<=meas tris S) ⟨h,zH _⟩ (fun j T _ hT=>by
  unfold tgW;split
  ·exact hT
  ·obtain ⟨a,b⟩:=zTx hT.1 (hE _).2 _ (zH _)
   exact ⟨a,jB b hT.2⟩) k (zH _)
theorem zP9 {tris:List Int} {S:TgS} (h:zRB tris S) (hs:S.1<S.2.1.length):zRB tris (S.1+1,S.2.1,S.2.2)/\meas tris (S.1+1,S.2.1,S.2.2)+1<=meas tris S :=
 ⟨⟨hs,h.2⟩,by unfold meas;show S.2.1.length - (S.1+1)+unr tris S.2.2+1<=_;omega⟩
theorem zZH {tris:List Int} {E:zCq} {c:Nat} (hE:zWK tris c E) {l:List P3} {v:Int} {S:TgS} {r:Nat} (h:zRB tris S):zRB tris (tgR E l v S r)/\(meas tris (tgR E l v S r)<=meas tris S)/\(S.1<S.2.1.length->meas tris (tgR E l v S r)+1<=meas tris S):=by
 unfold tgR;split
 ·rename_i hs;obtain ⟨a,b⟩:=zP9 h hs;obtain ⟨c,d⟩:=zQJ hE (v:=v) (t:=tri l (S.2.1.getD S.1 0)) a 3;exact ⟨c,by omega,fun _=>by omega⟩
 ·rename_i hs;exact ⟨h,zH _,fun e=>absurd e hs⟩
theorem z0I {tris:List Int} {x0:Int} (_:x0∈tris):([(x0,true)]:ReM).length+unr tris [(x0,true)]<=tris.length+1:=by
 have:unr tris [(x0,true)]<=tris.length:=z6p _ _;simp only [List.length_singleton];omega
theorem zI4 {tris:List Int} {x0:Int} :meas tris (0,[x0],[(x0,true)])<=tris.length+1:=by
 have:unr tris [(x0,true)]<=tris.length:=z6p _ _;show 1+unr tris [(x0,true)]<=_;omega
theorem zZ1 {tris:List Int} {E:zCq} {c:Nat} (hE:zWK tris c E) {l:List P3} {v x0:Int} (hx:x0∈tris) (r:Nat):zRB tris (tgS E l v x0 r)/\meas tris (tgS E l v x0 r)<=meas tris (0,[x0],[(x0,true)]) :=
 zAM (n:=r) (fun _ (T:TgS)=>zRB tris T/\meas tris T<=meas tris (0,[x0],[(x0,true)])) ⟨⟨y7 _,fun x hx'=>by rw [zF] at hx';rw [hx'];exact hx,z0I hx⟩,zH _⟩
  (fun j T _ hT=>let ⟨a,b,_⟩:=zZH (r:=j) hE hT.1;⟨a,jB b hT.2⟩) r (zH _)
theorem zKj {E:zCq} {l:List P3} {v x0:Int} {r:Nat} (h: ¬ (tgS E l v x0 r).1<(tgS E l v x0 r).2.1.length): ∀ d,tgS E l v x0 (r+d)=tgS E l v x0 r
 | 0=>rfl
 | d+1=>by
   show tgR E l v (tgS E l v x0 (r+d)) (r+d)=_;rw [zKj h d,tgR,if_neg h]
theorem zVD {E:zCq} {l:List P3} {v x0:Int} {r:Nat} (h:(tgS E l v x0 r).1<(tgS E l v x0 r).2.1.length) :
 tgS E l v x0 (r+1)=jL (tgW E v (tri l ((tgS E l v x0 r).2.1.getD (tgS E l v x0 r).1 0))) ((tgS E l v x0 r).1+1,(tgS E l v x0 r).2.1,(tgS E l v x0 r).2.2) 3:=by
 show tgR E l v (tgS E l v x0 r) r=_;rw [tgR,if_pos h]
def tgP (S:TgS):TgS:=(S.1+1,S.2.1,S.2.2)
def tgT (l:List P3) (S:TgS):P3:=tri l (S.2.1.getD S.1 0)
def zSD (l:List P3) (v:Int) (tris:List Int):Bool:=(((tgS (enA l v tris tris.length) l v (tris.getD 0 0) (2*tris.length+2)).2.2.length:Int)==(tris.length:Int))
def zU2 (l:List P3) (v:Int) (tris:List Int):Spec Nat where
 inv x:=x<=tris.length
 live x:=[(22,.s (.int .i64 x))]
 keep:=[1,2,3,7,20,21]
 heap x:=[(1,.gmap (.int .i64) (.int .i64) (enA l v tris x))]
 keepH:=[0]
 mu x:=tris.length - x
def zVK (l:List P3) (v:Int) (tris:List Int) (j:Nat):Spec Nat where
 inv x:=x<=3
 live x:=[(31,.s (.int .i64 x))]
 keep:=[1,2,3,7,9,20,21,22,30]
 heap x:=[(1,.gmap (.int .i64) (.int .i64) (jL (enW v (tris.getD j 0) (tri l (tris.getD j 0))) (enA l v tris j) x))]
 keepH:=[0]
 mu x:=3 - x
def zU6 (E:zCq) (l:List P3) (v x0:Int) (tris:List Int):Spec Nat where
 inv x:=x+meas tris (tgS E l v x0 x)<=2*tris.length+2
 live x:=[(13,.s (.own 3 (tgS E l v x0 x).1 ((tgS E l v x0 x).2.1.length - (tgS E l v x0 x).1)))]
 keep:=[1,2,3,7,12]
 heap x:=[(2,.map (.int .i64) .bool (tgS E l v x0 x).2.2),(3,.row (.int .i64) 3 (tgS E l v x0 x).2.1)]
 keepH:=[0,1]
 mu x:=meas tris (tgS E l v x0 x)
def zSx (E:zCq) (v:Int) (t:P3) (S:TgS):Spec Nat where
 inv x:=x<=3
 live x:=[(69,.s (.int .i64 x)),(13,.s (.own 3 (jL (tgW E v t) S x).1 ((jL (tgW E v t) S x).2.1.length - (jL (tgW E v t) S x).1)))]
 keep:=[1,2,3,7,12,14,68]
 heap x:=[(2,.map (.int .i64) .bool (jL (tgW E v t) S x).2.2),(3,.row (.int .i64) 3 (jL (tgW E v t) S x).2.1)]
 keepH:=[0,1]
 mu x:=3 - x
def zVM (av:List Int) (S:TgS):Spec Nat where
 inv x:=x<=av.length
 live x:=[(79,.s (.int .i64 x)),(13,.s (.own 3 (jL (vis av) S x).1 ((jL (vis av) S x).2.1.length - (jL (vis av) S x).1)))]
 keep:=[1,2,3,7,12,14,68,69,77,78]
 heap x:=[(2,.map (.int .i64) .bool (jL (vis av) S x).2.2),(3,.row (.int .i64) 3 (jL (vis av) S x).2.1)]
 keepH:=[0,1]
 mu x:=av.length - x
theorem zUF {α:Type} (l:List α) (s:Nat):List.take (l.length - s) (List.drop s l)=List.drop s l:=q9 (by simp)
def z6B (l:List P3) (tris:List Int):Prop:=l.length<=8192/\tris.length<=24576/\tris≠[]/\∀ x∈tris,0<=x/\x<l.length
theorem z3Z {fn} (n v:Int) (l:List P3) (tris:List Int) (hf:z6B l tris):zAk ⟨tyL,fn,[]⟩ f142 [jQ.av (n,l),(ETy.int .i64).av v,(ETy.sl (.int .i64)).av tris] (fun r=>r= .s (.bool (zSD l v tris))):=by
 obtain ⟨h1,h2,h3,h4⟩:=hf;have h5:0<tris.length:=zAS.2 h3
 repeat' (conv=>whnf
          first|done|refine qy ?_|refine qG fun _=> ?_|refine qw (fun _=> ?_) (fun _=> ?_)|apply qt|refine qi (fun _=> ?_) (fun _=> ?_)|(refine jS 3 rfl (zU2 l v tris) (0) ?_ ?_ ?_ fun x hx=> ?_)|with_reducible refine jK (zU2 _ _ _) (x+1) ?_ ?_ ?_ ?_|(refine jS 6 rfl (zVK l v tris x) (0) ?_ ?_ ?_ fun y hy=> ?_)|with_reducible refine jK (zVK _ _ _ _) (y+1) ?_ ?_ ?_ ?_|(refine jS 14 rfl (zU6 (enA l v tris tris.length) l v (tris.getD 0 0) tris) (0) ?_ ?_ ?_ fun z hz=> ?_)|with_reducible refine jK (zU6 _ _ _ _ _) (z+1) ?_ ?_ ?_ ?_|(refine jS 18 rfl (zSx (enA l v tris tris.length) v (tgT l (tgS (enA l v tris tris.length) l v (tris.getD 0 0) z)) (tgP (tgS (enA l v tris tris.length) l v (tris.getD 0 0) z))) (0) ?_ ?_ ?_ fun k hk=> ?_)|with_reducible refine jK (zSx _ _ _ _) (k+1) ?_ ?_ ?_ ?_|(refine jS 22 rfl (zVM (zBV (enA l v tris tris.length) ((trl (tgT l (tgS (enA l v tris tris.length) l v (tris.getD 0 0) z))).getD k 0)) (jL (tgW (enA l v tris tris.length) v (tgT l (tgS (enA l v tris tris.length) l v (tris.getD 0 0) z))) (tgP (tgS (enA l v tris tris.length) l v (tris.getD 0 0) z)) k)) (0) ?_ ?_ ?_ fun j hj=> ?_)|with_reducible refine jK (zVM _ _) (j+1) ?_ ?_ ?_ ?_|refine qu ?_|refine qv ?_ ?_|exact zL)
 all_goals try first|refine qz ?_|apply qz5
 all_goals try simp only [qn0,zY,zX,ETy.dflt,Int.reduceToNat,Int.reduceAdd,Int.reduceSub,Int.reduceNeg,Nat.reduceAdd,zU2,zVK,zU6,zSx,zVM,z1t,z0w,tgT,tgP,zB5,zD6,zUC,zRa,zZo,zXM,zUF] at *
 all_goals try (refine qh ?_;omega)
 all_goals try (rw [zXx (by assumption)];done)
 all_goals try (rw [z15 (by assumption)];(try rfl);done)
 all_goals try (have e:x=tris.length:=by omega)
 all_goals try subst e
 all_goals try (refine qh ?_;omega)
 all_goals try (rw [zYW (by assumption)];done)
 all_goals try (rw [zWs (by assumption)];done)
 all_goals try (rw [z2A (by assumption)];(try simp);done)
 all_goals try (have e:j=(zBV (enA l v tris tris.length) ((trl (tgT l (tgS (enA l v tris tris.length) l v (tris.getD 0 0) z))).getD k 0)).length:=by (unfold tgT;omega)
                subst e;rw [z0k (by assumption)];rfl)
 ·exact qh (h4 _ (zA0 (by omega)))
 ·have:=(zUE (zVz l v tris x (by omega)) (zA0 (l:=tris) (j:=x) (by omega)) (v:=v) (t:=tri l (tris.getD x 0)) y ((trl (tri l (tris.getD x 0))).getD y 0)).1;refine zA9.intro ⟨?_,trivial⟩;unfold zBi;simp only [zZ,List.replicate_zero,List.length_nil];omega
 ·have e:y=3:=by omega
  subst e;rfl
 ·have:=zI4 (tris:=tris) (x0:=tris.getD 0 0);refine qh ?_;show meas tris (0,[tris.getD 0 0],[(tris.getD 0 0,true)])<=_;omega
 all_goals
  have hE:=zVz l v tris tris.length (zH _);obtain ⟨hS1,hS2⟩:=zZ1 hE (l:=l) (v:=v) (zA0 h5) z;have hS3:=zI4 (tris:=tris) (x0:=tris.getD 0 0)
 ·exact qh (h4 _ (hS1.2.1 _ (zA0 (by omega))))
 ·have hP:=zP9 hS1 (by omega);have hW:=zQJ hE (v:=v) (t:=tgT l (tgS (enA l v tris tris.length) l v (tris.getD 0 0) z)) hP.1 k;have hV:=zTx hW.1 (hE ((trl (tgT l (tgS (enA l v tris tris.length) l v (tris.getD 0 0) z))).getD k 0)).2 j (by assumption);have hM:=jB hV.2 hW.2;have hL: ∀ S:TgS,S.2.1.length - S.1<=meas tris S:=fun S=>Nat.le_add_right _ _;have hN:=jB (hL _) hM;refine qh ?_;simp only [tgT,zX] at hN
  have hP2:=hP.2;simp only [zX] at hP2;omega
 all_goals try (have e:k=3:=by omega)
 all_goals try subst e
 all_goals try (rw [zVD (by omega)];done)
 ·have hP:=zP9 hS1 (by omega);have hW:=zQJ hE (v:=v) (t:=tri l ((tgS (enA l v tris tris.length) l v (tris.getD 0 0) z).2.1.getD (tgS (enA l v tris tris.length) l v (tris.getD 0 0) z).1 0)) hP.1 3;rw [<- zVD (by omega)] at hW;exact qh (by omega)
 ·have hP:=zP9 hS1 (by omega);have hW:=zQJ hE (v:=v) (t:=tri l ((tgS (enA l v tris tris.length) l v (tris.getD 0 0) z).2.1.getD (tgS (enA l v tris tris.length) l v (tris.getD 0 0) z).1 0)) hP.1 3;rw [<- zVD (by omega)] at hW;exact qh (by omega)
 ·have:=hS1.2.2;exact qh (by omega)
 ·have:=zKj (E:=enA l v tris tris.length) (l:=l) (v:=v) (x0:=tris.getD 0 0) (r:=z) (by omega) (2*tris.length+2 - z);rw [show z+(2*tris.length+2 - z)=2*tris.length+2 by omega] at this;rw [zSD,this]
attribute [irreducible] zSD
def z6I:List AV->Option Res:=zOs jQ (.int .i64) (.sl (.int .i64)) (fun s v tris=>some (none,some (z6B s.2 tris),.s (.bool (zSD s.2 v tris))))
theorem z3N:jN prog 142 z6I:=mkR (zEa fun s v tris r h=>by cases h;exact fb (fn:=[]) trivial func142 fun _ h=>z3Z s.1 v s.2 tris h) func142
end S1
namespace S1
def zV (t:P3) (v:Int):Prop:=t.1=v\/t.2.1=v\/t.2.2=v
def atP (s:List (List Int)) (w:Int) (j:Nat):List (List Int):=s.set w.toNat (s.getD w.toNat []++[(j:Int)])
def at3 (s:List (List Int)) (t:P3) (j:Nat):List (List Int):=atP (atP (atP s t.1 j) t.2.1 j) t.2.2 j
def atF (n:Nat) (l:List P3) (i:Nat):List (List Int):=jL (fun s j=>at3 s (l.getD j (0,0,0)) j) (List.replicate n []) i
def z0J (n c b:Nat) (s:List (List Int)):Prop:=s.length=n/\∀ v,(s.getD v []).length<=c/\∀ x∈s.getD v [],0<=x/\x<(b:Int)
theorem zBt (s:List (List Int)) (w:Int) (j v:Nat):(atP s w j).getD v []=if w.toNat=v/\v<s.length then s.getD v []++[(j:Int)] else s.getD v []:=by
 unfold atP;simp only [gdE,qS]
 by_cases h1:w.toNat=v
 ·subst h1
  by_cases h2:w.toNat<s.length
  ·simp [h2]
  ·simp [h2]
 ·simp [h1]
theorem zF2 (s:List (List Int)) (w:Int) (j:Nat):(atP s w j).length=s.length:=by simp [atP]
theorem zME {n c b:Nat} {s:List (List Int)} {w:Int} {j:Nat} (h:z0J n c b s) (hj:j<b):z0J n (c+1) b (atP s w j):=by
 refine ⟨by rw [zF2];exact h.1,fun v=> ?_⟩;rw [zBt];split
 ·have:=h.2 v;refine ⟨by rw [zO];simp only [List.length_singleton];omega,fun x hx=> ?_⟩;rw [z8,zF] at hx;rcases hx with hx|rfl
  ·exact this.2 x hx
  ·omega
 ·exact ⟨by have:=(h.2 v).1;omega,(h.2 v).2⟩
theorem z0J.more {n c b b':Nat} {s:List (List Int)} (h:z0J n c b s) (hb:b<=b'):z0J n c b' s :=
 ⟨h.1,fun v=>⟨(h.2 v).1,fun x hx=>by have:=(h.2 v).2 x hx;omega⟩⟩
theorem zQk (n:Nat) (l:List P3) (i:Nat):z0J n (3*i) i (atF n l i) :=
 zAM (n:=i) (fun i (s:List (List Int))=>z0J n (3*i) i s) ⟨by simp,fun v=>by
  have:(List.replicate n ([]:List Int)).getD v []=[]:=by
   rw [gdE,yY];split<;>rfl
  rw [this];simp⟩ (fun i s _ h=>by
  have h:=h.more (Nat.le_succ i)
  exact zME (zME (zME h (Nat.lt_succ_self i)) (Nat.lt_succ_self i)) (Nat.lt_succ_self i)) i (zH _)
theorem zQR {α:Type} {l:List α} {a:α} :l++[a]≠[]:=by simp
theorem zEg {s:List (List Int)} {w:Int} {j v:Nat} (h:s.getD v []≠[]):(atP s w j).getD v []≠[]:=by
 rw [zBt];split
 ·exact zQR
 ·exact h
theorem z2E {s:List (List Int)} {t:P3} {j v:Nat} (hv:v<s.length) (h:zV t v):(at3 s t j).getD v []≠[]:=by
 unfold at3;rcases h with h|h|h
 ·exact zEg (zEg (by rw [zBt,if_pos ⟨by omega,hv⟩];exact zQR))
 ·exact zEg (by rw [zBt,if_pos ⟨by omega,by rw [zF2];exact hv⟩];exact zQR)
 ·rw [zBt,if_pos ⟨by omega,by rw [zF2,zF2];exact hv⟩];exact zQR
theorem zNi (n:Nat) (l:List P3) {v:Nat} (hv:v<n): ∀ i,(∃ j,j<i/\zV (l.getD j (0,0,0)) v)->(atF n l i).getD v []≠[]
 | 0,⟨j,h,_⟩=>by omega
 | i+1,⟨j,hj,h⟩=>by
   show (at3 (atF n l i) (l.getD i (0,0,0)) i).getD v []≠[]
   by_cases e:j=i
   ·subst e;exact z2E (by rw [(zQk n l j).1];exact hv) h
   ·exact zEg (zEg (zEg (zNi n l hv i ⟨j,by omega,h⟩)))
def z5V (s:Int×List P3):Prop:= ∀ v:Nat,(v:Int)<s.1->∃ j,j<s.2.length/\zV (s.2.getD j (0,0,0)) v
def piG (n:Nat) (l:List P3) (v:Nat):Option Wit:=if zSD l v ((atF n l l.length).getD v []) then none else some (6,(v:Int),0)
def piL (n:Nat) (l:List P3) (v:Nat):List Wit:=(List.range v).filterMap (piG n l)
theorem z6W {n:Nat} {l:List P3} {i:Nat} (h:zSD l i ((atF n l l.length).getD i [])=true):piL n l (i+1)=piL n l i:=by
 rw [piL,zAE,piG,if_pos h];simp [piL]
theorem z6X {n:Nat} {l:List P3} {i:Nat} (h:zSD l i ((atF n l l.length).getD i [])=false):piL n l (i+1)=piL n l i++[(6,(i:Int),0)]:=by
 rw [piL,zAE,piG,if_neg (by rw [h];simp)];rfl
theorem zZz (n:Nat) (l:List P3) (i:Nat):(piL n l i).length<=i:=zFt _ _
def zVB (s:Int×List P3):List Wit:=piL s.1.toNat s.2 s.1.toNat
def zTo (n:Nat) (l:List P3):Spec Nat where
 inv x:=x<=l.length
 live x:=[(17,.s (.int .i64 x))]
 keep:=[1,3,15,16]
 heap x:=[(2,.grow (.int .i64) 38 (atF n l x))]
 keepH:=[0]
 mu x:=l.length - x
def zUB (n:Nat) (l:List P3):Spec Nat where
 inv x:=x<=n
 live x:=[(40,.s (.int .i64 x)),(8,.s (.own 3 0 (piL n l x).length))]
 keep:=[1,3,38,39]
 heap x:=[(3,.row zCp 45 (piL n l x))]
 keepH:=[0,2]
 mu x:=n - x
theorem zXq (n:Int) (l:List P3) (hf:zM1 (n,l)/\z5V (n,l)):zGM ⟨tyL,[(142,z6I)],[]⟩ f121 [jQ.av (n,l)] (fun v obs=>v= .s (.own 0 0 (zVB (n,l)).length)/\obs=[.row zCp 45 (zVB (n,l))]):=by
 obtain ⟨⟨h1,h2,h3,h4⟩,h5⟩:=hf
 repeat' (conv=>whnf
          first|done|refine qy ?_|refine qG fun _=> ?_|refine qw (fun _=> ?_) (fun _=> ?_)|apply qt|refine qi (fun _=> ?_) (fun _=> ?_)|(refine jS 3 rfl (zTo n.toNat l) (0) ?_ ?_ ?_ fun x hx=> ?_)|(refine zJa 6 rfl ?_;refine Or.inl (yM (4) ?_))|with_reducible refine jK (zTo _ _) (x+1) ?_ ?_ ?_ ?_|(refine jS 13 rfl (zUB n.toNat l) (0) ?_ ?_ ?_ fun y hy=> ?_)|with_reducible refine jK (zUB _ _) (y+1) ?_ ?_ ?_ ?_|refine qu ?_|refine qv ?_ ?_|exact zL)
 all_goals try first|refine qz ?_|apply qz5
 all_goals try simp only [qn0,zY,zX,ETy.dflt,Int.reduceToNat,Int.reduceAdd,Int.reduceSub,Int.reduceNeg,Nat.reduceAdd,zTo,zUB] at *
 all_goals try (refine qh ?_;omega)
 all_goals try (have ht:=zAv (h4 x (by omega));refine qh ?_;(try simp only [zA6 h1]);omega)
 all_goals try rfl
 all_goals try
  (have ht:=zAv (h4 x (by omega))
   have hA:=zQk n.toNat l x;have hA1:=zME (w:=(l.getD x (0,0,0)).1) (hA.more (Nat.le_succ x)) (Nat.lt_succ_self x);have hA2:=zME (w:=(l.getD x (0,0,0)).2.1) hA1 (Nat.lt_succ_self x)
   first
    | (have hB:=(hA.2 (l.getD x (0,0,0)).1.toNat).1
       exact qh ⟨by unfold zBi;simp only [zZ,List.replicate_zero,List.length_nil];omega,by omega,trivial⟩)
    | (have hB:=(hA1.2 (l.getD x (0,0,0)).2.1.toNat).1
       exact qh ⟨by unfold zBi;simp only [zZ,List.replicate_zero,List.length_nil];unfold atP at hB;omega,by omega,trivial⟩)
    | (have hB:=(hA2.2 (l.getD x (0,0,0)).2.2.toNat).1
       exact qh ⟨by unfold zBi;simp only [zZ,List.replicate_zero,List.length_nil];unfold atP at hB;omega,by omega,trivial⟩))
 all_goals try (have e:x=l.length:=by omega)
 all_goals try subst e
 all_goals try (refine qh ?_;have:=zZz n.toNat l y;(try simp only [List.length_singleton]);omega)
 all_goals try (rw [z6W (by assumption)];done)
 all_goals try (rw [z6X (by assumption)];(try simp);done)
 ·have hA:=zQk n.toNat l l.length;exact qh ⟨h3,by have:=(hA.2 y).1;omega,zNi n.toNat l (by omega) l.length (h5 y (by omega)),(hA.2 y).2⟩
 all_goals (have e:y=n.toNat:=by omega
            subst e;rfl)
def zZY:List AV->Option zLx:=zF4 jQ (fun s=>some (none,some (zM1 s/\z5V s),.s (.own 0 0 (zVB s).length),[.row zCp 45 (zVB s)]))
theorem zYE:zEO prog 121 zZY:=zW5 (zDq fun s r h=>by cases h;exact fbF (by exact ⟨z3N,trivial⟩) func121 fun _ h=>zXq s.1 s.2 h) func121
abbrev qX:ETy:= .int .i64
end S1
namespace Go.Vm
open Go.RowKit
section
variable {P:Program} {T:Tab} {B:Base} {w:World} {I:Sig} {Z:yQ} {st:St} {tmps:Array Value}
theorem zJI: ∀ (s:List Nat) (env:Env) (t:Nat),qV (zJ7 s env) t= .junk\/(qV (zJ7 s env) t=qV env t/\zSh t s=false)
 | s,[],t=> .inl rfl
 | s, (k,v)::r,t=>by
   simp only [zJ7];split
   ·rename_i hm;rcases zJI s r t with h|⟨h,h2⟩
    ·exact .inl h
    ·by_cases e:k=t
     ·subst e;rw [hm] at h2;cases h2
     ·exact .inr ⟨by rw [h,zAB,if_neg e],h2⟩
   ·rename_i hm;rw [zAB,zAB]
    by_cases e:k=t
    ·subst e;rw [if_pos rfl,if_pos rfl];cases v with
     | s a=>exact .inr ⟨rfl,hm⟩
     | agg l=>exact .inr ⟨rfl,hm⟩
     | tup l=>exact .inl rfl
    ·rw [if_neg e,if_neg e];rcases zJI (k::s) r t with h|⟨h,h2⟩
     ·exact .inl h
     ·refine .inr ⟨h,?_⟩;simp only [zSh] at h2;split at h2
      ·cases h2
      ·exact h2
theorem zKa (h: ∀ t,qD I Z (qV st.env t) (tmps.getD t undef)) (t:Nat):qD I Z (qV (zJ7 [] st.env) t) (tmps.getD t undef):=by
 rcases zJI [] st.env t with e|⟨e,_⟩
 ·rw [e];trivial
 ·rw [e];exact h t
theorem z0s (h:GG B I Z st tmps w) {vals:List Value} {args:List AV} {N:Nat} (hv:jW I Z args vals) (hN:args.length<=N) :
 GA {B with dfs:=[]} N ⟨zHH 0 args,(st.next,.fr tmps (zJ7 [] st.env))::st.hp,st.next+1⟩ {tmps:=vals.toArray++Array.replicate (N - vals.toArray.size) undef,defers:=[]} w:=by
 have hlen:=zEP hv;have hlast:(Z++[none])[st.next]? =some none:=by rw [<- h.len];simp
 have hold: ∀ {id:Nat},id<st.next->(Z++[none])[id]? =Z[id]? :=fun hi=>by rw [yF];rw [h.len];exact hi
 refine ⟨rfl,by simp;omega,I,Z++[none],⟨h.mem.ag,fun id ob hi=> ?_⟩,fun t=> ?_,by simp [h.len],fun id ob p hi hp=> ?_,h.bel,h.grew⟩
 ·simp only [yD] at hi;split at hi
  ·rename_i e;subst e;cases hi;exact ⟨hlast,fun t=>(zKa h.env t).more none⟩
  ·exact (h.mem.ob _ _ hi).keep none (fun _ _=>rfl) fun _ _ _=>rfl
 ·have hv':jW I (Z++[none]) args vals:=(zCZ.2 ((zCZ.1 hv).mono fun _ _ h=>h.more none));have:=zGx (m:=N - vals.length) 0 hv' t;simp only [Nat.not_lt_zero,if_false,Nat.sub_zero] at this
  have e:((vals.toArray++Array.replicate (N - vals.toArray.size) undef).getD t undef)=(vals++List.replicate (N - vals.length) undef).getD t undef:=by
   rw [show vals.toArray++Array.replicate (N - vals.toArray.size) undef=(vals++List.replicate (N - vals.length) undef).toArray by simp];simp [zJ,gdE]
  show qD I _ (qV (zHH 0 args) t) ((vals.toArray++Array.replicate (N - vals.toArray.size) undef).getD t undef);rw [e];exact this
 ·simp only [yD] at hi;split at hi
  ·rename_i e;subst e;rw [hlast] at hp;cases hp
  ·have hlt:=h.id_lt hi;rw [hold hlt] at hp;obtain ⟨s1,s2,s3⟩:=h.sep _ _ _ hi hp;refine ⟨s1,s2,fun id2 ob2 p2 hne2 hi2 hp2=> ?_⟩;simp only [yD] at hi2;split at hi2
   ·rename_i e;subst e;rw [hlast] at hp2;cases hp2
   ·rw [hold (h.id_lt hi2)] at hp2;exact s3 _ _ _ hne2 hi2 hp2
theorem zNm (R:zAU P T) {f:FuncId} {fn:Func} {c:Code} (hf:P.funcs[f]? =some fn) (hb:fn.body=some c) (hok:codeOk fn.ntmps c=true):zH9 P f (zQS T fn):=by
 intro B I Z st tmps w args vals K hg hv hk;unfold zQS at hk;rw [hb] at hk;split at hk
 case h_2=>exact hk.elim
 rename_i c' hbc hble;cases hbc;have hk:=hk tmps;rw [St.forceAll_eq] at hk;have hga:=z0s (N:=fn.ntmps) hg hv (zW hble);refine (callsIn_of_wp (F:=Fence.wide) (n:=0) hf hb trivial ?_).calls (fun _ _ hd=>by cases hd);rw [<- FR.none];refine zAn R c hok hga hk fun e st' a' w' hp h'=> ?_
 have fin:zPn T fn st.next tmps st' K->a'.defers=[]/\∃ v,(results fn a'.tmps).run P w'= .ok v w'/\∃ v' av st2 σ' β',(Ending.returned v)= .returned v'/\K av st2/\GG B σ' β' st2 tmps w'/\qD σ' β' av v':=by
  intro hu;unfold zPn at hu;split at hu
  case h_2=>exact hu.elim
  rename_i X l hallok hfr;rw [AV.force_eq,St.forceAll_eq] at hu;obtain ⟨rfl,hu⟩:=hu;obtain ⟨σ1,β1,hg1⟩:=h'.gg
  obtain ⟨vs,hrun,hall⟩:=zBz (P:=P) (w:=w') (fn:=fn) (tmps:=a'.tmps) (Q:=fun r v=>qD σ1 β1 (zE2 T st' r) v) (fun r hr=>by
   have hro:=zM.1 hallok r hr;cases r with
   | tmp t=>exact ⟨_,rfl,hg1.env t⟩
   | cell a t =>
     simp only [zGU] at hro;simp only [zE2];have hx:=hg1.env a;split at hro
     ·rename_i id i k hea;rw [hea] at hx;split at hro
      ·rename_i v hv;obtain ⟨p,_,hptr,_⟩:=hx;obtain ⟨_,hrun⟩:=zBp (w:=w') R.ty R.one hg1.mem (t:=t) (hg1.env a) (p:=none) (q:=none) (v:=v) (by rw [hea];exact hv);obtain ⟨val,h1,h2⟩:=hrun trivial;refine ⟨val,?_,h2⟩;rw [hptr] at h1 ⊢;rw [zB9] at h1;simp only [asAddr,zP,qP,zK];exact h1
      ·cases hro
     ·cases hro)
  have hob:=hg1.mem.ob _ _ hfr
  have get: ∀ {i:Nat} {ob:Ob},hget (zDc st'.hp st.next) i=some ob->hget st'.hp i=some ob:=fun {i ob} e=>by
   rw [zBH] at e;split at e
   ·cases e
   ·exact e
  refine ⟨h'.defers,_,hrun,_,_,_,σ1,β1,rfl,hu,⟨⟨hg1.mem.ag,fun i ob hi=>hg1.mem.ob _ _ (get hi)⟩,hob.2,hg1.len,fun i ob p hi hp=> ?_,hg1.bel,hg1.grew⟩,zG9 hall⟩;obtain ⟨s1,s2,s3⟩:=hg1.sep _ _ _ (get hi) hp;exact ⟨s1,s2,fun i2 ob2 p2 hne hi2 hp2=>s3 _ _ _ hne (get hi2) hp2⟩
 cases e with
 | normal=>exact fin hp
 | ret=>exact fin hp
 | _=>exact hp.elim
end
end Go.Vm
