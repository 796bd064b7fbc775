/- A part of the proofs of the laws. -/
import Derived.Test.YtbfghjbhfgbdnaaS1
import Derived.Test.YtbfghjbhfgbdnaaVmCode2toVmKit
set_option linter.unusedSimpArgs false
set_option linter.unusedVariables false
set_option maxHeartbeats 8000000
set_option maxRecDepth 100000
open Go.Proofs.Try
open Go Go.Vm Go.Proofs
namespace S1
abbrev P3:=Int×Int×Int
abbrev zAa:ETy:= .pair (.int .i64) (.sl .arr3)
abbrev zCx:ETy:= .pair (.int .i64) (.pair (.int .i64) (.int .i64))
abbrev Wit:=Int×Int×Int
def zAI (P : Program) (f : Nat) (c : List AV → Option Res) : Prop := (∀ args r, c args = some r → zDn P f args r) ∧ ∃ fn, P.funcs[f]? = some fn ∧ (fn.name == "runtime.NumGoroutine") = false ∧ fn.body.isNone = false
theorem mkR {P : Program} {f : Nat} {c : List AV → Option Res} {fn : Func} (h : ∀ args r, c args = some r → zDn P f args r) (h2 : P.funcs[f]? = some fn) (h3 : (fn.name == "runtime.NumGoroutine") = false := by kernel_rfl) (h4 : fn.body.isNone = false := by kernel_rfl) : zAI P f c := ⟨h, fn, h2, h3, h4⟩
theorem drop_at {α:Type} {l:List α} {i:Nat} (d:α) (h:i<l.length):l.drop i=l.getD i d::l.drop (i+1):=by
 rw [List.drop_eq_getElem_cons h];simp [gdE,h]
theorem zHS {α:Type} {l:List α} {i:Nat} (h: ¬ (i:Int)<l.length):l.drop i=[]:=jS (by omega)
theorem zCn {α:Type} {l:List α} {i:Nat} (d:α) (h:(i:Int)<l.length):l.drop i=l.getD i d::l.drop (i+1):=drop_at d (by omega)
theorem zBr {α:Type _} (f:Nat->Option α) (i:Nat):(List.range (i+1)).filterMap f=(List.range i).filterMap f++(f i).toList:=by
 rw [List.range_succ,List.filterMap_append];rfl
theorem zJd {α:Type _} (f:Nat->Option α) (i:Nat):((List.range i).filterMap f).length<=i:=qT (List.length_filterMap_le _ _) (by simp)
def vIn (n v:Int):Bool:= !(decide (v<0)|| decide (v>=n))
def zHo (n:Int) (t:P3):Bool:=vIn n t.1&&(vIn n t.2.1&&vIn n t.2.2)
theorem zKX {n v:Int} (h:vIn n v=true):0<=v/\v<n:=by simp [vIn] at h;omega
theorem zBF {n:Int} {t:P3} (h:zHo n t=true):(0<=t.1/\t.1<n)/\(0<=t.2.1/\t.2.1<n)/\(0<=t.2.2/\t.2.2<n):=by
 simp only [zHo,zA] at h;exact ⟨zKX h.1,zKX h.2.1,zKX h.2.2⟩
theorem z0B {n:Int} {t:P3} (h:t.1<0\/t.1>=n\/t.2.1<0\/t.2.1>=n\/t.2.2<0\/t.2.2>=n):zHo n t=false:=by
 rw [<- zA0];intro e;have:=zBF e;omega
theorem zPW {n:Int} {t:P3} (h: ¬ (t.1<0\/t.1>=n\/t.2.1<0\/t.2.1>=n\/t.2.2<0\/t.2.2>=n)):zHo n t=true:=by
 simp only [zHo,vIn,zA,y8,Bool.or_eq_false_iff,zB0];omega
def jE {S:Type} (f:S->Nat->S) (s:S):Nat->S
 | 0=>s
 | i+1=>f (jE f s i) i
theorem zAz {k:ETy} {V:Type} (v:V) (q:k.T): ∀ m:List (k.T×V),zA3 k (zAg k m q v) q=some v
 | []=>by
   simp only [zAg,zA3];cases k.decT q q with
   | isTrue h=>rfl
   | isFalse h=>exact absurd rfl h
 | (x,y)::r=>by
   simp only [zAg];cases h1:k.decT x q with
   | isTrue h =>
     simp only [zA3];cases k.decT x q with
     | isTrue h=>rfl
     | isFalse h2=>exact absurd h h2
   | isFalse h =>
     simp only [zA3];cases k.decT x q with
     | isTrue h2=>exact absurd h2 h
     | isFalse h2=>exact zAz v q r
theorem zB4 {k:ETy} {V:Type} (v:V) {q q':k.T} (hn:q≠q'): ∀ m:List (k.T×V),zA3 k (zAg k m q v) q'=zA3 k m q'
 | []=>by
   simp only [zAg,zA3];cases k.decT q q' with
   | isTrue h=>exact absurd h hn
   | isFalse h=>rfl
 | (x,y)::r=>by
   simp only [zAg];cases h1:k.decT x q with
   | isTrue h =>
     simp only [zA3];cases k.decT x q' with
     | isTrue h2=>exact absurd (h.symm.trans h2) hn
     | isFalse h=>rfl
   | isFalse h =>
     simp only [zA3];cases k.decT x q' with
     | isTrue h2=>rfl
     | isFalse h2=>exact zB4 v hn r
theorem zDT {k:ETy} {V:Type} (v v':V) (q:k.T): ∀ m:List (k.T×V),zAg k (zAg k m q v) q v'=zAg k m q v'
 | []=>by
   simp only [zAg];cases k.decT q q with
   | isTrue h=>rfl
   | isFalse h=>exact absurd rfl h
 | (x,y)::r=>by
   simp only [zAg];cases h1:k.decT x q with
   | isTrue h=>simp only [zAg,h1]
   | isFalse h=>simp only [zAg,h1,zDT v v' q r]
def z0P (n:Int) (l:List P3) (i:Nat):Option Wit:=if zHo n (l.getD i (0,0,0)) then none else some (1,(i:Int),0)
def zRH (n:Int) (l:List P3) (i:Nat):List Wit:=(List.range i).filterMap (z0P n l)
theorem z2V {n:Int} {l:List P3} {i:Nat} (h:zHo n (l.getD i (0,0,0))=true):zRH n l (i+1)=zRH n l i:=by
 rw [zRH,zBr,z0P,if_pos h];simp [zRH]
theorem z2G {n:Int} {l:List P3} {i:Nat} (h:zHo n (l.getD i (0,0,0))=false):zRH n l (i+1)=zRH n l i++[(1,(i:Int),0)]:=by
 rw [zRH,zBr,z0P,if_neg (by rw [h];simp)];rfl
def zV3 (s:Int×List P3):Bool:=decide (s.1<0)|| (decide (s.1>4096)|| decide ((s.2.length:Int)>8192))
def zBk (s:Int×List P3):List Wit:=if zV3 s then [(1,-1,0)] else zRH s.1 s.2 s.2.length
def zY5 (n:Int) (l:List P3):Spec Nat where
 inv x:=x<=l.length
 live x:=[(27,.s (.int .i64 x)),(3,.s (.own 2 0 (zRH n l x).length))]
 keep:=[1,25,26]
 heap x:=[(2,.row zCx 33 (zRH n l x))]
 keepH:=[0]
 mu x:=l.length - x
theorem zJ3 {n:Int} {l:List P3} (h:n<0\/n>4096\/(l.length:Int)>8192):zBk (n,l)=[(1,-1,0)]:=by
 have:zV3 (n,l)=true:=by simp only [zV3,yO,zF];omega
 rw [zBk,if_pos this]
theorem zM4 {n:Int} {l:List P3} (h1: ¬ n<0) (h2: ¬ n>4096) (h3: ¬ (l.length:Int)>8192):zBk (n,l)=zRH n l l.length:=by
 have:zV3 (n,l)=false:=by simp only [zV3,Bool.or_eq_false_iff,zB0];omega
 rw [zBk,if_neg (by simp [this])]
theorem zVa (n:Int) (l:List P3) (i:Nat):(zRH n l i).length<=i:=zJd _ _
theorem zW0 {fn} (n:Int) (l:List P3):zGL ⟨tyL,fn,[]⟩ f75 [zAa.av (n,l)] (fun v obs=>v= .s (.own 0 0 (zBk (n,l)).length)/\obs=[.row zCx 33 (zBk (n,l))]):=by
 repeat' (conv=>whnf
          first|done|refine qy ?_|refine qG fun _=> ?_|refine qw (fun _=> ?_) (fun _=> ?_)|apply qt|refine qi (fun _=> ?_) (fun _=> ?_)|(refine j6 5 rfl (zY5 n l) (0) ?_ ?_ ?_ fun x hx=> ?_)|(refine zQr 8 rfl ?_;refine Or.inl (y5 (4) ?_))|with_reducible refine jX (zY5 _ _) (x+1) ?_ ?_ ?_ ?_|refine qu ?_|refine qv ?_ ?_|exact zT)
 all_goals try first|refine qz ?_|apply qz5
 all_goals try simp only [qn0,yC,yA,ETy.dflt,Int.reduceToNat,Int.reduceAdd,Int.reduceSub,Int.reduceNeg,Nat.reduceAdd,zY5] at *
 all_goals try (refine qh ?_;omega)
 all_goals try (refine qh ?_;have:=zVa n l x;(try simp only [List.length_singleton]);omega)
 all_goals try (rw [zJ3 (by omega)];done)
 all_goals try (rw [zJ3 (by omega)];rfl)
 all_goals try (rw [zM4 (by assumption) (by assumption) (by assumption),show x=l.length by omega];done)
 all_goals try (rw [z2G (z0B (by omega))];(try simp);done)
 all_goals try (rw [z2V (zPW (by omega))];done)
def zXu:List AV->Option zLe:=zGM zAa (fun s=>some (none,none,.s (.own 0 0 (zBk s).length),[.row zCx 33 (zBk s)]))
theorem zWg:zEP prog 75 zXu:=zVC (zDa fun s r h=>by cases h;exact fbF (fn:=[]) trivial func75 fun _ _=>zW0 s.1 s.2) func75
end S1
namespace S1
@[irreducible] def zXP (t:P3):Bool:=t.1==t.2.1|| (t.2.1==t.2.2|| t.2.2==t.1)
theorem z0V {t:P3} (h:t.1=t.2.1\/t.2.1=t.2.2\/t.2.2=t.1):zXP t=true:=by
 simp only [zXP,yO,beq_iff_eq];exact h
theorem z2U {t:P3} (h: ¬ (t.1=t.2.1\/t.2.1=t.2.2\/t.2.2=t.1)):zXP t=false:=by
 rw [<- zA0];intro e;apply h;simpa only [zXP,yO,beq_iff_eq] using e
def dgG (l:List P3) (i:Nat):Option Wit:=if zXP (l.getD i (0,0,0)) then some (2,(i:Int),0) else none
def dgL (l:List P3) (i:Nat):List Wit:=(List.range i).filterMap (dgG l)
theorem z3W {l:List P3} {i:Nat} (h:zXP (l.getD i (0,0,0))=true):dgL l (i+1)=dgL l i++[(2,(i:Int),0)]:=by
 rw [dgL,zBr,dgG,if_pos h];rfl
theorem z34 {l:List P3} {i:Nat} (h:zXP (l.getD i (0,0,0))=false):dgL l (i+1)=dgL l i:=by
 rw [dgL,zBr,dgG,if_neg (by rw [h];simp)];simp [dgL]
theorem zZs (l:List P3) (i:Nat):(dgL l i).length<=i:=zJd _ _
def zYI (l:List P3):Spec Nat where
 inv x:=x<=l.length
 live x:=[(9,.s (.int .i64 x)),(3,.s (.own 2 0 (dgL l x).length))]
 keep:=[1,7,8]
 heap x:=[(2,.row zCx 33 (dgL l x))]
 keepH:=[0]
 mu x:=l.length - x
theorem zZ8 {fn} (n:Int) (l:List P3) (hb:l.length<=8192):zGL ⟨tyL,fn,[]⟩ f76 [zAa.av (n,l)] (fun v obs=>v= .s (.own 0 0 (dgL l l.length).length)/\obs=[.row zCx 33 (dgL l l.length)]):=by
 repeat' (conv=>whnf
          first|done|refine qy ?_|refine qG fun _=> ?_|refine qw (fun _=> ?_) (fun _=> ?_)|apply qt|refine qi (fun _=> ?_) (fun _=> ?_)|(refine j6 3 rfl (zYI l) (0) ?_ ?_ ?_ fun x hx=> ?_)|with_reducible refine jX (zYI _) (x+1) ?_ ?_ ?_ ?_|refine qu ?_|refine qv ?_ ?_|exact zT)
 all_goals try first|refine qz ?_|apply qz5
 all_goals try simp only [qn0,yC,yA,ETy.dflt,Int.reduceToNat,Int.reduceAdd,Int.reduceSub,Int.reduceNeg,Nat.reduceAdd,zYI] at *
 all_goals try (refine qh ?_;omega)
 all_goals try (refine qh ?_;have:=zZs l x;(try simp only [List.length_singleton]);omega)
 all_goals try (rw [z3W (z0V (by omega))];(try simp);done)
 all_goals try (rw [z34 (z2U (by omega))];done)
 all_goals (rw [show x=l.length by omega];done)
def z1S:List AV->Option zLe:=zGM zAa (fun s=>some (none,some (s.2.length<=8192),.s (.own 0 0 (dgL s.2 s.2.length).length),[.row zCx 33 (dgL s.2 s.2.length)]))
theorem z0D:zEP prog 76 z1S:=zVC (zDa fun s r h=>by cases h;exact fbF (fn:=[]) trivial func76 fun _ h=>zZ8 s.1 s.2 h) func76
def zLw (s:List Bool) (t:P3):List Bool:=((s.set t.1.toNat true).set t.2.1.toNat true).set t.2.2.toNat true
def zCq (n:Nat) (l:List P3) (i:Nat):List Bool:=jE (fun s j=>zLw s (l.getD j (0,0,0))) (List.replicate n false) i
theorem zKF (n:Nat) (l:List P3): ∀ i,(zCq n l i).length=n
 | 0=>by simp [zCq,jE]
 | i+1=>by
   have:=zKF n l i;unfold zCq at this ⊢;simp only [jE,zLw,qZ];exact this
def loG (s:List Bool) (v:Nat):Option Wit:=if s.getD v false then none else some (5,(v:Int),0)
def loL (s:List Bool) (v:Nat):List Wit:=(List.range v).filterMap (loG s)
theorem z33 {s:List Bool} {i:Nat} (h:s.getD i false=true):loL s (i+1)=loL s i:=by
 rw [loL,zBr,loG,if_pos h];simp [loL]
theorem z36 {s:List Bool} {i:Nat} (h:s.getD i false=false):loL s (i+1)=loL s i++[(5,(i:Int),0)]:=by
 rw [loL,zBr,loG,if_neg (by rw [h];simp)];rfl
theorem zYX (s:List Bool) (i:Nat):(loL s i).length<=i:=zJd _ _
def zR6 (n:Nat) (l:List P3):Spec Nat where
 inv x:=x<=l.length
 live x:=[(17,.s (.int .i64 x))]
 keep:=[1,3,15,16]
 heap x:=[(2,.row .bool 4 (zCq n l x))]
 keepH:=[0]
 mu x:=l.length - x
def zSV (n:Nat) (s:List Bool):Spec Nat where
 inv x:=x<=n
 live x:=[(32,.s (.int .i64 x)),(8,.s (.own 3 0 (loL s x).length))]
 keep:=[1,3,30,31]
 heap x:=[(3,.row zCx 33 (loL s x))]
 keepH:=[0,2]
 mu x:=n - x
def zHL (s:Int×List P3):List Wit:=loL (zCq s.1.toNat s.2 s.2.length) s.1.toNat
def zLo (s:Int×List P3):Prop:=0<=s.1/\s.1<=4096/\s.2.length<=8192/\∀ i,i<s.2.length->zHo s.1 (s.2.getD i (0,0,0))=true
theorem zTA {fn} (n:Int) (l:List P3) (hf:zLo (n,l)):zGL ⟨tyL,fn,[]⟩ f79 [zAa.av (n,l)] (fun v obs=>v= .s (.own 0 0 (zHL (n,l)).length)/\obs=[.row zCx 33 (zHL (n,l))]):=by
 obtain ⟨h1,h2,h3,h4⟩:=hf
 repeat' (conv=>whnf
          first|done|refine qy ?_|refine qG fun _=> ?_|refine qw (fun _=> ?_) (fun _=> ?_)|apply qt|refine qi (fun _=> ?_) (fun _=> ?_)|(refine j6 3 rfl (zR6 n.toNat l) (0) ?_ ?_ ?_ fun x hx=> ?_)|(refine zQr 6 rfl ?_;refine Or.inl (y5 (4) ?_))|with_reducible refine jX (zR6 _ _) (x+1) ?_ ?_ ?_ ?_|(refine j6 13 rfl (zSV n.toNat (zCq n.toNat l l.length)) (0) ?_ ?_ ?_ fun y hy=> ?_)|with_reducible refine jX (zSV _ _) (y+1) ?_ ?_ ?_ ?_|refine qu ?_|refine qv ?_ ?_|exact zT)
 all_goals try first|refine qz ?_|apply qz5
 all_goals try simp only [qn0,yC,yA,ETy.dflt,Int.reduceToNat,Int.reduceAdd,Int.reduceSub,Int.reduceNeg,Nat.reduceAdd,zR6,zSV] at *
 all_goals try (refine qh ?_;omega)
 all_goals try (have ht:=zBF (h4 x (by omega));refine qh ?_;(try simp only [zA4 h1]);omega)
 all_goals try (have e:x=l.length:=by omega)
 all_goals try subst e
 all_goals try (refine qh ?_;have:=zYX (zCq n.toNat l l.length) y;(try simp only [List.length_singleton]);omega)
 all_goals try (rw [z33 (by assumption)];done)
 all_goals try (rw [z36 (by assumption)];(try simp);done)
 all_goals try rfl
 all_goals (have e:y=n.toNat:=by omega
            subst e;rfl)
def zSU:List AV->Option zLe:=zGM zAa (fun s=>some (none,some (zLo s),.s (.own 0 0 (zHL s).length),[.row zCx 33 (zHL s)]))
theorem zRv:zEP prog 79 zSU:=zVC (zDa fun s r h=>by cases h;exact fbF (fn:=[]) trivial func79 fun _ h=>zTA s.1 s.2 h) func79
end S1
namespace S1
theorem zAK {S:Type} {f:S->Nat->S} {s:S} (P:Nat->S->Prop) (h0:P 0 s) {n:Nat} (hs: ∀ i s,i<n->P i s->P (i+1) (f s i)): ∀ i,i<=n->P i (jE f s i)
 | 0,_=>h0
 | i+1,h=>hs i _ (by omega) (zAK P h0 hs i (by omega))
def qV (t:P3):List P3:=[(t.1,t.2.1,0),(t.2.1,t.2.2,0),(t.2.2,t.1,0)]
theorem zUZ {fn} (t:P3):zB7 ⟨tyL,fn,[]⟩ f101 [ETy.arr3.av t] (fun v=>v= .s (.sl .arr3 (qV t))):=by
 repeat' (conv=>whnf
          first|done|refine qy ?_|refine qG fun _=> ?_|refine qw (fun _=> ?_) (fun _=> ?_)|apply qt|refine qi (fun _=> ?_) (fun _=> ?_)|refine qu ?_|refine qv ?_ ?_|exact zT)
 all_goals try first|refine qz ?_|apply qz5
 all_goals try simp only [qn0,yC,yA,ETy.dflt,Int.reduceToNat,Int.reduceAdd,Int.reduceSub,Int.reduceNeg,Nat.reduceAdd,qV] at *
 rfl
def zO4:List AV->Option Res:=zGM .arr3 (fun t=>some (none,none,.s (.sl .arr3 (qV t))))
theorem zUC:zAI prog 101 zO4:=mkR (zBJ fun t r h=>by cases h;exact fb (fn:=[]) trivial func101 fun _ _=>zUZ t) func101
abbrev zHu:=List (ETy.arr3.T×List Int)
abbrev z21:=List (ETy.arr2.T×ETy.bool.T)
abbrev PS:=z21×List Wit
def prA (kind:Int) (i:Nat) (av:List Int) (s:PS) (j:Nat):PS :=
 match (zA3 .arr2 s.1 (av.getD j 0,(i:Int))).getD false with
 | true=>s
 | false=>(zAg .arr2 s.1 (av.getD j 0,(i:Int)) true,s.2++[(kind,av.getD j 0,(i:Int))])
def zAb (h:zHu) (k:P3):List Int:=(zA3 .arr3 h k).getD []
def prK (kind:Int) (i:Nat) (ks:List P3) (s:zHu×PS) (m:Nat):zHu×PS :=
 (zAg .arr3 s.1 (ks.getD m (0,0,0)) (zAb s.1 (ks.getD m (0,0,0))++[(i:Int)]),jE (prA kind i (zAb s.1 (ks.getD m (0,0,0)))) s.2 (zAb s.1 (ks.getD m (0,0,0))).length)
def prI (kp:P3->List P3) (kind:Int) (l:List P3) (s:zHu×PS) (i:Nat):zHu×PS:=jE (prK kind i (kp (l.getD i (0,0,0)))) s (kp (l.getD i (0,0,0))).length
def prS (kp:P3->List P3) (kind:Int) (l:List P3) (i:Nat):zHu×PS:=jE (prI kp kind l) ([],[],[]) i
theorem zNK (h:zHu) (k:P3):Option.getD (zA3 .arr3 h k) []=zAb h k:=rfl
theorem zJ6 (h:zHu) (k:P3) (v:List Int):zAb (zAg .arr3 h k v) k=v:=by rw [zAb,zAz];rfl
theorem z2R {kind:Int} {i:Nat} {av:List Int} {s:PS} {j:Nat} (h:(zA3 .arr2 s.1 (av.getD j 0,(i:Int))).getD false=true):jE (prA kind i av) s 0=s/\prA kind i av s j=s:=by
 refine ⟨rfl,?_⟩;unfold prA;rw [h]
theorem z2x {kind:Int} {i:Nat} {av:List Int} {s:PS} {j:Nat} (h:(zA3 .arr2 s.1 (av.getD j 0,(i:Int))).getD false=false) :
 prA kind i av s j=(zAg .arr2 s.1 (av.getD j 0,(i:Int)) true,s.2++[(kind,av.getD j 0,(i:Int))]):=by
 unfold prA;rw [h]
theorem zPo {kind:Int} {i:Nat} {av:List Int} {s:PS} {z:Nat} (h:(zA3 .arr2 (jE (prA kind i av) s z).1 (av.getD z 0,(i:Int))).getD false=true):jE (prA kind i av) s (z+1)=jE (prA kind i av) s z:=(z2R h).2
theorem zUg {kind:Int} {i:Nat} {av:List Int} {s:PS} {z:Nat} (h:(zA3 .arr2 (jE (prA kind i av) s z).1 (av.getD z 0,(i:Int))).getD false=false) :
 jE (prA kind i av) s (z+1)=(zAg .arr2 (jE (prA kind i av) s z).1 (av.getD z 0,(i:Int)) true,(jE (prA kind i av) s z).2++[(kind,av.getD z 0,(i:Int))]):=z2x h
theorem z0d (kind:Int) (i:Nat) (av:List Int) (s:PS) (j:Nat):(prA kind i av s j).2.length<=s.2.length+1:=by
 unfold prA;split
 ·omega
 ·simp
theorem zNj (kind:Int) (i:Nat) (av:List Int) (s:PS) (j:Nat):(jE (prA kind i av) s j).2.length<=s.2.length+j :=
 zAK (n:=j) (fun j (t:PS)=>t.2.length<=s.2.length+j) (by simp) (fun j t _ h=>qT (z0d _ _ _ _ _) (by omega)) j (zI _)
def zOb (c b:Nat) (s:zHu×PS):Prop:=(∀ k,(zAb s.1 k).length<=c)/\s.2.2.length<=b
theorem zEK (h:zHu) (k:P3) (v:List Int) (k':P3):zAb (zAg .arr3 h k v) k'=if k=k' then v else zAb h k':=by
 unfold zAb;split
 ·rename_i e;subst e;rw [zAz];rfl
 ·rename_i e;rw [zB4 _ e]
theorem z1I {kind:Int} {i c b:Nat} {ks:List P3} {s:zHu×PS} {m:Nat} (h:zOb c b s):zOb (c+1) (b+c) (prK kind i ks s m):=by
 refine ⟨fun k=> ?_,?_⟩
 ·show (zAb (zAg .arr3 s.1 _ _) k).length<=_;rw [zEK];split
  ·have:=h.1 (ks.getD m (0,0,0));rw [z7];simp only [List.length_singleton];omega
  ·have:=h.1 k;omega
 ·have:=zNj kind i (zAb s.1 (ks.getD m (0,0,0))) s.2 (zAb s.1 (ks.getD m (0,0,0))).length;have:=h.1 (ks.getD m (0,0,0));have:=h.2;show (jE (prA kind i (zAb s.1 (ks.getD m (0,0,0)))) s.2 (zAb s.1 (ks.getD m (0,0,0))).length).2.length<=_;omega
theorem zOR {kind:Int} {i:Nat} {ks:List P3} {c b:Nat} {s:zHu×PS} (h:zOb c b s) (hk:ks.length<=3): ∀ m,m<=ks.length->zOb (c+m) (b+m*(c+3)) (jE (prK kind i ks) s m) :=
 zAK (fun m (t:zHu×PS)=>zOb (c+m) (b+m*(c+3)) t) (by simpa using h) fun m t hm ht=>by
  have:=z1I (kind:=kind) (i:=i) (ks:=ks) (m:=m) ht;refine ⟨fun k=>qT (this.1 k) (by omega),qT this.2 ?_⟩;rw [Nat.succ_mul];omega
theorem zX0 (kp:P3->List P3) (hk: ∀ t,(kp t).length<=3) (kind:Int) (l:List P3) (i:Nat) (hi:i<=8192):zOb (3*i) (i*73737) (prS kp kind l i) :=
 zAK (n:=8192) (fun i t=>zOb (3*i) (i*73737) t) ⟨fun k=>by simp [zAb,zA3],by simp⟩ (fun i t hi h=>by
  have h1:=zOR (kind:=kind) (i:=i) h (hk (l.getD i (0,0,0))) _ (zI _);have h3:=hk (l.getD i (0,0,0));have h4:(kp (l.getD i (0,0,0))).length*(3*i+3)<=3*(3*i+3):=yD _ h3
  exact ⟨fun k=>qT (h1.1 k) (by omega),qT h1.2 (qT (Nat.add_le_add_left h4 _) (by omega))⟩) i hi
def zJ2 (kp:P3->List P3) (kind:Int) (l:List P3):Spec Nat where
 inv x:=x<=l.length
 live x:=[(22,.s (.int .i64 x)),(7,.s (.own 2 0 (prS kp kind l x).2.2.length))]
 keep:=[1,2,3,8,9,20,21]
 heap x:=[(2,.row zCx 33 (prS kp kind l x).2.2),(3,.gmap .arr3 (.int .i64) (prS kp kind l x).1),(4,.map .arr2 .bool (prS kp kind l x).2.1)]
 keepH:=[0]
 mu x:=l.length - x
def zJX (kind:Int) (i:Nat) (ks:List P3) (s:zHu×PS):Spec Nat where
 inv x:=x<=ks.length
 live x:=[(31,.s (.int .i64 x)),(7,.s (.own 2 0 (jE (prK kind i ks) s x).2.2.length))]
 keep:=[1,2,3,8,9,10,11,20,21,22,29,30]
 heap x:=[(2,.row zCx 33 (jE (prK kind i ks) s x).2.2),(3,.gmap .arr3 (.int .i64) (jE (prK kind i ks) s x).1),(4,.map .arr2 .bool (jE (prK kind i ks) s x).2.1)]
 keepH:=[0,5]
 mu x:=ks.length - x
def zJt (kind:Int) (i:Nat) (av:List Int) (s:PS):Spec Nat where
 inv x:=x<=av.length
 live x:=[(39,.s (.int .i64 x)),(7,.s (.own 2 0 (jE (prA kind i av) s x).2.length))]
 keep:=[1,2,3,8,9,10,11,13,20,21,22,29,30,31,37,38]
 heap x:=[(2,.row zCx 33 (jE (prA kind i av) s x).2),(4,.map .arr2 .bool (jE (prA kind i av) s x).1)]
 keepH:=[0,3,5,6]
 mu x:=av.length - x
theorem zQw (n kind:Int) (l:List P3) (hb:l.length<=8192):zGL ⟨tyL,[(101,zO4)],[]⟩ f100 [zAa.av (n,l),(ETy.int .i64).av kind,ETy.fnc.av (some 101)] (fun v obs=>v= .s (.own 0 0 (prS qV kind l l.length).2.2.length)/\obs=[.row zCx 33 (prS qV kind l l.length).2.2]):=by
 have hS:=fun x (h:x<=8192)=>zX0 qV (fun _=>zI 3) kind l x h
 repeat' (conv=>whnf
          first|done|refine qy ?_|refine qG fun _=> ?_|refine qw (fun _=> ?_) (fun _=> ?_)|apply qt|refine qi (fun _=> ?_) (fun _=> ?_)|(refine j6 5 rfl (zJ2 qV kind l) (0) ?_ ?_ ?_ fun x hx=> ?_)|with_reducible refine jX (zJ2 _ _ _) (x+1) ?_ ?_ ?_ ?_|(refine j6 8 rfl (zJX kind x (qV (l.getD x (0,0,0))) (prS qV kind l x)) (0) ?_ ?_ ?_ fun y hy=> ?_)|with_reducible refine jX (zJX _ _ _ _) (y+1) ?_ ?_ ?_ ?_|(refine j6 11 rfl (zJt kind x (zAb (jE (prK kind x (qV (l.getD x (0,0,0)))) (prS qV kind l x) y).1 ((qV (l.getD x (0,0,0))).getD y (0,0,0))) (jE (prK kind x (qV (l.getD x (0,0,0)))) (prS qV kind l x) y).2) (0) ?_ ?_ ?_ fun z hz=> ?_)|with_reducible refine jX (zJt _ _ _ _) (z+1) ?_ ?_ ?_ ?_|refine qu ?_|refine qv ?_ ?_|exact zT)
 all_goals try first|refine qz ?_|apply qz5
 all_goals try simp only [qn0,yC,yA,ETy.dflt,Int.reduceToNat,Int.reduceAdd,Int.reduceSub,Int.reduceNeg,Nat.reduceAdd,zJ2,zJX,zJt,zDT,zNK,zJ6] at *
 all_goals try (refine qh ?_;omega)
 all_goals try (rw [zPo (by assumption)];done)
 all_goals try (rw [zUg (by assumption)];(try simp);done)
 all_goals try first
  | (have e:z=(zAb (jE (prK kind x (qV (l.getD x (0,0,0)))) (prS qV kind l x) y).1 ((qV (l.getD x (0,0,0))).getD y (0,0,0))).length:=by omega
     subst e;first|rfl|(rw [zDT,zAz];rfl))
  | (have e:y=(qV (l.getD x (0,0,0))).length:=by omega
     subst e;rfl)
  | (have e:x=l.length:=by omega
     subst e;rfl)
 all_goals
  have hB:=zOR (kind:=kind) (i:=x) (ks:=qV (l.getD x (0,0,0))) (hS x (by omega)) (zI 3) y (by omega);have h1:=hB.1 ((qV (l.getD x (0,0,0))).getD y (0,0,0));have h2:=hB.2;have h3:=zNj kind x (zAb (jE (prK kind x (qV (l.getD x (0,0,0)))) (prS qV kind l x) y).1 ((qV (l.getD x (0,0,0))).getD y (0,0,0))) (jE (prK kind x (qV (l.getD x (0,0,0)))) (prS qV kind l x) y).2 z;have h4:y<=3:=hy;have h5:y*(3*x+3)<=3*(3*x+3):=yD _ h4
  refine qh ?_;generalize y*(3*x+3)=q at *
 ·omega
 ·unfold zB8;simp only [zZ,List.take_zero,List.length_nil];omega
def zPa:List AV->Option zLe:=zNd zAa (.int .i64) .fnc (fun s kind f=>match f with
 | some 101=>some (none,some (s.2.length<=8192),.s (.own 0 0 (prS qV kind s.2 s.2.length).2.2.length),[.row zCx 33 (prS qV kind s.2 s.2.length).2.2])
 | _=>none)
end S1
namespace S1
abbrev zCj:=List ((ETy.int .i64).T×List Int)
abbrev ReM:=List ((ETy.int .i64).T×ETy.bool.T)
def zBL (m:zCj) (w:Int):List Int:=(zA3 (.int .i64) m w).getD []
theorem zSK (m:zCj) (w:Int):(zA3 (.int .i64) m w).getD []=zBL m w:=rfl
theorem zEN (h:zCj) (k:Int) (v:List Int) (k':Int):zBL (zAg (.int .i64) h k v) k'=if k=k' then v else zBL h k':=by
 unfold zBL;split
 ·rename_i e;subst e;rw [zAz];rfl
 ·rename_i e;rw [zB4 _ e]
theorem zQ3 (h:zCj) (k:Int) (v:List Int):zBL (zAg (.int .i64) h k v) k=v:=by rw [zEN,if_pos rfl]
def trl (t:P3):List Int:=[t.1,t.2.1,t.2.2]
def tri (l:List P3) (i:Int):P3:=l.getD i.toNat (0,0,0)
theorem zYi (t:P3):[t.1,t.2.1,t.2.2]=trl t:=rfl
theorem zYU (l:List P3) (i:Int):l.getD i.toNat (0,0,0)=tri l i:=rfl
def enW (v i:Int) (t:P3) (m:zCj) (k:Nat):zCj:=if (trl t).getD k 0=v then m else zAg (.int .i64) m ((trl t).getD k 0) (zBL m ((trl t).getD k 0)++[i])
def enT (l:List P3) (v:Int) (tris:List Int) (m:zCj) (j:Nat):zCj:=jE (enW v (tris.getD j 0) (tri l (tris.getD j 0))) m 3
def enA (l:List P3) (v:Int) (tris:List Int) (j:Nat):zCj:=jE (enT l v tris) [] j
theorem zVy {v i:Int} {t:P3} {m:zCj} {k:Nat} (h:(trl t).getD k 0=v):jE (enW v i t) m (k+1)=jE (enW v i t) m k:=by
 show enW v i t (jE (enW v i t) m k) k=_;rw [enW,if_pos h]
theorem zZY {v i:Int} {t:P3} {m:zCj} {k:Nat} (h:(trl t).getD k 0≠v):jE (enW v i t) m (k+1)=zAg (.int .i64) (jE (enW v i t) m k) ((trl t).getD k 0) (zBL (jE (enW v i t) m k) ((trl t).getD k 0)++[i]):=by
 show enW v i t (jE (enW v i t) m k) k=_;rw [enW,if_neg h]
def zSi (tris:List Int) (c:Nat) (m:zCj):Prop:= ∀ w,(zBL m w).length<=c/\∀ x∈zBL m w,x∈tris
theorem z1n {v i:Int} {t:P3} {tris:List Int} {c:Nat} {m:zCj} {k:Nat} (h:zSi tris c m) (hi:i∈tris):zSi tris (c+1) (enW v i t m k):=by
 intro w;unfold enW;split
 ·exact ⟨by have:=(h w).1;omega,(h w).2⟩
 ·rw [zEN];split
  ·have:=h ((trl t).getD k 0);refine ⟨by rw [z7];simp only [List.length_singleton];omega,fun x hx=> ?_⟩;rw [zY,zD] at hx;rcases hx with hx|rfl
   ·exact this.2 x hx
   ·exact hi
  ·exact ⟨by have:=(h w).1;omega,(h w).2⟩
theorem zRu {v i:Int} {t:P3} {tris:List Int} {c:Nat} {m:zCj} (h:zSi tris c m) (hi:i∈tris) (k:Nat):zSi tris (c+k) (jE (enW v i t) m k) :=
 zAK (n:=k) (fun k (m:zCj)=>zSi tris (c+k) m) h (fun k _ _ hm=>z1n (k:=k) hm hi) k (zI _)
theorem zA5 {l:List Int} {j:Nat} (h:j<l.length):l.getD j 0∈l:=by
 rw [gdE,gE h];exact y6 h
theorem zS1 (l:List P3) (v:Int) (tris:List Int): ∀ j,j<=tris.length->zSi tris (3*j) (enA l v tris j) :=
 zAK (fun j (m:zCj)=>zSi tris (3*j) m) (fun w=>⟨by simp [zBL,zA3],by simp [zBL,zA3]⟩) fun j m hj h=>zRu h (zA5 hj) 3
abbrev TgS:=Nat×List Int×ReM
def had (m:ReM) (k:Int):Bool:=(zA3 (.int .i64) m k).getD false
theorem z0F (m:ReM) (k:Int):(zA3 (.int .i64) m k).getD false=had m k:=rfl
theorem zVl (m:ReM) (k:Int): @Option.getD Bool (@zA3 (.int .i64) Bool m k) false=had m k:=rfl
theorem zFW (m:ReM) (k k':Int):had (zAg (.int .i64) m k true) k'=if k=k' then true else had m k':=by
 unfold had;split
 ·rename_i e;subst e;rw [zAz];rfl
 ·rename_i e;rw [zB4 _ e]
def vis (av:List Int) (S:TgS) (j:Nat):TgS:=if had S.2.2 (av.getD j 0)=true then S else (0,S.2.1.drop S.1++[av.getD j 0],zAg (.int .i64) S.2.2 (av.getD j 0) true)
theorem zXC {av:List Int} {S:TgS} {j:Nat} (h:had (jE (vis av) S j).2.2 (av.getD j 0)=true):jE (vis av) S (j+1)=jE (vis av) S j:=by
 show vis av (jE (vis av) S j) j=_;rw [vis,if_pos h]
theorem zZa {av:List Int} {S:TgS} {j:Nat} (h:had (jE (vis av) S j).2.2 (av.getD j 0)=false) :
 jE (vis av) S (j+1)=(0,(jE (vis av) S j).2.1.drop (jE (vis av) S j).1++[av.getD j 0],zAg (.int .i64) (jE (vis av) S j).2.2 (av.getD j 0) true):=by
 show vis av (jE (vis av) S j) j=_;rw [vis,if_neg (by rw [h];simp)]
def tgW (E:zCj) (v:Int) (t:P3) (S:TgS) (k:Nat):TgS:=if (trl t).getD k 0=v then S else jE (vis (zBL E ((trl t).getD k 0))) S (zBL E ((trl t).getD k 0)).length
theorem zVc {E:zCj} {v:Int} {t:P3} {S:TgS} {k:Nat} (h:(trl t).getD k 0=v):jE (tgW E v t) S (k+1)=jE (tgW E v t) S k:=by
 show tgW E v t (jE (tgW E v t) S k) k=_;rw [tgW,if_pos h]
theorem zZU {E:zCj} {v:Int} {t:P3} {S:TgS} {k:Nat} (h:(trl t).getD k 0≠v):jE (tgW E v t) S (k+1)=jE (vis (zBL E ((trl t).getD k 0))) (jE (tgW E v t) S k) (zBL E ((trl t).getD k 0)).length:=by
 show tgW E v t (jE (tgW E v t) S k) k=_;rw [tgW,if_neg h]
def tgR (E:zCj) (l:List P3) (v:Int) (S:TgS) (_:Nat):TgS:=if S.1<S.2.1.length then jE (tgW E v (tri l (S.2.1.getD S.1 0))) (S.1+1,S.2.1,S.2.2) 3 else S
def tgS (E:zCj) (l:List P3) (v x0:Int) (r:Nat):TgS:=jE (tgR E l v) (0,[x0],[(x0,true)]) r
def unr (tris:List Int) (m:ReM):Nat:=(tris.filter fun k=> !had m k).length
def meas (tris:List Int) (S:TgS):Nat:=(S.2.1.length - S.1)+unr tris S.2.2
def zOr (tris:List Int) (S:TgS):Prop:=S.1<=S.2.1.length/\(∀ x∈S.2.1,x∈tris)/\S.2.2.length+unr tris S.2.2<=tris.length+1
theorem zPL {k:ETy} {V:Type} (v:V) (q:k.T): ∀ m:List (k.T×V),(zAg k m q v).length<=m.length+1
 | []=>by simp [zAg]
 | (x,y)::r=>by
   simp only [zAg];split
   ·simp
   ·have:=zPL v q r;simp only [zZ];omega
theorem zRh {α:Type} {p q:α->Bool} (h: ∀ x,q x=true->p x=true): ∀ l:List α,(l.filter q).length<=(l.filter p).length
 | []=>zI _
 | a ::l=>by
   have:=zRh h l
   by_cases hq:q a=true
   ·rw [yV hq,yV (h a hq)];simp only [zZ];omega
   ·rw [qC hq]
    by_cases hp:p a=true
    ·rw [yV hp];simp only [zZ];omega
    ·rw [qC hp];exact this
theorem zTL {α:Type} {p q:α->Bool} (h: ∀ x,q x=true->p x=true) {a:α} (hp:p a=true) (hq: ¬ q a=true): ∀ {l:List α},a∈l->(l.filter q).length+1<=(l.filter p).length
 | b ::l,hm=>by
   rcases zP.1 hm with e|hm
   ·subst e;rw [yV hp,qC hq];have:=zRh h l;simp only [zZ];omega
   ·have:=zTL h hp hq hm
    by_cases hq':q b=true
    ·rw [yV hq',yV (h b hq')];simp only [zZ];omega
    ·rw [qC hq']
     by_cases hp':p b=true
     ·rw [yV hp'];simp only [zZ];omega
     ·rw [qC hp'];exact this
theorem zSP {tris:List Int} {m:ReM} {k:Int} (hk:k∈tris) (h:had m k=false):unr tris (zAg (.int .i64) m k true)+1<=unr tris m:=by
 refine zTL (fun x hx=> ?_) (a:=k) (by rw [h];rfl) (by rw [zFW,if_pos rfl];simp) hk;rw [zFW] at hx;split at hx
 ·simp at hx
 ·exact hx
theorem z1A {tris av:List Int} {S:TgS} {j:Nat} (h:zOr tris S) (hj:j<av.length) (ha: ∀ x∈av,x∈tris):zOr tris (vis av S j)/\meas tris (vis av S j)<=meas tris S:=by
 unfold vis;split
 ·exact ⟨h,zI _⟩
 ·rename_i hh;have hm:=ha _ (zA5 hj);refine ⟨⟨jB _,fun x hx=> ?_,?_⟩,?_⟩
  ·rw [zY,zD] at hx;rcases hx with hx|rfl
   ·exact h.2.1 x (zAE hx)
   ·exact hm
  ·have:=zSP hm (by simpa using hh);have:=zPL (k:= .int .i64) true (av.getD j 0) S.2.2;have:=h.2.2;show (zAg (.int .i64) S.2.2 (av.getD j 0) true).length+unr tris (zAg (.int .i64) S.2.2 (av.getD j 0) true)<=_;omega
  ·have:=zSP hm (by simpa using hh);show ((S.2.1.drop S.1++[av.getD j 0]).length - 0)+unr tris (zAg (.int .i64) S.2.2 (av.getD j 0) true)<=meas tris S;rw [z7,zE1,List.length_singleton];unfold meas;omega
theorem zSM {tris av:List Int} {S:TgS} (h:zOr tris S) (ha: ∀ x∈av,x∈tris): ∀ j,j<=av.length->zOr tris (jE (vis av) S j)/\meas tris (jE (vis av) S j)<=meas tris S :=
 zAK (fun _ (T:TgS)=>zOr tris T/\meas tris T<=meas tris S) ⟨h,zI _⟩ fun j T hj hT=>let ⟨a,b⟩:=z1A (j:=j) hT.1 hj ha;⟨a,qT b hT.2⟩
theorem zPE {tris:List Int} {E:zCj} {c:Nat} (hE:zSi tris c E) {v:Int} {t:P3} {S:TgS} (h:zOr tris S) (k:Nat):zOr tris (jE (tgW E v t) S k)/\meas tris (jE (tgW E v t) S k)<=meas tris S :=
 zAK (n:=k) (fun _ (T:TgS)=>zOr tris T/\meas tris T<=meas tris S) ⟨h,zI _⟩ (fun j T _ hT=>by
  unfold tgW;split
  ·exact hT
  ·obtain ⟨a,b⟩:=zSM hT.1 (hE _).2 _ (zI _)
   exact ⟨a,qT b hT.2⟩) k (zI _)
theorem zPT {tris:List Int} {S:TgS} (h:zOr tris S) (hs:S.1<S.2.1.length):zOr tris (S.1+1,S.2.1,S.2.2)/\meas tris (S.1+1,S.2.1,S.2.2)+1<=meas tris S :=
 ⟨⟨hs,h.2⟩,by unfold meas;show S.2.1.length - (S.1+1)+unr tris S.2.2+1<=_;omega⟩
theorem zXl {tris:List Int} {E:zCj} {c:Nat} (hE:zSi tris c E) {l:List P3} {v:Int} {S:TgS} {r:Nat} (h:zOr tris S):zOr tris (tgR E l v S r)/\(meas tris (tgR E l v S r)<=meas tris S)/\(S.1<S.2.1.length->meas tris (tgR E l v S r)+1<=meas tris S):=by
 unfold tgR;split
 ·rename_i hs;obtain ⟨a,b⟩:=zPT h hs;obtain ⟨c,d⟩:=zPE hE (v:=v) (t:=tri l (S.2.1.getD S.1 0)) a 3;exact ⟨c,by omega,fun _=>by omega⟩
 ·rename_i hs;exact ⟨h,zI _,fun e=>absurd e hs⟩
theorem zYQ {tris:List Int} {x0:Int} (_:x0∈tris):([(x0,true)]:ReM).length+unr tris [(x0,true)]<=tris.length+1:=by
 have:unr tris [(x0,true)]<=tris.length:=List.length_filter_le _ _;simp only [List.length_singleton];omega
theorem zIT {tris:List Int} {x0:Int} :meas tris (0,[x0],[(x0,true)])<=tris.length+1:=by
 have:unr tris [(x0,true)]<=tris.length:=List.length_filter_le _ _;show 1+unr tris [(x0,true)]<=_;omega
theorem zXs {tris:List Int} {E:zCj} {c:Nat} (hE:zSi tris c E) {l:List P3} {v x0:Int} (hx:x0∈tris) (r:Nat):zOr tris (tgS E l v x0 r)/\meas tris (tgS E l v x0 r)<=meas tris (0,[x0],[(x0,true)]) :=
 zAK (n:=r) (fun _ (T:TgS)=>zOr tris T/\meas tris T<=meas tris (0,[x0],[(x0,true)])) ⟨⟨jB _,fun x hx'=>by rw [zD] at hx';rw [hx'];exact hx,zYQ hx⟩,zI _⟩
  (fun j T _ hT=>let ⟨a,b,_⟩:=zXl (r:=j) hE hT.1;⟨a,qT b hT.2⟩) r (zI _)
theorem zKm {E:zCj} {l:List P3} {v x0:Int} {r:Nat} (h: ¬ (tgS E l v x0 r).1<(tgS E l v x0 r).2.1.length): ∀ d,tgS E l v x0 (r+d)=tgS E l v x0 r
 | 0=>rfl
 | d+1=>by
   show tgR E l v (tgS E l v x0 (r+d)) (r+d)=_;rw [zKm h d,tgR,if_neg h]
theorem zSD {E:zCj} {l:List P3} {v x0:Int} {r:Nat} (h:(tgS E l v x0 r).1<(tgS E l v x0 r).2.1.length) :
 tgS E l v x0 (r+1)=jE (tgW E v (tri l ((tgS E l v x0 r).2.1.getD (tgS E l v x0 r).1 0))) ((tgS E l v x0 r).1+1,(tgS E l v x0 r).2.1,(tgS E l v x0 r).2.2) 3:=by
 show tgR E l v (tgS E l v x0 r) r=_;rw [tgR,if_pos h]
def tgP (S:TgS):TgS:=(S.1+1,S.2.1,S.2.2)
def tgT (l:List P3) (S:TgS):P3:=tri l (S.2.1.getD S.1 0)
def zRI (l:List P3) (v:Int) (tris:List Int):Bool:=(((tgS (enA l v tris tris.length) l v (tris.getD 0 0) (2*tris.length+2)).2.2.length:Int)==(tris.length:Int))
def zUx (l:List P3) (v:Int) (tris:List Int):Spec Nat where
 inv x:=x<=tris.length
 live x:=[(22,.s (.int .i64 x))]
 keep:=[1,2,3,7,20,21]
 heap x:=[(1,.gmap (.int .i64) (.int .i64) (enA l v tris x))]
 keepH:=[0]
 mu x:=tris.length - x
def zRl (l:List P3) (v:Int) (tris:List Int) (j:Nat):Spec Nat where
 inv x:=x<=3
 live x:=[(31,.s (.int .i64 x))]
 keep:=[1,2,3,7,9,20,21,22,30]
 heap x:=[(1,.gmap (.int .i64) (.int .i64) (jE (enW v (tris.getD j 0) (tri l (tris.getD j 0))) (enA l v tris j) x))]
 keepH:=[0]
 mu x:=3 - x
def zSG (E:zCj) (l:List P3) (v x0:Int) (tris:List Int):Spec Nat where
 inv x:=x+meas tris (tgS E l v x0 x)<=2*tris.length+2
 live x:=[(13,.s (.own 3 (tgS E l v x0 x).1 ((tgS E l v x0 x).2.1.length - (tgS E l v x0 x).1)))]
 keep:=[1,2,3,7,12]
 heap x:=[(2,.map (.int .i64) .bool (tgS E l v x0 x).2.2),(3,.row (.int .i64) 3 (tgS E l v x0 x).2.1)]
 keepH:=[0,1]
 mu x:=meas tris (tgS E l v x0 x)
def zRV (E:zCj) (v:Int) (t:P3) (S:TgS):Spec Nat where
 inv x:=x<=3
 live x:=[(69,.s (.int .i64 x)),(13,.s (.own 3 (jE (tgW E v t) S x).1 ((jE (tgW E v t) S x).2.1.length - (jE (tgW E v t) S x).1)))]
 keep:=[1,2,3,7,12,14,68]
 heap x:=[(2,.map (.int .i64) .bool (jE (tgW E v t) S x).2.2),(3,.row (.int .i64) 3 (jE (tgW E v t) S x).2.1)]
 keepH:=[0,1]
 mu x:=3 - x
def zSB (av:List Int) (S:TgS):Spec Nat where
 inv x:=x<=av.length
 live x:=[(79,.s (.int .i64 x)),(13,.s (.own 3 (jE (vis av) S x).1 ((jE (vis av) S x).2.1.length - (jE (vis av) S x).1)))]
 keep:=[1,2,3,7,12,14,68,69,77,78]
 heap x:=[(2,.map (.int .i64) .bool (jE (vis av) S x).2.2),(3,.row (.int .i64) 3 (jE (vis av) S x).2.1)]
 keepH:=[0,1]
 mu x:=av.length - x
theorem zRn {α:Type} (l:List α) (s:Nat):List.take (l.length - s) (List.drop s l)=List.drop s l:=jR (by simp)
def z3L (l:List P3) (tris:List Int):Prop:=l.length<=8192/\tris.length<=24576/\tris≠[]/\∀ x∈tris,0<=x/\x<l.length
theorem z1B {fn} (n v:Int) (l:List P3) (tris:List Int) (hf:z3L l tris):zB7 ⟨tyL,fn,[]⟩ f103 [zAa.av (n,l),(ETy.int .i64).av v,(ETy.sl (.int .i64)).av tris] (fun r=>r= .s (.bool (zRI l v tris))):=by
 obtain ⟨h1,h2,h3,h4⟩:=hf;have h5:0<tris.length:=zAR.2 h3
 repeat' (conv=>whnf
          first|done|refine qy ?_|refine qG fun _=> ?_|refine qw (fun _=> ?_) (fun _=> ?_)|apply qt|refine qi (fun _=> ?_) (fun _=> ?_)|(refine j6 3 rfl (zUx l v tris) (0) ?_ ?_ ?_ fun x hx=> ?_)|with_reducible refine jX (zUx _ _ _) (x+1) ?_ ?_ ?_ ?_|(refine j6 6 rfl (zRl l v tris x) (0) ?_ ?_ ?_ fun y hy=> ?_)|with_reducible refine jX (zRl _ _ _ _) (y+1) ?_ ?_ ?_ ?_|(refine j6 14 rfl (zSG (enA l v tris tris.length) l v (tris.getD 0 0) tris) (0) ?_ ?_ ?_ fun z hz=> ?_)|with_reducible refine jX (zSG _ _ _ _ _) (z+1) ?_ ?_ ?_ ?_|(refine j6 18 rfl (zRV (enA l v tris tris.length) v (tgT l (tgS (enA l v tris tris.length) l v (tris.getD 0 0) z)) (tgP (tgS (enA l v tris tris.length) l v (tris.getD 0 0) z))) (0) ?_ ?_ ?_ fun k hk=> ?_)|with_reducible refine jX (zRV _ _ _ _) (k+1) ?_ ?_ ?_ ?_|(refine j6 22 rfl (zSB (zBL (enA l v tris tris.length) ((trl (tgT l (tgS (enA l v tris tris.length) l v (tris.getD 0 0) z))).getD k 0)) (jE (tgW (enA l v tris tris.length) v (tgT l (tgS (enA l v tris tris.length) l v (tris.getD 0 0) z))) (tgP (tgS (enA l v tris tris.length) l v (tris.getD 0 0) z)) k)) (0) ?_ ?_ ?_ fun j hj=> ?_)|with_reducible refine jX (zSB _ _) (j+1) ?_ ?_ ?_ ?_|refine qu ?_|refine qv ?_ ?_|exact zT)
 all_goals try first|refine qz ?_|apply qz5
 all_goals try simp only [qn0,yC,yA,ETy.dflt,Int.reduceToNat,Int.reduceAdd,Int.reduceSub,Int.reduceNeg,Nat.reduceAdd,zUx,zRl,zSG,zRV,zSB,zYi,zYU,tgT,tgP,zBX,zDT,zSK,zQ3,z0F,zVl,zRn] at *
 all_goals try (refine qh ?_;omega)
 all_goals try (rw [zVy (by assumption)];done)
 all_goals try (rw [zZY (by assumption)];(try rfl);done)
 all_goals try (have e:x=tris.length:=by omega)
 all_goals try subst e
 all_goals try (refine qh ?_;omega)
 all_goals try (rw [zVc (by assumption)];done)
 all_goals try (rw [zXC (by assumption)];done)
 all_goals try (rw [zZa (by assumption)];(try simp);done)
 all_goals try (have e:j=(zBL (enA l v tris tris.length) ((trl (tgT l (tgS (enA l v tris tris.length) l v (tris.getD 0 0) z))).getD k 0)).length:=by (unfold tgT;omega)
                subst e;rw [zZU (by assumption)];rfl)
 ·exact qh (h4 _ (zA5 (by omega)))
 ·have:=(zRu (zS1 l v tris x (by omega)) (zA5 (l:=tris) (j:=x) (by omega)) (v:=v) (t:=tri l (tris.getD x 0)) y ((trl (tri l (tris.getD x 0))).getD y 0)).1;refine jQ.intro ⟨?_,trivial⟩;unfold zB8;simp only [zZ,List.replicate_zero,List.length_nil];omega
 ·have e:y=3:=by omega
  subst e;rfl
 ·have:=zIT (tris:=tris) (x0:=tris.getD 0 0);refine qh ?_;show meas tris (0,[tris.getD 0 0],[(tris.getD 0 0,true)])<=_;omega
 all_goals
  have hE:=zS1 l v tris tris.length (zI _);obtain ⟨hS1,hS2⟩:=zXs hE (l:=l) (v:=v) (zA5 h5) z;have hS3:=zIT (tris:=tris) (x0:=tris.getD 0 0)
 ·exact qh (h4 _ (hS1.2.1 _ (zA5 (by omega))))
 ·have hP:=zPT hS1 (by omega);have hW:=zPE hE (v:=v) (t:=tgT l (tgS (enA l v tris tris.length) l v (tris.getD 0 0) z)) hP.1 k;have hV:=zSM hW.1 (hE ((trl (tgT l (tgS (enA l v tris tris.length) l v (tris.getD 0 0) z))).getD k 0)).2 j (by assumption);have hM:=qT hV.2 hW.2;have hL: ∀ S:TgS,S.2.1.length - S.1<=meas tris S:=fun S=>Nat.le_add_right _ _;have hN:=qT (hL _) hM;refine qh ?_;simp only [tgT,yA] at hN
  have hP2:=hP.2;simp only [yA] at hP2;omega
 all_goals try (have e:k=3:=by omega)
 all_goals try subst e
 all_goals try (rw [zSD (by omega)];done)
 ·have hP:=zPT hS1 (by omega);have hW:=zPE hE (v:=v) (t:=tri l ((tgS (enA l v tris tris.length) l v (tris.getD 0 0) z).2.1.getD (tgS (enA l v tris tris.length) l v (tris.getD 0 0) z).1 0)) hP.1 3;rw [<- zSD (by omega)] at hW;exact qh (by omega)
 ·have hP:=zPT hS1 (by omega);have hW:=zPE hE (v:=v) (t:=tri l ((tgS (enA l v tris tris.length) l v (tris.getD 0 0) z).2.1.getD (tgS (enA l v tris tris.length) l v (tris.getD 0 0) z).1 0)) hP.1 3;rw [<- zSD (by omega)] at hW;exact qh (by omega)
 ·have:=hS1.2.2;exact qh (by omega)
 ·have:=zKm (E:=enA l v tris tris.length) (l:=l) (v:=v) (x0:=tris.getD 0 0) (r:=z) (by omega) (2*tris.length+2 - z);rw [show z+(2*tris.length+2 - z)=2*tris.length+2 by omega] at this;rw [zRI,this]
attribute [irreducible] zRI
def z3J:List AV->Option Res:=zNd zAa (.int .i64) (.sl (.int .i64)) (fun s v tris=>some (none,some (z3L s.2 tris),.s (.bool (zRI s.2 v tris))))
theorem z0X:zAI prog 103 z3J:=mkR (zEI fun s v tris r h=>by cases h;exact fb (fn:=[]) trivial func103 fun _ h=>z1B s.1 v s.2 tris h) func103
end S1
namespace S1
def zV (t:P3) (v:Int):Prop:=t.1=v\/t.2.1=v\/t.2.2=v
def atP (s:List (List Int)) (w:Int) (j:Nat):List (List Int):=s.set w.toNat (s.getD w.toNat []++[(j:Int)])
def at3 (s:List (List Int)) (t:P3) (j:Nat):List (List Int):=atP (atP (atP s t.1 j) t.2.1 j) t.2.2 j
def atF (n:Nat) (l:List P3) (i:Nat):List (List Int):=jE (fun s j=>at3 s (l.getD j (0,0,0)) j) (List.replicate n []) i
def zZB (n c b:Nat) (s:List (List Int)):Prop:=s.length=n/\∀ v,(s.getD v []).length<=c/\∀ x∈s.getD v [],0<=x/\x<(b:Int)
theorem zBq (s:List (List Int)) (w:Int) (j v:Nat):(atP s w j).getD v []=if w.toNat=v/\v<s.length then s.getD v []++[(j:Int)] else s.getD v []:=by
 unfold atP;simp only [gdE,qI]
 by_cases h1:w.toNat=v
 ·subst h1
  by_cases h2:w.toNat<s.length
  ·simp [h2]
  ·simp [h2]
 ·simp [h1]
theorem zFH (s:List (List Int)) (w:Int) (j:Nat):(atP s w j).length=s.length:=by simp [atP]
theorem zMw {n c b:Nat} {s:List (List Int)} {w:Int} {j:Nat} (h:zZB n c b s) (hj:j<b):zZB n (c+1) b (atP s w j):=by
 refine ⟨by rw [zFH];exact h.1,fun v=> ?_⟩;rw [zBq];split
 ·have:=h.2 v;refine ⟨by rw [z7];simp only [List.length_singleton];omega,fun x hx=> ?_⟩;rw [zY,zD] at hx;rcases hx with hx|rfl
  ·exact this.2 x hx
  ·omega
 ·exact ⟨by have:=(h.2 v).1;omega,(h.2 v).2⟩
theorem zZB.more {n c b b':Nat} {s:List (List Int)} (h:zZB n c b s) (hb:b<=b'):zZB n c b' s :=
 ⟨h.1,fun v=>⟨(h.2 v).1,fun x hx=>by have:=(h.2 v).2 x hx;omega⟩⟩
theorem zP8 (n:Nat) (l:List P3) (i:Nat):zZB n (3*i) i (atF n l i) :=
 zAK (n:=i) (fun i (s:List (List Int))=>zZB n (3*i) i s) ⟨by simp,fun v=>by
  have:(List.replicate n ([]:List Int)).getD v []=[]:=by
   rw [gdE,yU];split<;>rfl
  rw [this];simp⟩ (fun i s _ h=>by
  have h:=h.more (Nat.le_succ i)
  exact zMw (zMw (zMw h (Nat.lt_succ_self i)) (Nat.lt_succ_self i)) (Nat.lt_succ_self i)) i (zI _)
theorem zPb {α:Type} {l:List α} {a:α} :l++[a]≠[]:=by simp
theorem zEh {s:List (List Int)} {w:Int} {j v:Nat} (h:s.getD v []≠[]):(atP s w j).getD v []≠[]:=by
 rw [zBq];split
 ·exact zPb
 ·exact h
theorem zZN {s:List (List Int)} {t:P3} {j v:Nat} (hv:v<s.length) (h:zV t v):(at3 s t j).getD v []≠[]:=by
 unfold at3;rcases h with h|h|h
 ·exact zEh (zEh (by rw [zBq,if_pos ⟨by omega,hv⟩];exact zPb))
 ·exact zEh (by rw [zBq,if_pos ⟨by omega,by rw [zFH];exact hv⟩];exact zPb)
 ·rw [zBq,if_pos ⟨by omega,by rw [zFH,zFH];exact hv⟩];exact zPb
theorem zMr (n:Nat) (l:List P3) {v:Nat} (hv:v<n): ∀ i,(∃ j,j<i/\zV (l.getD j (0,0,0)) v)->(atF n l i).getD v []≠[]
 | 0,⟨j,h,_⟩=>by omega
 | i+1,⟨j,hj,h⟩=>by
   show (at3 (atF n l i) (l.getD i (0,0,0)) i).getD v []≠[]
   by_cases e:j=i
   ·subst e;exact zZN (by rw [(zP8 n l j).1];exact hv) h
   ·exact zEh (zEh (zEh (zMr n l hv i ⟨j,by omega,h⟩)))
def z27 (s:Int×List P3):Prop:= ∀ v:Nat,(v:Int)<s.1->∃ j,j<s.2.length/\zV (s.2.getD j (0,0,0)) v
def piG (n:Nat) (l:List P3) (v:Nat):Option Wit:=if zRI l v ((atF n l l.length).getD v []) then none else some (6,(v:Int),0)
def piL (n:Nat) (l:List P3) (v:Nat):List Wit:=(List.range v).filterMap (piG n l)
theorem z31 {n:Nat} {l:List P3} {i:Nat} (h:zRI l i ((atF n l l.length).getD i [])=true):piL n l (i+1)=piL n l i:=by
 rw [piL,zBr,piG,if_pos h];simp [piL]
theorem z37 {n:Nat} {l:List P3} {i:Nat} (h:zRI l i ((atF n l l.length).getD i [])=false):piL n l (i+1)=piL n l i++[(6,(i:Int),0)]:=by
 rw [piL,zBr,piG,if_neg (by rw [h];simp)];rfl
theorem zYN (n:Nat) (l:List P3) (i:Nat):(piL n l i).length<=i:=zJd _ _
def zSe (s:Int×List P3):List Wit:=piL s.1.toNat s.2 s.1.toNat
def zRx (n:Nat) (l:List P3):Spec Nat where
 inv x:=x<=l.length
 live x:=[(17,.s (.int .i64 x))]
 keep:=[1,3,15,16]
 heap x:=[(2,.grow (.int .i64) 43 (atF n l x))]
 keepH:=[0]
 mu x:=l.length - x
def zSO (n:Nat) (l:List P3):Spec Nat where
 inv x:=x<=n
 live x:=[(40,.s (.int .i64 x)),(8,.s (.own 3 0 (piL n l x).length))]
 keep:=[1,3,38,39]
 heap x:=[(3,.row zCx 33 (piL n l x))]
 keepH:=[0,2]
 mu x:=n - x
theorem zVX (n:Int) (l:List P3) (hf:zLo (n,l)/\z27 (n,l)):zGL ⟨tyL,[(103,z3J)],[]⟩ f80 [zAa.av (n,l)] (fun v obs=>v= .s (.own 0 0 (zSe (n,l)).length)/\obs=[.row zCx 33 (zSe (n,l))]):=by
 obtain ⟨⟨h1,h2,h3,h4⟩,h5⟩:=hf
 repeat' (conv=>whnf
          first|done|refine qy ?_|refine qG fun _=> ?_|refine qw (fun _=> ?_) (fun _=> ?_)|apply qt|refine qi (fun _=> ?_) (fun _=> ?_)|(refine j6 3 rfl (zRx n.toNat l) (0) ?_ ?_ ?_ fun x hx=> ?_)|(refine zQr 6 rfl ?_;refine Or.inl (y5 (4) ?_))|with_reducible refine jX (zRx _ _) (x+1) ?_ ?_ ?_ ?_|(refine j6 13 rfl (zSO n.toNat l) (0) ?_ ?_ ?_ fun y hy=> ?_)|with_reducible refine jX (zSO _ _) (y+1) ?_ ?_ ?_ ?_|refine qu ?_|refine qv ?_ ?_|exact zT)
 all_goals try first|refine qz ?_|apply qz5
 all_goals try simp only [qn0,yC,yA,ETy.dflt,Int.reduceToNat,Int.reduceAdd,Int.reduceSub,Int.reduceNeg,Nat.reduceAdd,zRx,zSO] at *
 all_goals try (refine qh ?_;omega)
 all_goals try (have ht:=zBF (h4 x (by omega));refine qh ?_;(try simp only [zA4 h1]);omega)
 all_goals try rfl
 all_goals try
  (have ht:=zBF (h4 x (by omega))
   have hA:=zP8 n.toNat l x;have hA1:=zMw (w:=(l.getD x (0,0,0)).1) (hA.more (Nat.le_succ x)) (Nat.lt_succ_self x);have hA2:=zMw (w:=(l.getD x (0,0,0)).2.1) hA1 (Nat.lt_succ_self x)
   first
    | (have hB:=(hA.2 (l.getD x (0,0,0)).1.toNat).1
       exact qh ⟨by unfold zB8;simp only [zZ,List.replicate_zero,List.length_nil];omega,by omega,trivial⟩)
    | (have hB:=(hA1.2 (l.getD x (0,0,0)).2.1.toNat).1
       exact qh ⟨by unfold zB8;simp only [zZ,List.replicate_zero,List.length_nil];unfold atP at hB;omega,by omega,trivial⟩)
    | (have hB:=(hA2.2 (l.getD x (0,0,0)).2.2.toNat).1
       exact qh ⟨by unfold zB8;simp only [zZ,List.replicate_zero,List.length_nil];unfold atP at hB;omega,by omega,trivial⟩))
 all_goals try (have e:x=l.length:=by omega)
 all_goals try subst e
 all_goals try (refine qh ?_;have:=zYN n.toNat l y;(try simp only [List.length_singleton]);omega)
 all_goals try (rw [z31 (by assumption)];done)
 all_goals try (rw [z37 (by assumption)];(try simp);done)
 ·have hA:=zP8 n.toNat l l.length;exact qh ⟨h3,by have:=(hA.2 y).1;omega,zMr n.toNat l (by omega) l.length (h5 y (by omega)),(hA.2 y).2⟩
 all_goals (have e:y=n.toNat:=by omega
            subst e;rfl)
def zX1:List AV->Option zLe:=zGM zAa (fun s=>some (none,some (zLo s/\z27 s),.s (.own 0 0 (zSe s).length),[.row zCx 33 (zSe s)]))
theorem zVw:zEP prog 80 zX1:=zVC (zDa fun s r h=>by cases h;exact fbF (by exact ⟨z0X,trivial⟩) func80 fun _ h=>zVX s.1 s.2 h) func80
abbrev jF:ETy:= .int .i64
end S1
namespace Go.Vm
open Go.RowKit
section
variable {P:Program} {T:Tab} {B:Base} {w:World} {I:Sig} {M:yN} {st:St} {tmps:Array Value}
theorem zIc: ∀ (s:List Nat) (env:Env) (t:Nat),qQ (zJT s env) t= .junk\/(qQ (zJT s env) t=qQ env t/\zR4 t s=false)
 | s,[],t=> .inl rfl
 | s, (k,v)::r,t=>by
   simp only [zJT];split
   ·rename_i hm;rcases zIc s r t with h|⟨h,h2⟩
    ·exact .inl h
    ·by_cases e:k=t
     ·subst e;rw [hm] at h2;cases h2
     ·exact .inr ⟨by rw [h,j8,if_neg e],h2⟩
   ·rename_i hm;rw [j8,j8]
    by_cases e:k=t
    ·subst e;rw [if_pos rfl,if_pos rfl];cases v with
     | s a=>exact .inr ⟨rfl,hm⟩
     | agg l=>exact .inr ⟨rfl,hm⟩
     | tup l=>exact .inl rfl
    ·rw [if_neg e,if_neg e];rcases zIc (k::s) r t with h|⟨h,h2⟩
     ·exact .inl h
     ·refine .inr ⟨h,?_⟩;simp only [zR4] at h2;split at h2
      ·cases h2
      ·exact h2
theorem zK2 (h: ∀ t,qA I M (qQ st.env t) (tmps.getD t undef)) (t:Nat):qA I M (qQ (zJT [] st.env) t) (tmps.getD t undef):=by
 rcases zIc [] st.env t with e|⟨e,_⟩
 ·rw [e];trivial
 ·rw [e];exact h t
end
end Go.Vm
