/- A part of the proofs of the laws. -/
import Derived.Test.YtlhoihabllompaaGreatS1
import Derived.Test.YtlhoihabllompaaGreatVmFuntoVmKit
set_option linter.unusedSimpArgs false
set_option linter.unusedVariables false
set_option maxHeartbeats 8000000
set_option maxRecDepth 100000
open Go Go.Vm Go.Proofs
namespace S1
abbrev P3:=Int×Int×Int
abbrev qR:ETy:= .pair (.int .i64) (.sl .arr3)
abbrev zBY:ETy:= .pair (.int .i64) (.pair (.int .i64) (.int .i64))
abbrev Wit:=Int×Int×Int
def qM (P : Program) (f : Nat) (c : List AV → Option Res) : Prop := (∀ args r, c args = some r → zCr P f args r) ∧ ∃ fn, P.funcs[f]? = some fn ∧ (fn.name == "runtime.NumGoroutine") = false ∧ fn.body.isNone = false
theorem drop_at {α:Type} {l:List α} {i:Nat} (d:α) (h:i<l.length):l.drop i=l.getD i d::l.drop (i+1):=by
 rw [List.drop_eq_getElem_cons h];simp [gdE,h]
theorem zE3 {α:Type} {l:List α} {i:Nat} (h: ¬ (i:Int)<l.length):l.drop i=[]:=List.drop_eq_nil_of_le (by omega)
theorem zBM {α:Type} {l:List α} {i:Nat} (d:α) (h:(i:Int)<l.length):l.drop i=l.getD i d::l.drop (i+1):=drop_at d (by omega)
theorem qZ {α:Type _} (f:Nat->Option α) (i:Nat):(List.range (i+1)).filterMap f=(List.range i).filterMap f++(f i).toList:=by
 rw [List.range_succ,List.filterMap_append];rfl
theorem zCd {α:Type _} (f:Nat->Option α) (i:Nat):((List.range i).filterMap f).length<=i:=Nat.le_trans (List.length_filterMap_le _ _) (by simp)
def vIn (n v:Int):Bool:= !(decide (v<0)|| decide (v>=n))
def zCq (n:Int) (t:P3):Bool:=vIn n t.1&&(vIn n t.2.1&&vIn n t.2.2)
theorem zL1 {n v:Int} (h:vIn n v=true):0<=v/\v<n:=by simp [vIn] at h;omega
theorem zAE {n:Int} {t:P3} (h:zCq n t=true):(0<=t.1/\t.1<n)/\(0<=t.2.1/\t.2.1<n)/\(0<=t.2.2/\t.2.2<n):=by
 simp only [zCq,zC] at h;exact ⟨zL1 h.1,zL1 h.2.1,zL1 h.2.2⟩
theorem zPT {n:Int} {t:P3} (h:t.1<0\/t.1>=n\/t.2.1<0\/t.2.1>=n\/t.2.2<0\/t.2.2>=n):zCq n t=false:=by
 rw [<- Bool.not_eq_true];intro e;have:=zAE e;omega
theorem zGN {n:Int} {t:P3} (h: ¬ (t.1<0\/t.1>=n\/t.2.1<0\/t.2.1>=n\/t.2.2<0\/t.2.2>=n)):zCq n t=true:=by
 simp only [zCq,vIn,zC,Bool.not_eq_true',Bool.or_eq_false_iff,yP];omega
def qA {S:Type} (f:S->Nat->S) (s:S):Nat->S
 | 0=>s
 | i+1=>f (qA f s i) i
theorem zAQ {k:ETy} {V:Type} (v:V) (q:k.T): ∀ m:List (k.T×V),jS k (zAB k m q v) q=some v
 | []=>by
   simp only [zAB,jS];cases k.decT q q with
   | isTrue h=>rfl
   | isFalse h=>exact absurd rfl h
 | (x,y)::r=>by
   simp only [zAB];cases h1:k.decT x q with
   | isTrue h =>
     simp only [jS];cases k.decT x q with
     | isTrue h=>rfl
     | isFalse h2=>exact absurd h h2
   | isFalse h =>
     simp only [jS];cases k.decT x q with
     | isTrue h2=>exact absurd h2 h
     | isFalse h2=>exact zAQ v q r
theorem zA1 {k:ETy} {V:Type} (v:V) {q q':k.T} (hn:q≠q'): ∀ m:List (k.T×V),jS k (zAB k m q v) q'=jS k m q'
 | []=>by
   simp only [zAB,jS];cases k.decT q q' with
   | isTrue h=>exact absurd h hn
   | isFalse h=>rfl
 | (x,y)::r=>by
   simp only [zAB];cases h1:k.decT x q with
   | isTrue h =>
     simp only [jS];cases k.decT x q' with
     | isTrue h2=>exact absurd (h.symm.trans h2) hn
     | isFalse h=>rfl
   | isFalse h =>
     simp only [jS];cases k.decT x q' with
     | isTrue h2=>rfl
     | isFalse h2=>exact zA1 v hn r
theorem zCt {k:ETy} {V:Type} (v v':V) (q:k.T): ∀ m:List (k.T×V),zAB k (zAB k m q v) q v'=zAB k m q v'
 | []=>by
   simp only [zAB];cases k.decT q q with
   | isTrue h=>rfl
   | isFalse h=>exact absurd rfl h
 | (x,y)::r=>by
   simp only [zAB];cases h1:k.decT x q with
   | isTrue h=>simp only [zAB,h1]
   | isFalse h=>simp only [zAB,h1,zCt v v' q r]
def z5P (n:Int) (l:List P3) (i:Nat):Option Wit:=if zCq n (l.getD i (0,0,0)) then none else some (1,(i:Int),0)
def zH7 (n:Int) (l:List P3) (i:Nat):List Wit:=(List.range i).filterMap (z5P n l)
theorem z8c {n:Int} {l:List P3} {i:Nat} (h:zCq n (l.getD i (0,0,0))=true):zH7 n l (i+1)=zH7 n l i:=by
 rw [zH7,qZ,z5P,if_pos h];simp [zH7]
theorem z8C {n:Int} {l:List P3} {i:Nat} (h:zCq n (l.getD i (0,0,0))=false):zH7 n l (i+1)=zH7 n l i++[(1,(i:Int),0)]:=by
 rw [zH7,qZ,z5P,if_neg (by rw [h];simp)];rfl
def zGp (s:Int×List P3):Bool:=decide (s.1<0)|| (decide (s.1>4096)|| decide ((s.2.length:Int)>8192))
def jD (s:Int×List P3):List Wit:=if zGp s then [(1,-1,0)] else zH7 s.1 s.2 s.2.length
def zPd (n:Int) (l:List P3):Spec Nat where
 inv x:=x<=l.length
 live x:=[(27,.s (.int .i64 x)),(3,.s (.own 2 0 (zH7 n l x).length))]
 keep:=[1,25,26]
 heap x:=[(2,.row zBY 91 (zH7 n l x))]
 keepH:=[0]
 mu x:=l.length - x
theorem zKX {n:Int} {l:List P3} (h:n<0\/n>4096\/(l.length:Int)>8192):jD (n,l)=[(1,-1,0)]:=by
 have:zGp (n,l)=true:=by simp only [zGp,Bool.or_eq_true,zP];omega
 rw [jD,if_pos this]
theorem zOL {n:Int} {l:List P3} (h1: ¬ n<0) (h2: ¬ n>4096) (h3: ¬ (l.length:Int)>8192):jD (n,l)=zH7 n l l.length:=by
 have:zGp (n,l)=false:=by simp only [zGp,Bool.or_eq_false_iff,yP];omega
 rw [jD,if_neg (by simp [this])]
theorem zYl (n:Int) (l:List P3) (i:Nat):(zH7 n l i).length<=i:=zCd _ _
theorem zZk {fn} (n:Int) (l:List P3):zEu ⟨tyL,fn,[]⟩ Tryz.f160 [qR.av (n,l)] (fun v obs=>v= .s (.own 0 0 (jD (n,l)).length)/\obs=[.row zBY 91 (jD (n,l))]):=by
 repeat' (conv=>whnf
          first|done|refine qN (by first|rfl|omega|(simp only [yO] at *;omega)) ?_|apply qH|refine qG fun _=> ?_|apply qB|apply qa|apply qo|refine qe (fun _=> ?_) (fun _=> ?_)|refine qn (fun _=> ?_) (fun _=> ?_)|refine qd (fun _=> ?_) (fun _=> ?_)|apply qt|refine qi (fun _=> ?_) (fun _=> ?_)|(refine qS 5 rfl ?_;refine Or.inr (zB (Nat) (zB (zPd n l) (zA (zB (0) (zA (yJ.out ?_) (zA ?_ (zA ?_ rfl)))) (fun x hx=> ?_)))))|(refine qS 8 rfl ?_;refine Or.inl (zB (4) ?_))|((with_reducible show (∃ y,And (Spec.inv (zPd _ _) y) _));refine zB (x+1) (zA (yJ.out ?_) (zA (zA ?_ (zA ?_ rfl)) (yJ.out ?_))))|refine zA rfl ?_|apply qE|apply qO|exact zN|apply qq|apply qs|refine qK (by kernel_rfl) ?_|apply qr)
 all_goals try first|apply qz1|apply qz2|apply qz3|apply qz4|apply qz5|apply qz6|apply qz7|apply qz8|apply qz9|apply qz0
 all_goals try simp only [zZ,zR,yE,z6,qn1,zY,qn2,zX,ETy.dflt,qn3,qn4,Int.reduceToNat,Int.reduceAdd,Int.reduceSub,Int.reduceNeg,Nat.reduceAdd,zD,zPd] at *
 all_goals try (refine qh ?_;omega)
 all_goals try (refine qh ?_;have:=zYl n l x;(try simp only [List.length_singleton]);omega)
 all_goals try (rw [zKX (by omega)];done)
 all_goals try (rw [zKX (by omega)];rfl)
 all_goals try (rw [zOL (by assumption) (by assumption) (by assumption),show x=l.length by omega];done)
 all_goals try (rw [z8C (zPT (by omega))];(try simp);done)
 all_goals try (rw [z8c (zGN (by omega))];done)
def zWh:List AV->Option zKI:=zEv qR (fun s=>some (none,none,.s (.own 0 0 (jD s).length),[.row zBY 91 (jD s)]))
theorem z0m:zDB Tryz.prog 160 zWh:=⟨zCC fun s r h=>by cases h;exact zDc (yM (fn:=[]) (fr:=[]) trivial trivial) Tryz.func160 (by kernel_rfl) fun _ _=>zZk s.1 s.2,_,Tryz.func160,by kernel_rfl,by kernel_rfl⟩
end S1
open Go Go.Vm Go.Proofs
namespace S1
@[irreducible] def zM2 (t:P3):Bool:=t.1==t.2.1|| (t.2.1==t.2.2|| t.2.2==t.1)
theorem zUq {t:P3} (h:t.1=t.2.1\/t.2.1=t.2.2\/t.2.2=t.1):zM2 t=true:=by
 simp only [zM2,Bool.or_eq_true,beq_iff_eq];exact h
theorem zYt {t:P3} (h: ¬ (t.1=t.2.1\/t.2.1=t.2.2\/t.2.2=t.1)):zM2 t=false:=by
 rw [<- Bool.not_eq_true];intro e;apply h;simpa only [zM2,Bool.or_eq_true,beq_iff_eq] using e
def dgG (l:List P3) (i:Nat):Option Wit:=if zM2 (l.getD i (0,0,0)) then some (2,(i:Int),0) else none
def dgL (l:List P3) (i:Nat):List Wit:=(List.range i).filterMap (dgG l)
theorem z8g {l:List P3} {i:Nat} (h:zM2 (l.getD i (0,0,0))=true):dgL l (i+1)=dgL l i++[(2,(i:Int),0)]:=by
 rw [dgL,qZ,dgG,if_pos h];rfl
theorem z8b {l:List P3} {i:Nat} (h:zM2 (l.getD i (0,0,0))=false):dgL l (i+1)=dgL l i:=by
 rw [dgL,qZ,dgG,if_neg (by rw [h];simp)];simp [dgL]
theorem z3q (l:List P3) (i:Nat):(dgL l i).length<=i:=zCd _ _
def z3o (l:List P3):Spec Nat where
 inv x:=x<=l.length
 live x:=[(9,.s (.int .i64 x)),(3,.s (.own 2 0 (dgL l x).length))]
 keep:=[1,7,8]
 heap x:=[(2,.row zBY 91 (dgL l x))]
 keepH:=[0]
 mu x:=l.length - x
theorem z3h {fn} (n:Int) (l:List P3) (hb:l.length<=8192):zEu ⟨tyL,fn,[]⟩ Tryz.f161 [qR.av (n,l)] (fun v obs=>v= .s (.own 0 0 (dgL l l.length).length)/\obs=[.row zBY 91 (dgL l l.length)]):=by
 repeat' (conv=>whnf
          first|done|refine qN (by first|rfl|omega|(simp only [yO] at *;omega)) ?_|apply qH|refine qG fun _=> ?_|apply qB|apply qa|apply qo|refine qe (fun _=> ?_) (fun _=> ?_)|refine qn (fun _=> ?_) (fun _=> ?_)|refine qd (fun _=> ?_) (fun _=> ?_)|apply qt|refine qi (fun _=> ?_) (fun _=> ?_)|(refine qS 3 rfl ?_;refine Or.inr (zB (Nat) (zB (z3o l) (zA (zB (0) (zA (yJ.out ?_) (zA ?_ (zA ?_ rfl)))) (fun x hx=> ?_)))))|((with_reducible show (∃ y,And (Spec.inv (z3o _) y) _));refine zB (x+1) (zA (yJ.out ?_) (zA (zA ?_ (zA ?_ rfl)) (yJ.out ?_))))|refine zA rfl ?_|apply qE|apply qO|exact zN|apply qq|apply qs|refine qK (by kernel_rfl) ?_|apply qr)
 all_goals try first|apply qz1|apply qz2|apply qz3|apply qz4|apply qz5|apply qz6|apply qz7|apply qz8|apply qz9|apply qz0
 all_goals try simp only [zZ,zR,yE,z6,qn1,zY,qn2,zX,ETy.dflt,qn3,qn4,Int.reduceToNat,Int.reduceAdd,Int.reduceSub,Int.reduceNeg,Nat.reduceAdd,zD,z3o] at *
 all_goals try (refine qh ?_;omega)
 all_goals try (refine qh ?_;have:=z3q l x;(try simp only [List.length_singleton]);omega)
 all_goals try (rw [z8g (zUq (by omega))];(try simp);done)
 all_goals try (rw [z8b (zYt (by omega))];done)
 all_goals (rw [show x=l.length by omega];done)
def z2p:List AV->Option zKI:=zEv qR (fun s=>some (none,some (s.2.length<=8192),.s (.own 0 0 (dgL s.2 s.2.length).length),[.row zBY 91 (dgL s.2 s.2.length)]))
theorem z2Z:zDB Tryz.prog 161 z2p:=⟨zCC fun s r h=>by cases h;exact zDc (yM (fn:=[]) (fr:=[]) trivial trivial) Tryz.func161 (by kernel_rfl) fun _ h=>z3h s.1 s.2 h,_,Tryz.func161,by kernel_rfl,by kernel_rfl⟩
def zNA (s:List Bool) (t:P3):List Bool:=((s.set t.1.toNat true).set t.2.1.toNat true).set t.2.2.toNat true
def zCe (n:Nat) (l:List P3) (i:Nat):List Bool:=qA (fun s j=>zNA s (l.getD j (0,0,0))) (List.replicate n false) i
theorem zK2 (n:Nat) (l:List P3): ∀ i,(zCe n l i).length=n
 | 0=>by simp [zCe,qA]
 | i+1=>by
   have:=zK2 n l i;unfold zCe at this ⊢;simp only [qA,zNA,List.length_set];exact this
def loG (s:List Bool) (v:Nat):Option Wit:=if s.getD v false then none else some (5,(v:Int),0)
def loL (s:List Bool) (v:Nat):List Wit:=(List.range v).filterMap (loG s)
theorem z88 {s:List Bool} {i:Nat} (h:s.getD i false=true):loL s (i+1)=loL s i:=by
 rw [loL,qZ,loG,if_pos h];simp [loL]
theorem z82 {s:List Bool} {i:Nat} (h:s.getD i false=false):loL s (i+1)=loL s i++[(5,(i:Int),0)]:=by
 rw [loL,qZ,loG,if_neg (by rw [h];simp)];rfl
theorem z3X (s:List Bool) (i:Nat):(loL s i).length<=i:=zCd _ _
def zYE (n:Nat) (l:List P3):Spec Nat where
 inv x:=x<=l.length
 live x:=[(17,.s (.int .i64 x))]
 keep:=[1,3,15,16]
 heap x:=[(2,.row .bool 4 (zCe n l x))]
 keepH:=[0]
 mu x:=l.length - x
def zWO (n:Nat) (s:List Bool):Spec Nat where
 inv x:=x<=n
 live x:=[(32,.s (.int .i64 x)),(8,.s (.own 3 0 (loL s x).length))]
 keep:=[1,3,30,31]
 heap x:=[(3,.row zBY 91 (loL s x))]
 keepH:=[0,2]
 mu x:=n - x
def zHQ (s:Int×List P3):List Wit:=loL (zCe s.1.toNat s.2 s.2.length) s.1.toNat
def zLh (s:Int×List P3):Prop:=0<=s.1/\s.1<=4096/\s.2.length<=8192/\∀ i,i<s.2.length->zCq s.1 (s.2.getD i (0,0,0))=true
theorem zYD {fn} (n:Int) (l:List P3) (hf:zLh (n,l)):zEu ⟨tyL,fn,[]⟩ Tryz.f164 [qR.av (n,l)] (fun v obs=>v= .s (.own 0 0 (zHQ (n,l)).length)/\obs=[.row zBY 91 (zHQ (n,l))]):=by
 obtain ⟨h1,h2,h3,h4⟩:=hf
 repeat' (conv=>whnf
          first|done|refine qN (by first|rfl|omega|(simp only [yO] at *;omega)) ?_|apply qH|refine qG fun _=> ?_|apply qB|apply qa|apply qo|refine qe (fun _=> ?_) (fun _=> ?_)|refine qn (fun _=> ?_) (fun _=> ?_)|refine qd (fun _=> ?_) (fun _=> ?_)|apply qt|refine qi (fun _=> ?_) (fun _=> ?_)|(refine qS 3 rfl ?_;refine Or.inr (zB (Nat) (zB (zYE n.toNat l) (zA (zB (0) (zA (yJ.out ?_) (zA ?_ (zA ?_ rfl)))) (fun x hx=> ?_)))))|(refine qS 6 rfl ?_;refine Or.inl (zB (4) ?_))|((with_reducible show (∃ y,And (Spec.inv (zYE _ _) y) _));refine zB (x+1) (zA (yJ.out ?_) (zA (zA ?_ (zA ?_ rfl)) (yJ.out ?_))))|(refine qS 13 rfl ?_;refine Or.inr (zB (Nat) (zB (zWO n.toNat (zCe n.toNat l l.length)) (zA (zB (0) (zA (yJ.out ?_) (zA ?_ (zA ?_ rfl)))) (fun y hy=> ?_)))))|((with_reducible show (∃ y,And (Spec.inv (zWO _ _) y) _));refine zB (y+1) (zA (yJ.out ?_) (zA (zA ?_ (zA ?_ rfl)) (yJ.out ?_))))|refine zA rfl ?_|apply qE|apply qO|exact zN|apply qq|apply qs|refine qK (by kernel_rfl) ?_|apply qr)
 all_goals try first|apply qz1|apply qz2|apply qz3|apply qz4|apply qz5|apply qz6|apply qz7|apply qz8|apply qz9|apply qz0
 all_goals try simp only [zZ,zR,yE,z6,qn1,zY,qn2,zX,ETy.dflt,qn3,qn4,Int.reduceToNat,Int.reduceAdd,Int.reduceSub,Int.reduceNeg,Nat.reduceAdd,zD,zYE,zWO] at *
 all_goals try (refine qh ?_;omega)
 all_goals try (have ht:=zAE (h4 x (by omega));refine qh ?_;(try simp only [zAZ h1]);omega)
 all_goals try (have e:x=l.length:=by omega)
 all_goals try subst e
 all_goals try (refine qh ?_;have:=z3X (zCe n.toNat l l.length) y;(try simp only [List.length_singleton]);omega)
 all_goals try (rw [z88 (by assumption)];done)
 all_goals try (rw [z82 (by assumption)];(try simp);done)
 all_goals try rfl
 all_goals (have e:y=n.toNat:=by omega
            subst e;rfl)
def zPu:List AV->Option zKI:=zEv qR (fun s=>some (none,some (zLh s),.s (.own 0 0 (zHQ s).length),[.row zBY 91 (zHQ s)]))
theorem zXJ:zDB Tryz.prog 164 zPu:=⟨zCC fun s r h=>by cases h;exact zDc (yM (fn:=[]) (fr:=[]) trivial trivial) Tryz.func164 (by kernel_rfl) fun _ h=>zYD s.1 s.2 h,_,Tryz.func164,by kernel_rfl,by kernel_rfl⟩
end S1
open Go Go.Vm Go.Proofs
namespace S1
theorem qX {S:Type} {f:S->Nat->S} {s:S} (P:Nat->S->Prop) (h0:P 0 s) {n:Nat} (hs: ∀ i s,i<n->P i s->P (i+1) (f s i)): ∀ i,i<=n->P i (qA f s i)
 | 0,_=>h0
 | i+1,h=>hs i _ (by omega) (qX P h0 hs i (by omega))
def qP (t:P3):List P3:=[(t.1,t.2.1,0),(t.2.1,t.2.2,0),(t.2.2,t.1,0)]
theorem zWQ {fn} (t:P3):zAG ⟨tyL,fn,[]⟩ Tryz.f180 [ETy.arr3.av t] (fun v=>v= .s (.sl .arr3 (qP t))):=by
 repeat' (conv=>whnf
          first|done|refine qN (by first|rfl|omega|(simp only [yO] at *;omega)) ?_|apply qH|refine qG fun _=> ?_|apply qB|apply qa|apply qo|refine qe (fun _=> ?_) (fun _=> ?_)|refine qn (fun _=> ?_) (fun _=> ?_)|refine qd (fun _=> ?_) (fun _=> ?_)|apply qt|refine qi (fun _=> ?_) (fun _=> ?_)|refine zA rfl ?_|apply qE|apply qO|exact zN|apply qq|apply qs|refine qK (by kernel_rfl) ?_|apply qr)
 all_goals try first|apply qz1|apply qz2|apply qz3|apply qz4|apply qz5|apply qz6|apply qz7|apply qz8|apply qz9|apply qz0
 all_goals try simp only [zZ,zR,yE,z6,qn1,zY,qn2,zX,ETy.dflt,qn3,qn4,Int.reduceToNat,Int.reduceAdd,Int.reduceSub,Int.reduceNeg,Nat.reduceAdd,zD,qP] at *
 rfl
def zQP:List AV->Option Res:=zEv .arr3 (fun t=>some (none,none,.s (.sl .arr3 (qP t))))
theorem zUl:qM Tryz.prog 180 zQP:=⟨zAW fun t r h=>by cases h;exact qL (yM (fn:=[]) (fr:=[]) trivial trivial) Tryz.func180 (by kernel_rfl) fun _ _=>zWQ t,_,Tryz.func180,by kernel_rfl,by kernel_rfl⟩
abbrev zJL:=List (ETy.arr3.T×List Int)
abbrev z80:=List (ETy.arr2.T×ETy.bool.T)
abbrev PS:=z80×List Wit
def prA (kind:Int) (i:Nat) (av:List Int) (s:PS) (j:Nat):PS :=
 match (jS .arr2 s.1 (av.getD j 0,(i:Int))).getD false with
 | true=>s
 | false=>(zAB .arr2 s.1 (av.getD j 0,(i:Int)) true,s.2++[(kind,av.getD j 0,(i:Int))])
def zAI (h:zJL) (k:P3):List Int:=(jS .arr3 h k).getD []
def prK (kind:Int) (i:Nat) (ks:List P3) (s:zJL×PS) (m:Nat):zJL×PS :=
 (zAB .arr3 s.1 (ks.getD m (0,0,0)) (zAI s.1 (ks.getD m (0,0,0))++[(i:Int)]),qA (prA kind i (zAI s.1 (ks.getD m (0,0,0)))) s.2 (zAI s.1 (ks.getD m (0,0,0))).length)
def prI (kp:P3->List P3) (kind:Int) (l:List P3) (s:zJL×PS) (i:Nat):zJL×PS:=qA (prK kind i (kp (l.getD i (0,0,0)))) s (kp (l.getD i (0,0,0))).length
def prS (kp:P3->List P3) (kind:Int) (l:List P3) (i:Nat):zJL×PS:=qA (prI kp kind l) ([],[],[]) i
theorem zO1 (h:zJL) (k:P3):Option.getD (jS .arr3 h k) []=zAI h k:=rfl
theorem zK1 (h:zJL) (k:P3) (v:List Int):zAI (zAB .arr3 h k v) k=v:=by rw [zAI,zAQ];rfl
theorem z8o {kind:Int} {i:Nat} {av:List Int} {s:PS} {j:Nat} (h:(jS .arr2 s.1 (av.getD j 0,(i:Int))).getD false=true):qA (prA kind i av) s 0=s/\prA kind i av s j=s:=by
 refine ⟨rfl,?_⟩;unfold prA;rw [h]
theorem z8R {kind:Int} {i:Nat} {av:List Int} {s:PS} {j:Nat} (h:(jS .arr2 s.1 (av.getD j 0,(i:Int))).getD false=false) :
 prA kind i av s j=(zAB .arr2 s.1 (av.getD j 0,(i:Int)) true,s.2++[(kind,av.getD j 0,(i:Int))]):=by
 unfold prA;rw [h]
theorem zSD {kind:Int} {i:Nat} {av:List Int} {s:PS} {z:Nat} (h:(jS .arr2 (qA (prA kind i av) s z).1 (av.getD z 0,(i:Int))).getD false=true):qA (prA kind i av) s (z+1)=qA (prA kind i av) s z:=(z8o h).2
theorem zUj {kind:Int} {i:Nat} {av:List Int} {s:PS} {z:Nat} (h:(jS .arr2 (qA (prA kind i av) s z).1 (av.getD z 0,(i:Int))).getD false=false) :
 qA (prA kind i av) s (z+1)=(zAB .arr2 (qA (prA kind i av) s z).1 (av.getD z 0,(i:Int)) true,(qA (prA kind i av) s z).2++[(kind,av.getD z 0,(i:Int))]):=z8R h
theorem z59 (kind:Int) (i:Nat) (av:List Int) (s:PS) (j:Nat):(prA kind i av s j).2.length<=s.2.length+1:=by
 unfold prA;split
 ·omega
 ·simp
theorem zOo (kind:Int) (i:Nat) (av:List Int) (s:PS) (j:Nat):(qA (prA kind i av) s j).2.length<=s.2.length+j :=
 qX (n:=j) (fun j (t:PS)=>t.2.length<=s.2.length+j) (by simp) (fun j t _ h=>Nat.le_trans (z59 _ _ _ _ _) (by omega)) j (zI _)
def zOv (c b:Nat) (s:zJL×PS):Prop:=(∀ k,(zAI s.1 k).length<=c)/\s.2.2.length<=b
theorem zEZ (h:zJL) (k:P3) (v:List Int) (k':P3):zAI (zAB .arr3 h k v) k'=if k=k' then v else zAI h k':=by
 unfold zAI;split
 ·rename_i e;subst e;rw [zAQ];rfl
 ·rename_i e;rw [zA1 _ e]
theorem z5h {kind:Int} {i c b:Nat} {ks:List P3} {s:zJL×PS} {m:Nat} (h:zOv c b s):zOv (c+1) (b+c) (prK kind i ks s m):=by
 refine ⟨fun k=> ?_,?_⟩
 ·show (zAI (zAB .arr3 s.1 _ _) k).length<=_;rw [zEZ];split
  ·have:=h.1 (ks.getD m (0,0,0));rw [zO];simp only [List.length_singleton];omega
  ·have:=h.1 k;omega
 ·have:=zOo kind i (zAI s.1 (ks.getD m (0,0,0))) s.2 (zAI s.1 (ks.getD m (0,0,0))).length;have:=h.1 (ks.getD m (0,0,0));have:=h.2;show (qA (prA kind i (zAI s.1 (ks.getD m (0,0,0)))) s.2 (zAI s.1 (ks.getD m (0,0,0))).length).2.length<=_;omega
theorem zOq {kind:Int} {i:Nat} {ks:List P3} {c b:Nat} {s:zJL×PS} (h:zOv c b s) (hk:ks.length<=3): ∀ m,m<=ks.length->zOv (c+m) (b+m*(c+3)) (qA (prK kind i ks) s m) :=
 qX (fun m (t:zJL×PS)=>zOv (c+m) (b+m*(c+3)) t) (by simpa using h) fun m t hm ht=>by
  have:=z5h (kind:=kind) (i:=i) (ks:=ks) (m:=m) ht;refine ⟨fun k=>Nat.le_trans (this.1 k) (by omega),Nat.le_trans this.2 ?_⟩;rw [Nat.succ_mul];omega
theorem z1p (kp:P3->List P3) (hk: ∀ t,(kp t).length<=3) (kind:Int) (l:List P3) (i:Nat) (hi:i<=8192):zOv (3*i) (i*73737) (prS kp kind l i) :=
 qX (n:=8192) (fun i t=>zOv (3*i) (i*73737) t) ⟨fun k=>by simp [zAI,jS],by simp⟩ (fun i t hi h=>by
  have h1:=zOq (kind:=kind) (i:=i) h (hk (l.getD i (0,0,0))) _ (zI _);have h3:=hk (l.getD i (0,0,0));have h4:(kp (l.getD i (0,0,0))).length*(3*i+3)<=3*(3*i+3):=Nat.mul_le_mul_right _ h3
  exact ⟨fun k=>Nat.le_trans (h1.1 k) (by omega),Nat.le_trans h1.2 (Nat.le_trans (Nat.add_le_add_left h4 _) (by omega))⟩) i hi
def zEw (kp:P3->List P3) (kind:Int) (l:List P3):Spec Nat where
 inv x:=x<=l.length
 live x:=[(22,.s (.int .i64 x)),(7,.s (.own 2 0 (prS kp kind l x).2.2.length))]
 keep:=[1,2,3,8,9,20,21]
 heap x:=[(2,.row zBY 91 (prS kp kind l x).2.2),(3,.gmap .arr3 (.int .i64) (prS kp kind l x).1),(4,.map .arr2 .bool (prS kp kind l x).2.1)]
 keepH:=[0]
 mu x:=l.length - x
def zEz (kind:Int) (i:Nat) (ks:List P3) (s:zJL×PS):Spec Nat where
 inv x:=x<=ks.length
 live x:=[(31,.s (.int .i64 x)),(7,.s (.own 2 0 (qA (prK kind i ks) s x).2.2.length))]
 keep:=[1,2,3,8,9,10,11,20,21,22,29,30]
 heap x:=[(2,.row zBY 91 (qA (prK kind i ks) s x).2.2),(3,.gmap .arr3 (.int .i64) (qA (prK kind i ks) s x).1),(4,.map .arr2 .bool (qA (prK kind i ks) s x).2.1)]
 keepH:=[0,5]
 mu x:=ks.length - x
def zKS (kind:Int) (i:Nat) (av:List Int) (s:PS):Spec Nat where
 inv x:=x<=av.length
 live x:=[(39,.s (.int .i64 x)),(7,.s (.own 2 0 (qA (prA kind i av) s x).2.length))]
 keep:=[1,2,3,8,9,10,11,13,20,21,22,29,30,31,37,38]
 heap x:=[(2,.row zBY 91 (qA (prA kind i av) s x).2),(4,.map .arr2 .bool (qA (prA kind i av) s x).1)]
 keepH:=[0,3,5,6]
 mu x:=av.length - x
theorem zSc (n kind:Int) (l:List P3) (hb:l.length<=8192):zEu ⟨tyL,[(180,zQP)],[]⟩ Tryz.f179 [qR.av (n,l),(ETy.int .i64).av kind,ETy.fnc.av (some 180)] (fun v obs=>v= .s (.own 0 0 (prS qP kind l l.length).2.2.length)/\obs=[.row zBY 91 (prS qP kind l l.length).2.2]):=by
 have hS:=fun x (h:x<=8192)=>z1p qP (fun _=>zI 3) kind l x h
 repeat' (conv=>whnf
          first|done|refine qN (by first|rfl|omega|(simp only [yO] at *;omega)) ?_|apply qH|refine qG fun _=> ?_|apply qB|apply qa|apply qo|refine qe (fun _=> ?_) (fun _=> ?_)|refine qn (fun _=> ?_) (fun _=> ?_)|refine qd (fun _=> ?_) (fun _=> ?_)|apply qt|refine qi (fun _=> ?_) (fun _=> ?_)|(refine qS 5 rfl ?_;refine Or.inr (zB (Nat) (zB (zEw qP kind l) (zA (zB (0) (zA (yJ.out ?_) (zA ?_ (zA ?_ rfl)))) (fun x hx=> ?_)))))|((with_reducible show (∃ y,And (Spec.inv (zEw _ _ _) y) _));refine zB (x+1) (zA (yJ.out ?_) (zA (zA ?_ (zA ?_ rfl)) (yJ.out ?_))))|(refine qS 8 rfl ?_;refine Or.inr (zB (Nat) (zB (zEz kind x (qP (l.getD x (0,0,0))) (prS qP kind l x)) (zA (zB (0) (zA (yJ.out ?_) (zA ?_ (zA ?_ rfl)))) (fun y hy=> ?_)))))|((with_reducible show (∃ y,And (Spec.inv (zEz _ _ _ _) y) _));refine zB (y+1) (zA (yJ.out ?_) (zA (zA ?_ (zA ?_ rfl)) (yJ.out ?_))))|(refine qS 11 rfl ?_;refine Or.inr (zB (Nat) (zB (zKS kind x (zAI (qA (prK kind x (qP (l.getD x (0,0,0)))) (prS qP kind l x) y).1 ((qP (l.getD x (0,0,0))).getD y (0,0,0))) (qA (prK kind x (qP (l.getD x (0,0,0)))) (prS qP kind l x) y).2) (zA (zB (0) (zA (yJ.out ?_) (zA ?_ (zA ?_ rfl)))) (fun z hz=> ?_)))))|((with_reducible show (∃ y,And (Spec.inv (zKS _ _ _ _) y) _));refine zB (z+1) (zA (yJ.out ?_) (zA (zA ?_ (zA ?_ rfl)) (yJ.out ?_))))|refine zA rfl ?_|apply qE|apply qO|exact zN|apply qq|apply qs|refine qK (by kernel_rfl) ?_|apply qr)
 all_goals try first|apply qz1|apply qz2|apply qz3|apply qz4|apply qz5|apply qz6|apply qz7|apply qz8|apply qz9|apply qz0
 all_goals try simp only [zZ,zR,yE,z6,qn1,zY,qn2,zX,ETy.dflt,qn3,qn4,Int.reduceToNat,Int.reduceAdd,Int.reduceSub,Int.reduceNeg,Nat.reduceAdd,zD,zEw,zEz,zKS,zCt,zO1,zK1] at *
 all_goals try (refine qh ?_;omega)
 all_goals try (rw [zSD (by assumption)];done)
 all_goals try (rw [zUj (by assumption)];(try simp);done)
 all_goals try first
  | (have e:z=(zAI (qA (prK kind x (qP (l.getD x (0,0,0)))) (prS qP kind l x) y).1 ((qP (l.getD x (0,0,0))).getD y (0,0,0))).length:=by omega
     subst e;first|rfl|(rw [zCt,zAQ];rfl))
  | (have e:y=(qP (l.getD x (0,0,0))).length:=by omega
     subst e;rfl)
  | (have e:x=l.length:=by omega
     subst e;rfl)
 all_goals
  have hB:=zOq (kind:=kind) (i:=x) (ks:=qP (l.getD x (0,0,0))) (hS x (by omega)) (zI 3) y (by omega);have h1:=hB.1 ((qP (l.getD x (0,0,0))).getD y (0,0,0));have h2:=hB.2;have h3:=zOo kind x (zAI (qA (prK kind x (qP (l.getD x (0,0,0)))) (prS qP kind l x) y).1 ((qP (l.getD x (0,0,0))).getD y (0,0,0))) (qA (prK kind x (qP (l.getD x (0,0,0)))) (prS qP kind l x) y).2 z;have h4:y<=3:=hy;have h5:y*(3*x+3)<=3*(3*x+3):=Nat.mul_le_mul_right _ h4
  refine qh ?_;generalize y*(3*x+3)=q at *
 ·omega
 ·unfold zBS;simp only [z8,List.take_zero,List.length_nil];omega
def zKh:List AV->Option zKI:=zOb qR (.int .i64) .fnc (fun s kind f=>match f with
 | some 180=>some (none,some (s.2.length<=8192),.s (.own 0 0 (prS qP kind s.2 s.2.length).2.2.length),[.row zBY 91 (prS qP kind s.2 s.2.length).2.2])
 | _=>none)
end S1
open Go Go.Vm Go.Proofs
namespace S1
abbrev zC3:=List ((ETy.int .i64).T×List Int)
abbrev ReM:=List ((ETy.int .i64).T×ETy.bool.T)
def zAt (m:zC3) (w:Int):List Int:=(jS (.int .i64) m w).getD []
theorem zVo (m:zC3) (w:Int):(jS (.int .i64) m w).getD []=zAt m w:=rfl
theorem zET (h:zC3) (k:Int) (v:List Int) (k':Int):zAt (zAB (.int .i64) h k v) k'=if k=k' then v else zAt h k':=by
 unfold zAt;split
 ·rename_i e;subst e;rw [zAQ];rfl
 ·rename_i e;rw [zA1 _ e]
theorem zS4 (h:zC3) (k:Int) (v:List Int):zAt (zAB (.int .i64) h k v) k=v:=by rw [zET,if_pos rfl]
def trl (t:P3):List Int:=[t.1,t.2.1,t.2.2]
def tri (l:List P3) (i:Int):P3:=l.getD i.toNat (0,0,0)
theorem z4Q (t:P3):[t.1,t.2.1,t.2.2]=trl t:=rfl
theorem z3C (l:List P3) (i:Int):l.getD i.toNat (0,0,0)=tri l i:=rfl
def enW (v i:Int) (t:P3) (m:zC3) (k:Nat):zC3:=if (trl t).getD k 0=v then m else zAB (.int .i64) m ((trl t).getD k 0) (zAt m ((trl t).getD k 0)++[i])
def enT (l:List P3) (v:Int) (tris:List Int) (m:zC3) (j:Nat):zC3:=qA (enW v (tris.getD j 0) (tri l (tris.getD j 0))) m 3
def enA (l:List P3) (v:Int) (tris:List Int) (j:Nat):zC3:=qA (enT l v tris) [] j
theorem z0Y {v i:Int} {t:P3} {m:zC3} {k:Nat} (h:(trl t).getD k 0=v):qA (enW v i t) m (k+1)=qA (enW v i t) m k:=by
 show enW v i t (qA (enW v i t) m k) k=_;rw [enW,if_pos h]
theorem z5B {v i:Int} {t:P3} {m:zC3} {k:Nat} (h:(trl t).getD k 0≠v):qA (enW v i t) m (k+1)=zAB (.int .i64) (qA (enW v i t) m k) ((trl t).getD k 0) (zAt (qA (enW v i t) m k) ((trl t).getD k 0)++[i]):=by
 show enW v i t (qA (enW v i t) m k) k=_;rw [enW,if_neg h]
def zVR (tris:List Int) (c:Nat) (m:zC3):Prop:= ∀ w,(zAt m w).length<=c/\∀ x∈zAt m w,x∈tris
theorem z7P {v i:Int} {t:P3} {tris:List Int} {c:Nat} {m:zC3} {k:Nat} (h:zVR tris c m) (hi:i∈tris):zVR tris (c+1) (enW v i t m k):=by
 intro w;unfold enW;split
 ·exact ⟨by have:=(h w).1;omega,(h w).2⟩
 ·rw [zET];split
  ·have:=h ((trl t).getD k 0);refine ⟨by rw [zO];simp only [List.length_singleton];omega,fun x hx=> ?_⟩;rw [yC,zF] at hx;rcases hx with hx|rfl
   ·exact this.2 x hx
   ·exact hi
  ·exact ⟨by have:=(h w).1;omega,(h w).2⟩
theorem zUK {v i:Int} {t:P3} {tris:List Int} {c:Nat} {m:zC3} (h:zVR tris c m) (hi:i∈tris) (k:Nat):zVR tris (c+k) (qA (enW v i t) m k) :=
 qX (n:=k) (fun k (m:zC3)=>zVR tris (c+k) m) h (fun k _ _ hm=>z7P (k:=k) hm hi) k (zI _)
theorem jA {l:List Int} {j:Nat} (h:j<l.length):l.getD j 0∈l:=by
 rw [gdE,gE h];exact yU h
theorem zWI (l:List P3) (v:Int) (tris:List Int): ∀ j,j<=tris.length->zVR tris (3*j) (enA l v tris j) :=
 qX (fun j (m:zC3)=>zVR tris (3*j) m) (fun w=>⟨by simp [zAt,jS],by simp [zAt,jS]⟩) fun j m hj h=>zUK h (jA hj) 3
abbrev TgS:=Nat×List Int×ReM
def had (m:ReM) (k:Int):Bool:=(jS (.int .i64) m k).getD false
theorem z3m (m:ReM) (k:Int):(jS (.int .i64) m k).getD false=had m k:=rfl
theorem zZy (m:ReM) (k:Int): @Option.getD Bool (@jS (.int .i64) Bool m k) false=had m k:=rfl
theorem zFF (m:ReM) (k k':Int):had (zAB (.int .i64) m k true) k'=if k=k' then true else had m k':=by
 unfold had;split
 ·rename_i e;subst e;rw [zAQ];rfl
 ·rename_i e;rw [zA1 _ e]
def vis (av:List Int) (S:TgS) (j:Nat):TgS:=if had S.2.2 (av.getD j 0)=true then S else (0,S.2.1.drop S.1++[av.getD j 0],zAB (.int .i64) S.2.2 (av.getD j 0) true)
theorem zYn {av:List Int} {S:TgS} {j:Nat} (h:had (qA (vis av) S j).2.2 (av.getD j 0)=true):qA (vis av) S (j+1)=qA (vis av) S j:=by
 show vis av (qA (vis av) S j) j=_;rw [vis,if_pos h]
theorem z33 {av:List Int} {S:TgS} {j:Nat} (h:had (qA (vis av) S j).2.2 (av.getD j 0)=false) :
 qA (vis av) S (j+1)=(0,(qA (vis av) S j).2.1.drop (qA (vis av) S j).1++[av.getD j 0],zAB (.int .i64) (qA (vis av) S j).2.2 (av.getD j 0) true):=by
 show vis av (qA (vis av) S j) j=_;rw [vis,if_neg (by rw [h];simp)]
def tgW (E:zC3) (v:Int) (t:P3) (S:TgS) (k:Nat):TgS:=if (trl t).getD k 0=v then S else qA (vis (zAt E ((trl t).getD k 0))) S (zAt E ((trl t).getD k 0)).length
theorem z0Q {E:zC3} {v:Int} {t:P3} {S:TgS} {k:Nat} (h:(trl t).getD k 0=v):qA (tgW E v t) S (k+1)=qA (tgW E v t) S k:=by
 show tgW E v t (qA (tgW E v t) S k) k=_;rw [tgW,if_pos h]
theorem z2h {E:zC3} {v:Int} {t:P3} {S:TgS} {k:Nat} (h:(trl t).getD k 0≠v):qA (tgW E v t) S (k+1)=qA (vis (zAt E ((trl t).getD k 0))) (qA (tgW E v t) S k) (zAt E ((trl t).getD k 0)).length:=by
 show tgW E v t (qA (tgW E v t) S k) k=_;rw [tgW,if_neg h]
def tgR (E:zC3) (l:List P3) (v:Int) (S:TgS) (_:Nat):TgS:=if S.1<S.2.1.length then qA (tgW E v (tri l (S.2.1.getD S.1 0))) (S.1+1,S.2.1,S.2.2) 3 else S
def tgS (E:zC3) (l:List P3) (v x0:Int) (r:Nat):TgS:=qA (tgR E l v) (0,[x0],[(x0,true)]) r
def unr (tris:List Int) (m:ReM):Nat:=(tris.filter fun k=> !had m k).length
def meas (tris:List Int) (S:TgS):Nat:=(S.2.1.length - S.1)+unr tris S.2.2
def zRr (tris:List Int) (S:TgS):Prop:=S.1<=S.2.1.length/\(∀ x∈S.2.1,x∈tris)/\S.2.2.length+unr tris S.2.2<=tris.length+1
theorem zQb {k:ETy} {V:Type} (v:V) (q:k.T): ∀ m:List (k.T×V),(zAB k m q v).length<=m.length+1
 | []=>by simp [zAB]
 | (x,y)::r=>by
   simp only [zAB];split
   ·simp
   ·have:=zQb v q r;simp only [z8];omega
theorem zYV {α:Type} {p q:α->Bool} (h: ∀ x,q x=true->p x=true): ∀ l:List α,(l.filter q).length<=(l.filter p).length
 | []=>zI _
 | a ::l=>by
   have:=zYV h l
   by_cases hq:q a=true
   ·rw [List.filter_cons_of_pos hq,List.filter_cons_of_pos (h a hq)];simp only [z8];omega
   ·rw [List.filter_cons_of_neg hq]
    by_cases hp:p a=true
    ·rw [List.filter_cons_of_pos hp];simp only [z8];omega
    ·rw [List.filter_cons_of_neg hp];exact this
theorem zKw {α:Type} {p q:α->Bool} (h: ∀ x,q x=true->p x=true) {a:α} (hp:p a=true) (hq: ¬ q a=true): ∀ {l:List α},a∈l->(l.filter q).length+1<=(l.filter p).length
 | b ::l,hm=>by
   rcases zT.1 hm with e|hm
   ·subst e;rw [List.filter_cons_of_pos hp,List.filter_cons_of_neg hq];have:=zYV h l;simp only [z8];omega
   ·have:=zKw h hp hq hm
    by_cases hq':q b=true
    ·rw [List.filter_cons_of_pos hq',List.filter_cons_of_pos (h b hq')];simp only [z8];omega
    ·rw [List.filter_cons_of_neg hq']
     by_cases hp':p b=true
     ·rw [List.filter_cons_of_pos hp'];simp only [z8];omega
     ·rw [List.filter_cons_of_neg hp'];exact this
theorem zYQ {tris:List Int} {m:ReM} {k:Int} (hk:k∈tris) (h:had m k=false):unr tris (zAB (.int .i64) m k true)+1<=unr tris m:=by
 refine zKw (fun x hx=> ?_) (a:=k) (by rw [h];rfl) (by rw [zFF,if_pos rfl];simp) hk;rw [zFF] at hx;split at hx
 ·simp at hx
 ·exact hx
theorem z7D {tris av:List Int} {S:TgS} {j:Nat} (h:zRr tris S) (hj:j<av.length) (ha: ∀ x∈av,x∈tris):zRr tris (vis av S j)/\meas tris (vis av S j)<=meas tris S:=by
 unfold vis;split
 ·exact ⟨h,zI _⟩
 ·rename_i hh;have hm:=ha _ (jA hj);refine ⟨⟨Nat.zero_le _,fun x hx=> ?_,?_⟩,?_⟩
  ·rw [yC,zF] at hx;rcases hx with hx|rfl
   ·exact h.2.1 x (List.mem_of_mem_drop hx)
   ·exact hm
  ·have:=zYQ hm (by simpa using hh);have:=zQb (k:= .int .i64) true (av.getD j 0) S.2.2;have:=h.2.2;show (zAB (.int .i64) S.2.2 (av.getD j 0) true).length+unr tris (zAB (.int .i64) S.2.2 (av.getD j 0) true)<=_;omega
  ·have:=zYQ hm (by simpa using hh);show ((S.2.1.drop S.1++[av.getD j 0]).length - 0)+unr tris (zAB (.int .i64) S.2.2 (av.getD j 0) true)<=meas tris S;rw [zO,List.length_drop,List.length_singleton];unfold meas;omega
theorem zTd {tris av:List Int} {S:TgS} (h:zRr tris S) (ha: ∀ x∈av,x∈tris): ∀ j,j<=av.length->zRr tris (qA (vis av) S j)/\meas tris (qA (vis av) S j)<=meas tris S :=
 qX (fun _ (T:TgS)=>zRr tris T/\meas tris T<=meas tris S) ⟨h,zI _⟩ fun j T hj hT=>let ⟨a,b⟩:=z7D (j:=j) hT.1 hj ha;⟨a,Nat.le_trans b hT.2⟩
theorem zRc {tris:List Int} {E:zC3} {c:Nat} (hE:zVR tris c E) {v:Int} {t:P3} {S:TgS} (h:zRr tris S) (k:Nat):zRr tris (qA (tgW E v t) S k)/\meas tris (qA (tgW E v t) S k)<=meas tris S :=
 qX (n:=k) (fun _ (T:TgS)=>zRr tris T/\meas tris T<=meas tris S) ⟨h,zI _⟩ (fun j T _ hT=>by
  unfold tgW;split
  ·exact hT
  ·obtain ⟨a,b⟩:=zTd hT.1 (hE _).2 _ (zI _)
   exact ⟨a,Nat.le_trans b hT.2⟩) k (zI _)
theorem zRi {tris:List Int} {S:TgS} (h:zRr tris S) (hs:S.1<S.2.1.length):zRr tris (S.1+1,S.2.1,S.2.2)/\meas tris (S.1+1,S.2.1,S.2.2)+1<=meas tris S :=
 ⟨⟨hs,h.2⟩,by unfold meas;show S.2.1.length - (S.1+1)+unr tris S.2.2+1<=_;omega⟩
theorem z1i {tris:List Int} {E:zC3} {c:Nat} (hE:zVR tris c E) {l:List P3} {v:Int} {S:TgS} {r:Nat} (h:zRr tris S):zRr tris (tgR E l v S r)/\(meas tris (tgR E l v S r)<=meas tris S)/\(S.1<S.2.1.length->meas tris (tgR E l v S r)+1<=meas tris S):=by
 unfold tgR;split
 ·rename_i hs;obtain ⟨a,b⟩:=zRi h hs;obtain ⟨c,d⟩:=zRc hE (v:=v) (t:=tri l (S.2.1.getD S.1 0)) a 3;exact ⟨c,by omega,fun _=>by omega⟩
 ·rename_i hs;exact ⟨h,zI _,fun e=>absurd e hs⟩
theorem z3n {tris:List Int} {x0:Int} (_:x0∈tris):([(x0,true)]:ReM).length+unr tris [(x0,true)]<=tris.length+1:=by
 have:unr tris [(x0,true)]<=tris.length:=List.length_filter_le _ _;simp only [List.length_singleton];omega
theorem zI6 {tris:List Int} {x0:Int} :meas tris (0,[x0],[(x0,true)])<=tris.length+1:=by
 have:unr tris [(x0,true)]<=tris.length:=List.length_filter_le _ _;show 1+unr tris [(x0,true)]<=_;omega
theorem z1h {tris:List Int} {E:zC3} {c:Nat} (hE:zVR tris c E) {l:List P3} {v x0:Int} (hx:x0∈tris) (r:Nat):zRr tris (tgS E l v x0 r)/\meas tris (tgS E l v x0 r)<=meas tris (0,[x0],[(x0,true)]) :=
 qX (n:=r) (fun _ (T:TgS)=>zRr tris T/\meas tris T<=meas tris (0,[x0],[(x0,true)])) ⟨⟨Nat.zero_le _,fun x hx'=>by rw [zF] at hx';rw [hx'];exact hx,z3n hx⟩,zI _⟩
  (fun j T _ hT=>let ⟨a,b,_⟩:=z1i (r:=j) hE hT.1;⟨a,Nat.le_trans b hT.2⟩) r (zI _)
theorem zLf {E:zC3} {l:List P3} {v x0:Int} {r:Nat} (h: ¬ (tgS E l v x0 r).1<(tgS E l v x0 r).2.1.length): ∀ d,tgS E l v x0 (r+d)=tgS E l v x0 r
 | 0=>rfl
 | d+1=>by
   show tgR E l v (tgS E l v x0 (r+d)) (r+d)=_;rw [zLf h d,tgR,if_neg h]
theorem zUM {E:zC3} {l:List P3} {v x0:Int} {r:Nat} (h:(tgS E l v x0 r).1<(tgS E l v x0 r).2.1.length) :
 tgS E l v x0 (r+1)=qA (tgW E v (tri l ((tgS E l v x0 r).2.1.getD (tgS E l v x0 r).1 0))) ((tgS E l v x0 r).1+1,(tgS E l v x0 r).2.1,(tgS E l v x0 r).2.2) 3:=by
 show tgR E l v (tgS E l v x0 r) r=_;rw [tgR,if_pos h]
def tgP (S:TgS):TgS:=(S.1+1,S.2.1,S.2.2)
def tgT (l:List P3) (S:TgS):P3:=tri l (S.2.1.getD S.1 0)
def zTI (l:List P3) (v:Int) (tris:List Int):Bool:=(((tgS (enA l v tris tris.length) l v (tris.getD 0 0) (2*tris.length+2)).2.2.length:Int)==(tris.length:Int))
def zWD (l:List P3) (v:Int) (tris:List Int):Spec Nat where
 inv x:=x<=tris.length
 live x:=[(22,.s (.int .i64 x))]
 keep:=[1,2,3,7,20,21]
 heap x:=[(1,.gmap (.int .i64) (.int .i64) (enA l v tris x))]
 keepH:=[0]
 mu x:=tris.length - x
def zYN (l:List P3) (v:Int) (tris:List Int) (j:Nat):Spec Nat where
 inv x:=x<=3
 live x:=[(31,.s (.int .i64 x))]
 keep:=[1,2,3,7,9,20,21,22,30]
 heap x:=[(1,.gmap (.int .i64) (.int .i64) (qA (enW v (tris.getD j 0) (tri l (tris.getD j 0))) (enA l v tris j) x))]
 keepH:=[0]
 mu x:=3 - x
def zTx (E:zC3) (l:List P3) (v x0:Int) (tris:List Int):Spec Nat where
 inv x:=x+meas tris (tgS E l v x0 x)<=2*tris.length+2
 live x:=[(13,.s (.own 3 (tgS E l v x0 x).1 ((tgS E l v x0 x).2.1.length - (tgS E l v x0 x).1)))]
 keep:=[1,2,3,7,12]
 heap x:=[(2,.map (.int .i64) .bool (tgS E l v x0 x).2.2),(3,.row (.int .i64) 3 (tgS E l v x0 x).2.1)]
 keepH:=[0,1]
 mu x:=meas tris (tgS E l v x0 x)
def zWb (E:zC3) (v:Int) (t:P3) (S:TgS):Spec Nat where
 inv x:=x<=3
 live x:=[(69,.s (.int .i64 x)),(13,.s (.own 3 (qA (tgW E v t) S x).1 ((qA (tgW E v t) S x).2.1.length - (qA (tgW E v t) S x).1)))]
 keep:=[1,2,3,7,12,14,68]
 heap x:=[(2,.map (.int .i64) .bool (qA (tgW E v t) S x).2.2),(3,.row (.int .i64) 3 (qA (tgW E v t) S x).2.1)]
 keepH:=[0,1]
 mu x:=3 - x
def zWa (av:List Int) (S:TgS):Spec Nat where
 inv x:=x<=av.length
 live x:=[(79,.s (.int .i64 x)),(13,.s (.own 3 (qA (vis av) S x).1 ((qA (vis av) S x).2.1.length - (qA (vis av) S x).1)))]
 keep:=[1,2,3,7,12,14,68,69,77,78]
 heap x:=[(2,.map (.int .i64) .bool (qA (vis av) S x).2.2),(3,.row (.int .i64) 3 (qA (vis av) S x).2.1)]
 keepH:=[0,1]
 mu x:=av.length - x
theorem zYR {α:Type} (l:List α) (s:Nat):List.take (l.length - s) (List.drop s l)=List.drop s l:=List.take_of_length_le (by simp)
def z8r (l:List P3) (tris:List Int):Prop:=l.length<=8192/\tris.length<=24576/\tris≠[]/\∀ x∈tris,0<=x/\x<l.length
theorem z69 {fn} (n v:Int) (l:List P3) (tris:List Int) (hf:z8r l tris):zAG ⟨tyL,fn,[]⟩ Tryz.f182 [qR.av (n,l),(ETy.int .i64).av v,(ETy.sl (.int .i64)).av tris] (fun r=>r= .s (.bool (zTI l v tris))):=by
 obtain ⟨h1,h2,h3,h4⟩:=hf;have h5:0<tris.length:=List.length_pos_iff.2 h3
 repeat' (conv=>whnf
          first|done|refine qN (by first|rfl|omega|(simp only [yO] at *;omega)) ?_|apply qH|refine qG fun _=> ?_|apply qB|apply qa|apply qo|refine qe (fun _=> ?_) (fun _=> ?_)|refine qn (fun _=> ?_) (fun _=> ?_)|refine qd (fun _=> ?_) (fun _=> ?_)|apply qt|refine qi (fun _=> ?_) (fun _=> ?_)|(refine qS 3 rfl ?_;refine Or.inr (zB (Nat) (zB (zWD l v tris) (zA (zB (0) (zA (yJ.out ?_) (zA ?_ (zA ?_ rfl)))) (fun x hx=> ?_)))))|((with_reducible show (∃ y,And (Spec.inv (zWD _ _ _) y) _));refine zB (x+1) (zA (yJ.out ?_) (zA (zA ?_ (zA ?_ rfl)) (yJ.out ?_))))|(refine qS 6 rfl ?_;refine Or.inr (zB (Nat) (zB (zYN l v tris x) (zA (zB (0) (zA (yJ.out ?_) (zA ?_ (zA ?_ rfl)))) (fun y hy=> ?_)))))|((with_reducible show (∃ y,And (Spec.inv (zYN _ _ _ _) y) _));refine zB (y+1) (zA (yJ.out ?_) (zA (zA ?_ (zA ?_ rfl)) (yJ.out ?_))))|(refine qS 14 rfl ?_;refine Or.inr (zB (Nat) (zB (zTx (enA l v tris tris.length) l v (tris.getD 0 0) tris) (zA (zB (0) (zA (yJ.out ?_) (zA ?_ (zA ?_ rfl)))) (fun z hz=> ?_)))))|((with_reducible show (∃ y,And (Spec.inv (zTx _ _ _ _ _) y) _));refine zB (z+1) (zA (yJ.out ?_) (zA (zA ?_ (zA ?_ rfl)) (yJ.out ?_))))|(refine qS 18 rfl ?_;refine Or.inr (zB (Nat) (zB (zWb (enA l v tris tris.length) v (tgT l (tgS (enA l v tris tris.length) l v (tris.getD 0 0) z)) (tgP (tgS (enA l v tris tris.length) l v (tris.getD 0 0) z))) (zA (zB (0) (zA (yJ.out ?_) (zA ?_ (zA ?_ rfl)))) (fun k hk=> ?_)))))|((with_reducible show (∃ y,And (Spec.inv (zWb _ _ _ _) y) _));refine zB (k+1) (zA (yJ.out ?_) (zA (zA ?_ (zA ?_ rfl)) (yJ.out ?_))))|(refine qS 22 rfl ?_;refine Or.inr (zB (Nat) (zB (zWa (zAt (enA l v tris tris.length) ((trl (tgT l (tgS (enA l v tris tris.length) l v (tris.getD 0 0) z))).getD k 0)) (qA (tgW (enA l v tris tris.length) v (tgT l (tgS (enA l v tris tris.length) l v (tris.getD 0 0) z))) (tgP (tgS (enA l v tris tris.length) l v (tris.getD 0 0) z)) k)) (zA (zB (0) (zA (yJ.out ?_) (zA ?_ (zA ?_ rfl)))) (fun j hj=> ?_)))))|((with_reducible show (∃ y,And (Spec.inv (zWa _ _) y) _));refine zB (j+1) (zA (yJ.out ?_) (zA (zA ?_ (zA ?_ rfl)) (yJ.out ?_))))|refine zA rfl ?_|apply qE|apply qO|exact zN|apply qq|apply qs|refine qK (by kernel_rfl) ?_|apply qr)
 all_goals try first|apply qz1|apply qz2|apply qz3|apply qz4|apply qz5|apply qz6|apply qz7|apply qz8|apply qz9|apply qz0
 all_goals try simp only [zZ,zR,yE,z6,qn1,zY,qn2,zX,ETy.dflt,qn3,qn4,Int.reduceToNat,Int.reduceAdd,Int.reduceSub,Int.reduceNeg,Nat.reduceAdd,zD,zWD,zYN,zTx,zWb,zWa,z4Q,z3C,tgT,tgP,Nat.add_zero,zCt,zVo,zS4,z3m,zZy,zYR] at *
 all_goals try (refine qh ?_;omega)
 all_goals try (rw [z0Y (by assumption)];done)
 all_goals try (rw [z5B (by assumption)];(try rfl);done)
 all_goals try (have e:x=tris.length:=by omega)
 all_goals try subst e
 all_goals try (refine qh ?_;omega)
 all_goals try (rw [z0Q (by assumption)];done)
 all_goals try (rw [zYn (by assumption)];done)
 all_goals try (rw [z33 (by assumption)];(try simp);done)
 all_goals try (have e:j=(zAt (enA l v tris tris.length) ((trl (tgT l (tgS (enA l v tris tris.length) l v (tris.getD 0 0) z))).getD k 0)).length:=by (unfold tgT;omega)
                subst e;rw [z2h (by assumption)];rfl)
 ·exact qh (h4 _ (jA (by omega)))
 ·have:=(zUK (zWI l v tris x (by omega)) (jA (l:=tris) (j:=x) (by omega)) (v:=v) (t:=tri l (tris.getD x 0)) y ((trl (tri l (tris.getD x 0))).getD y 0)).1;refine yJ.intro ⟨?_,trivial⟩;unfold zBS;simp only [z8,List.replicate_zero,List.length_nil];omega
 ·have e:y=3:=by omega
  subst e;rfl
 ·have:=zI6 (tris:=tris) (x0:=tris.getD 0 0);refine qh ?_;show meas tris (0,[tris.getD 0 0],[(tris.getD 0 0,true)])<=_;omega
 all_goals
  have hE:=zWI l v tris tris.length (zI _);obtain ⟨hS1,hS2⟩:=z1h hE (l:=l) (v:=v) (jA h5) z;have hS3:=zI6 (tris:=tris) (x0:=tris.getD 0 0)
 ·exact qh (h4 _ (hS1.2.1 _ (jA (by omega))))
 ·have hP:=zRi hS1 (by omega);have hW:=zRc hE (v:=v) (t:=tgT l (tgS (enA l v tris tris.length) l v (tris.getD 0 0) z)) hP.1 k;have hV:=zTd hW.1 (hE ((trl (tgT l (tgS (enA l v tris tris.length) l v (tris.getD 0 0) z))).getD k 0)).2 j (by assumption);have hM:=Nat.le_trans hV.2 hW.2;have hL: ∀ S:TgS,S.2.1.length - S.1<=meas tris S:=fun S=>Nat.le_add_right _ _;have hN:=Nat.le_trans (hL _) hM;refine qh ?_
  simp only [tgT,zX] at hN;have hP2:=hP.2;simp only [zX] at hP2;omega
 all_goals try (have e:k=3:=by omega)
 all_goals try subst e
 all_goals try (rw [zUM (by omega)];done)
 ·have hP:=zRi hS1 (by omega);have hW:=zRc hE (v:=v) (t:=tri l ((tgS (enA l v tris tris.length) l v (tris.getD 0 0) z).2.1.getD (tgS (enA l v tris tris.length) l v (tris.getD 0 0) z).1 0)) hP.1 3;rw [<- zUM (by omega)] at hW;exact qh (by omega)
 ·have hP:=zRi hS1 (by omega);have hW:=zRc hE (v:=v) (t:=tri l ((tgS (enA l v tris tris.length) l v (tris.getD 0 0) z).2.1.getD (tgS (enA l v tris tris.length) l v (tris.getD 0 0) z).1 0)) hP.1 3;rw [<- zUM (by omega)] at hW;exact qh (by omega)
 ·have:=hS1.2.2;exact qh (by omega)
 ·have:=zLf (E:=enA l v tris tris.length) (l:=l) (v:=v) (x0:=tris.getD 0 0) (r:=z) (by omega) (2*tris.length+2 - z);rw [show z+(2*tris.length+2 - z)=2*tris.length+2 by omega] at this;rw [zTI,this]
attribute [irreducible] zTI
def z7f:List AV->Option Res:=zOb qR (.int .i64) (.sl (.int .i64)) (fun s v tris=>some (none,some (z8r s.2 tris),.s (.bool (zTI s.2 v tris))))
theorem z6l:qM Tryz.prog 182 z7f:=⟨zDM fun s v tris r h=>by cases h;exact qL (yM (fn:=[]) (fr:=[]) trivial trivial) Tryz.func182 (by kernel_rfl) fun _ h=>z69 s.1 v s.2 tris h,_,Tryz.func182,by kernel_rfl,by kernel_rfl⟩
end S1
open Go Go.Vm Go.Proofs
namespace S1
def z7 (t:P3) (v:Int):Prop:=t.1=v\/t.2.1=v\/t.2.2=v
def atP (s:List (List Int)) (w:Int) (j:Nat):List (List Int):=s.set w.toNat (s.getD w.toNat []++[(j:Int)])
def at3 (s:List (List Int)) (t:P3) (j:Nat):List (List Int):=atP (atP (atP s t.1 j) t.2.1 j) t.2.2 j
def atF (n:Nat) (l:List P3) (i:Nat):List (List Int):=qA (fun s j=>at3 s (l.getD j (0,0,0)) j) (List.replicate n []) i
def z3R (n c b:Nat) (s:List (List Int)):Prop:=s.length=n/\∀ v,(s.getD v []).length<=c/\∀ x∈s.getD v [],0<=x/\x<(b:Int)
theorem zBd (s:List (List Int)) (w:Int) (j v:Nat):(atP s w j).getD v []=if w.toNat=v/\v<s.length then s.getD v []++[(j:Int)] else s.getD v []:=by
 unfold atP;simp only [gdE,List.getElem?_set]
 by_cases h1:w.toNat=v
 ·subst h1
  by_cases h2:w.toNat<s.length
  ·simp [h2]
  ·simp [h2]
 ·simp [h1]
theorem zFE (s:List (List Int)) (w:Int) (j:Nat):(atP s w j).length=s.length:=by simp [atP]
theorem zOV {n c b:Nat} {s:List (List Int)} {w:Int} {j:Nat} (h:z3R n c b s) (hj:j<b):z3R n (c+1) b (atP s w j):=by
 refine ⟨by rw [zFE];exact h.1,fun v=> ?_⟩;rw [zBd];split
 ·have:=h.2 v;refine ⟨by rw [zO];simp only [List.length_singleton];omega,fun x hx=> ?_⟩;rw [yC,zF] at hx;rcases hx with hx|rfl
  ·exact this.2 x hx
  ·omega
 ·exact ⟨by have:=(h.2 v).1;omega,(h.2 v).2⟩
theorem z3R.more {n c b b':Nat} {s:List (List Int)} (h:z3R n c b s) (hb:b<=b'):z3R n c b' s :=
 ⟨h.1,fun v=>⟨(h.2 v).1,fun x hx=>by have:=(h.2 v).2 x hx;omega⟩⟩
theorem zQ8 (n:Nat) (l:List P3) (i:Nat):z3R n (3*i) i (atF n l i) :=
 qX (n:=i) (fun i (s:List (List Int))=>z3R n (3*i) i s) ⟨by simp,fun v=>by
  have:(List.replicate n ([]:List Int)).getD v []=[]:=by
   rw [gdE,List.getElem?_replicate];split<;>rfl
  rw [this];simp⟩ (fun i s _ h=>by
  have h:=h.more (Nat.le_succ i)
  exact zOV (zOV (zOV h (Nat.lt_succ_self i)) (Nat.lt_succ_self i)) (Nat.lt_succ_self i)) i (zI _)
theorem zQ6 {α:Type} {l:List α} {a:α} :l++[a]≠[]:=by simp
theorem zE2 {s:List (List Int)} {w:Int} {j v:Nat} (h:s.getD v []≠[]):(atP s w j).getD v []≠[]:=by
 rw [zBd];split
 ·exact zQ6
 ·exact h
theorem z3k {s:List (List Int)} {t:P3} {j v:Nat} (hv:v<s.length) (h:z7 t v):(at3 s t j).getD v []≠[]:=by
 unfold at3;rcases h with h|h|h
 ·exact zE2 (zE2 (by rw [zBd,if_pos ⟨by omega,hv⟩];exact zQ6))
 ·exact zE2 (by rw [zBd,if_pos ⟨by omega,by rw [zFE];exact hv⟩];exact zQ6)
 ·rw [zBd,if_pos ⟨by omega,by rw [zFE,zFE];exact hv⟩];exact zQ6
theorem zMd (n:Nat) (l:List P3) {v:Nat} (hv:v<n): ∀ i,(∃ j,j<i/\z7 (l.getD j (0,0,0)) v)->(atF n l i).getD v []≠[]
 | 0,⟨j,h,_⟩=>by omega
 | i+1,⟨j,hj,h⟩=>by
   show (at3 (atF n l i) (l.getD i (0,0,0)) i).getD v []≠[]
   by_cases e:j=i
   ·subst e;exact z3k (by rw [(zQ8 n l j).1];exact hv) h
   ·exact zE2 (zE2 (zE2 (zMd n l hv i ⟨j,by omega,h⟩)))
def z8V (s:Int×List P3):Prop:= ∀ v:Nat,(v:Int)<s.1->∃ j,j<s.2.length/\z7 (s.2.getD j (0,0,0)) v
def piG (n:Nat) (l:List P3) (v:Nat):Option Wit:=if zTI l v ((atF n l l.length).getD v []) then none else some (6,(v:Int),0)
def piL (n:Nat) (l:List P3) (v:Nat):List Wit:=(List.range v).filterMap (piG n l)
theorem z8M {n:Nat} {l:List P3} {i:Nat} (h:zTI l i ((atF n l l.length).getD i [])=true):piL n l (i+1)=piL n l i:=by
 rw [piL,qZ,piG,if_pos h];simp [piL]
theorem z8Z {n:Nat} {l:List P3} {i:Nat} (h:zTI l i ((atF n l l.length).getD i [])=false):piL n l (i+1)=piL n l i++[(6,(i:Int),0)]:=by
 rw [piL,qZ,piG,if_neg (by rw [h];simp)];rfl
theorem z5C (n:Nat) (l:List P3) (i:Nat):(piL n l i).length<=i:=zCd _ _
def zUo (s:Int×List P3):List Wit:=piL s.1.toNat s.2 s.1.toNat
def zJJ (n:Nat) (l:List P3):Spec Nat where
 inv x:=x<=l.length
 live x:=[(17,.s (.int .i64 x))]
 keep:=[1,3,15,16]
 heap x:=[(2,.grow (.int .i64) 54 (atF n l x))]
 keepH:=[0]
 mu x:=l.length - x
def zIk (n:Nat) (l:List P3):Spec Nat where
 inv x:=x<=n
 live x:=[(40,.s (.int .i64 x)),(8,.s (.own 3 0 (piL n l x).length))]
 keep:=[1,3,38,39]
 heap x:=[(3,.row zBY 91 (piL n l x))]
 keepH:=[0,2]
 mu x:=n - x
theorem zZT (n:Int) (l:List P3) (hf:zLh (n,l)/\z8V (n,l)):zEu ⟨tyL,[(182,z7f)],[]⟩ Tryz.f165 [qR.av (n,l)] (fun v obs=>v= .s (.own 0 0 (zUo (n,l)).length)/\obs=[.row zBY 91 (zUo (n,l))]):=by
 obtain ⟨⟨h1,h2,h3,h4⟩,h5⟩:=hf
 repeat' (conv=>whnf
          first|done|refine qN (by first|rfl|omega|(simp only [yO] at *;omega)) ?_|apply qH|refine qG fun _=> ?_|apply qB|apply qa|apply qo|refine qe (fun _=> ?_) (fun _=> ?_)|refine qn (fun _=> ?_) (fun _=> ?_)|refine qd (fun _=> ?_) (fun _=> ?_)|apply qt|refine qi (fun _=> ?_) (fun _=> ?_)|(refine qS 3 rfl ?_;refine Or.inr (zB (Nat) (zB (zJJ n.toNat l) (zA (zB (0) (zA (yJ.out ?_) (zA ?_ (zA ?_ rfl)))) (fun x hx=> ?_)))))|(refine qS 6 rfl ?_;refine Or.inl (zB (4) ?_))|((with_reducible show (∃ y,And (Spec.inv (zJJ _ _) y) _));refine zB (x+1) (zA (yJ.out ?_) (zA (zA ?_ (zA ?_ rfl)) (yJ.out ?_))))|(refine qS 13 rfl ?_;refine Or.inr (zB (Nat) (zB (zIk n.toNat l) (zA (zB (0) (zA (yJ.out ?_) (zA ?_ (zA ?_ rfl)))) (fun y hy=> ?_)))))|((with_reducible show (∃ y,And (Spec.inv (zIk _ _) y) _));refine zB (y+1) (zA (yJ.out ?_) (zA (zA ?_ (zA ?_ rfl)) (yJ.out ?_))))|refine zA rfl ?_|apply qE|apply qO|exact zN|apply qq|apply qs|refine qK (by kernel_rfl) ?_|apply qr)
 all_goals try first|apply qz1|apply qz2|apply qz3|apply qz4|apply qz5|apply qz6|apply qz7|apply qz8|apply qz9|apply qz0
 all_goals try simp only [zZ,zR,yE,z6,qn1,zY,qn2,zX,ETy.dflt,qn3,qn4,Int.reduceToNat,Int.reduceAdd,Int.reduceSub,Int.reduceNeg,Nat.reduceAdd,zD,zJJ,zIk] at *
 all_goals try (refine qh ?_;omega)
 all_goals try (have ht:=zAE (h4 x (by omega));refine qh ?_;(try simp only [zAZ h1]);omega)
 all_goals try rfl
 all_goals try
  (have ht:=zAE (h4 x (by omega))
   have hA:=zQ8 n.toNat l x;have hA1:=zOV (w:=(l.getD x (0,0,0)).1) (hA.more (Nat.le_succ x)) (Nat.lt_succ_self x);have hA2:=zOV (w:=(l.getD x (0,0,0)).2.1) hA1 (Nat.lt_succ_self x)
   first
    | (have hB:=(hA.2 (l.getD x (0,0,0)).1.toNat).1
       exact qh ⟨by unfold zBS;simp only [z8,List.replicate_zero,List.length_nil];omega,by omega,trivial⟩)
    | (have hB:=(hA1.2 (l.getD x (0,0,0)).2.1.toNat).1
       exact qh ⟨by unfold zBS;simp only [z8,List.replicate_zero,List.length_nil];unfold atP at hB;omega,by omega,trivial⟩)
    | (have hB:=(hA2.2 (l.getD x (0,0,0)).2.2.toNat).1
       exact qh ⟨by unfold zBS;simp only [z8,List.replicate_zero,List.length_nil];unfold atP at hB;omega,by omega,trivial⟩))
 all_goals try (have e:x=l.length:=by omega)
 all_goals try subst e
 all_goals try (refine qh ?_;have:=z5C n.toNat l y;(try simp only [List.length_singleton]);omega)
 all_goals try (rw [z8M (by assumption)];done)
 all_goals try (rw [z8Z (by assumption)];(try simp);done)
 ·have hA:=zQ8 n.toNat l l.length;exact qh ⟨h3,by have:=(hA.2 y).1;omega,zMd n.toNat l (by omega) l.length (h5 y (by omega)),(hA.2 y).2⟩
 all_goals (have e:y=n.toNat:=by omega
            subst e;rfl)
def zX6:List AV->Option zKI:=zEv qR (fun s=>some (none,some (zLh s/\z8V s),.s (.own 0 0 (zUo s).length),[.row zBY 91 (zUo s)]))
theorem z00:zDB Tryz.prog 165 zX6:=⟨zCC fun s r h=>by cases h;exact zDc (yM (fn:=[(182,z7f)]) (fr:=[]) ⟨z6l,trivial⟩ trivial) Tryz.func165 (by kernel_rfl) fun _ h=>zZT s.1 s.2 h,_,Tryz.func165,by kernel_rfl,by kernel_rfl⟩
abbrev y7:ETy:= .int .i64
end S1
/- A call whose body is run in its caller's memory. -/
namespace Go.Vm
open Go.RowKit
section
variable {P:Program} {T:Tab} {B:Base} {w:World} {σ:Sig} {β:yQ} {st:St} {tmps:Array Value}
theorem zIq: ∀ (s:List Nat) (env:Env) (t:Nat),yY (zJb s env) t= .junk\/(yY (zJb s env) t=yY env t/\zWR t s=false)
 | s,[],t=> .inl rfl
 | s, (k,v)::r,t=>by
   simp only [zJb];split
   ·rename_i hm;rcases zIq s r t with h|⟨h,h2⟩
    ·exact .inl h
    ·by_cases e:k=t
     ·subst e;rw [hm] at h2;cases h2
     ·exact .inr ⟨by rw [h,qQ,if_neg e],h2⟩
   ·rename_i hm;rw [qQ,qQ]
    by_cases e:k=t
    ·subst e;rw [if_pos rfl,if_pos rfl];cases v with
     | s a=>exact .inr ⟨rfl,hm⟩
     | agg l=>exact .inr ⟨rfl,hm⟩
     | tup l=>exact .inl rfl
    ·rw [if_neg e,if_neg e];rcases zIq (k::s) r t with h|⟨h,h2⟩
     ·exact .inl h
     ·refine .inr ⟨h,?_⟩;simp only [zWR] at h2;split at h2
      ·cases h2
      ·exact h2
theorem zMF (h: ∀ t,y5 σ β (yY st.env t) (tmps.getD t undef)) (t:Nat):y5 σ β (yY (zJb [] st.env) t) (tmps.getD t undef):=by
 rcases zIq [] st.env t with e|⟨e,_⟩
 ·rw [e];trivial
 ·rw [e];exact h t
theorem z2n (h:GG B σ β st tmps w) {vals:List Value} {args:List AV} {N:Nat} (hv:jG σ β args vals) (hN:args.length<=N) :
 GA {B with dfs:=[]} N ⟨zHC 0 args,(st.next,.fr tmps (zJb [] st.env))::st.hp,st.next+1⟩ {tmps:=vals.toArray++Array.replicate (N - vals.toArray.size) undef,defers:=[]} w:=by
 have hlen:=zDl hv;have hlast:(β++[none])[st.next]? =some none:=by rw [<- h.len];simp
 have hold: ∀ {id:Nat},id<st.next->(β++[none])[id]? =β[id]? :=fun hi=>by rw [List.getElem?_append_left];rw [h.len];exact hi
 refine ⟨rfl,by simp;omega,σ,β++[none],⟨h.mem.ag,fun id ob hi=> ?_⟩,fun t=> ?_,by simp [h.len],fun id ob p hi hp=> ?_,h.bel,h.grew⟩
 ·simp only [yL] at hi;split at hi
  ·rename_i e;subst e;cases hi;exact ⟨hlast,fun t=>(zMF h.env t).more none⟩
  ·exact (h.mem.ob _ _ hi).keep none (fun _ _=>rfl) fun _ _ _=>rfl
 ·have hv':jG σ (β++[none]) args vals:=(zCK.2 ((zCK.1 hv).mono fun _ _ h=>h.more none));have:=zGU (m:=N - vals.length) 0 hv' t;simp only [Nat.not_lt_zero,if_false,Nat.sub_zero] at this
  have e:((vals.toArray++Array.replicate (N - vals.toArray.size) undef).getD t undef)=(vals++List.replicate (N - vals.length) undef).getD t undef:=by
   rw [show vals.toArray++Array.replicate (N - vals.toArray.size) undef=(vals++List.replicate (N - vals.length) undef).toArray by simp];simp [zL,gdE]
  show y5 σ _ (yY (zHC 0 args) t) ((vals.toArray++Array.replicate (N - vals.toArray.size) undef).getD t undef);rw [e];exact this
 ·simp only [yL] at hi;split at hi
  ·rename_i e;subst e;rw [hlast] at hp;cases hp
  ·have hlt:=h.id_lt hi;rw [hold hlt] at hp;obtain ⟨s1,s2,s3⟩:=h.sep _ _ _ hi hp;refine ⟨s1,s2,fun id2 ob2 p2 hne2 hi2 hp2=> ?_⟩;simp only [yL] at hi2;split at hi2
   ·rename_i e;subst e;rw [hlast] at hp2;cases hp2
   ·rw [hold (h.id_lt hi2)] at hp2;exact s3 _ _ _ hne2 hi2 hp2
theorem zMl (R:jK P T) {f:FuncId} {fn:Func} {c:Code} (hf:P.funcs[f]? =some fn) (hb:fn.body=some c) (hok:codeOk fn.ntmps c=true):zJU P f (zQX T fn):=by
 intro B σ β st tmps w args vals K hg hv hk;unfold zQX at hk;rw [hb] at hk;split at hk
 case h_2=>exact hk.elim
 rename_i c' hbc hble;cases hbc;have hk:=hk tmps;rw [St.forceAll_eq] at hk;have hga:=z2n (N:=fn.ntmps) hg hv (zU hble);refine (callsIn_of_wp (F:=Fence.wide) (n:=0) hf hb trivial ?_).calls (fun _ _ hd=>by cases hd);rw [<- FR.none];refine zAY R c hok hga hk fun e st' a' w' hp h'=> ?_
 have fin:zR0 T fn st.next tmps st' K->a'.defers=[]/\∃ v,(results fn a'.tmps).run P w'= .ok v w'/\∃ v' av st2 σ' β',(Ending.returned v)= .returned v'/\K av st2/\GG B σ' β' st2 tmps w'/\y5 σ' β' av v':=by
  intro hu;unfold zR0 at hu;split at hu
  case h_2=>exact hu.elim
  rename_i X l hallok hfr;rw [AV.force_eq,St.forceAll_eq] at hu;obtain ⟨rfl,hu⟩:=hu;obtain ⟨σ1,β1,hg1⟩:=h'.gg
  obtain ⟨vs,hrun,hall⟩:=zB9 (P:=P) (w:=w') (fn:=fn) (tmps:=a'.tmps) (Q:=fun r v=>y5 σ1 β1 (zEB T st' r) v) (fun r hr=>by
   have hro:=zK.1 hallok r hr;cases r with
   | tmp t=>exact ⟨_,rfl,hg1.env t⟩
   | cell a t =>
     simp only [zFs] at hro;simp only [zEB];have hx:=hg1.env a;split at hro
     ·rename_i id i k hea;rw [hea] at hx;split at hro
      ·rename_i v hv;obtain ⟨p,_,hptr,_⟩:=hx;obtain ⟨_,hrun⟩:=zBc (w:=w') R.ty R.one hg1.mem (t:=t) (hg1.env a) (p:=none) (q:=none) (v:=v) (by rw [hea];exact hv);obtain ⟨val,h1,h2⟩:=hrun trivial;refine ⟨val,?_,h2⟩;rw [hptr] at h1 ⊢;rw [zBK] at h1;simp only [asAddr,Sem.run_bind,Sem.run_pure,Result.andThen_ok];exact h1
      ·cases hro
     ·cases hro)
  have hob:=hg1.mem.ob _ _ hfr
  have get: ∀ {i:Nat} {ob:Ob},hget (zD0 st'.hp st.next) i=some ob->hget st'.hp i=some ob:=fun {i ob} e=>by
   rw [zAb] at e;split at e
   ·cases e
   ·exact e
  refine ⟨h'.defers,_,hrun,_,_,_,σ1,β1,rfl,hu,⟨⟨hg1.mem.ag,fun i ob hi=>hg1.mem.ob _ _ (get hi)⟩,hob.2,hg1.len,fun i ob p hi hp=> ?_,hg1.bel,hg1.grew⟩,zGe hall⟩;obtain ⟨s1,s2,s3⟩:=hg1.sep _ _ _ (get hi) hp;exact ⟨s1,s2,fun i2 ob2 p2 hne hi2 hp2=>s3 _ _ _ hne (get hi2) hp2⟩
 cases e with
 | normal=>exact fin hp
 | ret=>exact fin hp
 | _=>exact hp.elim
end
end Go.Vm
