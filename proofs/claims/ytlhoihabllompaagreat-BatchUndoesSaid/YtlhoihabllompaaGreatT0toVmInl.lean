/- A part of the proofs of the laws. -/
import Derived.Test.YtlhoihabllompaaGreatS1
import Derived.Test.YtlhoihabllompaaGreatVmFuntoVmKit
set_option linter.unusedSimpArgs false
set_option linter.unusedVariables false
set_option maxHeartbeats 8000000
set_option maxRecDepth 100000
open Go Go.Vm Go.Proofs
namespace S1
abbrev P3:=Int×Int×Int
abbrev qP:ETy:= .pair (.int .i64) (.sl .arr3)
abbrev zBW:ETy:= .pair (.int .i64) (.pair (.int .i64) (.int .i64))
abbrev Wit:=Int×Int×Int
def qL (P : Program) (f : Nat) (c : List AV → Option Res) : Prop := (∀ args r, c args = some r → zDL P f args r) ∧ ∃ fn, P.funcs[f]? = some fn ∧ (fn.name == "runtime.NumGoroutine") = false ∧ fn.body.isNone = false
theorem drop_at {α:Type} {l:List α} {i:Nat} (d:α) (h:i<l.length):l.drop i=l.getD i d::l.drop (i+1):=by
 rw [List.drop_eq_getElem_cons h];simp [gdE,h]
theorem zE7 {α:Type} {l:List α} {i:Nat} (h: ¬ (i:Int)<l.length):l.drop i=[]:=List.drop_eq_nil_of_le (by omega)
theorem zBU {α:Type} {l:List α} {i:Nat} (d:α) (h:(i:Int)<l.length):l.drop i=l.getD i d::l.drop (i+1):=drop_at d (by omega)
theorem qZ {α:Type _} (f:Nat->Option α) (i:Nat):(List.range (i+1)).filterMap f=(List.range i).filterMap f++(f i).toList:=by
 rw [List.range_succ,List.filterMap_append];rfl
theorem zC6 {α:Type _} (f:Nat->Option α) (i:Nat):((List.range i).filterMap f).length<=i:=Nat.le_trans (List.length_filterMap_le _ _) (by simp)
def vIn (n v:Int):Bool:= !(decide (v<0)|| decide (v>=n))
def zCl (n:Int) (t:P3):Bool:=vIn n t.1&&(vIn n t.2.1&&vIn n t.2.2)
theorem zLK {n v:Int} (h:vIn n v=true):0<=v/\v<n:=by simp [vIn] at h;omega
theorem zAE {n:Int} {t:P3} (h:zCl n t=true):(0<=t.1/\t.1<n)/\(0<=t.2.1/\t.2.1<n)/\(0<=t.2.2/\t.2.2<n):=by
 simp only [zCl,zC] at h;exact ⟨zLK h.1,zLK h.2.1,zLK h.2.2⟩
theorem zP0 {n:Int} {t:P3} (h:t.1<0\/t.1>=n\/t.2.1<0\/t.2.1>=n\/t.2.2<0\/t.2.2>=n):zCl n t=false:=by
 rw [<- Bool.not_eq_true];intro e;have:=zAE e;omega
theorem zFn {n:Int} {t:P3} (h: ¬ (t.1<0\/t.1>=n\/t.2.1<0\/t.2.1>=n\/t.2.2<0\/t.2.2>=n)):zCl n t=true:=by
 simp only [zCl,vIn,zC,Bool.not_eq_true',Bool.or_eq_false_iff,yM];omega
def qA {S:Type} (f:S->Nat->S) (s:S):Nat->S
 | 0=>s
 | i+1=>f (qA f s i) i
theorem zAQ {k:ETy} {V:Type} (v:V) (q:k.T): ∀ m:List (k.T×V),jS k (zAB k m q v) q=some v
 | []=>by
   simp only [zAB,jS];cases k.decT q q with
   | isTrue h=>rfl
   | isFalse h=>exact absurd rfl h
 | (x,y)::r=>by
   simp only [zAB];cases h1:k.decT x q with
   | isTrue h =>
     simp only [jS];cases k.decT x q with
     | isTrue h=>rfl
     | isFalse h2=>exact absurd h h2
   | isFalse h =>
     simp only [jS];cases k.decT x q with
     | isTrue h2=>exact absurd h2 h
     | isFalse h2=>exact zAQ v q r
theorem zA1 {k:ETy} {V:Type} (v:V) {q q':k.T} (hn:q≠q'): ∀ m:List (k.T×V),jS k (zAB k m q v) q'=jS k m q'
 | []=>by
   simp only [zAB,jS];cases k.decT q q' with
   | isTrue h=>exact absurd h hn
   | isFalse h=>rfl
 | (x,y)::r=>by
   simp only [zAB];cases h1:k.decT x q with
   | isTrue h =>
     simp only [jS];cases k.decT x q' with
     | isTrue h2=>exact absurd (h.symm.trans h2) hn
     | isFalse h=>rfl
   | isFalse h =>
     simp only [jS];cases k.decT x q' with
     | isTrue h2=>rfl
     | isFalse h2=>exact zA1 v hn r
theorem zDA {k:ETy} {V:Type} (v v':V) (q:k.T): ∀ m:List (k.T×V),zAB k (zAB k m q v) q v'=zAB k m q v'
 | []=>by
   simp only [zAB];cases k.decT q q with
   | isTrue h=>rfl
   | isFalse h=>exact absurd rfl h
 | (x,y)::r=>by
   simp only [zAB];cases h1:k.decT x q with
   | isTrue h=>simp only [zAB,h1]
   | isFalse h=>simp only [zAB,h1,zDA v v' q r]
def z5G (n:Int) (l:List P3) (i:Nat):Option Wit:=if zCl n (l.getD i (0,0,0)) then none else some (1,(i:Int),0)
def zHc (n:Int) (l:List P3) (i:Nat):List Wit:=(List.range i).filterMap (z5G n l)
theorem z8A {n:Int} {l:List P3} {i:Nat} (h:zCl n (l.getD i (0,0,0))=true):zHc n l (i+1)=zHc n l i:=by
 rw [zHc,qZ,z5G,if_pos h];simp [zHc]
theorem z7e {n:Int} {l:List P3} {i:Nat} (h:zCl n (l.getD i (0,0,0))=false):zHc n l (i+1)=zHc n l i++[(1,(i:Int),0)]:=by
 rw [zHc,qZ,z5G,if_neg (by rw [h];simp)];rfl
def zGo (s:Int×List P3):Bool:=decide (s.1<0)|| (decide (s.1>4096)|| decide ((s.2.length:Int)>8192))
def jD (s:Int×List P3):List Wit:=if zGo s then [(1,-1,0)] else zHc s.1 s.2 s.2.length
def zOk (n:Int) (l:List P3):Spec Nat where
 inv x:=x<=l.length
 live x:=[(27,.s (.int .i64 x)),(3,.s (.own 2 0 (zHc n l x).length))]
 keep:=[1,25,26]
 heap x:=[(2,.row zBW 91 (zHc n l x))]
 keepH:=[0]
 mu x:=l.length - x
theorem zK0 {n:Int} {l:List P3} (h:n<0\/n>4096\/(l.length:Int)>8192):jD (n,l)=[(1,-1,0)]:=by
 have:zGo (n,l)=true:=by simp only [zGo,Bool.or_eq_true,zP];omega
 rw [jD,if_pos this]
theorem zNS {n:Int} {l:List P3} (h1: ¬ n<0) (h2: ¬ n>4096) (h3: ¬ (l.length:Int)>8192):jD (n,l)=zHc n l l.length:=by
 have:zGo (n,l)=false:=by simp only [zGo,Bool.or_eq_false_iff,yM];omega
 rw [jD,if_neg (by simp [this])]
theorem zZx (n:Int) (l:List P3) (i:Nat):(zHc n l i).length<=i:=zC6 _ _
theorem z0Z {fn} (n:Int) (l:List P3):zEt ⟨tyL,fn,[]⟩ Tryz.f160 [qP.av (n,l)] (fun v obs=>v= .s (.own 0 0 (jD (n,l)).length)/\obs=[.row zBW 91 (jD (n,l))]):=by
 repeat' (conv=>whnf
          first|done|refine qN (by first|rfl|omega|(simp only [yP] at *;omega)) ?_|apply qH|refine qG fun _=> ?_|apply qB|apply qa|apply qo|refine qe (fun _=> ?_) (fun _=> ?_)|refine qn (fun _=> ?_) (fun _=> ?_)|refine qd (fun _=> ?_) (fun _=> ?_)|apply qt|refine qi (fun _=> ?_) (fun _=> ?_)|(refine qT 5 rfl ?_;refine Or.inr (zB (Nat) (zB (zOk n l) (zA (zB (0) (zA (yK.out ?_) (zA ?_ (zA ?_ rfl)))) (fun x hx=> ?_)))))|(refine qT 8 rfl ?_;refine Or.inl (zB (4) ?_))|((with_reducible show (∃ y,And (Spec.inv (zOk _ _) y) _));refine zB (x+1) (zA (yK.out ?_) (zA (zA ?_ (zA ?_ rfl)) (yK.out ?_))))|refine zA rfl ?_|apply qE|apply qO|exact zN|apply qq|apply qs|refine qK (by kernel_rfl) ?_|apply qr)
 all_goals try first|apply qz1|apply qz2|apply qz3|apply qz4|apply qz5|apply qz6|apply qz7|apply qz8|apply qz9|apply qz0
 all_goals try simp only [zZ,zR,yD,z6,qn1,zY,qn2,zX,ETy.dflt,qn3,qn4,Int.reduceToNat,Int.reduceAdd,Int.reduceSub,Int.reduceNeg,Nat.reduceAdd,zD,zOk] at *
 all_goals try (refine qh ?_;omega)
 all_goals try (refine qh ?_;have:=zZx n l x;(try simp only [List.length_singleton]);omega)
 all_goals try (rw [zK0 (by omega)];done)
 all_goals try (rw [zK0 (by omega)];rfl)
 all_goals try (rw [zNS (by assumption) (by assumption) (by assumption),show x=l.length by omega];done)
 all_goals try (rw [z7e (zP0 (by omega))];(try simp);done)
 all_goals try (rw [z8A (zFn (by omega))];done)
def zVV:List AV->Option zJf:=zEv qP (fun s=>some (none,none,.s (.own 0 0 (jD s).length),[.row zBW 91 (jD s)]))
theorem zZM:zDE Tryz.prog 160 zVV:=⟨zCB fun s r h=>by cases h;exact zDe (yN (fn:=[]) (fr:=[]) trivial trivial) Tryz.func160 (by kernel_rfl) fun _ _=>z0Z s.1 s.2,_,Tryz.func160,by kernel_rfl,by kernel_rfl⟩
end S1
open Go Go.Vm Go.Proofs
namespace S1
@[irreducible] def zM4 (t:P3):Bool:=t.1==t.2.1|| (t.2.1==t.2.2|| t.2.2==t.1)
theorem zTb {t:P3} (h:t.1=t.2.1\/t.2.1=t.2.2\/t.2.2=t.1):zM4 t=true:=by
 simp only [zM4,Bool.or_eq_true,beq_iff_eq];exact h
theorem z0M {t:P3} (h: ¬ (t.1=t.2.1\/t.2.1=t.2.2\/t.2.2=t.1)):zM4 t=false:=by
 rw [<- Bool.not_eq_true];intro e;apply h;simpa only [zM4,Bool.or_eq_true,beq_iff_eq] using e
def dgG (l:List P3) (i:Nat):Option Wit:=if zM4 (l.getD i (0,0,0)) then some (2,(i:Int),0) else none
def dgL (l:List P3) (i:Nat):List Wit:=(List.range i).filterMap (dgG l)
theorem z8c {l:List P3} {i:Nat} (h:zM4 (l.getD i (0,0,0))=true):dgL l (i+1)=dgL l i++[(2,(i:Int),0)]:=by
 rw [dgL,qZ,dgG,if_pos h];rfl
theorem z8g {l:List P3} {i:Nat} (h:zM4 (l.getD i (0,0,0))=false):dgL l (i+1)=dgL l i:=by
 rw [dgL,qZ,dgG,if_neg (by rw [h];simp)];simp [dgL]
theorem z4g (l:List P3) (i:Nat):(dgL l i).length<=i:=zC6 _ _
def z3c (l:List P3):Spec Nat where
 inv x:=x<=l.length
 live x:=[(9,.s (.int .i64 x)),(3,.s (.own 2 0 (dgL l x).length))]
 keep:=[1,7,8]
 heap x:=[(2,.row zBW 91 (dgL l x))]
 keepH:=[0]
 mu x:=l.length - x
theorem z2J {fn} (n:Int) (l:List P3) (hb:l.length<=8192):zEt ⟨tyL,fn,[]⟩ Tryz.f161 [qP.av (n,l)] (fun v obs=>v= .s (.own 0 0 (dgL l l.length).length)/\obs=[.row zBW 91 (dgL l l.length)]):=by
 repeat' (conv=>whnf
          first|done|refine qN (by first|rfl|omega|(simp only [yP] at *;omega)) ?_|apply qH|refine qG fun _=> ?_|apply qB|apply qa|apply qo|refine qe (fun _=> ?_) (fun _=> ?_)|refine qn (fun _=> ?_) (fun _=> ?_)|refine qd (fun _=> ?_) (fun _=> ?_)|apply qt|refine qi (fun _=> ?_) (fun _=> ?_)|(refine qT 3 rfl ?_;refine Or.inr (zB (Nat) (zB (z3c l) (zA (zB (0) (zA (yK.out ?_) (zA ?_ (zA ?_ rfl)))) (fun x hx=> ?_)))))|((with_reducible show (∃ y,And (Spec.inv (z3c _) y) _));refine zB (x+1) (zA (yK.out ?_) (zA (zA ?_ (zA ?_ rfl)) (yK.out ?_))))|refine zA rfl ?_|apply qE|apply qO|exact zN|apply qq|apply qs|refine qK (by kernel_rfl) ?_|apply qr)
 all_goals try first|apply qz1|apply qz2|apply qz3|apply qz4|apply qz5|apply qz6|apply qz7|apply qz8|apply qz9|apply qz0
 all_goals try simp only [zZ,zR,yD,z6,qn1,zY,qn2,zX,ETy.dflt,qn3,qn4,Int.reduceToNat,Int.reduceAdd,Int.reduceSub,Int.reduceNeg,Nat.reduceAdd,zD,z3c] at *
 all_goals try (refine qh ?_;omega)
 all_goals try (refine qh ?_;have:=z4g l x;(try simp only [List.length_singleton]);omega)
 all_goals try (rw [z8c (zTb (by omega))];(try simp);done)
 all_goals try (rw [z8g (z0M (by omega))];done)
 all_goals (rw [show x=l.length by omega];done)
def z2m:List AV->Option zJf:=zEv qP (fun s=>some (none,some (s.2.length<=8192),.s (.own 0 0 (dgL s.2 s.2.length).length),[.row zBW 91 (dgL s.2 s.2.length)]))
theorem z2V:zDE Tryz.prog 161 z2m:=⟨zCB fun s r h=>by cases h;exact zDe (yN (fn:=[]) (fr:=[]) trivial trivial) Tryz.func161 (by kernel_rfl) fun _ h=>z2J s.1 s.2 h,_,Tryz.func161,by kernel_rfl,by kernel_rfl⟩
def zOZ (s:List Bool) (t:P3):List Bool:=((s.set t.1.toNat true).set t.2.1.toNat true).set t.2.2.toNat true
def zCb (n:Nat) (l:List P3) (i:Nat):List Bool:=qA (fun s j=>zOZ s (l.getD j (0,0,0))) (List.replicate n false) i
theorem zK8 (n:Nat) (l:List P3): ∀ i,(zCb n l i).length=n
 | 0=>by simp [zCb,qA]
 | i+1=>by
   have:=zK8 n l i;unfold zCb at this ⊢;simp only [qA,zOZ,List.length_set];exact this
def loG (s:List Bool) (v:Nat):Option Wit:=if s.getD v false then none else some (5,(v:Int),0)
def loL (s:List Bool) (v:Nat):List Wit:=(List.range v).filterMap (loG s)
theorem z72 {s:List Bool} {i:Nat} (h:s.getD i false=true):loL s (i+1)=loL s i:=by
 rw [loL,qZ,loG,if_pos h];simp [loL]
theorem z7v {s:List Bool} {i:Nat} (h:s.getD i false=false):loL s (i+1)=loL s i++[(5,(i:Int),0)]:=by
 rw [loL,qZ,loG,if_neg (by rw [h];simp)];rfl
theorem z2b (s:List Bool) (i:Nat):(loL s i).length<=i:=zC6 _ _
def zT4 (n:Nat) (l:List P3):Spec Nat where
 inv x:=x<=l.length
 live x:=[(17,.s (.int .i64 x))]
 keep:=[1,3,15,16]
 heap x:=[(2,.row .bool 4 (zCb n l x))]
 keepH:=[0]
 mu x:=l.length - x
def zUC (n:Nat) (s:List Bool):Spec Nat where
 inv x:=x<=n
 live x:=[(32,.s (.int .i64 x)),(8,.s (.own 3 0 (loL s x).length))]
 keep:=[1,3,30,31]
 heap x:=[(3,.row zBW 91 (loL s x))]
 keepH:=[0,2]
 mu x:=n - x
def zHP (s:Int×List P3):List Wit:=loL (zCb s.1.toNat s.2 s.2.length) s.1.toNat
def zLM (s:Int×List P3):Prop:=0<=s.1/\s.1<=4096/\s.2.length<=8192/\∀ i,i<s.2.length->zCl s.1 (s.2.getD i (0,0,0))=true
theorem zXw {fn} (n:Int) (l:List P3) (hf:zLM (n,l)):zEt ⟨tyL,fn,[]⟩ Tryz.f164 [qP.av (n,l)] (fun v obs=>v= .s (.own 0 0 (zHP (n,l)).length)/\obs=[.row zBW 91 (zHP (n,l))]):=by
 obtain ⟨h1,h2,h3,h4⟩:=hf
 repeat' (conv=>whnf
          first|done|refine qN (by first|rfl|omega|(simp only [yP] at *;omega)) ?_|apply qH|refine qG fun _=> ?_|apply qB|apply qa|apply qo|refine qe (fun _=> ?_) (fun _=> ?_)|refine qn (fun _=> ?_) (fun _=> ?_)|refine qd (fun _=> ?_) (fun _=> ?_)|apply qt|refine qi (fun _=> ?_) (fun _=> ?_)|(refine qT 3 rfl ?_;refine Or.inr (zB (Nat) (zB (zT4 n.toNat l) (zA (zB (0) (zA (yK.out ?_) (zA ?_ (zA ?_ rfl)))) (fun x hx=> ?_)))))|(refine qT 6 rfl ?_;refine Or.inl (zB (4) ?_))|((with_reducible show (∃ y,And (Spec.inv (zT4 _ _) y) _));refine zB (x+1) (zA (yK.out ?_) (zA (zA ?_ (zA ?_ rfl)) (yK.out ?_))))|(refine qT 13 rfl ?_;refine Or.inr (zB (Nat) (zB (zUC n.toNat (zCb n.toNat l l.length)) (zA (zB (0) (zA (yK.out ?_) (zA ?_ (zA ?_ rfl)))) (fun y hy=> ?_)))))|((with_reducible show (∃ y,And (Spec.inv (zUC _ _) y) _));refine zB (y+1) (zA (yK.out ?_) (zA (zA ?_ (zA ?_ rfl)) (yK.out ?_))))|refine zA rfl ?_|apply qE|apply qO|exact zN|apply qq|apply qs|refine qK (by kernel_rfl) ?_|apply qr)
 all_goals try first|apply qz1|apply qz2|apply qz3|apply qz4|apply qz5|apply qz6|apply qz7|apply qz8|apply qz9|apply qz0
 all_goals try simp only [zZ,zR,yD,z6,qn1,zY,qn2,zX,ETy.dflt,qn3,qn4,Int.reduceToNat,Int.reduceAdd,Int.reduceSub,Int.reduceNeg,Nat.reduceAdd,zD,zT4,zUC] at *
 all_goals try (refine qh ?_;omega)
 all_goals try (have ht:=zAE (h4 x (by omega));refine qh ?_;(try simp only [zAZ h1]);omega)
 all_goals try (have e:x=l.length:=by omega)
 all_goals try subst e
 all_goals try (refine qh ?_;have:=z2b (zCb n.toNat l l.length) y;(try simp only [List.length_singleton]);omega)
 all_goals try (rw [z72 (by assumption)];done)
 all_goals try (rw [z7v (by assumption)];(try simp);done)
 all_goals try rfl
 all_goals (have e:y=n.toNat:=by omega
            subst e;rfl)
def zOp:List AV->Option zJf:=zEv qP (fun s=>some (none,some (zLM s),.s (.own 0 0 (zHP s).length),[.row zBW 91 (zHP s)]))
theorem zTw:zDE Tryz.prog 164 zOp:=⟨zCB fun s r h=>by cases h;exact zDe (yN (fn:=[]) (fr:=[]) trivial trivial) Tryz.func164 (by kernel_rfl) fun _ h=>zXw s.1 s.2 h,_,Tryz.func164,by kernel_rfl,by kernel_rfl⟩
end S1
open Go Go.Vm Go.Proofs
namespace S1
theorem qX {S:Type} {f:S->Nat->S} {s:S} (P:Nat->S->Prop) (h0:P 0 s) {n:Nat} (hs: ∀ i s,i<n->P i s->P (i+1) (f s i)): ∀ i,i<=n->P i (qA f s i)
 | 0,_=>h0
 | i+1,h=>hs i _ (by omega) (qX P h0 hs i (by omega))
def qQ (t:P3):List P3:=[(t.1,t.2.1,0),(t.2.1,t.2.2,0),(t.2.2,t.1,0)]
theorem zX5 {fn} (t:P3):zAF ⟨tyL,fn,[]⟩ Tryz.f180 [ETy.arr3.av t] (fun v=>v= .s (.sl .arr3 (qQ t))):=by
 repeat' (conv=>whnf
          first|done|refine qN (by first|rfl|omega|(simp only [yP] at *;omega)) ?_|apply qH|refine qG fun _=> ?_|apply qB|apply qa|apply qo|refine qe (fun _=> ?_) (fun _=> ?_)|refine qn (fun _=> ?_) (fun _=> ?_)|refine qd (fun _=> ?_) (fun _=> ?_)|apply qt|refine qi (fun _=> ?_) (fun _=> ?_)|refine zA rfl ?_|apply qE|apply qO|exact zN|apply qq|apply qs|refine qK (by kernel_rfl) ?_|apply qr)
 all_goals try first|apply qz1|apply qz2|apply qz3|apply qz4|apply qz5|apply qz6|apply qz7|apply qz8|apply qz9|apply qz0
 all_goals try simp only [zZ,zR,yD,z6,qn1,zY,qn2,zX,ETy.dflt,qn3,qn4,Int.reduceToNat,Int.reduceAdd,Int.reduceSub,Int.reduceNeg,Nat.reduceAdd,zD,qQ] at *
 rfl
def zP9:List AV->Option Res:=zEv .arr3 (fun t=>some (none,none,.s (.sl .arr3 (qQ t))))
theorem zYU:qL Tryz.prog 180 zP9:=⟨zAV fun t r h=>by cases h;exact qM (yN (fn:=[]) (fr:=[]) trivial trivial) Tryz.func180 (by kernel_rfl) fun _ _=>zX5 t,_,Tryz.func180,by kernel_rfl,by kernel_rfl⟩
abbrev zIU:=List (ETy.arr3.T×List Int)
abbrev z75:=List (ETy.arr2.T×ETy.bool.T)
abbrev PS:=z75×List Wit
def prA (kind:Int) (i:Nat) (av:List Int) (s:PS) (j:Nat):PS :=
 match (jS .arr2 s.1 (av.getD j 0,(i:Int))).getD false with
 | true=>s
 | false=>(zAB .arr2 s.1 (av.getD j 0,(i:Int)) true,s.2++[(kind,av.getD j 0,(i:Int))])
def zAH (h:zIU) (k:P3):List Int:=(jS .arr3 h k).getD []
def prK (kind:Int) (i:Nat) (ks:List P3) (s:zIU×PS) (m:Nat):zIU×PS :=
 (zAB .arr3 s.1 (ks.getD m (0,0,0)) (zAH s.1 (ks.getD m (0,0,0))++[(i:Int)]),qA (prA kind i (zAH s.1 (ks.getD m (0,0,0)))) s.2 (zAH s.1 (ks.getD m (0,0,0))).length)
def prI (kp:P3->List P3) (kind:Int) (l:List P3) (s:zIU×PS) (i:Nat):zIU×PS:=qA (prK kind i (kp (l.getD i (0,0,0)))) s (kp (l.getD i (0,0,0))).length
def prS (kp:P3->List P3) (kind:Int) (l:List P3) (i:Nat):zIU×PS:=qA (prI kp kind l) ([],[],[]) i
theorem zMg (h:zIU) (k:P3):Option.getD (jS .arr3 h k) []=zAH h k:=rfl
theorem zJo (h:zIU) (k:P3) (v:List Int):zAH (zAB .arr3 h k v) k=v:=by rw [zAH,zAQ];rfl
theorem z8K {kind:Int} {i:Nat} {av:List Int} {s:PS} {j:Nat} (h:(jS .arr2 s.1 (av.getD j 0,(i:Int))).getD false=true):qA (prA kind i av) s 0=s/\prA kind i av s j=s:=by
 refine ⟨rfl,?_⟩;unfold prA;rw [h]
theorem z8e {kind:Int} {i:Nat} {av:List Int} {s:PS} {j:Nat} (h:(jS .arr2 s.1 (av.getD j 0,(i:Int))).getD false=false) :
 prA kind i av s j=(zAB .arr2 s.1 (av.getD j 0,(i:Int)) true,s.2++[(kind,av.getD j 0,(i:Int))]):=by
 unfold prA;rw [h]
theorem zQS {kind:Int} {i:Nat} {av:List Int} {s:PS} {z:Nat} (h:(jS .arr2 (qA (prA kind i av) s z).1 (av.getD z 0,(i:Int))).getD false=true):qA (prA kind i av) s (z+1)=qA (prA kind i av) s z:=(z8K h).2
theorem zXk {kind:Int} {i:Nat} {av:List Int} {s:PS} {z:Nat} (h:(jS .arr2 (qA (prA kind i av) s z).1 (av.getD z 0,(i:Int))).getD false=false) :
 qA (prA kind i av) s (z+1)=(zAB .arr2 (qA (prA kind i av) s z).1 (av.getD z 0,(i:Int)) true,(qA (prA kind i av) s z).2++[(kind,av.getD z 0,(i:Int))]):=z8e h
theorem z6G (kind:Int) (i:Nat) (av:List Int) (s:PS) (j:Nat):(prA kind i av s j).2.length<=s.2.length+1:=by
 unfold prA;split
 ·omega
 ·simp
theorem zPB (kind:Int) (i:Nat) (av:List Int) (s:PS) (j:Nat):(qA (prA kind i av) s j).2.length<=s.2.length+j :=
 qX (n:=j) (fun j (t:PS)=>t.2.length<=s.2.length+j) (by simp) (fun j t _ h=>Nat.le_trans (z6G _ _ _ _ _) (by omega)) j (zI _)
def zQF (c b:Nat) (s:zIU×PS):Prop:=(∀ k,(zAH s.1 k).length<=c)/\s.2.2.length<=b
theorem zEG (h:zIU) (k:P3) (v:List Int) (k':P3):zAH (zAB .arr3 h k v) k'=if k=k' then v else zAH h k':=by
 unfold zAH;split
 ·rename_i e;subst e;rw [zAQ];rfl
 ·rename_i e;rw [zA1 _ e]
theorem z5f {kind:Int} {i c b:Nat} {ks:List P3} {s:zIU×PS} {m:Nat} (h:zQF c b s):zQF (c+1) (b+c) (prK kind i ks s m):=by
 refine ⟨fun k=> ?_,?_⟩
 ·show (zAH (zAB .arr3 s.1 _ _) k).length<=_;rw [zEG];split
  ·have:=h.1 (ks.getD m (0,0,0));rw [zO];simp only [List.length_singleton];omega
  ·have:=h.1 k;omega
 ·have:=zPB kind i (zAH s.1 (ks.getD m (0,0,0))) s.2 (zAH s.1 (ks.getD m (0,0,0))).length;have:=h.1 (ks.getD m (0,0,0));have:=h.2;show (qA (prA kind i (zAH s.1 (ks.getD m (0,0,0)))) s.2 (zAH s.1 (ks.getD m (0,0,0))).length).2.length<=_;omega
theorem zOm {kind:Int} {i:Nat} {ks:List P3} {c b:Nat} {s:zIU×PS} (h:zQF c b s) (hk:ks.length<=3): ∀ m,m<=ks.length->zQF (c+m) (b+m*(c+3)) (qA (prK kind i ks) s m) :=
 qX (fun m (t:zIU×PS)=>zQF (c+m) (b+m*(c+3)) t) (by simpa using h) fun m t hm ht=>by
  have:=z5f (kind:=kind) (i:=i) (ks:=ks) (m:=m) ht;refine ⟨fun k=>Nat.le_trans (this.1 k) (by omega),Nat.le_trans this.2 ?_⟩;rw [Nat.succ_mul];omega
theorem z1J (kp:P3->List P3) (hk: ∀ t,(kp t).length<=3) (kind:Int) (l:List P3) (i:Nat) (hi:i<=8192):zQF (3*i) (i*73737) (prS kp kind l i) :=
 qX (n:=8192) (fun i t=>zQF (3*i) (i*73737) t) ⟨fun k=>by simp [zAH,jS],by simp⟩ (fun i t hi h=>by
  have h1:=zOm (kind:=kind) (i:=i) h (hk (l.getD i (0,0,0))) _ (zI _);have h3:=hk (l.getD i (0,0,0));have h4:(kp (l.getD i (0,0,0))).length*(3*i+3)<=3*(3*i+3):=Nat.mul_le_mul_right _ h3
  exact ⟨fun k=>Nat.le_trans (h1.1 k) (by omega),Nat.le_trans h1.2 (Nat.le_trans (Nat.add_le_add_left h4 _) (by omega))⟩) i hi
def zFA (kp:P3->List P3) (kind:Int) (l:List P3):Spec Nat where
 inv x:=x<=l.length
 live x:=[(22,.s (.int .i64 x)),(7,.s (.own 2 0 (prS kp kind l x).2.2.length))]
 keep:=[1,2,3,8,9,20,21]
 heap x:=[(2,.row zBW 91 (prS kp kind l x).2.2),(3,.gmap .arr3 (.int .i64) (prS kp kind l x).1),(4,.map .arr2 .bool (prS kp kind l x).2.1)]
 keepH:=[0]
 mu x:=l.length - x
def zEx (kind:Int) (i:Nat) (ks:List P3) (s:zIU×PS):Spec Nat where
 inv x:=x<=ks.length
 live x:=[(31,.s (.int .i64 x)),(7,.s (.own 2 0 (qA (prK kind i ks) s x).2.2.length))]
 keep:=[1,2,3,8,9,10,11,20,21,22,29,30]
 heap x:=[(2,.row zBW 91 (qA (prK kind i ks) s x).2.2),(3,.gmap .arr3 (.int .i64) (qA (prK kind i ks) s x).1),(4,.map .arr2 .bool (qA (prK kind i ks) s x).2.1)]
 keepH:=[0,5]
 mu x:=ks.length - x
def zK9 (kind:Int) (i:Nat) (av:List Int) (s:PS):Spec Nat where
 inv x:=x<=av.length
 live x:=[(39,.s (.int .i64 x)),(7,.s (.own 2 0 (qA (prA kind i av) s x).2.length))]
 keep:=[1,2,3,8,9,10,11,13,20,21,22,29,30,31,37,38]
 heap x:=[(2,.row zBW 91 (qA (prA kind i av) s x).2),(4,.map .arr2 .bool (qA (prA kind i av) s x).1)]
 keepH:=[0,3,5,6]
 mu x:=av.length - x
theorem zSd (n kind:Int) (l:List P3) (hb:l.length<=8192):zEt ⟨tyL,[(180,zP9)],[]⟩ Tryz.f179 [qP.av (n,l),(ETy.int .i64).av kind,ETy.fnc.av (some 180)] (fun v obs=>v= .s (.own 0 0 (prS qQ kind l l.length).2.2.length)/\obs=[.row zBW 91 (prS qQ kind l l.length).2.2]):=by
 have hS:=fun x (h:x<=8192)=>z1J qQ (fun _=>zI 3) kind l x h
 repeat' (conv=>whnf
          first|done|refine qN (by first|rfl|omega|(simp only [yP] at *;omega)) ?_|apply qH|refine qG fun _=> ?_|apply qB|apply qa|apply qo|refine qe (fun _=> ?_) (fun _=> ?_)|refine qn (fun _=> ?_) (fun _=> ?_)|refine qd (fun _=> ?_) (fun _=> ?_)|apply qt|refine qi (fun _=> ?_) (fun _=> ?_)|(refine qT 5 rfl ?_;refine Or.inr (zB (Nat) (zB (zFA qQ kind l) (zA (zB (0) (zA (yK.out ?_) (zA ?_ (zA ?_ rfl)))) (fun x hx=> ?_)))))|((with_reducible show (∃ y,And (Spec.inv (zFA _ _ _) y) _));refine zB (x+1) (zA (yK.out ?_) (zA (zA ?_ (zA ?_ rfl)) (yK.out ?_))))|(refine qT 8 rfl ?_;refine Or.inr (zB (Nat) (zB (zEx kind x (qQ (l.getD x (0,0,0))) (prS qQ kind l x)) (zA (zB (0) (zA (yK.out ?_) (zA ?_ (zA ?_ rfl)))) (fun y hy=> ?_)))))|((with_reducible show (∃ y,And (Spec.inv (zEx _ _ _ _) y) _));refine zB (y+1) (zA (yK.out ?_) (zA (zA ?_ (zA ?_ rfl)) (yK.out ?_))))|(refine qT 11 rfl ?_;refine Or.inr (zB (Nat) (zB (zK9 kind x (zAH (qA (prK kind x (qQ (l.getD x (0,0,0)))) (prS qQ kind l x) y).1 ((qQ (l.getD x (0,0,0))).getD y (0,0,0))) (qA (prK kind x (qQ (l.getD x (0,0,0)))) (prS qQ kind l x) y).2) (zA (zB (0) (zA (yK.out ?_) (zA ?_ (zA ?_ rfl)))) (fun z hz=> ?_)))))|((with_reducible show (∃ y,And (Spec.inv (zK9 _ _ _ _) y) _));refine zB (z+1) (zA (yK.out ?_) (zA (zA ?_ (zA ?_ rfl)) (yK.out ?_))))|refine zA rfl ?_|apply qE|apply qO|exact zN|apply qq|apply qs|refine qK (by kernel_rfl) ?_|apply qr)
 all_goals try first|apply qz1|apply qz2|apply qz3|apply qz4|apply qz5|apply qz6|apply qz7|apply qz8|apply qz9|apply qz0
 all_goals try simp only [zZ,zR,yD,z6,qn1,zY,qn2,zX,ETy.dflt,qn3,qn4,Int.reduceToNat,Int.reduceAdd,Int.reduceSub,Int.reduceNeg,Nat.reduceAdd,zD,zFA,zEx,zK9,zDA,zMg,zJo] at *
 all_goals try (refine qh ?_;omega)
 all_goals try (rw [zQS (by assumption)];done)
 all_goals try (rw [zXk (by assumption)];(try simp);done)
 all_goals try first
  | (have e:z=(zAH (qA (prK kind x (qQ (l.getD x (0,0,0)))) (prS qQ kind l x) y).1 ((qQ (l.getD x (0,0,0))).getD y (0,0,0))).length:=by omega
     subst e;first|rfl|(rw [zDA,zAQ];rfl))
  | (have e:y=(qQ (l.getD x (0,0,0))).length:=by omega
     subst e;rfl)
  | (have e:x=l.length:=by omega
     subst e;rfl)
 all_goals
  have hB:=zOm (kind:=kind) (i:=x) (ks:=qQ (l.getD x (0,0,0))) (hS x (by omega)) (zI 3) y (by omega);have h1:=hB.1 ((qQ (l.getD x (0,0,0))).getD y (0,0,0));have h2:=hB.2;have h3:=zPB kind x (zAH (qA (prK kind x (qQ (l.getD x (0,0,0)))) (prS qQ kind l x) y).1 ((qQ (l.getD x (0,0,0))).getD y (0,0,0))) (qA (prK kind x (qQ (l.getD x (0,0,0)))) (prS qQ kind l x) y).2 z;have h4:y<=3:=hy;have h5:y*(3*x+3)<=3*(3*x+3):=Nat.mul_le_mul_right _ h4
  refine qh ?_;generalize y*(3*x+3)=q at *
 ·omega
 ·unfold zBV;simp only [z8,List.take_zero,List.length_nil];omega
def zME:List AV->Option zJf:=zOh qP (.int .i64) .fnc (fun s kind f=>match f with
 | some 180=>some (none,some (s.2.length<=8192),.s (.own 0 0 (prS qQ kind s.2 s.2.length).2.2.length),[.row zBW 91 (prS qQ kind s.2 s.2.length).2.2])
 | _=>none)
end S1
open Go Go.Vm Go.Proofs
namespace S1
abbrev zC4:=List ((ETy.int .i64).T×List Int)
abbrev ReM:=List ((ETy.int .i64).T×ETy.bool.T)
def zAu (m:zC4) (w:Int):List Int:=(jS (.int .i64) m w).getD []
theorem zXb (m:zC4) (w:Int):(jS (.int .i64) m w).getD []=zAu m w:=rfl
theorem zED (h:zC4) (k:Int) (v:List Int) (k':Int):zAu (zAB (.int .i64) h k v) k'=if k=k' then v else zAu h k':=by
 unfold zAu;split
 ·rename_i e;subst e;rw [zAQ];rfl
 ·rename_i e;rw [zA1 _ e]
theorem zSg (h:zC4) (k:Int) (v:List Int):zAu (zAB (.int .i64) h k v) k=v:=by rw [zED,if_pos rfl]
def trl (t:P3):List Int:=[t.1,t.2.1,t.2.2]
def tri (l:List P3) (i:Int):P3:=l.getD i.toNat (0,0,0)
theorem z2c (t:P3):[t.1,t.2.1,t.2.2]=trl t:=rfl
theorem z3v (l:List P3) (i:Int):l.getD i.toNat (0,0,0)=tri l i:=rfl
def enW (v i:Int) (t:P3) (m:zC4) (k:Nat):zC4:=if (trl t).getD k 0=v then m else zAB (.int .i64) m ((trl t).getD k 0) (zAu m ((trl t).getD k 0)++[i])
def enT (l:List P3) (v:Int) (tris:List Int) (m:zC4) (j:Nat):zC4:=qA (enW v (tris.getD j 0) (tri l (tris.getD j 0))) m 3
def enA (l:List P3) (v:Int) (tris:List Int) (j:Nat):zC4:=qA (enT l v tris) [] j
theorem z0k {v i:Int} {t:P3} {m:zC4} {k:Nat} (h:(trl t).getD k 0=v):qA (enW v i t) m (k+1)=qA (enW v i t) m k:=by
 show enW v i t (qA (enW v i t) m k) k=_;rw [enW,if_pos h]
theorem z4E {v i:Int} {t:P3} {m:zC4} {k:Nat} (h:(trl t).getD k 0≠v):qA (enW v i t) m (k+1)=zAB (.int .i64) (qA (enW v i t) m k) ((trl t).getD k 0) (zAu (qA (enW v i t) m k) ((trl t).getD k 0)++[i]):=by
 show enW v i t (qA (enW v i t) m k) k=_;rw [enW,if_neg h]
def zX2 (tris:List Int) (c:Nat) (m:zC4):Prop:= ∀ w,(zAu m w).length<=c/\∀ x∈zAu m w,x∈tris
theorem z6n {v i:Int} {t:P3} {tris:List Int} {c:Nat} {m:zC4} {k:Nat} (h:zX2 tris c m) (hi:i∈tris):zX2 tris (c+1) (enW v i t m k):=by
 intro w;unfold enW;split
 ·exact ⟨by have:=(h w).1;omega,(h w).2⟩
 ·rw [zED];split
  ·have:=h ((trl t).getD k 0);refine ⟨by rw [zO];simp only [List.length_singleton];omega,fun x hx=> ?_⟩;rw [yC,zF] at hx;rcases hx with hx|rfl
   ·exact this.2 x hx
   ·exact hi
  ·exact ⟨by have:=(h w).1;omega,(h w).2⟩
theorem zUF {v i:Int} {t:P3} {tris:List Int} {c:Nat} {m:zC4} (h:zX2 tris c m) (hi:i∈tris) (k:Nat):zX2 tris (c+k) (qA (enW v i t) m k) :=
 qX (n:=k) (fun k (m:zC4)=>zX2 tris (c+k) m) h (fun k _ _ hm=>z6n (k:=k) hm hi) k (zI _)
theorem jA {l:List Int} {j:Nat} (h:j<l.length):l.getD j 0∈l:=by
 rw [gdE,gE h];exact yU h
theorem zWd (l:List P3) (v:Int) (tris:List Int): ∀ j,j<=tris.length->zX2 tris (3*j) (enA l v tris j) :=
 qX (fun j (m:zC4)=>zX2 tris (3*j) m) (fun w=>⟨by simp [zAu,jS],by simp [zAu,jS]⟩) fun j m hj h=>zUF h (jA hj) 3
abbrev TgS:=Nat×List Int×ReM
def had (m:ReM) (k:Int):Bool:=(jS (.int .i64) m k).getD false
theorem z2a (m:ReM) (k:Int):(jS (.int .i64) m k).getD false=had m k:=rfl
theorem z0C (m:ReM) (k:Int): @Option.getD Bool (@jS (.int .i64) Bool m k) false=had m k:=rfl
theorem zFT (m:ReM) (k k':Int):had (zAB (.int .i64) m k true) k'=if k=k' then true else had m k':=by
 unfold had;split
 ·rename_i e;subst e;rw [zAQ];rfl
 ·rename_i e;rw [zA1 _ e]
def vis (av:List Int) (S:TgS) (j:Nat):TgS:=if had S.2.2 (av.getD j 0)=true then S else (0,S.2.1.drop S.1++[av.getD j 0],zAB (.int .i64) S.2.2 (av.getD j 0) true)
theorem z0h {av:List Int} {S:TgS} {j:Nat} (h:had (qA (vis av) S j).2.2 (av.getD j 0)=true):qA (vis av) S (j+1)=qA (vis av) S j:=by
 show vis av (qA (vis av) S j) j=_;rw [vis,if_pos h]
theorem z4x {av:List Int} {S:TgS} {j:Nat} (h:had (qA (vis av) S j).2.2 (av.getD j 0)=false) :
 qA (vis av) S (j+1)=(0,(qA (vis av) S j).2.1.drop (qA (vis av) S j).1++[av.getD j 0],zAB (.int .i64) (qA (vis av) S j).2.2 (av.getD j 0) true):=by
 show vis av (qA (vis av) S j) j=_;rw [vis,if_neg (by rw [h];simp)]
def tgW (E:zC4) (v:Int) (t:P3) (S:TgS) (k:Nat):TgS:=if (trl t).getD k 0=v then S else qA (vis (zAu E ((trl t).getD k 0))) S (zAu E ((trl t).getD k 0)).length
theorem zZ7 {E:zC4} {v:Int} {t:P3} {S:TgS} {k:Nat} (h:(trl t).getD k 0=v):qA (tgW E v t) S (k+1)=qA (tgW E v t) S k:=by
 show tgW E v t (qA (tgW E v t) S k) k=_;rw [tgW,if_pos h]
theorem z4j {E:zC4} {v:Int} {t:P3} {S:TgS} {k:Nat} (h:(trl t).getD k 0≠v):qA (tgW E v t) S (k+1)=qA (vis (zAu E ((trl t).getD k 0))) (qA (tgW E v t) S k) (zAu E ((trl t).getD k 0)).length:=by
 show tgW E v t (qA (tgW E v t) S k) k=_;rw [tgW,if_neg h]
def tgR (E:zC4) (l:List P3) (v:Int) (S:TgS) (_:Nat):TgS:=if S.1<S.2.1.length then qA (tgW E v (tri l (S.2.1.getD S.1 0))) (S.1+1,S.2.1,S.2.2) 3 else S
def tgS (E:zC4) (l:List P3) (v x0:Int) (r:Nat):TgS:=qA (tgR E l v) (0,[x0],[(x0,true)]) r
def unr (tris:List Int) (m:ReM):Nat:=(tris.filter fun k=> !had m k).length
def meas (tris:List Int) (S:TgS):Nat:=(S.2.1.length - S.1)+unr tris S.2.2
def zQv (tris:List Int) (S:TgS):Prop:=S.1<=S.2.1.length/\(∀ x∈S.2.1,x∈tris)/\S.2.2.length+unr tris S.2.2<=tris.length+1
theorem zRd {k:ETy} {V:Type} (v:V) (q:k.T): ∀ m:List (k.T×V),(zAB k m q v).length<=m.length+1
 | []=>by simp [zAB]
 | (x,y)::r=>by
   simp only [zAB];split
   ·simp
   ·have:=zRd v q r;simp only [z8];omega
theorem zU0 {α:Type} {p q:α->Bool} (h: ∀ x,q x=true->p x=true): ∀ l:List α,(l.filter q).length<=(l.filter p).length
 | []=>zI _
 | a ::l=>by
   have:=zU0 h l
   by_cases hq:q a=true
   ·rw [List.filter_cons_of_pos hq,List.filter_cons_of_pos (h a hq)];simp only [z8];omega
   ·rw [List.filter_cons_of_neg hq]
    by_cases hp:p a=true
    ·rw [List.filter_cons_of_pos hp];simp only [z8];omega
    ·rw [List.filter_cons_of_neg hp];exact this
theorem zL0 {α:Type} {p q:α->Bool} (h: ∀ x,q x=true->p x=true) {a:α} (hp:p a=true) (hq: ¬ q a=true): ∀ {l:List α},a∈l->(l.filter q).length+1<=(l.filter p).length
 | b ::l,hm=>by
   rcases zT.1 hm with e|hm
   ·subst e;rw [List.filter_cons_of_pos hp,List.filter_cons_of_neg hq];have:=zU0 h l;simp only [z8];omega
   ·have:=zL0 h hp hq hm
    by_cases hq':q b=true
    ·rw [List.filter_cons_of_pos hq',List.filter_cons_of_pos (h b hq')];simp only [z8];omega
    ·rw [List.filter_cons_of_neg hq']
     by_cases hp':p b=true
     ·rw [List.filter_cons_of_pos hp'];simp only [z8];omega
     ·rw [List.filter_cons_of_neg hp'];exact this
theorem zTs {tris:List Int} {m:ReM} {k:Int} (hk:k∈tris) (h:had m k=false):unr tris (zAB (.int .i64) m k true)+1<=unr tris m:=by
 refine zL0 (fun x hx=> ?_) (a:=k) (by rw [h];rfl) (by rw [zFT,if_pos rfl];simp) hk;rw [zFT] at hx;split at hx
 ·simp at hx
 ·exact hx
theorem z5p {tris av:List Int} {S:TgS} {j:Nat} (h:zQv tris S) (hj:j<av.length) (ha: ∀ x∈av,x∈tris):zQv tris (vis av S j)/\meas tris (vis av S j)<=meas tris S:=by
 unfold vis;split
 ·exact ⟨h,zI _⟩
 ·rename_i hh;have hm:=ha _ (jA hj);refine ⟨⟨Nat.zero_le _,fun x hx=> ?_,?_⟩,?_⟩
  ·rw [yC,zF] at hx;rcases hx with hx|rfl
   ·exact h.2.1 x (List.mem_of_mem_drop hx)
   ·exact hm
  ·have:=zTs hm (by simpa using hh);have:=zRd (k:= .int .i64) true (av.getD j 0) S.2.2;have:=h.2.2;show (zAB (.int .i64) S.2.2 (av.getD j 0) true).length+unr tris (zAB (.int .i64) S.2.2 (av.getD j 0) true)<=_;omega
  ·have:=zTs hm (by simpa using hh);show ((S.2.1.drop S.1++[av.getD j 0]).length - 0)+unr tris (zAB (.int .i64) S.2.2 (av.getD j 0) true)<=meas tris S;rw [zO,List.length_drop,List.length_singleton];unfold meas;omega
theorem zVQ {tris av:List Int} {S:TgS} (h:zQv tris S) (ha: ∀ x∈av,x∈tris): ∀ j,j<=av.length->zQv tris (qA (vis av) S j)/\meas tris (qA (vis av) S j)<=meas tris S :=
 qX (fun _ (T:TgS)=>zQv tris T/\meas tris T<=meas tris S) ⟨h,zI _⟩ fun j T hj hT=>let ⟨a,b⟩:=z5p (j:=j) hT.1 hj ha;⟨a,Nat.le_trans b hT.2⟩
theorem zRL {tris:List Int} {E:zC4} {c:Nat} (hE:zX2 tris c E) {v:Int} {t:P3} {S:TgS} (h:zQv tris S) (k:Nat):zQv tris (qA (tgW E v t) S k)/\meas tris (qA (tgW E v t) S k)<=meas tris S :=
 qX (n:=k) (fun _ (T:TgS)=>zQv tris T/\meas tris T<=meas tris S) ⟨h,zI _⟩ (fun j T _ hT=>by
  unfold tgW;split
  ·exact hT
  ·obtain ⟨a,b⟩:=zVQ hT.1 (hE _).2 _ (zI _)
   exact ⟨a,Nat.le_trans b hT.2⟩) k (zI _)
theorem zQs {tris:List Int} {S:TgS} (h:zQv tris S) (hs:S.1<S.2.1.length):zQv tris (S.1+1,S.2.1,S.2.2)/\meas tris (S.1+1,S.2.1,S.2.2)+1<=meas tris S :=
 ⟨⟨hs,h.2⟩,by unfold meas;show S.2.1.length - (S.1+1)+unr tris S.2.2+1<=_;omega⟩
theorem z14 {tris:List Int} {E:zC4} {c:Nat} (hE:zX2 tris c E) {l:List P3} {v:Int} {S:TgS} {r:Nat} (h:zQv tris S):zQv tris (tgR E l v S r)/\(meas tris (tgR E l v S r)<=meas tris S)/\(S.1<S.2.1.length->meas tris (tgR E l v S r)+1<=meas tris S):=by
 unfold tgR;split
 ·rename_i hs;obtain ⟨a,b⟩:=zQs h hs;obtain ⟨c,d⟩:=zRL hE (v:=v) (t:=tri l (S.2.1.getD S.1 0)) a 3;exact ⟨c,by omega,fun _=>by omega⟩
 ·rename_i hs;exact ⟨h,zI _,fun e=>absurd e hs⟩
theorem z4f {tris:List Int} {x0:Int} (_:x0∈tris):([(x0,true)]:ReM).length+unr tris [(x0,true)]<=tris.length+1:=by
 have:unr tris [(x0,true)]<=tris.length:=List.length_filter_le _ _;simp only [List.length_singleton];omega
theorem zIr {tris:List Int} {x0:Int} :meas tris (0,[x0],[(x0,true)])<=tris.length+1:=by
 have:unr tris [(x0,true)]<=tris.length:=List.length_filter_le _ _;show 1+unr tris [(x0,true)]<=_;omega
theorem z1C {tris:List Int} {E:zC4} {c:Nat} (hE:zX2 tris c E) {l:List P3} {v x0:Int} (hx:x0∈tris) (r:Nat):zQv tris (tgS E l v x0 r)/\meas tris (tgS E l v x0 r)<=meas tris (0,[x0],[(x0,true)]) :=
 qX (n:=r) (fun _ (T:TgS)=>zQv tris T/\meas tris T<=meas tris (0,[x0],[(x0,true)])) ⟨⟨Nat.zero_le _,fun x hx'=>by rw [zF] at hx';rw [hx'];exact hx,z4f hx⟩,zI _⟩
  (fun j T _ hT=>let ⟨a,b,_⟩:=z14 (r:=j) hE hT.1;⟨a,Nat.le_trans b hT.2⟩) r (zI _)
theorem zM3 {E:zC4} {l:List P3} {v x0:Int} {r:Nat} (h: ¬ (tgS E l v x0 r).1<(tgS E l v x0 r).2.1.length): ∀ d,tgS E l v x0 (r+d)=tgS E l v x0 r
 | 0=>rfl
 | d+1=>by
   show tgR E l v (tgS E l v x0 (r+d)) (r+d)=_;rw [zM3 h d,tgR,if_neg h]
theorem zYI {E:zC4} {l:List P3} {v x0:Int} {r:Nat} (h:(tgS E l v x0 r).1<(tgS E l v x0 r).2.1.length) :
 tgS E l v x0 (r+1)=qA (tgW E v (tri l ((tgS E l v x0 r).2.1.getD (tgS E l v x0 r).1 0))) ((tgS E l v x0 r).1+1,(tgS E l v x0 r).2.1,(tgS E l v x0 r).2.2) 3:=by
 show tgR E l v (tgS E l v x0 r) r=_;rw [tgR,if_pos h]
def tgP (S:TgS):TgS:=(S.1+1,S.2.1,S.2.2)
def tgT (l:List P3) (S:TgS):P3:=tri l (S.2.1.getD S.1 0)
def zTF (l:List P3) (v:Int) (tris:List Int):Bool:=(((tgS (enA l v tris tris.length) l v (tris.getD 0 0) (2*tris.length+2)).2.2.length:Int)==(tris.length:Int))
def zYS (l:List P3) (v:Int) (tris:List Int):Spec Nat where
 inv x:=x<=tris.length
 live x:=[(22,.s (.int .i64 x))]
 keep:=[1,2,3,7,20,21]
 heap x:=[(1,.gmap (.int .i64) (.int .i64) (enA l v tris x))]
 keepH:=[0]
 mu x:=tris.length - x
def zVh (l:List P3) (v:Int) (tris:List Int) (j:Nat):Spec Nat where
 inv x:=x<=3
 live x:=[(31,.s (.int .i64 x))]
 keep:=[1,2,3,7,9,20,21,22,30]
 heap x:=[(1,.gmap (.int .i64) (.int .i64) (qA (enW v (tris.getD j 0) (tri l (tris.getD j 0))) (enA l v tris j) x))]
 keepH:=[0]
 mu x:=3 - x
def zXv (E:zC4) (l:List P3) (v x0:Int) (tris:List Int):Spec Nat where
 inv x:=x+meas tris (tgS E l v x0 x)<=2*tris.length+2
 live x:=[(13,.s (.own 3 (tgS E l v x0 x).1 ((tgS E l v x0 x).2.1.length - (tgS E l v x0 x).1)))]
 keep:=[1,2,3,7,12]
 heap x:=[(2,.map (.int .i64) .bool (tgS E l v x0 x).2.2),(3,.row (.int .i64) 3 (tgS E l v x0 x).2.1)]
 keepH:=[0,1]
 mu x:=meas tris (tgS E l v x0 x)
def zWP (E:zC4) (v:Int) (t:P3) (S:TgS):Spec Nat where
 inv x:=x<=3
 live x:=[(69,.s (.int .i64 x)),(13,.s (.own 3 (qA (tgW E v t) S x).1 ((qA (tgW E v t) S x).2.1.length - (qA (tgW E v t) S x).1)))]
 keep:=[1,2,3,7,12,14,68]
 heap x:=[(2,.map (.int .i64) .bool (qA (tgW E v t) S x).2.2),(3,.row (.int .i64) 3 (qA (tgW E v t) S x).2.1)]
 keepH:=[0,1]
 mu x:=3 - x
def zW7 (av:List Int) (S:TgS):Spec Nat where
 inv x:=x<=av.length
 live x:=[(79,.s (.int .i64 x)),(13,.s (.own 3 (qA (vis av) S x).1 ((qA (vis av) S x).2.1.length - (qA (vis av) S x).1)))]
 keep:=[1,2,3,7,12,14,68,69,77,78]
 heap x:=[(2,.map (.int .i64) .bool (qA (vis av) S x).2.2),(3,.row (.int .i64) 3 (qA (vis av) S x).2.1)]
 keepH:=[0,1]
 mu x:=av.length - x
theorem zU2 {α:Type} (l:List α) (s:Nat):List.take (l.length - s) (List.drop s l)=List.drop s l:=List.take_of_length_le (by simp)
def z8l (l:List P3) (tris:List Int):Prop:=l.length<=8192/\tris.length<=24576/\tris≠[]/\∀ x∈tris,0<=x/\x<l.length
theorem z6T {fn} (n v:Int) (l:List P3) (tris:List Int) (hf:z8l l tris):zAF ⟨tyL,fn,[]⟩ Tryz.f182 [qP.av (n,l),(ETy.int .i64).av v,(ETy.sl (.int .i64)).av tris] (fun r=>r= .s (.bool (zTF l v tris))):=by
 obtain ⟨h1,h2,h3,h4⟩:=hf;have h5:0<tris.length:=List.length_pos_iff.2 h3
 repeat' (conv=>whnf
          first|done|refine qN (by first|rfl|omega|(simp only [yP] at *;omega)) ?_|apply qH|refine qG fun _=> ?_|apply qB|apply qa|apply qo|refine qe (fun _=> ?_) (fun _=> ?_)|refine qn (fun _=> ?_) (fun _=> ?_)|refine qd (fun _=> ?_) (fun _=> ?_)|apply qt|refine qi (fun _=> ?_) (fun _=> ?_)|(refine qT 3 rfl ?_;refine Or.inr (zB (Nat) (zB (zYS l v tris) (zA (zB (0) (zA (yK.out ?_) (zA ?_ (zA ?_ rfl)))) (fun x hx=> ?_)))))|((with_reducible show (∃ y,And (Spec.inv (zYS _ _ _) y) _));refine zB (x+1) (zA (yK.out ?_) (zA (zA ?_ (zA ?_ rfl)) (yK.out ?_))))|(refine qT 6 rfl ?_;refine Or.inr (zB (Nat) (zB (zVh l v tris x) (zA (zB (0) (zA (yK.out ?_) (zA ?_ (zA ?_ rfl)))) (fun y hy=> ?_)))))|((with_reducible show (∃ y,And (Spec.inv (zVh _ _ _ _) y) _));refine zB (y+1) (zA (yK.out ?_) (zA (zA ?_ (zA ?_ rfl)) (yK.out ?_))))|(refine qT 14 rfl ?_;refine Or.inr (zB (Nat) (zB (zXv (enA l v tris tris.length) l v (tris.getD 0 0) tris) (zA (zB (0) (zA (yK.out ?_) (zA ?_ (zA ?_ rfl)))) (fun z hz=> ?_)))))|((with_reducible show (∃ y,And (Spec.inv (zXv _ _ _ _ _) y) _));refine zB (z+1) (zA (yK.out ?_) (zA (zA ?_ (zA ?_ rfl)) (yK.out ?_))))|(refine qT 18 rfl ?_;refine Or.inr (zB (Nat) (zB (zWP (enA l v tris tris.length) v (tgT l (tgS (enA l v tris tris.length) l v (tris.getD 0 0) z)) (tgP (tgS (enA l v tris tris.length) l v (tris.getD 0 0) z))) (zA (zB (0) (zA (yK.out ?_) (zA ?_ (zA ?_ rfl)))) (fun k hk=> ?_)))))|((with_reducible show (∃ y,And (Spec.inv (zWP _ _ _ _) y) _));refine zB (k+1) (zA (yK.out ?_) (zA (zA ?_ (zA ?_ rfl)) (yK.out ?_))))|(refine qT 22 rfl ?_;refine Or.inr (zB (Nat) (zB (zW7 (zAu (enA l v tris tris.length) ((trl (tgT l (tgS (enA l v tris tris.length) l v (tris.getD 0 0) z))).getD k 0)) (qA (tgW (enA l v tris tris.length) v (tgT l (tgS (enA l v tris tris.length) l v (tris.getD 0 0) z))) (tgP (tgS (enA l v tris tris.length) l v (tris.getD 0 0) z)) k)) (zA (zB (0) (zA (yK.out ?_) (zA ?_ (zA ?_ rfl)))) (fun j hj=> ?_)))))|((with_reducible show (∃ y,And (Spec.inv (zW7 _ _) y) _));refine zB (j+1) (zA (yK.out ?_) (zA (zA ?_ (zA ?_ rfl)) (yK.out ?_))))|refine zA rfl ?_|apply qE|apply qO|exact zN|apply qq|apply qs|refine qK (by kernel_rfl) ?_|apply qr)
 all_goals try first|apply qz1|apply qz2|apply qz3|apply qz4|apply qz5|apply qz6|apply qz7|apply qz8|apply qz9|apply qz0
 all_goals try simp only [zZ,zR,yD,z6,qn1,zY,qn2,zX,ETy.dflt,qn3,qn4,Int.reduceToNat,Int.reduceAdd,Int.reduceSub,Int.reduceNeg,Nat.reduceAdd,zD,zYS,zVh,zXv,zWP,zW7,z2c,z3v,tgT,tgP,Nat.add_zero,zDA,zXb,zSg,z2a,z0C,zU2] at *
 all_goals try (refine qh ?_;omega)
 all_goals try (rw [z0k (by assumption)];done)
 all_goals try (rw [z4E (by assumption)];(try rfl);done)
 all_goals try (have e:x=tris.length:=by omega)
 all_goals try subst e
 all_goals try (refine qh ?_;omega)
 all_goals try (rw [zZ7 (by assumption)];done)
 all_goals try (rw [z0h (by assumption)];done)
 all_goals try (rw [z4x (by assumption)];(try simp);done)
 all_goals try (have e:j=(zAu (enA l v tris tris.length) ((trl (tgT l (tgS (enA l v tris tris.length) l v (tris.getD 0 0) z))).getD k 0)).length:=by (unfold tgT;omega)
                subst e;rw [z4j (by assumption)];rfl)
 ·exact qh (h4 _ (jA (by omega)))
 ·have:=(zUF (zWd l v tris x (by omega)) (jA (l:=tris) (j:=x) (by omega)) (v:=v) (t:=tri l (tris.getD x 0)) y ((trl (tri l (tris.getD x 0))).getD y 0)).1;refine yK.intro ⟨?_,trivial⟩;unfold zBV;simp only [z8,List.replicate_zero,List.length_nil];omega
 ·have e:y=3:=by omega
  subst e;rfl
 ·have:=zIr (tris:=tris) (x0:=tris.getD 0 0);refine qh ?_;show meas tris (0,[tris.getD 0 0],[(tris.getD 0 0,true)])<=_;omega
 all_goals
  have hE:=zWd l v tris tris.length (zI _);obtain ⟨hS1,hS2⟩:=z1C hE (l:=l) (v:=v) (jA h5) z;have hS3:=zIr (tris:=tris) (x0:=tris.getD 0 0)
 ·exact qh (h4 _ (hS1.2.1 _ (jA (by omega))))
 ·have hP:=zQs hS1 (by omega);have hW:=zRL hE (v:=v) (t:=tgT l (tgS (enA l v tris tris.length) l v (tris.getD 0 0) z)) hP.1 k;have hV:=zVQ hW.1 (hE ((trl (tgT l (tgS (enA l v tris tris.length) l v (tris.getD 0 0) z))).getD k 0)).2 j (by assumption);have hM:=Nat.le_trans hV.2 hW.2;have hL: ∀ S:TgS,S.2.1.length - S.1<=meas tris S:=fun S=>Nat.le_add_right _ _;have hN:=Nat.le_trans (hL _) hM;refine qh ?_
  simp only [tgT,zX] at hN;have hP2:=hP.2;simp only [zX] at hP2;omega
 all_goals try (have e:k=3:=by omega)
 all_goals try subst e
 all_goals try (rw [zYI (by omega)];done)
 ·have hP:=zQs hS1 (by omega);have hW:=zRL hE (v:=v) (t:=tri l ((tgS (enA l v tris tris.length) l v (tris.getD 0 0) z).2.1.getD (tgS (enA l v tris tris.length) l v (tris.getD 0 0) z).1 0)) hP.1 3;rw [<- zYI (by omega)] at hW;exact qh (by omega)
 ·have hP:=zQs hS1 (by omega);have hW:=zRL hE (v:=v) (t:=tri l ((tgS (enA l v tris tris.length) l v (tris.getD 0 0) z).2.1.getD (tgS (enA l v tris tris.length) l v (tris.getD 0 0) z).1 0)) hP.1 3;rw [<- zYI (by omega)] at hW;exact qh (by omega)
 ·have:=hS1.2.2;exact qh (by omega)
 ·have:=zM3 (E:=enA l v tris tris.length) (l:=l) (v:=v) (x0:=tris.getD 0 0) (r:=z) (by omega) (2*tris.length+2 - z);rw [show z+(2*tris.length+2 - z)=2*tris.length+2 by omega] at this;rw [zTF,this]
attribute [irreducible] zTF
def z7d:List AV->Option Res:=zOh qP (.int .i64) (.sl (.int .i64)) (fun s v tris=>some (none,some (z8l s.2 tris),.s (.bool (zTF s.2 v tris))))
theorem z5u:qL Tryz.prog 182 z7d:=⟨zDV fun s v tris r h=>by cases h;exact qM (yN (fn:=[]) (fr:=[]) trivial trivial) Tryz.func182 (by kernel_rfl) fun _ h=>z6T s.1 v s.2 tris h,_,Tryz.func182,by kernel_rfl,by kernel_rfl⟩
end S1
open Go Go.Vm Go.Proofs
namespace S1
def z7 (t:P3) (v:Int):Prop:=t.1=v\/t.2.1=v\/t.2.2=v
def atP (s:List (List Int)) (w:Int) (j:Nat):List (List Int):=s.set w.toNat (s.getD w.toNat []++[(j:Int)])
def at3 (s:List (List Int)) (t:P3) (j:Nat):List (List Int):=atP (atP (atP s t.1 j) t.2.1 j) t.2.2 j
def atF (n:Nat) (l:List P3) (i:Nat):List (List Int):=qA (fun s j=>at3 s (l.getD j (0,0,0)) j) (List.replicate n []) i
def z3h (n c b:Nat) (s:List (List Int)):Prop:=s.length=n/\∀ v,(s.getD v []).length<=c/\∀ x∈s.getD v [],0<=x/\x<(b:Int)
theorem zB4 (s:List (List Int)) (w:Int) (j v:Nat):(atP s w j).getD v []=if w.toNat=v/\v<s.length then s.getD v []++[(j:Int)] else s.getD v []:=by
 unfold atP;simp only [gdE,List.getElem?_set]
 by_cases h1:w.toNat=v
 ·subst h1
  by_cases h2:w.toNat<s.length
  ·simp [h2]
  ·simp [h2]
 ·simp [h1]
theorem zF2 (s:List (List Int)) (w:Int) (j:Nat):(atP s w j).length=s.length:=by simp [atP]
theorem zO2 {n c b:Nat} {s:List (List Int)} {w:Int} {j:Nat} (h:z3h n c b s) (hj:j<b):z3h n (c+1) b (atP s w j):=by
 refine ⟨by rw [zF2];exact h.1,fun v=> ?_⟩;rw [zB4];split
 ·have:=h.2 v;refine ⟨by rw [zO];simp only [List.length_singleton];omega,fun x hx=> ?_⟩;rw [yC,zF] at hx;rcases hx with hx|rfl
  ·exact this.2 x hx
  ·omega
 ·exact ⟨by have:=(h.2 v).1;omega,(h.2 v).2⟩
theorem z3h.more {n c b b':Nat} {s:List (List Int)} (h:z3h n c b s) (hb:b<=b'):z3h n c b' s :=
 ⟨h.1,fun v=>⟨(h.2 v).1,fun x hx=>by have:=(h.2 v).2 x hx;omega⟩⟩
theorem zRy (n:Nat) (l:List P3) (i:Nat):z3h n (3*i) i (atF n l i) :=
 qX (n:=i) (fun i (s:List (List Int))=>z3h n (3*i) i s) ⟨by simp,fun v=>by
  have:(List.replicate n ([]:List Int)).getD v []=[]:=by
   rw [gdE,List.getElem?_replicate];split<;>rfl
  rw [this];simp⟩ (fun i s _ h=>by
  have h:=h.more (Nat.le_succ i)
  exact zO2 (zO2 (zO2 h (Nat.lt_succ_self i)) (Nat.lt_succ_self i)) (Nat.lt_succ_self i)) i (zI _)
theorem zQW {α:Type} {l:List α} {a:α} :l++[a]≠[]:=by simp
theorem zEc {s:List (List Int)} {w:Int} {j v:Nat} (h:s.getD v []≠[]):(atP s w j).getD v []≠[]:=by
 rw [zB4];split
 ·exact zQW
 ·exact h
theorem z4b {s:List (List Int)} {t:P3} {j v:Nat} (hv:v<s.length) (h:z7 t v):(at3 s t j).getD v []≠[]:=by
 unfold at3;rcases h with h|h|h
 ·exact zEc (zEc (by rw [zB4,if_pos ⟨by omega,hv⟩];exact zQW))
 ·exact zEc (by rw [zB4,if_pos ⟨by omega,by rw [zF2];exact hv⟩];exact zQW)
 ·rw [zB4,if_pos ⟨by omega,by rw [zF2,zF2];exact hv⟩];exact zQW
theorem zNq (n:Nat) (l:List P3) {v:Nat} (hv:v<n): ∀ i,(∃ j,j<i/\z7 (l.getD j (0,0,0)) v)->(atF n l i).getD v []≠[]
 | 0,⟨j,h,_⟩=>by omega
 | i+1,⟨j,hj,h⟩=>by
   show (at3 (atF n l i) (l.getD i (0,0,0)) i).getD v []≠[]
   by_cases e:j=i
   ·subst e;exact z4b (by rw [(zRy n l j).1];exact hv) h
   ·exact zEc (zEc (zEc (zNq n l hv i ⟨j,by omega,h⟩)))
def z8U (s:Int×List P3):Prop:= ∀ v:Nat,(v:Int)<s.1->∃ j,j<s.2.length/\z7 (s.2.getD j (0,0,0)) v
def piG (n:Nat) (l:List P3) (v:Nat):Option Wit:=if zTF l v ((atF n l l.length).getD v []) then none else some (6,(v:Int),0)
def piL (n:Nat) (l:List P3) (v:Nat):List Wit:=(List.range v).filterMap (piG n l)
theorem z7q {n:Nat} {l:List P3} {i:Nat} (h:zTF l i ((atF n l l.length).getD i [])=true):piL n l (i+1)=piL n l i:=by
 rw [piL,qZ,piG,if_pos h];simp [piL]
theorem z8E {n:Nat} {l:List P3} {i:Nat} (h:zTF l i ((atF n l l.length).getD i [])=false):piL n l (i+1)=piL n l i++[(6,(i:Int),0)]:=by
 rw [piL,qZ,piG,if_neg (by rw [h];simp)];rfl
theorem z3j (n:Nat) (l:List P3) (i:Nat):(piL n l i).length<=i:=zC6 _ _
def zXm (s:Int×List P3):List Wit:=piL s.1.toNat s.2 s.1.toNat
def zIN (n:Nat) (l:List P3):Spec Nat where
 inv x:=x<=l.length
 live x:=[(17,.s (.int .i64 x))]
 keep:=[1,3,15,16]
 heap x:=[(2,.grow (.int .i64) 54 (atF n l x))]
 keepH:=[0]
 mu x:=l.length - x
def zIl (n:Nat) (l:List P3):Spec Nat where
 inv x:=x<=n
 live x:=[(40,.s (.int .i64 x)),(8,.s (.own 3 0 (piL n l x).length))]
 keep:=[1,3,38,39]
 heap x:=[(3,.row zBW 91 (piL n l x))]
 keepH:=[0,2]
 mu x:=n - x
theorem z02 (n:Int) (l:List P3) (hf:zLM (n,l)/\z8U (n,l)):zEt ⟨tyL,[(182,z7d)],[]⟩ Tryz.f165 [qP.av (n,l)] (fun v obs=>v= .s (.own 0 0 (zXm (n,l)).length)/\obs=[.row zBW 91 (zXm (n,l))]):=by
 obtain ⟨⟨h1,h2,h3,h4⟩,h5⟩:=hf
 repeat' (conv=>whnf
          first|done|refine qN (by first|rfl|omega|(simp only [yP] at *;omega)) ?_|apply qH|refine qG fun _=> ?_|apply qB|apply qa|apply qo|refine qe (fun _=> ?_) (fun _=> ?_)|refine qn (fun _=> ?_) (fun _=> ?_)|refine qd (fun _=> ?_) (fun _=> ?_)|apply qt|refine qi (fun _=> ?_) (fun _=> ?_)|(refine qT 3 rfl ?_;refine Or.inr (zB (Nat) (zB (zIN n.toNat l) (zA (zB (0) (zA (yK.out ?_) (zA ?_ (zA ?_ rfl)))) (fun x hx=> ?_)))))|(refine qT 6 rfl ?_;refine Or.inl (zB (4) ?_))|((with_reducible show (∃ y,And (Spec.inv (zIN _ _) y) _));refine zB (x+1) (zA (yK.out ?_) (zA (zA ?_ (zA ?_ rfl)) (yK.out ?_))))|(refine qT 13 rfl ?_;refine Or.inr (zB (Nat) (zB (zIl n.toNat l) (zA (zB (0) (zA (yK.out ?_) (zA ?_ (zA ?_ rfl)))) (fun y hy=> ?_)))))|((with_reducible show (∃ y,And (Spec.inv (zIl _ _) y) _));refine zB (y+1) (zA (yK.out ?_) (zA (zA ?_ (zA ?_ rfl)) (yK.out ?_))))|refine zA rfl ?_|apply qE|apply qO|exact zN|apply qq|apply qs|refine qK (by kernel_rfl) ?_|apply qr)
 all_goals try first|apply qz1|apply qz2|apply qz3|apply qz4|apply qz5|apply qz6|apply qz7|apply qz8|apply qz9|apply qz0
 all_goals try simp only [zZ,zR,yD,z6,qn1,zY,qn2,zX,ETy.dflt,qn3,qn4,Int.reduceToNat,Int.reduceAdd,Int.reduceSub,Int.reduceNeg,Nat.reduceAdd,zD,zIN,zIl] at *
 all_goals try (refine qh ?_;omega)
 all_goals try (have ht:=zAE (h4 x (by omega));refine qh ?_;(try simp only [zAZ h1]);omega)
 all_goals try rfl
 all_goals try
  (have ht:=zAE (h4 x (by omega))
   have hA:=zRy n.toNat l x;have hA1:=zO2 (w:=(l.getD x (0,0,0)).1) (hA.more (Nat.le_succ x)) (Nat.lt_succ_self x);have hA2:=zO2 (w:=(l.getD x (0,0,0)).2.1) hA1 (Nat.lt_succ_self x)
   first
    | (have hB:=(hA.2 (l.getD x (0,0,0)).1.toNat).1
       exact qh ⟨by unfold zBV;simp only [z8,List.replicate_zero,List.length_nil];omega,by omega,trivial⟩)
    | (have hB:=(hA1.2 (l.getD x (0,0,0)).2.1.toNat).1
       exact qh ⟨by unfold zBV;simp only [z8,List.replicate_zero,List.length_nil];unfold atP at hB;omega,by omega,trivial⟩)
    | (have hB:=(hA2.2 (l.getD x (0,0,0)).2.2.toNat).1
       exact qh ⟨by unfold zBV;simp only [z8,List.replicate_zero,List.length_nil];unfold atP at hB;omega,by omega,trivial⟩))
 all_goals try (have e:x=l.length:=by omega)
 all_goals try subst e
 all_goals try (refine qh ?_;have:=z3j n.toNat l y;(try simp only [List.length_singleton]);omega)
 all_goals try (rw [z7q (by assumption)];done)
 all_goals try (rw [z8E (by assumption)];(try simp);done)
 ·have hA:=zRy n.toNat l l.length;exact qh ⟨h3,by have:=(hA.2 y).1;omega,zNq n.toNat l (by omega) l.length (h5 y (by omega)),(hA.2 y).2⟩
 all_goals (have e:y=n.toNat:=by omega
            subst e;rfl)
def zWc:List AV->Option zJf:=zEv qP (fun s=>some (none,some (zLM s/\z8U s),.s (.own 0 0 (zXm s).length),[.row zBW 91 (zXm s)]))
theorem zYj:zDE Tryz.prog 165 zWc:=⟨zCB fun s r h=>by cases h;exact zDe (yN (fn:=[(182,z7d)]) (fr:=[]) ⟨z5u,trivial⟩ trivial) Tryz.func165 (by kernel_rfl) fun _ h=>z02 s.1 s.2 h,_,Tryz.func165,by kernel_rfl,by kernel_rfl⟩
abbrev y7:ETy:= .int .i64
end S1
/- A call whose body is run in its caller's memory. -/
namespace Go.Vm
open Go.RowKit
section
variable {P:Program} {T:Tab} {B:Base} {w:World} {σ:Sig} {β:yQ} {st:St} {tmps:Array Value}
theorem zHx: ∀ (s:List Nat) (env:Env) (t:Nat),yY (zJb s env) t= .junk\/(yY (zJb s env) t=yY env t/\zUp t s=false)
 | s,[],t=> .inl rfl
 | s, (k,v)::r,t=>by
   simp only [zJb];split
   ·rename_i hm;rcases zHx s r t with h|⟨h,h2⟩
    ·exact .inl h
    ·by_cases e:k=t
     ·subst e;rw [hm] at h2;cases h2
     ·exact .inr ⟨by rw [h,qR,if_neg e],h2⟩
   ·rename_i hm;rw [qR,qR]
    by_cases e:k=t
    ·subst e;rw [if_pos rfl,if_pos rfl];cases v with
     | s a=>exact .inr ⟨rfl,hm⟩
     | agg l=>exact .inr ⟨rfl,hm⟩
     | tup l=>exact .inl rfl
    ·rw [if_neg e,if_neg e];rcases zHx (k::s) r t with h|⟨h,h2⟩
     ·exact .inl h
     ·refine .inr ⟨h,?_⟩;simp only [zUp] at h2;split at h2
      ·cases h2
      ·exact h2
theorem zLl (h: ∀ t,y5 σ β (yY st.env t) (tmps.getD t undef)) (t:Nat):y5 σ β (yY (zJb [] st.env) t) (tmps.getD t undef):=by
 rcases zHx [] st.env t with e|⟨e,_⟩
 ·rw [e];trivial
 ·rw [e];exact h t
theorem z2z (h:GG B σ β st tmps w) {vals:List Value} {args:List AV} {N:Nat} (hv:jG σ β args vals) (hN:args.length<=N) :
 GA {B with dfs:=[]} N ⟨zHI 0 args,(st.next,.fr tmps (zJb [] st.env))::st.hp,st.next+1⟩ {tmps:=vals.toArray++Array.replicate (N - vals.toArray.size) undef,defers:=[]} w:=by
 have hlen:=zDl hv;have hlast:(β++[none])[st.next]? =some none:=by rw [<- h.len];simp
 have hold: ∀ {id:Nat},id<st.next->(β++[none])[id]? =β[id]? :=fun hi=>by rw [List.getElem?_append_left];rw [h.len];exact hi
 refine ⟨rfl,by simp;omega,σ,β++[none],⟨h.mem.ag,fun id ob hi=> ?_⟩,fun t=> ?_,by simp [h.len],fun id ob p hi hp=> ?_,h.bel,h.grew⟩
 ·simp only [yL] at hi;split at hi
  ·rename_i e;subst e;cases hi;exact ⟨hlast,fun t=>(zLl h.env t).more none⟩
  ·exact (h.mem.ob _ _ hi).keep none (fun _ _=>rfl) fun _ _ _=>rfl
 ·have hv':jG σ (β++[none]) args vals:=(zCJ.2 ((zCJ.1 hv).mono fun _ _ h=>h.more none));have:=zGk (m:=N - vals.length) 0 hv' t;simp only [Nat.not_lt_zero,if_false,Nat.sub_zero] at this
  have e:((vals.toArray++Array.replicate (N - vals.toArray.size) undef).getD t undef)=(vals++List.replicate (N - vals.length) undef).getD t undef:=by
   rw [show vals.toArray++Array.replicate (N - vals.toArray.size) undef=(vals++List.replicate (N - vals.length) undef).toArray by simp];simp [zL,gdE]
  show y5 σ _ (yY (zHI 0 args) t) ((vals.toArray++Array.replicate (N - vals.toArray.size) undef).getD t undef);rw [e];exact this
 ·simp only [yL] at hi;split at hi
  ·rename_i e;subst e;rw [hlast] at hp;cases hp
  ·have hlt:=h.id_lt hi;rw [hold hlt] at hp;obtain ⟨s1,s2,s3⟩:=h.sep _ _ _ hi hp;refine ⟨s1,s2,fun id2 ob2 p2 hne2 hi2 hp2=> ?_⟩;simp only [yL] at hi2;split at hi2
   ·rename_i e;subst e;rw [hlast] at hp2;cases hp2
   ·rw [hold (h.id_lt hi2)] at hp2;exact s3 _ _ _ hne2 hi2 hp2
theorem zOc (R:jL P T) {f:FuncId} {fn:Func} {c:Code} (hf:P.funcs[f]? =some fn) (hb:fn.body=some c) (hok:codeOk fn.ntmps c=true):zIO P f (zRJ T fn):=by
 intro B σ β st tmps w args vals K hg hv hk;unfold zRJ at hk;rw [hb] at hk;split at hk
 case h_2=>exact hk.elim
 rename_i c' hbc hble;cases hbc;have hk:=hk tmps;rw [St.forceAll_eq] at hk;have hga:=z2z (N:=fn.ntmps) hg hv (zU hble);refine (callsIn_of_wp (F:=Fence.wide) (n:=0) hf hb trivial ?_).calls (fun _ _ hd=>by cases hd);rw [<- FR.none];refine zAW R c hok hga hk fun e st' a' w' hp h'=> ?_
 have fin:zRn T fn st.next tmps st' K->a'.defers=[]/\∃ v,(results fn a'.tmps).run P w'= .ok v w'/\∃ v' av st2 σ' β',(Ending.returned v)= .returned v'/\K av st2/\GG B σ' β' st2 tmps w'/\y5 σ' β' av v':=by
  intro hu;unfold zRn at hu;split at hu
  case h_2=>exact hu.elim
  rename_i X l hallok hfr;rw [AV.force_eq,St.forceAll_eq] at hu;obtain ⟨rfl,hu⟩:=hu;obtain ⟨σ1,β1,hg1⟩:=h'.gg
  obtain ⟨vs,hrun,hall⟩:=zB3 (P:=P) (w:=w') (fn:=fn) (tmps:=a'.tmps) (Q:=fun r v=>y5 σ1 β1 (zEP T st' r) v) (fun r hr=>by
   have hro:=zK.1 hallok r hr;cases r with
   | tmp t=>exact ⟨_,rfl,hg1.env t⟩
   | cell a t =>
     simp only [zFk] at hro;simp only [zEP];have hx:=hg1.env a;split at hro
     ·rename_i id i k hea;rw [hea] at hx;split at hro
      ·rename_i v hv;obtain ⟨p,_,hptr,_⟩:=hx;obtain ⟨_,hrun⟩:=zB7 (w:=w') R.ty R.one hg1.mem (t:=t) (hg1.env a) (p:=none) (q:=none) (v:=v) (by rw [hea];exact hv);obtain ⟨val,h1,h2⟩:=hrun trivial;refine ⟨val,?_,h2⟩;rw [hptr] at h1 ⊢;rw [zBG] at h1;simp only [asAddr,Sem.run_bind,Sem.run_pure,Result.andThen_ok];exact h1
      ·cases hro
     ·cases hro)
  have hob:=hg1.mem.ob _ _ hfr
  have get: ∀ {i:Nat} {ob:Ob},hget (zDN st'.hp st.next) i=some ob->hget st'.hp i=some ob:=fun {i ob} e=>by
   rw [zAd] at e;split at e
   ·cases e
   ·exact e
  refine ⟨h'.defers,_,hrun,_,_,_,σ1,β1,rfl,hu,⟨⟨hg1.mem.ag,fun i ob hi=>hg1.mem.ob _ _ (get hi)⟩,hob.2,hg1.len,fun i ob p hi hp=> ?_,hg1.bel,hg1.grew⟩,zGj hall⟩;obtain ⟨s1,s2,s3⟩:=hg1.sep _ _ _ (get hi) hp;exact ⟨s1,s2,fun i2 ob2 p2 hne hi2 hp2=>s3 _ _ _ hne (get hi2) hp2⟩
 cases e with
 | normal=>exact fin hp
 | ret=>exact fin hp
 | _=>exact hp.elim
end
end Go.Vm
