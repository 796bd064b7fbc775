/- A part of the proofs of the laws. -/
import Derived.Test.YtlhoihabllompaaGreatH3toR2
import Derived.Test.YtlhoihabllompaaGreatT22toF5a
import Derived.Test.YtlhoihabllompaaGreatW4toY3
import Derived.Test.YtlhoihabllompaaGreatT5toT11
set_option linter.unusedSimpArgs false
set_option linter.unusedVariables false
set_option maxHeartbeats 8000000
set_option maxRecDepth 100000
open Go Go.Vm Go.Proofs
namespace S9
open S1
theorem zZx {l:List P3} {f:P3->Bool} {b z:Bool} {x:Nat} (hi:x<=l.length/\(b|| l.any f)=(z|| (l.drop x).any f)) (h:(x:Int)<l.length):x+1<=l.length/\(b|| l.any f)=(z|| f (l.getD x (0,0,0))|| (l.drop (x+1)).any f) :=
 ⟨by omega,by rw [hi.2,zBM (0,0,0) h,List.any_cons,Bool.or_assoc]⟩
theorem z24 {l:List P3} {f:P3->Bool} {b z:Bool} {x:Nat} (hi:x<=l.length/\(b|| l.any f)=(z|| (l.drop x).any f)) (h: ¬ (x:Int)<l.length):(b|| l.any f)=z:=by
 rw [hi.2,zE3 h];simp
@[irreducible] def zM2 (t:P3):Bool:=t.1==t.2.1|| (t.2.1==t.2.2|| t.2.2==t.1)
def dgG (l:List P3) (i:Nat):Option Wit:=if zM2 (l.getD i (0,0,0)) then some (2,(i:Int),0) else none
def dgL (l:List P3) (i:Nat):List Wit:=(List.range i).filterMap (dgG l)
def loG (l:List P3) (v:Nat):Option Wit:=if l.any (zF2 · v) then none else some (5,(v:Int),0)
def loL (l:List P3) (v:Nat):List Wit:=(List.range v).filterMap (loG l)
def piG (l:List P3) (v:Nat):Option Wit:=if zEy l v then some (6,(v:Int),0) else none
def piL (l:List P3) (v:Nat):List Wit:=(List.range v).filterMap (piG l)
def allR (s:Int×List P3):List Wit :=
 if 0<(jD s).length then jD s else if 0<(dgL s.2 s.2.length).length then dgL s.2 s.2.length else if 0<(prO s.2 3 s.2.length).length then prO s.2 3 s.2.length else
 if 0<(prO s.2 4 s.2.length).length then prO s.2 4 s.2.length else if 0<(loL s.2 s.1.toNat).length then loL s.2 s.1.toNat else piL s.2 s.1.toNat
theorem qZ {α:Type _} (f:Nat->Option α) (i:Nat):(List.range (i+1)).filterMap f=(List.range i).filterMap f++(f i).toList:=by
 rw [List.range_succ,List.filterMap_append];simp only [List.filterMap_cons,List.filterMap_nil];cases f i<;>rfl
theorem zCd {α:Type _} (f:Nat->Option α) (i:Nat):((List.range i).filterMap f).length<=i:=Nat.le_trans (List.length_filterMap_le _ _) (by simp)
theorem zFW {s:Int×List P3} (h: ¬ ((jD s).length:Int)>0):zGp s=false/\jD s=[]:=by
 have h:(jD s).length=0:=by omega
 refine ⟨?_,List.eq_nil_of_length_eq_zero h⟩;cases hb:zGp s with
 | false=>rfl
 | true=>unfold jD at h;rw [hb] at h;simp at h
theorem zLW {n:Int} {l:List P3} (h:zGp (n,l)=false):0<=n/\n<=4096/\l.length<=8192:=by
 simp only [zGp,Bool.or_eq_false_iff,yP] at h;omega
theorem zUq {t:P3} (h:t.1=t.2.1\/t.2.1=t.2.2\/t.2.2=t.1):zM2 t=true:=by
 unfold zM2;simp only [Bool.or_eq_true,beq_iff_eq];exact h
theorem zYt {t:P3} (h1:t.1≠t.2.1) (h2:t.2.1≠t.2.2) (h3:t.2.2≠t.1):zM2 t=false:=by
 unfold zM2;rw [beq_false_of_ne h1,beq_false_of_ne h2,beq_false_of_ne h3];rfl
theorem z8g {l:List P3} {i:Nat} (h:zM2 (l.getD i (0,0,0))=true):dgL l (i+1)=dgL l i++[(2,(i:Int),0)]:=by
 unfold dgL;rw [qZ,dgG,if_pos h];rfl
theorem z8b {l:List P3} {i:Nat} (h:zM2 (l.getD i (0,0,0))=false):dgL l (i+1)=dgL l i:=by
 unfold dgL;rw [qZ,dgG,if_neg (by rw [h];decide)];simp
theorem z88 {l:List P3} {v:Nat} (h:(l.any (zF2 · v))=true):loL l (v+1)=loL l v:=by
 unfold loL;rw [qZ,loG,if_pos h];simp
theorem z82 {l:List P3} {v:Nat} (h:(l.any (zF2 · v))=false):loL l (v+1)=loL l v++[(5,(v:Int),0)]:=by
 unfold loL;rw [qZ,loG,if_neg (by rw [h];decide)];rfl
theorem z8M {l:List P3} {v:Nat} (h:zEy l v=true):piL l (v+1)=piL l v++[(6,(v:Int),0)]:=by
 unfold piL;rw [qZ,piG,if_pos h];rfl
theorem z8Z {l:List P3} {v:Nat} (h:zEy l v=false):piL l (v+1)=piL l v:=by
 unfold piL;rw [qZ,piG,if_neg (by rw [h];decide)];simp
section
variable {n:Int} {l:List P3}
theorem z7h (h:((jD (n,l)).length:Int)>0):allR (n,l)=jD (n,l):=by
 unfold allR;rw [if_pos (by omega)]
theorem z8d (h1: ¬ ((jD (n,l)).length:Int)>0) {i:Nat} (hi:i=l.length) (h2:((dgL l i).length:Int)>0):allR (n,l)=dgL l i:=by
 subst hi;unfold allR;rw [if_neg (by omega),if_pos (by dsimp only;omega)]
theorem z8k (h1: ¬ ((jD (n,l)).length:Int)>0) {i:Nat} (hi:i=l.length) (h2: ¬ ((dgL l i).length:Int)>0) (h3:((prO l 3 l.length).length:Int)>0):allR (n,l)=prO l 3 l.length:=by
 subst hi;unfold allR;rw [if_neg (by omega),if_neg (by dsimp only;omega),if_pos (by dsimp only;omega)]
theorem z8h (h1: ¬ ((jD (n,l)).length:Int)>0) {i:Nat} (hi:i=l.length) (h2: ¬ ((dgL l i).length:Int)>0) (h3: ¬ ((prO l 3 l.length).length:Int)>0) (h4:((prO l 4 l.length).length:Int)>0):allR (n,l)=prO l 4 l.length:=by
 subst hi;unfold allR;rw [if_neg (by omega),if_neg (by dsimp only;omega),if_neg (by dsimp only;omega),if_pos (by dsimp only;omega)]
theorem z8q (h1: ¬ ((jD (n,l)).length:Int)>0) {i:Nat} (hi:i=l.length) (h2: ¬ ((dgL l i).length:Int)>0) (h3: ¬ ((prO l 3 l.length).length:Int)>0) (h4: ¬ ((prO l 4 l.length).length:Int)>0) {v:Nat} (hv:v=n.toNat) (h5:((loL l v).length:Int)>0):allR (n,l)=loL l v:=by
 subst hi;subst hv;unfold allR;rw [if_neg (by omega),if_neg (by dsimp only;omega),if_neg (by dsimp only;omega),if_neg (by dsimp only;omega),if_pos (by dsimp only;omega)]
theorem z89 (h1: ¬ ((jD (n,l)).length:Int)>0) {i:Nat} (hi:i=l.length) (h2: ¬ ((dgL l i).length:Int)>0) (h3: ¬ ((prO l 3 l.length).length:Int)>0) (h4: ¬ ((prO l 4 l.length).length:Int)>0) {v:Nat} (hv:v=n.toNat) (h5: ¬ ((loL l v).length:Int)>0) {y:Nat} (hy:y=n.toNat):allR (n,l)=piL l y:=by
 subst hi;subst hv;subst hy;unfold allR;rw [if_neg (by omega),if_neg (by dsimp only;omega),if_neg (by dsimp only;omega),if_neg (by dsimp only;omega),if_neg (by dsimp only;omega)]
end
def zV4 (l:List P3):Spec Nat where
 inv i:=i<=l.length
 live i:=[(4,.s (.int .i64 i)),(3,.s (.own 2 0 (dgL l i).length))]
 keep:=[1]
 heap i:=[(2,.row zBY 165 (dgL l i))]
 keepH:=[0]
 mu i:=l.length - i
def zTq (n:Int) (l:List P3):Spec Nat where
 inv v:=(v:Int)<=n
 live v:=[(6,.s (.int .i64 v)),(3,.s (.own 4 0 (loL l v).length))]
 keep:=[1]
 heap v:=[(4,.row zBY 165 (loL l v))]
 keepH:=[0]
 mu v:=n.toNat - v
def zU9 (l:List P3) (v:Nat):Spec (Nat×Bool) where
 inv x:=x.1<=l.length/\(false|| l.any (zF2 · v))=(x.2|| (l.drop x.1).any (zF2 · v))
 live x:=[(8,.s (.int .i64 x.1)),(7,.s (.bool x.2))]
 keep:=[1,3,6]
 heap _:=[]
 keepH:=[0,4]
 mu x:=l.length - x.1
def zVT (n:Int) (l:List P3):Spec Nat where
 inv v:=(v:Int)<=n
 live v:=[(9,.s (.int .i64 v)),(3,.s (.own 4 0 (piL l v).length))]
 keep:=[1]
 heap v:=[(4,.row zBY 165 (piL l v))]
 keepH:=[0]
 mu v:=n.toNat - v
theorem z2R (n:Int) (l:List P3):zEu ⟨tyL,[(133,zOk),(134,zPk)],[(131,.res zOu),(132,.res zPp)]⟩ Tryz.f92 [qR.av (n,l)] (fun v obs=>v= .s (.own 0 0 (allR (n,l)).length)/\obs=[.row zBY 165 (allR (n,l))]):=by
 repeat' (conv=>whnf
          first|done|refine qN (by first|rfl|omega|(simp only [yO] at *;omega)) ?_|apply qH|refine qG fun _=> ?_|apply qB|apply qa|apply qo|refine qe (fun _=> ?_) (fun _=> ?_)|refine qn (fun _=> ?_) (fun _=> ?_)|refine qd (fun _=> ?_) (fun _=> ?_)|apply qt|refine qi (fun _=> ?_) (fun _=> ?_)|(refine qS 5 rfl ?_;refine Or.inr (zB (Nat) (zB (zV4 l) (zA (zB (0) (zA (yJ.out ?_) (zA ?_ (zA ?_ rfl)))) (fun i hi=> ?_)))))|((with_reducible show (∃ y,And (Spec.inv (zV4 _) y) _));refine zB (i+1) (zA (yJ.out ?_) (zA (zA ?_ (zA ?_ rfl)) (yJ.out ?_))))|(refine qS 19 rfl ?_;refine Or.inr (zB (Nat) (zB (zTq n l) (zA (zB (0) (zA (yJ.out ?_) (zA ?_ (zA ?_ rfl)))) (fun v hv=> ?_)))))|((with_reducible show (∃ y,And (Spec.inv (zTq _ _) y) _));refine zB (v+1) (zA (yJ.out ?_) (zA (zA ?_ (zA ?_ rfl)) (yJ.out ?_))))|(refine qS 23 rfl ?_;refine Or.inr (zB (Nat×Bool) (zB (zU9 l v) (zA (zB ((0,false)) (zA (yJ.out ?_) (zA ?_ (zA ?_ rfl)))) (fun x hx=> ?_)))))|((with_reducible show (∃ y,And (Spec.inv (zU9 _ _) y) _));refine zB ((x.1+1,x.2|| zF2 (l.getD x.1 (0,0,0)) v)) (zA (yJ.out ?_) (zA (zA ?_ (zA ?_ rfl)) (yJ.out ?_))))|(refine qS 31 rfl ?_;refine Or.inr (zB (Nat) (zB (zVT n l) (zA (zB (0) (zA (yJ.out ?_) (zA ?_ (zA ?_ rfl)))) (fun y hy=> ?_)))))|((with_reducible show (∃ y,And (Spec.inv (zVT _ _) y) _));refine zB (y+1) (zA (yJ.out ?_) (zA (zA ?_ (zA ?_ rfl)) (yJ.out ?_))))|refine zA rfl ?_|apply qE|apply qO|exact zN|apply qq|apply qs|refine qK (by kernel_rfl) ?_|apply qr)
 all_goals try first|apply qz1|apply qz2|apply qz3|apply qz4|apply qz5|apply qz6|apply qz7|apply qz8|apply qz9|apply qz0
 all_goals try simp only [zZ,zR,yE,z6,qn1,zY,qn2,zX,ETy.dflt,qn3,qn4,Int.reduceToNat,Int.reduceAdd,Int.reduceSub,Int.reduceNeg,Nat.reduceAdd,zD,zV4,zTq,zU9,zVT] at *
 all_goals try (refine qh ?_;omega)
 all_goals try
  (have hb:=zLW (zFW (s:=(n,l)) (by assumption)).1
   refine qh ?_;first|omega|(simp only [yO];omega))
 all_goals try
  (have hb:=zLW (zFW (s:=(n,l)) (by assumption)).1
   have h1:=zCd (dgG l) i
   refine qh ?_;simp only [dgL,loL,piL];first|omega|(have h2:=zCd (loG l) v;first|omega|(have h3:=zCd (piG l) y;omega)))
 all_goals try first
  | rw [z7h (by assumption)]
  | rw [z8d (i:=i) (by assumption) (by omega) (by assumption)]
  | rw [z8k (i:=i) (by assumption) (by omega) (by assumption) (by assumption)]
  | rw [z8h (i:=i) (by assumption) (by omega) (by assumption) (by assumption) (by assumption)]
  | rw [z8q (i:=i) (v:=v) (by assumption) (by omega) (by assumption) (by assumption) (by assumption) (by omega) (by assumption)]
  | rw [z89 (i:=i) (v:=v) (y:=y) (by assumption) (by omega) (by assumption) (by assumption) (by assumption) (by omega) (by assumption) (by omega)]
 all_goals try
  (have hd:zM2 (l.getD i (0,0,0))=true:=zUq (by omega)
   rw [z8g hd];(try simp only [zO,List.length_singleton]);done)
 all_goals try
  (have hd:zM2 (l.getD i (0,0,0))=false:=zYt (by omega) (by omega) (by omega)
   rw [z8b hd];done)
 all_goals try (rw [(zFW (s:=(n,l)) (by assumption)).2];rfl)
 all_goals try (rw [List.eq_nil_of_length_eq_zero (l:=prO l 4 l.length) (by omega)];rfl)
 all_goals try (rw [List.eq_nil_of_length_eq_zero (l:=loL l v) (by omega)];rfl)
 all_goals try first
  | exact qh ⟨Nat.zero_le _,rfl⟩
  | exact qh (zZx hx (by assumption))
  | (simp only [*];done)
  | (simp only [*];simp;done)
 all_goals try (rw [z8Z (by assumption)];done)
 all_goals try (rw [z8M (by assumption)];(try simp only [zO,List.length_singleton]);done)
 all_goals
  have hu:=z24 hx (by assumption);rw [Bool.false_or] at hu
 all_goals first
  | (rw [z88 (hu.trans (by assumption))];done)
  | (rw [z82 (hu.trans (by assumption))];(try simp only [zO,List.length_singleton]);done)
def z3Y:List AV->Option zKI:=zEv qR (fun s=>some (none,none,.s (.own 0 0 (allR s).length),[.row zBY 165 (allR s)]))
theorem z3u:zDB Tryz.prog 92 z3Y:=⟨zCC fun s r h=>by cases h;exact zDc (yM (fn:=[(133,zOk),(134,zPk)]) (fr:=[(131,.res zOu),(132,.res zPp)]) ⟨zOn,zXu,trivial⟩ ⟨zVJ,zWx,trivial⟩) Tryz.func92 (by kernel_rfl) fun _ _=>z2R s.1 s.2,_,Tryz.func92,by kernel_rfl,by kernel_rfl⟩
def zP6 (s:Int×List P3):Bool:=(allR s).length==0
theorem z0L (s:Int×List P3):zAG ⟨tyL,[],[(92,.res z3Y)]⟩ Tryz.f53 [qR.av s] (fun v=>v= .s (.bool (zP6 s))):=by
 repeat' (conv=>whnf
          first|done|refine qN (by first|rfl|omega|(simp only [yO] at *;omega)) ?_|apply qH|refine qG fun _=> ?_|apply qB|apply qa|apply qo|refine qe (fun _=> ?_) (fun _=> ?_)|refine qn (fun _=> ?_) (fun _=> ?_)|refine qd (fun _=> ?_) (fun _=> ?_)|apply qt|refine qi (fun _=> ?_) (fun _=> ?_)|refine zA rfl ?_|apply qE|apply qO|exact zN|apply qq|apply qs|refine qK (by kernel_rfl) ?_|apply qr)
 all_goals try first|apply qz1|apply qz2|apply qz3|apply qz4|apply qz5|apply qz6|apply qz7|apply qz8|apply qz9|apply qz0
 all_goals try simp only [zZ,zR,yE,z6,qn1,zY,qn2,zX,ETy.dflt,qn3,qn4,Int.reduceToNat,Int.reduceAdd,Int.reduceSub,Int.reduceNeg,Nat.reduceAdd,zD,zP6] at *
 rw [Bool.eq_iff_iff,beq_iff_eq,beq_iff_eq];omega
def zYI:List AV->Option Res:=zEv qR (fun s=>some (none,none,.s (.bool (zP6 s))))
theorem zY8:qM Tryz.prog 53 zYI:=⟨zAW fun s r h=>by cases h;exact qL (yM (fn:=[]) (fr:=[(92,.res z3Y)]) trivial ⟨z3u,trivial⟩) Tryz.func53 (by kernel_rfl) fun _ _=>z0L s,_,Tryz.func53,by kernel_rfl,by kernel_rfl⟩
end S9
open Go Go.Vm Go.Proofs
namespace S9
open S1
theorem zC9 {t:P3} {v:Int} :zF2 t v=true↔z7 t v:=by
 unfold zF2 z7;simp only [Bool.or_eq_true,beq_iff_eq]
theorem zWY {t:P3} {a b:Int} :zMm t a b=true↔dE t a b:=by
 unfold zMm dE;simp only [Bool.or_eq_true,zC,beq_iff_eq]
theorem zKM {t u:P3} :zIB t u=true↔∃ a b,dE t a b/\dE u a b:=by
 unfold zIB;simp only [Bool.or_eq_true,zWY];constructor
 ·rintro (h|h|h)
  ·exact ⟨_,_,.inl ⟨rfl,rfl⟩,h⟩
  ·exact ⟨_,_,.inr (.inl ⟨rfl,rfl⟩),h⟩
  ·exact ⟨_,_,.inr (.inr ⟨rfl,rfl⟩),h⟩
 ·rintro ⟨a,b,(⟨rfl,rfl⟩|⟨rfl,rfl⟩|⟨rfl,rfl⟩),h⟩
  ·exact .inl h
  ·exact .inr (.inl h)
  ·exact .inr (.inr h)
theorem zLZ {n:Int} : ∀ {l:List P3} {i:Nat},zH7 n i l=[]↔∀ t∈l,zCq n t=true
 | [],_=>⟨fun _ t h=>(by cases h),fun _=>rfl⟩
 | t ::r,i=>by
   unfold zH7;split
   ·rename_i h;rw [zLZ]
    exact ⟨fun k u hu=>by
     rcases zT.1 hu with e|hu
     ·rw [e];exact h
     ·exact k u hu,fun k u hu=>k u (zS _ hu)⟩
   ·rename_i h;exact ⟨fun k=>(by cases k),fun k=>absurd (k t (yA ..)) h⟩
theorem zQn {l:List P3} {p:P3->Prop} :(∀ t∈l,p t)↔∀ i,i<l.length->p (tg l i):=by
 constructor
 ·intro h i hi;unfold tg;rw [gdE,gE hi];exact h _ (yU hi)
 ·intro h t ht;obtain ⟨i,hi,e⟩:=yG.1 ht;have:=h i hi;unfold tg at this;rw [gdE,gE hi] at this;rw [<- e];exact this
theorem zYz {s:Int×List P3} :jD s=[]↔zLh s:=by
 obtain ⟨n,l⟩:=s;unfold jD;constructor
 ·intro h;cases hb:zGp (n,l) with
  | true=>rw [hb] at h;cases h
  | false =>
    rw [hb] at h;have h:zH7 n 0 l=[]:=h;have:=zLW hb;exact ⟨this.1,this.2.1,this.2.2,zQn.1 (zLZ.1 h)⟩
 ·intro h;have h1:0<=n:=h.1;have h2:n<=4096:=h.2.1;have h3:l.length<=8192:=h.2.2.1
  have hb:zGp (n,l)=false:=by
   unfold zGp;simp only [Bool.or_eq_false_iff,yP];omega
  rw [hb];exact zLZ.2 (zQn.2 h.2.2.2)
theorem z2g {l:List P3} :dgL l l.length=[]↔∀ i,i<l.length->¬ dgn (tg l i):=by
 unfold dgL;rw [List.filterMap_eq_nil_iff];constructor
 ·intro h i hi e;have:=h i (zV.2 hi);unfold dgG at this;rw [if_pos (zUq e)] at this;cases this
 ·intro h i hi;have h:=h i (zV.1 hi);unfold dgn at h;unfold dgG;rw [if_neg ?_];rw [zYt (fun e=>h (.inl e)) (fun e=>h (.inr (.inl e))) (fun e=>h (.inr (.inr e)))];simp
theorem zYO {l:List P3} {k:Int} :prO l k l.length=[]↔∀ i j,i<j->j<l.length->ptR k (tg l i) (tg l j)=false:=by
 unfold prO prI;rw [List.flatMap_eq_nil_iff];constructor
 ·intro h i j hij hj;have:=List.filterMap_eq_nil_iff.1 (h j (zV.2 hj)) i (zV.2 hij);unfold prG at this;split at this
  ·cases this
  ·rename_i e;rw [<- Bool.not_eq_true];exact e
 ·intro h j hj;refine List.filterMap_eq_nil_iff.2 fun i hi=> ?_;unfold prG;rw [if_neg (by rw [h i j (zV.1 hi) (zV.1 hj)];simp)]
theorem pt3 {t u:P3} :ptR 3 t u=zIB t u:=by unfold ptR;simp
theorem pt4 {t u:P3} :ptR 4 t u=(zF2 u t.1&&(zF2 u t.2.1&&zF2 u t.2.2)):=by unfold ptR;simp
theorem z3A {l:List P3} {n:Nat} :loL l n=[]↔∀ v:Nat,v<n->∃ j,j<l.length/\z7 (tg l j) v:=by
 unfold loL;rw [List.filterMap_eq_nil_iff]
 have key: ∀ v:Nat,l.any (zF2 · v)=true↔∃ j,j<l.length/\z7 (tg l j) v:=fun v=>by
  rw [List.any_eq_true];constructor
  ·rintro ⟨t,ht,hv⟩;obtain ⟨i,hi,e⟩:=yG.1 ht;refine ⟨i,hi,?_⟩;unfold tg;rw [gdE,gE hi];exact zC9.1 (by rw [<- e] at hv;exact hv)
  ·rintro ⟨j,hj,h⟩;unfold tg at h;rw [gdE,gE hj] at h;exact ⟨_,yU hj,zC9.2 h⟩
 constructor
 ·intro h v hv;have:=h v (zV.2 hv);unfold loG at this;split at this
  ·rename_i e;exact (key v).1 e
  ·cases this
 ·intro h v hv;unfold loG;rw [if_pos ((key v).2 (h v (zV.1 hv)))]
theorem zJV {m:List P3} {v:Int} {i k:Nat} :touch m v i k=true↔∃ w,w≠v/\z7 (tg m i) w/\z7 (tg m k) w:=by
 unfold touch tch;simp only [Bool.or_eq_true,zC,zP,zC9];constructor
 ·rintro (⟨h1,h2⟩|⟨h1,h2⟩|⟨h1,h2⟩)
  ·exact ⟨_,h1,.inl rfl,h2⟩
  ·exact ⟨_,h1,.inr (.inl rfl),h2⟩
  ·exact ⟨_,h1,.inr (.inr rfl),h2⟩
 ·rintro ⟨w,h1,(h2|h2|h2),h3⟩
  ·subst h2;exact .inl ⟨h1,h3⟩
  ·subst h2;exact .inr (.inl ⟨h1,h3⟩)
  ·subst h2;exact .inr (.inr ⟨h1,h3⟩)
section
variable {m:List P3} {v:Int}
theorem zEe {s:List Bool} {k j:Nat} :(s.set k true).getD j false=if k=j/\j<s.length then true else s.getD j false:=by
 rw [gdE,List.getElem?_set,gdE]
 by_cases e:k=j
 ·subst e
  by_cases h:k<s.length
  ·simp [h]
  ·simp [h]
 ·simp [e]
theorem z6r {i k:Nat} {s:List Bool} :(pk m v i s k).length=s.length:=by
 unfold pk;split
 ·rfl
 ·split
  ·rw [List.length_set]
  ·rfl
theorem zPR {i k j:Nat} {s:List Bool} (h:s.getD j false=true):(pk m v i s k).getD j false=true:=by
 unfold pk;split
 ·exact h
 ·split
  ·rw [zEe];split
   ·rfl
   ·exact h
  ·exact h
theorem zFn {i:Nat} {s:List Bool} : ∀ k,(zHM m v i s k).length=s.length
 | 0=>rfl
 | k+1=>by rw [zAn,z6r,zFn k]
theorem zFg {s:List Bool} : ∀ i,(zG7 m v s i).length=s.length
 | 0=>rfl
 | i+1=>by rw [zCJ,zFn,zFg i]
theorem zHu: ∀ r,(zFN m v r).length=m.length
 | 0=>by show ((List.replicate m.length false).set 0 true).length=_;simp
 | r+1=>by rw [zBe,zFg,zHu r]
theorem zEp {i j:Nat} {s:List Bool} (h:s.getD j false=true): ∀ k,(zHM m v i s k).getD j false=true
 | 0=>h
 | k+1=>by rw [zAn];exact zPR (zEp h k)
theorem zEc {j:Nat} {s:List Bool} (h:s.getD j false=true): ∀ i,(zG7 m v s i).getD j false=true
 | 0=>h
 | i+1=>by rw [zCJ];exact zEp (zEc h i) _
theorem zOD {i k:Nat} {s:List Bool} (hi:s.getD i false=true) (ht:touch m v i k=true) (hk:k<s.length): ∀ n,k<n->(zHM m v i s n).getD k false=true
 | n + 1,h=>by
   rw [zAn]
   by_cases e:k=n
   ·subst e;have h1:=zEp (m:=m) (v:=v) (i:=i) hi k;cases h2:(zHM m v i s k).getD k false with
    | true=>exact zPR h2
    | false =>
      unfold pk;rw [if_neg (zL4 h1 h2),if_pos ht,zEe,if_pos ⟨rfl,by rw [zFn];exact hk⟩]
   ·exact zPR (zOD hi ht hk n (by omega))
theorem zOT {i k:Nat} {s:List Bool} (hi:s.getD i false=true) (ht:touch m v i k=true) (hk:k<s.length) (hm:k<m.length): ∀ n,i<n->(zG7 m v s n).getD k false=true
 | n +1,h=>by
   rw [zCJ]
   by_cases e:i=n
   ·subst e;exact zOD (zEc hi i) ht (by rw [zFg];exact hk) _ hm
   ·exact zEp (zOT hi ht hk hm n (by omega)) _
def Clo (m:List P3) (v:Int) (s:List Bool):Prop:= ∀ i k,i<m.length->k<m.length->s.getD i false=true->touch m v i k=true->s.getD k false=true
def z0l (m:List P3) (s:List Bool):Nat:=((List.range m.length).filter fun j=> !s.getD j false).length
theorem z6z {i k:Nat} {s:List Bool} (h:Clo m v s) (hi:i<m.length) (hk:k<m.length):pk m v i s k=s:=by
 unfold pk;split
 ·rfl
 ·rename_i hn;split
  ·rename_i ht;have h1:s.getD i false=true:=by cases e:s.getD i false with|true=>rfl|false=>exact absurd (.inl e) hn
   exact absurd (.inr (h i k hi hk h1 ht)) hn
  ·rfl
theorem zMk {i:Nat} {s:List Bool} (h:Clo m v s) (hi:i<m.length): ∀ k,k<=m.length->zHM m v i s k=s
 | 0,_=>rfl
 | k+1,hk=>by rw [zAn,zMk h hi k (by omega),z6z h hi (by omega)]
theorem zIc {s:List Bool} (h:Clo m v s): ∀ i,i<=m.length->zG7 m v s i=s
 | 0,_=>rfl
 | i+1,hi=>by rw [zCJ,zIc h i (by omega),zMk h (by omega) _ (zI _)]
theorem zUp {s:List Bool} (hl:s.length=m.length):Clo m v s\/z0l m (zG7 m v s m.length)+1<=z0l m s:=by
 by_cases h:Clo m v s
 ·exact .inl h
 ·right;unfold Clo at h
  have: ∃ i k,i<m.length/\k<m.length/\s.getD i false=true/\touch m v i k=true/\s.getD k false=false:=by
   refine yF fun hn=>h fun i k hi hk h1 h2=> ?_;cases e:s.getD k false with
   | true=>rfl
   | false=>exact absurd ⟨i,k,hi,hk,h1,h2,e⟩ hn
  obtain ⟨i,k,hi,hk,h1,h2,h3⟩:=this;unfold z0l;refine zKw (a:=k) (fun j hj=> ?_) (by rw [h3];rfl) (by rw [zOT h1 h2 (by rw [hl];exact hk) hk _ hi];simp) (zV.2 hk);cases e:s.getD j false with
  | false=>rfl
  | true=>rw [zEc e] at hj;exact absurd hj (by simp)
theorem zJr (hm:0<m.length): ∀ r,Clo m v (zFN m v r)\/z0l m (zFN m v r)+r+1<=m.length
 | 0=>by
   right;have h0:((List.replicate m.length false).set 0 true).getD 0 false=true:=by rw [zEe,if_pos ⟨rfl,by simpa using hm⟩]
   have:=zKw (p:=fun _:Nat=>true) (q:=fun j=> !((List.replicate m.length false).set 0 true).getD j false) (fun _ _=>rfl) (a:=0) rfl (by rw [h0];simp) (l:=List.range m.length) (zV.2 hm);have e:((List.range m.length).filter fun _:Nat=>true).length=m.length:=by rw [List.filter_eq_self.2 (fun _ _=>rfl),zAv]
   show ((List.range m.length).filter fun j=> !((List.replicate m.length false).set 0 true).getD j false).length+0+1<=_;rw [e] at this;omega
 | r +1=>by
   rcases zJr hm r with h|h
   ·left;rw [zBe,zIc h _ (zI _)];exact h
   ·rcases zUp (m:=m) (v:=v) (zHu (m:=m) (v:=v) r) with h'|h'
    ·left;rw [zBe,zIc h' _ (zI _)];exact h'
    ·right;rw [zBe];omega
theorem zTY (hm:0<m.length):Clo m v (zFN m v m.length):=by
 rcases zJr (v:=v) hm m.length with h|h
 ·exact h
 ·omega
theorem zJh (hm:0<m.length): ∀ r,(zFN m v r).getD 0 false=true
 | 0=>by
   show ((List.replicate m.length false).set 0 true).getD 0 false=true;rw [zEe,if_pos ⟨rfl,by simpa using hm⟩]
 | r+1=>by rw [zBe];exact zEc (zJh hm r) _
theorem z7z {Q:Nat->Prop} (hc: ∀ i k,k<m.length->Q i->touch m v i k=true->Q k) {i k:Nat} {s:List Bool} (hl:s.length=m.length) (h: ∀ j,s.getD j false=true->Q j): ∀ j,(pk m v i s k).getD j false=true->Q j:=by
 unfold pk;split
 ·exact h
 ·rename_i hn;split
  ·rename_i ht;intro j hj;rw [zEe] at hj;split at hj
   ·rename_i e;obtain ⟨rfl,e2⟩:=e;refine hc i _ (by rw [<- hl];exact e2) (h i ?_) ht;cases e:s.getD i false with|true=>rfl|false=>exact absurd (.inl e) hn
   ·exact h j hj
  ·exact h
theorem zRn {Q:Nat->Prop} (hc: ∀ i k,k<m.length->Q i->touch m v i k=true->Q k) {i:Nat} {s:List Bool} (hl:s.length=m.length) (h: ∀ j,s.getD j false=true->Q j): ∀ k j,(zHM m v i s k).getD j false=true->Q j
 | 0=>h
 | k+1=>by rw [zAn];exact z7z hc (by rw [zFn];exact hl) (zRn hc hl h k)
theorem zQs {Q:Nat->Prop} (hc: ∀ i k,k<m.length->Q i->touch m v i k=true->Q k) {s:List Bool} (hl:s.length=m.length) (h: ∀ j,s.getD j false=true->Q j): ∀ i j,(zG7 m v s i).getD j false=true->Q j
 | 0=>h
 | i+1=>by rw [zCJ];exact zRn hc (by rw [zFg];exact hl) (zQs hc hl h i) _
theorem zQt {Q:Nat->Prop} (hc: ∀ i k,k<m.length->Q i->touch m v i k=true->Q k) (h:Q 0): ∀ r j,(zFN m v r).getD j false=true->Q j
 | 0 =>fun j hj=>by
   have hj:((List.replicate m.length false).set 0 true).getD j false=true:=hj;rw [zEe] at hj;split at hj
   ·rename_i e;rw [<- e.1];exact h
   ·rw [gdE,List.getElem?_replicate] at hj;split at hj<;>cases hj
 | r+1=>by rw [zBe];exact zQs hc (zHu r) (zQt hc h r) _
end
theorem zDX {l:List P3} {v:Int} {t:P3} :t∈zAT l v↔∃ i,i<l.length/\tg l i=t/\z7 t v:=by
 unfold zAT;rw [List.mem_filter,zC9];constructor
 ·rintro ⟨ht,hv⟩;obtain ⟨i,hi,e⟩:=yG.1 ht;exact ⟨i,hi,by unfold tg;rw [gdE,gE hi];exact e,hv⟩
 ·rintro ⟨i,hi,e,hv⟩;unfold tg at e;rw [gdE,gE hi] at e;have e:l[i]=t:=e;exact ⟨by rw [<- e];exact yU hi,hv⟩
theorem qI {m:List P3} {j:Nat} (h:j<m.length):tg m j∈m:=by
 unfold tg;rw [gdE,gE h];exact yU h
theorem zAM {m:List P3} {t:P3} (h:t∈m): ∃ j,j<m.length/\tg m j=t:=by
 obtain ⟨i,hi,e⟩:=yG.1 h;exact ⟨i,hi,by unfold tg;rw [gdE,gE hi];exact e⟩
theorem other {t:P3} {v:Int} (hd: ¬ dgn t): ∃ w,w≠v/\z7 t w:=by
 unfold dgn at hd
 by_cases h:t.1=v
 ·exact ⟨t.2.1,by omega,.inr (.inl rfl)⟩
 ·exact ⟨t.1,h,.inl rfl⟩
theorem zMw {l:List P3} {v:Int} (hd: ∀ i,i<l.length->¬ dgn (tg l i)):zEy l v=false↔z5L l v:=by
 unfold zEy;rw [Bool.not_eq_false',zK];constructor
 ·intro h Q hQ a ha hva hQa i hi hvi;have hpos:0<(zAT l v).length:=List.length_pos_of_mem (zDX.2 ⟨a,ha,rfl,hva⟩)
  have key: ∀ R:Nat->Prop,(∀ i j:Nat,i<l.length->j<l.length->z7 (tg l i) v->z7 (tg l j) v->(∃ w:Int,w≠v/\z7 (tg l i) w/\z7 (tg l j) w)->R i->R j)->
   (∃ z,z<l.length/\tg l z=tg (zAT l v) 0/\z7 (tg l z) v/\R z)->∀ i,i<l.length->z7 (tg l i) v->R i:=fun R hR ⟨z,hz,ez,hzv,hRz⟩ i hi hvi=>by
   have hin:=zQt (m:=zAT l v) (v:=v) (Q:=fun j=>j<(zAT l v).length/\∀ i,i<l.length->tg l i=tg (zAT l v) j->z7 (tg l i) v->R i) (fun j k hk hj ht=>⟨hk,fun i hi ei hvi=>by
    obtain ⟨w,hw,h1,h2⟩:=zJV.1 ht;obtain ⟨i',hi',ei',hvi'⟩:=zDX.1 (qI hj.1)
    exact hR i' i hi' hi (by rw [ei'];exact hvi') hvi ⟨w,hw,by rw [ei'];exact h1,by rw [ei];exact h2⟩ (hj.2 i' hi' ei' (by rw [ei'];exact hvi'))⟩)
    ⟨hpos,fun i hi ei hvi=>by
      obtain ⟨w,hw,h1⟩:=other (v:=v) (hd z hz)
      exact hR z i hz hi hzv hvi ⟨w,hw,h1,by rw [ei,<- ez];exact h1⟩ hRz⟩ (zAT l v).length
   obtain ⟨j,hj,ej⟩:=zAM (zDX.2 ⟨i,hi,rfl,hvi⟩);exact (hin j (h j (zV.2 hj))).2 i hi ej.symm hvi
  obtain ⟨z,hz,ez,hzv⟩:=zDX.1 (qI hpos)
  by_cases hq:Q z
  ·exact key Q hQ ⟨z,hz,ez,by rw [ez];exact hzv,hq⟩ i hi hvi
  ·exact absurd hQa (key (fun i=> ¬ Q i) (fun i j hi hj h1 h2 ⟨w,h3,h4,h5⟩ hn hq=>hn (hQ j i hj hi h2 h1 ⟨w,h3,h5,h4⟩ hq)) ⟨z,hz,ez,by rw [ez];exact hzv,hq⟩ a ha hva)
 ·intro h j hj;have hj:=zV.1 hj;have hpos:0<(zAT l v).length:=by omega
  have hc:=zTY (m:=zAT l v) (v:=v) hpos;have hz:=zJh (m:=zAT l v) (v:=v) hpos (zAT l v).length;obtain ⟨z,hz1,hz2,hz3⟩:=zDX.1 (qI hpos);obtain ⟨i,hi1,hi2,hi3⟩:=zDX.1 (qI hj)
  have:=h (fun i=> ∃ j,j<(zAT l v).length/\tg (zAT l v) j=tg l i/\(zFN (zAT l v) v (zAT l v).length).getD j false=true) (fun a b ha hb hva hvb ⟨w,hw,h1,h2⟩ ⟨j,hj,e,hs⟩=>by
   obtain ⟨k,hk,ek⟩:=zAM (zDX.2 ⟨b,hb,rfl,hvb⟩)
   exact ⟨k,hk,ek,hc j k hj hk hs (zJV.2 ⟨w,hw,by rw [e];exact h1,by rw [ek];exact h2⟩)⟩) z hz1 (by rw [hz2];exact hz3) ⟨0,hpos,hz2.symm,hz⟩ i hi1 (by rw [hi2];exact hi3)
  obtain ⟨k,hk,ek,hs⟩:=this;obtain ⟨w,hw,h1⟩:=other (v:=v) (hd i hi1);exact hc k j hk hj hs (zJV.2 ⟨w,hw,by rw [ek];exact h1,by rw [<- hi2];exact h1⟩)
theorem zUr {l:List P3} {n:Nat} (hd: ∀ i,i<l.length->¬ dgn (tg l i)):piL l n=[]↔∀ v:Nat,v<n->z5L l v:=by
 unfold piL;rw [List.filterMap_eq_nil_iff];constructor
 ·intro h v hv;have:=h v (zV.2 hv);unfold piG at this;split at this
  ·cases this
  ·rename_i e;exact (zMw hd).1 (by rw [<- Bool.not_eq_true];exact e)
 ·intro h v hv;unfold piG;rw [if_neg (by rw [(zMw hd).2 (h v (zV.1 hv))];simp)]
theorem zZI (s:Int×List P3):allR s=[]↔(jD s=[]/\dgL s.2 s.2.length=[]/\prO s.2 3 s.2.length=[]/\prO s.2 4 s.2.length=[]/\loL s.2 s.1.toNat=[]/\piL s.2 s.1.toNat=[]):=by
 unfold allR;constructor
 ·intro h
  repeat' split at h
  all_goals first
   | (rename_i hh;rw [h] at hh;exact absurd hh (by decide))
   | skip
  rename_i h1 h2 h3 h4 h5;exact ⟨List.length_eq_zero_iff.1 (by omega),List.length_eq_zero_iff.1 (by omega),List.length_eq_zero_iff.1 (by omega),List.length_eq_zero_iff.1 (by omega),List.length_eq_zero_iff.1 (by omega),h⟩
 ·rintro ⟨h1,h2,h3,h4,h5,h6⟩;simp [h1,h2,h3,h4,h5,h6]
theorem zYB (s:Int×List P3):zP6 s=true↔zBC s:=by
 unfold zP6;rw [beq_iff_eq,List.length_eq_zero_iff,zZI,zYz,z2g,zYO,zYO,z3A];constructor
 ·rintro ⟨hf,hd,h3,h4,hu,hp⟩;have h0:0<=s.1:=hf.1;refine ⟨hf,hd,fun i j hij hj a b h1 h2=> ?_,fun i j hij hj h=> ?_,fun v hv=>hu v (by omega),fun v hv=>(zUr hd).1 hp v (by omega)⟩
  ·have:=h3 i j hij hj;rw [pt3] at this;rw [zKM.2 ⟨a,b,h1,h2⟩] at this;cases this
  ·have:=h4 i j hij hj;rw [pt4,zC9.2 h.1,zC9.2 h.2.1,zC9.2 h.2.2] at this;cases this
 ·intro h;have h0:0<=s.1:=h.fit.1;refine ⟨h.fit,h.deg,fun i j hij hj=> ?_,fun i j hij hj=> ?_,fun v hv=>h.use v (by omega),(zUr h.deg).2 fun v hv=>h.pin v (by omega)⟩
  ·rw [pt3,<- Bool.not_eq_true];intro e;obtain ⟨a,b,h1,h2⟩:=zKM.1 e;exact h.dif i j hij hj a b h1 h2
  ·rw [pt4,<- Bool.not_eq_true];intro e;simp only [zC,zC9] at e;exact h.mir i j hij hj e
end S9
open Go Go.Vm Go.Proofs
namespace S1
abbrev FsT:=List Bool×Int
theorem zEN {S:Type} (m:S->Int) (f:S->Nat->S) (hf: ∀ s i,f s i=s\/m s<m (f s i)): ∀ n s,(qA f s n=s/\∀ i,i<n->f s i=s)\/m s<m (qA f s n)
 | 0,s=> .inl ⟨rfl,fun i hi=>by omega⟩
 | n +1,s=>by
   have e:qA f s (n+1)=f (qA f s n) n:=rfl;rcases zEN m f hf n s with ⟨h1,h2⟩|h
   ·rw [e,h1];rcases hf s n with h|h
    ·exact .inl ⟨h,fun i hi=>by
      by_cases k:i=n
      ·subst k;exact h
      ·exact h2 i (by omega)⟩
    ·exact .inr h
   ·rw [e];rcases hf (qA f s n) n with k|k
    ·rw [k];exact .inr h
    ·exact .inr (by omega)
theorem zMA {S:Type} {f:S->Nat->S} {s:S} : ∀ n,(∀ i,i<n->f s i=s)->qA f s n=s
 | 0,_=>rfl
 | n+1,h=>by
   show f (qA f s n) n=s;rw [zMA n fun i hi=>h i (by omega)];exact h n (by omega)
def fsK (bs:Int->Int->Bool) (L:List Int) (i:Nat) (st:FsT) (k:Nat):FsT :=
 if st.1.getD (L.getD i 0).toNat false=true/\st.1.getD (L.getD k 0).toNat false=false/\bs (L.getD i 0) (L.getD k 0)=true then (st.1.set (L.getD k 0).toNat true,st.2+1) else st
def fsI (bs:Int->Int->Bool) (L:List Int) (st:FsT) (i:Nat):FsT:=qA (fsK bs L i) st L.length
def fsR (bs:Int->Int->Bool) (L:List Int) (st:FsT) (_:Nat):FsT:=qA (fsI bs L) st L.length
def fs0 (L:List Int) (n:Nat):FsT:=((List.replicate n false).set (L.getD 0 0).toNat true,1)
def fsS (bs:Int->Int->Bool) (L:List Int) (n r:Nat):FsT:=qA (fsR bs L) (fs0 L n) r
section
variable {bs:Int->Int->Bool} {L:List Int} {n:Nat}
theorem zSC (i:Nat) (st:FsT) (k:Nat):fsK bs L i st k=st\/st.2<(fsK bs L i st k).2:=by
 unfold fsK;split
 ·exact .inr (by show st.2<st.2+1;omega)
 ·exact .inl rfl
theorem zQV (st:FsT) (i:Nat):fsI bs L st i=st\/st.2<(fsI bs L st i).2:=(zEN (·.2) _ (zSC i) _ st).imp (·.1) id
theorem zZV (st:FsT) (r:Nat):fsR bs L st r=st\/st.2<(fsR bs L st r).2:=(zEN (·.2) _ zQV _ st).imp (·.1) id
def zVk (bs:Int->Int->Bool) (L:List Int) (st:FsT):Prop:= ∀ i k,i<L.length->k<L.length->fsK bs L i st k=st
theorem z2z {st:FsT} {r:Nat} (h:fsR bs L st r=st):zVk bs L st:=by
 have h1: ∀ i,i<L.length->fsI bs L st i=st:=by
  rcases zEN (·.2) (fsI bs L) zQV L.length st with ⟨_,k⟩|k
  ·exact k
  ·have e:qA (fsI bs L) st L.length=st:=h;rw [e] at k;omega
 intro i k hi hk;rcases zEN (·.2) (fsK bs L i) (zSC i) L.length st with ⟨_,q⟩|q
 ·exact q k hk
 ·have e:qA (fsK bs L i) st L.length=st:=h1 i hi;rw [e] at q;omega
theorem zVk.fix {st:FsT} (h:zVk bs L st) (r:Nat):fsR bs L st r=st:=zMA _ fun i hi=>zMA _ fun k hk=>h i k hi hk
theorem zUN: ∀ r,zVk bs L (fsS bs L n r)\/1+(r:Int)<=(fsS bs L n r).2
 | 0=> .inr (by show 1+((0:Nat):Int)<=1;omega)
 | r +1=>by
   have e:fsS bs L n (r+1)=fsR bs L (fsS bs L n r) r:=rfl;rw [e];rcases zUN r with h|h
   ·rw [h.fix];exact .inl h
   ·rcases zZV (bs:=bs) (L:=L) (fsS bs L n r) r with k|k
    ·rw [k];exact .inl (z2z k)
    ·exact .inr (by omega)
structure zPj (L:List Int) (n:Nat) (R:Int->Prop) (st:FsT) (ks:List Int):Prop where
 nd:ks.Nodup
 len:(ks.length:Int)=st.2
 sub: ∀ x∈ks,x∈L/\R x
 size:st.1.length=n
 mem: ∀ x,0<=x->(st.1.getD x.toNat false=true↔x∈ks)
theorem zIY (l:List Bool) (i j:Nat) (hi:i<l.length):(l.set i true).getD j false=if i=j then true else l.getD j false:=by
 rw [gdE,List.getElem?_set];split
 ·rename_i e;subst e;rfl
 ·rw [gdE]
variable {R:Int->Prop} (hL: ∀ x∈L,0<=x/\x<(n:Int))
include hL
theorem zTj (hR: ∀ x∈L,∀ y∈L,bs x y=true->R x->R y) {i k:Nat} (hi:i<L.length) (hk:k<L.length) {st:FsT} (h: ∃ ks,zPj L n R st ks): ∃ ks,zPj L n R (fsK bs L i st k) ks:=by
 obtain ⟨ks,h⟩:=h;unfold fsK;split
 case isFalse=>exact ⟨ks,h⟩
 rename_i hc;obtain ⟨c1,c2,c3⟩:=hc;have mi:=jA hi;have mk:=jA hk;have b:=hL _ mk;have nk:L.getD k 0∉ks:=fun e=>by rw [(h.mem _ b.1).2 e] at c2;cases c2
 refine ⟨L.getD k 0::ks,List.nodup_cons.2 ⟨nk,h.nd⟩,?_,fun x hx=> ?_,?_,fun x hx=> ?_⟩
 ·have:=h.len;show ((ks.length+1:Nat):Int)=st.2+1;omega
 ·rcases zT.1 hx with e|e
  ·subst e;exact ⟨mk,hR _ mi _ mk c3 (h.sub _ ((h.mem _ (hL _ mi).1).1 c1)).2⟩
  ·exact h.sub x e
 ·show (st.1.set _ true).length=n;rw [List.length_set];exact h.size
 ·show (st.1.set _ true).getD _ false=true↔_;rw [zIY _ _ _ (by rw [h.size];omega),zT];split
  ·rename_i e;exact ⟨fun _=> .inl (by omega),fun _=>rfl⟩
  ·rename_i e;rw [h.mem x hx];exact ⟨.inr,fun k=>k.resolve_left (fun e'=>e (by rw [e']))⟩
theorem zKe (hR: ∀ x∈L,∀ y∈L,bs x y=true->R x->R y) (hne:0<L.length) (h0:R (L.getD 0 0)) (r:Nat): ∃ ks,zPj L n R (fsS bs L n r) ks:=by
 have m0:=jA hne;have b:=hL _ m0;refine qX (n:=r) (fun _ st=> ∃ ks,zPj L n R st ks) ?_ (fun _ st _ h=> ?_) r (zI _)
 ·refine ⟨[L.getD 0 0],List.nodup_cons.2 ⟨by simp,List.nodup_nil⟩,rfl,fun x hx=> ?_,?_,fun x hx=> ?_⟩
  ·rw [zF.1 hx];exact ⟨m0,h0⟩
  ·unfold fs0;simp
  ·unfold fs0;rw [zIY _ _ _ (by rw [List.length_replicate];omega),zF];split
   ·rename_i e;exact ⟨fun _=>by omega,fun _=>rfl⟩
   ·rename_i e;rw [gdE,List.getElem?_replicate];split
    ·exact ⟨fun h=>(by cases h),fun h=>absurd (by rw [h]) e⟩
    ·exact ⟨fun h=>(by cases h),fun h=>absurd (by rw [h]) e⟩
 ·exact qX (n:=L.length) (fun _ st=> ∃ ks,zPj L n R st ks) h (fun i st hi h=>qX (n:=L.length) (fun _ st=> ∃ ks,zPj L n R st ks) h (fun k st hk h=>zTj hL hR hi hk h) _ (zI _)) _ (zI _)
theorem z01 (hn:L.Nodup) (hne:0<L.length):(fsS bs L n L.length).2=(L.length:Int)↔∀ Q:Int->Prop,(∀ x∈L,∀ y∈L,bs x y=true->Q x->Q y)->Q (L.getD 0 0)->∀ x∈L,Q x:=by
 constructor
 ·intro h Q hQ h0 x hx;obtain ⟨ks,k⟩:=zKe hL hQ hne h0 L.length;have hl:ks.length=L.length:=by have:=k.len;omega
  apply yF;intro hq;have nx:x∉ks:=fun e=>hq (k.sub x e).2
  have:=zBv (x::ks) L (List.nodup_cons.2 ⟨nx,k.nd⟩) fun y hy=>by
   rcases zT.1 hy with e|e
   ·rw [e];exact hx
   ·exact (k.sub y e).1
  simp only [z8] at this;omega
 ·intro h;obtain ⟨ks,k⟩:=zKe (R:=fun _=>True) hL (fun _ _ _ _ _ _=>trivial) hne trivial L.length (bs:=bs);have hle:=zBv ks L k.nd fun y hy=>(k.sub y hy).1;have hclo:zVk bs L (fsS bs L n L.length):=(zUN L.length).resolve_right (by have:=k.len;omega)
  have all := h (fun x=>(fsS bs L n L.length).1.getD x.toNat false=true) (fun x hx y hy b hq=>by
   obtain ⟨i,hi,ei⟩:=yG.1 hx;obtain ⟨j,hj,ej⟩:=yG.1 hy;have gi:L.getD i 0=x:=by rw [gdE,gE hi];exact ei
   have gj:L.getD j 0=y:=by rw [gdE,gE hj];exact ej
   have:=hclo i j hi hj;unfold fsK at this;rw [gi,gj] at this;split at this
   ·have e:=congrArg Prod.snd this;have e:(fsS bs L n L.length).2+1=(fsS bs L n L.length).2:=e;omega
   ·rename_i hc;apply yF;intro hy'
    exact hc ⟨hq,by simpa using hy',b⟩) (by
   obtain ⟨ks1,k1⟩:=zKe (R:=fun _=>True) hL (fun _ _ _ _ _ _=>trivial) hne trivial L.length (bs:=bs)
   have: ∀ r,(fsS bs L n r).1.getD (L.getD 0 0).toNat false=true:=fun r=>by
    have b:=hL _ (jA hne)
    have step: ∀ i k (st:FsT),st.1.getD (L.getD 0 0).toNat false=true->(fsK bs L i st k).1.getD (L.getD 0 0).toNat false=true:=fun i k st h=>by
     unfold fsK;split
     ·show (st.1.set _ true).getD _ false=true;rw [gdE,List.getElem?_set];split
      ·split
       ·rfl
       ·rename_i e1 e2;rw [<- e1] at h;rw [gdE,List.getElem?_eq_none (by omega)] at h;cases h
      ·rw [<- gdE];exact h
     ·exact h
    refine qX (n:=r) (fun _ (st:FsT)=>st.1.getD (L.getD 0 0).toNat false=true) ?_ (fun _ st _ h=> ?_) r (zI _)
    ·unfold fs0;rw [zIY _ _ _ (by rw [List.length_replicate];omega),if_pos rfl]
    ·exact qX (n:=L.length) (fun _ (st:FsT)=>st.1.getD (L.getD 0 0).toNat false=true) h (fun i st hi h=>qX (n:=L.length) (fun _ (st:FsT)=>st.1.getD (L.getD 0 0).toNat false=true) h (fun k st hk h=>step i k st h) _ (zI _)) _ (zI _)
   exact this _)
  have:=zBv L ks hn fun x hx=>(k.mem x (hL x hx).1).1 (all x hx);have:=k.len;omega
end
def zOc (L:List Int) (n:Nat) (st:FsT):Prop:= ∃ ks,zPj L n (fun _=>True) st ks
section
variable {bs:Int->Int->Bool} {L:List Int} {n:Nat}
theorem zOc.le {st:FsT} (h:zOc L n st):0<=st.2/\st.2<=L.length/\st.1.length=n:=by
 obtain ⟨ks,h⟩:=h;have:=zBv ks L h.nd fun y hy=>(h.sub y hy).1;have:=h.len;exact ⟨by omega,by omega,h.size⟩
theorem zOc.k (hL: ∀ x∈L,0<=x/\x<(n:Int)) {st:FsT} (h:zOc L n st) {i:Nat} (hi:i<L.length): ∀ k,k<=L.length->zOc L n (qA (fsK bs L i) st k) :=
 qX (n:=L.length) (fun _ st=>zOc L n st) h (fun k st hk h=>zTj hL (fun _ _ _ _ _ _=>trivial) hi hk h)
theorem zOc.i (hL: ∀ x∈L,0<=x/\x<(n:Int)) {st:FsT} (h:zOc L n st): ∀ i,i<=L.length->zOc L n (qA (fsI bs L) st i) :=
 qX (n:=L.length) (fun _ st=>zOc L n st) h (fun i st hi h=>zOc.k hL h hi _ (zI _))
theorem zOc.r (hL: ∀ x∈L,0<=x/\x<(n:Int)) (hne:0<L.length) (r:Nat):zOc L n (fsS bs L n r):=zKe hL (fun _ _ _ _ _ _=>trivial) hne trivial r
end
def inG (l:List P3) (v:Int) (i:Nat):Option Int:=if z7 (tg l i) v then some (i:Int) else none
def inL (l:List P3) (v:Int) (i:Nat):List Int:=(List.range i).filterMap (inG l v)
theorem zLI (l:List P3) (v:Int) (i:Nat):inL l v (i+1)=inL l v i++(inG l v i).toList:=qZ _ _
theorem z4q (l:List P3) (v:Int) (i:Nat):(inL l v i).length<=i:=zCd _ _
theorem zCY {l:List P3} {v:Int} {n:Nat} {x:Int} :x∈inL l v n↔∃ j:Nat,j<n/\z7 (tg l j) v/\x=j:=by
 unfold inL;rw [List.mem_filterMap];constructor
 ·rintro ⟨j,hj,e⟩;unfold inG at e;split at e
  ·rename_i h;cases e;exact ⟨j,zV.1 hj,h,rfl⟩
  ·cases e
 ·rintro ⟨j,hj,h,rfl⟩;exact ⟨j,zV.2 hj,by unfold inG;rw [if_pos h]⟩
theorem zPA {l:List P3} {v:Int} {n:Nat} : ∀ x∈inL l v n,0<=x/\x<(n:Int):=fun x hx=>by
 obtain ⟨j,hj,_,rfl⟩:=zCY.1 hx;omega
theorem zNU (l:List P3) (v:Int): ∀ n,(inL l v n).Nodup
 | 0=>List.nodup_nil
 | n + 1=>by
   rw [zLI,List.nodup_append];refine ⟨zNU l v n,?_,fun a ha b hb=> ?_⟩
   ·unfold inG;split
    ·exact List.nodup_cons.2 ⟨by simp,List.nodup_nil⟩
    ·exact List.nodup_nil
   ·unfold inG at hb;split at hb
    ·rw [Option.toList,zF] at hb;have:=zPA a ha;omega
    ·cases hb
def zLX (a b:P3):Nat->Int
 | 0=>0
 | k+1=>if z7 b (zKV a k) then zLX a b k+1 else zLX a b k
def z4T (a b:P3):Bool:=decide (zLX a b 3>=2)
def zJ1 (l:List P3) (p q:Int):Bool:=z4T (tg l p.toNat) (tg l q.toNat)
def zBZ (l:List P3) (v:Int):Int×Int:=((inL l v l.length).length,if (inL l v l.length).length=0 then 0 else (fsS (zJ1 l) (inL l v l.length) l.length (inL l v l.length).length).2)
theorem zDk (a b:P3) (k:Nat):zLX a b (k+1)=if z7 b (zKV a k) then zLX a b k+1 else zLX a b k:=rfl
theorem zPg (a b:P3): ∀ k:Nat,0<=zLX a b k/\zLX a b k<=k
 | 0=>⟨Int.le_refl _,Int.le_refl _⟩
 | k+1=>by
   have:=zPg a b k;rw [zDk];split<;>omega
theorem z3D {a b:P3} (hd: ¬ dgn a) {v:Int} (h1:z7 a v) (h2:z7 b v):z4T a b=true↔∃ w,w≠v/\z7 a w/\z7 b w:=by
 unfold z4T;rw [zP,zDk,zDk,zDk];obtain ⟨x,y,z⟩:=a;unfold dgn at hd;simp only [zKV,List.getD_cons_zero,List.getD_cons_succ,zLX] at *;have hv:z7 (x,y,z) v↔(x=v\/y=v\/z=v):=Iff.rfl;constructor
 ·intro h;have key: ∀ w,(x=w\/y=w\/z=w)->z7 b w->w≠v->∃ w,w≠v/\z7 (x,y,z) w/\z7 b w:=fun w hw hb hn=>⟨w,hn,hw,hb⟩
  by_cases b1:z7 b x<;>by_cases b2:z7 b y<;>by_cases b3:z7 b z<;>simp only [b1,b2,b3,if_true,if_false] at h<;>first
   | omega
   | (by_cases e:x=v
      ·exact key y (.inr (.inl rfl)) b2 (by omega)
      ·exact key x (.inl rfl) b1 e)
   | (by_cases e:x=v
      ·exact key z (.inr (.inr rfl)) b3 (by omega)
      ·exact key x (.inl rfl) b1 e)
   | (by_cases e:y=v
      ·exact key z (.inr (.inr rfl)) b3 (by omega)
      ·exact key y (.inr (.inl rfl)) b2 e)
 ·rintro ⟨w,w1,w2,w3⟩;have w2:x=w\/y=w\/z=w:=w2;have h1:=hv.1 h1;have c1: ∀ u,u=v\/u=w->z7 b u:=fun u hu=>by rcases hu with e|e<;>(rw [e];assumption)
  by_cases b1:z7 b x<;>by_cases b2:z7 b y<;>by_cases b3:z7 b z<;>simp only [b1,b2,b3,if_true,if_false]<;>first
   | omega
   | (exfalso
      have k1: ¬ (x=v\/x=w):=fun k=>(by first|exact absurd (c1 _ k) b1|exact (by assumption:False))
      omega)
   | (exfalso
      by_cases k1:x=v\/x=w
      ·by_cases k2:y=v\/y=w
       ·first|exact b1 (c1 _ k1)|exact b2 (c1 _ k2)
       ·by_cases k3:z=v\/z=w
        ·first|exact b1 (c1 _ k1)|exact b3 (c1 _ k3)
        ·omega
      ·by_cases k2:y=v\/y=w
       ·by_cases k3:z=v\/z=w
        ·first|exact b2 (c1 _ k2)|exact b3 (c1 _ k3)
        ·omega
       ·omega)
theorem z4Z {l:List P3} {v:Int} {k:Nat} (hk:k<(inL l v l.length).length):0<=(inL l v l.length).getD k 0/\((inL l v l.length).getD k 0).toNat<l.length/\z7 (tg l ((inL l v l.length).getD k 0).toNat) v:=by
 obtain ⟨j,hj,h,e⟩:=zCY.1 (jA hk);rw [e];exact ⟨by omega,by omega,h⟩
theorem z1U {l:List P3} (hd: ∀ i,i<l.length->¬ dgn (tg l i)) {v:Int} (hne:0<(inL l v l.length).length):(zBZ l v).1=(zBZ l v).2↔z5L l v:=by
 have e:(zBZ l v).2=(fsS (zJ1 l) (inL l v l.length) l.length (inL l v l.length).length).2:=if_neg (by omega);rw [e];have hc:=z01 (bs:=zJ1 l) (L:=inL l v l.length) (n:=l.length) zPA (zNU l v _) hne;have hc:(zBZ l v).1=(fsS (zJ1 l) (inL l v l.length) l.length (inL l v l.length).length).2↔_:=⟨fun h=>hc.1 h.symm,fun h=>(hc.2 h).symm⟩;rw [hc]
 have rel: ∀ i j:Nat,i<l.length->z7 (tg l i) v->z7 (tg l j) v->(zJ1 l (i:Int) (j:Int)=true↔∃ w,w≠v/\z7 (tg l i) w/\z7 (tg l j) w):=fun i j hi h1 h2=>by
  unfold zJ1;exact z3D (hd i hi) h1 h2
 obtain ⟨z,hz,hzv,ez⟩:=zCY.1 (jA hne);constructor
 ·intro h Q hQ a ha hav hqa i hi hiv
  have go: ∀ R:Nat->Prop,(∀ i j:Nat,i<l.length->j<l.length->z7 (tg l i) v->z7 (tg l j) v->(∃ w:Int,w≠v/\z7 (tg l i) w/\z7 (tg l j) w)->R i->R j)->R z->∀ i,i<l.length->z7 (tg l i) v->R i:=fun R hR h0 i hi hiv=>by
   have:=h (fun x=>R x.toNat) (fun x hx y hy b q=>by
    obtain ⟨p,hp,hpv,rfl⟩:=zCY.1 hx;obtain ⟨s,hs,hsv,rfl⟩:=zCY.1 hy
    exact hR p s hp hs hpv hsv ((rel p s hp hpv hsv).1 b) q) (by rw [ez];exact h0) (i:Int) (zCY.2 ⟨i,hi,hiv,rfl⟩)
   exact this
  by_cases hqz:Q z
  ·exact go Q hQ hqz i hi hiv
  ·exact absurd hqa (go (fun k=> ¬ Q k) (fun i j hi hj h1 h2 ⟨w,w1,w2,w3⟩ hn hq=>hn (hQ j i hj hi h2 h1 ⟨w,w1,w3,w2⟩ hq)) hqz a ha hav)
 ·intro h Q hQ h0 x hx;obtain ⟨i,hi,hiv,rfl⟩:=zCY.1 hx;rw [ez] at h0;exact h (fun k=>Q (k:Int)) (fun p q hp hq h1 h2 hw hqp=>hQ _ (zCY.2 ⟨p,hp,h1,rfl⟩) _ (zCY.2 ⟨q,hq,h2,rfl⟩) ((rel p q hp h1 h2).2 hw) hqp) z hz hzv h0 i hi hiv
def shE (t u:P3) (p q:Nat):Prop:=zKV t p=zKV u q/\zKV t ((p+1) % 3)=zKV u ((q+1) % 3)
def zQg (t u:P3):Prop:=(∀ p q,p<3->q<3->¬ shE t u p q)/\zLX t u 3≠3
theorem zRW {t:P3} {a b:Int} :dE t a b↔∃ p,p<3/\zKV t p=a/\zKV t ((p+1) % 3)=b:=by
 constructor
 ·rintro (⟨h1,h2⟩|⟨h1,h2⟩|⟨h1,h2⟩)
  ·exact ⟨0,by omega,h1,h2⟩
  ·exact ⟨1,by omega,h1,h2⟩
  ·exact ⟨2,by omega,h1,h2⟩
 ·rintro ⟨p,hp,h1,h2⟩;have:p=0\/p=1\/p=2:=by omega
  rcases this with e|e|e<;>subst e
  ·exact .inl ⟨h1,h2⟩
  ·exact .inr (.inl ⟨h1,h2⟩)
  ·exact .inr (.inr ⟨h1,h2⟩)
theorem z8u (t u:P3):zLX t u 3=3↔z7 u t.1/\z7 u t.2.1/\z7 u t.2.2:=by
 rw [zDk,zDk,zDk];have e0:zKV t 0=t.1:=rfl;have e1:zKV t 1=t.2.1:=rfl;have e2:zKV t 2=t.2.2:=rfl;rw [e0,e1,e2];show (if _ then (if _ then (if _ then (0:Int)+1 else 0)+1 else _)+1 else _)=3↔_
 by_cases b1:z7 u t.1<;>by_cases b2:z7 u t.2.1<;>by_cases b3:z7 u t.2.2<;>simp [b1,b2,b3,zLX]
theorem zWm {t u:P3} (h1: ¬ dgn t) (h2: ¬ dgn u) (h:z7 u t.1/\z7 u t.2.1/\z7 u t.2.2):z7 t u.1/\z7 t u.2.1/\z7 t u.2.2:=by
 obtain ⟨x,y,z⟩:=t;obtain ⟨p,q,r⟩:=u;unfold z7 at *;unfold dgn at *;simp only at *;omega
theorem zXs {s:Int×List P3} (hf:zLh s) (hd: ∀ i,i<s.2.length->¬ dgn (tg s.2 i)) (hp: ∀ i k,k<i->i<s.2.length->zQg (tg s.2 i) (tg s.2 k)) (hv: ∀ v:Nat,(v:Int)<s.1->(zBZ s.2 v).1≠0/\(zBZ s.2 v).1=(zBZ s.2 v).2):zBC s:=by
 refine ⟨hf,hd,fun i j hij hj a b k1 k2=> ?_,fun i j hij hj hh=> ?_,fun v hv'=> ?_,fun v hv'=> ?_⟩
 ·obtain ⟨p,hp3,e1,e2⟩:=zRW.1 k1;obtain ⟨q,hq3,e3,e4⟩:=zRW.1 k2;exact (hp j i hij hj).1 q p hq3 hp3 ⟨e3.trans e1.symm,e4.trans e2.symm⟩
 ·refine (hp j i hij hj).2 ((z8u _ _).2 ?_);exact zWm (hd i (by omega)) (hd j hj) hh
 ·have:=(hv v hv').1
  have:0<(inL s.2 v s.2.length).length:=by
   have e:(zBZ s.2 v).1=((inL s.2 v s.2.length).length:Int):=rfl;omega
  obtain ⟨j,hj,h,_⟩:=zCY.1 (jA this);exact ⟨j,hj,h⟩
 ·have h1:=(hv v hv').1
  have:0<(inL s.2 v s.2.length).length:=by
   have e:(zBZ s.2 v).1=((inL s.2 v s.2.length).length:Int):=rfl;omega
  exact (z1U hd this).1 (hv v hv').2
theorem zM7 {s:Int×List P3} (h:zBC s) {i k:Nat} (hki:k<i) (hi:i<s.2.length):zQg (tg s.2 i) (tg s.2 k):=by
 refine ⟨fun p q hp hq hh=> ?_,fun hh=> ?_⟩
 ·exact h.dif k i hki hi _ _ (zRW.2 ⟨q,hq,rfl,rfl⟩) (zRW.2 ⟨p,hp,hh.1,hh.2⟩)
 ·exact h.mir k i hki hi (zWm (h.deg i hi) (h.deg k (by omega)) ((z8u _ _).1 hh))
theorem z0p {s:Int×List P3} (h:zBC s) {v:Nat} (hv:(v:Int)<s.1):(zBZ s.2 v).1≠0/\(zBZ s.2 v).1=(zBZ s.2 v).2:=by
 obtain ⟨j,hj,hjv⟩:=h.use v hv;have hm:(j:Int)∈inL s.2 v s.2.length:=zCY.2 ⟨j,hj,hjv,rfl⟩;have:0<(inL s.2 v s.2.length).length:=List.length_pos_of_mem hm;refine ⟨?_,(z1U h.deg this).2 (h.pin v hv)⟩;have e:(zBZ s.2 v).1=((inL s.2 v s.2.length).length:Int):=rfl;omega
end S1
open Go Go.Vm Go.Proofs
namespace S1
@[irreducible] def hasB (t:P3) (v:Int):Bool:=decide (z7 t v)
theorem zGE {t:P3} {v:Int} :hasB t v=true↔z7 t v:=by unfold hasB;exact decide_eq_true_iff
theorem zP3 {t:P3} {v:Int} :hasB t v=false↔¬ z7 t v:=by rw [<- zGE];simp
theorem zYr {fn} (t:P3) (v:Int):zAG ⟨tyL,fn,[]⟩ Tryz.f51 [ETy.arr3.av t,y7.av v] (fun r=>r= .s (.bool (hasB t v))):=by
 repeat' (conv=>whnf
          first|done|refine qN (by first|rfl|omega|(simp only [yO] at *;omega)) ?_|apply qH|refine qG fun _=> ?_|apply qB|apply qa|apply qo|refine qe (fun _=> ?_) (fun _=> ?_)|refine qn (fun _=> ?_) (fun _=> ?_)|refine qd (fun _=> ?_) (fun _=> ?_)|apply qt|refine qi (fun _=> ?_) (fun _=> ?_)|refine zA rfl ?_|apply qE|apply qO|exact zN|apply qq|apply qs|refine qK (by kernel_rfl) ?_|apply qr)
 all_goals try first|apply qz1|apply qz2|apply qz3|apply qz4|apply qz5|apply qz6|apply qz7|apply qz8|apply qz9|apply qz0
 all_goals try simp only [zZ,zR,yE,z6,qn1,zY,qn2,zX,ETy.dflt,qn3,qn4,Int.reduceToNat,Int.reduceAdd,Int.reduceSub,Int.reduceNeg,Nat.reduceAdd,zD] at *
 all_goals (rw [Bool.eq_iff_iff,zGE];unfold z7;simp [*])
def zJN:List AV->Option Res:=zCs .arr3 y7 (fun t v=>some (none,none,.s (.bool (hasB t v))))
theorem zLc:qM Tryz.prog 51 zJN:=⟨jC fun t v r h=>by cases h;exact qL (yM (fn:=[]) (fr:=[]) trivial trivial) Tryz.func51 (by kernel_rfl) fun _ _=>zYr t v,_,Tryz.func51,by kernel_rfl,by kernel_rfl⟩
theorem zUQ (t:P3) (k:Nat):[t.1,t.2.1,t.2.2].getD k 0=zKV t k:=rfl
theorem tmX (x:Nat):(((x:Int)+1).tmod 3).toNat=(x+1) % 3:=by rw [Int.tmod_eq_emod_of_nonneg (by omega)];omega
def zP8 (a b:P3):Spec Nat where
 inv k:=k<=3
 live k:=[(6,.s (.int .i64 k)),(5,.s (.int .i64 (zLX a b k)))]
 keep:=[2,3]
 heap _:=[]
 keepH:=[0,1]
 mu k:=3 - k
theorem zJy (a b:P3):zLX a b 0=0:=rfl
attribute [local irreducible] zLX
theorem zZe (a b:P3):zAG ⟨tyL,[(51,zJN)],[]⟩ Tryz.f91 [ETy.arr3.av a,ETy.arr3.av b] (fun r=>r= .s (.bool (z4T a b))):=by
 repeat' (conv=>whnf
          first|done|refine qN (by first|rfl|omega|(simp only [yO] at *;omega)) ?_|apply qH|refine qG fun _=> ?_|apply qB|apply qa|apply qo|refine qe (fun _=> ?_) (fun _=> ?_)|refine qn (fun _=> ?_) (fun _=> ?_)|refine qd (fun _=> ?_) (fun _=> ?_)|apply qt|refine qi (fun _=> ?_) (fun _=> ?_)|(refine qS 3 rfl ?_;refine Or.inr (zB (Nat) (zB (zP8 a b) (zA (zB (0) (zA (yJ.out ?_) (zA ?_ (zA ?_ rfl)))) (fun k hk=> ?_)))))|((with_reducible show (∃ y,And (Spec.inv (zP8 _ _) y) _));refine zB (k+1) (zA (yJ.out ?_) (zA (zA ?_ (zA ?_ rfl)) (yJ.out ?_))))|refine zA rfl ?_|apply qE|apply qO|exact zN|apply qq|apply qs|refine qK (by kernel_rfl) ?_|apply qr)
 all_goals try first|apply qz1|apply qz2|apply qz3|apply qz4|apply qz5|apply qz6|apply qz7|apply qz8|apply qz9|apply qz0
 all_goals try simp only [zZ,zR,yE,z6,qn1,zY,qn2,zX,ETy.dflt,qn3,qn4,Int.reduceToNat,Int.reduceAdd,Int.reduceSub,Int.reduceNeg,Nat.reduceAdd,zD,zP8,zUQ,z4T,tmX] at *
 all_goals try exact zJy a b
 all_goals try exact qh (Nat.zero_le _)
 all_goals try (rw [zJy];done)
 all_goals try (rw [zJy];rfl)
 all_goals try exact zJy _ _
 all_goals try exact (zJy _ _).symm
 all_goals have hN:=zPg a b k
 all_goals try (refine qh ?_;omega)
 all_goals try (refine qh ?_;unfold yO;omega)
 all_goals try (rw [zDk,if_pos (zGE.1 (by assumption))];done)
 all_goals try (rw [zDk,if_neg (zP3.1 (by assumption))];done)
 all_goals (rw [show k=3 by omega])
def zW1:List AV->Option Res:=zCs .arr3 .arr3 (fun a b=>some (none,none,.s (.bool (z4T a b))))
theorem zZJ:qM Tryz.prog 91 zW1:=⟨jC fun a b r h=>by cases h;exact qL (yM (fn:=[(51,zJN)]) (fr:=[]) ⟨zLc,trivial⟩ trivial) Tryz.func91 (by kernel_rfl) fun _ _=>zZe a b,_,Tryz.func91,by kernel_rfl,by kernel_rfl⟩
theorem z5W (l:List P3) (v:Int):inL l v 0=[]:=rfl
theorem z4s {l:List P3} {v:Int} {i:Nat} (h:hasB (l.getD i (0,0,0)) v=true):inL l v (i+1)=inL l v i++[(i:Int)]:=by
 have h:z7 (tg l i) v:=zGE.1 h;rw [zLI];unfold inG;rw [if_pos h];rfl
theorem z5U {l:List P3} {v:Int} {i:Nat} (h:hasB (l.getD i (0,0,0)) v=false):inL l v (i+1)=inL l v i:=by
 have h: ¬ z7 (tg l i) v:=zP3.1 h;rw [zLI];unfold inG;rw [if_neg h];exact List.append_nil _
theorem z5T (bs:Int->Int->Bool) (L:List Int) (n:Nat):(fsS bs L n 0).2=1:=rfl
theorem z5z (bs:Int->Int->Bool) (L:List Int) (n:Nat):(fsS bs L n 0).1=(List.replicate n false).set (L.getD 0 0).toNat true:=rfl
theorem z6c {X:Type} (f:X->Nat->X) (s:X):qA f s 0=s:=rfl
theorem z8W (bs:Int->Int->Bool) (L:List Int) (S:FsT) (p:Nat):qA (fsI bs L) S (p+1)=qA (fsK bs L p) (qA (fsI bs L) S p) L.length:=rfl
theorem z7l (bs:Int->Int->Bool) (L:List Int) (n r:Nat):fsS bs L n (r+1)=qA (fsI bs L) (fsS bs L n r) L.length:=rfl
theorem z2d {l:List P3} {v:Int} (h:(inL l v l.length).length=0):zBZ l v=(0,0):=by
 unfold zBZ;rw [if_pos h,h];rfl
theorem z3V {l:List P3} {v:Int} (h:(inL l v l.length).length≠0):zBZ l v=(((inL l v l.length).length:Int),(fsS (zJ1 l) (inL l v l.length) l.length (inL l v l.length).length).2):=by
 unfold zBZ;rw [if_neg h]
attribute [local irreducible] inL z4T
def zX1 (l:List P3) (v:Int):Spec Nat where
 inv i:=i<=l.length
 live i:=[(7,.s (.int .i64 i)),(6,.s (.own 1 0 (inL l v i).length))]
 keep:=[1,2,4,5]
 heap i:=[(1,.row y7 3 (inL l v i))]
 keepH:=[0]
 mu i:=l.length - i
def zUI (l:List P3) (L:List Int):Spec Nat where
 inv r:=r<=L.length
 live r:=[(10,.s (.int .i64 r)),(9,.s (.int .i64 (fsS (zJ1 l) L l.length r).2))]
 keep:=[1,2,4,5,6,8]
 heap r:=[(2,.row .bool 4 (fsS (zJ1 l) L l.length r).1)]
 keepH:=[0,1]
 mu r:=L.length - r
def zYX (l:List P3) (L:List Int) (r:Nat):Spec Nat where
 inv i:=i<=L.length
 live i:=[(11,.s (.int .i64 i)),(9,.s (.int .i64 (qA (fsI (zJ1 l) L) (fsS (zJ1 l) L l.length r) i).2))]
 keep:=[1,2,4,5,6,8,10]
 heap i:=[(2,.row .bool 4 (qA (fsI (zJ1 l) L) (fsS (zJ1 l) L l.length r) i).1)]
 keepH:=[0,1]
 mu i:=L.length - i
def zUP (l:List P3) (L:List Int) (r i:Nat):Spec Nat where
 inv k:=k<=L.length
 live k:=[(12,.s (.int .i64 k)),(9,.s (.int .i64 (qA (fsK (zJ1 l) L i) (qA (fsI (zJ1 l) L) (fsS (zJ1 l) L l.length r) i) k).2))]
 keep:=[1,2,4,5,6,8,10,11]
 heap k:=[(2,.row .bool 4 (qA (fsK (zJ1 l) L i) (qA (fsI (zJ1 l) L) (fsS (zJ1 l) L l.length r) i) k).1)]
 keepH:=[0,1]
 mu k:=L.length - k
theorem z5G {bs:Int->Int->Bool} {L:List Int} {i k:Nat} {S:FsT} (h1:(qA (fsK bs L i) S k).1.getD (L.getD i 0).toNat false=true) (h2:(qA (fsK bs L i) S k).1.getD (L.getD k 0).toNat false=false) (h3:bs (L.getD i 0) (L.getD k 0)=true) :
 qA (fsK bs L i) S (k+1)=((qA (fsK bs L i) S k).1.set (L.getD k 0).toNat true,(qA (fsK bs L i) S k).2+1):=if_pos ⟨h1,h2,h3⟩
theorem zW9 {bs:Int->Int->Bool} {L:List Int} {i k:Nat} {S:FsT} (h:(qA (fsK bs L i) S k).1.getD (L.getD i 0).toNat false=false\/(qA (fsK bs L i) S k).1.getD (L.getD k 0).toNat false=true\/bs (L.getD i 0) (L.getD k 0)=false) :
 qA (fsK bs L i) S (k+1)=qA (fsK bs L i) S k:=if_neg (by
 rintro ⟨h1,h2,h3⟩;rcases h with h|h|h
 ·rw [h] at h1;cases h1
 ·rw [h] at h2;cases h2
 ·rw [h] at h3;cases h3)
attribute [local irreducible] fsS qA
theorem zZQ (n:Int) (l:List P3) (v:Int) (hl:l.length<=8192):zAG ⟨tyL,[(51,zJN),(91,zW1)],[]⟩ Tryz.f52 [qR.av (n,l),y7.av v] (fun r=>r= .tup [.s (.int .i64 (zBZ l v).1),.s (.int .i64 (zBZ l v).2)]):=by
 repeat' (conv=>whnf
          first|done|refine qN (by first|rfl|omega|(simp only [yO] at *;omega)) ?_|apply qH|refine qG fun _=> ?_|apply qB|apply qa|apply qo|refine qe (fun _=> ?_) (fun _=> ?_)|refine qn (fun _=> ?_) (fun _=> ?_)|refine qd (fun _=> ?_) (fun _=> ?_)|apply qt|refine qi (fun _=> ?_) (fun _=> ?_)|(refine qS 3 rfl ?_;refine Or.inr (zB (Nat) (zB (zX1 l v) (zA (zB (0) (zA (yJ.out ?_) (zA ?_ (zA ?_ rfl)))) (fun i hi=> ?_)))))|((with_reducible show (∃ y,And (Spec.inv (zX1 _ _) y) _));refine zB (i+1) (zA (yJ.out ?_) (zA (zA ?_ (zA ?_ rfl)) (yJ.out ?_))))|(refine qS 13 rfl ?_;refine Or.inr (zB (Nat) (zB (zUI l (inL l v l.length)) (zA (zB (0) (zA (yJ.out ?_) (zA ?_ (zA ?_ rfl)))) (fun r hr=> ?_)))))|((with_reducible show (∃ y,And (Spec.inv (zUI _ _) y) _));refine zB (r+1) (zA (yJ.out ?_) (zA (zA ?_ (zA ?_ rfl)) (yJ.out ?_))))|(refine qS 16 rfl ?_;refine Or.inr (zB (Nat) (zB (zYX l (inL l v l.length) r) (zA (zB (0) (zA (yJ.out ?_) (zA ?_ (zA ?_ rfl)))) (fun p hp=> ?_)))))|((with_reducible show (∃ y,And (Spec.inv (zYX _ _ _) y) _));refine zB (p+1) (zA (yJ.out ?_) (zA (zA ?_ (zA ?_ rfl)) (yJ.out ?_))))|(refine qS 19 rfl ?_;refine Or.inr (zB (Nat) (zB (zUP l (inL l v l.length) r p) (zA (zB (0) (zA (yJ.out ?_) (zA ?_ (zA ?_ rfl)))) (fun q hq=> ?_)))))|((with_reducible show (∃ y,And (Spec.inv (zUP _ _ _ _) y) _));refine zB (q+1) (zA (yJ.out ?_) (zA (zA ?_ (zA ?_ rfl)) (yJ.out ?_))))|refine zA rfl ?_|apply qE|apply qO|exact zN|apply qq|apply qs|refine qK (by kernel_rfl) ?_|apply qr)
 all_goals try first|apply qz1|apply qz2|apply qz3|apply qz4|apply qz5|apply qz6|apply qz7|apply qz8|apply qz9|apply qz0
 all_goals try simp only [zZ,zR,yE,z6,qn1,zY,qn2,zX,ETy.dflt,qn3,qn4,Int.reduceToNat,Int.reduceAdd,Int.reduceSub,Int.reduceNeg,Nat.reduceAdd,zD,zX1,zUI,zYX,zUP] at *
 all_goals try exact qh (Nat.zero_le _)
 all_goals try (rw [z5W];done)
 all_goals try (rw [z5W];rfl)
 all_goals have hle:=z4q l v i
 all_goals try (refine qh ?_;omega)
 all_goals try (rw [z4s (by assumption)];first|done|exact zO)
 all_goals try (rw [z5U (by assumption)];done)
 all_goals have ei:i=l.length:=by omega
 all_goals subst ei
 all_goals have hg:=fun k (hk:k<(inL l v l.length).length)=>z4Z (l:=l) (v:=v) hk
 all_goals have hrg:=zPA (l:=l) (v:=v) (n:=l.length)
 all_goals try
  have h0:((inL l v l.length).length:Int)=0:=by assumption
  rw [z2d (show (inL l v l.length).length=0 by omega)];exact y9.intro rfl
 all_goals have hne : (inL l v l.length).length ≠ 0 := by have h0:((inL l v l.length).length:Int)≠0:=by assumption
                                                          omega
 all_goals try exact z5T _ _ _
 all_goals try exact z5z _ _ _
 all_goals try (rw [z6c];done)
 all_goals try (have h:=hg 0 (by omega);refine yJ.intro (zA ?_ ?_)<;>omega)
 all_goals try
  have hr1:r=(inL l v l.length).length:=by omega
  rw [z3V hne,hr1];exact y9.intro rfl
 all_goals try
  have hp1:p=(inL l v l.length).length:=by omega
  rw [z7l,hp1];done
 all_goals try
  have hq1:q=(inL l v l.length).length:=by omega
  rw [z8W,hq1];done
 all_goals (have kp:=hg p (by omega);have kq:=hg q (by omega))
 all_goals try (refine yJ.intro (zA ?_ ?_)<;>omega)
 all_goals have hS:=zOc.r (bs:=zJ1 l) hrg (by omega) r
 all_goals have hS:=zOc.i (bs:=zJ1 l) hrg hS p (by omega)
 all_goals have hS:=(zOc.k (bs:=zJ1 l) hrg hS (i:=p) (by omega) q (by omega)).le
 all_goals try (refine qh ?_;unfold yO;omega)
 all_goals try (refine qh ?_;omega)
 all_goals first
  | (rw [z5G (by assumption) (by assumption) (by assumption)];done)
  | (rw [zW9 (.inl (by assumption))];done)
  | (rw [zW9 (.inr (.inl (by assumption)))];done)
  | (rw [zW9 (.inr (.inr (by assumption)))];done)
def zTN:List AV->Option Res:=zCs qR y7 (fun s v=>some (none,some (s.2.length<=8192),.tup [.s (.int .i64 (zBZ s.2 v).1),.s (.int .i64 (zBZ s.2 v).2)]))
theorem z0y:qM Tryz.prog 52 zTN:=⟨jC fun s v r h=>by cases h;exact qL (yM (fn:=[(51,zJN),(91,zW1)]) (fr:=[]) ⟨zLc,zZJ,trivial⟩ trivial) Tryz.func52 (by kernel_rfl) fun _ h=>zZQ s.1 s.2 v h,_,Tryz.func52,by kernel_rfl,by kernel_rfl⟩
end S1
