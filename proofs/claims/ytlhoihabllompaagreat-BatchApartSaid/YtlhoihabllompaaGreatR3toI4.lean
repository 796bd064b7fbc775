/- A part of the proofs of the laws. -/
import Derived.Test.YtlhoihabllompaaGreatB1ptoR2
import Derived.Test.YtlhoihabllompaaGreatFan1toI2
import Derived.Test.YtlhoihabllompaaGreatW1toZ1p
import Derived.Test.YtlhoihabllompaaGreatT5toT22
set_option linter.unusedSimpArgs false
set_option linter.unusedVariables false
set_option maxHeartbeats 8000000
set_option maxRecDepth 100000
open Go.Proofs.Tryz
open Go Go.Vm Go.Proofs
namespace S9
open S1
theorem zZ1 {l:List P3} {f:P3->Bool} {b z:Bool} {x:Nat} (hi:x<=l.length/\(b|| l.any f)=(z|| (l.drop x).any f)) (h:(x:Int)<l.length):x+1<=l.length/\(b|| l.any f)=(z|| f (l.getD x (0,0,0))|| (l.drop (x+1)).any f) :=
 ⟨by omega,by rw [hi.2,zBU (0,0,0) h,List.any_cons,Bool.or_assoc]⟩
theorem z59 {l:List P3} {f:P3->Bool} {b z:Bool} {x:Nat} (hi:x<=l.length/\(b|| l.any f)=(z|| (l.drop x).any f)) (h: ¬ (x:Int)<l.length):(b|| l.any f)=z:=by
 rw [hi.2,zE9 h];simp
@[irreducible] def zMi (t:P3):Bool:=t.1==t.2.1|| (t.2.1==t.2.2|| t.2.2==t.1)
def dgG (l:List P3) (i:Nat):Option Wit:=if zMi (l.getD i (0,0,0)) then some (2,(i:Int),0) else none
def dgL (l:List P3) (i:Nat):List Wit:=(List.range i).filterMap (dgG l)
def loG (l:List P3) (v:Nat):Option Wit:=if l.any (zFd · v) then none else some (5,(v:Int),0)
def loL (l:List P3) (v:Nat):List Wit:=(List.range v).filterMap (loG l)
def piG (l:List P3) (v:Nat):Option Wit:=if zFI l v then some (6,(v:Int),0) else none
def piL (l:List P3) (v:Nat):List Wit:=(List.range v).filterMap (piG l)
def allR (s:Int×List P3):List Wit :=
 if 0<(jF s).length then jF s else if 0<(dgL s.2 s.2.length).length then dgL s.2 s.2.length else if 0<(prO s.2 3 s.2.length).length then prO s.2 3 s.2.length else
 if 0<(prO s.2 4 s.2.length).length then prO s.2 4 s.2.length else if 0<(loL s.2 s.1.toNat).length then loL s.2 s.1.toNat else piL s.2 s.1.toNat
theorem q9 {α:Type _} (f:Nat->Option α) (i:Nat):(List.range (i+1)).filterMap f=(List.range i).filterMap f++(f i).toList:=by
 rw [List.range_succ,List.filterMap_append];simp only [List.filterMap_cons,List.filterMap_nil];cases f i<;>rfl
theorem zC7 {α:Type _} (f:Nat->Option α) (i:Nat):((List.range i).filterMap f).length<=i:=zb0 (List.length_filterMap_le _ _) (by simp)
theorem zF3 {s:Int×List P3} (h: ¬ ((jF s).length:Int)>0):zHN s=false/\jF s=[]:=by
 have h:(jF s).length=0:=by omega
 refine ⟨?_,List.eq_nil_of_length_eq_zero h⟩;cases hb:zHN s with
 | false=>rfl
 | true=>unfold jF at h;rw [hb] at h;simp at h
theorem zL7 {n:Int} {l:List P3} (h:zHN (n,l)=false):0<=n/\n<=4096/\l.length<=8192:=by
 simp only [zHN,Bool.or_eq_false_iff,yM] at h;omega
theorem zWp {t:P3} (h:t.1=t.2.1\/t.2.1=t.2.2\/t.2.2=t.1):zMi t=true:=by
 unfold zMi;simp only [zbA,beq_iff_eq];exact h
theorem zZ3 {t:P3} (h1:t.1≠t.2.1) (h2:t.2.1≠t.2.2) (h3:t.2.2≠t.1):zMi t=false:=by
 unfold zMi;rw [beq_false_of_ne h1,beq_false_of_ne h2,beq_false_of_ne h3];rfl
theorem z9a {l:List P3} {i:Nat} (h:zMi (l.getD i (0,0,0))=true):dgL l (i+1)=dgL l i++[(2,(i:Int),0)]:=by
 unfold dgL;rw [q9,dgG,if_pos h];rfl
theorem z98 {l:List P3} {i:Nat} (h:zMi (l.getD i (0,0,0))=false):dgL l (i+1)=dgL l i:=by
 unfold dgL;rw [q9,dgG,if_neg (by rw [h];decide)];simp
theorem z9N {l:List P3} {v:Nat} (h:(l.any (zFd · v))=true):loL l (v+1)=loL l v:=by
 unfold loL;rw [q9,loG,if_pos h];simp
theorem z95 {l:List P3} {v:Nat} (h:(l.any (zFd · v))=false):loL l (v+1)=loL l v++[(5,(v:Int),0)]:=by
 unfold loL;rw [q9,loG,if_neg (by rw [h];decide)];rfl
theorem z8t {l:List P3} {v:Nat} (h:zFI l v=true):piL l (v+1)=piL l v++[(6,(v:Int),0)]:=by
 unfold piL;rw [q9,piG,if_pos h];rfl
theorem z8a {l:List P3} {v:Nat} (h:zFI l v=false):piL l (v+1)=piL l v:=by
 unfold piL;rw [q9,piG,if_neg (by rw [h];decide)];simp
section
variable {n:Int} {l:List P3}
theorem z97 (h:((jF (n,l)).length:Int)>0):allR (n,l)=jF (n,l):=by
 unfold allR;rw [if_pos (by omega)]
theorem z9I (h1: ¬ ((jF (n,l)).length:Int)>0) {i:Nat} (hi:i=l.length) (h2:((dgL l i).length:Int)>0):allR (n,l)=dgL l i:=by
 subst hi;unfold allR;rw [if_neg (by omega),if_pos (by dsimp only;omega)]
theorem z8Z (h1: ¬ ((jF (n,l)).length:Int)>0) {i:Nat} (hi:i=l.length) (h2: ¬ ((dgL l i).length:Int)>0) (h3:((prO l 3 l.length).length:Int)>0):allR (n,l)=prO l 3 l.length:=by
 subst hi;unfold allR;rw [if_neg (by omega),if_neg (by dsimp only;omega),if_pos (by dsimp only;omega)]
theorem z9E (h1: ¬ ((jF (n,l)).length:Int)>0) {i:Nat} (hi:i=l.length) (h2: ¬ ((dgL l i).length:Int)>0) (h3: ¬ ((prO l 3 l.length).length:Int)>0) (h4:((prO l 4 l.length).length:Int)>0):allR (n,l)=prO l 4 l.length:=by
 subst hi;unfold allR;rw [if_neg (by omega),if_neg (by dsimp only;omega),if_neg (by dsimp only;omega),if_pos (by dsimp only;omega)]
theorem z88 (h1: ¬ ((jF (n,l)).length:Int)>0) {i:Nat} (hi:i=l.length) (h2: ¬ ((dgL l i).length:Int)>0) (h3: ¬ ((prO l 3 l.length).length:Int)>0) (h4: ¬ ((prO l 4 l.length).length:Int)>0) {v:Nat} (hv:v=n.toNat) (h5:((loL l v).length:Int)>0):allR (n,l)=loL l v:=by
 subst hi;subst hv;unfold allR;rw [if_neg (by omega),if_neg (by dsimp only;omega),if_neg (by dsimp only;omega),if_neg (by dsimp only;omega),if_pos (by dsimp only;omega)]
theorem z93 (h1: ¬ ((jF (n,l)).length:Int)>0) {i:Nat} (hi:i=l.length) (h2: ¬ ((dgL l i).length:Int)>0) (h3: ¬ ((prO l 3 l.length).length:Int)>0) (h4: ¬ ((prO l 4 l.length).length:Int)>0) {v:Nat} (hv:v=n.toNat) (h5: ¬ ((loL l v).length:Int)>0) {y:Nat} (hy:y=n.toNat):allR (n,l)=piL l y:=by
 subst hi;subst hv;subst hy;unfold allR;rw [if_neg (by omega),if_neg (by dsimp only;omega),if_neg (by dsimp only;omega),if_neg (by dsimp only;omega),if_neg (by dsimp only;omega)]
end
def zTg (l:List P3):Spec Nat where
 inv i:=i<=l.length
 live i:=[(4,.s (.int .i64 i)),(3,.s (.own 2 0 (dgL l i).length))]
 keep:=[1]
 heap i:=[(2,.row zB0 165 (dgL l i))]
 keepH:=[0]
 mu i:=l.length - i
def zTv (n:Int) (l:List P3):Spec Nat where
 inv v:=(v:Int)<=n
 live v:=[(6,.s (.int .i64 v)),(3,.s (.own 4 0 (loL l v).length))]
 keep:=[1]
 heap v:=[(4,.row zB0 165 (loL l v))]
 keepH:=[0]
 mu v:=n.toNat - v
def zUz (l:List P3) (v:Nat):Spec (Nat×Bool) where
 inv x:=x.1<=l.length/\(false|| l.any (zFd · v))=(x.2|| (l.drop x.1).any (zFd · v))
 live x:=[(8,.s (.int .i64 x.1)),(7,.s (.bool x.2))]
 keep:=[1,3,6]
 heap _:=[]
 keepH:=[0,4]
 mu x:=l.length - x.1
def zUu (n:Int) (l:List P3):Spec Nat where
 inv v:=(v:Int)<=n
 live v:=[(9,.s (.int .i64 v)),(3,.s (.own 4 0 (piL l v).length))]
 keep:=[1]
 heap v:=[(4,.row zB0 165 (piL l v))]
 keepH:=[0]
 mu v:=n.toNat - v
theorem z5R (n:Int) (l:List P3):zFB ⟨tyL,[(133,zQI),(134,zPi)],[(131,.res zQD),(132,.res zP3)]⟩ f92 [qP.av (n,l)] (fun v obs=>v= .s (.own 0 0 (allR (n,l)).length)/\obs=[.row zB0 165 (allR (n,l))]):=by
 repeat' (conv=>whnf
          first|done|refine qy ?_|refine qG fun _=> ?_|refine qw (fun _=> ?_) (fun _=> ?_)|apply qt|refine qi (fun _=> ?_) (fun _=> ?_)|(refine zaB 5 rfl (zTg l) (0) ?_ ?_ ?_ fun i hi=> ?_)|with_reducible refine zaA (zTg _) (i+1) ?_ ?_ ?_ ?_|(refine zaB 19 rfl (zTv n l) (0) ?_ ?_ ?_ fun v hv=> ?_)|with_reducible refine zaA (zTv _ _) (v+1) ?_ ?_ ?_ ?_|(refine zaB 23 rfl (zUz l v) ((0,false)) ?_ ?_ ?_ fun x hx=> ?_)|with_reducible refine zaA (zUz _ _) ((x.1+1,x.2|| zFd (l.getD x.1 (0,0,0)) v)) ?_ ?_ ?_ ?_|(refine zaB 31 rfl (zUu n l) (0) ?_ ?_ ?_ fun y hy=> ?_)|with_reducible refine zaA (zUu _ _) (y+1) ?_ ?_ ?_ ?_|refine qu ?_|refine qv ?_ ?_|exact zO)
 all_goals try first|refine qz ?_|apply qz5
 all_goals try simp only [qn0,z7,zX,ETy.dflt,Int.reduceToNat,Int.reduceAdd,Int.reduceSub,Int.reduceNeg,Nat.reduceAdd,zTg,zTv,zUz,zUu] at *
 all_goals try (refine qh ?_;omega)
 all_goals try
  (have hb:=zL7 (zF3 (s:=(n,l)) (by assumption)).1
   refine qh ?_;first|omega|(simp only [yP];omega))
 all_goals try
  (have hb:=zL7 (zF3 (s:=(n,l)) (by assumption)).1
   have h1:=zC7 (dgG l) i
   refine qh ?_;simp only [dgL,loL,piL];first|omega|(have h2:=zC7 (loG l) v;first|omega|(have h3:=zC7 (piG l) y;omega)))
 all_goals try first
  | rw [z97 (by assumption)]
  | rw [z9I (i:=i) (by assumption) (by omega) (by assumption)]
  | rw [z8Z (i:=i) (by assumption) (by omega) (by assumption) (by assumption)]
  | rw [z9E (i:=i) (by assumption) (by omega) (by assumption) (by assumption) (by assumption)]
  | rw [z88 (i:=i) (v:=v) (by assumption) (by omega) (by assumption) (by assumption) (by assumption) (by omega) (by assumption)]
  | rw [z93 (i:=i) (v:=v) (y:=y) (by assumption) (by omega) (by assumption) (by assumption) (by assumption) (by omega) (by assumption) (by omega)]
 all_goals try
  (have hd:zMi (l.getD i (0,0,0))=true:=zWp (by omega)
   rw [z9a hd];(try simp only [zN,List.length_singleton]);done)
 all_goals try
  (have hd:zMi (l.getD i (0,0,0))=false:=zZ3 (by omega) (by omega) (by omega)
   rw [z98 hd];done)
 all_goals try (rw [(zF3 (s:=(n,l)) (by assumption)).2];rfl)
 all_goals try (rw [List.eq_nil_of_length_eq_zero (l:=prO l 4 l.length) (by omega)];rfl)
 all_goals try (rw [List.eq_nil_of_length_eq_zero (l:=loL l v) (by omega)];rfl)
 all_goals try first
  | exact qh ⟨zbH _,rfl⟩
  | exact qh (zZ1 hx (by assumption))
  | (simp only [*];done)
  | (simp only [*];simp;done)
 all_goals try (rw [z8a (by assumption)];done)
 all_goals try (rw [z8t (by assumption)];(try simp only [zN,List.length_singleton]);done)
 all_goals
  have hu:=z59 hx (by assumption);rw [Bool.false_or] at hu
 all_goals first
  | (rw [z9N (hu.trans (by assumption))];done)
  | (rw [z95 (hu.trans (by assumption))];(try simp only [zN,List.length_singleton]);done)
def z4J:List AV->Option zKQ:=zEz qP (fun s=>some (none,none,.s (.own 0 0 (allR s).length),[.row zB0 165 (allR s)]))
theorem z3s:zDM prog 92 z4J:=zaw (zCC fun s r h=>by cases h;exact fbF (by exact ⟨zPc,zYT,trivial⟩) func92 (p2:=by exact ⟨zVF,zXe,trivial⟩) fun _ _=>z5R s.1 s.2) func92
def zPa (s:Int×List P3):Bool:=(allR s).length==0
theorem z0k (s:Int×List P3):zAG ⟨tyL,[],[(92,.res z4J)]⟩ f53 [qP.av s] (fun v=>v= .s (.bool (zPa s))):=by
 repeat' (conv=>whnf
          first|done|refine qy ?_|refine qG fun _=> ?_|refine qw (fun _=> ?_) (fun _=> ?_)|apply qt|refine qi (fun _=> ?_) (fun _=> ?_)|refine qu ?_|refine qv ?_ ?_|exact zO)
 all_goals try first|refine qz ?_|apply qz5
 all_goals try simp only [qn0,z7,zX,ETy.dflt,Int.reduceToNat,Int.reduceAdd,Int.reduceSub,Int.reduceNeg,Nat.reduceAdd,zPa] at *
 rw [Bool.eq_iff_iff,beq_iff_eq,beq_iff_eq];omega
def zVn:List AV->Option Res:=zEz qP (fun s=>some (none,none,.s (.bool (zPa s))))
theorem z13:qM prog 53 zVn:=mkR (zA1 fun s r h=>by cases h;exact fb (fn:=[]) trivial func53 (p2:=by exact ⟨z3s,trivial⟩) fun _ _=>z0k s) func53
end S9
namespace S9
open S1
theorem zCd {t:P3} {v:Int} :zFd t v=true↔z8 t v:=by
 unfold zFd z8;simp only [zbA,beq_iff_eq]
theorem zYP {t:P3} {a b:Int} :zOj t a b=true↔dE t a b:=by
 unfold zOj dE;simp only [zbA,zC,beq_iff_eq]
theorem zKF {t u:P3} :zJb t u=true↔∃ a b,dE t a b/\dE u a b:=by
 unfold zJb;simp only [zbA,zYP];constructor
 ·rintro (h|h|h)
  ·exact ⟨_,_,.inl ⟨rfl,rfl⟩,h⟩
  ·exact ⟨_,_,.inr (.inl ⟨rfl,rfl⟩),h⟩
  ·exact ⟨_,_,.inr (.inr ⟨rfl,rfl⟩),h⟩
 ·rintro ⟨a,b,(⟨rfl,rfl⟩|⟨rfl,rfl⟩|⟨rfl,rfl⟩),h⟩
  ·exact .inl h
  ·exact .inr (.inl h)
  ·exact .inr (.inr h)
theorem zLH {n:Int} : ∀ {l:List P3} {i:Nat},zHq n i l=[]↔∀ t∈l,zCm n t=true
 | [],_=>⟨fun _ t h=>(by cases h),fun _=>rfl⟩
 | t ::r,i=>by
   unfold zHq;split
   ·rename_i h;rw [zLH]
    exact ⟨fun k u hu=>by
     rcases zT.1 hu with e|hu
     ·rw [e];exact h
     ·exact k u hu,fun k u hu=>k u (zQ _ hu)⟩
   ·rename_i h;exact ⟨fun k=>(by cases k),fun k=>absurd (k t (zY ..)) h⟩
theorem zSC {l:List P3} {p:P3->Prop} :(∀ t∈l,p t)↔∀ i,i<l.length->p (tg l i):=by
 constructor
 ·intro h i hi;unfold tg;rw [gdE,gE hi];exact h _ (yQ hi)
 ·intro h t ht;obtain ⟨i,hi,e⟩:=yG.1 ht;have:=h i hi;unfold tg at this;rw [gdE,gE hi] at this;rw [<- e];exact this
theorem z1c {s:Int×List P3} :jF s=[]↔zMc s:=by
 obtain ⟨n,l⟩:=s;unfold jF;constructor
 ·intro h;cases hb:zHN (n,l) with
  | true=>rw [hb] at h;cases h
  | false =>
    rw [hb] at h;have h:zHq n 0 l=[]:=h;have:=zL7 hb;exact ⟨this.1,this.2.1,this.2.2,zSC.1 (zLH.1 h)⟩
 ·intro h;have h1:0<=n:=h.1;have h2:n<=4096:=h.2.1;have h3:l.length<=8192:=h.2.2.1
  have hb:zHN (n,l)=false:=by
   unfold zHN;simp only [Bool.or_eq_false_iff,yM];omega
  rw [hb];exact zLH.2 (zSC.2 h.2.2.2)
theorem z4x {l:List P3} :dgL l l.length=[]↔∀ i,i<l.length->¬ dgn (tg l i):=by
 unfold dgL;rw [zbO];constructor
 ·intro h i hi e;have:=h i (zV.2 hi);unfold dgG at this;rw [if_pos (zWp e)] at this;cases this
 ·intro h i hi;have h:=h i (zV.1 hi);unfold dgn at h;unfold dgG;rw [if_neg ?_];rw [zZ3 (fun e=>h (.inl e)) (fun e=>h (.inr (.inl e))) (fun e=>h (.inr (.inr e)))];simp
theorem zXV {l:List P3} {k:Int} :prO l k l.length=[]↔∀ i j,i<j->j<l.length->ptR k (tg l i) (tg l j)=false:=by
 unfold prO prI;rw [List.flatMap_eq_nil_iff];constructor
 ·intro h i j hij hj;have:=zbO.1 (h j (zV.2 hj)) i (zV.2 hij);unfold prG at this;split at this
  ·cases this
  ·rename_i e;rw [<- zbV];exact e
 ·intro h j hj;refine zbO.2 fun i hi=> ?_;unfold prG;rw [if_neg (by rw [h i j (zV.1 hi) (zV.1 hj)];simp)]
theorem pt3 {t u:P3} :ptR 3 t u=zJb t u:=by unfold ptR;simp
theorem pt4 {t u:P3} :ptR 4 t u=(zFd u t.1&&(zFd u t.2.1&&zFd u t.2.2)):=by unfold ptR;simp
theorem z4g {l:List P3} {n:Nat} :loL l n=[]↔∀ v:Nat,v<n->∃ j,j<l.length/\z8 (tg l j) v:=by
 unfold loL;rw [zbO]
 have key: ∀ v:Nat,l.any (zFd · v)=true↔∃ j,j<l.length/\z8 (tg l j) v:=fun v=>by
  rw [zbz];constructor
  ·rintro ⟨t,ht,hv⟩;obtain ⟨i,hi,e⟩:=yG.1 ht;refine ⟨i,hi,?_⟩;unfold tg;rw [gdE,gE hi];exact zCd.1 (by rw [<- e] at hv;exact hv)
  ·rintro ⟨j,hj,h⟩;unfold tg at h;rw [gdE,gE hj] at h;exact ⟨_,yQ hj,zCd.2 h⟩
 constructor
 ·intro h v hv;have:=h v (zV.2 hv);unfold loG at this;split at this
  ·rename_i e;exact (key v).1 e
  ·cases this
 ·intro h v hv;unfold loG;rw [if_pos ((key v).2 (h v (zV.1 hv)))]
theorem zJW {m:List P3} {v:Int} {i k:Nat} :touch m v i k=true↔∃ w,w≠v/\z8 (tg m i) w/\z8 (tg m k) w:=by
 unfold touch tch;simp only [zbA,zC,zP,zCd];constructor
 ·rintro (⟨h1,h2⟩|⟨h1,h2⟩|⟨h1,h2⟩)
  ·exact ⟨_,h1,.inl rfl,h2⟩
  ·exact ⟨_,h1,.inr (.inl rfl),h2⟩
  ·exact ⟨_,h1,.inr (.inr rfl),h2⟩
 ·rintro ⟨w,h1,(h2|h2|h2),h3⟩
  ·subst h2;exact .inl ⟨h1,h3⟩
  ·subst h2;exact .inr (.inl ⟨h1,h3⟩)
  ·subst h2;exact .inr (.inr ⟨h1,h3⟩)
section
variable {m:List P3} {v:Int}
theorem zEo {s:List Bool} {k j:Nat} :(s.set k true).getD j false=if k=j/\j<s.length then true else s.getD j false:=by
 rw [gdE,zbQ,gdE]
 by_cases e:k=j
 ·subst e
  by_cases h:k<s.length
  ·simp [h]
  ·simp [h]
 ·simp [e]
theorem z6R {i k:Nat} {s:List Bool} :(pk m v i s k).length=s.length:=by
 unfold pk;split
 ·rfl
 ·split
  ·rw [zbY]
  ·rfl
theorem zPF {i k j:Nat} {s:List Bool} (h:s.getD j false=true):(pk m v i s k).getD j false=true:=by
 unfold pk;split
 ·exact h
 ·split
  ·rw [zEo];split
   ·rfl
   ·exact h
  ·exact h
theorem zGL {i:Nat} {s:List Bool} : ∀ k,(zH5 m v i s k).length=s.length
 | 0=>rfl
 | k+1=>by rw [zAq,z6R,zGL k]
theorem zGY {s:List Bool} : ∀ i,(zGm m v s i).length=s.length
 | 0=>rfl
 | i+1=>by rw [zCM,zGL,zGY i]
theorem zIu: ∀ r,(zF9 m v r).length=m.length
 | 0=>by show ((List.replicate m.length false).set 0 true).length=_;simp
 | r+1=>by rw [zBb,zGY,zIu r]
theorem zEq {i j:Nat} {s:List Bool} (h:s.getD j false=true): ∀ k,(zH5 m v i s k).getD j false=true
 | 0=>h
 | k+1=>by rw [zAq];exact zPF (zEq h k)
theorem zEg {j:Nat} {s:List Bool} (h:s.getD j false=true): ∀ i,(zGm m v s i).getD j false=true
 | 0=>h
 | i+1=>by rw [zCM];exact zEq (zEg h i) _
theorem zOa {i k:Nat} {s:List Bool} (hi:s.getD i false=true) (ht:touch m v i k=true) (hk:k<s.length): ∀ n,k<n->(zH5 m v i s n).getD k false=true
 | n + 1,h=>by
   rw [zAq]
   by_cases e:k=n
   ·subst e;have h1:=zEq (m:=m) (v:=v) (i:=i) hi k;cases h2:(zH5 m v i s k).getD k false with
    | true=>exact zPF h2
    | false =>
      unfold pk;rw [if_neg (zM2 h1 h2),if_pos ht,zEo,if_pos ⟨rfl,by rw [zGL];exact hk⟩]
   ·exact zPF (zOa hi ht hk n (by omega))
theorem zNi {i k:Nat} {s:List Bool} (hi:s.getD i false=true) (ht:touch m v i k=true) (hk:k<s.length) (hm:k<m.length): ∀ n,i<n->(zGm m v s n).getD k false=true
 | n +1,h=>by
   rw [zCM]
   by_cases e:i=n
   ·subst e;exact zOa (zEg hi i) ht (by rw [zGY];exact hk) _ hm
   ·exact zEq (zNi hi ht hk hm n (by omega)) _
def Clo (m:List P3) (v:Int) (s:List Bool):Prop:= ∀ i k,i<m.length->k<m.length->s.getD i false=true->touch m v i k=true->s.getD k false=true
def z16 (m:List P3) (s:List Bool):Nat:=((List.range m.length).filter fun j=> !s.getD j false).length
theorem z6q {i k:Nat} {s:List Bool} (h:Clo m v s) (hi:i<m.length) (hk:k<m.length):pk m v i s k=s:=by
 unfold pk;split
 ·rfl
 ·rename_i hn;split
  ·rename_i ht;have h1:s.getD i false=true:=by cases e:s.getD i false with|true=>rfl|false=>exact absurd (.inl e) hn
   exact absurd (.inr (h i k hi hk h1 ht)) hn
  ·rfl
theorem zN0 {i:Nat} {s:List Bool} (h:Clo m v s) (hi:i<m.length): ∀ k,k<=m.length->zH5 m v i s k=s
 | 0,_=>rfl
 | k+1,hk=>by rw [zAq,zN0 h hi k (by omega),z6q h hi (by omega)]
theorem zIT {s:List Bool} (h:Clo m v s): ∀ i,i<=m.length->zGm m v s i=s
 | 0,_=>rfl
 | i+1,hi=>by rw [zCM,zIT h i (by omega),zN0 h (by omega) _ (zI _)]
theorem zYV {s:List Bool} (hl:s.length=m.length):Clo m v s\/z16 m (zGm m v s m.length)+1<=z16 m s:=by
 by_cases h:Clo m v s
 ·exact .inl h
 ·right;unfold Clo at h
  have: ∃ i k,i<m.length/\k<m.length/\s.getD i false=true/\touch m v i k=true/\s.getD k false=false:=by
   refine yF fun hn=>h fun i k hi hk h1 h2=> ?_;cases e:s.getD k false with
   | true=>rfl
   | false=>exact absurd ⟨i,k,hi,hk,h1,h2,e⟩ hn
  obtain ⟨i,k,hi,hk,h1,h2,h3⟩:=this;unfold z16;refine zKx (a:=k) (fun j hj=> ?_) (by rw [h3];rfl) (by rw [zNi h1 h2 (by rw [hl];exact hk) hk _ hi];simp) (zV.2 hk);cases e:s.getD j false with
  | false=>rfl
  | true=>rw [zEg e] at hj;exact absurd hj (by simp)
theorem zK8 (hm:0<m.length): ∀ r,Clo m v (zF9 m v r)\/z16 m (zF9 m v r)+r+1<=m.length
 | 0=>by
   right;have h0:((List.replicate m.length false).set 0 true).getD 0 false=true:=by rw [zEo,if_pos ⟨rfl,by simpa using hm⟩]
   have:=zKx (p:=fun _:Nat=>true) (q:=fun j=> !((List.replicate m.length false).set 0 true).getD j false) (fun _ _=>rfl) (a:=0) rfl (by rw [h0];simp) (l:=List.range m.length) (zV.2 hm);have e:((List.range m.length).filter fun _:Nat=>true).length=m.length:=by rw [List.filter_eq_self.2 (fun _ _=>rfl),zAD]
   show ((List.range m.length).filter fun j=> !((List.replicate m.length false).set 0 true).getD j false).length+0+1<=_;rw [e] at this;omega
 | r +1=>by
   rcases zK8 hm r with h|h
   ·left;rw [zBb,zIT h _ (zI _)];exact h
   ·rcases zYV (m:=m) (v:=v) (zIu (m:=m) (v:=v) r) with h'|h'
    ·left;rw [zBb,zIT h' _ (zI _)];exact h'
    ·right;rw [zBb];omega
theorem zUi (hm:0<m.length):Clo m v (zF9 m v m.length):=by
 rcases zK8 (v:=v) hm m.length with h|h
 ·exact h
 ·omega
theorem zKd (hm:0<m.length): ∀ r,(zF9 m v r).getD 0 false=true
 | 0=>by
   show ((List.replicate m.length false).set 0 true).getD 0 false=true;rw [zEo,if_pos ⟨rfl,by simpa using hm⟩]
 | r+1=>by rw [zBb];exact zEg (zKd hm r) _
theorem z9U {Q:Nat->Prop} (hc: ∀ i k,k<m.length->Q i->touch m v i k=true->Q k) {i k:Nat} {s:List Bool} (hl:s.length=m.length) (h: ∀ j,s.getD j false=true->Q j): ∀ j,(pk m v i s k).getD j false=true->Q j:=by
 unfold pk;split
 ·exact h
 ·rename_i hn;split
  ·rename_i ht;intro j hj;rw [zEo] at hj;split at hj
   ·rename_i e;obtain ⟨rfl,e2⟩:=e;refine hc i _ (by rw [<- hl];exact e2) (h i ?_) ht;cases e:s.getD i false with|true=>rfl|false=>exact absurd (.inl e) hn
   ·exact h j hj
  ·exact h
theorem zRS {Q:Nat->Prop} (hc: ∀ i k,k<m.length->Q i->touch m v i k=true->Q k) {i:Nat} {s:List Bool} (hl:s.length=m.length) (h: ∀ j,s.getD j false=true->Q j): ∀ k j,(zH5 m v i s k).getD j false=true->Q j
 | 0=>h
 | k+1=>by rw [zAq];exact z9U hc (by rw [zGL];exact hl) (zRS hc hl h k)
theorem zRI {Q:Nat->Prop} (hc: ∀ i k,k<m.length->Q i->touch m v i k=true->Q k) {s:List Bool} (hl:s.length=m.length) (h: ∀ j,s.getD j false=true->Q j): ∀ i j,(zGm m v s i).getD j false=true->Q j
 | 0=>h
 | i+1=>by rw [zCM];exact zRS hc (by rw [zGY];exact hl) (zRI hc hl h i) _
theorem zSV {Q:Nat->Prop} (hc: ∀ i k,k<m.length->Q i->touch m v i k=true->Q k) (h:Q 0): ∀ r j,(zF9 m v r).getD j false=true->Q j
 | 0 =>fun j hj=>by
   have hj:((List.replicate m.length false).set 0 true).getD j false=true:=hj;rw [zEo] at hj;split at hj
   ·rename_i e;rw [<- e.1];exact h
   ·rw [gdE,zbI] at hj;split at hj<;>cases hj
 | r+1=>by rw [zBb];exact zRI hc (zIu r) (zSV hc h r) _
end
theorem zDS {l:List P3} {v:Int} {t:P3} :t∈zAX l v↔∃ i,i<l.length/\tg l i=t/\z8 t v:=by
 unfold zAX;rw [zb5,zCd];constructor
 ·rintro ⟨ht,hv⟩;obtain ⟨i,hi,e⟩:=yG.1 ht;exact ⟨i,hi,by unfold tg;rw [gdE,gE hi];exact e,hv⟩
 ·rintro ⟨i,hi,e,hv⟩;unfold tg at e;rw [gdE,gE hi] at e;have e:l[i]=t:=e;exact ⟨by rw [<- e];exact yQ hi,hv⟩
theorem qI {m:List P3} {j:Nat} (h:j<m.length):tg m j∈m:=by
 unfold tg;rw [gdE,gE h];exact yQ h
theorem zAO {m:List P3} {t:P3} (h:t∈m): ∃ j,j<m.length/\tg m j=t:=by
 obtain ⟨i,hi,e⟩:=yG.1 h;exact ⟨i,hi,by unfold tg;rw [gdE,gE hi];exact e⟩
theorem other {t:P3} {v:Int} (hd: ¬ dgn t): ∃ w,w≠v/\z8 t w:=by
 unfold dgn at hd
 by_cases h:t.1=v
 ·exact ⟨t.2.1,by omega,.inr (.inl rfl)⟩
 ·exact ⟨t.1,h,.inl rfl⟩
theorem zNF {l:List P3} {v:Int} (hd: ∀ i,i<l.length->¬ dgn (tg l i)):zFI l v=false↔z6C l v:=by
 unfold zFI;rw [Bool.not_eq_false',zJ];constructor
 ·intro h Q hQ a ha hva hQa i hi hvi;have hpos:0<(zAX l v).length:=List.length_pos_of_mem (zDS.2 ⟨a,ha,rfl,hva⟩)
  have key: ∀ R:Nat->Prop,(∀ i j:Nat,i<l.length->j<l.length->z8 (tg l i) v->z8 (tg l j) v->(∃ w:Int,w≠v/\z8 (tg l i) w/\z8 (tg l j) w)->R i->R j)->
   (∃ z,z<l.length/\tg l z=tg (zAX l v) 0/\z8 (tg l z) v/\R z)->∀ i,i<l.length->z8 (tg l i) v->R i:=fun R hR ⟨z,hz,ez,hzv,hRz⟩ i hi hvi=>by
   have hin:=zSV (m:=zAX l v) (v:=v) (Q:=fun j=>j<(zAX l v).length/\∀ i,i<l.length->tg l i=tg (zAX l v) j->z8 (tg l i) v->R i) (fun j k hk hj ht=>⟨hk,fun i hi ei hvi=>by
    obtain ⟨w,hw,h1,h2⟩:=zJW.1 ht;obtain ⟨i',hi',ei',hvi'⟩:=zDS.1 (qI hj.1)
    exact hR i' i hi' hi (by rw [ei'];exact hvi') hvi ⟨w,hw,by rw [ei'];exact h1,by rw [ei];exact h2⟩ (hj.2 i' hi' ei' (by rw [ei'];exact hvi'))⟩)
    ⟨hpos,fun i hi ei hvi=>by
      obtain ⟨w,hw,h1⟩:=other (v:=v) (hd z hz)
      exact hR z i hz hi hzv hvi ⟨w,hw,h1,by rw [ei,<- ez];exact h1⟩ hRz⟩ (zAX l v).length
   obtain ⟨j,hj,ej⟩:=zAO (zDS.2 ⟨i,hi,rfl,hvi⟩);exact (hin j (h j (zV.2 hj))).2 i hi ej.symm hvi
  obtain ⟨z,hz,ez,hzv⟩:=zDS.1 (qI hpos)
  by_cases hq:Q z
  ·exact key Q hQ ⟨z,hz,ez,by rw [ez];exact hzv,hq⟩ i hi hvi
  ·exact absurd hQa (key (fun i=> ¬ Q i) (fun i j hi hj h1 h2 ⟨w,h3,h4,h5⟩ hn hq=>hn (hQ j i hj hi h2 h1 ⟨w,h3,h5,h4⟩ hq)) ⟨z,hz,ez,by rw [ez];exact hzv,hq⟩ a ha hva)
 ·intro h j hj;have hj:=zV.1 hj;have hpos:0<(zAX l v).length:=by omega
  have hc:=zUi (m:=zAX l v) (v:=v) hpos;have hz:=zKd (m:=zAX l v) (v:=v) hpos (zAX l v).length;obtain ⟨z,hz1,hz2,hz3⟩:=zDS.1 (qI hpos);obtain ⟨i,hi1,hi2,hi3⟩:=zDS.1 (qI hj)
  have:=h (fun i=> ∃ j,j<(zAX l v).length/\tg (zAX l v) j=tg l i/\(zF9 (zAX l v) v (zAX l v).length).getD j false=true) (fun a b ha hb hva hvb ⟨w,hw,h1,h2⟩ ⟨j,hj,e,hs⟩=>by
   obtain ⟨k,hk,ek⟩:=zAO (zDS.2 ⟨b,hb,rfl,hvb⟩)
   exact ⟨k,hk,ek,hc j k hj hk hs (zJW.2 ⟨w,hw,by rw [e];exact h1,by rw [ek];exact h2⟩)⟩) z hz1 (by rw [hz2];exact hz3) ⟨0,hpos,hz2.symm,hz⟩ i hi1 (by rw [hi2];exact hi3)
  obtain ⟨k,hk,ek,hs⟩:=this;obtain ⟨w,hw,h1⟩:=other (v:=v) (hd i hi1);exact hc k j hk hj hs (zJW.2 ⟨w,hw,by rw [ek];exact h1,by rw [<- hi2];exact h1⟩)
theorem zWG {l:List P3} {n:Nat} (hd: ∀ i,i<l.length->¬ dgn (tg l i)):piL l n=[]↔∀ v:Nat,v<n->z6C l v:=by
 unfold piL;rw [zbO];constructor
 ·intro h v hv;have:=h v (zV.2 hv);unfold piG at this;split at this
  ·cases this
  ·rename_i e;exact (zNF hd).1 (by rw [<- zbV];exact e)
 ·intro h v hv;unfold piG;rw [if_neg (by rw [(zNF hd).2 (h v (zV.1 hv))];simp)]
theorem zZh (s:Int×List P3):allR s=[]↔(jF s=[]/\dgL s.2 s.2.length=[]/\prO s.2 3 s.2.length=[]/\prO s.2 4 s.2.length=[]/\loL s.2 s.1.toNat=[]/\piL s.2 s.1.toNat=[]):=by
 unfold allR;constructor
 ·intro h
  repeat' split at h
  all_goals first
   | (rename_i hh;rw [h] at hh;exact absurd hh (by decide))
   | skip
  rename_i h1 h2 h3 h4 h5;exact ⟨zbh.1 (by omega),zbh.1 (by omega),zbh.1 (by omega),zbh.1 (by omega),zbh.1 (by omega),h⟩
 ·rintro ⟨h1,h2,h3,h4,h5,h6⟩;simp [h1,h2,h3,h4,h5,h6]
theorem zTb (s:Int×List P3):zPa s=true↔zBK s:=by
 unfold zPa;rw [beq_iff_eq,zbh,zZh,z1c,z4x,zXV,zXV,z4g];constructor
 ·rintro ⟨hf,hd,h3,h4,hu,hp⟩;have h0:0<=s.1:=hf.1;refine ⟨hf,hd,fun i j hij hj a b h1 h2=> ?_,fun i j hij hj h=> ?_,fun v hv=>hu v (by omega),fun v hv=>(zWG hd).1 hp v (by omega)⟩
  ·have:=h3 i j hij hj;rw [pt3] at this;rw [zKF.2 ⟨a,b,h1,h2⟩] at this;cases this
  ·have:=h4 i j hij hj;rw [pt4,zCd.2 h.1,zCd.2 h.2.1,zCd.2 h.2.2] at this;cases this
 ·intro h;have h0:0<=s.1:=h.fit.1;refine ⟨h.fit,h.deg,fun i j hij hj=> ?_,fun i j hij hj=> ?_,fun v hv=>h.use v (by omega),(zWG h.deg).2 fun v hv=>h.pin v (by omega)⟩
  ·rw [pt3,<- zbV];intro e;obtain ⟨a,b,h1,h2⟩:=zKF.1 e;exact h.dif i j hij hj a b h1 h2
  ·rw [pt4,<- zbV];intro e;simp only [zC,zCd] at e;exact h.mir i j hij hj e
end S9
namespace S1
abbrev FsT:=List Bool×Int
theorem zE2 {S:Type} (m:S->Int) (f:S->Nat->S) (hf: ∀ s i,f s i=s\/m s<m (f s i)): ∀ n s,(qA f s n=s/\∀ i,i<n->f s i=s)\/m s<m (qA f s n)
 | 0,s=> .inl ⟨rfl,fun i hi=>by omega⟩
 | n +1,s=>by
   have e:qA f s (n+1)=f (qA f s n) n:=rfl;rcases zE2 m f hf n s with ⟨h1,h2⟩|h
   ·rw [e,h1];rcases hf s n with h|h
    ·exact .inl ⟨h,fun i hi=>by
      by_cases k:i=n
      ·subst k;exact h
      ·exact h2 i (by omega)⟩
    ·exact .inr h
   ·rw [e];rcases hf (qA f s n) n with k|k
    ·rw [k];exact .inr h
    ·exact .inr (by omega)
theorem zLB {S:Type} {f:S->Nat->S} {s:S} : ∀ n,(∀ i,i<n->f s i=s)->qA f s n=s
 | 0,_=>rfl
 | n+1,h=>by
   show f (qA f s n) n=s;rw [zLB n fun i hi=>h i (by omega)];exact h n (by omega)
def fsK (bs:Int->Int->Bool) (L:List Int) (i:Nat) (st:FsT) (k:Nat):FsT :=
 if st.1.getD (L.getD i 0).toNat false=true/\st.1.getD (L.getD k 0).toNat false=false/\bs (L.getD i 0) (L.getD k 0)=true then (st.1.set (L.getD k 0).toNat true,st.2+1) else st
def fsI (bs:Int->Int->Bool) (L:List Int) (st:FsT) (i:Nat):FsT:=qA (fsK bs L i) st L.length
def fsR (bs:Int->Int->Bool) (L:List Int) (st:FsT) (_:Nat):FsT:=qA (fsI bs L) st L.length
def fs0 (L:List Int) (n:Nat):FsT:=((List.replicate n false).set (L.getD 0 0).toNat true,1)
def fsS (bs:Int->Int->Bool) (L:List Int) (n r:Nat):FsT:=qA (fsR bs L) (fs0 L n) r
section
variable {bs:Int->Int->Bool} {L:List Int} {n:Nat}
theorem zRN (i:Nat) (st:FsT) (k:Nat):fsK bs L i st k=st\/st.2<(fsK bs L i st k).2:=by
 unfold fsK;split
 ·exact .inr (by show st.2<st.2+1;omega)
 ·exact .inl rfl
theorem zR5 (st:FsT) (i:Nat):fsI bs L st i=st\/st.2<(fsI bs L st i).2:=(zE2 (·.2) _ (zRN i) _ st).imp (·.1) id
theorem z0m (st:FsT) (r:Nat):fsR bs L st r=st\/st.2<(fsR bs L st r).2:=(zE2 (·.2) _ zR5 _ st).imp (·.1) id
def zXg (bs:Int->Int->Bool) (L:List Int) (st:FsT):Prop:= ∀ i k,i<L.length->k<L.length->fsK bs L i st k=st
theorem z5f {st:FsT} {r:Nat} (h:fsR bs L st r=st):zXg bs L st:=by
 have h1: ∀ i,i<L.length->fsI bs L st i=st:=by
  rcases zE2 (·.2) (fsI bs L) zR5 L.length st with ⟨_,k⟩|k
  ·exact k
  ·have e:qA (fsI bs L) st L.length=st:=h;rw [e] at k;omega
 intro i k hi hk;rcases zE2 (·.2) (fsK bs L i) (zRN i) L.length st with ⟨_,q⟩|q
 ·exact q k hk
 ·have e:qA (fsK bs L i) st L.length=st:=h1 i hi;rw [e] at q;omega
theorem zXg.fix {st:FsT} (h:zXg bs L st) (r:Nat):fsR bs L st r=st:=zLB _ fun i hi=>zLB _ fun k hk=>h i k hi hk
theorem zVT: ∀ r,zXg bs L (fsS bs L n r)\/1+(r:Int)<=(fsS bs L n r).2
 | 0=> .inr (by show 1+((0:Nat):Int)<=1;omega)
 | r +1=>by
   have e:fsS bs L n (r+1)=fsR bs L (fsS bs L n r) r:=rfl;rw [e];rcases zVT r with h|h
   ·rw [h.fix];exact .inl h
   ·rcases z0m (bs:=bs) (L:=L) (fsS bs L n r) r with k|k
    ·rw [k];exact .inl (z5f k)
    ·exact .inr (by omega)
structure zQF (L:List Int) (n:Nat) (R:Int->Prop) (st:FsT) (ks:List Int):Prop where
 nd:ks.Nodup
 len:(ks.length:Int)=st.2
 sub: ∀ x∈ks,x∈L/\R x
 size:st.1.length=n
 mem: ∀ x,0<=x->(st.1.getD x.toNat false=true↔x∈ks)
theorem zI0 (l:List Bool) (i j:Nat) (hi:i<l.length):(l.set i true).getD j false=if i=j then true else l.getD j false:=by
 rw [gdE,zbQ];split
 ·rename_i e;subst e;rfl
 ·rw [gdE]
variable {R:Int->Prop} (hL: ∀ x∈L,0<=x/\x<(n:Int))
include hL
theorem zVR (hR: ∀ x∈L,∀ y∈L,bs x y=true->R x->R y) {i k:Nat} (hi:i<L.length) (hk:k<L.length) {st:FsT} (h: ∃ ks,zQF L n R st ks): ∃ ks,zQF L n R (fsK bs L i st k) ks:=by
 obtain ⟨ks,h⟩:=h;unfold fsK;split
 case isFalse=>exact ⟨ks,h⟩
 rename_i hc;obtain ⟨c1,c2,c3⟩:=hc;have mi:=jB hi;have mk:=jB hk;have b:=hL _ mk;have nk:L.getD k 0∉ks:=fun e=>by rw [(h.mem _ b.1).2 e] at c2;cases c2
 refine ⟨L.getD k 0::ks,zbG.2 ⟨nk,h.nd⟩,?_,fun x hx=> ?_,?_,fun x hx=> ?_⟩
 ·have:=h.len;show ((ks.length+1:Nat):Int)=st.2+1;omega
 ·rcases zT.1 hx with e|e
  ·subst e;exact ⟨mk,hR _ mi _ mk c3 (h.sub _ ((h.mem _ (hL _ mi).1).1 c1)).2⟩
  ·exact h.sub x e
 ·show (st.1.set _ true).length=n;rw [zbY];exact h.size
 ·show (st.1.set _ true).getD _ false=true↔_;rw [zI0 _ _ _ (by rw [h.size];omega),zT];split
  ·rename_i e;exact ⟨fun _=> .inl (by omega),fun _=>rfl⟩
  ·rename_i e;rw [h.mem x hx];exact ⟨.inr,fun k=>k.resolve_left (fun e'=>e (by rw [e']))⟩
theorem zLb (hR: ∀ x∈L,∀ y∈L,bs x y=true->R x->R y) (hne:0<L.length) (h0:R (L.getD 0 0)) (r:Nat): ∃ ks,zQF L n R (fsS bs L n r) ks:=by
 have m0:=jB hne;have b:=hL _ m0;refine qX (n:=r) (fun _ st=> ∃ ks,zQF L n R st ks) ?_ (fun _ st _ h=> ?_) r (zI _)
 ·refine ⟨[L.getD 0 0],zbG.2 ⟨by simp,zbS⟩,rfl,fun x hx=> ?_,?_,fun x hx=> ?_⟩
  ·rw [zF.1 hx];exact ⟨m0,h0⟩
  ·unfold fs0;simp
  ·unfold fs0;rw [zI0 _ _ _ (by rw [zbc];omega),zF];split
   ·rename_i e;exact ⟨fun _=>by omega,fun _=>rfl⟩
   ·rename_i e;rw [gdE,zbI];split
    ·exact ⟨fun h=>(by cases h),fun h=>absurd (by rw [h]) e⟩
    ·exact ⟨fun h=>(by cases h),fun h=>absurd (by rw [h]) e⟩
 ·exact qX (n:=L.length) (fun _ st=> ∃ ks,zQF L n R st ks) h (fun i st hi h=>qX (n:=L.length) (fun _ st=> ∃ ks,zQF L n R st ks) h (fun k st hk h=>zVR hL hR hi hk h) _ (zI _)) _ (zI _)
theorem zZL (hn:L.Nodup) (hne:0<L.length):(fsS bs L n L.length).2=(L.length:Int)↔∀ Q:Int->Prop,(∀ x∈L,∀ y∈L,bs x y=true->Q x->Q y)->Q (L.getD 0 0)->∀ x∈L,Q x:=by
 constructor
 ·intro h Q hQ h0 x hx;obtain ⟨ks,k⟩:=zLb hL hQ hne h0 L.length;have hl:ks.length=L.length:=by have:=k.len;omega
  apply yF;intro hq;have nx:x∉ks:=fun e=>hq (k.sub x e).2
  have:=zBx (x::ks) L (zbG.2 ⟨nx,k.nd⟩) fun y hy=>by
   rcases zT.1 hy with e|e
   ·rw [e];exact hx
   ·exact (k.sub y e).1
  simp only [yA] at this;omega
 ·intro h;obtain ⟨ks,k⟩:=zLb (R:=fun _=>True) hL (fun _ _ _ _ _ _=>trivial) hne trivial L.length (bs:=bs);have hle:=zBx ks L k.nd fun y hy=>(k.sub y hy).1;have hclo:zXg bs L (fsS bs L n L.length):=(zVT L.length).resolve_right (by have:=k.len;omega)
  have all := h (fun x=>(fsS bs L n L.length).1.getD x.toNat false=true) (fun x hx y hy b hq=>by
   obtain ⟨i,hi,ei⟩:=yG.1 hx;obtain ⟨j,hj,ej⟩:=yG.1 hy;have gi:L.getD i 0=x:=by rw [gdE,gE hi];exact ei
   have gj:L.getD j 0=y:=by rw [gdE,gE hj];exact ej
   have:=hclo i j hi hj;unfold fsK at this;rw [gi,gj] at this;split at this
   ·have e:=congrArg Prod.snd this;have e:(fsS bs L n L.length).2+1=(fsS bs L n L.length).2:=e;omega
   ·rename_i hc;apply yF;intro hy'
    exact hc ⟨hq,by simpa using hy',b⟩) (by
   obtain ⟨ks1,k1⟩:=zLb (R:=fun _=>True) hL (fun _ _ _ _ _ _=>trivial) hne trivial L.length (bs:=bs)
   have: ∀ r,(fsS bs L n r).1.getD (L.getD 0 0).toNat false=true:=fun r=>by
    have b:=hL _ (jB hne)
    have step: ∀ i k (st:FsT),st.1.getD (L.getD 0 0).toNat false=true->(fsK bs L i st k).1.getD (L.getD 0 0).toNat false=true:=fun i k st h=>by
     unfold fsK;split
     ·show (st.1.set _ true).getD _ false=true;rw [gdE,zbQ];split
      ·split
       ·rfl
       ·rename_i e1 e2;rw [<- e1] at h;rw [gdE,zbr (by omega)] at h;cases h
      ·rw [<- gdE];exact h
     ·exact h
    refine qX (n:=r) (fun _ (st:FsT)=>st.1.getD (L.getD 0 0).toNat false=true) ?_ (fun _ st _ h=> ?_) r (zI _)
    ·unfold fs0;rw [zI0 _ _ _ (by rw [zbc];omega),if_pos rfl]
    ·exact qX (n:=L.length) (fun _ (st:FsT)=>st.1.getD (L.getD 0 0).toNat false=true) h (fun i st hi h=>qX (n:=L.length) (fun _ (st:FsT)=>st.1.getD (L.getD 0 0).toNat false=true) h (fun k st hk h=>step i k st h) _ (zI _)) _ (zI _)
   exact this _)
  have:=zBx L ks hn fun x hx=>(k.mem x (hL x hx).1).1 (all x hx);have:=k.len;omega
end
def zOu (L:List Int) (n:Nat) (st:FsT):Prop:= ∃ ks,zQF L n (fun _=>True) st ks
section
variable {bs:Int->Int->Bool} {L:List Int} {n:Nat}
theorem zOu.le {st:FsT} (h:zOu L n st):0<=st.2/\st.2<=L.length/\st.1.length=n:=by
 obtain ⟨ks,h⟩:=h;have:=zBx ks L h.nd fun y hy=>(h.sub y hy).1;have:=h.len;exact ⟨by omega,by omega,h.size⟩
theorem zOu.k (hL: ∀ x∈L,0<=x/\x<(n:Int)) {st:FsT} (h:zOu L n st) {i:Nat} (hi:i<L.length): ∀ k,k<=L.length->zOu L n (qA (fsK bs L i) st k) :=
 qX (n:=L.length) (fun _ st=>zOu L n st) h (fun k st hk h=>zVR hL (fun _ _ _ _ _ _=>trivial) hi hk h)
theorem zOu.i (hL: ∀ x∈L,0<=x/\x<(n:Int)) {st:FsT} (h:zOu L n st): ∀ i,i<=L.length->zOu L n (qA (fsI bs L) st i) :=
 qX (n:=L.length) (fun _ st=>zOu L n st) h (fun i st hi h=>zOu.k hL h hi _ (zI _))
theorem zOu.r (hL: ∀ x∈L,0<=x/\x<(n:Int)) (hne:0<L.length) (r:Nat):zOu L n (fsS bs L n r):=zLb hL (fun _ _ _ _ _ _=>trivial) hne trivial r
end
def inG (l:List P3) (v:Int) (i:Nat):Option Int:=if z8 (tg l i) v then some (i:Int) else none
def inL (l:List P3) (v:Int) (i:Nat):List Int:=(List.range i).filterMap (inG l v)
theorem zL8 (l:List P3) (v:Int) (i:Nat):inL l v (i+1)=inL l v i++(inG l v i).toList:=q9 _ _
theorem z58 (l:List P3) (v:Int) (i:Nat):(inL l v i).length<=i:=zC7 _ _
theorem zC0 {l:List P3} {v:Int} {n:Nat} {x:Int} :x∈inL l v n↔∃ j:Nat,j<n/\z8 (tg l j) v/\x=j:=by
 unfold inL;rw [List.mem_filterMap];constructor
 ·rintro ⟨j,hj,e⟩;unfold inG at e;split at e
  ·rename_i h;cases e;exact ⟨j,zV.1 hj,h,rfl⟩
  ·cases e
 ·rintro ⟨j,hj,h,rfl⟩;exact ⟨j,zV.2 hj,by unfold inG;rw [if_pos h]⟩
theorem zQZ {l:List P3} {v:Int} {n:Nat} : ∀ x∈inL l v n,0<=x/\x<(n:Int):=fun x hx=>by
 obtain ⟨j,hj,_,rfl⟩:=zC0.1 hx;omega
theorem zOB (l:List P3) (v:Int): ∀ n,(inL l v n).Nodup
 | 0=>zbS
 | n + 1=>by
   rw [zL8,List.nodup_append];refine ⟨zOB l v n,?_,fun a ha b hb=> ?_⟩
   ·unfold inG;split
    ·exact zbG.2 ⟨by simp,zbS⟩
    ·exact zbS
   ·unfold inG at hb;split at hb
    ·rw [Option.toList,zF] at hb;have:=zQZ a ha;omega
    ·cases hb
def zLq (a b:P3):Nat->Int
 | 0=>0
 | k+1=>if z8 b (zKl a k) then zLq a b k+1 else zLq a b k
def z38 (a b:P3):Bool:=decide (zLq a b 3>=2)
def zJc (l:List P3) (p q:Int):Bool:=z38 (tg l p.toNat) (tg l q.toNat)
def zBZ (l:List P3) (v:Int):Int×Int:=((inL l v l.length).length,if (inL l v l.length).length=0 then 0 else (fsS (zJc l) (inL l v l.length) l.length (inL l v l.length).length).2)
theorem zDu (a b:P3) (k:Nat):zLq a b (k+1)=if z8 b (zKl a k) then zLq a b k+1 else zLq a b k:=rfl
theorem zQS (a b:P3): ∀ k:Nat,0<=zLq a b k/\zLq a b k<=k
 | 0=>⟨Int.le_refl _,Int.le_refl _⟩
 | k+1=>by
   have:=zQS a b k;rw [zDu];split<;>omega
theorem z5O {a b:P3} (hd: ¬ dgn a) {v:Int} (h1:z8 a v) (h2:z8 b v):z38 a b=true↔∃ w,w≠v/\z8 a w/\z8 b w:=by
 unfold z38;rw [zP,zDu,zDu,zDu];obtain ⟨x,y,z⟩:=a;unfold dgn at hd;simp only [zKl,List.getD_cons_zero,List.getD_cons_succ,zLq] at *;have hv:z8 (x,y,z) v↔(x=v\/y=v\/z=v):=Iff.rfl;constructor
 ·intro h;have key: ∀ w,(x=w\/y=w\/z=w)->z8 b w->w≠v->∃ w,w≠v/\z8 (x,y,z) w/\z8 b w:=fun w hw hb hn=>⟨w,hn,hw,hb⟩
  by_cases b1:z8 b x<;>by_cases b2:z8 b y<;>by_cases b3:z8 b z<;>simp only [b1,b2,b3,if_true,if_false] at h<;>first
   | omega
   | (by_cases e:x=v
      ·exact key y (.inr (.inl rfl)) b2 (by omega)
      ·exact key x (.inl rfl) b1 e)
   | (by_cases e:x=v
      ·exact key z (.inr (.inr rfl)) b3 (by omega)
      ·exact key x (.inl rfl) b1 e)
   | (by_cases e:y=v
      ·exact key z (.inr (.inr rfl)) b3 (by omega)
      ·exact key y (.inr (.inl rfl)) b2 e)
 ·rintro ⟨w,w1,w2,w3⟩;have w2:x=w\/y=w\/z=w:=w2;have h1:=hv.1 h1;have c1: ∀ u,u=v\/u=w->z8 b u:=fun u hu=>by rcases hu with e|e<;>(rw [e];assumption)
  by_cases b1:z8 b x<;>by_cases b2:z8 b y<;>by_cases b3:z8 b z<;>simp only [b1,b2,b3,if_true,if_false]<;>first
   | omega
   | (exfalso
      have k1: ¬ (x=v\/x=w):=fun k=>(by first|exact absurd (c1 _ k) b1|exact (by assumption:False))
      omega)
   | (exfalso
      by_cases k1:x=v\/x=w
      ·by_cases k2:y=v\/y=w
       ·first|exact b1 (c1 _ k1)|exact b2 (c1 _ k2)
       ·by_cases k3:z=v\/z=w
        ·first|exact b1 (c1 _ k1)|exact b3 (c1 _ k3)
        ·omega
      ·by_cases k2:y=v\/y=w
       ·by_cases k3:z=v\/z=w
        ·first|exact b2 (c1 _ k2)|exact b3 (c1 _ k3)
        ·omega
       ·omega)
theorem z3t {l:List P3} {v:Int} {k:Nat} (hk:k<(inL l v l.length).length):0<=(inL l v l.length).getD k 0/\((inL l v l.length).getD k 0).toNat<l.length/\z8 (tg l ((inL l v l.length).getD k 0).toNat) v:=by
 obtain ⟨j,hj,h,e⟩:=zC0.1 (jB hk);rw [e];exact ⟨by omega,by omega,h⟩
theorem z2C {l:List P3} (hd: ∀ i,i<l.length->¬ dgn (tg l i)) {v:Int} (hne:0<(inL l v l.length).length):(zBZ l v).1=(zBZ l v).2↔z6C l v:=by
 have e:(zBZ l v).2=(fsS (zJc l) (inL l v l.length) l.length (inL l v l.length).length).2:=if_neg (by omega);rw [e];have hc:=zZL (bs:=zJc l) (L:=inL l v l.length) (n:=l.length) zQZ (zOB l v _) hne;have hc:(zBZ l v).1=(fsS (zJc l) (inL l v l.length) l.length (inL l v l.length).length).2↔_:=⟨fun h=>hc.1 h.symm,fun h=>(hc.2 h).symm⟩;rw [hc]
 have rel: ∀ i j:Nat,i<l.length->z8 (tg l i) v->z8 (tg l j) v->(zJc l (i:Int) (j:Int)=true↔∃ w,w≠v/\z8 (tg l i) w/\z8 (tg l j) w):=fun i j hi h1 h2=>by
  unfold zJc;exact z5O (hd i hi) h1 h2
 obtain ⟨z,hz,hzv,ez⟩:=zC0.1 (jB hne);constructor
 ·intro h Q hQ a ha hav hqa i hi hiv
  have go: ∀ R:Nat->Prop,(∀ i j:Nat,i<l.length->j<l.length->z8 (tg l i) v->z8 (tg l j) v->(∃ w:Int,w≠v/\z8 (tg l i) w/\z8 (tg l j) w)->R i->R j)->R z->∀ i,i<l.length->z8 (tg l i) v->R i:=fun R hR h0 i hi hiv=>by
   have:=h (fun x=>R x.toNat) (fun x hx y hy b q=>by
    obtain ⟨p,hp,hpv,rfl⟩:=zC0.1 hx;obtain ⟨s,hs,hsv,rfl⟩:=zC0.1 hy
    exact hR p s hp hs hpv hsv ((rel p s hp hpv hsv).1 b) q) (by rw [ez];exact h0) (i:Int) (zC0.2 ⟨i,hi,hiv,rfl⟩)
   exact this
  by_cases hqz:Q z
  ·exact go Q hQ hqz i hi hiv
  ·exact absurd hqa (go (fun k=> ¬ Q k) (fun i j hi hj h1 h2 ⟨w,w1,w2,w3⟩ hn hq=>hn (hQ j i hj hi h2 h1 ⟨w,w1,w3,w2⟩ hq)) hqz a ha hav)
 ·intro h Q hQ h0 x hx;obtain ⟨i,hi,hiv,rfl⟩:=zC0.1 hx;rw [ez] at h0;exact h (fun k=>Q (k:Int)) (fun p q hp hq h1 h2 hw hqp=>hQ _ (zC0.2 ⟨p,hp,h1,rfl⟩) _ (zC0.2 ⟨q,hq,h2,rfl⟩) ((rel p q hp h1 h2).2 hw) hqp) z hz hzv h0 i hi hiv
def shE (t u:P3) (p q:Nat):Prop:=zKl t p=zKl u q/\zKl t ((p+1) % 3)=zKl u ((q+1) % 3)
def zQ9 (t u:P3):Prop:=(∀ p q,p<3->q<3->¬ shE t u p q)/\zLq t u 3≠3
theorem zQ8 {t:P3} {a b:Int} :dE t a b↔∃ p,p<3/\zKl t p=a/\zKl t ((p+1) % 3)=b:=by
 constructor
 ·rintro (⟨h1,h2⟩|⟨h1,h2⟩|⟨h1,h2⟩)
  ·exact ⟨0,by omega,h1,h2⟩
  ·exact ⟨1,by omega,h1,h2⟩
  ·exact ⟨2,by omega,h1,h2⟩
 ·rintro ⟨p,hp,h1,h2⟩;have:p=0\/p=1\/p=2:=by omega
  rcases this with e|e|e<;>subst e
  ·exact .inl ⟨h1,h2⟩
  ·exact .inr (.inl ⟨h1,h2⟩)
  ·exact .inr (.inr ⟨h1,h2⟩)
theorem z9e (t u:P3):zLq t u 3=3↔z8 u t.1/\z8 u t.2.1/\z8 u t.2.2:=by
 rw [zDu,zDu,zDu];have e0:zKl t 0=t.1:=rfl;have e1:zKl t 1=t.2.1:=rfl;have e2:zKl t 2=t.2.2:=rfl;rw [e0,e1,e2];show (if _ then (if _ then (if _ then (0:Int)+1 else 0)+1 else _)+1 else _)=3↔_
 by_cases b1:z8 u t.1<;>by_cases b2:z8 u t.2.1<;>by_cases b3:z8 u t.2.2<;>simp [b1,b2,b3,zLq]
theorem zUH {t u:P3} (h1: ¬ dgn t) (h2: ¬ dgn u) (h:z8 u t.1/\z8 u t.2.1/\z8 u t.2.2):z8 t u.1/\z8 t u.2.1/\z8 t u.2.2:=by
 obtain ⟨x,y,z⟩:=t;obtain ⟨p,q,r⟩:=u;unfold z8 at *;unfold dgn at *;simp only at *;omega
theorem zWb {s:Int×List P3} (hf:zMc s) (hd: ∀ i,i<s.2.length->¬ dgn (tg s.2 i)) (hp: ∀ i k,k<i->i<s.2.length->zQ9 (tg s.2 i) (tg s.2 k)) (hv: ∀ v:Nat,(v:Int)<s.1->(zBZ s.2 v).1≠0/\(zBZ s.2 v).1=(zBZ s.2 v).2):zBK s:=by
 refine ⟨hf,hd,fun i j hij hj a b k1 k2=> ?_,fun i j hij hj hh=> ?_,fun v hv'=> ?_,fun v hv'=> ?_⟩
 ·obtain ⟨p,hp3,e1,e2⟩:=zQ8.1 k1;obtain ⟨q,hq3,e3,e4⟩:=zQ8.1 k2;exact (hp j i hij hj).1 q p hq3 hp3 ⟨e3.trans e1.symm,e4.trans e2.symm⟩
 ·refine (hp j i hij hj).2 ((z9e _ _).2 ?_);exact zUH (hd i (by omega)) (hd j hj) hh
 ·have:=(hv v hv').1
  have:0<(inL s.2 v s.2.length).length:=by
   have e:(zBZ s.2 v).1=((inL s.2 v s.2.length).length:Int):=rfl;omega
  obtain ⟨j,hj,h,_⟩:=zC0.1 (jB this);exact ⟨j,hj,h⟩
 ·have h1:=(hv v hv').1
  have:0<(inL s.2 v s.2.length).length:=by
   have e:(zBZ s.2 v).1=((inL s.2 v s.2.length).length:Int):=rfl;omega
  exact (z2C hd this).1 (hv v hv').2
theorem zNY {s:Int×List P3} (h:zBK s) {i k:Nat} (hki:k<i) (hi:i<s.2.length):zQ9 (tg s.2 i) (tg s.2 k):=by
 refine ⟨fun p q hp hq hh=> ?_,fun hh=> ?_⟩
 ·exact h.dif k i hki hi _ _ (zQ8.2 ⟨q,hq,rfl,rfl⟩) (zQ8.2 ⟨p,hp,hh.1,hh.2⟩)
 ·exact h.mir k i hki hi (zUH (h.deg i hi) (h.deg k (by omega)) ((z9e _ _).1 hh))
theorem zZt {s:Int×List P3} (h:zBK s) {v:Nat} (hv:(v:Int)<s.1):(zBZ s.2 v).1≠0/\(zBZ s.2 v).1=(zBZ s.2 v).2:=by
 obtain ⟨j,hj,hjv⟩:=h.use v hv;have hm:(j:Int)∈inL s.2 v s.2.length:=zC0.2 ⟨j,hj,hjv,rfl⟩;have:0<(inL s.2 v s.2.length).length:=List.length_pos_of_mem hm;refine ⟨?_,(z2C h.deg this).2 (h.pin v hv)⟩;have e:(zBZ s.2 v).1=((inL s.2 v s.2.length).length:Int):=rfl;omega
end S1
namespace S1
@[irreducible] def hasB (t:P3) (v:Int):Bool:=decide (z8 t v)
theorem zG2 {t:P3} {v:Int} :hasB t v=true↔z8 t v:=by unfold hasB;exact decide_eq_true_iff
theorem zP4 {t:P3} {v:Int} :hasB t v=false↔¬ z8 t v:=by rw [<- zG2];simp
theorem z0O {fn} (t:P3) (v:Int):zAG ⟨tyL,fn,[]⟩ f51 [ETy.arr3.av t,y8.av v] (fun r=>r= .s (.bool (hasB t v))):=by
 repeat' (conv=>whnf
          first|done|refine qy ?_|refine qG fun _=> ?_|refine qw (fun _=> ?_) (fun _=> ?_)|apply qt|refine qi (fun _=> ?_) (fun _=> ?_)|refine qu ?_|refine qv ?_ ?_|exact zO)
 all_goals try first|refine qz ?_|apply qz5
 all_goals try simp only [qn0,z7,zX,ETy.dflt,Int.reduceToNat,Int.reduceAdd,Int.reduceSub,Int.reduceNeg,Nat.reduceAdd] at *
 all_goals (rw [Bool.eq_iff_iff,zG2];unfold z8;simp [*])
def zI7:List AV->Option Res:=zCr .arr3 y8 (fun t v=>some (none,none,.s (.bool (hasB t v))))
theorem zLs:qM prog 51 zI7:=mkR (jD fun t v r h=>by cases h;exact fb (fn:=[]) trivial func51 fun _ _=>z0O t v) func51
theorem zXs (t:P3) (k:Nat):[t.1,t.2.1,t.2.2].getD k 0=zKl t k:=rfl
theorem tmX (x:Nat):(((x:Int)+1).tmod 3).toNat=(x+1) % 3:=by rw [Int.tmod_eq_emod_of_nonneg (by omega)];omega
def zQN (a b:P3):Spec Nat where
 inv k:=k<=3
 live k:=[(6,.s (.int .i64 k)),(5,.s (.int .i64 (zLq a b k)))]
 keep:=[2,3]
 heap _:=[]
 keepH:=[0,1]
 mu k:=3 - k
theorem zKY (a b:P3):zLq a b 0=0:=rfl
attribute [local irreducible] zLq
theorem z0X (a b:P3):zAG ⟨tyL,[(51,zI7)],[]⟩ f91 [ETy.arr3.av a,ETy.arr3.av b] (fun r=>r= .s (.bool (z38 a b))):=by
 repeat' (conv=>whnf
          first|done|refine qy ?_|refine qG fun _=> ?_|refine qw (fun _=> ?_) (fun _=> ?_)|apply qt|refine qi (fun _=> ?_) (fun _=> ?_)|(refine zaB 3 rfl (zQN a b) (0) ?_ ?_ ?_ fun k hk=> ?_)|with_reducible refine zaA (zQN _ _) (k+1) ?_ ?_ ?_ ?_|refine qu ?_|refine qv ?_ ?_|exact zO)
 all_goals try first|refine qz ?_|apply qz5
 all_goals try simp only [qn0,z7,zX,ETy.dflt,Int.reduceToNat,Int.reduceAdd,Int.reduceSub,Int.reduceNeg,Nat.reduceAdd,zQN,zXs,z38,tmX] at *
 all_goals try exact zKY a b
 all_goals try exact qh (zbH _)
 all_goals try (rw [zKY];done)
 all_goals try (rw [zKY];rfl)
 all_goals try exact zKY _ _
 all_goals try exact (zKY _ _).symm
 all_goals have hN:=zQS a b k
 all_goals try (refine qh ?_;omega)
 all_goals try (refine qh ?_;unfold yP;omega)
 all_goals try (rw [zDu,if_pos (zG2.1 (by assumption))];done)
 all_goals try (rw [zDu,if_neg (zP4.1 (by assumption))];done)
 all_goals (rw [show k=3 by omega])
def zYh:List AV->Option Res:=zCr .arr3 .arr3 (fun a b=>some (none,none,.s (.bool (z38 a b))))
theorem z08:qM prog 91 zYh:=mkR (jD fun a b r h=>by cases h;exact fb (by exact ⟨zLs,trivial⟩) func91 fun _ _=>z0X a b) func91
theorem z68 (l:List P3) (v:Int):inL l v 0=[]:=rfl
theorem z5X {l:List P3} {v:Int} {i:Nat} (h:hasB (l.getD i (0,0,0)) v=true):inL l v (i+1)=inL l v i++[(i:Int)]:=by
 have h:z8 (tg l i) v:=zG2.1 h;rw [zL8];unfold inG;rw [if_pos h];rfl
theorem z74 {l:List P3} {v:Int} {i:Nat} (h:hasB (l.getD i (0,0,0)) v=false):inL l v (i+1)=inL l v i:=by
 have h: ¬ z8 (tg l i) v:=zP4.1 h;rw [zL8];unfold inG;rw [if_neg h];exact zbF _
theorem z6Q (bs:Int->Int->Bool) (L:List Int) (n:Nat):(fsS bs L n 0).2=1:=rfl
theorem z8F (bs:Int->Int->Bool) (L:List Int) (n:Nat):(fsS bs L n 0).1=(List.replicate n false).set (L.getD 0 0).toNat true:=rfl
theorem z7a {X:Type} (f:X->Nat->X) (s:X):qA f s 0=s:=rfl
theorem z8v (bs:Int->Int->Bool) (L:List Int) (S:FsT) (p:Nat):qA (fsI bs L) S (p+1)=qA (fsK bs L p) (qA (fsI bs L) S p) L.length:=rfl
theorem z9H (bs:Int->Int->Bool) (L:List Int) (n r:Nat):fsS bs L n (r+1)=qA (fsI bs L) (fsS bs L n r) L.length:=rfl
theorem z5G {l:List P3} {v:Int} (h:(inL l v l.length).length=0):zBZ l v=(0,0):=by
 unfold zBZ;rw [if_pos h,h];rfl
theorem z5j {l:List P3} {v:Int} (h:(inL l v l.length).length≠0):zBZ l v=(((inL l v l.length).length:Int),(fsS (zJc l) (inL l v l.length) l.length (inL l v l.length).length).2):=by
 unfold zBZ;rw [if_neg h]
attribute [local irreducible] inL z38
def zVh (l:List P3) (v:Int):Spec Nat where
 inv i:=i<=l.length
 live i:=[(7,.s (.int .i64 i)),(6,.s (.own 1 0 (inL l v i).length))]
 keep:=[1,2,4,5]
 heap i:=[(1,.row y8 3 (inL l v i))]
 keepH:=[0]
 mu i:=l.length - i
def zV5 (l:List P3) (L:List Int):Spec Nat where
 inv r:=r<=L.length
 live r:=[(10,.s (.int .i64 r)),(9,.s (.int .i64 (fsS (zJc l) L l.length r).2))]
 keep:=[1,2,4,5,6,8]
 heap r:=[(2,.row .bool 4 (fsS (zJc l) L l.length r).1)]
 keepH:=[0,1]
 mu r:=L.length - r
def zUA (l:List P3) (L:List Int) (r:Nat):Spec Nat where
 inv i:=i<=L.length
 live i:=[(11,.s (.int .i64 i)),(9,.s (.int .i64 (qA (fsI (zJc l) L) (fsS (zJc l) L l.length r) i).2))]
 keep:=[1,2,4,5,6,8,10]
 heap i:=[(2,.row .bool 4 (qA (fsI (zJc l) L) (fsS (zJc l) L l.length r) i).1)]
 keepH:=[0,1]
 mu i:=L.length - i
def zXR (l:List P3) (L:List Int) (r i:Nat):Spec Nat where
 inv k:=k<=L.length
 live k:=[(12,.s (.int .i64 k)),(9,.s (.int .i64 (qA (fsK (zJc l) L i) (qA (fsI (zJc l) L) (fsS (zJc l) L l.length r) i) k).2))]
 keep:=[1,2,4,5,6,8,10,11]
 heap k:=[(2,.row .bool 4 (qA (fsK (zJc l) L i) (qA (fsI (zJc l) L) (fsS (zJc l) L l.length r) i) k).1)]
 keepH:=[0,1]
 mu k:=L.length - k
theorem z4I {bs:Int->Int->Bool} {L:List Int} {i k:Nat} {S:FsT} (h1:(qA (fsK bs L i) S k).1.getD (L.getD i 0).toNat false=true) (h2:(qA (fsK bs L i) S k).1.getD (L.getD k 0).toNat false=false) (h3:bs (L.getD i 0) (L.getD k 0)=true) :
 qA (fsK bs L i) S (k+1)=((qA (fsK bs L i) S k).1.set (L.getD k 0).toNat true,(qA (fsK bs L i) S k).2+1):=if_pos ⟨h1,h2,h3⟩
theorem zWg {bs:Int->Int->Bool} {L:List Int} {i k:Nat} {S:FsT} (h:(qA (fsK bs L i) S k).1.getD (L.getD i 0).toNat false=false\/(qA (fsK bs L i) S k).1.getD (L.getD k 0).toNat false=true\/bs (L.getD i 0) (L.getD k 0)=false) :
 qA (fsK bs L i) S (k+1)=qA (fsK bs L i) S k:=if_neg (by
 rintro ⟨h1,h2,h3⟩;rcases h with h|h|h
 ·rw [h] at h1;cases h1
 ·rw [h] at h2;cases h2
 ·rw [h] at h3;cases h3)
attribute [local irreducible] fsS qA
theorem z1N (n:Int) (l:List P3) (v:Int) (hl:l.length<=8192):zAG ⟨tyL,[(51,zI7),(91,zYh)],[]⟩ f52 [qP.av (n,l),y8.av v] (fun r=>r= .tup [.s (.int .i64 (zBZ l v).1),.s (.int .i64 (zBZ l v).2)]):=by
 repeat' (conv=>whnf
          first|done|refine qy ?_|refine qG fun _=> ?_|refine qw (fun _=> ?_) (fun _=> ?_)|apply qt|refine qi (fun _=> ?_) (fun _=> ?_)|(refine zaB 3 rfl (zVh l v) (0) ?_ ?_ ?_ fun i hi=> ?_)|with_reducible refine zaA (zVh _ _) (i+1) ?_ ?_ ?_ ?_|(refine zaB 13 rfl (zV5 l (inL l v l.length)) (0) ?_ ?_ ?_ fun r hr=> ?_)|with_reducible refine zaA (zV5 _ _) (r+1) ?_ ?_ ?_ ?_|(refine zaB 16 rfl (zUA l (inL l v l.length) r) (0) ?_ ?_ ?_ fun p hp=> ?_)|with_reducible refine zaA (zUA _ _ _) (p+1) ?_ ?_ ?_ ?_|(refine zaB 19 rfl (zXR l (inL l v l.length) r p) (0) ?_ ?_ ?_ fun q hq=> ?_)|with_reducible refine zaA (zXR _ _ _ _) (q+1) ?_ ?_ ?_ ?_|refine qu ?_|refine qv ?_ ?_|exact zO)
 all_goals try first|refine qz ?_|apply qz5
 all_goals try simp only [qn0,z7,zX,ETy.dflt,Int.reduceToNat,Int.reduceAdd,Int.reduceSub,Int.reduceNeg,Nat.reduceAdd,zVh,zV5,zUA,zXR] at *
 all_goals try exact qh (zbH _)
 all_goals try (rw [z68];done)
 all_goals try (rw [z68];rfl)
 all_goals have hle:=z58 l v i
 all_goals try (refine qh ?_;omega)
 all_goals try (rw [z5X (by assumption)];first|done|exact zN)
 all_goals try (rw [z74 (by assumption)];done)
 all_goals have ei:i=l.length:=by omega
 all_goals subst ei
 all_goals have hg:=fun k (hk:k<(inL l v l.length).length)=>z3t (l:=l) (v:=v) hk
 all_goals have hrg:=zQZ (l:=l) (v:=v) (n:=l.length)
 all_goals try
  have h0:((inL l v l.length).length:Int)=0:=by assumption
  rw [z5G (show (inL l v l.length).length=0 by omega)];exact y9.intro rfl
 all_goals have hne : (inL l v l.length).length ≠ 0 := by have h0:((inL l v l.length).length:Int)≠0:=by assumption
                                                          omega
 all_goals try exact z6Q _ _ _
 all_goals try exact z8F _ _ _
 all_goals try (rw [z7a];done)
 all_goals try (have h:=hg 0 (by omega);refine yJ.intro (zA ?_ ?_)<;>omega)
 all_goals try
  have hr1:r=(inL l v l.length).length:=by omega
  rw [z5j hne,hr1];exact y9.intro rfl
 all_goals try
  have hp1:p=(inL l v l.length).length:=by omega
  rw [z9H,hp1];done
 all_goals try
  have hq1:q=(inL l v l.length).length:=by omega
  rw [z8v,hq1];done
 all_goals (have kp:=hg p (by omega);have kq:=hg q (by omega))
 all_goals try (refine yJ.intro (zA ?_ ?_)<;>omega)
 all_goals have hS:=zOu.r (bs:=zJc l) hrg (by omega) r
 all_goals have hS:=zOu.i (bs:=zJc l) hrg hS p (by omega)
 all_goals have hS:=(zOu.k (bs:=zJc l) hrg hS (i:=p) (by omega) q (by omega)).le
 all_goals try (refine qh ?_;unfold yP;omega)
 all_goals try (refine qh ?_;omega)
 all_goals first
  | (rw [z4I (by assumption) (by assumption) (by assumption)];done)
  | (rw [zWg (.inl (by assumption))];done)
  | (rw [zWg (.inr (.inl (by assumption)))];done)
  | (rw [zWg (.inr (.inr (by assumption)))];done)
def zUm:List AV->Option Res:=zCr qP y8 (fun s v=>some (none,some (s.2.length<=8192),.tup [.s (.int .i64 (zBZ s.2 v).1),.s (.int .i64 (zBZ s.2 v).2)]))
theorem zZk:qM prog 52 zUm:=mkR (jD fun s v r h=>by cases h;exact fb (by exact ⟨zLs,z08,trivial⟩) func52 fun _ h=>z1N s.1 s.2 v h) func52
end S1
namespace S1
def zTo (n:Int) (t:P3):Prop:=(0<=t.1/\t.1<n)/\(0<=t.2.1/\t.2.1<n)/\(0<=t.2.2/\t.2.2<n)/\¬ dgn t
def zWd (n:Int) (l:List P3):Spec Nat where
 inv i:=i<=l.length/\∀ j,j<i->zTo n (l.getD j (0,0,0))
 live i:=[(3,.s (.int .i64 i))]
 keep:=[1,2]
 heap _:=[]
 keepH:=[0]
 mu i:=l.length - i
def zXJ (l:List P3):Spec Nat where
 inv i:=i<=l.length/\∀ j k,k<j->j<i->zQ9 (l.getD j (0,0,0)) (l.getD k (0,0,0))
 live i:=[(6,.s (.int .i64 i))]
 keep:=[1,2]
 heap _:=[]
 keepH:=[0]
 mu i:=l.length - i
def zWD (l:List P3) (i:Nat):Spec Nat where
 inv k:=k<=i/\∀ j,j<k->zQ9 (l.getD i (0,0,0)) (l.getD j (0,0,0))
 live k:=[(7,.s (.int .i64 k))]
 keep:=[1,2,6]
 heap _:=[]
 keepH:=[0]
 mu k:=i - k
def zTt (l:List P3) (i k:Nat):Spec Nat where
 inv p:=p<=3/\∀ a b,a<p->b<3->¬ shE (l.getD i (0,0,0)) (l.getD k (0,0,0)) a b
 live p:=[(9,.s (.int .i64 p)),(8,.s (.int .i64 (zLq (l.getD i (0,0,0)) (l.getD k (0,0,0)) p)))]
 keep:=[1,2,6,7]
 heap _:=[]
 keepH:=[0]
 mu p:=3 - p
def zXq (l:List P3) (i k p:Nat):Spec Nat where
 inv q:=q<=3/\∀ b,b<q->¬ shE (l.getD i (0,0,0)) (l.getD k (0,0,0)) p b
 live q:=[(10,.s (.int .i64 q))]
 keep:=[1,2,6,7,8,9]
 heap _:=[]
 keepH:=[0]
 mu q:=3 - q
def zX4 (n:Int) (l:List P3):Spec Nat where
 inv v:=(v:Int)<=max n 0/\∀ u:Nat,u<v->(zBZ l u).1≠0/\(zBZ l u).1=(zBZ l u).2
 live v:=[(11,.s (.int .i64 v))]
 keep:=[1,2]
 heap _:=[]
 keepH:=[0]
 mu v:=n.toNat - v
theorem zRR (s:SoT):isR s=true↔zBK s:=by
 unfold isR;rw [zP];exact ⟨fun h=>(zD9 s).1 (by rw [h]),fun h=>zQj ((zD9 s).2 h)⟩
theorem zNg {s:SoT} (h:zBK s->False):false=isR s:=by
 cases e:isR s with
 | false=>rfl
 | true=>exact (h ((zRR s).1 e)).elim
theorem z4b {s:SoT} (h:zBK s):true=isR s:=((zRR s).2 h).symm
theorem z9n:(Int.tmod 1 3).toNat=1:=rfl
theorem z9x:(Int.tmod 2 3).toNat=2:=rfl
theorem z9t:(Int.tmod 3 3).toNat=0:=rfl
theorem c30 (t:P3):zKl t 0=t.1:=rfl
theorem c31 (t:P3):zKl t 1=t.2.1:=rfl
theorem c32 (t:P3):zKl t 2=t.2.2:=rfl
theorem z7Z {n:Int} {l:List P3} (h:zBK (n,l)) {i:Nat} (hi:i<l.length):zTo n (l.getD i (0,0,0)):=by
 obtain ⟨a,b,c⟩:=zAH (h.fit.2.2.2 i hi);exact ⟨a,b,c,h.deg i hi⟩
theorem z9q (q:Nat):0<=((q:Int)+1).tmod 3/\((q:Int)+1).tmod 3<3:=by
 have e:((q:Int)+1).tmod 3=((q:Int)+1) % 3:=Int.tmod_eq_emod_of_nonneg (by omega);rw [e];omega
attribute [local irreducible] zLq zBZ isR
theorem z3V (n:Int) (l:List P3):zAG ⟨tyL,[(51,zI7),(52,zUm)],[]⟩ Tryz.f15 [qP.av (n,l)] (fun r=>r= .s (.bool (isR (n,l)))):=by
 repeat' (conv=>whnf
          first|done|refine qy ?_|refine qG fun _=> ?_|refine qw (fun _=> ?_) (fun _=> ?_)|apply qt|refine qi (fun _=> ?_) (fun _=> ?_)|(refine zaB 4 rfl (zWd n l) (0) ?_ ?_ ?_ fun i hi=> ?_)|with_reducible refine zaA (zWd _ _) (i+1) ?_ ?_ ?_ ?_|(refine qS 8 rfl ?_;refine Or.inl (zB (4) ?_))|(refine zaB 13 rfl (zXJ l) (0) ?_ ?_ ?_ fun j hj=> ?_)|with_reducible refine zaA (zXJ _) (j+1) ?_ ?_ ?_ ?_|(refine zaB 16 rfl (zWD l j) (0) ?_ ?_ ?_ fun k hk=> ?_)|with_reducible refine zaA (zWD _ _) (k+1) ?_ ?_ ?_ ?_|(refine zaB 20 rfl (zTt l j k) (0) ?_ ?_ ?_ fun p hp=> ?_)|with_reducible refine zaA (zTt _ _ _) (p+1) ?_ ?_ ?_ ?_|(refine zaB 25 rfl (zXq l j k p) (0) ?_ ?_ ?_ fun q hq=> ?_)|with_reducible refine zaA (zXq _ _ _ _) (q+1) ?_ ?_ ?_ ?_|(refine zaB 32 rfl (zX4 n l) (0) ?_ ?_ ?_ fun v hv=> ?_)|with_reducible refine zaA (zX4 _ _) (v+1) ?_ ?_ ?_ ?_|refine qu ?_|refine qv ?_ ?_|exact zO)
 all_goals try first|refine qz ?_|apply qz5
 all_goals try simp only [qn0,z7,zX,ETy.dflt,Int.reduceToNat,Int.reduceAdd,Int.reduceSub,Int.reduceNeg,Nat.reduceAdd,zWd,zXJ,zWD,zTt,zXq,zX4,zXs,tmX,z9n,z9x,z9t,c30,c31,c32] at *
 all_goals try
  (refine zNg fun h=> ?_
   have h1:0<=n:=h.fit.1;have h2:n<=4096:=h.fit.2.1;have h3:l.length<=8192:=h.fit.2.2.1
   omega)
 all_goals try exact qh ⟨by decide,by decide⟩
 all_goals try exact qh (z9q _)
 all_goals try (refine yJ.intro (zA (zbH _) ?_);intros;omega)
 all_goals try (refine qh ?_;omega)
 all_goals have hi1:=hi.1
 all_goals try
  have hil:(i:Int)<l.length:=by assumption
  refine zNg fun h=> ?_;have ht:=z7Z h (i:=i) (by omega);unfold zTo dgn at ht;omega
 all_goals try
  have hil:(i:Int)<l.length:=by assumption
  refine yJ.intro (zA ?_ ?_)
  ·omega
  ·intro a ha
   by_cases e:a=i
   ·subst e;unfold zTo dgn;omega
   ·exact hi.2 a (by omega)
 all_goals try exact zKY _ _
 all_goals try
  (have hN:=zQS (l.getD j (0,0,0)) (l.getD k (0,0,0)) p
   refine qh ?_;unfold yP;omega)
 all_goals try
  (have a1:zKl (l.getD j (0,0,0)) p=zKl (l.getD k (0,0,0)) q:=by assumption
   have a2:zKl (l.getD j (0,0,0)) ((p+1) % 3)=zKl (l.getD k (0,0,0)) ((q+1) % 3):=by assumption
   exact zNg fun h=>(zNY h (i:=j) (k:=k) (by omega) (show j<l.length by omega)).1 p q (by omega) (by omega) ⟨a1,a2⟩)
 all_goals try
  (have hq2:=hq.2
   have a1: ¬ shE (l.getD j (0,0,0)) (l.getD k (0,0,0)) p q:=by
    rintro ⟨b1,b2⟩
    first|exact absurd b1 (by assumption)|exact absurd b2 (by assumption)
   refine yJ.intro (zA ?_ ?_)
   ·omega
   ·intro b hb
    by_cases e:b=q
    ·subst e;exact a1
    ·exact hq2 b (by omega))
 all_goals try
  (have hq2:=hq.2
   have hp2:=hp.2;have e3:q=3:=by omega
   refine yJ.intro (zA ?_ ?_)
   ·omega
   ·intro a b ha hb
    by_cases e:a=p
    ·subst e;exact hq2 b (by omega)
    ·exact hp2 a b (by omega) hb)
 all_goals try (rw [zDu,if_pos (zG2.1 (by assumption))];done)
 all_goals try (rw [zDu,if_neg (zP4.1 (by assumption))];done)
 all_goals try
  (have a1:zLq (l.getD j (0,0,0)) (l.getD k (0,0,0)) p=3:=by assumption
   have e3:p=3:=by omega
   rw [e3] at a1
   exact zNg fun h=>(zNY h (i:=j) (k:=k) (by omega) (show j<l.length by omega)).2 a1)
 all_goals try
  (have a1:zLq (l.getD j (0,0,0)) (l.getD k (0,0,0)) p≠3:=by assumption
   have e3:p=3:=by omega
   have hk2:=hk.2;have hp2:=hp.2;rw [e3] at a1 hp2;refine yJ.intro (zA ?_ ?_)
   ·omega
   ·intro a ha
    by_cases e:a=k
    ·subst e;exact ⟨fun x y hx hy=>hp2 x y hx hy,a1⟩
    ·exact hk2 a (by omega))
 all_goals try
  (have hk2:=hk.2
   have hj2:=hj.2;have e3:k=j:=by omega
   refine yJ.intro (zA ?_ ?_)
   ·omega
   ·intro a b hb ha
    by_cases e:a=j
    ·subst e;exact hk2 b (by omega)
    ·exact hj2 a b hb (by omega))
 all_goals try (refine yJ.intro (zA ?_ ?_)<;>first|omega|(intros;omega))
 all_goals try
  (have hv1:(v:Int)<n:=by assumption
   refine zNg fun h=> ?_;have hf:=zZt h (v:=v) hv1
   first
   | exact hf.1 (by assumption)
   | exact absurd hf.2 (by assumption))
 all_goals try
  (have hv1:(v:Int)<n:=by assumption
   have hv2:=hv.2;have b1:(zBZ l v).1≠0:=by assumption
   have b2:(zBZ l v).1=(zBZ l v).2:=by assumption
   refine yJ.intro (zA ?_ ?_)
   ·omega
   ·intro u hu
    by_cases e:u=v
    ·subst e;exact ⟨b1,b2⟩
    ·exact hv2 u (by omega))
 all_goals
  have e1:i=l.length:=by omega
  have e2:j=l.length:=by omega
  have hi2:=hi.2;have hj2:=hj.2;have hv2:=hv.2;have hv1:=hv.1;rw [e1] at hi2;rw [e2] at hj2;refine z4b (zWb (s:=(n,l)) (zA ?_ (zA ?_ (zA ?_ ?_))) ?_ ?_ ?_)
  ·show 0<=n;omega
  ·show n<=4096;omega
  ·show l.length<=8192;omega
  ·intro a ha;have k:=hi2 a ha;unfold zTo at k;exact zG0 (by show ¬ ((l.getD a (0,0,0)).1<0\/(l.getD a (0,0,0)).1>=n\/(l.getD a (0,0,0)).2.1<0\/(l.getD a (0,0,0)).2.1>=n\/(l.getD a (0,0,0)).2.2<0\/(l.getD a (0,0,0)).2.2>=n);omega)
  ·intro a ha;exact (hi2 a ha).2.2.2
  ·intro a b hb ha;exact hj2 a b hb ha
  ·intro u hu;have hu:(u:Int)<n:=hu;exact hv2 u (by omega)
def z42:List AV->Option Res:=zEz qP (fun s=>some (none,none,.s (.bool (isR s))))
theorem z4t:qM prog 15 z42:=mkR (zA1 fun s r h=>by cases h;exact fb (by exact ⟨zLs,zZk,trivial⟩) func15 fun _ _=>z3V s.1 s.2) func15
end S1
namespace S1
open S9
def zPO (a b:List P3):Spec Nat where
 inv x:=x<=a.length/\∀ i,i<x->a.getD i (0,0,0)=b.getD i (0,0,0)
 live x:=[(5,.s (.int .i64 x))]
 keep:=[2,3]
 heap _:=[]
 keepH:=[0,1]
 mu x:=a.length - x
theorem zTk {fn} (n m:Int) (a b:List P3) (hl:a.length<=100000):zAG ⟨tyL,fn,[]⟩ Tryz.f26 [qP.av (n,a),qP.av (m,b)] (fun v=>v= .s (.bool (eqS (n,a) (m,b)))):=by
 repeat' (conv=>whnf
          first|done|refine qy ?_|refine qG fun _=> ?_|refine qw (fun _=> ?_) (fun _=> ?_)|apply qt|refine qi (fun _=> ?_) (fun _=> ?_)|(refine zaB 4 rfl (zPO a b) (0) ?_ ?_ ?_ fun x hx=> ?_)|with_reducible refine zaA (zPO _ _) (x+1) ?_ ?_ ?_ ?_|refine qu ?_|refine qv ?_ ?_|exact zO)
 all_goals try first|refine qz ?_|apply qz5
 all_goals try simp only [qn0,z7,zX,ETy.dflt,Int.reduceToNat,Int.reduceAdd,Int.reduceSub,Int.reduceNeg,Nat.reduceAdd,zPO,eqS] at *
 all_goals try (refine qh ?_;omega)
 all_goals try exact qh ⟨zbH _,fun i hi=>by omega⟩
 all_goals try
  (symm;rw [yM];intro e;cases e;exact absurd rfl (by assumption))
 ·refine yJ.intro ⟨by omega,fun i hi=> ?_⟩
  by_cases e:i=x
  ·subst e;exact Prod.ext ‹_› (Prod.ext ‹_› ‹_›)
  ·exact hx.2 i (by omega)
 ·have e:a=b:=List.ext_getElem (by omega) fun i h1 h2=>by
   have:=hx.2 i (by omega);rwa [gdE,gdE,gE h1,gE h2] at this
  symm;rw [zP,e,show n=m by assumption]
def zIa:List AV->Option Res:=zCr qP qP (fun a b=>some (none,some (a.2.length<=100000),.s (.bool (eqS a b))))
theorem zOc:qM prog 26 zIa:=mkR (jD fun a b r h=>by cases h;exact fb (fn:=[]) trivial func26 fun _ h=>zTk a.1 b.1 a.2 b.2 h) func26
def zC9 (s:SoT) (l:EdB):Bool:=decide ((s.2.length:Int)>30)|| (decide (s.1>100)|| decide ((l.length:Int)>12))
theorem zS8 {fn} (n:Int) (a:List P3) (l:EdB):zAG ⟨tyL,fn,[]⟩ Tryz.f14 [qP.av (n,a),(ETy.sl .arr2).av l] (fun v=>v= .s (.bool (zC9 (n,a) l))):=by
 repeat' (conv=>whnf
          first|done|refine qy ?_|refine qG fun _=> ?_|refine qw (fun _=> ?_) (fun _=> ?_)|apply qt|refine qi (fun _=> ?_) (fun _=> ?_)|refine qu ?_|refine qv ?_ ?_|exact zO)
 all_goals try first|refine qz ?_|apply qz5
 all_goals try simp only [qn0,z7,zX,ETy.dflt,Int.reduceToNat,Int.reduceAdd,Int.reduceSub,Int.reduceNeg,Nat.reduceAdd,zC9] at *
 ·rw [decide_eq_true (by assumption)];rfl
 ·rw [decide_eq_false (by assumption),decide_eq_true (by assumption)];rfl
 ·rw [decide_eq_false (p:=(a.length:Int)>30) (by assumption),decide_eq_false (p:=n>100) (by assumption)];rfl
def zLm:List AV->Option Res:=zCr qP (.sl .arr2) (fun s l=>some (none,none,.s (.bool (zC9 s l))))
theorem zSf:qM prog 14 zLm:=mkR (jD fun s l r h=>by cases h;exact fb (fn:=[]) trivial func14 fun _ _=>zS8 s.1 s.2 l) func14
def j9:SoT:=(8,[(0,1,2),(2,1,3),(2,3,4),(4,3,5),(4,5,6),(6,5,7)])
theorem zZO {fn} :zAG ⟨tyL,fn,[]⟩ Tryz.f50 [] (fun v=>v=qP.av j9):=by
 repeat' (conv=>whnf
          first|done|refine qy ?_|refine qG fun _=> ?_|refine qw (fun _=> ?_) (fun _=> ?_)|apply qt|refine qi (fun _=> ?_) (fun _=> ?_)|refine qu ?_|refine qv ?_ ?_|exact zO)
 all_goals try first|refine qz ?_|apply qz5
 all_goals try simp only [qn0,z7,zX,ETy.dflt,Int.reduceToNat,Int.reduceAdd,Int.reduceSub,Int.reduceNeg,Nat.reduceAdd] at *
 exact y9.intro rfl
def z6e:List AV->Option Res
 | []=>some (none,none,qP.av j9)
 | _=>none
theorem zZy:qM prog 50 z6e:=⟨fun args r h=>by
 cases args with
 | nil=>cases h;exact fb (fn:=[]) trivial func50 fun _ _=>zZO
 | cons a l=>(cases h),_,func50,by kernel_rfl,by kernel_rfl⟩
theorem z1V (n:Int) (l:List P3) (x:yI.T) (hx:zHP (n,l)=some x) (hl:l.length<=40) (h9:zPa (n,l)=true):zAG ⟨tyL,[(53,zVn),(54,zKs x)],[]⟩ f16 [qP.av (n,l)] (fun v=>v=(ETy.pt yI).av (some x)):=by
 repeat' (conv=>whnf
          first|done|refine qy ?_|refine qG fun _=> ?_|refine qw (fun _=> ?_) (fun _=> ?_)|apply qt|refine qi (fun _=> ?_) (fun _=> ?_)|refine qu ?_|refine qv ?_ ?_|exact zO)
 all_goals try first|refine qz ?_|apply qz5
 all_goals try simp only [qn0,z7,zX,ETy.dflt,Int.reduceToNat,Int.reduceAdd,Int.reduceSub,Int.reduceNeg,Nat.reduceAdd] at *
 all_goals first
  | (exfalso;omega)
  | exact qh hx
  | exact absurd (show (S9.allR (n,l)).length=0 by have:=h9;unfold zPa at this;simpa using this) (by assumption)
  | exact y9.intro rfl
def z7U:List AV->Option Res:=zEz qP (fun s=>some (none,some (zBK s/\s.2.length<=40),(ETy.pt yI).av (some (zAa s))))
theorem z1t:qM prog 16 z7U:=mkR (zA1 fun s r h=>by
 cases h;cases e:zHP s with
 | none=>exact fun I vals w hag hv=>⟨trivial,fun hq=>absurd (zAu (show zBK s from hq.1)).1 (by rw [e];simp)⟩
 | some x =>
   rw [<- (zHj e).1]
   exact fb (fn:=[(53,zVn),(54,zKs x)]) ⟨z13,(zMB x),trivial⟩ func16 fun _ h=>z1V s.1 s.2 x e h.2 ((zTb s).2 h.1)) func16
end S1
namespace S1
open S9
theorem zV8 {s:SoT} (hs:zBK s):Full (zAa s)/\jV (InN (zAa s).1.1) (zAa s).1.2:=by
 obtain ⟨_,g,e⟩:=zAu hs;exact ⟨g,zAc (s:=(zAa s).1) (by rw [e];exact hs)⟩
def z9r (x:yI.T) (a b:Int) (l:List Int):Int :=
 if !zAQ x a b then 1 else if (zDf x a b).length=2/\zAY x a=false/\zAY x b=false then 2
 else if zTH (zDf x a b) l=false then 3 else if zB2 x a then 4 else 0
theorem zTu (x:yI.T) (a b:Int):zDV x a b=z9r x a b (zGc x a b):=rfl
theorem zUc {x:yI.T} {a b:Int} {l0 l:List Int} (hne:a≠b) (hl:((zCz x a).filter fun v=>zDv v (zCz x b))=l0) (hp:l0.Perm l) (hs:l.Pairwise (·<=·)):zGc x a b=l:=by
 unfold zGc;rw [if_neg hne,hl];exact zMy ((zG9 _).trans hp) (zHB _) hs
def awL:EdB:=[(0,1),(7,6)]
def awM:EdB:=[(0,1),(3,2)]
theorem zEO:zBK j9:=(zD9 _).1 (by rw [z4T];decide +kernel)
theorem zYm:zDV (zAa j9) 0 1=0:=by
 rw [zTu,zUc (l0:=[2]) (l:=[2]) (by decide) (by decide +kernel) (.refl _) (by decide)];decide +kernel
theorem zVl:zDV (zAa j9) 7 6=0:=by
 rw [zTu,zUc (l0:=[5]) (l:=[5]) (by decide) (by decide +kernel) (.refl _) (by decide)];decide +kernel
theorem zXv:zFG j9 awL:=by
 obtain ⟨_,g,e⟩:=zAu zEO;have hm:jV (InN (zAa j9).1.1) (zAa j9).1.2:=zAc (s:=(zAa j9).1) (by rw [e];exact zEO);refine ⟨zEO,fun d hd=> ?_,?_⟩
 ·rw [<- e];rcases zT.1 hd with h|h
  ·rw [h];exact (zKH g hm).1 zYm
  ·rw [zF.1 h];exact (zKH g hm).1 zVl
 ·refine List.pairwise_cons.2 ⟨fun d hd=> ?_,List.pairwise_singleton _ _⟩;rw [zF.1 hd];exact zPn.1 (by decide +kernel)
theorem z1o:zMj (some (zAa j9)) awL=true:=(zGf zEO).2 zXv
theorem z7T:zMj (some (zAa j9)) awM=false:=by
 rw [<- zbV];intro h;have:=(List.pairwise_cons.1 ((zGf zEO).1 h).apart).1 (3,2) (zF.2 rfl) (2,1,3) (by decide) (.inr (by decide)) (.inl (by decide));exact this
theorem z8p:apB (zAa j9) (0,1) (7,6)=true:=by
 obtain ⟨_,g,e⟩:=zAu zEO;unfold apB;rw [show zAQ (zAa j9) (0,1).1 (0,1).2=true from (zQW zYm).1,show zAQ (zAa j9) (7,6).1 (7,6).2=true from (zQW zVl).1];exact (zW3 g).2 (by rw [e];exact zPn.1 (by decide +kernel))
theorem z9u:zMh j9 awL=0:=by
 unfold zMh;rw [if_pos ((zB4 _).2 zEO),if_pos z1o]
theorem z8q:z7x j9 awL 2:=zFF zXv 2 (zI _)
theorem z8G:(doK j9 awL 2).1.2.length=4:=by
 have h0:=zFF zXv 0 (zbH _);have s0:=zFT h0 (show 0<awL.length by decide);have s1:=zFT s0.2.2.2 (show 1<awL.length by decide);have e1:(doK j9 awL 1).1=zZv j9 0 1:=s0.2.1;have n7:zAV (doK j9 awL 1).2 7=6:=(s0.2.2.1 7 (show (0:Int)<=7 by decide)).1;have n6:zAV (doK j9 awL 1).2 6=5:=(s0.2.2.1 6 (show (0:Int)<=6 by decide)).1;have e2:(doK j9 awL 2).1=zZv (doK j9 awL 1).1 (zAV (doK j9 awL 1).2 7) (zAV (doK j9 awL 1).2 6):=s1.2.1
 rw [e2,e1,n7,n6];decide +kernel
theorem z9p {r:SoT×List zAJ×Int} (e:doB j9 awL=r):r.2.2=0/\r.2.1.length=2/\r.1.1=6/\r.1.2.length=4/\ChB j9 r.1 r.2.1:=by
 rw [zSZ z9u] at e;subst e;have h:=z8q;exact ⟨rfl,h.len,by show (doK j9 awL 2).1.1=6;rw [h.num];rfl,z8G,h.ch⟩
end S1
namespace S1
def zPE (S:SoT):List AV->Option Res
 | []=>some (none,some (S=j9),qP.av S)
 | _=>none
theorem zVQ (S:SoT):qM prog 50 (zPE S):=⟨fun args r h=>by
 cases args with
 | nil =>
   cases h;intro I vals w hag hv;refine ⟨trivial,fun hq=> ?_⟩;have hq:S=j9:=hq;subst hq;exact (zZy.1 [] _ rfl I vals w hag hv).2 trivial
 | cons a l=>(cases h),_,func50,by kernel_rfl,by kernel_rfl⟩
attribute [local irreducible] doB zBe eqS zMj apB zAa
theorem zSv (S:SoT) (hS:S=j9):zAG ⟨tyL,[(50,zPE S),(16,z7U),(24,z6P),(25,zY6 S),(17,zPe),(19,z7L),(26,zIa)],[]⟩ f13 [] (fun r=>r= .s (.bool true)):=by
 have m2:List.take 2 (List.drop 0 (((List.replicate 2 ((0:Int),(0:Int))).set 0 (0,1)).set 1 (7,6)))=awL:=rfl;have m3:(((List.replicate 2 ((0:Int),(0:Int))).set 0 (0,1)).set 1 (3,2))=awM:=rfl;have hs:zBK S:=by rw [hS];exact zEO
 have hl:List.length S.2=6:=by rw [hS];rfl
 obtain ⟨f1,f2,f3,f4,f5⟩:=z9p (r:=doB S awL) (by rw [hS]);have f5:ChB S (doB S awL).1 (doB S awL).2.1:=by have:=f5;rw [<- hS] at this;exact this
 have his1:zMj (some (zAa S)) awL=true:=by rw [hS];exact z1o
 have his2:zMj (some (zAa S)) awM=false:=by rw [hS];exact z7T
 have hap:apB (zAa S) (0,1) (7,6)=true:=by rw [hS];exact z8p
 have hg:=zV8 hs
 repeat' (conv=>whnf
          first|done|refine qy ?_|refine qG fun _=> ?_|refine qw (fun _=> ?_) (fun _=> ?_)|apply qt|refine qi (fun _=> ?_) (fun _=> ?_)|refine qu ?_|refine qv ?_ ?_|exact zO)
 all_goals try first|refine qz ?_|apply qz5
 all_goals try simp only [qn0,z7,zX,ETy.dflt,Int.reduceToNat,Int.reduceAdd,Int.reduceSub,Int.reduceNeg,Nat.reduceAdd] at *
 all_goals try simp only [m2,m3] at *
 all_goals first
  | exact qh ⟨hs,by rw [hl];decide⟩
  | exact qh ⟨hs,by decide⟩
  | exact qh ⟨f5,by rw [f2];decide,show List.length (doB S awL).1.2<=8192 by rw [f4];decide⟩
  | exact qh ⟨by decide,by decide⟩
  | exact qh (fun y h=>by cases h;exact hg.1.toGood)
  | exact qh ⟨fun y h=>by cases h;exact hg,by decide⟩
  | exact qh (show List.length S.2<=100000 by rw [hl];decide)
  | exact zHy _
  | (have h:zMj (some (zAa S)) awM=true:=by assumption
     rw [his2] at h;cases h)
  | (have h:zMj (some (zAa S)) awL=false:=by assumption
     rw [his1] at h;cases h)
  | (have h:apB (zAa S) (0,1) (7,6)=false:=by assumption
     rw [hap] at h;cases h)
  | exact absurd f1 (by assumption)
  | exact absurd f3 (by assumption)
  | exact absurd (show ((doB S awL).2.1.length:Int)=2 by rw [f2];rfl) (by assumption)
  | exact absurd (show ((List.length (doB S awL).1.2:Nat):Int)=4 by rw [f4];rfl) (by assumption)
def zLd:List AV->Option Res
 | []=>some (none,none,.s (.bool true))
 | _=>none
theorem zTA:qM prog 13 zLd:=⟨fun args r h=>by
 cases args with
 | nil =>
   cases h;obtain ⟨S,hS⟩: ∃ S,S=j9:=⟨_,rfl⟩;exact fb (fn:=[(50,zPE S),(16,z7U),(24,z6P),(25,zY6 S),(17,zPe),(19,z7L),(26,zIa)]) ⟨(zVQ S),z1t,z2N,(z1b S),zWl,z2S,zOc,trivial⟩ func13 fun _ _=>zSv S hS
 | cons a l=>(cases h),_,func13,by kernel_rfl,by kernel_rfl⟩
end S1
namespace S1
theorem zcG {s:SoT} {l:EdB} (h:zC9 s l=false):s.2.length<=30/\s.1<=100/\l.length<=12:=by
 unfold zC9 at h;rw [Bool.or_eq_false_iff,Bool.or_eq_false_iff,yM,yM,yM] at h;omega
def zcy (n:Int) (l:List P3) (m:Int) (r:List P3):SoT:=(n+m,l++r.map (shT n))
theorem zcn (n:Int) (l:List P3) (m:Int) (r:List P3):(jnN [(n,l),(m,r)] 2,jnT [(n,l),(m,r)] 2)=zcy n l m r:=by
 refine Prod.ext ?_ ?_
 ·show 0+n+m=n+m;omega
 ·show ([]++l.map (shT 0))++r.map (shT (0+n))=l++r.map (shT n);rw [zbq,Int.zero_add]
  congr 1
  refine (zbN fun t _=> ?_).trans (List.map_id l);show (t.1+0,t.2.1+0,t.2.2+0)=t;rw [Int.add_zero,Int.add_zero,Int.add_zero]
theorem zdV {n:Int} {l:List P3} {m:Int} {r:List P3} (h:zBK (n,l)) (k:zBK (m,r)) (hn:n+m<=4096) (hl:l.length+r.length<=8192):zcJ [(n,l),(m,r)]:=by
 have e:=zcn n l m r;have e1:=congrArg Prod.fst e;have e2:=congrArg Prod.snd e;refine ⟨zI _,fun i hi=> ?_,?_,?_⟩
 ·have hi:i<2:=hi;have:i=0\/i=1:=by omega
  rcases this with q|q<;>subst q
  ·exact h
  ·exact k
 ·show jnN [(n,l),(m,r)] 2<=4096;rw [show jnN [(n,l),(m,r)] 2=n+m from e1];exact hn
 ·show (jnT [(n,l),(m,r)] 2).length<=8192;rw [show jnT [(n,l),(m,r)] 2=l++r.map (shT n) from e2,zN,yV];exact hl
section
variable {x:yI.T}
theorem zcL (g:Full x) {e f:Int×Int} :apB x e f=true↔zAQ x e.1 e.2=true/\zAQ x f.1 f.2=true/\zAS x.1.2 e.1 e.2 f.1 f.2:=by
 unfold apB;rw [zC,zC,zW3 g]
theorem zcT (g:Full x) {a b:Int} (h:zAQ x a b=true):a≠b/\∃ t∈x.1.2,z8 t a/\z8 t b:=by
 have ne:a≠b:=fun e=>by subst e;rw [zCN g.toGood] at h;cases h
 exact ⟨ne,(zBj g ne).1 h⟩
theorem zdT (g:Full x) (e:Int×Int):apB x e e=false:=by
 rw [<- zbV];intro h;obtain ⟨h1,_,h3⟩:=(zcL g).1 h;obtain ⟨_,t,ht,a,b⟩:=zcT g h1;exact h3 t ht (.inl a) (.inl a)
theorem zdR (g:Full x) (e f:Int×Int):apB x e f=apB x f e:=by
 rw [Bool.eq_iff_iff,zcL g,zcL g];exact ⟨fun ⟨a,b,c⟩=>⟨b,a,fun t ht p q=>c t ht q p⟩,fun ⟨a,b,c⟩=>⟨b,a,fun t ht p q=>c t ht q p⟩⟩
theorem zdJ (g:Full x) {e f:Int×Int} (h:apB x e f=true):e.1≠f.1/\e.1≠f.2/\e.2≠f.1/\e.2≠f.2:=by
 obtain ⟨_,h2,h3⟩:=(zcL g).1 h;obtain ⟨_,t,ht,a,b⟩:=zcT g h2;exact ⟨fun q=>h3 t ht (.inl (by rw [q];exact a)) (.inl a),fun q=>h3 t ht (.inl (by rw [q];exact b)) (.inl a),fun q=>h3 t ht (.inr (by rw [q];exact a)) (.inl a),fun q=>h3 t ht (.inr (by rw [q];exact b)) (.inl a)⟩
end
theorem zdE (u:P3) {j:Nat} (hj:j<3):z8 u (cv u j):=by
 have:j=0\/j=1\/j=2:=by omega
 rcases this with q|q|q<;>subst q
 ·exact .inl rfl
 ·exact .inr (.inl rfl)
 ·exact .inr (.inr rfl)
theorem zd1 {m:Int} {r:List P3} (hu:zBK (m,r)) {f:Int×Int} (hf:f∈edS r r.length):(0<=f.1/\f.1<m)/\(0<=f.2/\f.2<m):=by
 obtain ⟨u,hu2,j,hj3,ef⟩:=zcO (zI _) hf;have h1:0<=cv u j/\cv u j<m:=(zAc hu).ent u hu2 _ (zdE u hj3);have h2:0<=cv u ((j+1) % 3)/\cv u ((j+1) % 3)<m:=(zAc hu).ent u hu2 _ (zdE u (Nat.mod_lt _ (by decide)));rw [ef];unfold srt;split
 ·exact ⟨h2,h1⟩
 ·exact ⟨h1,h2⟩
theorem zd0 {n:Int} {l:List P3} {m:Int} {r:List P3} (hs:zBK (n,l)) (hu:zBK (m,r)) (hj:zBK (zcy n l m r)) {e f:Int×Int} (he:zdI l e=true) (hf:f∈edS r r.length):apB (zAa (zcy n l m r)) e (f.1+n,f.2+n)=true:=by
 obtain ⟨_,g,ee⟩:=zAu hj;have h2:(zAa (zcy n l m r)).1.2=l++r.map (shT n):=by rw [ee];rfl
 unfold zdI at he;rw [zC,zP] at he;obtain ⟨ne,hn⟩:=he;unfold zcV at hn;rw [zbA,zP,zP] at hn
 have ht: ∃ t∈l,z8 t e.1/\z8 t e.2:=by
  rcases hn with k|k
  ·obtain ⟨t,ht,hd⟩:=zdC.1 k;exact ⟨t,ht,jN hd⟩
  ·obtain ⟨t,ht,hd⟩:=zdC.1 k;exact ⟨t,ht,(jN hd).2,(jN hd).1⟩
 obtain ⟨t,ht,t1,t2⟩:=ht;obtain ⟨u,hu2,j,hj3,ef⟩:=zcO (zI _) hf;have hdg: ¬ dgn u:=(zAc hu).deg u hu2
 have cvh: ∀ j,j<3->z8 u (cv u j):=fun j hj=>by
  have:j=0\/j=1\/j=2:=by omega
  rcases this with q|q|q<;>subst q
  ·exact .inl rfl
  ·exact .inr (.inl rfl)
  ·exact .inr (.inr rfl)
 have cvn:cv u j≠cv u ((j+1) % 3):=by
  have:j=0\/j=1\/j=2:=by omega
  rcases this with q|q|q<;>subst q
  ·exact fun k=>hdg (.inl k)
  ·exact fun k=>hdg (.inr (.inl k))
  ·exact fun k=>hdg (.inr (.inr k))
 have fh:z8 u f.1/\z8 u f.2/\f.1≠f.2:=by
  rw [ef];unfold srt;split
  ·exact ⟨cvh _ (Nat.mod_lt _ (by decide)),cvh j hj3,cvn.symm⟩
  ·exact ⟨cvh j hj3,cvh _ (Nat.mod_lt _ (by decide)),cvn⟩
 obtain ⟨f1,f2,fne⟩:=fh;have ent: ∀ {t:P3} {v:Int},t∈l->z8 t v->0<=v/\v<n:=fun ht hv=>(zAc hs).ent _ ht _ hv;have entu: ∀ {t:P3} {v:Int},t∈r->z8 t v->0<=v/\v<m:=fun ht hv=>(zAc hu).ent _ ht _ hv;refine (zcL g).2 ⟨(zBj g ne).2 ?_,(zBj g (show f.1+n≠f.2+n by omega)).2 ?_,?_⟩
 ·rw [h2];exact ⟨t,zb9 _ ht,t1,t2⟩
 ·rw [h2];exact ⟨shT n u,zbg _ (yC.2 ⟨u,hu2,rfl⟩),zcK.2 f1,zcK.2 f2⟩
 ·rw [h2];intro s hs2 k1 k2;have e1:=ent ht t1;have e2:=ent ht t2;have g1:=entu hu2 f1;have g2:=entu hu2 f2;rcases yD.1 hs2 with q|q
  ·rcases k2 with k|k
   ·have:=ent q k;omega
   ·have:=ent q k;omega
  ·obtain ⟨v,hv,rfl⟩:=yC.1 q;rcases k1 with k|k
   ·have k:z8 (shT n v) e.1:=k;have:=entu hv (zcK.1 (show z8 (shT n v) ((e.1 - n)+n) by rw [Int.sub_add_cancel];exact k));omega
   ·have k:z8 (shT n v) e.2:=k;have:=entu hv (zcK.1 (show z8 (shT n v) ((e.2 - n)+n) by rw [Int.sub_add_cancel];exact k));omega
def zcN (l:EdB):Spec Nat where
 inv i:=i<=l.length
 live i:=[(13,.s (.int .i64 i))]
 keep:=[2,3,4,11,12]
 heap _:=[]
 keepH:=[0]
 mu i:=l.length - i
def zcQ (l:EdB) (i:Nat):Spec Nat where
 inv k:=k<=i
 live k:=[(14,.s (.int .i64 k))]
 keep:=[2,3,4,11,12,13]
 heap _:=[]
 keepH:=[0]
 mu k:=i - k
attribute [local irreducible] zAa isR zC9 apB edS zdI jnN jnT
theorem lawBA_vc (n:Int) (l:List P3) (m:Int) (r:List P3) (es:EdB) (b:Int):zAG ⟨tyL,[(13,zLd),(14,zLm),(15,z42),(28,zck),(16,z7U),(29,zcP),(17,zPe),(30,zcR)],[]⟩ Tryz.f6 [qP.av (n,l),qP.av (m,r),(ETy.sl .arr2).av es,(ETy.int .u8).av b] (fun r=>r= .s (.bool true)):=by
 repeat' (conv=>whnf
          first|done|refine qy ?_|refine qG fun _=> ?_|refine qw (fun _=> ?_) (fun _=> ?_)|apply qt|refine qi (fun _=> ?_) (fun _=> ?_)|(refine zaB 11 rfl (zcN es) (0) ?_ ?_ ?_ fun i hi=> ?_)|with_reducible refine zaA (zcN _) (i+1) ?_ ?_ ?_ ?_|(refine zaB 16 rfl (zcQ es i) (0) ?_ ?_ ?_ fun k hk=> ?_)|with_reducible refine zaA (zcQ _ _) (k+1) ?_ ?_ ?_ ?_|refine qu ?_|refine qv ?_ ?_|exact zO)
 all_goals try first|refine qz ?_|apply qz5
 all_goals try simp only [qn0,z7,zX,ETy.dflt,Int.reduceToNat,Int.reduceAdd,Int.reduceSub,Int.reduceNeg,Nat.reduceAdd,zcN,zcQ] at *
 all_goals have hgs:=zcG (show zC9 (n,l) es=false by assumption)
 all_goals have hgu:=zcG (show zC9 (m,r) es=false by assumption)
 all_goals have hl30:l.length<=30:=hgs.1
 all_goals have hr30:r.length<=30:=hgu.1
 all_goals have hn100: @LE.le Int _ n 100:=hgs.2.1
 all_goals have hm100: @LE.le Int _ m 100:=hgu.2.1
 all_goals have hes:List.length es<=12:=hgs.2.2
 all_goals have hs:zBK (n,l):=(zB4 (n,l)).1 (by assumption)
 all_goals have hu:zBK (m,r):=(zB4 (m,r)).1 (by assumption)
 all_goals have h40:l.length+r.length<=40:=by omega
 all_goals have hjo:=zdV hs hu (by omega) (by omega)
 all_goals have hj:zBK (zcy n l m r):=zcZ hs hu (by omega) (by omega)
 all_goals have hT:=(zV8 hj).1
 all_goals have hW:List.take 2 (List.drop 0 (((List.replicate 2 ((0,[]):SoT)).set 0 (n,l)).set 1 (m,r)))=[(n,l),(m,r)]:=rfl
 all_goals have hJ:(jnN [(n,l),(m,r)] (List.length [(n,l),(m,r)]),jnT [(n,l),(m,r)] (List.length [(n,l),(m,r)]))=zcy n l m r:=zcn n l m r
 all_goals have hT2:jnT [(n,l),(m,r)] (List.length [(n,l),(m,r)])=l++r.map (shT n):=congrArg Prod.snd (zcn n l m r)
 all_goals try first
  | exact qh hjo
  | exact qh hu
  | (refine yJ.intro ⟨?_,?_⟩
     ·rw [hW,hJ];exact hj
     ·rw [hW,hT2,zN,yV];omega)
  | (refine qh ?_;omega)
  | (refine yJ.intro fun y h=> ?_
     rw [hW,hJ] at h;cases h;exact hT.toGood)
 all_goals simp only [hW,hJ] at *
 all_goals try
  have h:apB (zAa (zcy n l m r)) (List.getD es i (0,0)) (List.getD es i (0,0))=true:=by assumption
  rw [zdT hT] at h;cases h
 all_goals try exact absurd (zdR hT _ _) (by assumption)
 all_goals try
  have h:apB (zAa (zcy n l m r)) (List.getD es i (0,0)) (List.getD es k (0,0))=true:=by assumption
  obtain ⟨q1,q2,q3,q4⟩:=zdJ hT h
  first
  | exact absurd (by assumption) q1
  | exact absurd (by assumption) q2
  | exact absurd (by assumption) q3
  | exact absurd (by assumption) q4
 all_goals have hb:0<=b/\b<=255:=by assumption
 all_goals have hlen:(0:Int)<(edS r r.length).length:=by omega
 all_goals have t1:=Int.tmod_nonneg ((edS r r.length).length:Int) hb.1
 all_goals have t2:=Int.tmod_lt_of_pos b hlen
 all_goals try exact qh ⟨t1,t2⟩
 all_goals have hm:(edS r r.length).getD (b.tmod (edS r r.length).length).toNat (0,0)∈edS r r.length:=by
            rw [gdE,gE (by omega)];exact yQ _
 all_goals try
  have h:=zd0 hs hu hj (show zdI l (List.getD es i (0,0))=true by assumption) hm;have h2:apB (zAa (zcy n l m r)) (List.getD es i (0,0)) (((edS r r.length).getD (b.tmod (edS r r.length).length).toNat (0,0)).1+n,((edS r r.length).getD (b.tmod (edS r r.length).length).toNat (0,0)).2+n)=false:=by assumption
  rw [h] at h2;cases h2
 all_goals obtain ⟨⟨r1,r2⟩,r3,r4⟩:=zd1 hu hm
 all_goals have hn0: @LE.le Int _ 0 n:=hs.fit.1
 all_goals (refine qh ?_;unfold yP;omega)
def lawBAC:List AV->Option Res:=z8j qP qP (.sl .arr2) (.int .u8) (fun _ _ _ _=>some (none,none,.s (.bool true)))
theorem lawBARow:qM prog 6 lawBAC:=mkR (z5r fun s u es b r h=>by
 cases h;obtain ⟨n,l⟩:=s;obtain ⟨m,r⟩:=u
 exact fb (fn:=[(13,zLd),(14,zLm),(15,z42),(28,zck),(16,z7U),(29,zcP),(17,zPe),(30,zcR)]) ⟨zTA,zSf,z4t,zcw,z1t,zcr,zWl,zc5,trivial⟩ func6 fun _ _=>lawBA_vc n l m r es b) func6
end S1
