/- A part of the proofs of the laws. -/
import Derived.Test.YtlhoihabllompaaGreatH3toR2
import Derived.Test.YtlhoihabllompaaGreatT22toF5a
import Derived.Test.YtlhoihabllompaaGreatW4toY3
import Derived.Test.YtlhoihabllompaaGreatT5toT11
set_option linter.unusedSimpArgs false
set_option linter.unusedVariables false
set_option maxHeartbeats 8000000
set_option maxRecDepth 100000
open Go Go.Vm Go.Proofs
namespace S9
open S1
theorem zZ1 {l:List P3} {f:P3->Bool} {b z:Bool} {x:Nat} (hi:x<=l.length/\(b|| l.any f)=(z|| (l.drop x).any f)) (h:(x:Int)<l.length):x+1<=l.length/\(b|| l.any f)=(z|| f (l.getD x (0,0,0))|| (l.drop (x+1)).any f) :=
 ⟨by omega,by rw [hi.2,zBU (0,0,0) h,List.any_cons,Bool.or_assoc]⟩
theorem z59 {l:List P3} {f:P3->Bool} {b z:Bool} {x:Nat} (hi:x<=l.length/\(b|| l.any f)=(z|| (l.drop x).any f)) (h: ¬ (x:Int)<l.length):(b|| l.any f)=z:=by
 rw [hi.2,zE9 h];simp
@[irreducible] def zMi (t:P3):Bool:=t.1==t.2.1|| (t.2.1==t.2.2|| t.2.2==t.1)
def dgG (l:List P3) (i:Nat):Option Wit:=if zMi (l.getD i (0,0,0)) then some (2,(i:Int),0) else none
def dgL (l:List P3) (i:Nat):List Wit:=(List.range i).filterMap (dgG l)
def loG (l:List P3) (v:Nat):Option Wit:=if l.any (zFd · v) then none else some (5,(v:Int),0)
def loL (l:List P3) (v:Nat):List Wit:=(List.range v).filterMap (loG l)
def piG (l:List P3) (v:Nat):Option Wit:=if zFI l v then some (6,(v:Int),0) else none
def piL (l:List P3) (v:Nat):List Wit:=(List.range v).filterMap (piG l)
def allR (s:Int×List P3):List Wit :=
 if 0<(jF s).length then jF s else if 0<(dgL s.2 s.2.length).length then dgL s.2 s.2.length else if 0<(prO s.2 3 s.2.length).length then prO s.2 3 s.2.length else
 if 0<(prO s.2 4 s.2.length).length then prO s.2 4 s.2.length else if 0<(loL s.2 s.1.toNat).length then loL s.2 s.1.toNat else piL s.2 s.1.toNat
theorem q9 {α:Type _} (f:Nat->Option α) (i:Nat):(List.range (i+1)).filterMap f=(List.range i).filterMap f++(f i).toList:=by
 rw [List.range_succ,List.filterMap_append];simp only [List.filterMap_cons,List.filterMap_nil];cases f i<;>rfl
theorem zC7 {α:Type _} (f:Nat->Option α) (i:Nat):((List.range i).filterMap f).length<=i:=Nat.le_trans (List.length_filterMap_le _ _) (by simp)
theorem zF3 {s:Int×List P3} (h: ¬ ((jF s).length:Int)>0):zHN s=false/\jF s=[]:=by
 have h:(jF s).length=0:=by omega
 refine ⟨?_,List.eq_nil_of_length_eq_zero h⟩;cases hb:zHN s with
 | false=>rfl
 | true=>unfold jF at h;rw [hb] at h;simp at h
theorem zL7 {n:Int} {l:List P3} (h:zHN (n,l)=false):0<=n/\n<=4096/\l.length<=8192:=by
 simp only [zHN,Bool.or_eq_false_iff,yM] at h;omega
theorem zWp {t:P3} (h:t.1=t.2.1\/t.2.1=t.2.2\/t.2.2=t.1):zMi t=true:=by
 unfold zMi;simp only [Bool.or_eq_true,beq_iff_eq];exact h
theorem zZ3 {t:P3} (h1:t.1≠t.2.1) (h2:t.2.1≠t.2.2) (h3:t.2.2≠t.1):zMi t=false:=by
 unfold zMi;rw [beq_false_of_ne h1,beq_false_of_ne h2,beq_false_of_ne h3];rfl
theorem z9a {l:List P3} {i:Nat} (h:zMi (l.getD i (0,0,0))=true):dgL l (i+1)=dgL l i++[(2,(i:Int),0)]:=by
 unfold dgL;rw [q9,dgG,if_pos h];rfl
theorem z98 {l:List P3} {i:Nat} (h:zMi (l.getD i (0,0,0))=false):dgL l (i+1)=dgL l i:=by
 unfold dgL;rw [q9,dgG,if_neg (by rw [h];decide)];simp
theorem z9N {l:List P3} {v:Nat} (h:(l.any (zFd · v))=true):loL l (v+1)=loL l v:=by
 unfold loL;rw [q9,loG,if_pos h];simp
theorem z95 {l:List P3} {v:Nat} (h:(l.any (zFd · v))=false):loL l (v+1)=loL l v++[(5,(v:Int),0)]:=by
 unfold loL;rw [q9,loG,if_neg (by rw [h];decide)];rfl
theorem z8t {l:List P3} {v:Nat} (h:zFI l v=true):piL l (v+1)=piL l v++[(6,(v:Int),0)]:=by
 unfold piL;rw [q9,piG,if_pos h];rfl
theorem z8a {l:List P3} {v:Nat} (h:zFI l v=false):piL l (v+1)=piL l v:=by
 unfold piL;rw [q9,piG,if_neg (by rw [h];decide)];simp
section
variable {n:Int} {l:List P3}
theorem z97 (h:((jF (n,l)).length:Int)>0):allR (n,l)=jF (n,l):=by
 unfold allR;rw [if_pos (by omega)]
theorem z9I (h1: ¬ ((jF (n,l)).length:Int)>0) {i:Nat} (hi:i=l.length) (h2:((dgL l i).length:Int)>0):allR (n,l)=dgL l i:=by
 subst hi;unfold allR;rw [if_neg (by omega),if_pos (by dsimp only;omega)]
theorem z8Z (h1: ¬ ((jF (n,l)).length:Int)>0) {i:Nat} (hi:i=l.length) (h2: ¬ ((dgL l i).length:Int)>0) (h3:((prO l 3 l.length).length:Int)>0):allR (n,l)=prO l 3 l.length:=by
 subst hi;unfold allR;rw [if_neg (by omega),if_neg (by dsimp only;omega),if_pos (by dsimp only;omega)]
theorem z9E (h1: ¬ ((jF (n,l)).length:Int)>0) {i:Nat} (hi:i=l.length) (h2: ¬ ((dgL l i).length:Int)>0) (h3: ¬ ((prO l 3 l.length).length:Int)>0) (h4:((prO l 4 l.length).length:Int)>0):allR (n,l)=prO l 4 l.length:=by
 subst hi;unfold allR;rw [if_neg (by omega),if_neg (by dsimp only;omega),if_neg (by dsimp only;omega),if_pos (by dsimp only;omega)]
theorem z88 (h1: ¬ ((jF (n,l)).length:Int)>0) {i:Nat} (hi:i=l.length) (h2: ¬ ((dgL l i).length:Int)>0) (h3: ¬ ((prO l 3 l.length).length:Int)>0) (h4: ¬ ((prO l 4 l.length).length:Int)>0) {v:Nat} (hv:v=n.toNat) (h5:((loL l v).length:Int)>0):allR (n,l)=loL l v:=by
 subst hi;subst hv;unfold allR;rw [if_neg (by omega),if_neg (by dsimp only;omega),if_neg (by dsimp only;omega),if_neg (by dsimp only;omega),if_pos (by dsimp only;omega)]
theorem z93 (h1: ¬ ((jF (n,l)).length:Int)>0) {i:Nat} (hi:i=l.length) (h2: ¬ ((dgL l i).length:Int)>0) (h3: ¬ ((prO l 3 l.length).length:Int)>0) (h4: ¬ ((prO l 4 l.length).length:Int)>0) {v:Nat} (hv:v=n.toNat) (h5: ¬ ((loL l v).length:Int)>0) {y:Nat} (hy:y=n.toNat):allR (n,l)=piL l y:=by
 subst hi;subst hv;subst hy;unfold allR;rw [if_neg (by omega),if_neg (by dsimp only;omega),if_neg (by dsimp only;omega),if_neg (by dsimp only;omega),if_neg (by dsimp only;omega)]
end
def zTg (l:List P3):Spec Nat where
 inv i:=i<=l.length
 live i:=[(4,.s (.int .i64 i)),(3,.s (.own 2 0 (dgL l i).length))]
 keep:=[1]
 heap i:=[(2,.row zB0 165 (dgL l i))]
 keepH:=[0]
 mu i:=l.length - i
def zTv (n:Int) (l:List P3):Spec Nat where
 inv v:=(v:Int)<=n
 live v:=[(6,.s (.int .i64 v)),(3,.s (.own 4 0 (loL l v).length))]
 keep:=[1]
 heap v:=[(4,.row zB0 165 (loL l v))]
 keepH:=[0]
 mu v:=n.toNat - v
def zUz (l:List P3) (v:Nat):Spec (Nat×Bool) where
 inv x:=x.1<=l.length/\(false|| l.any (zFd · v))=(x.2|| (l.drop x.1).any (zFd · v))
 live x:=[(8,.s (.int .i64 x.1)),(7,.s (.bool x.2))]
 keep:=[1,3,6]
 heap _:=[]
 keepH:=[0,4]
 mu x:=l.length - x.1
def zUu (n:Int) (l:List P3):Spec Nat where
 inv v:=(v:Int)<=n
 live v:=[(9,.s (.int .i64 v)),(3,.s (.own 4 0 (piL l v).length))]
 keep:=[1]
 heap v:=[(4,.row zB0 165 (piL l v))]
 keepH:=[0]
 mu v:=n.toNat - v
theorem z5R (n:Int) (l:List P3):zFB ⟨tyL,[(133,zQI),(134,zPi)],[(131,.res zQD),(132,.res zP3)]⟩ Tryz.f92 [qP.av (n,l)] (fun v obs=>v= .s (.own 0 0 (allR (n,l)).length)/\obs=[.row zB0 165 (allR (n,l))]):=by
 repeat' (conv=>whnf
          first|done|refine qN ?_|apply qH|refine qG fun _=> ?_|apply qB|apply qa|apply qo|refine qe (fun _=> ?_) (fun _=> ?_)|refine qn (fun _=> ?_) (fun _=> ?_)|refine qd (fun _=> ?_) (fun _=> ?_)|apply qt|refine qi (fun _=> ?_) (fun _=> ?_)|(refine zaB 5 rfl (zTg l) (0) ?_ ?_ ?_ fun i hi=> ?_)|with_reducible refine zaA (zTg _) (i+1) ?_ ?_ ?_ ?_|(refine zaB 19 rfl (zTv n l) (0) ?_ ?_ ?_ fun v hv=> ?_)|with_reducible refine zaA (zTv _ _) (v+1) ?_ ?_ ?_ ?_|(refine zaB 23 rfl (zUz l v) ((0,false)) ?_ ?_ ?_ fun x hx=> ?_)|with_reducible refine zaA (zUz _ _) ((x.1+1,x.2|| zFd (l.getD x.1 (0,0,0)) v)) ?_ ?_ ?_ ?_|(refine zaB 31 rfl (zUu n l) (0) ?_ ?_ ?_ fun y hy=> ?_)|with_reducible refine zaA (zUu _ _) (y+1) ?_ ?_ ?_ ?_|refine zA rfl ?_|apply qE|apply qO|exact zO|apply qq|apply qs|refine qK (by kernel_rfl) ?_|apply qr)
 all_goals try first|refine qz ?_|apply qz5
 all_goals try simp only [z6,zS,yE,zZ,qn1,z7,qn2,zX,ETy.dflt,qn3,qn4,Int.reduceToNat,Int.reduceAdd,Int.reduceSub,Int.reduceNeg,Nat.reduceAdd,zD,zTg,zTv,zUz,zUu] at *
 all_goals try (refine qh ?_;omega)
 all_goals try
  (have hb:=zL7 (zF3 (s:=(n,l)) (by assumption)).1
   refine qh ?_;first|omega|(simp only [yP];omega))
 all_goals try
  (have hb:=zL7 (zF3 (s:=(n,l)) (by assumption)).1
   have h1:=zC7 (dgG l) i
   refine qh ?_;simp only [dgL,loL,piL];first|omega|(have h2:=zC7 (loG l) v;first|omega|(have h3:=zC7 (piG l) y;omega)))
 all_goals try first
  | rw [z97 (by assumption)]
  | rw [z9I (i:=i) (by assumption) (by omega) (by assumption)]
  | rw [z8Z (i:=i) (by assumption) (by omega) (by assumption) (by assumption)]
  | rw [z9E (i:=i) (by assumption) (by omega) (by assumption) (by assumption) (by assumption)]
  | rw [z88 (i:=i) (v:=v) (by assumption) (by omega) (by assumption) (by assumption) (by assumption) (by omega) (by assumption)]
  | rw [z93 (i:=i) (v:=v) (y:=y) (by assumption) (by omega) (by assumption) (by assumption) (by assumption) (by omega) (by assumption) (by omega)]
 all_goals try
  (have hd:zMi (l.getD i (0,0,0))=true:=zWp (by omega)
   rw [z9a hd];(try simp only [zN,List.length_singleton]);done)
 all_goals try
  (have hd:zMi (l.getD i (0,0,0))=false:=zZ3 (by omega) (by omega) (by omega)
   rw [z98 hd];done)
 all_goals try (rw [(zF3 (s:=(n,l)) (by assumption)).2];rfl)
 all_goals try (rw [List.eq_nil_of_length_eq_zero (l:=prO l 4 l.length) (by omega)];rfl)
 all_goals try (rw [List.eq_nil_of_length_eq_zero (l:=loL l v) (by omega)];rfl)
 all_goals try first
  | exact qh ⟨Nat.zero_le _,rfl⟩
  | exact qh (zZ1 hx (by assumption))
  | (simp only [*];done)
  | (simp only [*];simp;done)
 all_goals try (rw [z8a (by assumption)];done)
 all_goals try (rw [z8t (by assumption)];(try simp only [zN,List.length_singleton]);done)
 all_goals
  have hu:=z59 hx (by assumption);rw [Bool.false_or] at hu
 all_goals first
  | (rw [z9N (hu.trans (by assumption))];done)
  | (rw [z95 (hu.trans (by assumption))];(try simp only [zN,List.length_singleton]);done)
def z4J:List AV->Option zKQ:=zEz qP (fun s=>some (none,none,.s (.own 0 0 (allR s).length),[.row zB0 165 (allR s)]))
theorem z3s:zDM Tryz.prog 92 z4J:=⟨zCC fun s r h=>by cases h;exact zDk (yN (fn:=[(133,zQI),(134,zPi)]) (fr:=[(131,.res zQD),(132,.res zP3)]) ⟨zPc,zYT,trivial⟩ ⟨zVF,zXe,trivial⟩) Tryz.func92 (by kernel_rfl) fun _ _=>z5R s.1 s.2,_,Tryz.func92,by kernel_rfl,by kernel_rfl⟩
def zPa (s:Int×List P3):Bool:=(allR s).length==0
theorem z0k (s:Int×List P3):zAG ⟨tyL,[],[(92,.res z4J)]⟩ Tryz.f53 [qP.av s] (fun v=>v= .s (.bool (zPa s))):=by
 repeat' (conv=>whnf
          first|done|refine qN ?_|apply qH|refine qG fun _=> ?_|apply qB|apply qa|apply qo|refine qe (fun _=> ?_) (fun _=> ?_)|refine qn (fun _=> ?_) (fun _=> ?_)|refine qd (fun _=> ?_) (fun _=> ?_)|apply qt|refine qi (fun _=> ?_) (fun _=> ?_)|refine zA rfl ?_|apply qE|apply qO|exact zO|apply qq|apply qs|refine qK (by kernel_rfl) ?_|apply qr)
 all_goals try first|refine qz ?_|apply qz5
 all_goals try simp only [z6,zS,yE,zZ,qn1,z7,qn2,zX,ETy.dflt,qn3,qn4,Int.reduceToNat,Int.reduceAdd,Int.reduceSub,Int.reduceNeg,Nat.reduceAdd,zD,zPa] at *
 rw [Bool.eq_iff_iff,beq_iff_eq,beq_iff_eq];omega
def zVn:List AV->Option Res:=zEz qP (fun s=>some (none,none,.s (.bool (zPa s))))
theorem z13:qM Tryz.prog 53 zVn:=⟨zA1 fun s r h=>by cases h;exact qL (yN (fn:=[]) (fr:=[(92,.res z4J)]) trivial ⟨z3s,trivial⟩) Tryz.func53 (by kernel_rfl) fun _ _=>z0k s,_,Tryz.func53,by kernel_rfl,by kernel_rfl⟩
end S9
open Go Go.Vm Go.Proofs
namespace S9
open S1
theorem zCd {t:P3} {v:Int} :zFd t v=true↔z8 t v:=by
 unfold zFd z8;simp only [Bool.or_eq_true,beq_iff_eq]
theorem zYP {t:P3} {a b:Int} :zOj t a b=true↔dE t a b:=by
 unfold zOj dE;simp only [Bool.or_eq_true,zC,beq_iff_eq]
theorem zKF {t u:P3} :zJb t u=true↔∃ a b,dE t a b/\dE u a b:=by
 unfold zJb;simp only [Bool.or_eq_true,zYP];constructor
 ·rintro (h|h|h)
  ·exact ⟨_,_,.inl ⟨rfl,rfl⟩,h⟩
  ·exact ⟨_,_,.inr (.inl ⟨rfl,rfl⟩),h⟩
  ·exact ⟨_,_,.inr (.inr ⟨rfl,rfl⟩),h⟩
 ·rintro ⟨a,b,(⟨rfl,rfl⟩|⟨rfl,rfl⟩|⟨rfl,rfl⟩),h⟩
  ·exact .inl h
  ·exact .inr (.inl h)
  ·exact .inr (.inr h)
theorem zLH {n:Int} : ∀ {l:List P3} {i:Nat},zHq n i l=[]↔∀ t∈l,zCm n t=true
 | [],_=>⟨fun _ t h=>(by cases h),fun _=>rfl⟩
 | t ::r,i=>by
   unfold zHq;split
   ·rename_i h;rw [zLH]
    exact ⟨fun k u hu=>by
     rcases zT.1 hu with e|hu
     ·rw [e];exact h
     ·exact k u hu,fun k u hu=>k u (zQ _ hu)⟩
   ·rename_i h;exact ⟨fun k=>(by cases k),fun k=>absurd (k t (zY ..)) h⟩
theorem zSC {l:List P3} {p:P3->Prop} :(∀ t∈l,p t)↔∀ i,i<l.length->p (tg l i):=by
 constructor
 ·intro h i hi;unfold tg;rw [gdE,gE hi];exact h _ (yQ hi)
 ·intro h t ht;obtain ⟨i,hi,e⟩:=yG.1 ht;have:=h i hi;unfold tg at this;rw [gdE,gE hi] at this;rw [<- e];exact this
theorem z1c {s:Int×List P3} :jF s=[]↔zMc s:=by
 obtain ⟨n,l⟩:=s;unfold jF;constructor
 ·intro h;cases hb:zHN (n,l) with
  | true=>rw [hb] at h;cases h
  | false =>
    rw [hb] at h;have h:zHq n 0 l=[]:=h;have:=zL7 hb;exact ⟨this.1,this.2.1,this.2.2,zSC.1 (zLH.1 h)⟩
 ·intro h;have h1:0<=n:=h.1;have h2:n<=4096:=h.2.1;have h3:l.length<=8192:=h.2.2.1
  have hb:zHN (n,l)=false:=by
   unfold zHN;simp only [Bool.or_eq_false_iff,yM];omega
  rw [hb];exact zLH.2 (zSC.2 h.2.2.2)
theorem z4x {l:List P3} :dgL l l.length=[]↔∀ i,i<l.length->¬ dgn (tg l i):=by
 unfold dgL;rw [List.filterMap_eq_nil_iff];constructor
 ·intro h i hi e;have:=h i (zV.2 hi);unfold dgG at this;rw [if_pos (zWp e)] at this;cases this
 ·intro h i hi;have h:=h i (zV.1 hi);unfold dgn at h;unfold dgG;rw [if_neg ?_];rw [zZ3 (fun e=>h (.inl e)) (fun e=>h (.inr (.inl e))) (fun e=>h (.inr (.inr e)))];simp
theorem zXV {l:List P3} {k:Int} :prO l k l.length=[]↔∀ i j,i<j->j<l.length->ptR k (tg l i) (tg l j)=false:=by
 unfold prO prI;rw [List.flatMap_eq_nil_iff];constructor
 ·intro h i j hij hj;have:=List.filterMap_eq_nil_iff.1 (h j (zV.2 hj)) i (zV.2 hij);unfold prG at this;split at this
  ·cases this
  ·rename_i e;rw [<- Bool.not_eq_true];exact e
 ·intro h j hj;refine List.filterMap_eq_nil_iff.2 fun i hi=> ?_;unfold prG;rw [if_neg (by rw [h i j (zV.1 hi) (zV.1 hj)];simp)]
theorem pt3 {t u:P3} :ptR 3 t u=zJb t u:=by unfold ptR;simp
theorem pt4 {t u:P3} :ptR 4 t u=(zFd u t.1&&(zFd u t.2.1&&zFd u t.2.2)):=by unfold ptR;simp
theorem z4g {l:List P3} {n:Nat} :loL l n=[]↔∀ v:Nat,v<n->∃ j,j<l.length/\z8 (tg l j) v:=by
 unfold loL;rw [List.filterMap_eq_nil_iff]
 have key: ∀ v:Nat,l.any (zFd · v)=true↔∃ j,j<l.length/\z8 (tg l j) v:=fun v=>by
  rw [List.any_eq_true];constructor
  ·rintro ⟨t,ht,hv⟩;obtain ⟨i,hi,e⟩:=yG.1 ht;refine ⟨i,hi,?_⟩;unfold tg;rw [gdE,gE hi];exact zCd.1 (by rw [<- e] at hv;exact hv)
  ·rintro ⟨j,hj,h⟩;unfold tg at h;rw [gdE,gE hj] at h;exact ⟨_,yQ hj,zCd.2 h⟩
 constructor
 ·intro h v hv;have:=h v (zV.2 hv);unfold loG at this;split at this
  ·rename_i e;exact (key v).1 e
  ·cases this
 ·intro h v hv;unfold loG;rw [if_pos ((key v).2 (h v (zV.1 hv)))]
theorem zJW {m:List P3} {v:Int} {i k:Nat} :touch m v i k=true↔∃ w,w≠v/\z8 (tg m i) w/\z8 (tg m k) w:=by
 unfold touch tch;simp only [Bool.or_eq_true,zC,zP,zCd];constructor
 ·rintro (⟨h1,h2⟩|⟨h1,h2⟩|⟨h1,h2⟩)
  ·exact ⟨_,h1,.inl rfl,h2⟩
  ·exact ⟨_,h1,.inr (.inl rfl),h2⟩
  ·exact ⟨_,h1,.inr (.inr rfl),h2⟩
 ·rintro ⟨w,h1,(h2|h2|h2),h3⟩
  ·subst h2;exact .inl ⟨h1,h3⟩
  ·subst h2;exact .inr (.inl ⟨h1,h3⟩)
  ·subst h2;exact .inr (.inr ⟨h1,h3⟩)
section
variable {m:List P3} {v:Int}
theorem zEo {s:List Bool} {k j:Nat} :(s.set k true).getD j false=if k=j/\j<s.length then true else s.getD j false:=by
 rw [gdE,List.getElem?_set,gdE]
 by_cases e:k=j
 ·subst e
  by_cases h:k<s.length
  ·simp [h]
  ·simp [h]
 ·simp [e]
theorem z6R {i k:Nat} {s:List Bool} :(pk m v i s k).length=s.length:=by
 unfold pk;split
 ·rfl
 ·split
  ·rw [List.length_set]
  ·rfl
theorem zPF {i k j:Nat} {s:List Bool} (h:s.getD j false=true):(pk m v i s k).getD j false=true:=by
 unfold pk;split
 ·exact h
 ·split
  ·rw [zEo];split
   ·rfl
   ·exact h
  ·exact h
theorem zGL {i:Nat} {s:List Bool} : ∀ k,(zH5 m v i s k).length=s.length
 | 0=>rfl
 | k+1=>by rw [zAq,z6R,zGL k]
theorem zGY {s:List Bool} : ∀ i,(zGm m v s i).length=s.length
 | 0=>rfl
 | i+1=>by rw [zCM,zGL,zGY i]
theorem zIu: ∀ r,(zF9 m v r).length=m.length
 | 0=>by show ((List.replicate m.length false).set 0 true).length=_;simp
 | r+1=>by rw [zBb,zGY,zIu r]
theorem zEq {i j:Nat} {s:List Bool} (h:s.getD j false=true): ∀ k,(zH5 m v i s k).getD j false=true
 | 0=>h
 | k+1=>by rw [zAq];exact zPF (zEq h k)
theorem zEg {j:Nat} {s:List Bool} (h:s.getD j false=true): ∀ i,(zGm m v s i).getD j false=true
 | 0=>h
 | i+1=>by rw [zCM];exact zEq (zEg h i) _
theorem zOa {i k:Nat} {s:List Bool} (hi:s.getD i false=true) (ht:touch m v i k=true) (hk:k<s.length): ∀ n,k<n->(zH5 m v i s n).getD k false=true
 | n + 1,h=>by
   rw [zAq]
   by_cases e:k=n
   ·subst e;have h1:=zEq (m:=m) (v:=v) (i:=i) hi k;cases h2:(zH5 m v i s k).getD k false with
    | true=>exact zPF h2
    | false =>
      unfold pk;rw [if_neg (zM2 h1 h2),if_pos ht,zEo,if_pos ⟨rfl,by rw [zGL];exact hk⟩]
   ·exact zPF (zOa hi ht hk n (by omega))
theorem zNi {i k:Nat} {s:List Bool} (hi:s.getD i false=true) (ht:touch m v i k=true) (hk:k<s.length) (hm:k<m.length): ∀ n,i<n->(zGm m v s n).getD k false=true
 | n +1,h=>by
   rw [zCM]
   by_cases e:i=n
   ·subst e;exact zOa (zEg hi i) ht (by rw [zGY];exact hk) _ hm
   ·exact zEq (zNi hi ht hk hm n (by omega)) _
def Clo (m:List P3) (v:Int) (s:List Bool):Prop:= ∀ i k,i<m.length->k<m.length->s.getD i false=true->touch m v i k=true->s.getD k false=true
def z16 (m:List P3) (s:List Bool):Nat:=((List.range m.length).filter fun j=> !s.getD j false).length
theorem z6q {i k:Nat} {s:List Bool} (h:Clo m v s) (hi:i<m.length) (hk:k<m.length):pk m v i s k=s:=by
 unfold pk;split
 ·rfl
 ·rename_i hn;split
  ·rename_i ht;have h1:s.getD i false=true:=by cases e:s.getD i false with|true=>rfl|false=>exact absurd (.inl e) hn
   exact absurd (.inr (h i k hi hk h1 ht)) hn
  ·rfl
theorem zN0 {i:Nat} {s:List Bool} (h:Clo m v s) (hi:i<m.length): ∀ k,k<=m.length->zH5 m v i s k=s
 | 0,_=>rfl
 | k+1,hk=>by rw [zAq,zN0 h hi k (by omega),z6q h hi (by omega)]
theorem zIT {s:List Bool} (h:Clo m v s): ∀ i,i<=m.length->zGm m v s i=s
 | 0,_=>rfl
 | i+1,hi=>by rw [zCM,zIT h i (by omega),zN0 h (by omega) _ (zI _)]
theorem zYV {s:List Bool} (hl:s.length=m.length):Clo m v s\/z16 m (zGm m v s m.length)+1<=z16 m s:=by
 by_cases h:Clo m v s
 ·exact .inl h
 ·right;unfold Clo at h
  have: ∃ i k,i<m.length/\k<m.length/\s.getD i false=true/\touch m v i k=true/\s.getD k false=false:=by
   refine yF fun hn=>h fun i k hi hk h1 h2=> ?_;cases e:s.getD k false with
   | true=>rfl
   | false=>exact absurd ⟨i,k,hi,hk,h1,h2,e⟩ hn
  obtain ⟨i,k,hi,hk,h1,h2,h3⟩:=this;unfold z16;refine zKx (a:=k) (fun j hj=> ?_) (by rw [h3];rfl) (by rw [zNi h1 h2 (by rw [hl];exact hk) hk _ hi];simp) (zV.2 hk);cases e:s.getD j false with
  | false=>rfl
  | true=>rw [zEg e] at hj;exact absurd hj (by simp)
theorem zK8 (hm:0<m.length): ∀ r,Clo m v (zF9 m v r)\/z16 m (zF9 m v r)+r+1<=m.length
 | 0=>by
   right;have h0:((List.replicate m.length false).set 0 true).getD 0 false=true:=by rw [zEo,if_pos ⟨rfl,by simpa using hm⟩]
   have:=zKx (p:=fun _:Nat=>true) (q:=fun j=> !((List.replicate m.length false).set 0 true).getD j false) (fun _ _=>rfl) (a:=0) rfl (by rw [h0];simp) (l:=List.range m.length) (zV.2 hm);have e:((List.range m.length).filter fun _:Nat=>true).length=m.length:=by rw [List.filter_eq_self.2 (fun _ _=>rfl),zAD]
   show ((List.range m.length).filter fun j=> !((List.replicate m.length false).set 0 true).getD j false).length+0+1<=_;rw [e] at this;omega
 | r +1=>by
   rcases zK8 hm r with h|h
   ·left;rw [zBb,zIT h _ (zI _)];exact h
   ·rcases zYV (m:=m) (v:=v) (zIu (m:=m) (v:=v) r) with h'|h'
    ·left;rw [zBb,zIT h' _ (zI _)];exact h'
    ·right;rw [zBb];omega
theorem zUi (hm:0<m.length):Clo m v (zF9 m v m.length):=by
 rcases zK8 (v:=v) hm m.length with h|h
 ·exact h
 ·omega
theorem zKd (hm:0<m.length): ∀ r,(zF9 m v r).getD 0 false=true
 | 0=>by
   show ((List.replicate m.length false).set 0 true).getD 0 false=true;rw [zEo,if_pos ⟨rfl,by simpa using hm⟩]
 | r+1=>by rw [zBb];exact zEg (zKd hm r) _
theorem z9U {Q:Nat->Prop} (hc: ∀ i k,k<m.length->Q i->touch m v i k=true->Q k) {i k:Nat} {s:List Bool} (hl:s.length=m.length) (h: ∀ j,s.getD j false=true->Q j): ∀ j,(pk m v i s k).getD j false=true->Q j:=by
 unfold pk;split
 ·exact h
 ·rename_i hn;split
  ·rename_i ht;intro j hj;rw [zEo] at hj;split at hj
   ·rename_i e;obtain ⟨rfl,e2⟩:=e;refine hc i _ (by rw [<- hl];exact e2) (h i ?_) ht;cases e:s.getD i false with|true=>rfl|false=>exact absurd (.inl e) hn
   ·exact h j hj
  ·exact h
theorem zRS {Q:Nat->Prop} (hc: ∀ i k,k<m.length->Q i->touch m v i k=true->Q k) {i:Nat} {s:List Bool} (hl:s.length=m.length) (h: ∀ j,s.getD j false=true->Q j): ∀ k j,(zH5 m v i s k).getD j false=true->Q j
 | 0=>h
 | k+1=>by rw [zAq];exact z9U hc (by rw [zGL];exact hl) (zRS hc hl h k)
theorem zRI {Q:Nat->Prop} (hc: ∀ i k,k<m.length->Q i->touch m v i k=true->Q k) {s:List Bool} (hl:s.length=m.length) (h: ∀ j,s.getD j false=true->Q j): ∀ i j,(zGm m v s i).getD j false=true->Q j
 | 0=>h
 | i+1=>by rw [zCM];exact zRS hc (by rw [zGY];exact hl) (zRI hc hl h i) _
theorem zSV {Q:Nat->Prop} (hc: ∀ i k,k<m.length->Q i->touch m v i k=true->Q k) (h:Q 0): ∀ r j,(zF9 m v r).getD j false=true->Q j
 | 0 =>fun j hj=>by
   have hj:((List.replicate m.length false).set 0 true).getD j false=true:=hj;rw [zEo] at hj;split at hj
   ·rename_i e;rw [<- e.1];exact h
   ·rw [gdE,List.getElem?_replicate] at hj;split at hj<;>cases hj
 | r+1=>by rw [zBb];exact zRI hc (zIu r) (zSV hc h r) _
end
theorem zDS {l:List P3} {v:Int} {t:P3} :t∈zAX l v↔∃ i,i<l.length/\tg l i=t/\z8 t v:=by
 unfold zAX;rw [List.mem_filter,zCd];constructor
 ·rintro ⟨ht,hv⟩;obtain ⟨i,hi,e⟩:=yG.1 ht;exact ⟨i,hi,by unfold tg;rw [gdE,gE hi];exact e,hv⟩
 ·rintro ⟨i,hi,e,hv⟩;unfold tg at e;rw [gdE,gE hi] at e;have e:l[i]=t:=e;exact ⟨by rw [<- e];exact yQ hi,hv⟩
theorem qI {m:List P3} {j:Nat} (h:j<m.length):tg m j∈m:=by
 unfold tg;rw [gdE,gE h];exact yQ h
theorem zAO {m:List P3} {t:P3} (h:t∈m): ∃ j,j<m.length/\tg m j=t:=by
 obtain ⟨i,hi,e⟩:=yG.1 h;exact ⟨i,hi,by unfold tg;rw [gdE,gE hi];exact e⟩
theorem other {t:P3} {v:Int} (hd: ¬ dgn t): ∃ w,w≠v/\z8 t w:=by
 unfold dgn at hd
 by_cases h:t.1=v
 ·exact ⟨t.2.1,by omega,.inr (.inl rfl)⟩
 ·exact ⟨t.1,h,.inl rfl⟩
theorem zNF {l:List P3} {v:Int} (hd: ∀ i,i<l.length->¬ dgn (tg l i)):zFI l v=false↔z6C l v:=by
 unfold zFI;rw [Bool.not_eq_false',zJ];constructor
 ·intro h Q hQ a ha hva hQa i hi hvi;have hpos:0<(zAX l v).length:=List.length_pos_of_mem (zDS.2 ⟨a,ha,rfl,hva⟩)
  have key: ∀ R:Nat->Prop,(∀ i j:Nat,i<l.length->j<l.length->z8 (tg l i) v->z8 (tg l j) v->(∃ w:Int,w≠v/\z8 (tg l i) w/\z8 (tg l j) w)->R i->R j)->
   (∃ z,z<l.length/\tg l z=tg (zAX l v) 0/\z8 (tg l z) v/\R z)->∀ i,i<l.length->z8 (tg l i) v->R i:=fun R hR ⟨z,hz,ez,hzv,hRz⟩ i hi hvi=>by
   have hin:=zSV (m:=zAX l v) (v:=v) (Q:=fun j=>j<(zAX l v).length/\∀ i,i<l.length->tg l i=tg (zAX l v) j->z8 (tg l i) v->R i) (fun j k hk hj ht=>⟨hk,fun i hi ei hvi=>by
    obtain ⟨w,hw,h1,h2⟩:=zJW.1 ht;obtain ⟨i',hi',ei',hvi'⟩:=zDS.1 (qI hj.1)
    exact hR i' i hi' hi (by rw [ei'];exact hvi') hvi ⟨w,hw,by rw [ei'];exact h1,by rw [ei];exact h2⟩ (hj.2 i' hi' ei' (by rw [ei'];exact hvi'))⟩)
    ⟨hpos,fun i hi ei hvi=>by
      obtain ⟨w,hw,h1⟩:=other (v:=v) (hd z hz)
      exact hR z i hz hi hzv hvi ⟨w,hw,h1,by rw [ei,<- ez];exact h1⟩ hRz⟩ (zAX l v).length
   obtain ⟨j,hj,ej⟩:=zAO (zDS.2 ⟨i,hi,rfl,hvi⟩);exact (hin j (h j (zV.2 hj))).2 i hi ej.symm hvi
  obtain ⟨z,hz,ez,hzv⟩:=zDS.1 (qI hpos)
  by_cases hq:Q z
  ·exact key Q hQ ⟨z,hz,ez,by rw [ez];exact hzv,hq⟩ i hi hvi
  ·exact absurd hQa (key (fun i=> ¬ Q i) (fun i j hi hj h1 h2 ⟨w,h3,h4,h5⟩ hn hq=>hn (hQ j i hj hi h2 h1 ⟨w,h3,h5,h4⟩ hq)) ⟨z,hz,ez,by rw [ez];exact hzv,hq⟩ a ha hva)
 ·intro h j hj;have hj:=zV.1 hj;have hpos:0<(zAX l v).length:=by omega
  have hc:=zUi (m:=zAX l v) (v:=v) hpos;have hz:=zKd (m:=zAX l v) (v:=v) hpos (zAX l v).length;obtain ⟨z,hz1,hz2,hz3⟩:=zDS.1 (qI hpos);obtain ⟨i,hi1,hi2,hi3⟩:=zDS.1 (qI hj)
  have:=h (fun i=> ∃ j,j<(zAX l v).length/\tg (zAX l v) j=tg l i/\(zF9 (zAX l v) v (zAX l v).length).getD j false=true) (fun a b ha hb hva hvb ⟨w,hw,h1,h2⟩ ⟨j,hj,e,hs⟩=>by
   obtain ⟨k,hk,ek⟩:=zAO (zDS.2 ⟨b,hb,rfl,hvb⟩)
   exact ⟨k,hk,ek,hc j k hj hk hs (zJW.2 ⟨w,hw,by rw [e];exact h1,by rw [ek];exact h2⟩)⟩) z hz1 (by rw [hz2];exact hz3) ⟨0,hpos,hz2.symm,hz⟩ i hi1 (by rw [hi2];exact hi3)
  obtain ⟨k,hk,ek,hs⟩:=this;obtain ⟨w,hw,h1⟩:=other (v:=v) (hd i hi1);exact hc k j hk hj hs (zJW.2 ⟨w,hw,by rw [ek];exact h1,by rw [<- hi2];exact h1⟩)
theorem zWG {l:List P3} {n:Nat} (hd: ∀ i,i<l.length->¬ dgn (tg l i)):piL l n=[]↔∀ v:Nat,v<n->z6C l v:=by
 unfold piL;rw [List.filterMap_eq_nil_iff];constructor
 ·intro h v hv;have:=h v (zV.2 hv);unfold piG at this;split at this
  ·cases this
  ·rename_i e;exact (zNF hd).1 (by rw [<- Bool.not_eq_true];exact e)
 ·intro h v hv;unfold piG;rw [if_neg (by rw [(zNF hd).2 (h v (zV.1 hv))];simp)]
theorem zZh (s:Int×List P3):allR s=[]↔(jF s=[]/\dgL s.2 s.2.length=[]/\prO s.2 3 s.2.length=[]/\prO s.2 4 s.2.length=[]/\loL s.2 s.1.toNat=[]/\piL s.2 s.1.toNat=[]):=by
 unfold allR;constructor
 ·intro h
  repeat' split at h
  all_goals first
   | (rename_i hh;rw [h] at hh;exact absurd hh (by decide))
   | skip
  rename_i h1 h2 h3 h4 h5;exact ⟨List.length_eq_zero_iff.1 (by omega),List.length_eq_zero_iff.1 (by omega),List.length_eq_zero_iff.1 (by omega),List.length_eq_zero_iff.1 (by omega),List.length_eq_zero_iff.1 (by omega),h⟩
 ·rintro ⟨h1,h2,h3,h4,h5,h6⟩;simp [h1,h2,h3,h4,h5,h6]
theorem zTb (s:Int×List P3):zPa s=true↔zBK s:=by
 unfold zPa;rw [beq_iff_eq,List.length_eq_zero_iff,zZh,z1c,z4x,zXV,zXV,z4g];constructor
 ·rintro ⟨hf,hd,h3,h4,hu,hp⟩;have h0:0<=s.1:=hf.1;refine ⟨hf,hd,fun i j hij hj a b h1 h2=> ?_,fun i j hij hj h=> ?_,fun v hv=>hu v (by omega),fun v hv=>(zWG hd).1 hp v (by omega)⟩
  ·have:=h3 i j hij hj;rw [pt3] at this;rw [zKF.2 ⟨a,b,h1,h2⟩] at this;cases this
  ·have:=h4 i j hij hj;rw [pt4,zCd.2 h.1,zCd.2 h.2.1,zCd.2 h.2.2] at this;cases this
 ·intro h;have h0:0<=s.1:=h.fit.1;refine ⟨h.fit,h.deg,fun i j hij hj=> ?_,fun i j hij hj=> ?_,fun v hv=>h.use v (by omega),(zWG h.deg).2 fun v hv=>h.pin v (by omega)⟩
  ·rw [pt3,<- Bool.not_eq_true];intro e;obtain ⟨a,b,h1,h2⟩:=zKF.1 e;exact h.dif i j hij hj a b h1 h2
  ·rw [pt4,<- Bool.not_eq_true];intro e;simp only [zC,zCd] at e;exact h.mir i j hij hj e
end S9
open Go Go.Vm Go.Proofs
namespace S1
abbrev FsT:=List Bool×Int
theorem zE2 {S:Type} (m:S->Int) (f:S->Nat->S) (hf: ∀ s i,f s i=s\/m s<m (f s i)): ∀ n s,(qA f s n=s/\∀ i,i<n->f s i=s)\/m s<m (qA f s n)
 | 0,s=> .inl ⟨rfl,fun i hi=>by omega⟩
 | n +1,s=>by
   have e:qA f s (n+1)=f (qA f s n) n:=rfl;rcases zE2 m f hf n s with ⟨h1,h2⟩|h
   ·rw [e,h1];rcases hf s n with h|h
    ·exact .inl ⟨h,fun i hi=>by
      by_cases k:i=n
      ·subst k;exact h
      ·exact h2 i (by omega)⟩
    ·exact .inr h
   ·rw [e];rcases hf (qA f s n) n with k|k
    ·rw [k];exact .inr h
    ·exact .inr (by omega)
theorem zLB {S:Type} {f:S->Nat->S} {s:S} : ∀ n,(∀ i,i<n->f s i=s)->qA f s n=s
 | 0,_=>rfl
 | n+1,h=>by
   show f (qA f s n) n=s;rw [zLB n fun i hi=>h i (by omega)];exact h n (by omega)
def fsK (bs:Int->Int->Bool) (L:List Int) (i:Nat) (st:FsT) (k:Nat):FsT :=
 if st.1.getD (L.getD i 0).toNat false=true/\st.1.getD (L.getD k 0).toNat false=false/\bs (L.getD i 0) (L.getD k 0)=true then (st.1.set (L.getD k 0).toNat true,st.2+1) else st
def fsI (bs:Int->Int->Bool) (L:List Int) (st:FsT) (i:Nat):FsT:=qA (fsK bs L i) st L.length
def fsR (bs:Int->Int->Bool) (L:List Int) (st:FsT) (_:Nat):FsT:=qA (fsI bs L) st L.length
def fs0 (L:List Int) (n:Nat):FsT:=((List.replicate n false).set (L.getD 0 0).toNat true,1)
def fsS (bs:Int->Int->Bool) (L:List Int) (n r:Nat):FsT:=qA (fsR bs L) (fs0 L n) r
section
variable {bs:Int->Int->Bool} {L:List Int} {n:Nat}
theorem zRN (i:Nat) (st:FsT) (k:Nat):fsK bs L i st k=st\/st.2<(fsK bs L i st k).2:=by
 unfold fsK;split
 ·exact .inr (by show st.2<st.2+1;omega)
 ·exact .inl rfl
theorem zR5 (st:FsT) (i:Nat):fsI bs L st i=st\/st.2<(fsI bs L st i).2:=(zE2 (·.2) _ (zRN i) _ st).imp (·.1) id
theorem z0m (st:FsT) (r:Nat):fsR bs L st r=st\/st.2<(fsR bs L st r).2:=(zE2 (·.2) _ zR5 _ st).imp (·.1) id
def zXg (bs:Int->Int->Bool) (L:List Int) (st:FsT):Prop:= ∀ i k,i<L.length->k<L.length->fsK bs L i st k=st
theorem z5f {st:FsT} {r:Nat} (h:fsR bs L st r=st):zXg bs L st:=by
 have h1: ∀ i,i<L.length->fsI bs L st i=st:=by
  rcases zE2 (·.2) (fsI bs L) zR5 L.length st with ⟨_,k⟩|k
  ·exact k
  ·have e:qA (fsI bs L) st L.length=st:=h;rw [e] at k;omega
 intro i k hi hk;rcases zE2 (·.2) (fsK bs L i) (zRN i) L.length st with ⟨_,q⟩|q
 ·exact q k hk
 ·have e:qA (fsK bs L i) st L.length=st:=h1 i hi;rw [e] at q;omega
theorem zXg.fix {st:FsT} (h:zXg bs L st) (r:Nat):fsR bs L st r=st:=zLB _ fun i hi=>zLB _ fun k hk=>h i k hi hk
theorem zVT: ∀ r,zXg bs L (fsS bs L n r)\/1+(r:Int)<=(fsS bs L n r).2
 | 0=> .inr (by show 1+((0:Nat):Int)<=1;omega)
 | r +1=>by
   have e:fsS bs L n (r+1)=fsR bs L (fsS bs L n r) r:=rfl;rw [e];rcases zVT r with h|h
   ·rw [h.fix];exact .inl h
   ·rcases z0m (bs:=bs) (L:=L) (fsS bs L n r) r with k|k
    ·rw [k];exact .inl (z5f k)
    ·exact .inr (by omega)
structure zQF (L:List Int) (n:Nat) (R:Int->Prop) (st:FsT) (ks:List Int):Prop where
 nd:ks.Nodup
 len:(ks.length:Int)=st.2
 sub: ∀ x∈ks,x∈L/\R x
 size:st.1.length=n
 mem: ∀ x,0<=x->(st.1.getD x.toNat false=true↔x∈ks)
theorem zI0 (l:List Bool) (i j:Nat) (hi:i<l.length):(l.set i true).getD j false=if i=j then true else l.getD j false:=by
 rw [gdE,List.getElem?_set];split
 ·rename_i e;subst e;rfl
 ·rw [gdE]
variable {R:Int->Prop} (hL: ∀ x∈L,0<=x/\x<(n:Int))
include hL
theorem zVR (hR: ∀ x∈L,∀ y∈L,bs x y=true->R x->R y) {i k:Nat} (hi:i<L.length) (hk:k<L.length) {st:FsT} (h: ∃ ks,zQF L n R st ks): ∃ ks,zQF L n R (fsK bs L i st k) ks:=by
 obtain ⟨ks,h⟩:=h;unfold fsK;split
 case isFalse=>exact ⟨ks,h⟩
 rename_i hc;obtain ⟨c1,c2,c3⟩:=hc;have mi:=jB hi;have mk:=jB hk;have b:=hL _ mk;have nk:L.getD k 0∉ks:=fun e=>by rw [(h.mem _ b.1).2 e] at c2;cases c2
 refine ⟨L.getD k 0::ks,List.nodup_cons.2 ⟨nk,h.nd⟩,?_,fun x hx=> ?_,?_,fun x hx=> ?_⟩
 ·have:=h.len;show ((ks.length+1:Nat):Int)=st.2+1;omega
 ·rcases zT.1 hx with e|e
  ·subst e;exact ⟨mk,hR _ mi _ mk c3 (h.sub _ ((h.mem _ (hL _ mi).1).1 c1)).2⟩
  ·exact h.sub x e
 ·show (st.1.set _ true).length=n;rw [List.length_set];exact h.size
 ·show (st.1.set _ true).getD _ false=true↔_;rw [zI0 _ _ _ (by rw [h.size];omega),zT];split
  ·rename_i e;exact ⟨fun _=> .inl (by omega),fun _=>rfl⟩
  ·rename_i e;rw [h.mem x hx];exact ⟨.inr,fun k=>k.resolve_left (fun e'=>e (by rw [e']))⟩
theorem zLb (hR: ∀ x∈L,∀ y∈L,bs x y=true->R x->R y) (hne:0<L.length) (h0:R (L.getD 0 0)) (r:Nat): ∃ ks,zQF L n R (fsS bs L n r) ks:=by
 have m0:=jB hne;have b:=hL _ m0;refine qX (n:=r) (fun _ st=> ∃ ks,zQF L n R st ks) ?_ (fun _ st _ h=> ?_) r (zI _)
 ·refine ⟨[L.getD 0 0],List.nodup_cons.2 ⟨by simp,List.nodup_nil⟩,rfl,fun x hx=> ?_,?_,fun x hx=> ?_⟩
  ·rw [zF.1 hx];exact ⟨m0,h0⟩
  ·unfold fs0;simp
  ·unfold fs0;rw [zI0 _ _ _ (by rw [List.length_replicate];omega),zF];split
   ·rename_i e;exact ⟨fun _=>by omega,fun _=>rfl⟩
   ·rename_i e;rw [gdE,List.getElem?_replicate];split
    ·exact ⟨fun h=>(by cases h),fun h=>absurd (by rw [h]) e⟩
    ·exact ⟨fun h=>(by cases h),fun h=>absurd (by rw [h]) e⟩
 ·exact qX (n:=L.length) (fun _ st=> ∃ ks,zQF L n R st ks) h (fun i st hi h=>qX (n:=L.length) (fun _ st=> ∃ ks,zQF L n R st ks) h (fun k st hk h=>zVR hL hR hi hk h) _ (zI _)) _ (zI _)
theorem zZL (hn:L.Nodup) (hne:0<L.length):(fsS bs L n L.length).2=(L.length:Int)↔∀ Q:Int->Prop,(∀ x∈L,∀ y∈L,bs x y=true->Q x->Q y)->Q (L.getD 0 0)->∀ x∈L,Q x:=by
 constructor
 ·intro h Q hQ h0 x hx;obtain ⟨ks,k⟩:=zLb hL hQ hne h0 L.length;have hl:ks.length=L.length:=by have:=k.len;omega
  apply yF;intro hq;have nx:x∉ks:=fun e=>hq (k.sub x e).2
  have:=zBx (x::ks) L (List.nodup_cons.2 ⟨nx,k.nd⟩) fun y hy=>by
   rcases zT.1 hy with e|e
   ·rw [e];exact hx
   ·exact (k.sub y e).1
  simp only [yA] at this;omega
 ·intro h;obtain ⟨ks,k⟩:=zLb (R:=fun _=>True) hL (fun _ _ _ _ _ _=>trivial) hne trivial L.length (bs:=bs);have hle:=zBx ks L k.nd fun y hy=>(k.sub y hy).1;have hclo:zXg bs L (fsS bs L n L.length):=(zVT L.length).resolve_right (by have:=k.len;omega)
  have all := h (fun x=>(fsS bs L n L.length).1.getD x.toNat false=true) (fun x hx y hy b hq=>by
   obtain ⟨i,hi,ei⟩:=yG.1 hx;obtain ⟨j,hj,ej⟩:=yG.1 hy;have gi:L.getD i 0=x:=by rw [gdE,gE hi];exact ei
   have gj:L.getD j 0=y:=by rw [gdE,gE hj];exact ej
   have:=hclo i j hi hj;unfold fsK at this;rw [gi,gj] at this;split at this
   ·have e:=congrArg Prod.snd this;have e:(fsS bs L n L.length).2+1=(fsS bs L n L.length).2:=e;omega
   ·rename_i hc;apply yF;intro hy'
    exact hc ⟨hq,by simpa using hy',b⟩) (by
   obtain ⟨ks1,k1⟩:=zLb (R:=fun _=>True) hL (fun _ _ _ _ _ _=>trivial) hne trivial L.length (bs:=bs)
   have: ∀ r,(fsS bs L n r).1.getD (L.getD 0 0).toNat false=true:=fun r=>by
    have b:=hL _ (jB hne)
    have step: ∀ i k (st:FsT),st.1.getD (L.getD 0 0).toNat false=true->(fsK bs L i st k).1.getD (L.getD 0 0).toNat false=true:=fun i k st h=>by
     unfold fsK;split
     ·show (st.1.set _ true).getD _ false=true;rw [gdE,List.getElem?_set];split
      ·split
       ·rfl
       ·rename_i e1 e2;rw [<- e1] at h;rw [gdE,List.getElem?_eq_none (by omega)] at h;cases h
      ·rw [<- gdE];exact h
     ·exact h
    refine qX (n:=r) (fun _ (st:FsT)=>st.1.getD (L.getD 0 0).toNat false=true) ?_ (fun _ st _ h=> ?_) r (zI _)
    ·unfold fs0;rw [zI0 _ _ _ (by rw [List.length_replicate];omega),if_pos rfl]
    ·exact qX (n:=L.length) (fun _ (st:FsT)=>st.1.getD (L.getD 0 0).toNat false=true) h (fun i st hi h=>qX (n:=L.length) (fun _ (st:FsT)=>st.1.getD (L.getD 0 0).toNat false=true) h (fun k st hk h=>step i k st h) _ (zI _)) _ (zI _)
   exact this _)
  have:=zBx L ks hn fun x hx=>(k.mem x (hL x hx).1).1 (all x hx);have:=k.len;omega
end
def zOu (L:List Int) (n:Nat) (st:FsT):Prop:= ∃ ks,zQF L n (fun _=>True) st ks
section
variable {bs:Int->Int->Bool} {L:List Int} {n:Nat}
theorem zOu.le {st:FsT} (h:zOu L n st):0<=st.2/\st.2<=L.length/\st.1.length=n:=by
 obtain ⟨ks,h⟩:=h;have:=zBx ks L h.nd fun y hy=>(h.sub y hy).1;have:=h.len;exact ⟨by omega,by omega,h.size⟩
theorem zOu.k (hL: ∀ x∈L,0<=x/\x<(n:Int)) {st:FsT} (h:zOu L n st) {i:Nat} (hi:i<L.length): ∀ k,k<=L.length->zOu L n (qA (fsK bs L i) st k) :=
 qX (n:=L.length) (fun _ st=>zOu L n st) h (fun k st hk h=>zVR hL (fun _ _ _ _ _ _=>trivial) hi hk h)
theorem zOu.i (hL: ∀ x∈L,0<=x/\x<(n:Int)) {st:FsT} (h:zOu L n st): ∀ i,i<=L.length->zOu L n (qA (fsI bs L) st i) :=
 qX (n:=L.length) (fun _ st=>zOu L n st) h (fun i st hi h=>zOu.k hL h hi _ (zI _))
theorem zOu.r (hL: ∀ x∈L,0<=x/\x<(n:Int)) (hne:0<L.length) (r:Nat):zOu L n (fsS bs L n r):=zLb hL (fun _ _ _ _ _ _=>trivial) hne trivial r
end
def inG (l:List P3) (v:Int) (i:Nat):Option Int:=if z8 (tg l i) v then some (i:Int) else none
def inL (l:List P3) (v:Int) (i:Nat):List Int:=(List.range i).filterMap (inG l v)
theorem zL8 (l:List P3) (v:Int) (i:Nat):inL l v (i+1)=inL l v i++(inG l v i).toList:=q9 _ _
theorem z58 (l:List P3) (v:Int) (i:Nat):(inL l v i).length<=i:=zC7 _ _
theorem zC0 {l:List P3} {v:Int} {n:Nat} {x:Int} :x∈inL l v n↔∃ j:Nat,j<n/\z8 (tg l j) v/\x=j:=by
 unfold inL;rw [List.mem_filterMap];constructor
 ·rintro ⟨j,hj,e⟩;unfold inG at e;split at e
  ·rename_i h;cases e;exact ⟨j,zV.1 hj,h,rfl⟩
  ·cases e
 ·rintro ⟨j,hj,h,rfl⟩;exact ⟨j,zV.2 hj,by unfold inG;rw [if_pos h]⟩
theorem zQZ {l:List P3} {v:Int} {n:Nat} : ∀ x∈inL l v n,0<=x/\x<(n:Int):=fun x hx=>by
 obtain ⟨j,hj,_,rfl⟩:=zC0.1 hx;omega
theorem zOB (l:List P3) (v:Int): ∀ n,(inL l v n).Nodup
 | 0=>List.nodup_nil
 | n + 1=>by
   rw [zL8,List.nodup_append];refine ⟨zOB l v n,?_,fun a ha b hb=> ?_⟩
   ·unfold inG;split
    ·exact List.nodup_cons.2 ⟨by simp,List.nodup_nil⟩
    ·exact List.nodup_nil
   ·unfold inG at hb;split at hb
    ·rw [Option.toList,zF] at hb;have:=zQZ a ha;omega
    ·cases hb
def zLq (a b:P3):Nat->Int
 | 0=>0
 | k+1=>if z8 b (zKl a k) then zLq a b k+1 else zLq a b k
def z38 (a b:P3):Bool:=decide (zLq a b 3>=2)
def zJc (l:List P3) (p q:Int):Bool:=z38 (tg l p.toNat) (tg l q.toNat)
def zBZ (l:List P3) (v:Int):Int×Int:=((inL l v l.length).length,if (inL l v l.length).length=0 then 0 else (fsS (zJc l) (inL l v l.length) l.length (inL l v l.length).length).2)
theorem zDu (a b:P3) (k:Nat):zLq a b (k+1)=if z8 b (zKl a k) then zLq a b k+1 else zLq a b k:=rfl
theorem zQS (a b:P3): ∀ k:Nat,0<=zLq a b k/\zLq a b k<=k
 | 0=>⟨Int.le_refl _,Int.le_refl _⟩
 | k+1=>by
   have:=zQS a b k;rw [zDu];split<;>omega
theorem z5O {a b:P3} (hd: ¬ dgn a) {v:Int} (h1:z8 a v) (h2:z8 b v):z38 a b=true↔∃ w,w≠v/\z8 a w/\z8 b w:=by
 unfold z38;rw [zP,zDu,zDu,zDu];obtain ⟨x,y,z⟩:=a;unfold dgn at hd;simp only [zKl,List.getD_cons_zero,List.getD_cons_succ,zLq] at *;have hv:z8 (x,y,z) v↔(x=v\/y=v\/z=v):=Iff.rfl;constructor
 ·intro h;have key: ∀ w,(x=w\/y=w\/z=w)->z8 b w->w≠v->∃ w,w≠v/\z8 (x,y,z) w/\z8 b w:=fun w hw hb hn=>⟨w,hn,hw,hb⟩
  by_cases b1:z8 b x<;>by_cases b2:z8 b y<;>by_cases b3:z8 b z<;>simp only [b1,b2,b3,if_true,if_false] at h<;>first
   | omega
   | (by_cases e:x=v
      ·exact key y (.inr (.inl rfl)) b2 (by omega)
      ·exact key x (.inl rfl) b1 e)
   | (by_cases e:x=v
      ·exact key z (.inr (.inr rfl)) b3 (by omega)
      ·exact key x (.inl rfl) b1 e)
   | (by_cases e:y=v
      ·exact key z (.inr (.inr rfl)) b3 (by omega)
      ·exact key y (.inr (.inl rfl)) b2 e)
 ·rintro ⟨w,w1,w2,w3⟩;have w2:x=w\/y=w\/z=w:=w2;have h1:=hv.1 h1;have c1: ∀ u,u=v\/u=w->z8 b u:=fun u hu=>by rcases hu with e|e<;>(rw [e];assumption)
  by_cases b1:z8 b x<;>by_cases b2:z8 b y<;>by_cases b3:z8 b z<;>simp only [b1,b2,b3,if_true,if_false]<;>first
   | omega
   | (exfalso
      have k1: ¬ (x=v\/x=w):=fun k=>(by first|exact absurd (c1 _ k) b1|exact (by assumption:False))
      omega)
   | (exfalso
      by_cases k1:x=v\/x=w
      ·by_cases k2:y=v\/y=w
       ·first|exact b1 (c1 _ k1)|exact b2 (c1 _ k2)
       ·by_cases k3:z=v\/z=w
        ·first|exact b1 (c1 _ k1)|exact b3 (c1 _ k3)
        ·omega
      ·by_cases k2:y=v\/y=w
       ·by_cases k3:z=v\/z=w
        ·first|exact b2 (c1 _ k2)|exact b3 (c1 _ k3)
        ·omega
       ·omega)
theorem z3t {l:List P3} {v:Int} {k:Nat} (hk:k<(inL l v l.length).length):0<=(inL l v l.length).getD k 0/\((inL l v l.length).getD k 0).toNat<l.length/\z8 (tg l ((inL l v l.length).getD k 0).toNat) v:=by
 obtain ⟨j,hj,h,e⟩:=zC0.1 (jB hk);rw [e];exact ⟨by omega,by omega,h⟩
theorem z2C {l:List P3} (hd: ∀ i,i<l.length->¬ dgn (tg l i)) {v:Int} (hne:0<(inL l v l.length).length):(zBZ l v).1=(zBZ l v).2↔z6C l v:=by
 have e:(zBZ l v).2=(fsS (zJc l) (inL l v l.length) l.length (inL l v l.length).length).2:=if_neg (by omega);rw [e];have hc:=zZL (bs:=zJc l) (L:=inL l v l.length) (n:=l.length) zQZ (zOB l v _) hne;have hc:(zBZ l v).1=(fsS (zJc l) (inL l v l.length) l.length (inL l v l.length).length).2↔_:=⟨fun h=>hc.1 h.symm,fun h=>(hc.2 h).symm⟩;rw [hc]
 have rel: ∀ i j:Nat,i<l.length->z8 (tg l i) v->z8 (tg l j) v->(zJc l (i:Int) (j:Int)=true↔∃ w,w≠v/\z8 (tg l i) w/\z8 (tg l j) w):=fun i j hi h1 h2=>by
  unfold zJc;exact z5O (hd i hi) h1 h2
 obtain ⟨z,hz,hzv,ez⟩:=zC0.1 (jB hne);constructor
 ·intro h Q hQ a ha hav hqa i hi hiv
  have go: ∀ R:Nat->Prop,(∀ i j:Nat,i<l.length->j<l.length->z8 (tg l i) v->z8 (tg l j) v->(∃ w:Int,w≠v/\z8 (tg l i) w/\z8 (tg l j) w)->R i->R j)->R z->∀ i,i<l.length->z8 (tg l i) v->R i:=fun R hR h0 i hi hiv=>by
   have:=h (fun x=>R x.toNat) (fun x hx y hy b q=>by
    obtain ⟨p,hp,hpv,rfl⟩:=zC0.1 hx;obtain ⟨s,hs,hsv,rfl⟩:=zC0.1 hy
    exact hR p s hp hs hpv hsv ((rel p s hp hpv hsv).1 b) q) (by rw [ez];exact h0) (i:Int) (zC0.2 ⟨i,hi,hiv,rfl⟩)
   exact this
  by_cases hqz:Q z
  ·exact go Q hQ hqz i hi hiv
  ·exact absurd hqa (go (fun k=> ¬ Q k) (fun i j hi hj h1 h2 ⟨w,w1,w2,w3⟩ hn hq=>hn (hQ j i hj hi h2 h1 ⟨w,w1,w3,w2⟩ hq)) hqz a ha hav)
 ·intro h Q hQ h0 x hx;obtain ⟨i,hi,hiv,rfl⟩:=zC0.1 hx;rw [ez] at h0;exact h (fun k=>Q (k:Int)) (fun p q hp hq h1 h2 hw hqp=>hQ _ (zC0.2 ⟨p,hp,h1,rfl⟩) _ (zC0.2 ⟨q,hq,h2,rfl⟩) ((rel p q hp h1 h2).2 hw) hqp) z hz hzv h0 i hi hiv
def shE (t u:P3) (p q:Nat):Prop:=zKl t p=zKl u q/\zKl t ((p+1) % 3)=zKl u ((q+1) % 3)
def zQ9 (t u:P3):Prop:=(∀ p q,p<3->q<3->¬ shE t u p q)/\zLq t u 3≠3
theorem zQ8 {t:P3} {a b:Int} :dE t a b↔∃ p,p<3/\zKl t p=a/\zKl t ((p+1) % 3)=b:=by
 constructor
 ·rintro (⟨h1,h2⟩|⟨h1,h2⟩|⟨h1,h2⟩)
  ·exact ⟨0,by omega,h1,h2⟩
  ·exact ⟨1,by omega,h1,h2⟩
  ·exact ⟨2,by omega,h1,h2⟩
 ·rintro ⟨p,hp,h1,h2⟩;have:p=0\/p=1\/p=2:=by omega
  rcases this with e|e|e<;>subst e
  ·exact .inl ⟨h1,h2⟩
  ·exact .inr (.inl ⟨h1,h2⟩)
  ·exact .inr (.inr ⟨h1,h2⟩)
theorem z9e (t u:P3):zLq t u 3=3↔z8 u t.1/\z8 u t.2.1/\z8 u t.2.2:=by
 rw [zDu,zDu,zDu];have e0:zKl t 0=t.1:=rfl;have e1:zKl t 1=t.2.1:=rfl;have e2:zKl t 2=t.2.2:=rfl;rw [e0,e1,e2];show (if _ then (if _ then (if _ then (0:Int)+1 else 0)+1 else _)+1 else _)=3↔_
 by_cases b1:z8 u t.1<;>by_cases b2:z8 u t.2.1<;>by_cases b3:z8 u t.2.2<;>simp [b1,b2,b3,zLq]
theorem zUH {t u:P3} (h1: ¬ dgn t) (h2: ¬ dgn u) (h:z8 u t.1/\z8 u t.2.1/\z8 u t.2.2):z8 t u.1/\z8 t u.2.1/\z8 t u.2.2:=by
 obtain ⟨x,y,z⟩:=t;obtain ⟨p,q,r⟩:=u;unfold z8 at *;unfold dgn at *;simp only at *;omega
theorem zWb {s:Int×List P3} (hf:zMc s) (hd: ∀ i,i<s.2.length->¬ dgn (tg s.2 i)) (hp: ∀ i k,k<i->i<s.2.length->zQ9 (tg s.2 i) (tg s.2 k)) (hv: ∀ v:Nat,(v:Int)<s.1->(zBZ s.2 v).1≠0/\(zBZ s.2 v).1=(zBZ s.2 v).2):zBK s:=by
 refine ⟨hf,hd,fun i j hij hj a b k1 k2=> ?_,fun i j hij hj hh=> ?_,fun v hv'=> ?_,fun v hv'=> ?_⟩
 ·obtain ⟨p,hp3,e1,e2⟩:=zQ8.1 k1;obtain ⟨q,hq3,e3,e4⟩:=zQ8.1 k2;exact (hp j i hij hj).1 q p hq3 hp3 ⟨e3.trans e1.symm,e4.trans e2.symm⟩
 ·refine (hp j i hij hj).2 ((z9e _ _).2 ?_);exact zUH (hd i (by omega)) (hd j hj) hh
 ·have:=(hv v hv').1
  have:0<(inL s.2 v s.2.length).length:=by
   have e:(zBZ s.2 v).1=((inL s.2 v s.2.length).length:Int):=rfl;omega
  obtain ⟨j,hj,h,_⟩:=zC0.1 (jB this);exact ⟨j,hj,h⟩
 ·have h1:=(hv v hv').1
  have:0<(inL s.2 v s.2.length).length:=by
   have e:(zBZ s.2 v).1=((inL s.2 v s.2.length).length:Int):=rfl;omega
  exact (z2C hd this).1 (hv v hv').2
theorem zNY {s:Int×List P3} (h:zBK s) {i k:Nat} (hki:k<i) (hi:i<s.2.length):zQ9 (tg s.2 i) (tg s.2 k):=by
 refine ⟨fun p q hp hq hh=> ?_,fun hh=> ?_⟩
 ·exact h.dif k i hki hi _ _ (zQ8.2 ⟨q,hq,rfl,rfl⟩) (zQ8.2 ⟨p,hp,hh.1,hh.2⟩)
 ·exact h.mir k i hki hi (zUH (h.deg i hi) (h.deg k (by omega)) ((z9e _ _).1 hh))
theorem zZt {s:Int×List P3} (h:zBK s) {v:Nat} (hv:(v:Int)<s.1):(zBZ s.2 v).1≠0/\(zBZ s.2 v).1=(zBZ s.2 v).2:=by
 obtain ⟨j,hj,hjv⟩:=h.use v hv;have hm:(j:Int)∈inL s.2 v s.2.length:=zC0.2 ⟨j,hj,hjv,rfl⟩;have:0<(inL s.2 v s.2.length).length:=List.length_pos_of_mem hm;refine ⟨?_,(z2C h.deg this).2 (h.pin v hv)⟩;have e:(zBZ s.2 v).1=((inL s.2 v s.2.length).length:Int):=rfl;omega
end S1
open Go Go.Vm Go.Proofs
namespace S1
@[irreducible] def hasB (t:P3) (v:Int):Bool:=decide (z8 t v)
theorem zG2 {t:P3} {v:Int} :hasB t v=true↔z8 t v:=by unfold hasB;exact decide_eq_true_iff
theorem zP4 {t:P3} {v:Int} :hasB t v=false↔¬ z8 t v:=by rw [<- zG2];simp
theorem z0O {fn} (t:P3) (v:Int):zAG ⟨tyL,fn,[]⟩ Tryz.f51 [ETy.arr3.av t,y8.av v] (fun r=>r= .s (.bool (hasB t v))):=by
 repeat' (conv=>whnf
          first|done|refine qN ?_|apply qH|refine qG fun _=> ?_|apply qB|apply qa|apply qo|refine qe (fun _=> ?_) (fun _=> ?_)|refine qn (fun _=> ?_) (fun _=> ?_)|refine qd (fun _=> ?_) (fun _=> ?_)|apply qt|refine qi (fun _=> ?_) (fun _=> ?_)|refine zA rfl ?_|apply qE|apply qO|exact zO|apply qq|apply qs|refine qK (by kernel_rfl) ?_|apply qr)
 all_goals try first|refine qz ?_|apply qz5
 all_goals try simp only [z6,zS,yE,zZ,qn1,z7,qn2,zX,ETy.dflt,qn3,qn4,Int.reduceToNat,Int.reduceAdd,Int.reduceSub,Int.reduceNeg,Nat.reduceAdd,zD] at *
 all_goals (rw [Bool.eq_iff_iff,zG2];unfold z8;simp [*])
def zI7:List AV->Option Res:=zCr .arr3 y8 (fun t v=>some (none,none,.s (.bool (hasB t v))))
theorem zLs:qM Tryz.prog 51 zI7:=⟨jD fun t v r h=>by cases h;exact qL (yN (fn:=[]) (fr:=[]) trivial trivial) Tryz.func51 (by kernel_rfl) fun _ _=>z0O t v,_,Tryz.func51,by kernel_rfl,by kernel_rfl⟩
theorem zXs (t:P3) (k:Nat):[t.1,t.2.1,t.2.2].getD k 0=zKl t k:=rfl
theorem tmX (x:Nat):(((x:Int)+1).tmod 3).toNat=(x+1) % 3:=by rw [Int.tmod_eq_emod_of_nonneg (by omega)];omega
def zQN (a b:P3):Spec Nat where
 inv k:=k<=3
 live k:=[(6,.s (.int .i64 k)),(5,.s (.int .i64 (zLq a b k)))]
 keep:=[2,3]
 heap _:=[]
 keepH:=[0,1]
 mu k:=3 - k
theorem zKY (a b:P3):zLq a b 0=0:=rfl
attribute [local irreducible] zLq
theorem z0X (a b:P3):zAG ⟨tyL,[(51,zI7)],[]⟩ Tryz.f91 [ETy.arr3.av a,ETy.arr3.av b] (fun r=>r= .s (.bool (z38 a b))):=by
 repeat' (conv=>whnf
          first|done|refine qN ?_|apply qH|refine qG fun _=> ?_|apply qB|apply qa|apply qo|refine qe (fun _=> ?_) (fun _=> ?_)|refine qn (fun _=> ?_) (fun _=> ?_)|refine qd (fun _=> ?_) (fun _=> ?_)|apply qt|refine qi (fun _=> ?_) (fun _=> ?_)|(refine zaB 3 rfl (zQN a b) (0) ?_ ?_ ?_ fun k hk=> ?_)|with_reducible refine zaA (zQN _ _) (k+1) ?_ ?_ ?_ ?_|refine zA rfl ?_|apply qE|apply qO|exact zO|apply qq|apply qs|refine qK (by kernel_rfl) ?_|apply qr)
 all_goals try first|refine qz ?_|apply qz5
 all_goals try simp only [z6,zS,yE,zZ,qn1,z7,qn2,zX,ETy.dflt,qn3,qn4,Int.reduceToNat,Int.reduceAdd,Int.reduceSub,Int.reduceNeg,Nat.reduceAdd,zD,zQN,zXs,z38,tmX] at *
 all_goals try exact zKY a b
 all_goals try exact qh (Nat.zero_le _)
 all_goals try (rw [zKY];done)
 all_goals try (rw [zKY];rfl)
 all_goals try exact zKY _ _
 all_goals try exact (zKY _ _).symm
 all_goals have hN:=zQS a b k
 all_goals try (refine qh ?_;omega)
 all_goals try (refine qh ?_;unfold yP;omega)
 all_goals try (rw [zDu,if_pos (zG2.1 (by assumption))];done)
 all_goals try (rw [zDu,if_neg (zP4.1 (by assumption))];done)
 all_goals (rw [show k=3 by omega])
def zYh:List AV->Option Res:=zCr .arr3 .arr3 (fun a b=>some (none,none,.s (.bool (z38 a b))))
theorem z08:qM Tryz.prog 91 zYh:=⟨jD fun a b r h=>by cases h;exact qL (yN (fn:=[(51,zI7)]) (fr:=[]) ⟨zLs,trivial⟩ trivial) Tryz.func91 (by kernel_rfl) fun _ _=>z0X a b,_,Tryz.func91,by kernel_rfl,by kernel_rfl⟩
theorem z68 (l:List P3) (v:Int):inL l v 0=[]:=rfl
theorem z5X {l:List P3} {v:Int} {i:Nat} (h:hasB (l.getD i (0,0,0)) v=true):inL l v (i+1)=inL l v i++[(i:Int)]:=by
 have h:z8 (tg l i) v:=zG2.1 h;rw [zL8];unfold inG;rw [if_pos h];rfl
theorem z74 {l:List P3} {v:Int} {i:Nat} (h:hasB (l.getD i (0,0,0)) v=false):inL l v (i+1)=inL l v i:=by
 have h: ¬ z8 (tg l i) v:=zP4.1 h;rw [zL8];unfold inG;rw [if_neg h];exact List.append_nil _
theorem z6Q (bs:Int->Int->Bool) (L:List Int) (n:Nat):(fsS bs L n 0).2=1:=rfl
theorem z8F (bs:Int->Int->Bool) (L:List Int) (n:Nat):(fsS bs L n 0).1=(List.replicate n false).set (L.getD 0 0).toNat true:=rfl
theorem z7a {X:Type} (f:X->Nat->X) (s:X):qA f s 0=s:=rfl
theorem z8v (bs:Int->Int->Bool) (L:List Int) (S:FsT) (p:Nat):qA (fsI bs L) S (p+1)=qA (fsK bs L p) (qA (fsI bs L) S p) L.length:=rfl
theorem z9H (bs:Int->Int->Bool) (L:List Int) (n r:Nat):fsS bs L n (r+1)=qA (fsI bs L) (fsS bs L n r) L.length:=rfl
theorem z5G {l:List P3} {v:Int} (h:(inL l v l.length).length=0):zBZ l v=(0,0):=by
 unfold zBZ;rw [if_pos h,h];rfl
theorem z5j {l:List P3} {v:Int} (h:(inL l v l.length).length≠0):zBZ l v=(((inL l v l.length).length:Int),(fsS (zJc l) (inL l v l.length) l.length (inL l v l.length).length).2):=by
 unfold zBZ;rw [if_neg h]
attribute [local irreducible] inL z38
def zVh (l:List P3) (v:Int):Spec Nat where
 inv i:=i<=l.length
 live i:=[(7,.s (.int .i64 i)),(6,.s (.own 1 0 (inL l v i).length))]
 keep:=[1,2,4,5]
 heap i:=[(1,.row y8 3 (inL l v i))]
 keepH:=[0]
 mu i:=l.length - i
def zV5 (l:List P3) (L:List Int):Spec Nat where
 inv r:=r<=L.length
 live r:=[(10,.s (.int .i64 r)),(9,.s (.int .i64 (fsS (zJc l) L l.length r).2))]
 keep:=[1,2,4,5,6,8]
 heap r:=[(2,.row .bool 4 (fsS (zJc l) L l.length r).1)]
 keepH:=[0,1]
 mu r:=L.length - r
def zUA (l:List P3) (L:List Int) (r:Nat):Spec Nat where
 inv i:=i<=L.length
 live i:=[(11,.s (.int .i64 i)),(9,.s (.int .i64 (qA (fsI (zJc l) L) (fsS (zJc l) L l.length r) i).2))]
 keep:=[1,2,4,5,6,8,10]
 heap i:=[(2,.row .bool 4 (qA (fsI (zJc l) L) (fsS (zJc l) L l.length r) i).1)]
 keepH:=[0,1]
 mu i:=L.length - i
def zXR (l:List P3) (L:List Int) (r i:Nat):Spec Nat where
 inv k:=k<=L.length
 live k:=[(12,.s (.int .i64 k)),(9,.s (.int .i64 (qA (fsK (zJc l) L i) (qA (fsI (zJc l) L) (fsS (zJc l) L l.length r) i) k).2))]
 keep:=[1,2,4,5,6,8,10,11]
 heap k:=[(2,.row .bool 4 (qA (fsK (zJc l) L i) (qA (fsI (zJc l) L) (fsS (zJc l) L l.length r) i) k).1)]
 keepH:=[0,1]
 mu k:=L.length - k
theorem z4I {bs:Int->Int->Bool} {L:List Int} {i k:Nat} {S:FsT} (h1:(qA (fsK bs L i) S k).1.getD (L.getD i 0).toNat false=true) (h2:(qA (fsK bs L i) S k).1.getD (L.getD k 0).toNat false=false) (h3:bs (L.getD i 0) (L.getD k 0)=true) :
 qA (fsK bs L i) S (k+1)=((qA (fsK bs L i) S k).1.set (L.getD k 0).toNat true,(qA (fsK bs L i) S k).2+1):=if_pos ⟨h1,h2,h3⟩
theorem zWg {bs:Int->Int->Bool} {L:List Int} {i k:Nat} {S:FsT} (h:(qA (fsK bs L i) S k).1.getD (L.getD i 0).toNat false=false\/(qA (fsK bs L i) S k).1.getD (L.getD k 0).toNat false=true\/bs (L.getD i 0) (L.getD k 0)=false) :
 qA (fsK bs L i) S (k+1)=qA (fsK bs L i) S k:=if_neg (by
 rintro ⟨h1,h2,h3⟩;rcases h with h|h|h
 ·rw [h] at h1;cases h1
 ·rw [h] at h2;cases h2
 ·rw [h] at h3;cases h3)
attribute [local irreducible] fsS qA
theorem z1N (n:Int) (l:List P3) (v:Int) (hl:l.length<=8192):zAG ⟨tyL,[(51,zI7),(91,zYh)],[]⟩ Tryz.f52 [qP.av (n,l),y8.av v] (fun r=>r= .tup [.s (.int .i64 (zBZ l v).1),.s (.int .i64 (zBZ l v).2)]):=by
 repeat' (conv=>whnf
          first|done|refine qN ?_|apply qH|refine qG fun _=> ?_|apply qB|apply qa|apply qo|refine qe (fun _=> ?_) (fun _=> ?_)|refine qn (fun _=> ?_) (fun _=> ?_)|refine qd (fun _=> ?_) (fun _=> ?_)|apply qt|refine qi (fun _=> ?_) (fun _=> ?_)|(refine zaB 3 rfl (zVh l v) (0) ?_ ?_ ?_ fun i hi=> ?_)|with_reducible refine zaA (zVh _ _) (i+1) ?_ ?_ ?_ ?_|(refine zaB 13 rfl (zV5 l (inL l v l.length)) (0) ?_ ?_ ?_ fun r hr=> ?_)|with_reducible refine zaA (zV5 _ _) (r+1) ?_ ?_ ?_ ?_|(refine zaB 16 rfl (zUA l (inL l v l.length) r) (0) ?_ ?_ ?_ fun p hp=> ?_)|with_reducible refine zaA (zUA _ _ _) (p+1) ?_ ?_ ?_ ?_|(refine zaB 19 rfl (zXR l (inL l v l.length) r p) (0) ?_ ?_ ?_ fun q hq=> ?_)|with_reducible refine zaA (zXR _ _ _ _) (q+1) ?_ ?_ ?_ ?_|refine zA rfl ?_|apply qE|apply qO|exact zO|apply qq|apply qs|refine qK (by kernel_rfl) ?_|apply qr)
 all_goals try first|refine qz ?_|apply qz5
 all_goals try simp only [z6,zS,yE,zZ,qn1,z7,qn2,zX,ETy.dflt,qn3,qn4,Int.reduceToNat,Int.reduceAdd,Int.reduceSub,Int.reduceNeg,Nat.reduceAdd,zD,zVh,zV5,zUA,zXR] at *
 all_goals try exact qh (Nat.zero_le _)
 all_goals try (rw [z68];done)
 all_goals try (rw [z68];rfl)
 all_goals have hle:=z58 l v i
 all_goals try (refine qh ?_;omega)
 all_goals try (rw [z5X (by assumption)];first|done|exact zN)
 all_goals try (rw [z74 (by assumption)];done)
 all_goals have ei:i=l.length:=by omega
 all_goals subst ei
 all_goals have hg:=fun k (hk:k<(inL l v l.length).length)=>z3t (l:=l) (v:=v) hk
 all_goals have hrg:=zQZ (l:=l) (v:=v) (n:=l.length)
 all_goals try
  have h0:((inL l v l.length).length:Int)=0:=by assumption
  rw [z5G (show (inL l v l.length).length=0 by omega)];exact y9.intro rfl
 all_goals have hne : (inL l v l.length).length ≠ 0 := by have h0:((inL l v l.length).length:Int)≠0:=by assumption
                                                          omega
 all_goals try exact z6Q _ _ _
 all_goals try exact z8F _ _ _
 all_goals try (rw [z7a];done)
 all_goals try (have h:=hg 0 (by omega);refine yJ.intro (zA ?_ ?_)<;>omega)
 all_goals try
  have hr1:r=(inL l v l.length).length:=by omega
  rw [z5j hne,hr1];exact y9.intro rfl
 all_goals try
  have hp1:p=(inL l v l.length).length:=by omega
  rw [z9H,hp1];done
 all_goals try
  have hq1:q=(inL l v l.length).length:=by omega
  rw [z8v,hq1];done
 all_goals (have kp:=hg p (by omega);have kq:=hg q (by omega))
 all_goals try (refine yJ.intro (zA ?_ ?_)<;>omega)
 all_goals have hS:=zOu.r (bs:=zJc l) hrg (by omega) r
 all_goals have hS:=zOu.i (bs:=zJc l) hrg hS p (by omega)
 all_goals have hS:=(zOu.k (bs:=zJc l) hrg hS (i:=p) (by omega) q (by omega)).le
 all_goals try (refine qh ?_;unfold yP;omega)
 all_goals try (refine qh ?_;omega)
 all_goals first
  | (rw [z4I (by assumption) (by assumption) (by assumption)];done)
  | (rw [zWg (.inl (by assumption))];done)
  | (rw [zWg (.inr (.inl (by assumption)))];done)
  | (rw [zWg (.inr (.inr (by assumption)))];done)
def zUm:List AV->Option Res:=zCr qP y8 (fun s v=>some (none,some (s.2.length<=8192),.tup [.s (.int .i64 (zBZ s.2 v).1),.s (.int .i64 (zBZ s.2 v).2)]))
theorem zZk:qM Tryz.prog 52 zUm:=⟨jD fun s v r h=>by cases h;exact qL (yN (fn:=[(51,zI7),(91,zYh)]) (fr:=[]) ⟨zLs,z08,trivial⟩ trivial) Tryz.func52 (by kernel_rfl) fun _ h=>z1N s.1 s.2 v h,_,Tryz.func52,by kernel_rfl,by kernel_rfl⟩
end S1
