/- A part of the proofs of the laws. -/
import Derived.Test.YtbfghjbhfgbdnaaFan1toLXp
import Derived.Test.YtbfghjbhfgbdnaaT5toT22
set_option linter.unusedSimpArgs false
set_option linter.unusedVariables false
set_option maxHeartbeats 8000000
set_option maxRecDepth 100000
open Go.Proofs.Try
open Go Go.Vm Go.Proofs
namespace S1
instance (ap:List Int):Decidable ap.Nodup:=inferInstanceAs (Decidable (List.Pairwise (·≠·) ap))
def ckA (n:Int) (ap:List Int):Prop:= ∀ a∈ap,0<=a/\a<n
def ckC (x:zX.T) (ap:List Int):Prop:= ∀ a∈ap,zAq x a=true
def ckD (x:zX.T) (ap:List Int):Prop:= ∀ a∈ap,∀ v∈zDV x a,v∉ap
instance (n:Int) (ap:List Int):Decidable (ckA n ap):=inferInstanceAs (Decidable (∀ a∈ap,0<=a/\a<n))
instance (x:zX.T) (ap:List Int):Decidable (ckC x ap):=inferInstanceAs (Decidable (∀ a∈ap,zAq x a=true))
instance (x:zX.T) (ap:List Int):Decidable (ckD x ap):=inferInstanceAs (Decidable (∀ a∈ap,∀ v∈zDV x a,v∉ap))
def z3d (x:zX.T) (ap:List Int):Int:=if ¬ ckA x.1.1 ap then 2 else if ¬ ap.Nodup then 9 else if ¬ ckC x ap then 13 else if ¬ ckD x ap then 14 else 0
def z6E (n:Int) (ap:List Int):Spec Nat where
 inv k:=k<=ap.length/\ckA n (ap.take k)
 live k:=[(19,.s (.int .i64 k))]
 keep:=[0,1,5,17,18]
 heap _:=[]
 keepH:=[0]
 mu k:=ap.length - k
def z6O (ap:List Int):Spec Nat where
 inv k:=k<=ap.length/\(ap.take k).Nodup
 live k:=[(34,.s (.int .i64 k))]
 keep:=[0,1,5,32,33]
 heap k:=[(0,.map jF .bool (z3n (ap.take k)))]
 keepH:=[]
 mu k:=ap.length - k
def z5v (x:zX.T) (ap:List Int):Spec Nat where
 inv k:=k<=ap.length/\ckC x (ap.take k)
 live k:=[(46,.s (.int .i64 k))]
 keep:=[0,1,5,44,45]
 heap _:=[]
 keepH:=[0]
 mu k:=ap.length - k
def z7f (x:zX.T) (ap bp:List Int):Prop:= ∀ a∈bp,∀ v∈zDV x a,v∉ap
def z5e (x:zX.T) (ap:List Int):Spec Nat where
 inv k:=k<=ap.length/\z7f x ap (ap.take k)
 live k:=[(57,.s (.int .i64 k))]
 keep:=[0,1,5,55,56]
 heap _:=[]
 keepH:=[0]
 mu k:=ap.length - k
def z6M (x:zX.T) (ap:List Int) (a:Int):Spec Nat where
 inv j:=j<=(zDV x a).length/\∀ v∈(zDV x a).take j,v∉ap
 live j:=[(65,.s (.int .i64 j))]
 keep:=[0,1,5,55,56,57,63,64]
 heap _:=[]
 keepH:=[0]
 mu j:=(zDV x a).length - j
theorem z3g {l:List Int} {k:Nat} (h:k<l.length) {v:Int} :v∈l.take (k+1)↔v∈l.take k\/v=l.getD k 0:=by
 rw [yJ h,zY,zD,gdE,gE h];rfl
theorem z7O {n:Int} {ap:List Int} :ckA n (ap.take 0):=fun a h=>by cases h
theorem z78 {x:zX.T} {ap:List Int} :ckC x (ap.take 0):=fun a h=>by cases h
theorem z6d {x:zX.T} {ap bp:List Int} :z7f x ap (bp.take 0):=fun a h=>by cases h
theorem z6v {n:Int} {ap:List Int} {k:Nat} (h:ckA n (ap.take k)) (hk:k<ap.length) (h2:0<=ap.getD k 0/\ap.getD k 0<n):ckA n (ap.take (k+1)):=fun a ha=>by
 rcases (z3g hk).1 ha with e|e
 ·exact h a e
 ·rw [e];exact h2
theorem z60 {x:zX.T} {ap:List Int} {k:Nat} (h:ckC x (ap.take k)) (hk:k<ap.length) (h2:zAq x (ap.getD k 0)=true):ckC x (ap.take (k+1)):=fun a ha=>by
 rcases (z3g hk).1 ha with e|e
 ·exact h a e
 ·rw [e];exact h2
theorem z5x {x:zX.T} {ap bp:List Int} {k:Nat} (h:z7f x ap (bp.take k)) (hk:k<bp.length) (h2: ∀ v∈zDV x (bp.getD k 0),v∉ap):z7f x ap (bp.take (k+1)):=fun a ha=>by
 rcases (z3g hk).1 ha with e|e
 ·exact h a e
 ·rw [e];exact h2
theorem z5R {l:List Int} {k:Nat} (h:(l.take k).Nodup) (hk:k<l.length) (hn:l.getD k 0∉l.take k):(l.take (k+1)).Nodup:=by
 rw [yJ hk,List.nodup_append];refine ⟨h,yQ.2 ⟨by simp,qW⟩,fun a ha b hb e=> ?_⟩;rw [zD] at hb;subst hb;subst e;rw [gdE,gE hk] at hn;exact hn ha
theorem z5Y {l:List Int} {k:Nat} (hn:l.Nodup) (hk:k<l.length) (h:l.getD k 0∈l.take k):False:=by
 have e:l.take (k+1)=l.take k++[l.getD k 0]:=by
  rw [yJ hk,gdE,gE hk];rfl
 have:(l.take (k+1)).Nodup:=(List.take_sublist _ _).nodup hn;rw [e,List.nodup_append] at this;exact this.2.2 _ h _ (zD.2 rfl) rfl
theorem z5M {x:zX.T} {ap:List Int} {a:Int} (ha:a∈ap) (h: ¬ (0<=a/\a<x.1.1)):z3d x ap=2:=by
 unfold z3d;rw [if_pos (fun e=>h (e a ha))]
theorem z6Z {x:zX.T} {ap:List Int} (h1:ckA x.1.1 ap) (h: ¬ ap.Nodup):z3d x ap=9:=by
 unfold z3d;rw [if_neg (fun e=>e h1),if_pos h]
theorem z5m {x:zX.T} {ap:List Int} (h1:ckA x.1.1 ap) (h2:ap.Nodup) {a:Int} (ha:a∈ap) (h:zAq x a=false):z3d x ap=13:=by
 unfold z3d;rw [if_neg (fun e=>e h1),if_neg (fun e=>e h2),if_pos (fun e=>by rw [e a ha] at h;cases h)]
theorem z6S {x:zX.T} {ap:List Int} (h1:ckA x.1.1 ap) (h2:ap.Nodup) (h3:ckC x ap) {a v:Int} (ha:a∈ap) (hv:v∈zDV x a) (h:v∈ap):z3d x ap=14:=by
 unfold z3d;rw [if_neg (fun e=>e h1),if_neg (fun e=>e h2),if_neg (fun e=>e h3),if_pos (fun e=>e a ha v hv h)]
theorem z6m {x:zX.T} {ap:List Int} (h1:ckA x.1.1 ap) (h2:ap.Nodup) (h3:ckC x ap) (h4:ckD x ap):z3d x ap=0:=by
 unfold z3d;rw [if_neg (fun e=>e h1),if_neg (fun e=>e h2),if_neg (fun e=>e h3),if_neg (fun e=>e h4)]
attribute [local irreducible] zAq zDV z3n ckA ckC z7f
theorem z7k (x:zX.T) (ap:List Int) (g:Good x):zB7 ⟨tyL,[(36,zBR),(52,zNN),(45,z67)],[]⟩ Try.f57 [(ETy.pt zX).av (some x),(ETy.sl jF).av ap] (fun r=>r= .s (.int .i64 (z3d x ap))):=by
 repeat' (conv=>whnf
          first|done|refine qy ?_|refine qG fun _=> ?_|refine qw (fun _=> ?_) (fun _=> ?_)|apply qt|refine qi (fun _=> ?_) (fun _=> ?_)|(refine j6 3 rfl (z6E x.1.1 ap) (0) ?_ ?_ ?_ fun k hk=> ?_)|with_reducible refine jX (z6E _ _) (k+1) ?_ ?_ ?_ ?_|(refine j6 9 rfl (z6O ap) (0) ?_ ?_ ?_ fun q hq=> ?_)|with_reducible refine jX (z6O _) (q+1) ?_ ?_ ?_ ?_|(refine j6 16 rfl (z5v x ap) (0) ?_ ?_ ?_ fun r hr=> ?_)|with_reducible refine jX (z5v _ _) (r+1) ?_ ?_ ?_ ?_|(refine j6 22 rfl (z5e x ap) (0) ?_ ?_ ?_ fun s hs=> ?_)|with_reducible refine jX (z5e _ _) (s+1) ?_ ?_ ?_ ?_|(refine j6 25 rfl (z6M x ap (ap.getD s 0)) (0) ?_ ?_ ?_ fun j hj=> ?_)|with_reducible refine jX (z6M _ _ _) (j+1) ?_ ?_ ?_ ?_|refine qu ?_|refine qv ?_ ?_|exact zT)
 all_goals try first|refine qz ?_|apply qz5
 all_goals try simp only [qn0,yC,yA,ETy.dflt,Int.reduceToNat,Int.reduceAdd,Int.reduceSub,Int.reduceNeg,Nat.reduceAdd,z6E,z6O,z5v,z5e,z6M,z0F,zVl] at *
 all_goals try (refine qh ?_;omega)
 all_goals try (have e1:ap.take k=ap:=jR (by omega)
                have hA:ckA x.1.1 ap:=by have:=hk.2;rw [e1] at this;exact this)
 all_goals try (have e2:ap.take q=ap:=jR (by omega)
                have hB:ap.Nodup:=by have:=hq.2;rw [e2] at this;exact this)
 all_goals try (have e3:ap.take r=ap:=jR (by omega)
                have hC:ckC x ap:=by have:=hr.2;rw [e3] at this;exact this)
 all_goals try have hlt1:(k:Int)<ap.length:=by assumption
 all_goals try have hlt2:(q:Int)<ap.length:=by assumption
 all_goals try have hlt3:(r:Int)<ap.length:=by assumption
 all_goals try have hlt4:(s:Int)<ap.length:=by assumption
 all_goals try have hlt5:(j:Int)<(zDV x (ap.getD s 0)).length:=by assumption
 ·exact qh ⟨jB _,z7O⟩
 ·have h:ap.getD k 0<0:=by assumption
  exact (z5M (zA5 (j:=k) (by omega)) (fun e=>by omega)).symm
 ·have h:ap.getD k 0>=x.1.1:=by assumption
  exact (z5M (zA5 (j:=k) (by omega)) (fun e=>by have:=e.2;exact absurd h (Int.not_le.2 this))).symm
 ·have h1: ¬ ap.getD k 0<0:=by assumption
  have h2: ¬ ap.getD k 0>=x.1.1:=by assumption
  exact qh ⟨by omega,z6v hk.2 (by omega) ⟨by omega,Int.not_le.1 h2⟩⟩
 ·exact qh ⟨jB _,qW⟩
 ·unfold z3n;rfl
 ·have h:had (z3n (ap.take q)) (ap.getD q 0)=true:=by assumption
  have h:=(z4K _ _).1 h;exact (z6Z hA (fun hn=>z5Y hn (by omega) h)).symm
 ·have h:had (z3n (ap.take q)) (ap.getD q 0)=false:=by assumption
  exact qh ⟨by omega,z5R hq.2 (by omega) (fun e=>by rw [(z4K _ _).2 e] at h;cases h)⟩
 ·exact z4v (by omega)
 ·exact qh ⟨jB _,z78⟩
 ·have h:zAq x (ap.getD r 0)=true:=by assumption
  exact qh ⟨by omega,z60 hr.2 (by omega) h⟩
 ·have h:zAq x (ap.getD r 0)=false:=by assumption
  exact (z5m hA hB (zA5 (j:=r) (by omega)) h).symm
 ·exact qh ⟨jB _,z6d⟩
 ·exact qh (fun y h=>by cases h;exact g)
 ·exact qh ⟨jB _,fun v h=>by cases h⟩
 ·have h:had (z3n (ap.take q)) ((zDV x (ap.getD s 0)).getD j 0)=true:=by assumption
  rw [e2] at h;have h:=(z4K _ _).1 h;exact (z6S hA hB hC (zA5 (j:=s) (by omega)) (zA5 (j:=j) (l:=zDV x (ap.getD s 0)) (by omega)) h).symm
 ·have h:had (z3n (ap.take q)) ((zDV x (ap.getD s 0)).getD j 0)=false:=by assumption
  rw [e2] at h;refine jQ.intro ⟨by omega,fun v hv=> ?_⟩;rw [z3g (by omega)] at hv;rcases hv with hv|hv
  ·exact hj.2 v hv
  ·rw [hv];intro e;rw [(z4K _ _).2 e] at h;cases h
 ·refine qh ?_;omega
 ·have hge: ¬ (j:Int)<(zDV x (ap.getD s 0)).length:=by assumption
  refine jQ.intro ⟨by omega,z5x hs.2 (by omega) fun v hv=>hj.2 v ?_⟩;rw [jR (by omega)];exact hv
 ·have e4:ap.take s=ap:=jR (by omega);have:=hs.2;rw [e4] at this;have this:ckD x ap:=by unfold z7f at this;exact this
  exact (z6m hA hB hC this).symm
def z4S:List AV->Option Res:=zNH (.pt zX) (.sl jF) (fun o ap=>match o with|some x=>some (none,some (Good x),.s (.int .i64 (z3d x ap)))|none=>none)
theorem z4t:zAI prog 57 z4S:=mkR (zCh fun o ap r h=>by
 cases o with
 | none=>cases h
 | some x=>cases h;exact fb (fn:=[(36,zBR),(52,zNN),(45,z67)]) ⟨zC4,zQP,z7e,trivial⟩ func57 fun _ h=>z7k x ap h) func57
end S1
namespace S1
def z7p (ap:List Int) (v:Nat):Option Int:=if had (z3n ap) v=true then none else some v
def z41 (ap:List Int) (k:Nat):List Int:=(List.range k).filterMap (z7p ap)
def z7h (ap:List Int) (l:List Int) (v:Nat):List Int:=if had (z3n ap) v=true then l else l.set v (z41 ap v).length
def z54 (n:Nat) (ap:List Int) (k:Nat):List Int:=jE (z7h ap) (List.replicate n 0) k
def opG (n:Nat) (ap:List Int) (l:List P3) (j:Nat):Option P3 :=
 if had (z3n ap) (tg l j).1=true\/had (z3n ap) (tg l j).2.1=true\/had (z3n ap) (tg l j).2.2=true then none
 else some ((z54 n ap n).getD (tg l j).1.toNat 0,(z54 n ap n).getD (tg l j).2.1.toNat 0,(z54 n ap n).getD (tg l j).2.2.toNat 0)
def opT (n:Nat) (ap:List Int) (l:List P3) (j:Nat):List P3:=(List.range j).filterMap (opG n ap l)
def z4g (s:Int×List P3) (ap:List Int):Int×List P3:=(((z41 ap s.1.toNat).length:Int),opT s.1.toNat ap s.2 s.2.length)
def z3w (x:zX.T) (ap:List Int):(Int×List P3)×List Int×Int :=
 if z3d x ap≠0 then ((0,[]),[],z3d x ap) else if (zL5 (z4g x.1 ap)).1=0 then (z4g x.1 ap,z41 ap x.1.1.toNat,0) else ((0,[]),[],11)
def z5U (s:Int×List P3) (ap:List Int):(Int×List P3)×List Int×Int:=match zF0 s with|some x=>z3w x ap|none=>((0,[]),[],11)
def z4h (r:(Int×List P3)×List Int×Int):AV:= .tup [zAa.av r.1,.s (.sl jF r.2.1),.s (.int .i64 r.2.2)]
def z4D (r:(Int×List P3)×List Int×Int):AV:=if r.2.2=0 then z4h r else .tup [.agg [.int .i64 0,.val (.slice none 0 0)],.s (.sl jF []),.s (.int .i64 r.2.2)]
theorem z4q (ap:List Int) (k:Nat):z41 ap (k+1)=z41 ap k++(z7p ap k).toList:=zBr _ _
end S1
namespace S1
theorem z1O {I:Sig} {M:yN} {v:Value} (h:qA I M ((ETy.pt zX).av none) v):qA I M (z1C none) v:=by
 have h:[v]=[Value.pointer none]:=h;exact ⟨(List.cons.inj h).1,by simp [z1z]⟩
theorem zDn.res {P:Program} {f:FuncId} {args:List AV} {p q:Option Prop} {u u':AV} (h:zDn P f args (p,q,u)) (hu: ∀ (I:Sig) (v:Value),qA I [] u v->qA I [] u' v):zDn P f args (p,q,u') :=
 fun I vals w h1 h2=>⟨(h I vals w h1 h2).1,fun hq=>((h I vals w h1 h2).2 hq).mono fun _ _ ⟨v,σ',e1,e2,e3,e4,e5,e6⟩=>⟨v,σ',e1,e2,e3,e4,hu σ' v e5,e6⟩⟩
def z52 (x:zX.T):List AV->Option Res:=zGM zAa (fun s=>some (none,some (zF0 s=some x),.tup [(ETy.pt zX).av (some x),zCx.av (0,0,0)]))
theorem z4x (x:zX.T):zAI prog 10 (z52 x):=mkR (zBJ fun s r h=>by
 cases h;intro I vals w hag hv;refine ⟨trivial,fun hq=> ?_⟩;have hq:zF0 s=some x:=hq;have:=(newRow.1 _ _ (rfl:z0K [zAa.av s]=_) I vals w hag hv).2 trivial
 have hc:(zL5 s).1=0:=by
  unfold zF0 at hq;split at hq
  ·assumption
  ·cases hq
 rw [hq,zX3 hc] at this
 exact this) func10
def z6L:List AV->Option Res:=zGM zAa (fun s=>some (none,some (zF0 s=none),.tup [z1C none,zCx.av (zL5 s)]))
theorem z5f:zAI prog 10 z6L:=mkR (zBJ fun s r h=>by
 cases h;intro I vals w hag hv;refine ⟨trivial,fun hq=> ?_⟩;have hq:zF0 s=none:=hq;have:=(newRow.1 _ _ (rfl:z0K [zAa.av s]=_) I vals w hag hv).2 trivial;rw [hq] at this;refine this.mono fun e w' ⟨v,σ',e1,e2,e3,e4,e5,e6⟩=>⟨v,σ',e1,e2,e3,e4,?_,e6⟩;obtain ⟨vs,e,r⟩:=e5
 match vs,r with
 | [a,b],r=>exact ⟨_,e,z1O r.1,r.2.1,trivial⟩) func10
end S1
namespace S1
theorem z8B (n:Int) (l:List P3):zB7 ⟨tyL,[(30,zSk)],[]⟩ f58 [zAa.av (n,l)] (fun v=>v= .s (.bool (isR (n,l)))):=by
 repeat' (conv=>whnf
          first|done|refine qy ?_|refine qG fun _=> ?_|refine qw (fun _=> ?_) (fun _=> ?_)|apply qt|refine qi (fun _=> ?_) (fun _=> ?_)|refine qu ?_|refine qv ?_ ?_|exact zT)
 all_goals try first|refine qz ?_|apply qz5
 all_goals try simp only [qn0,yC,yA,ETy.dflt,Int.reduceToNat,Int.reduceAdd,Int.reduceSub,Int.reduceNeg,Nat.reduceAdd,isR] at *
 obtain ⟨a,b,c⟩:=zL5 (n,l);rw [Bool.eq_iff_iff];simp
def isC:List AV->Option Res:=zGM zAa (fun s=>some (none,none,.s (.bool (isR s))))
theorem isRow:zAI prog 58 isC:=mkR (zBJ fun s r h=>by cases h;exact fb (by exact ⟨zV4,trivial⟩) func58 fun _ _=>z8B s.1 s.2) func58
end S1
namespace S1
def z5B (ap:List Int):Spec Nat where
 inv k:=k<=ap.length
 live k:=[(37,.s (.int .i64 k))]
 keep:=[1,2,4,5,6,7,10,35,36]
 heap k:=[(4,.map jF .bool (z3n (ap.take k)))]
 keepH:=[0,1,2,5]
 mu k:=ap.length - k
def z4z (n:Int) (ap:List Int):Spec Nat where
 inv k:=(k:Int)<=n
 live k:=[(49,.s (.int .i64 k)),(13,.s (.own 5 0 (z41 ap k).length))]
 keep:=[1,2,4,5,6,7,10,14,48]
 heap k:=[(5,.row jF 3 (z41 ap k)),(6,.row jF 3 (z54 n.toNat ap k))]
 keepH:=[0,1,2,4]
 mu k:=n.toNat - k
def z4w (n:Int) (ap:List Int) (l:List P3):Spec Nat where
 inv j:=j<=l.length
 live j:=[(72,.s (.int .i64 j))]
 keep:=[1,2,4,5,6,7,10,13,14,16,70,71]
 heap j:=[(7,.flat 24 [.int .i64 (z41 ap n.toNat).length,.own 8 0 (opT n.toNat ap l j).length]),(8,.row .arr3 58 (opT n.toNat ap l j))]
 keepH:=[0,1,2,4,5,6]
 mu j:=l.length - j
 nils:=[7]
theorem z7w {n:Nat} {ap:List Int} {k:Nat} (h:had (z3n ap) k=true):z54 n ap (k+1)=z54 n ap k:=by
 show z7h ap (z54 n ap k) k=_;unfold z7h;rw [if_pos h]
theorem z7v {n:Nat} {ap:List Int} {k:Nat} (h:had (z3n ap) k=false):z54 n ap (k+1)=(z54 n ap k).set k ((z41 ap k).length:Int):=by
 show z7h ap (z54 n ap k) k=_;unfold z7h;rw [if_neg (by rw [h];simp)]
theorem z7y {ap:List Int} {k:Nat} (h:had (z3n ap) k=true):z41 ap (k+1)=z41 ap k:=by
 rw [z4q];unfold z7p;rw [if_pos h];simp
theorem z7j {ap:List Int} {k:Nat} (h:had (z3n ap) k=false):z41 ap (k+1)=z41 ap k++[(k:Int)]:=by
 rw [z4q];unfold z7p;rw [if_neg (by rw [h];simp)];rfl
theorem z8D {n:Nat} {ap:List Int} {l:List P3} {j:Nat} (h:had (z3n ap) (tg l j).1=true\/had (z3n ap) (tg l j).2.1=true\/had (z3n ap) (tg l j).2.2=true):opT n ap l (j+1)=opT n ap l j:=by
 unfold opT;rw [zBr];conv=>lhs;rhs;rw [opG,if_pos h]
 simp
theorem z8F {n:Nat} {ap:List Int} {l:List P3} {j:Nat} (h1:had (z3n ap) (tg l j).1=false) (h2:had (z3n ap) (tg l j).2.1=false) (h3:had (z3n ap) (tg l j).2.2=false) :
 opT n ap l (j+1)=opT n ap l j++[((z54 n ap n).getD (tg l j).1.toNat 0,(z54 n ap n).getD (tg l j).2.1.toNat 0,(z54 n ap n).getD (tg l j).2.2.toNat 0)]:=by
 unfold opT;rw [zBr];conv=>lhs;rhs;rw [opG,if_neg (by rw [h1,h2,h3];simp)]
 rfl
theorem z6R {x:zX.T} {ap:List Int} (h:z3d x ap≠0):z4D (z3w x ap)= .tup [.agg [.int .i64 0,.val (.slice none 0 0)],.s (.sl jF []),.s (.int .i64 (z3d x ap))]:=by
 unfold z3w z4D;rw [if_pos h,if_neg h]
theorem z6f {x:zX.T} {ap:List Int} (h:z3d x ap=0) (h2: ¬ (zL5 (z4g x.1 ap)).1=0):z4D (z3w x ap)= .tup [.agg [.int .i64 0,.val (.slice none 0 0)],.s (.sl jF []),.s (.int .i64 11)]:=by
 have e:z3w x ap=((0,[]),[],11):=by unfold z3w;rw [if_neg (fun k=>k h),if_neg h2]
 rw [e];unfold z4D;rw [if_neg (by show ¬ (11:Int)=0;omega)]
theorem z6p {x:zX.T} {ap:List Int} (h:z3d x ap=0) (h2:(zL5 (z4g x.1 ap)).1=0):z4D (z3w x ap)= .tup [zAa.av (z4g x.1 ap),.s (.sl jF (z41 ap x.1.1.toNat)),.s (.int .i64 0)]:=by
 have e:z3w x ap=(z4g x.1 ap,z41 ap x.1.1.toNat,0):=by unfold z3w;rw [if_neg (fun k=>k h),if_pos h2]
 rw [e];unfold z4D;rw [if_pos rfl];rfl
attribute [local irreducible] z3n z3d
theorem z7U (n:Int) (l:List P3) (ap:List Int) (x:zX.T) (hx:zF0 (n,l)=some x):zB7 ⟨tyL,[(10,z52 x),(57,z4S),(58,isC)],[]⟩ f33 [zAa.av (n,l),(ETy.sl jF).av ap] (fun r=>r=z4D (z3w x ap)):=by
 obtain ⟨hx1,g,hs⟩:=zQF hx;have e1:x.1=(n,l):=by rw [hx1];rfl
 have hn:0<=n/\n<=4096/\l.length<=8192:=⟨hs.fit.1,hs.fit.2.1,hs.fit.2.2.1⟩;have hin: ∀ i,i<l.length->zHo n (l.getD i (0,0,0))=true:=hs.fit.2.2.2
 repeat' (conv=>whnf
          first|done|refine qy ?_|refine qG fun _=> ?_|refine qw (fun _=> ?_) (fun _=> ?_)|apply qt|refine qi (fun _=> ?_) (fun _=> ?_)|(refine j6 9 rfl (z5B ap) (0) ?_ ?_ ?_ fun k hk=> ?_)|with_reducible refine jX (z5B _) (k+1) ?_ ?_ ?_ ?_|(refine j6 16 rfl (z4z n ap) (0) ?_ ?_ ?_ fun v hv=> ?_)|with_reducible refine jX (z4z _ _) (v+1) ?_ ?_ ?_ ?_|(refine zQr 24 rfl ?_;refine Or.inr (y5 (Nat) (y5 (z4w n ap l) (yH (y5 (0) (yH (jQ.out ?_) (yH ?_ (yH ?_ rfl)))) (fun j hj=> ?_)))))|with_reducible refine jX (z4w _ _ _) (j+1) ?_ ?_ ?_ ?_|refine qu ?_|refine qv ?_ ?_|exact zT)
 all_goals try first|refine qz ?_|apply qz5
 all_goals try simp only [qn0,yC,yA,ETy.dflt,Int.reduceToNat,Int.reduceAdd,Int.reduceSub,Int.reduceNeg,Nat.reduceAdd,z5B,z4z,z4w,z0F,zVl] at *
 all_goals try (refine qh ?_;first|omega|(unfold zAL;omega))
 ·exact qh g.toGood
 ·rw [z6R (by assumption)];exact jJ.intro rfl
 ·unfold z3n;rfl
 ·exact z4v (by omega)
 all_goals have ek:ap.take k=ap:=jR (by omega)
 all_goals try have hln:=zJd (z7p ap) v
 all_goals try have hlm:=zJd (opG n.toNat ap l) j
 all_goals try (refine qh ?_;first|omega|(unfold z41;omega)|(unfold opT;omega))
 all_goals try
  have hh:had (z3n (List.take k ap)) v=true:=by assumption
  rw [ek] at hh
  first
  | (rw [z7y hh];done)
  | (rw [z7w hh];done)
 all_goals try
  have hh:had (z3n (List.take k ap)) v=false:=by assumption
  rw [ek] at hh
  first
  | (rw [z7j hh,z7];rfl)
  | (rw [z7j hh];done)
  | (rw [z7v hh];done)
 all_goals try have ht:=zBF (hin j (by omega))
 all_goals try (refine qh ?_;rw [zA4 hn.1];first|exact ht.1|exact ht.2.1|exact ht.2.2)
 all_goals have ev:v=n.toNat:=by omega
 all_goals subst ev
 ·exact zAM.intro rfl
 all_goals try
  have hh:had (z3n (List.take k ap)) (tg l j).1=true:=by assumption
  rw [ek] at hh;have e:=z8D (n:=n.toNat) (.inl hh)
  first
  | (rw [e];done)
  | (refine zAM.intro ?_;rw [e];done)
 all_goals try
  have hh:had (z3n (List.take k ap)) (tg l j).2.1=true:=by assumption
  rw [ek] at hh;have e:=z8D (n:=n.toNat) (.inr (.inl hh))
  first
  | (rw [e];done)
  | (refine zAM.intro ?_;rw [e];done)
 all_goals try
  have hh:had (z3n (List.take k ap)) (tg l j).2.2=true:=by assumption
  rw [ek] at hh;have e:=z8D (n:=n.toNat) (.inr (.inr hh))
  first
  | (rw [e];done)
  | (refine zAM.intro ?_;rw [e];done)
 all_goals try
  have hh1:had (z3n (List.take k ap)) (tg l j).1=false:=by assumption
  have hh2:had (z3n (List.take k ap)) (tg l j).2.1=false:=by assumption
  have hh3:had (z3n (List.take k ap)) (tg l j).2.2=false:=by assumption
  rw [ek] at hh1 hh2 hh3;have e:=z8F (n:=n.toNat) hh1 hh2 hh3
  first
  | (rw [e];done)
  | (refine zAM.intro ?_;rw [e,z7];rfl)
 all_goals have ej:j=l.length:=by omega
 all_goals subst ej
 all_goals have eo:z4g x.1 ap=(((z41 ap n.toNat).length:Int),opT n.toNat ap l l.length):=by rw [e1];rfl
 all_goals have en:x.1.1.toNat=n.toNat:=by rw [e1]
 all_goals have hck:z3d x ap=0:=by assumption
 ·have hc:zL5 (((z41 ap n.toNat).length:Int),opT n.toNat ap l l.length)=(0,0,0):=by assumption
  rw [z6p hck (by rw [eo,hc]),eo,en];exact jJ.intro rfl
 ·have hc: ¬ zL5 (((z41 ap n.toNat).length:Int),opT n.toNat ap l l.length)=(0,0,0):=by assumption
  rw [z6f hck (by rw [eo];exact fun e=>hc (zX3 e))];exact jJ.intro rfl
theorem z6Y (n:Int) (l:List P3) (ap:List Int) (hx:zF0 (n,l)=none):zB7 ⟨tyL,[(10,z6L),(57,z4S),(58,isC)],[]⟩ f33 [zAa.av (n,l),(ETy.sl jF).av ap] (fun r=>r= .tup [.agg [.int .i64 0,.val (.slice none 0 0)],.s (.sl jF []),.s (.int .i64 11)]):=by
 repeat' (conv=>whnf
          first|done|refine qy ?_|refine qG fun _=> ?_|refine qw (fun _=> ?_) (fun _=> ?_)|apply qt|refine qi (fun _=> ?_) (fun _=> ?_)|refine qu ?_|refine qv ?_ ?_|exact zT)
 all_goals try first|refine qz ?_|apply qz5
 all_goals try simp only [qn0,yC,yA,ETy.dflt,Int.reduceToNat,Int.reduceAdd,Int.reduceSub,Int.reduceNeg,Nat.reduceAdd] at *
 all_goals try exact jJ.intro rfl
 all_goals rfl
theorem z5A {I:Sig} {e:Int} {v:Value} (h:qA I [] (.tup [.agg [.int .i64 0,.val (.slice none 0 0)],.s (.sl jF []),.s (.int .i64 e)]) v):qA I [] (z4h ((0,[]),[],e)) v:=by
 obtain ⟨vs,e1,h⟩:=h
 match vs,h with
 | [a,b,c],⟨⟨ds,ea,h1⟩,h2⟩ =>
   refine ⟨_,e1,⟨ds,ea,?_⟩,h2⟩
   match ds,h1 with
   | [d1,d2],⟨k1,k2,k3⟩ =>
     obtain ⟨k2,_⟩:=k2;subst k2;exact ⟨k1,zCC (.sl .arr3),k3⟩
theorem z4o {I:Sig} {r:(Int×List P3)×List Int×Int} (hr:r.2.2≠0->r=((0,[]),[],r.2.2)) {v:Value} (h:qA I [] (z4D r) v):qA I [] (z4h r) v:=by
 unfold z4D at h;split at h
 ·exact h
 ·rename_i hne;rw [hr hne];exact z5A h
theorem z6k (x:zX.T) (ap:List Int) (h:(z3w x ap).2.2≠0):z3w x ap=((0,[]),[],(z3w x ap).2.2):=by
 unfold z3w at h ⊢;split
 ·rfl
 ·rename_i hc;rw [if_neg hc] at h;split at h
  ·exact absurd rfl h
  ·rename_i h2;rw [if_neg h2]
def z8E:List AV->Option Res:=zNH zAa (.sl jF) (fun s ap=>some (none,none,z4h (z5U s ap)))
theorem z7l:zAI prog 33 z8E:=mkR (zCh fun s ap r h=>by
 cases h;unfold z5U;cases e:zF0 s with
 | none=>exact zDn.res (fb (fn:=[(10,z6L),(57,z4S),(58,isC)]) ⟨z5f,z4t,isRow,trivial⟩ func33 fun _ _=>z6Y s.1 s.2 ap e) fun I v h=>z5A h
 | some x=>exact zDn.res (fb (fn:=[(10,z52 x),(57,z4S),(58,isC)]) ⟨(z4x x),z4t,isRow,trivial⟩ func33 fun _ _=>z7U s.1 s.2 ap x e) fun I v h=>z4o (z6k x ap) h) func33
end S1
namespace S1
def apx (n:Int) (k:Nat):List Int:=(List.range k).map fun (j:Nat)=>n+(j:Int)
theorem z6i (n:Int) (k:Nat):apx n (k+1)=apx n k++[n+(k:Int)]:=by
 unfold apx;rw [List.range_succ,zA8];rfl
theorem z4c (n:Int) (k:Nat):(apx n k).length=k:=by unfold apx;rw [z2,zDg]
def z4V (x:zX.T) (k:Nat):List P3:=x.1.2++z1 (vN x) (zAC x) k
def z3v (x:zX.T):(Int×List P3)×List Int×Int :=
 if vN x+(zAC x).length>4096\/((z4V x (zAC x).length).length:Int)>8192 then ((0,[]),[],7) else ((vN x+(zAC x).length,z4V x (zAC x).length),apx (vN x) (zAC x).length,0)
def z3f (s:Int×List P3):(Int×List P3)×List Int×Int:=match zF0 s with|some x=>z3v x|none=>((0,[]),[],11)
theorem z3q (L:List Int) (z:Int) (m:Nat):(z4C L z m).length=m:=by unfold z4C;rw [z2,zDg]
theorem z4m (x:zX.T): ∀ k,∀ L∈(lpS x k).2,L.length<=10001
 | 0=>fun L h=>(by cases h)
 | k + 1=>fun L h=>by
   have ih:=z4m x k;cases hh:had (lpS x k).1 k with
   | true=>rw [zZ7 hh] at h;exact ih L h
   | false =>
     rw [zMS hh] at h;have h:L∈(if (zAm (some x) k).length>0 then (lpS x k).2++[zAm (some x) k] else (lpS x k).2):=h;split at h
     ·rcases zY.1 h with h|h
      ·exact ih L h
      ·rw [zD] at h;rw [h];exact zRQ
     ·exact ih L h
theorem z4O (x:zX.T) (k:Nat):((zAC x).getD k []).length<=10001:=by
 by_cases h:k<(zAC x).length
 ·exact z4m x _ _ (z3j h)
 ·rw [gdE,zBx (by omega)];exact jB _
theorem z4P (x:zX.T) (k:Nat):z4V x (k+1)=z4V x k++z4C ((zAC x).getD k []) (vN x+(k:Int)) ((zAC x).getD k []).length:=by
 unfold z4V;rw [z5Z,zHR]
theorem z5J (x:zX.T): ∀ k,(z4V x k).length<=x.1.2.length+10001*k
 | 0=>by unfold z4V;rw [z7];simp [z1]
 | k+1=>by
   have ih:=z5J x k;have h2:=z4O x k;rw [z4P,z7,z3q];omega
end S1
namespace S1
theorem z56 {fn} (l:List P3) (hb:l.length<=8192):zGL ⟨tyL,fn,[]⟩ f31 [(ETy.sl .arr3).av l] (fun v obs=>v= .s (.own 0 0 l.length)/\obs=[.row .arr3 58 l]):=by
 repeat' (conv=>whnf
          first|done|refine qy ?_|refine qG fun _=> ?_|refine qw (fun _=> ?_) (fun _=> ?_)|apply qt|refine qi (fun _=> ?_) (fun _=> ?_)|refine qu ?_|refine qv ?_ ?_|exact zT)
 all_goals try first|refine qz ?_|apply qz5
 all_goals try simp only [qn0,yC,yA,ETy.dflt,Int.reduceToNat,Int.reduceAdd,Int.reduceSub,Int.reduceNeg,Nat.reduceAdd] at *
 ·rename_i h;rw [h];rfl
 ·rename_i h;exact h.symm
 ·rfl
def z5C:List AV->Option zLe:=zGM (.sl .arr3) (fun l=>some (none,some (l.length<=8192),.s (.own 0 0 l.length),[.row .arr3 58 l]))
theorem z4k:zEP prog 31 z5C:=zVC (zDa fun l r h=>by cases h;exact fbF (fn:=[]) trivial func31 fun _ h=>z56 l h) func31
def z5o (x:zX.T):Spec Nat where
 inv k:=k<=(zAC x).length
 live k:=[(30,.s (.int .i64 k)),(8,.s (.own 6 0 (apx (vN x) k).length))]
 keep:=[1,2,3,4,5,6,7,28,29]
 heap k:=[(5,.flat 24 [.int .i64 (vN x+k),.own 4 0 (z4V x k).length]),(4,.row .arr3 58 (z4V x k)),(6,.row jF 3 (apx (vN x) k))]
 keepH:=[0,1,2,3]
 mu k:=(zAC x).length - k
def z6B (x:zX.T) (k:Nat):Spec Nat where
 inv i:=i<=((zAC x).getD k []).length
 live i:=[(46,.s (.int .i64 i))]
 keep:=[1,2,3,4,5,6,7,8,10,11,28,29,30,44,45]
 heap i:=[(5,.flat 24 [.int .i64 (vN x+k+1),.own 4 0 (z4V x k++z4C ((zAC x).getD k []) (vN x+k) i).length]),(4,.row .arr3 58 (z4V x k++z4C ((zAC x).getD k []) (vN x+k) i))]
 keepH:=[0,1,2,3,6]
 mu i:=((zAC x).getD k []).length - i
theorem z5p (x:zX.T):(zAC x).length<=(vN x).toNat:=zLX x _
theorem z4R (x:zX.T):z1F (some x)=zAC x:=rfl
theorem z5H {i m:Nat} :((i:Int)+1).tmod (m:Int)=(((i+1) % m:Nat):Int):=by
 rw [show (i:Int)+1=((i+1:Nat):Int) by omega];exact (Int.ofNat_tmod _ _).symm
theorem z4u {x:zX.T} (h:vN x+(zAC x).length>4096\/((z4V x (zAC x).length).length:Int)>8192):z4D (z3v x)= .tup [.agg [.int .i64 0,.val (.slice none 0 0)],.s (.sl jF []),.s (.int .i64 7)]:=by
 have e:z3v x=((0,[]),[],7):=by unfold z3v;rw [if_pos h]
 rw [e];unfold z4D;rw [if_neg (by show ¬ (7:Int)=0;omega)]
theorem z6n {x:zX.T} (h: ¬ (vN x+(zAC x).length>4096\/((z4V x (zAC x).length).length:Int)>8192)):z4D (z3v x)= .tup [zAa.av (vN x+(zAC x).length,z4V x (zAC x).length),.s (.sl jF (apx (vN x) (zAC x).length)),.s (.int .i64 0)]:=by
 have e:z3v x=((vN x+(zAC x).length,z4V x (zAC x).length),apx (vN x) (zAC x).length,0):=by unfold z3v;rw [if_neg h]
 rw [e];unfold z4D;rw [if_pos rfl];rfl
attribute [local irreducible] zAC
theorem z7I (n:Int) (l:List P3) (x:zX.T) (hx:zF0 (n,l)=some x):zB7 ⟨tyL,[(10,z52 x),(19,zTF)],[(31,.res z5C)]⟩ f17 [zAa.av (n,l)] (fun r=>r=z4D (z3v x)):=by
 obtain ⟨hx1,g,hs⟩:=zQF hx;have e1:x.1=(n,l):=by rw [hx1];rfl
 have en:vN x=n:=congrArg Prod.fst e1;have el:x.1.2=l:=congrArg Prod.snd e1;have hn:0<=n/\n<=4096/\l.length<=8192:=⟨hs.fit.1,hs.fit.2.1,hs.fit.2.2.1⟩;have hlk:(zAC x).length<=n.toNat:=by rw [<- en];exact z5p x
 have hLo:z1F (some x)=zAC x:=z4R x
 repeat' (conv=>whnf
          first|done|refine qy ?_|refine qG fun _=> ?_|refine qw (fun _=> ?_) (fun _=> ?_)|apply qt|refine qi (fun _=> ?_) (fun _=> ?_)|(refine j6 7 rfl (z5o x) (0) ?_ ?_ ?_ fun k hk=> ?_)|with_reducible refine jX (z5o _) (k+1) ?_ ?_ ?_ ?_|(refine j6 13 rfl (z6B x k) (0) ?_ ?_ ?_ fun i hi=> ?_)|with_reducible refine jX (z6B _ _) (i+1) ?_ ?_ ?_ ?_|refine qu ?_|refine qv ?_ ?_|exact zT)
 all_goals try first|refine qz ?_|apply qz5
 all_goals try simp only [qn0,yC,yA,ETy.dflt,Int.reduceToNat,Int.reduceAdd,Int.reduceSub,Int.reduceNeg,Nat.reduceAdd,z5o,z6B,z4R,z4c] at *
 all_goals try have hfl:=z5J x k
 all_goals try have hla:=z4O x k
 all_goals try have hsl:=z3q ((zAC x).getD k []) (vN x+(k:Int)) i
 all_goals try have hk1:(k:Int)<(zAC x).length:=by assumption
 all_goals try have hi1:(i:Int)<((zAC x).getD k []).length:=by assumption
 all_goals try have hk2: ¬ (k:Int)<(zAC x).length:=by assumption
 all_goals try have hi2: ¬ (i:Int)<((zAC x).getD k []).length:=by assumption
 all_goals have hel:List.length x.1.2=l.length:=by rw [el]
 all_goals try (refine qh ?_;first|omega|(unfold zAL;omega)|(rw [z7,hsl];omega))
 ·exact qh fun y h=>by cases h;exact g
 ·refine zAM.intro ?_;have e:z4V x 0=x.1.2:=yW _;rw [e,el,<- en,show vN x+((0:Nat):Int)=vN x by omega]
 ·exact (yW _).trans el
 ·refine zAM.intro ?_;rw [z7,z3q];rfl
 ·exact yW _
 ·refine qh ?_;rw [hLo,z5H];have:=Nat.mod_lt (i+1) (y:=((zAC x).getD k []).length) (by omega);omega
 ·refine zAM.intro ?_;rw [z7,z3q,z7,z3q];rfl
 ·rw [hLo,z5H,Int.toNat_natCast,z5V,zHR]
 ·have e:i=((zAC x).getD k []).length:=by omega
  subst e;refine zAM.intro ?_;rw [z4P,show vN x+((k+1:Nat):Int)=vN x+(k:Int)+1 by omega]
 ·have e:i=((zAC x).getD k []).length:=by omega
  subst e;exact z4P x k
 ·rw [z6i,j5,jR (by rw [z4c];omega)]
 all_goals have e:k=(zAC x).length:=by omega
 all_goals subst e
 ·rw [z4u (.inl (by assumption))];exact jJ.intro rfl
 ·rw [z4u (.inr (by assumption))];exact jJ.intro rfl
 ·rw [z6n (by rintro (h|h)<;>contradiction),j5,jR (by rw [z4c];omega)];exact jJ.intro rfl
theorem z6w (n:Int) (l:List P3) (hx:zF0 (n,l)=none):zB7 ⟨tyL,[(10,z6L),(19,zTF)],[(31,.res z5C)]⟩ f17 [zAa.av (n,l)] (fun r=>r= .tup [.agg [.int .i64 0,.val (.slice none 0 0)],.s (.sl jF []),.s (.int .i64 11)]):=by
 repeat' (conv=>whnf
          first|done|refine qy ?_|refine qG fun _=> ?_|refine qw (fun _=> ?_) (fun _=> ?_)|apply qt|refine qi (fun _=> ?_) (fun _=> ?_)|refine qu ?_|refine qv ?_ ?_|exact zT)
 all_goals try first|refine qz ?_|apply qz5
 all_goals try simp only [qn0,yC,yA,ETy.dflt,Int.reduceToNat,Int.reduceAdd,Int.reduceSub,Int.reduceNeg,Nat.reduceAdd] at *
 all_goals try exact jJ.intro rfl
 all_goals rfl
theorem z6o (x:zX.T) (h:(z3v x).2.2≠0):z3v x=((0,[]),[],(z3v x).2.2):=by
 unfold z3v at h ⊢;split
 ·rfl
 ·rename_i hc;rw [if_neg hc] at h;exact absurd rfl h
def z7u:List AV->Option Res:=zGM zAa (fun s=>some (none,none,z4h (z3f s)))
theorem z6z:zAI prog 17 z7u:=mkR (zBJ fun s r h=>by
 cases h;unfold z3f;cases e:zF0 s with
 | none=>exact zDn.res (fb (fn:=[(10,z6L),(19,zTF)]) ⟨z5f,zWi,trivial⟩ func17 (p2:=by exact ⟨z4k,trivial⟩) fun _ _=>z6w s.1 s.2 e) fun I v h=>z5A h
 | some x=>exact zDn.res (fb (fn:=[(10,z52 x),(19,zTF)]) ⟨(z4x x),zWi,trivial⟩ func17 (p2:=by exact ⟨z4k,trivial⟩) fun _ _=>z7I s.1 s.2 x e) fun I v h=>z4o (z6o x) h) func17
end S1
namespace S9
open S1
@[irreducible] def z3z (t:P3) (v:Int):Bool:=t.1==v|| (t.2.1==v|| t.2.2==v)
@[irreducible] def z4l (t:P3) (a b:Int):Bool:=(t.1==a&&t.2.1==b)|| ((t.2.1==a&&t.2.2==b)|| (t.2.2==a&&t.1==b))
theorem z6a {fn} (t:P3) (a b:Int):zB7 ⟨tyL,fn,[]⟩ f106 [ETy.arr3.av t,(ETy.int .i64).av a,(ETy.int .i64).av b] (fun r=>r= .s (.bool (z4l t a b))):=by
 repeat' (conv=>whnf
          first|done|refine qy ?_|refine qG fun _=> ?_|refine qw (fun _=> ?_) (fun _=> ?_)|apply qt|refine qi (fun _=> ?_) (fun _=> ?_)|refine qu ?_|refine qv ?_ ?_|exact zT)
 all_goals try first|refine qz ?_|apply qz5
 all_goals try simp only [qn0,yC,yA,ETy.dflt,Int.reduceToNat,Int.reduceAdd,Int.reduceSub,Int.reduceNeg,Nat.reduceAdd,z4l] at *
 all_goals rw [Bool.eq_iff_iff];simp only [yO,zA,beq_iff_eq,Bool.false_eq_true,true_iff,iff_true,false_iff,iff_false];omega
def z6x:List AV->Option Res:=zNd .arr3 (.int .i64) (.int .i64) (fun t a b=>some (none,none,.s (.bool (z4l t a b))))
theorem z6u:zAI prog 106 z6x:=mkR (zEI fun t a b r h=>by cases h;exact fb (fn:=[]) trivial func106 fun _ _=>z6a t a b) func106
theorem z7P {fn} (t:P3) (v:Int):zB7 ⟨tyL,fn,[]⟩ f61 [ETy.arr3.av t,(ETy.int .i64).av v] (fun r=>r= .s (.bool (z3z t v))):=by
 repeat' (conv=>whnf
          first|done|refine qy ?_|refine qG fun _=> ?_|refine qw (fun _=> ?_) (fun _=> ?_)|apply qt|refine qi (fun _=> ?_) (fun _=> ?_)|refine qu ?_|refine qv ?_ ?_|exact zT)
 all_goals try first|refine qz ?_|apply qz5
 all_goals try simp only [qn0,yC,yA,ETy.dflt,Int.reduceToNat,Int.reduceAdd,Int.reduceSub,Int.reduceNeg,Nat.reduceAdd,z3z] at *
 ·rename_i h;rw [h];simp
 ·rename_i h1 h;rw [h];simp
 ·rename_i h1 h2;rw [beq_false_of_ne h1,beq_false_of_ne h2];rfl
def z69:List AV->Option Res:=zNH .arr3 (.int .i64) (fun t v=>some (none,none,.s (.bool (z3z t v))))
theorem z5D:zAI prog 61 z69:=mkR (zCh fun t v r h=>by cases h;exact fb (fn:=[]) trivial func61 fun _ _=>z7P t v) func61
@[irreducible] def z4M (t u:P3):Bool:=z4l u t.1 t.2.1|| (z4l u t.2.1 t.2.2|| z4l u t.2.2 t.1)
theorem z6V (t u:P3):zB7 ⟨tyL,[(106,z6x)],[]⟩ f85 [ETy.arr3.av t,ETy.arr3.av u] (fun r=>r= .s (.bool (z4M t u))):=by
 repeat' (conv=>whnf
          first|done|refine qy ?_|refine qG fun _=> ?_|refine qw (fun _=> ?_) (fun _=> ?_)|apply qt|refine qi (fun _=> ?_) (fun _=> ?_)|refine qu ?_|refine qv ?_ ?_|exact zT)
 all_goals try first|refine qz ?_|apply qz5
 all_goals try simp only [qn0,yC,yA,ETy.dflt,Int.reduceToNat,Int.reduceAdd,Int.reduceSub,Int.reduceNeg,Nat.reduceAdd,z4M] at *
 all_goals simp [*]
def z5k:List AV->Option Res:=zNH .arr3 .arr3 (fun t u=>some (none,none,.s (.bool (z4M t u))))
theorem z5t:zAI prog 85 z5k:=mkR (zCh fun t u r h=>by cases h;exact fb (by exact ⟨z6u,trivial⟩) func85 fun _ _=>z6V t u) func85
def zRH (n:Int):Nat->List P3->List Wit
 | _,[]=>[]
 | i,t::r=>if zHo n t then zRH n (i+1) r else (1,(i:Int),0)::zRH n (i+1) r
def zV3 (s:Int×List P3):Bool:=decide (s.1<0)|| (decide (s.1>4096)|| decide ((s.2.length:Int)>8192))
def zBk (s:Int×List P3):List Wit:=if zV3 s then [(1,-1,0)] else zRH s.1 0 s.2
def zY5 (n:Int) (l:List P3):Spec (Nat×List Wit) where
 inv x:=x.1<=l.length/\x.2.length<=x.1/\zRH n 0 l=x.2++zRH n x.1 (l.drop x.1)
 live x:=[(4,.s (.int .i64 x.1)),(3,.s (.own 2 0 x.2.length))]
 keep:=[1]
 heap x:=[(2,.row zCx 92 x.2)]
 keepH:=[0]
 mu x:=l.length - x.1
theorem z0B {n:Int} {t:P3} (h:t.1<0\/t.1>=n\/t.2.1<0\/t.2.1>=n\/t.2.2<0\/t.2.2>=n):zHo n t=false:=by
 rw [<- zA0];intro e;have:=zBF e;omega
theorem zPW {n:Int} {t:P3} (h: ¬ (t.1<0\/t.1>=n\/t.2.1<0\/t.2.1>=n\/t.2.2<0\/t.2.2>=n)):zHo n t=true:=by
 simp only [zHo,vIn,zA,y8,Bool.or_eq_false_iff,zB0];omega
theorem z59 {fn} (n:Int) (l:List P3):zGL ⟨tyL,fn,[]⟩ f59 [zAa.av (n,l)] (fun v obs=>v= .s (.own 0 0 (zBk (n,l)).length)/\obs=[.row zCx 92 (zBk (n,l))]):=by
 repeat' (conv=>whnf
          first|done|refine qy ?_|refine qG fun _=> ?_|refine qw (fun _=> ?_) (fun _=> ?_)|apply qt|refine qi (fun _=> ?_) (fun _=> ?_)|(refine j6 5 rfl (zY5 n l) ((0,[])) ?_ ?_ ?_ fun x hx=> ?_)|(refine zQr 9 rfl ?_;refine Or.inl (y5 (4) ?_))|with_reducible refine jX (zY5 _ _) ((x.1+1,if zHo n (l.getD x.1 (0,0,0)) then x.2 else x.2++[(1,(x.1:Int),0)])) ?_ ?_ ?_ ?_|refine qu ?_|refine qv ?_ ?_|exact zT)
 all_goals try first|refine qz ?_|apply qz5
 all_goals try simp only [qn0,yC,yA,ETy.dflt,Int.reduceToNat,Int.reduceAdd,Int.reduceSub,Int.reduceNeg,Nat.reduceAdd,zY5] at *
 all_goals try (refine qh ?_;omega)
 all_goals try (refine qh ?_;simp only [List.length_singleton];omega)
 ·rename_i h;simp only [zBk,zV3,decide_eq_true h,Bool.true_or,if_true];rfl
 ·rename_i h;simp only [zBk,zV3,decide_eq_true h,Bool.true_or,if_true]
 ·rename_i h;simp only [zBk,zV3,decide_eq_true h,Bool.true_or,Bool.or_true,if_true];rfl
 ·rename_i h;simp only [zBk,zV3,decide_eq_true h,Bool.true_or,Bool.or_true,if_true]
 ·rename_i h;simp only [zBk,zV3,decide_eq_true h,Bool.true_or,Bool.or_true,if_true];rfl
 ·rename_i h;simp only [zBk,zV3,decide_eq_true h,Bool.true_or,Bool.or_true,if_true]
 ·exact qh ⟨jB _,zI _,rfl⟩
 all_goals try
  (have ht:zHo n (l.getD x.1 (0,0,0))=false:=z0B (by omega)
   (simp only [ht,Bool.false_eq_true,if_false,z7,List.length_singleton]) <;>
   (refine jQ.intro ⟨by omega,by omega,?_⟩;rw [hx.2.2,zCn (0,0,0) (by assumption),zRH,ht];simp;done))
 all_goals try
  (have ht:zHo n (l.getD x.1 (0,0,0))=true:=zPW (by omega)
   (simp only [ht,if_true]) <;>
   (refine jQ.intro ⟨by omega,by omega,?_⟩;rw [hx.2.2,zCn (0,0,0) (by assumption),zRH,ht];simp;done))
 all_goals
  have e:zBk (n,l)=x.2:=by
   have hb:zV3 (n,l)=false:=by simp only [zV3,Bool.or_eq_false_iff,zB0];omega
   simp only [zBk,hb,Bool.false_eq_true,if_false];rw [hx.2.2,zHS (by assumption)];simp [zRH]
  rw [e]
def z6A:List AV->Option zLe:=zGM zAa (fun s=>some (none,none,.s (.own 0 0 (zBk s).length),[.row zCx 92 (zBk s)]))
theorem z5i:zEP prog 59 z6A:=zVC (zDa fun s r h=>by cases h;exact fbF (fn:=[]) trivial func59 fun _ _=>z59 s.1 s.2) func59
end S9
namespace S9
open S1
@[irreducible] def ptR (k:Int) (t u:P3):Bool:=(k==3&&z4M t u)|| (k==4&&(z3z u t.1&&(z3z u t.2.1&&z3z u t.2.2)))
def prG (l:List P3) (k:Int) (b a:Nat):Option Wit:=if ptR k (l.getD a (0,0,0)) (l.getD b (0,0,0)) then some (k,(a:Int),(b:Int)) else none
def prI (l:List P3) (k:Int) (b a:Nat):List Wit:=(List.range a).filterMap (prG l k b)
def prO (l:List P3) (k:Int) (b:Nat):List Wit:=(List.range b).flatMap fun b=>prI l k b b
theorem z4e (l:List P3) (k:Int) (b a:Nat):prI l k b (a+1)=prI l k b a++(prG l k b a).toList:=by
 unfold prI;rw [List.range_succ,List.filterMap_append];simp only [List.filterMap_cons,List.filterMap_nil];cases prG l k b a<;>rfl
theorem z5L (l:List P3) (k:Int) (b:Nat):prO l k (b+1)=prO l k b++prI l k b b:=by
 unfold prO;rw [List.range_succ,List.flatMap_append];simp
theorem z5w (l:List P3) (k:Int) (b a:Nat):(prI l k b a).length<=a:=by
 unfold prI;exact qT (List.length_filterMap_le _ _) (by simp)
theorem z5z (l:List P3) (k:Int): ∀ b:Nat,b<=8192->(prO l k b).length<=b*8192
 | 0,_=>by simp [prO]
 | b+1,h=>by
   rw [z5L,z7];have:=z5z l k b (by omega);have:=z5w l k b b;omega
def zJ2 (l:List P3) (k:Int):Spec Nat where
 inv b:=b<=l.length
 live b:=[(6,.s (.int .i64 b)),(5,.s (.own 2 0 (prO l k b).length))]
 keep:=[1,2]
 heap b:=[(2,.row zCx 92 (prO l k b))]
 keepH:=[0]
 mu b:=l.length - b
def zJX (l:List P3) (k:Int) (b:Nat):Spec Nat where
 inv a:=a<=b
 live a:=[(7,.s (.int .i64 a)),(5,.s (.own 2 0 (prO l k b++prI l k b a).length))]
 keep:=[1,2,6]
 heap a:=[(2,.row zCx 92 (prO l k b++prI l k b a))]
 keepH:=[0]
 mu a:=b - a
theorem z6T (n:Int) (l:List P3) (k:Int) (hl:l.length<=8192):zGL ⟨tyL,[(85,z5k),(61,z69)],[]⟩ f60 [zAa.av (n,l),(ETy.int .i64).av k] (fun v obs=>v= .s (.own 0 0 (prO l k l.length).length)/\obs=[.row zCx 92 (prO l k l.length)]):=by
 repeat' (conv=>whnf
          first|done|refine qy ?_|refine qG fun _=> ?_|refine qw (fun _=> ?_) (fun _=> ?_)|apply qt|refine qi (fun _=> ?_) (fun _=> ?_)|(refine j6 3 rfl (zJ2 l k) (0) ?_ ?_ ?_ fun b hb=> ?_)|with_reducible refine jX (zJ2 _ _) (b+1) ?_ ?_ ?_ ?_|(refine j6 6 rfl (zJX l k b) (0) ?_ ?_ ?_ fun a ha=> ?_)|with_reducible refine jX (zJX _ _ _) (a+1) ?_ ?_ ?_ ?_|refine qu ?_|refine qv ?_ ?_|exact zT)
 all_goals try first|refine qz ?_|apply qz5
 all_goals try simp only [qn0,yC,yA,ETy.dflt,Int.reduceToNat,Int.reduceAdd,Int.reduceSub,Int.reduceNeg,Nat.reduceAdd,zJ2,zJX] at *
 all_goals try (refine qh ?_;omega)
 all_goals try
  (have h1:=z5z l k b (by omega)
   have h2:=z5w l k b a
   refine qh ?_;rw [z7];omega)
 all_goals try (simp [prI];done)
 all_goals try (exfalso;omega)
 all_goals try
  (have hp:ptR k (l.getD a (0,0,0)) (l.getD b (0,0,0))=true:=by unfold ptR;simp only [*];simp
   rw [z4e,prG,if_pos hp];simp [zAP];done)
 all_goals try
  (have hp:ptR k (l.getD a (0,0,0)) (l.getD b (0,0,0))=false:=by unfold ptR;simp only [*];simp [*]
   rw [z4e,prG,if_neg (by rw [hp];decide)];simp;done)
 all_goals try
  (have hp:ptR k (l.getD a (0,0,0)) (l.getD b (0,0,0))=false:=by
    unfold ptR;rw [beq_false_of_ne (by assumption:k≠3),beq_false_of_ne (by assumption:k≠4)];rfl
   rw [z4e,prG,if_neg (by rw [hp];decide)];simp;done)
 all_goals try
  (have e:a=b:=by omega
   subst e;rw [z5L])
 all_goals
  have e:b=l.length:=by omega
  rw [e]
def z6G:List AV->Option zLe:=zNH zAa (.int .i64) (fun s k=>some (none,some (s.2.length<=8192),.s (.own 0 0 (prO s.2 k s.2.length).length),[.row zCx 92 (prO s.2 k s.2.length)]))
theorem z5g:zEP prog 60 z6G:=zVC (zW6 fun s k r h=>by cases h;exact fbF (by exact ⟨z5t,z5D,trivial⟩) func60 fun _ h=>z6T s.1 s.2 k h) func60
def j4 (l:List P3) (v:Int):List P3:=l.filter (z3z · v)
def tch (v w:Int) (u:P3):Bool:=decide (w≠v)&&z3z u w
@[irreducible] def touch (m:List P3) (v:Int) (i k:Nat):Bool :=
  tch v (m.getD i (0,0,0)).1 (m.getD k (0,0,0))|| (tch v (m.getD i (0,0,0)).2.1 (m.getD k (0,0,0))|| tch v (m.getD i (0,0,0)).2.2 (m.getD k (0,0,0)))
def pk (m:List P3) (v:Int) (i:Nat) (s:List Bool) (k:Nat):List Bool:=if s.getD i false=false\/s.getD k false=true then s else if touch m v i k then s.set k true else s
def z4I (m:List P3) (v:Int) (i:Nat) (s:List Bool) (k:Nat):List Bool:=(List.range k).foldl (pk m v i) s
def z4G (m:List P3) (v:Int) (s:List Bool) (i:Nat):List Bool:=(List.range i).foldl (fun s i=>z4I m v i s m.length) s
def z3y (m:List P3) (v:Int) (r:Nat):List Bool:=(List.range r).foldl (fun s _=>z4G m v s m.length) ((List.replicate m.length false).set 0 true)
@[irreducible] def z3x (l:List P3) (v:Int):Bool:= !(List.range (j4 l v).length).all fun j=>(z3y (j4 l v) v (j4 l v).length).getD j false
theorem z3b (m:List P3) (v:Int) (i:Nat) (s:List Bool) (k:Nat):z4I m v i s (k+1)=pk m v i (z4I m v i s k) k:=by
 unfold z4I;rw [List.range_succ,z3c];rfl
theorem z3h (m:List P3) (v:Int) (s:List Bool) (i:Nat):z4G m v s (i+1)=z4I m v i (z4G m v s i) m.length:=by
 unfold z4G;rw [List.range_succ,z3c];rfl
theorem z3e (m:List P3) (v:Int) (r:Nat):z3y m v (r+1)=z4G m v (z3y m v r) m.length:=by
 unfold z3y;rw [List.range_succ,z3c];rfl
theorem z3u (l:List P3) (v:Int) {i:Nat} (h:(i:Int)<l.length):j4 (l.take (i+1)) v=j4 (l.take i) v++(if z3z (l.getD i (0,0,0)) v then [l.getD i (0,0,0)] else []):=by
 have h:i<l.length:=by omega
 unfold j4;rw [List.take_add_one,List.filter_append,gdE,gE h];simp only [Option.toList_some,qL,List.filter_cons,List.filter_nil]
theorem z58 (l:List P3) (v:Int) (i:Nat):(j4 (l.take i) v).length<=l.length:=by
 unfold j4;exact qT (List.length_filter_le _ _) (by simp;omega)
theorem z48 {s:List Bool} {i k:Nat} (h1:s.getD i false=true) (h2:s.getD k false=false): ¬ (s.getD i false=false\/s.getD k false=true):=by
 rw [h1,h2];decide
theorem z7L {m:List P3} {v:Int} {i k:Nat} (h:((m.getD i (0,0,0)).1≠v/\z3z (m.getD k (0,0,0)) (m.getD i (0,0,0)).1=true)\/((m.getD i (0,0,0)).2.1≠v/\z3z (m.getD k (0,0,0)) (m.getD i (0,0,0)).2.1=true)\/
 ((m.getD i (0,0,0)).2.2≠v/\z3z (m.getD k (0,0,0)) (m.getD i (0,0,0)).2.2=true)):touch m v i k=true:=by
 unfold touch tch;simp only [yO,zA,zF];exact h
theorem z72 {m:List P3} {v:Int} {i k:Nat} (h1:(m.getD i (0,0,0)).1=v\/z3z (m.getD k (0,0,0)) (m.getD i (0,0,0)).1=false) (h2:(m.getD i (0,0,0)).2.1=v\/z3z (m.getD k (0,0,0)) (m.getD i (0,0,0)).2.1=false)
 (h3:(m.getD i (0,0,0)).2.2=v\/z3z (m.getD k (0,0,0)) (m.getD i (0,0,0)).2.2=false): ¬ touch m v i k=true:=by
 have key: ∀ {w:Int} {u:P3},w=v\/z3z u w=false->¬ (w≠v/\z3z u w=true):=by
  rintro w u (h|h) ⟨a,b⟩
  ·exact a h
  ·rw [h] at b;cases b
 unfold touch tch;simp only [yO,zA,zF];rintro (h|h|h)
 ·exact key h1 h
 ·exact key h2 h
 ·exact key h3 h
def zRx (l:List P3) (v:Int):Spec Nat where
 inv i:=i<=l.length
 live i:=[(6,.s (.int .i64 i)),(5,.s (.own 1 0 (j4 (l.take i) v).length))]
 keep:=[1,2]
 heap i:=[(1,.row .arr3 58 (j4 (l.take i) v))]
 keepH:=[0]
 mu i:=l.length - i
def zSO (m:List P3) (v:Int):Spec Nat where
 inv r:=r<=m.length
 live r:=[(45,.s (.int .i64 r))]
 keep:=[1,5,7,44]
 heap r:=[(2,.row .bool 4 (z3y m v r))]
 keepH:=[1]
 mu r:=m.length - r
def z5y (m:List P3) (v:Int) (s:List Bool):Spec Nat where
 inv i:=i<=m.length
 live i:=[(8,.s (.int .i64 i))]
 keep:=[1,5,7,44,45]
 heap i:=[(2,.row .bool 4 (z4G m v s i))]
 keepH:=[1]
 mu i:=m.length - i
def z5d (m:List P3) (v:Int) (i:Nat) (s:List Bool):Spec Nat where
 inv k:=k<=m.length
 live k:=[(9,.s (.int .i64 k))]
 keep:=[1,5,7,8,44,45]
 heap k:=[(2,.row .bool 4 (z4I m v i s k))]
 keepH:=[1]
 mu k:=m.length - k
def z5l (n:Nat) (s:List Bool):Spec Nat where
 inv i:=i<=n/\∀ j,j<i->s.getD j false=true
 live i:=[(12,.s (.int .i64 i))]
 keep:=[1,5,7]
 heap _:=[]
 keepH:=[1,2]
 mu i:=n - i
theorem z5h (n:Int) (l:List P3) (v:Int) (hl:l.length<=8192):zB7 ⟨tyL,[(61,z69)],[]⟩ f62 [zAa.av (n,l),(ETy.int .i64).av v] (fun r=>r= .s (.bool (z3x l v))):=by
 repeat' (conv=>whnf
          first|done|refine qy ?_|refine qG fun _=> ?_|refine qw (fun _=> ?_) (fun _=> ?_)|apply qt|refine qi (fun _=> ?_) (fun _=> ?_)|(refine j6 3 rfl (zRx l v) (0) ?_ ?_ ?_ fun i hi=> ?_)|with_reducible refine jX (zRx _ _) (i+1) ?_ ?_ ?_ ?_|(refine j6 12 rfl (zSO (j4 (l.take i) v) v) (0) ?_ ?_ ?_ fun r hr=> ?_)|with_reducible refine jX (zSO _ _) (r+1) ?_ ?_ ?_ ?_|(refine j6 14 rfl (z5y (j4 (l.take i) v) v (z3y (j4 (l.take i) v) v r)) (0) ?_ ?_ ?_ fun x hx=> ?_)|with_reducible refine jX (z5y _ _ _) (x+1) ?_ ?_ ?_ ?_|(refine j6 17 rfl (z5d (j4 (l.take i) v) v x (z4G (j4 (l.take i) v) v (z3y (j4 (l.take i) v) v r) x)) (0) ?_ ?_ ?_ fun k hk=> ?_)|with_reducible refine jX (z5d _ _ _ _) (k+1) ?_ ?_ ?_ ?_|(refine zQr 21 rfl ?_;refine Or.inl (y5 (4) ?_))|(refine j6 28 rfl (z5l (j4 (l.take i) v).length (z3y (j4 (l.take i) v) v r)) (0) ?_ ?_ ?_ fun y hy=> ?_)|with_reducible refine jX (z5l _ _) (y+1) ?_ ?_ ?_ ?_|refine qu ?_|refine qv ?_ ?_|exact zT)
 all_goals try first|refine qz ?_|apply qz5
 all_goals try simp only [qn0,yC,yA,ETy.dflt,Int.reduceToNat,Int.reduceAdd,Int.reduceSub,Int.reduceNeg,Nat.reduceAdd,zRx,zSO,z5y,z5d,z5l] at *
 all_goals try (refine qh ?_;omega)
 all_goals try rfl
 all_goals try
  (have h:=z58 l v i
   refine qh ?_;omega)
 all_goals try (rw [z3b,pk,if_pos (Or.inl (by assumption))];done)
 all_goals try (rw [z3b,pk,if_pos (Or.inr (by assumption))];done)
 all_goals try (rw [z3b,pk,if_neg (z48 (by assumption) (by assumption)),if_pos (z7L (by first|exact .inl ⟨by assumption,by assumption⟩|exact .inr (.inl ⟨by assumption,by assumption⟩)|exact .inr (.inr ⟨by assumption,by assumption⟩)))];(try simp only [List.set_set]);done)
 all_goals try (rw [z3b,pk,if_neg (z48 (by assumption) (by assumption)),if_neg (z72 (by first|exact .inl (by assumption)|exact .inr (by assumption)) (by first|exact .inl (by assumption)|exact .inr (by assumption)) (by first|exact .inl (by assumption)|exact .inr (by assumption)))];done)
 all_goals try
  (have e:k=(j4 (l.take i) v).length:=by omega
   rw [z3h,<- e];done)
 all_goals try
  (have e:x=(j4 (l.take i) v).length:=by omega
   rw [z3e,<- e];done)
 ·rw [z3u _ _ (by assumption),if_pos (by assumption)];simp
 ·rw [z3u _ _ (by assumption),if_pos (by assumption)]
 ·rw [z3u _ _ (by assumption),if_neg (by rw [‹z3z _ _=false›];decide)];simp
 ·rw [z3u _ _ (by assumption),if_neg (by rw [‹z3z _ _=false›];decide)];simp
 ·have e:l.take i=l:=jR (by omega);rename_i h;rw [e] at h;have h:(j4 l v).length=0:=by omega
  unfold z3x;rw [h];rfl
 ·exact qh ⟨jB _,fun j hj=>absurd hj (by omega)⟩
 ·refine jQ.intro ⟨by omega,fun j hj=> ?_⟩
  by_cases e:j=y
  ·subst e;assumption
  ·exact hy.2 j (by omega)
 all_goals
  have e:l.take i=l:=jR (by omega);have er:r=(j4 (l.take i) v).length:=by omega
  rw [er] at hy;rw [e] at hy
 ·rename_i h;have hyl:y<(j4 l v).length:=by rw [<- e];omega
  rw [er,e] at h;unfold z3x;symm;rw [y8,<- zA0,zO];intro hh;rw [hh y (zW.2 hyl)] at h;cases h
 ·rename_i h;rw [e] at h;have hyl:(j4 l v).length<=y:=by omega
  unfold z3x;symm;rw [Bool.not_eq_false',zO];intro j hj;exact hy.2 j (by have:=zW.1 hj;omega)
def z5r:List AV->Option Res:=zNH zAa (.int .i64) (fun s v=>some (none,some (s.2.length<=8192),.s (.bool (z3x s.2 v))))
theorem z5b:zAI prog 62 z5r:=mkR (zCh fun s v r h=>by cases h;exact fb (by exact ⟨z5D,trivial⟩) func62 fun _ h=>z5h s.1 s.2 v h) func62
end S9
namespace S9
open S1
theorem z6j {l:List P3} {f:P3->Bool} {b z:Bool} {x:Nat} (hi:x<=l.length/\(b|| l.any f)=(z|| (l.drop x).any f)) (h:(x:Int)<l.length):x+1<=l.length/\(b|| l.any f)=(z|| f (l.getD x (0,0,0))|| (l.drop (x+1)).any f) :=
 ⟨by omega,by rw [hi.2,zCn (0,0,0) h,List.any_cons,Bool.or_assoc]⟩
theorem z7K {l:List P3} {f:P3->Bool} {b z:Bool} {x:Nat} (hi:x<=l.length/\(b|| l.any f)=(z|| (l.drop x).any f)) (h: ¬ (x:Int)<l.length):(b|| l.any f)=z:=by
 rw [hi.2,zHS h];simp
@[irreducible] def zXP (t:P3):Bool:=t.1==t.2.1|| (t.2.1==t.2.2|| t.2.2==t.1)
def dgG (l:List P3) (i:Nat):Option Wit:=if zXP (l.getD i (0,0,0)) then some (2,(i:Int),0) else none
def dgL (l:List P3) (i:Nat):List Wit:=(List.range i).filterMap (dgG l)
def loG (l:List P3) (v:Nat):Option Wit:=if l.any (z3z · v) then none else some (5,(v:Int),0)
def loL (l:List P3) (v:Nat):List Wit:=(List.range v).filterMap (loG l)
def piG (l:List P3) (v:Nat):Option Wit:=if z3x l v then some (6,(v:Int),0) else none
def piL (l:List P3) (v:Nat):List Wit:=(List.range v).filterMap (piG l)
def allR (s:Int×List P3):List Wit :=
 if 0<(zBk s).length then zBk s else if 0<(dgL s.2 s.2.length).length then dgL s.2 s.2.length else if 0<(prO s.2 3 s.2.length).length then prO s.2 3 s.2.length else
 if 0<(prO s.2 4 s.2.length).length then prO s.2 4 s.2.length else if 0<(loL s.2 s.1.toNat).length then loL s.2 s.1.toNat else piL s.2 s.1.toNat
theorem zBr {α:Type _} (f:Nat->Option α) (i:Nat):(List.range (i+1)).filterMap f=(List.range i).filterMap f++(f i).toList:=by
 rw [List.range_succ,List.filterMap_append];simp only [List.filterMap_cons,List.filterMap_nil];cases f i<;>rfl
theorem zJd {α:Type _} (f:Nat->Option α) (i:Nat):((List.range i).filterMap f).length<=i:=qT (List.length_filterMap_le _ _) (by simp)
theorem z4A {s:Int×List P3} (h: ¬ ((zBk s).length:Int)>0):zV3 s=false/\zBk s=[]:=by
 have h:(zBk s).length=0:=by omega
 refine ⟨?_,List.eq_nil_of_length_eq_zero h⟩;cases hb:zV3 s with
 | false=>rfl
 | true=>unfold zBk at h;rw [hb] at h;simp at h
theorem z43 {n:Int} {l:List P3} (h:zV3 (n,l)=false):0<=n/\n<=4096/\l.length<=8192:=by
 simp only [zV3,Bool.or_eq_false_iff,zB0] at h;omega
theorem z0V {t:P3} (h:t.1=t.2.1\/t.2.1=t.2.2\/t.2.2=t.1):zXP t=true:=by
 unfold zXP;simp only [yO,beq_iff_eq];exact h
theorem z2U {t:P3} (h1:t.1≠t.2.1) (h2:t.2.1≠t.2.2) (h3:t.2.2≠t.1):zXP t=false:=by
 unfold zXP;rw [beq_false_of_ne h1,beq_false_of_ne h2,beq_false_of_ne h3];rfl
theorem z3W {l:List P3} {i:Nat} (h:zXP (l.getD i (0,0,0))=true):dgL l (i+1)=dgL l i++[(2,(i:Int),0)]:=by
 unfold dgL;rw [zBr,dgG,if_pos h];rfl
theorem z34 {l:List P3} {i:Nat} (h:zXP (l.getD i (0,0,0))=false):dgL l (i+1)=dgL l i:=by
 unfold dgL;rw [zBr,dgG,if_neg (by rw [h];decide)];simp
theorem z33 {l:List P3} {v:Nat} (h:(l.any (z3z · v))=true):loL l (v+1)=loL l v:=by
 unfold loL;rw [zBr,loG,if_pos h];simp
theorem z36 {l:List P3} {v:Nat} (h:(l.any (z3z · v))=false):loL l (v+1)=loL l v++[(5,(v:Int),0)]:=by
 unfold loL;rw [zBr,loG,if_neg (by rw [h];decide)];rfl
theorem z31 {l:List P3} {v:Nat} (h:z3x l v=true):piL l (v+1)=piL l v++[(6,(v:Int),0)]:=by
 unfold piL;rw [zBr,piG,if_pos h];rfl
theorem z37 {l:List P3} {v:Nat} (h:z3x l v=false):piL l (v+1)=piL l v:=by
 unfold piL;rw [zBr,piG,if_neg (by rw [h];decide)];simp
section
variable {n:Int} {l:List P3}
theorem z7s (h:((zBk (n,l)).length:Int)>0):allR (n,l)=zBk (n,l):=by
 unfold allR;rw [if_pos (by omega)]
theorem z7q (h1: ¬ ((zBk (n,l)).length:Int)>0) {i:Nat} (hi:i=l.length) (h2:((dgL l i).length:Int)>0):allR (n,l)=dgL l i:=by
 subst hi;unfold allR;rw [if_neg (by omega),if_pos (by dsimp only;omega)]
theorem z7t (h1: ¬ ((zBk (n,l)).length:Int)>0) {i:Nat} (hi:i=l.length) (h2: ¬ ((dgL l i).length:Int)>0) (h3:((prO l 3 l.length).length:Int)>0):allR (n,l)=prO l 3 l.length:=by
 subst hi;unfold allR;rw [if_neg (by omega),if_neg (by dsimp only;omega),if_pos (by dsimp only;omega)]
theorem z8A (h1: ¬ ((zBk (n,l)).length:Int)>0) {i:Nat} (hi:i=l.length) (h2: ¬ ((dgL l i).length:Int)>0) (h3: ¬ ((prO l 3 l.length).length:Int)>0) (h4:((prO l 4 l.length).length:Int)>0):allR (n,l)=prO l 4 l.length:=by
 subst hi;unfold allR;rw [if_neg (by omega),if_neg (by dsimp only;omega),if_neg (by dsimp only;omega),if_pos (by dsimp only;omega)]
theorem z7x (h1: ¬ ((zBk (n,l)).length:Int)>0) {i:Nat} (hi:i=l.length) (h2: ¬ ((dgL l i).length:Int)>0) (h3: ¬ ((prO l 3 l.length).length:Int)>0) (h4: ¬ ((prO l 4 l.length).length:Int)>0) {v:Nat} (hv:v=n.toNat) (h5:((loL l v).length:Int)>0):allR (n,l)=loL l v:=by
 subst hi;subst hv;unfold allR;rw [if_neg (by omega),if_neg (by dsimp only;omega),if_neg (by dsimp only;omega),if_neg (by dsimp only;omega),if_pos (by dsimp only;omega)]
theorem z7z (h1: ¬ ((zBk (n,l)).length:Int)>0) {i:Nat} (hi:i=l.length) (h2: ¬ ((dgL l i).length:Int)>0) (h3: ¬ ((prO l 3 l.length).length:Int)>0) (h4: ¬ ((prO l 4 l.length).length:Int)>0) {v:Nat} (hv:v=n.toNat) (h5: ¬ ((loL l v).length:Int)>0) {y:Nat} (hy:y=n.toNat):allR (n,l)=piL l y:=by
 subst hi;subst hv;subst hy;unfold allR;rw [if_neg (by omega),if_neg (by dsimp only;omega),if_neg (by dsimp only;omega),if_neg (by dsimp only;omega),if_neg (by dsimp only;omega)]
end
def z6C (l:List P3):Spec Nat where
 inv i:=i<=l.length
 live i:=[(4,.s (.int .i64 i)),(3,.s (.own 2 0 (dgL l i).length))]
 keep:=[1]
 heap i:=[(2,.row zCx 92 (dgL l i))]
 keepH:=[0]
 mu i:=l.length - i
def z5u (n:Int) (l:List P3):Spec Nat where
 inv v:=(v:Int)<=n
 live v:=[(6,.s (.int .i64 v)),(3,.s (.own 4 0 (loL l v).length))]
 keep:=[1]
 heap v:=[(4,.row zCx 92 (loL l v))]
 keepH:=[0]
 mu v:=n.toNat - v
def z6H (l:List P3) (v:Nat):Spec (Nat×Bool) where
 inv x:=x.1<=l.length/\(false|| l.any (z3z · v))=(x.2|| (l.drop x.1).any (z3z · v))
 live x:=[(8,.s (.int .i64 x.1)),(7,.s (.bool x.2))]
 keep:=[1,3,6]
 heap _:=[]
 keepH:=[0,4]
 mu x:=l.length - x.1
def z57 (n:Int) (l:List P3):Spec Nat where
 inv v:=(v:Int)<=n
 live v:=[(9,.s (.int .i64 v)),(3,.s (.own 4 0 (piL l v).length))]
 keep:=[1]
 heap v:=[(4,.row zCx 92 (piL l v))]
 keepH:=[0]
 mu v:=n.toNat - v
theorem z7H (n:Int) (l:List P3):zGL ⟨tyL,[(61,z69),(62,z5r)],[(59,.res z6A),(60,.res z6G)]⟩ f34 [zAa.av (n,l)] (fun v obs=>v= .s (.own 0 0 (allR (n,l)).length)/\obs=[.row zCx 92 (allR (n,l))]):=by
 repeat' (conv=>whnf
          first|done|refine qy ?_|refine qG fun _=> ?_|refine qw (fun _=> ?_) (fun _=> ?_)|apply qt|refine qi (fun _=> ?_) (fun _=> ?_)|(refine j6 5 rfl (z6C l) (0) ?_ ?_ ?_ fun i hi=> ?_)|with_reducible refine jX (z6C _) (i+1) ?_ ?_ ?_ ?_|(refine j6 19 rfl (z5u n l) (0) ?_ ?_ ?_ fun v hv=> ?_)|with_reducible refine jX (z5u _ _) (v+1) ?_ ?_ ?_ ?_|(refine j6 23 rfl (z6H l v) ((0,false)) ?_ ?_ ?_ fun x hx=> ?_)|with_reducible refine jX (z6H _ _) ((x.1+1,x.2|| z3z (l.getD x.1 (0,0,0)) v)) ?_ ?_ ?_ ?_|(refine j6 31 rfl (z57 n l) (0) ?_ ?_ ?_ fun y hy=> ?_)|with_reducible refine jX (z57 _ _) (y+1) ?_ ?_ ?_ ?_|refine qu ?_|refine qv ?_ ?_|exact zT)
 all_goals try first|refine qz ?_|apply qz5
 all_goals try simp only [qn0,yC,yA,ETy.dflt,Int.reduceToNat,Int.reduceAdd,Int.reduceSub,Int.reduceNeg,Nat.reduceAdd,z6C,z5u,z6H,z57] at *
 all_goals try (refine qh ?_;omega)
 all_goals try
  (have hb:=z43 (z4A (s:=(n,l)) (by assumption)).1
   refine qh ?_;first|omega|(simp only [zAL];omega))
 all_goals try
  (have hb:=z43 (z4A (s:=(n,l)) (by assumption)).1
   have h1:=zJd (dgG l) i
   refine qh ?_;simp only [dgL,loL,piL];first|omega|(have h2:=zJd (loG l) v;first|omega|(have h3:=zJd (piG l) y;omega)))
 all_goals try first
  | rw [z7s (by assumption)]
  | rw [z7q (i:=i) (by assumption) (by omega) (by assumption)]
  | rw [z7t (i:=i) (by assumption) (by omega) (by assumption) (by assumption)]
  | rw [z8A (i:=i) (by assumption) (by omega) (by assumption) (by assumption) (by assumption)]
  | rw [z7x (i:=i) (v:=v) (by assumption) (by omega) (by assumption) (by assumption) (by assumption) (by omega) (by assumption)]
  | rw [z7z (i:=i) (v:=v) (y:=y) (by assumption) (by omega) (by assumption) (by assumption) (by assumption) (by omega) (by assumption) (by omega)]
 all_goals try
  (have hd:zXP (l.getD i (0,0,0))=true:=z0V (by omega)
   rw [z3W hd];(try simp only [z7,List.length_singleton]);done)
 all_goals try
  (have hd:zXP (l.getD i (0,0,0))=false:=z2U (by omega) (by omega) (by omega)
   rw [z34 hd];done)
 all_goals try (rw [(z4A (s:=(n,l)) (by assumption)).2];rfl)
 all_goals try (rw [List.eq_nil_of_length_eq_zero (l:=prO l 4 l.length) (by omega)];rfl)
 all_goals try (rw [List.eq_nil_of_length_eq_zero (l:=loL l v) (by omega)];rfl)
 all_goals try first
  | exact qh ⟨jB _,rfl⟩
  | exact qh (z6j hx (by assumption))
  | (simp only [*];done)
  | (simp only [*];simp;done)
 all_goals try (rw [z37 (by assumption)];done)
 all_goals try (rw [z31 (by assumption)];(try simp only [z7,List.length_singleton]);done)
 all_goals
  have hu:=z7K hx (by assumption);rw [Bool.false_or] at hu
 all_goals first
  | (rw [z33 (hu.trans (by assumption))];done)
  | (rw [z36 (hu.trans (by assumption))];(try simp only [z7,List.length_singleton]);done)
def z7n:List AV->Option zLe:=zGM zAa (fun s=>some (none,none,.s (.own 0 0 (allR s).length),[.row zCx 92 (allR s)]))
theorem z7S:zEP prog 34 z7n:=zVC (zDa fun s r h=>by cases h;exact fbF (by exact ⟨z5D,z5b,trivial⟩) func34 (p2:=by exact ⟨z5i,z5g,trivial⟩) fun _ _=>z7H s.1 s.2) func34
def z4X (s:Int×List P3):Bool:=(allR s).length==0
theorem z6h (s:Int×List P3):zB7 ⟨tyL,[],[(34,.res z7n)]⟩ f16 [zAa.av s] (fun v=>v= .s (.bool (z4X s))):=by
 repeat' (conv=>whnf
          first|done|refine qy ?_|refine qG fun _=> ?_|refine qw (fun _=> ?_) (fun _=> ?_)|apply qt|refine qi (fun _=> ?_) (fun _=> ?_)|refine qu ?_|refine qv ?_ ?_|exact zT)
 all_goals try first|refine qz ?_|apply qz5
 all_goals try simp only [qn0,yC,yA,ETy.dflt,Int.reduceToNat,Int.reduceAdd,Int.reduceSub,Int.reduceNeg,Nat.reduceAdd,z4X] at *
 rw [Bool.eq_iff_iff,beq_iff_eq,beq_iff_eq];omega
def z4Y:List AV->Option Res:=zGM zAa (fun s=>some (none,none,.s (.bool (z4X s))))
theorem z4L:zAI prog 16 z4Y:=mkR (zBJ fun s r h=>by cases h;exact fb (fn:=[]) trivial func16 (p2:=by exact ⟨z7S,trivial⟩) fun _ _=>z6h s) func16
end S9
namespace S9
open S1
theorem z3k {t:P3} {v:Int} :z3z t v=true↔zV t v:=by
 unfold z3z zV;simp only [yO,beq_iff_eq]
theorem z6Q {t:P3} {a b:Int} :z4l t a b=true↔dE t a b:=by
 unfold z4l dE;simp only [yO,zA,beq_iff_eq]
theorem z4Z {t u:P3} :z4M t u=true↔∃ a b,dE t a b/\dE u a b:=by
 unfold z4M;simp only [yO,z6Q];constructor
 ·rintro (h|h|h)
  ·exact ⟨_,_,.inl ⟨rfl,rfl⟩,h⟩
  ·exact ⟨_,_,.inr (.inl ⟨rfl,rfl⟩),h⟩
  ·exact ⟨_,_,.inr (.inr ⟨rfl,rfl⟩),h⟩
 ·rintro ⟨a,b,(⟨rfl,rfl⟩|⟨rfl,rfl⟩|⟨rfl,rfl⟩),h⟩
  ·exact .inl h
  ·exact .inr (.inl h)
  ·exact .inr (.inr h)
theorem z4b {n:Int} : ∀ {l:List P3} {i:Nat},zRH n i l=[]↔∀ t∈l,zHo n t=true
 | [],_=>⟨fun _ t h=>(by cases h),fun _=>rfl⟩
 | t ::r,i=>by
   unfold zRH;split
   ·rename_i h;rw [z4b]
    exact ⟨fun k u hu=>by
     rcases zP.1 hu with e|hu
     ·rw [e];exact h
     ·exact k u hu,fun k u hu=>k u (zM _ hu)⟩
   ·rename_i h;exact ⟨fun k=>(by cases k),fun k=>absurd (k t (zQ ..)) h⟩
theorem z5O {l:List P3} {p:P3->Prop} :(∀ t∈l,p t)↔∀ i,i<l.length->p (tg l i):=by
 constructor
 ·intro h i hi;unfold tg;rw [gdE,gE hi];exact h _ (y6 hi)
 ·intro h t ht;obtain ⟨i,hi,e⟩:=yG.1 ht;have:=h i hi;unfold tg at this;rw [gdE,gE hi] at this;rw [<- e];exact this
theorem z6b {s:Int×List P3} :zBk s=[]↔zLo s:=by
 obtain ⟨n,l⟩:=s;unfold zBk;constructor
 ·intro h;cases hb:zV3 (n,l) with
  | true=>rw [hb] at h;cases h
  | false =>
    rw [hb] at h;have h:zRH n 0 l=[]:=h;have:=z43 hb;exact ⟨this.1,this.2.1,this.2.2,z5O.1 (z4b.1 h)⟩
 ·intro h;have h1:0<=n:=h.1;have h2:n<=4096:=h.2.1;have h3:l.length<=8192:=h.2.2.1
  have hb:zV3 (n,l)=false:=by
   unfold zV3;simp only [Bool.or_eq_false_iff,zB0];omega
  rw [hb];exact z4b.2 (z5O.2 h.2.2.2)
theorem z7b {l:List P3} :dgL l l.length=[]↔∀ i,i<l.length->¬ dgn (tg l i):=by
 unfold dgL;rw [jC];constructor
 ·intro h i hi e;have:=h i (zW.2 hi);unfold dgG at this;rw [if_pos (z0V e)] at this;cases this
 ·intro h i hi;have h:=h i (zW.1 hi);unfold dgn at h;unfold dgG;rw [if_neg ?_];rw [z2U (fun e=>h (.inl e)) (fun e=>h (.inr (.inl e))) (fun e=>h (.inr (.inr e)))];simp
theorem z6F {l:List P3} {k:Int} :prO l k l.length=[]↔∀ i j,i<j->j<l.length->ptR k (tg l i) (tg l j)=false:=by
 unfold prO prI;rw [List.flatMap_eq_nil_iff];constructor
 ·intro h i j hij hj;have:=jC.1 (h j (zW.2 hj)) i (zW.2 hij);unfold prG at this;split at this
  ·cases this
  ·rename_i e;rw [<- zA0];exact e
 ·intro h j hj;refine jC.2 fun i hi=> ?_;unfold prG;rw [if_neg (by rw [h i j (zW.1 hi) (zW.1 hj)];simp)]
theorem pt3 {t u:P3} :ptR 3 t u=z4M t u:=by unfold ptR;simp
theorem pt4 {t u:P3} :ptR 4 t u=(z3z u t.1&&(z3z u t.2.1&&z3z u t.2.2)):=by unfold ptR;simp
theorem z7a {l:List P3} {n:Nat} :loL l n=[]↔∀ v:Nat,v<n->∃ j,j<l.length/\zV (tg l j) v:=by
 unfold loL;rw [jC]
 have key: ∀ v:Nat,l.any (z3z · v)=true↔∃ j,j<l.length/\zV (tg l j) v:=fun v=>by
  rw [z4W];constructor
  ·rintro ⟨t,ht,hv⟩;obtain ⟨i,hi,e⟩:=yG.1 ht;refine ⟨i,hi,?_⟩;unfold tg;rw [gdE,gE hi];exact z3k.1 (by rw [<- e] at hv;exact hv)
  ·rintro ⟨j,hj,h⟩;unfold tg at h;rw [gdE,gE hj] at h;exact ⟨_,y6 hj,z3k.2 h⟩
 constructor
 ·intro h v hv;have:=h v (zW.2 hv);unfold loG at this;split at this
  ·rename_i e;exact (key v).1 e
  ·cases this
 ·intro h v hv;unfold loG;rw [if_pos ((key v).2 (h v (zW.1 hv)))]
theorem z4U {m:List P3} {v:Int} {i k:Nat} :touch m v i k=true↔∃ w,w≠v/\zV (tg m i) w/\zV (tg m k) w:=by
 unfold touch tch;simp only [yO,zA,zF,z3k];constructor
 ·rintro (⟨h1,h2⟩|⟨h1,h2⟩|⟨h1,h2⟩)
  ·exact ⟨_,h1,.inl rfl,h2⟩
  ·exact ⟨_,h1,.inr (.inl rfl),h2⟩
  ·exact ⟨_,h1,.inr (.inr rfl),h2⟩
 ·rintro ⟨w,h1,(h2|h2|h2),h3⟩
  ·subst h2;exact .inl ⟨h1,h3⟩
  ·subst h2;exact .inr (.inl ⟨h1,h3⟩)
  ·subst h2;exact .inr (.inr ⟨h1,h3⟩)
section
variable {m:List P3} {v:Int}
theorem z3t {s:List Bool} {k j:Nat} :(s.set k true).getD j false=if k=j/\j<s.length then true else s.getD j false:=by
 rw [gdE,qI,gdE]
 by_cases e:k=j
 ·subst e
  by_cases h:k<s.length
  ·simp [h]
  ·simp [h]
 ·simp [e]
theorem z7i {i k:Nat} {s:List Bool} :(pk m v i s k).length=s.length:=by
 unfold pk;split
 ·rfl
 ·split
  ·rw [qZ]
  ·rfl
theorem z5E {i k j:Nat} {s:List Bool} (h:s.getD j false=true):(pk m v i s k).getD j false=true:=by
 unfold pk;split
 ·exact h
 ·split
  ·rw [z3t];split
   ·rfl
   ·exact h
  ·exact h
theorem z4B {i:Nat} {s:List Bool} : ∀ k,(z4I m v i s k).length=s.length
 | 0=>rfl
 | k+1=>by rw [z3b,z7i,z4B k]
theorem z4F {s:List Bool} : ∀ i,(z4G m v s i).length=s.length
 | 0=>rfl
 | i+1=>by rw [z3h,z4B,z4F i]
theorem z4T: ∀ r,(z3y m v r).length=m.length
 | 0=>by show ((List.replicate m.length false).set 0 true).length=_;simp
 | r+1=>by rw [z3e,z4F,z4T r]
theorem z3r {i j:Nat} {s:List Bool} (h:s.getD j false=true): ∀ k,(z4I m v i s k).getD j false=true
 | 0=>h
 | k+1=>by rw [z3b];exact z5E (z3r h k)
theorem z3s {j:Nat} {s:List Bool} (h:s.getD j false=true): ∀ i,(z4G m v s i).getD j false=true
 | 0=>h
 | i+1=>by rw [z3h];exact z3r (z3s h i) _
theorem z4i {i k:Nat} {s:List Bool} (hi:s.getD i false=true) (ht:touch m v i k=true) (hk:k<s.length): ∀ n,k<n->(z4I m v i s n).getD k false=true
 | n + 1,h=>by
   rw [z3b]
   by_cases e:k=n
   ·subst e;have h1:=z3r (m:=m) (v:=v) (i:=i) hi k;cases h2:(z4I m v i s k).getD k false with
    | true=>exact z5E h2
    | false =>
      unfold pk;rw [if_neg (z48 h1 h2),if_pos ht,z3t,if_pos ⟨rfl,by rw [z4B];exact hk⟩]
   ·exact z5E (z4i hi ht hk n (by omega))
theorem z4p {i k:Nat} {s:List Bool} (hi:s.getD i false=true) (ht:touch m v i k=true) (hk:k<s.length) (hm:k<m.length): ∀ n,i<n->(z4G m v s n).getD k false=true
 | n +1,h=>by
   rw [z3h]
   by_cases e:i=n
   ·subst e;exact z4i (z3s hi i) ht (by rw [z4F];exact hk) _ hm
   ·exact z3r (z4p hi ht hk hm n (by omega)) _
def Clo (m:List P3) (v:Int) (s:List Bool):Prop:= ∀ i k,i<m.length->k<m.length->s.getD i false=true->touch m v i k=true->s.getD k false=true
def z6c (m:List P3) (s:List Bool):Nat:=((List.range m.length).filter fun j=> !s.getD j false).length
theorem z7g {i k:Nat} {s:List Bool} (h:Clo m v s) (hi:i<m.length) (hk:k<m.length):pk m v i s k=s:=by
 unfold pk;split
 ·rfl
 ·rename_i hn;split
  ·rename_i ht;have h1:s.getD i false=true:=by cases e:s.getD i false with|true=>rfl|false=>exact absurd (.inl e) hn
   exact absurd (.inr (h i k hi hk h1 ht)) hn
  ·rfl
theorem z4s {i:Nat} {s:List Bool} (h:Clo m v s) (hi:i<m.length): ∀ k,k<=m.length->z4I m v i s k=s
 | 0,_=>rfl
 | k+1,hk=>by rw [z3b,z4s h hi k (by omega),z7g h hi (by omega)]
theorem z4Q {s:List Bool} (h:Clo m v s): ∀ i,i<=m.length->z4G m v s i=s
 | 0,_=>rfl
 | i+1,hi=>by rw [z3h,z4Q h i (by omega),z4s h (by omega) _ (zI _)]
theorem z6U {s:List Bool} (hl:s.length=m.length):Clo m v s\/z6c m (z4G m v s m.length)+1<=z6c m s:=by
 by_cases h:Clo m v s
 ·exact .inl h
 ·right;unfold Clo at h
  have: ∃ i k,i<m.length/\k<m.length/\s.getD i false=true/\touch m v i k=true/\s.getD k false=false:=by
   refine yE fun hn=>h fun i k hi hk h1 h2=> ?_;cases e:s.getD k false with
   | true=>rfl
   | false=>exact absurd ⟨i,k,hi,hk,h1,h2,e⟩ hn
  obtain ⟨i,k,hi,hk,h1,h2,h3⟩:=this;unfold z6c;refine zTL (a:=k) (fun j hj=> ?_) (by rw [h3];rfl) (by rw [z4p h1 h2 (by rw [hl];exact hk) hk _ hi];simp) (zW.2 hk);cases e:s.getD j false with
  | false=>rfl
  | true=>rw [z3s e] at hj;exact absurd hj (by simp)
theorem z40 (hm:0<m.length): ∀ r,Clo m v (z3y m v r)\/z6c m (z3y m v r)+r+1<=m.length
 | 0=>by
   right;have h0:((List.replicate m.length false).set 0 true).getD 0 false=true:=by rw [z3t,if_pos ⟨rfl,by simpa using hm⟩]
   have:=zTL (p:=fun _:Nat=>true) (q:=fun j=> !((List.replicate m.length false).set 0 true).getD j false) (fun _ _=>rfl) (a:=0) rfl (by rw [h0];simp) (l:=List.range m.length) (zW.2 hm);have e:((List.range m.length).filter fun _:Nat=>true).length=m.length:=by rw [List.filter_eq_self.2 (fun _ _=>rfl),zDg]
   show ((List.range m.length).filter fun j=> !((List.replicate m.length false).set 0 true).getD j false).length+0+1<=_;rw [e] at this;omega
 | r +1=>by
   rcases z40 hm r with h|h
   ·left;rw [z3e,z4Q h _ (zI _)];exact h
   ·rcases z6U (m:=m) (v:=v) (z4T (m:=m) (v:=v) r) with h'|h'
    ·left;rw [z3e,z4Q h' _ (zI _)];exact h'
    ·right;rw [z3e];omega
theorem z6D (hm:0<m.length):Clo m v (z3y m v m.length):=by
 rcases z40 (v:=v) hm m.length with h|h
 ·exact h
 ·omega
theorem z42 (hm:0<m.length): ∀ r,(z3y m v r).getD 0 false=true
 | 0=>by
   show ((List.replicate m.length false).set 0 true).getD 0 false=true;rw [z3t,if_pos ⟨rfl,by simpa using hm⟩]
 | r+1=>by rw [z3e];exact z3s (z42 hm r) _
theorem z7r {Q:Nat->Prop} (hc: ∀ i k,k<m.length->Q i->touch m v i k=true->Q k) {i k:Nat} {s:List Bool} (hl:s.length=m.length) (h: ∀ j,s.getD j false=true->Q j): ∀ j,(pk m v i s k).getD j false=true->Q j:=by
 unfold pk;split
 ·exact h
 ·rename_i hn;split
  ·rename_i ht;intro j hj;rw [z3t] at hj;split at hj
   ·rename_i e;obtain ⟨rfl,e2⟩:=e;refine hc i _ (by rw [<- hl];exact e2) (h i ?_) ht;cases e:s.getD i false with|true=>rfl|false=>exact absurd (.inl e) hn
   ·exact h j hj
  ·exact h
theorem z5Q {Q:Nat->Prop} (hc: ∀ i k,k<m.length->Q i->touch m v i k=true->Q k) {i:Nat} {s:List Bool} (hl:s.length=m.length) (h: ∀ j,s.getD j false=true->Q j): ∀ k j,(z4I m v i s k).getD j false=true->Q j
 | 0=>h
 | k+1=>by rw [z3b];exact z7r hc (by rw [z4B];exact hl) (z5Q hc hl h k)
theorem z5N {Q:Nat->Prop} (hc: ∀ i k,k<m.length->Q i->touch m v i k=true->Q k) {s:List Bool} (hl:s.length=m.length) (h: ∀ j,s.getD j false=true->Q j): ∀ i j,(z4G m v s i).getD j false=true->Q j
 | 0=>h
 | i+1=>by rw [z3h];exact z5Q hc (by rw [z4F];exact hl) (z5N hc hl h i) _
theorem z5G {Q:Nat->Prop} (hc: ∀ i k,k<m.length->Q i->touch m v i k=true->Q k) (h:Q 0): ∀ r j,(z3y m v r).getD j false=true->Q j
 | 0 =>fun j hj=>by
   have hj:((List.replicate m.length false).set 0 true).getD j false=true:=hj;rw [z3t] at hj;split at hj
   ·rename_i e;rw [<- e.1];exact h
   ·rw [gdE,yU] at hj;split at hj<;>cases hj
 | r+1=>by rw [z3e];exact z5N hc (z4T r) (z5G hc h r) _
end
theorem z3l {l:List P3} {v:Int} {t:P3} :t∈j4 l v↔∃ i,i<l.length/\tg l i=t/\zV t v:=by
 unfold j4;rw [List.mem_filter,z3k];constructor
 ·rintro ⟨ht,hv⟩;obtain ⟨i,hi,e⟩:=yG.1 ht;exact ⟨i,hi,by unfold tg;rw [gdE,gE hi];exact e,hv⟩
 ·rintro ⟨i,hi,e,hv⟩;unfold tg at e;rw [gdE,gE hi] at e;have e:l[i]=t:=e;exact ⟨by rw [<- e];exact y6 hi,hv⟩
theorem qU {m:List P3} {j:Nat} (h:j<m.length):tg m j∈m:=by
 unfold tg;rw [gdE,gE h];exact y6 h
theorem zAr {m:List P3} {t:P3} (h:t∈m): ∃ j,j<m.length/\tg m j=t:=by
 obtain ⟨i,hi,e⟩:=yG.1 h;exact ⟨i,hi,by unfold tg;rw [gdE,gE hi];exact e⟩
theorem other {t:P3} {v:Int} (hd: ¬ dgn t): ∃ w,w≠v/\zV t w:=by
 unfold dgn at hd
 by_cases h:t.1=v
 ·exact ⟨t.2.1,by omega,.inr (.inl rfl)⟩
 ·exact ⟨t.1,h,.inl rfl⟩
theorem z4r {l:List P3} {v:Int} (hd: ∀ i,i<l.length->¬ dgn (tg l i)):z3x l v=false↔z2J l v:=by
 unfold z3x;rw [Bool.not_eq_false',zO];constructor
 ·intro h Q hQ a ha hva hQa i hi hvi;have hpos:0<(j4 l v).length:=List.length_pos_of_mem (z3l.2 ⟨a,ha,rfl,hva⟩)
  have key: ∀ R:Nat->Prop,(∀ i j:Nat,i<l.length->j<l.length->zV (tg l i) v->zV (tg l j) v->(∃ w:Int,w≠v/\zV (tg l i) w/\zV (tg l j) w)->R i->R j)->
   (∃ z,z<l.length/\tg l z=tg (j4 l v) 0/\zV (tg l z) v/\R z)->∀ i,i<l.length->zV (tg l i) v->R i:=fun R hR ⟨z,hz,ez,hzv,hRz⟩ i hi hvi=>by
   have hin:=z5G (m:=j4 l v) (v:=v) (Q:=fun j=>j<(j4 l v).length/\∀ i,i<l.length->tg l i=tg (j4 l v) j->zV (tg l i) v->R i) (fun j k hk hj ht=>⟨hk,fun i hi ei hvi=>by
    obtain ⟨w,hw,h1,h2⟩:=z4U.1 ht;obtain ⟨i',hi',ei',hvi'⟩:=z3l.1 (qU hj.1)
    exact hR i' i hi' hi (by rw [ei'];exact hvi') hvi ⟨w,hw,by rw [ei'];exact h1,by rw [ei];exact h2⟩ (hj.2 i' hi' ei' (by rw [ei'];exact hvi'))⟩)
    ⟨hpos,fun i hi ei hvi=>by
      obtain ⟨w,hw,h1⟩:=other (v:=v) (hd z hz)
      exact hR z i hz hi hzv hvi ⟨w,hw,h1,by rw [ei,<- ez];exact h1⟩ hRz⟩ (j4 l v).length
   obtain ⟨j,hj,ej⟩:=zAr (z3l.2 ⟨i,hi,rfl,hvi⟩);exact (hin j (h j (zW.2 hj))).2 i hi ej.symm hvi
  obtain ⟨z,hz,ez,hzv⟩:=z3l.1 (qU hpos)
  by_cases hq:Q z
  ·exact key Q hQ ⟨z,hz,ez,by rw [ez];exact hzv,hq⟩ i hi hvi
  ·exact absurd hQa (key (fun i=> ¬ Q i) (fun i j hi hj h1 h2 ⟨w,h3,h4,h5⟩ hn hq=>hn (hQ j i hj hi h2 h1 ⟨w,h3,h5,h4⟩ hq)) ⟨z,hz,ez,by rw [ez];exact hzv,hq⟩ a ha hva)
 ·intro h j hj;have hj:=zW.1 hj;have hpos:0<(j4 l v).length:=by omega
  have hc:=z6D (m:=j4 l v) (v:=v) hpos;have hz:=z42 (m:=j4 l v) (v:=v) hpos (j4 l v).length;obtain ⟨z,hz1,hz2,hz3⟩:=z3l.1 (qU hpos);obtain ⟨i,hi1,hi2,hi3⟩:=z3l.1 (qU hj)
  have:=h (fun i=> ∃ j,j<(j4 l v).length/\tg (j4 l v) j=tg l i/\(z3y (j4 l v) v (j4 l v).length).getD j false=true) (fun a b ha hb hva hvb ⟨w,hw,h1,h2⟩ ⟨j,hj,e,hs⟩=>by
   obtain ⟨k,hk,ek⟩:=zAr (z3l.2 ⟨b,hb,rfl,hvb⟩)
   exact ⟨k,hk,ek,hc j k hj hk hs (z4U.2 ⟨w,hw,by rw [e];exact h1,by rw [ek];exact h2⟩)⟩) z hz1 (by rw [hz2];exact hz3) ⟨0,hpos,hz2.symm,hz⟩ i hi1 (by rw [hi2];exact hi3)
  obtain ⟨k,hk,ek,hs⟩:=this;obtain ⟨w,hw,h1⟩:=other (v:=v) (hd i hi1);exact hc k j hk hj hs (z4U.2 ⟨w,hw,by rw [ek];exact h1,by rw [<- hi2];exact h1⟩)
theorem z6N {l:List P3} {n:Nat} (hd: ∀ i,i<l.length->¬ dgn (tg l i)):piL l n=[]↔∀ v:Nat,v<n->z2J l v:=by
 unfold piL;rw [jC];constructor
 ·intro h v hv;have:=h v (zW.2 hv);unfold piG at this;split at this
  ·cases this
  ·rename_i e;exact (z4r hd).1 (by rw [<- zA0];exact e)
 ·intro h v hv;unfold piG;rw [if_neg (by rw [(z4r hd).2 (h v (zW.1 hv))];simp)]
theorem z63 (s:Int×List P3):allR s=[]↔(zBk s=[]/\dgL s.2 s.2.length=[]/\prO s.2 3 s.2.length=[]/\prO s.2 4 s.2.length=[]/\loL s.2 s.1.toNat=[]/\piL s.2 s.1.toNat=[]):=by
 unfold allR;constructor
 ·intro h
  repeat' split at h
  all_goals first
   | (rename_i hh;rw [h] at hh;exact absurd hh (by decide))
   | skip
  rename_i h1 h2 h3 h4 h5;exact ⟨zDD.1 (by omega),zDD.1 (by omega),zDD.1 (by omega),zDD.1 (by omega),zDD.1 (by omega),h⟩
 ·rintro ⟨h1,h2,h3,h4,h5,h6⟩;simp [h1,h2,h3,h4,h5,h6]
theorem z3p (s:Int×List P3):z4X s=true↔zJh s:=by
 unfold z4X;rw [beq_iff_eq,zDD,z63,z6b,z7b,z6F,z6F,z7a];constructor
 ·rintro ⟨hf,hd,h3,h4,hu,hp⟩;have h0:0<=s.1:=hf.1;refine ⟨hf,hd,fun i j hij hj a b h1 h2=> ?_,fun i j hij hj h=> ?_,fun v hv=>hu v (by omega),fun v hv=>(z6N hd).1 hp v (by omega)⟩
  ·have:=h3 i j hij hj;rw [pt3] at this;rw [z4Z.2 ⟨a,b,h1,h2⟩] at this;cases this
  ·have:=h4 i j hij hj;rw [pt4,z3k.2 h.1,z3k.2 h.2.1,z3k.2 h.2.2] at this;cases this
 ·intro h;have h0:0<=s.1:=h.fit.1;refine ⟨h.fit,h.deg,fun i j hij hj=> ?_,fun i j hij hj=> ?_,fun v hv=>h.use v (by omega),(z6N h.deg).2 fun v hv=>h.pin v (by omega)⟩
  ·rw [pt3,<- zA0];intro e;obtain ⟨a,b,h1,h2⟩:=z4Z.1 e;exact h.dif i j hij hj a b h1 h2
  ·rw [pt4,<- zA0];intro e;simp only [zA,z3k] at e;exact h.mir i j hij hj e
theorem z4d (s:Int×List P3):(zL5 s).1=0↔z4X s=true:=by rw [zPp,z3p]
end S9
open S9 (z4Y z4L z4X z3p z4d)
namespace S1
def z71 (a b:Int×List P3):Bool:=decide (a=b)
theorem z7c (a b:Int) (l m:List P3):zB7 ⟨tyL,[(44,z6y)],[]⟩ Try.f23 [zAa.av (a,l),zAa.av (b,m)] (fun r=>r= .s (.bool (z71 (a,l) (b,m)))):=by
 repeat' (conv=>whnf
          first|done|refine qy ?_|refine qG fun _=> ?_|refine qw (fun _=> ?_) (fun _=> ?_)|apply qt|refine qi (fun _=> ?_) (fun _=> ?_)|refine qu ?_|refine qv ?_ ?_|exact zT)
 all_goals try first|refine qz ?_|apply qz5
 all_goals try simp only [qn0,yC,yA,ETy.dflt,Int.reduceToNat,Int.reduceAdd,Int.reduceSub,Int.reduceNeg,Nat.reduceAdd,z71,eqR] at *
 ·rename_i h;subst h;rw [decide_eq_decide];exact ⟨fun e=>by rw [e],fun e=>congrArg Prod.snd e⟩
 ·rename_i h;symm;rw [zB0];exact fun e=>h (congrArg Prod.fst e)
def z7Z:List AV->Option Res:=zNH zAa zAa (fun a b=>some (none,none,.s (.bool (z71 a b))))
theorem z7N:zAI prog 23 z7Z:=mkR (zCh fun a b r h=>by cases h;exact fb (by exact ⟨z6r,trivial⟩) func23 fun _ _=>z7c a.1 b.1 a.2 b.2) func23
def z4a (s:Int×List P3):Bool:=decide (s.2.length>40\/s.1>120)
theorem z5X {fn} (n:Int) (l:List P3):zB7 ⟨tyL,fn,[]⟩ Try.f15 [zAa.av (n,l)] (fun r=>r= .s (.bool (z4a (n,l)))):=by
 repeat' (conv=>whnf
          first|done|refine qy ?_|refine qG fun _=> ?_|refine qw (fun _=> ?_) (fun _=> ?_)|apply qt|refine qi (fun _=> ?_) (fun _=> ?_)|refine qu ?_|refine qv ?_ ?_|exact zT)
 all_goals try first|refine qz ?_|apply qz5
 all_goals try simp only [qn0,yC,yA,ETy.dflt,Int.reduceToNat,Int.reduceAdd,Int.reduceSub,Int.reduceNeg,Nat.reduceAdd,z4a] at *
 ·symm;rw [zF];exact .inl (by omega)
 ·rw [decide_eq_decide];exact ⟨.inr,fun e=>e.resolve_left (by omega)⟩
def z47:List AV->Option Res:=zGM zAa (fun s=>some (none,none,.s (.bool (z4a s))))
theorem z5S:zAI prog 15 z47:=mkR (zBJ fun s r h=>by cases h;exact fb (fn:=[]) trivial func15 fun _ _=>z5X s.1 s.2) func15
abbrev z7D:Int×List P3:=(3,[(0,1,2)])
abbrev z6W:Int×List P3:=(4,[(0,1,2),(0,2,3),(2,1,3),(1,0,3)])
theorem z5c:(zRW z7D).1=0:=by decide +kernel
theorem z7B:(zRW z6W).1=0:=by decide +kernel
theorem z6e:z3v (jO z7D)=(z6W,[3],0):=by decide +kernel
theorem z6P:z3f z7D=(z6W,[3],0):=by
 unfold z3f;rw [zIg z5c];exact z6e
theorem z7E:z3d (jO z6W) [3]=0:=by decide +kernel
theorem z7A:z4g z6W [3]=z7D:=by decide +kernel
theorem z6s:z41 [3] 4=[0,1,2]:=by decide +kernel
theorem z5a:z5U z6W [3]=(z7D,[0,1,2],0):=by
 unfold z5U;rw [zIg z7B];show z3w (jO z6W) [3]=_;have e:(jO z6W).1=z6W:=rfl;unfold z3w;rw [if_neg (fun k=>k z7E),e,z7A,if_pos (by rw [zZV];exact z5c)];exact congrArg (fun z=>(z7D,z,(0:Int))) z6s
abbrev FoR:=(Int×List P3)×List Int×Int
def z7T (r:FoR):List AV->Option Res:=zGM zAa (fun s=>some (none,some (z3f s=r),z4h r))
theorem z7d (r:FoR):zAI prog 17 (z7T r):=mkR (zBJ fun s r' h=>by
 cases h;intro I vals w hag hv;refine ⟨trivial,fun hq=> ?_⟩;have hq:z3f s=r:=hq;have:=(z6z.1 _ _ (rfl:z7u [zAa.av s]=_) I vals w hag hv).2 trivial;rw [hq] at this
 exact this) func17
def z7M (r:FoR):List AV->Option Res:=zNH zAa (.sl jF) (fun s ap=>some (none,some (z5U s ap=r),z4h r))
theorem z7Y (r:FoR):zAI prog 33 (z7M r):=mkR (zCh fun s ap r' h=>by
 cases h;intro I vals w hag hv;refine ⟨trivial,fun hq=> ?_⟩;have hq:z5U s ap=r:=hq;have:=(z7l.1 _ _ (rfl:z8E [zAa.av s,(ETy.sl jF).av ap]=_) I vals w hag hv).2 trivial;rw [hq] at this
 exact this) func33
def z73 (F:Int×List P3->FoR):List AV->Option Res:=zGM zAa (fun s=>some (none,some (F=z3f),z4h (F s)))
theorem z7G (F:Int×List P3->FoR):zAI prog 17 (z73 F):=mkR (zBJ fun s r' h=>by
 cases h;intro I vals w hag hv;refine ⟨trivial,fun hq=> ?_⟩;have hq:F=z3f:=hq;subst hq
 exact (z6z.1 _ _ (rfl:z7u [zAa.av s]=_) I vals w hag hv).2 trivial) func17
abbrev z7W:FoR:=(z6W,[3],0)
abbrev z7X:FoR:=(z7D,[0,1,2],0)
theorem z5T:zB7 ⟨tyL,[(17,z7T z7W),(33,z7M z7X),(23,z7Z)],[]⟩ Try.f14 [] (fun r=>r= .s (.bool true)):=by
 repeat' (conv=>whnf
          first|done|refine qy ?_|refine qG fun _=> ?_|refine qw (fun _=> ?_) (fun _=> ?_)|apply qt|refine qi (fun _=> ?_) (fun _=> ?_)|refine qu ?_|refine qv ?_ ?_|exact zT)
 all_goals try first|refine qz ?_|apply qz5
 all_goals try simp only [qn0,yC,yA,ETy.dflt,Int.reduceToNat,Int.reduceAdd,Int.reduceSub,Int.reduceNeg,Nat.reduceAdd] at *
 ·exact qh z6P
 ·exact qh z5a
 ·refine qh ?_;omega
 ·rfl
def z49:List AV->Option Res:=fun l=>match l with
 | []=>some (none,none,.s (.bool true))
 | _=>none
theorem z5W:zAI prog 14 z49:=⟨fun args r h=>by
 cases args with
 | nil=>cases h;exact fb (fn:=[(17,z7T z7W),(33,z7M z7X),(23,z7Z)]) ⟨(z7d z7W),(z7Y z7X),z7N,trivial⟩ func14 fun _ _=>z5T
 | cons a l=>(cases h),_,func14,by kernel_rfl,by kernel_rfl⟩
end S1
open S9 (z4Y z4L z4X z3p z4d)
namespace S1
def z86 (t:P3) (a b:Int):Option Nat:=if t.2.1=a/\t.2.2=b then some 0 else if t.2.2=a/\t.1=b then some 1 else if t.1=a/\t.2.1=b then some 2 else none
def z8S (l:List P3) (a b:Int):Nat->Nat->Int
 | 0,_=> -1
 | m+1,i=>match z86 (l.getD i (0,0,0)) a b with
   | some k=>3*(i:Int)+(k:Nat)
   | none=>z8S l a b m (i+1)
def z8G (l:List P3) (a b:Int):Int:=z8S l a b l.length 0
def z8h (l:List P3) (a b:Int):Spec Nat where
 inv i:=i<=l.length/\z8G l a b=z8S l a b (l.length - i) i
 live i:=[(7,.s (.int .i64 i))]
 keep:=[1,2,3]
 heap _:=[]
 keepH:=[0]
 mu i:=l.length - i
theorem z82 {l:List P3} {a b:Int} {i:Nat} (h:i<l.length):z8S l a b (l.length - i) i=match z86 (l.getD i (0,0,0)) a b with
 | some k=>3*(i:Int)+(k:Nat)
 | none=>z8S l a b (l.length - (i+1)) (i+1):=by
 rw [show l.length - i=(l.length - (i+1))+1 by omega];rfl
theorem z8n {fn} (n:Int) (l:List P3) (a b:Int) (hl:l.length<=8192):zB7 ⟨tyL,fn,[]⟩ f86 [zAa.av (n,l),jF.av a,jF.av b] (fun r=>r= .s (.int .i64 (z8G l a b))):=by
 repeat' (conv=>whnf
          first|done|refine qy ?_|refine qG fun _=> ?_|refine qw (fun _=> ?_) (fun _=> ?_)|apply qt|refine qi (fun _=> ?_) (fun _=> ?_)|(refine j6 2 rfl (z8h l a b) (0) ?_ ?_ ?_ fun i hi=> ?_)|with_reducible refine jX (z8h _ _ _) (i+1) ?_ ?_ ?_ ?_|(refine zQr 5 rfl ?_;refine Or.inl (y5 (4) ?_))|refine qu ?_|refine qv ?_ ?_|exact zT)
 all_goals try first|refine qz ?_|apply qz5
 all_goals try simp only [qn0,yC,yA,ETy.dflt,Int.reduceToNat,Int.reduceAdd,Int.reduceSub,Int.reduceNeg,Nat.reduceAdd,z8h] at *
 all_goals try simp only [show Int.tmod 1 3=1 from rfl,show Int.tmod 2 3=2 from rfl,show Int.tmod 3 3=0 from rfl,show Int.tmod 4 3=1 from rfl,Int.reduceToNat,List.getD_cons_succ,List.getD_cons_zero] at *
 all_goals try (refine qh ?_;omega)
 ·exact qh ⟨jB _,rfl⟩
 all_goals try (have e:=hi.2;rw [z82 (by omega)] at e)
 all_goals try first
  | (have hk:z86 (l.getD i (0,0,0)) a b=some 0:=by (unfold z86;(repeat' split)<;>first|rfl|(exfalso;omega))
     rw [hk] at e;exact e.symm)
  | (have hk:z86 (l.getD i (0,0,0)) a b=some 1:=by (unfold z86;(repeat' split)<;>first|rfl|(exfalso;omega))
     rw [hk] at e;exact e.symm)
  | (have hk:z86 (l.getD i (0,0,0)) a b=some 2:=by (unfold z86;(repeat' split)<;>first|rfl|(exfalso;omega))
     rw [hk] at e;exact e.symm)
  | (have hk:z86 (l.getD i (0,0,0)) a b=none:=by (unfold z86;(repeat' split)<;>first|rfl|(exfalso;omega))
     rw [hk] at e;exact qh ⟨by omega,e⟩)
 rw [hi.2,show l.length - i=0 by omega];rfl
def z8p:List AV->Option Res:=zNd zAa jF jF (fun s a b=>some (none,some (s.2.length<=8192),.s (.int .i64 (z8G s.2 a b))))
theorem z8j:zAI prog 86 z8p:=mkR (zEI fun s a b r h=>by cases h;exact fb (fn:=[]) trivial func86 fun _ h=>z8n s.1 s.2 a b h) func86
theorem z8T {t:P3} {a b:Int} :z86 t a b=none↔¬ dE t a b:=by
 unfold z86 dE;constructor
 ·intro h;split at h
  ·cases h
  ·split at h
   ·cases h
   ·split at h
    ·cases h
    ·omega
 ·intro h;rw [if_neg (by omega),if_neg (by omega),if_neg (by omega)]
theorem z81 {l:List P3} {a b:Int} : ∀ m i,0<=z8S l a b m i↔∃ j,i<=j/\j<i+m/\dE (tg l j) a b
 | 0,i=>⟨fun h=>absurd h (by show ¬ (0:Int)<=-1;omega),fun ⟨j,h1,h2,_⟩=>by omega⟩
 | m + 1,i=>by
   unfold z8S;cases e:z86 (l.getD i (0,0,0)) a b with
   | some k =>
     refine ⟨fun _=>⟨i,zI _,by omega,?_⟩,fun _=>by show (0:Int)<=3*(i:Int)+(k:Nat);omega⟩;apply yE;intro h;rw [z8T.2 h] at e;cases e
   | none =>
     have hn:=z8T.1 e;show 0<=z8S l a b m (i+1)↔_;rw [z81 m (i+1)];constructor
     ·rintro ⟨j,h1,h2,h3⟩;exact ⟨j,by omega,by omega,h3⟩
     ·rintro ⟨j,h1,h2,h3⟩;refine ⟨j,?_,by omega,h3⟩
      by_cases ej:j=i
      ·subst ej;exact absurd h3 hn
      ·omega
theorem z8I {l:List P3} {a b:Int} :0<=z8G l a b↔eE l a b:=by
 unfold z8G eE;rw [z81];constructor
 ·rintro ⟨j,_,h2,h3⟩;exact ⟨j,by omega,h3⟩
 ·rintro ⟨j,h2,h3⟩;exact ⟨j,jB _,by omega,h3⟩
def z8i (s:Int×List P3) (v:Int):Nat->Nat->Int
 | 0,_=> -1
 | m+1,u=>if z8G s.2 u v>=0/\z8G s.2 v u<0 then (u:Int) else z8i s v m (u+1)
def z8Y (s:Int×List P3) (v:Int):Int:=z8i s v s.1.toNat 0
def z88 (s:Int×List P3) (v:Int):Spec Nat where
 inv u:=u<=s.1.toNat/\z8Y s v=z8i s v (s.1.toNat - u) u
 live u:=[(5,.s (.int .i64 u))]
 keep:=[1,2]
 heap _:=[]
 keepH:=[0]
 mu u:=s.1.toNat - u
theorem z8M {s:Int×List P3} {v:Int} {u:Nat} (h:u<s.1.toNat):z8i s v (s.1.toNat - u) u=if z8G s.2 u v>=0/\z8G s.2 v u<0 then (u:Int) else z8i s v (s.1.toNat - (u+1)) (u+1):=by
 rw [show s.1.toNat - u=(s.1.toNat - (u+1))+1 by omega];rfl
theorem z85 (n:Int) (l:List P3) (v:Int) (h:l.length<=8192/\n<=4096):zB7 ⟨tyL,[(86,z8p)],[]⟩ f66 [zAa.av (n,l),jF.av v] (fun r=>r= .s (.int .i64 (z8Y (n,l) v))):=by
 repeat' (conv=>whnf
          first|done|refine qy ?_|refine qG fun _=> ?_|refine qw (fun _=> ?_) (fun _=> ?_)|apply qt|refine qi (fun _=> ?_) (fun _=> ?_)|(refine j6 2 rfl (z88 (n,l) v) (0) ?_ ?_ ?_ fun u hu=> ?_)|with_reducible refine jX (z88 _ _) (u+1) ?_ ?_ ?_ ?_|refine qu ?_|refine qv ?_ ?_|exact zT)
 all_goals try first|refine qz ?_|apply qz5
 all_goals try simp only [qn0,yC,yA,ETy.dflt,Int.reduceToNat,Int.reduceAdd,Int.reduceSub,Int.reduceNeg,Nat.reduceAdd,z88] at *
 all_goals try have hlt:(u:Int)<n:=by assumption
 all_goals try (refine qh ?_;omega)
 ·exact qh ⟨jB _,rfl⟩
 ·rw [hu.2,z8M (s:=(n,l)) (by show u<n.toNat;omega),if_pos ⟨by assumption,by assumption⟩]
 ·refine jQ.intro ⟨by omega,?_⟩;rw [hu.2,z8M (s:=(n,l)) (by show u<n.toNat;omega),if_neg (fun k=>absurd k.2 (by assumption))]
 ·refine jQ.intro ⟨by omega,?_⟩;rw [hu.2,z8M (s:=(n,l)) (by show u<n.toNat;omega),if_neg (fun k=>absurd k.1 (by assumption))]
 ·rw [hu.2,show n.toNat - u=0 by omega];rfl
def z8P:List AV->Option Res:=zNH zAa jF (fun s v=>some (none,some (s.2.length<=8192/\s.1<=4096),.s (.int .i64 (z8Y s v))))
theorem z83:zAI prog 66 z8P:=mkR (zCh fun s v r h=>by cases h;exact fb (by exact ⟨z8j,trivial⟩) func66 fun _ h=>z85 s.1 s.2 v h) func66
theorem z8f {s:Int×List P3} {v:Int} : ∀ m u,0<=z8i s v m u↔∃ w:Nat,u<=w/\w<u+m/\eE s.2 w v/\¬ eE s.2 v w
 | 0,u=>⟨fun h=>absurd h (by show ¬ (0:Int)<=-1;omega),fun ⟨j,h1,h2,_⟩=>by omega⟩
 | m + 1,u=>by
   unfold z8i
   have hb:(z8G s.2 u v>=0/\z8G s.2 v u<0)↔eE s.2 u v/\¬ eE s.2 v u:=by
    rw [<- z8I,<- z8I];omega
   by_cases e:z8G s.2 u v>=0/\z8G s.2 v u<0
   ·rw [if_pos e];exact ⟨fun _=>⟨u,zI _,by omega,hb.1 e⟩,fun _=>by omega⟩
   ·rw [if_neg e,z8f m (u+1)];constructor
    ·rintro ⟨j,h1,h2,h3⟩;exact ⟨j,by omega,by omega,h3⟩
    ·rintro ⟨j,h1,h2,h3⟩;refine ⟨j,?_,by omega,h3⟩
     by_cases ej:j=u
     ·subst ej;exact absurd (hb.2 h3) e
     ·omega
theorem z8X {x:zX.T} (g:Full x) {v:Int} :0<=z8Y x.1 v↔∃ w,bE x w v:=by
 unfold z8Y;rw [z8f];constructor
 ·rintro ⟨w,_,_,h⟩;exact ⟨w,(zMh g).2 h⟩
 ·rintro ⟨w,hw⟩;have hin:=z5I g hw;have hn:=z8C g;refine ⟨w.toNat,jB _,?_,?_⟩
  ·have e:(x.1.1:Int)=vN x:=rfl;rw [yK];show w.toNat<(vN x).toNat;omega
  ·rw [zA4 hin.1.1];exact (zMh g).1 hw
end S1
namespace S1
structure StT (x:zX.T) (Ls:List (List Int)) (t:P3) (j:Nat):Prop where
 lt:j<Ls.length
 m1:t.1∈Ls.getD j []
 m2:t.2.1∈Ls.getD j []
 e:bE x t.2.1 t.1
 z:t.2.2=vN x+(j:Int)
section
variable {x:zX.T} {Ls:List (List Int)}
theorem z3m (h:Lps x Ls (vN x)) {t:P3} (ht:t∈z1 (vN x) Ls Ls.length): ∃ j,StT x Ls t j:=by
 obtain ⟨j,i,hj,hi,rfl⟩:=z3i.1 ht;have ok:=h.ok _ (z3j hj);exact ⟨j,hj,zA5 hi,zA5 (Nat.mod_lt _ ok.ne),ok.cyc i hi,rfl⟩
theorem z5n (h:Lps x Ls (vN x)) {j j':Nat} (hj:j<Ls.length) (hj':j'<Ls.length) {u:Int} (h1:u∈Ls.getD j []) (h2:u∈Ls.getD j' []):j=j':=by
 have hp:=(List.pairwise_flatten.1 h.nd).2
 have key: ∀ a b,a<b->b<Ls.length->u∈Ls.getD a []->u∈Ls.getD b []->False:=fun a b hab hb k1 k2=>by
  have:=List.pairwise_iff_getElem.1 hp a b (by omega) hb hab;rw [gdE,gE (by omega)] at k1 k2;exact this u k1 u k2 rfl
 rcases Nat.lt_trichotomy j j' with e|e|e
 ·exact (key j j' e hj' h1 h2).elim
 ·exact e
 ·exact (key j' j e hj h2 h1).elim
theorem z5P (h:Lps x Ls (vN x)) {i j:Nat} (hi:i<(z1 (vN x) Ls Ls.length).length) (hj:j<(z1 (vN x) Ls Ls.length).length) (e:(tg (z1 (vN x) Ls Ls.length) i).1=(tg (z1 (vN x) Ls Ls.length) j).1):i=j:=by
 have hn:=h.nd;rw [<- z3o (vN x) Ls] at hn
 have key: ∀ a b,a<b->b<(z1 (vN x) Ls Ls.length).length->(tg (z1 (vN x) Ls Ls.length) a).1=(tg (z1 (vN x) Ls Ls.length) b).1->False:=fun a b hab hb e=>by
  have:=List.pairwise_iff_getElem.1 hn a b (by rw [z2];omega) (by rw [z2];exact hb) hab;rw [List.getElem_map,List.getElem_map] at this;unfold tg at e;rw [gdE,gE (by omega),gdE,gE hb] at e;exact this e
 rcases Nat.lt_trichotomy i j with e'|e'|e'
 ·exact (key i j e' hj e).elim
 ·exact e'
 ·exact (key j i e' hi e.symm).elim
theorem z44 (h:Lps x Ls (vN x)) (g:Full x) {w u:Int} (hb:bE x w u): ∃ t∈z1 (vN x) Ls Ls.length,t.1=u/\t.2.1=w:=by
 have hin:=z5I g hb;have hu:=h.all u hin.2.1.1 hin.2.1.2 ⟨w,hb⟩;rw [<- z3o (vN x) Ls] at hu;obtain ⟨t,ht,e⟩:=zS.1 hu;refine ⟨t,ht,e,?_⟩;obtain ⟨j,st⟩:=z3m h ht;have:=st.e;have e:t.1=u:=e;rw [e] at this;exact zN6 g this hb
theorem j3 (h:Lps x Ls (vN x)) (g:Full x) {t:P3} (ht:t∈z1 (vN x) Ls Ls.length):(0<=t.1/\t.1<vN x)/\(0<=t.2.1/\t.2.1<vN x)/\t.1≠t.2.1/\vN x<=t.2.2/\t.2.2<vN x+Ls.length:=by
 obtain ⟨j,st⟩:=z3m h ht;have:=z5I g st.e;have h1:=st.z;have h2:=st.lt;exact ⟨this.2.1,this.1,this.2.2.symm,by omega,by omega⟩
theorem z6I {t:P3} {a b:Int} (h:dE t a b):(a=t.1/\b=t.2.1)\/(a=t.2.1/\b=t.2.2)\/(a=t.2.2/\b=t.1):=by
 rcases h with h|h|h
 ·exact .inl ⟨h.1.symm,h.2.symm⟩
 ·exact .inr (.inl ⟨h.1.symm,h.2.symm⟩)
 ·exact .inr (.inr ⟨h.1.symm,h.2.symm⟩)
theorem z6t (h:Lps x Ls (vN x)) (g:Full x) {t t':P3} (ht:t∈z1 (vN x) Ls Ls.length) (ht':t'∈z1 (vN x) Ls Ls.length) {a b:Int} (h1:dE t a b) (h2:dE t' a b):t.1=t'.1:=by
 have b1:=j3 h g ht;have b2:=j3 h g ht';obtain ⟨j,st⟩:=z3m h ht;obtain ⟨j',st'⟩:=z3m h ht';rcases z6I h1 with ⟨ea,eb⟩|⟨ea,eb⟩|⟨ea,eb⟩<;>rcases z6I h2 with ⟨ea',eb'⟩|⟨ea',eb'⟩|⟨ea',eb'⟩
 ·rw [<- ea,ea']
 ·omega
 ·omega
 ·omega
 ·have k1:=st.e;have k2:=st'.e;rw [<- ea] at k1;rw [<- ea'] at k2;exact zP2 g k1 k2
 ·omega
 ·omega
 ·omega
 ·rw [<- eb,eb']
theorem z4N (h:Lps x Ls (vN x)) (g:Full x) {a b:Int} (he:eE (x.1.2++z1 (vN x) Ls Ls.length) a b):eE (x.1.2++z1 (vN x) Ls Ls.length) b a:=by
 rcases z4H.1 he with he|he
 ·by_cases hb:eE x.1.2 b a
  ·exact z4H.2 (.inl hb)
  ·obtain ⟨t,ht,e1,e2⟩:=z44 h g ((zMh g).2 ⟨he,hb⟩);exact z4H.2 (.inr (zDS.2 ⟨t,ht,.inl ⟨e1,e2⟩⟩))
 ·obtain ⟨t,ht,hd⟩:=zDS.1 he;obtain ⟨j,st⟩:=z3m h ht;rcases z6I hd with ⟨ea,eb⟩|⟨ea,eb⟩|⟨ea,eb⟩
  ·subst ea;subst eb;exact z4H.2 (.inl ((zMh g).1 st.e).1)
  ·-- the next one in the star
   subst ea;subst eb;obtain ⟨w,hw⟩:=zFL g st.e;obtain ⟨t',ht',e1,e2⟩:=z44 h g hw;obtain ⟨j',st'⟩:=z3m h ht'
   have hj:j=j':=by
    have:=st'.m1;rw [e1] at this;exact z5n h st.lt st'.lt st.m2 this
   subst hj;refine z4H.2 (.inr (zDS.2 ⟨t',ht',.inr (.inr ⟨?_,e1⟩)⟩));rw [st'.z,st.z]
  ·subst ea;subst eb;obtain ⟨y,hy⟩:=z7C g st.e;obtain ⟨t',ht',e1,e2⟩:=z44 h g hy;obtain ⟨j',st'⟩:=z3m h ht'
   have hj:j=j':=by
    have:=st'.m2;rw [e2] at this;exact z5n h st.lt st'.lt st.m1 this
   subst hj;refine z4H.2 (.inr (zDS.2 ⟨t',ht',.inr (.inl ⟨e2,?_⟩)⟩));rw [st'.z,st.z]
theorem z4j (h:Lps x Ls (vN x)) (g:Full x) (hs:zJh x.1) {v:Nat} (hv:(v:Int)<vN x):z2J (x.1.2++z1 (vN x) Ls Ls.length) v:=by
 intro Q hQ a ha1 ha2 ha3 i hi1 hi2;rw [z7] at ha1 hi1
 -- old ones are alike
 have old: ∀ b,b<x.1.2.length->zV (tg x.1.2 b) v->Q b->∀ c,c<x.1.2.length->zV (tg x.1.2 c) v->Q c:=fun b hb1 hb2 hb3 c hc1 hc2=>by
  refine hs.pin v hv Q (fun p q hp hq p1 p2 p3 p4=> ?_) b hb1 hb2 hb3 c hc1 hc2;refine hQ p q (by rw [z7];omega) (by rw [z7];omega) ?_ ?_ ?_ p4
  ·rw [z4J hp];exact p1
  ·rw [z4J hq];exact p2
  ·rw [z4J hp,z4J hq];exact p3
 -- each new one has an old one beside it
 have new: ∀ b,x.1.2.length<=b->b<x.1.2.length+(z1 (vN x) Ls Ls.length).length->zV (tg (x.1.2++z1 (vN x) Ls Ls.length) b) v->∃ o,o<x.1.2.length/\zV (tg x.1.2 o) v/\(Q b->Q o)/\(Q o->Q b):=fun b hb1 hb2 hb3=>by
  have hmem:tg (x.1.2++z1 (vN x) Ls Ls.length) b∈z1 (vN x) Ls Ls.length:=by
   rw [z7R hb1];exact qU (by omega)
  generalize he:tg (x.1.2++z1 (vN x) Ls Ls.length) b=t at hb3 hmem;have bd:=j3 h g hmem;obtain ⟨j,st⟩:=z3m h hmem
  have fin: ∀ w,w≠(v:Int)->zV t w->(∃ o,o<x.1.2.length/\zV (tg x.1.2 o) v/\zV (tg x.1.2 o) w)->∃ o,o<x.1.2.length/\zV (tg x.1.2 o) v/\(Q b->Q o)/\(Q o->Q b):=by
   rintro w hw h1 ⟨o,o1,o2,o3⟩;have k1:zV (tg (x.1.2++z1 (vN x) Ls Ls.length) o) v:=by rw [z4J o1];exact o2
   have k3:zV (tg (x.1.2++z1 (vN x) Ls Ls.length) o) w:=by rw [z4J o1];exact o3
   have k2:zV (tg (x.1.2++z1 (vN x) Ls Ls.length) b) v:=by rw [he];exact hb3
   have k4:zV (tg (x.1.2++z1 (vN x) Ls Ls.length) b) w:=by rw [he];exact h1
   refine ⟨o,o1,o2,fun q=> ?_,fun q=> ?_⟩
   ·exact hQ b o (by rw [z7];exact hb2) (by rw [z7];omega) k2 k1 ⟨w,hw,k4,k3⟩ q
   ·exact hQ o b (by rw [z7];omega) (by rw [z7];exact hb2) k1 k2 ⟨w,hw,k3,k4⟩ q
  rcases hb3 with e|e|e
  ·obtain ⟨o,o1,o2⟩:=((zMh g).1 st.e).1;have:=y9 o2;rw [e] at this;exact fin t.2.1 (by rw [<- e];exact bd.2.2.1.symm) (.inr (.inl rfl)) ⟨o,o1,this.2,this.1⟩
  ·obtain ⟨o,o1,o2⟩:=((zMh g).1 st.e).1;have:=y9 o2;rw [e] at this;exact fin t.1 (by rw [<- e];exact bd.2.2.1) (.inl rfl) ⟨o,o1,this.1,this.2⟩
  ·omega
 have toOld: ∃ o,o<x.1.2.length/\zV (tg x.1.2 o) v/\Q o:=by
  by_cases e:a<x.1.2.length
  ·rw [z4J e] at ha2;exact ⟨a,e,ha2,ha3⟩
  ·obtain ⟨o,o1,o2,o3,_⟩:=new a (by omega) ha1 ha2;exact ⟨o,o1,o2,o3 ha3⟩
 obtain ⟨o,o1,o2,o3⟩:=toOld
 by_cases e:i<x.1.2.length
 ·rw [z4J e] at hi2;exact old o o1 o2 o3 i e hi2
 ·obtain ⟨o',p1,p2,_,p4⟩:=new i (by omega) hi1 hi2;exact p4 (old o o1 o2 o3 o' p1 p2)
theorem z4f (h:Lps x Ls (vN x)) (g:Full x) {j0:Nat} (hj0:j0<Ls.length) {z:Int} (hz:z=vN x+(j0:Int)):z2J (x.1.2++z1 (vN x) Ls Ls.length) z:=by
 intro Q hQ a ha1 ha2 ha3 i hi1 hi2;have ok:=h.ok _ (z3j hj0);generalize hL:Ls.getD j0 []=L at ok;have hne:=ok.ne
 -- where one stands
 have place: ∀ b,b<(x.1.2++z1 (vN x) Ls Ls.length).length->zV (tg (x.1.2++z1 (vN x) Ls Ls.length) b) z->x.1.2.length<=b/\∃ m,m<L.length/\tg (x.1.2++z1 (vN x) Ls Ls.length) b=(L.getD m 0,L.getD ((m+1) % L.length) 0,z):=fun b hb1 hb2=>by
  rw [z7] at hb1
  by_cases e:b<x.1.2.length
  ·rw [z4J e] at hb2;have:0<=z/\z<vN x:=zWZ g.fit e hb2;omega
  ·refine ⟨by omega,?_⟩
   have hmem:tg (x.1.2++z1 (vN x) Ls Ls.length) b∈z1 (vN x) Ls Ls.length:=by
    rw [z7R (by omega)];exact qU (by omega)
   have bd:=j3 h g hmem;obtain ⟨j,m,hj,hm,et⟩:=z3i.1 hmem
   have hzz:(tg (x.1.2++z1 (vN x) Ls Ls.length) b).2.2=z:=by
    rcases hb2 with e|e|e
    ·omega
    ·omega
    ·exact e
   have:j=j0:=by rw [et] at hzz;have hzz:vN x+(j:Int)=z:=hzz;omega
   subst this;rw [hL] at hm et;exact ⟨m,hm,by rw [et,hz]⟩
 have atp: ∀ m,m<L.length->∃ b,b<(x.1.2++z1 (vN x) Ls Ls.length).length/\tg (x.1.2++z1 (vN x) Ls Ls.length) b=(L.getD m 0,L.getD ((m+1) % L.length) 0,z):=fun m hm=>by
  have:(L.getD m 0,L.getD ((m+1) % L.length) 0,z)∈x.1.2++z1 (vN x) Ls Ls.length:=by
   refine zA7 _ (z3i.2 ⟨j0,m,hj0,by rw [hL];exact hm,by rw [hL,hz]⟩)
  exact zAr this
 have uniq: ∀ b c,b<(x.1.2++z1 (vN x) Ls Ls.length).length->c<(x.1.2++z1 (vN x) Ls Ls.length).length->zV (tg (x.1.2++z1 (vN x) Ls Ls.length) b) z->tg (x.1.2++z1 (vN x) Ls Ls.length) b=tg (x.1.2++z1 (vN x) Ls Ls.length) c->b=c:=fun b c hb hc hv e=>by
  have pb:=(place b hb hv).1;have pc:=(place c hc (by rw [<- e];exact hv)).1;rw [z7] at hb hc;rw [z7R pb,z7R pc] at e;have:=z5P h (i:=b - x.1.2.length) (j:=c - x.1.2.length) (by omega) (by omega) (by rw [e]);omega
 obtain ⟨_,i0,hi0,e0⟩:=place a ha1 ha2
 have step: ∀ m b,b<(x.1.2++z1 (vN x) Ls Ls.length).length->tg (x.1.2++z1 (vN x) Ls Ls.length) b=(L.getD ((i0+m) % L.length) 0,L.getD (((i0+m) % L.length+1) % L.length) 0,z)->Q b:=fun m=>by
  induction m with
  | zero =>
    intro b hb e;rw [zBX,Nat.mod_eq_of_lt hi0] at e;have:a=b:=uniq a b ha1 hb ha2 (by rw [e,e0]);rw [<- this];exact ha3
  | succ m ih =>
    intro b hb e;obtain ⟨c,hc,ec⟩:=atp ((i0+m) % L.length) (Nat.mod_lt _ hne);have hq:=ih c hc ec
    have e1:((i0+m) % L.length+1) % L.length=(i0+(m+1)) % L.length:=by
     rw [Nat.mod_add_mod,zAP]
    have hin:=ok.bord (zA5 (l:=L) (j:=(i0+(m+1)) % L.length) (Nat.mod_lt _ hne));obtain ⟨w,hw⟩:=hin;have:=z5I g hw;refine hQ c b hc hb (by rw [ec];exact .inr (.inr rfl)) (by rw [e];exact .inr (.inr rfl)) ⟨L.getD ((i0+(m+1)) % L.length) 0,by omega,?_,?_⟩ hq
    ·rw [ec];exact .inr (.inl (by rw [<- e1]))
    ·rw [e];exact .inl rfl
 obtain ⟨_,m,hm,em⟩:=place i hi1 hi2
 have e1:(i0+(m+L.length - i0)) % L.length=m:=by
  rw [show i0+(m+L.length - i0)=m+L.length by omega,Nat.add_mod_right,Nat.mod_eq_of_lt hm]
 exact step (m+L.length - i0) i hi1 (by rw [e1];exact em)
theorem z5s (h:Lps x Ls (vN x)) (g:Full x) (hs:zJh x.1) (hn:vN x+Ls.length<=4096) (hl:(x.1.2++z1 (vN x) Ls Ls.length).length<=8192) :
 zJh (vN x+Ls.length,x.1.2++z1 (vN x) Ls Ls.length):=by
 have hn0:0<=vN x:=(z8C g).1
 have hnew: ∀ b,x.1.2.length<=b->b<(x.1.2++z1 (vN x) Ls Ls.length).length->tg (x.1.2++z1 (vN x) Ls Ls.length) b∈z1 (vN x) Ls Ls.length:=fun b h1 h2=>by
  rw [z7] at h2;rw [z7R h1];exact qU (by omega)
 have hold: ∀ b,b<x.1.2.length->∀ v,zV (tg (x.1.2++z1 (vN x) Ls Ls.length) b) v->0<=v/\v<vN x:=fun b hb v hv=>by
  rw [z4J hb] at hv;exact zWZ g.fit hb hv
 have onenew: ∀ i j,i<j->x.1.2.length<=i->j<(x.1.2++z1 (vN x) Ls Ls.length).length->(tg (x.1.2++z1 (vN x) Ls Ls.length) i).1≠(tg (x.1.2++z1 (vN x) Ls Ls.length) j).1:=fun i j hij hi hj e=>by
  rw [z7R hi,z7R (by omega)] at e;rw [z7] at hj;have:=z5P h (i:=i - x.1.2.length) (j:=j - x.1.2.length) (by omega) (by omega) e;omega
 refine ⟨⟨by show 0<=vN x+(Ls.length:Int);omega,hn,hl,fun i hi=> ?_⟩,fun i hi=> ?_,fun i j hij hj a b h1 h2=> ?_,fun i j hij hj hh=> ?_,fun v hv=> ?_,fun v hv=> ?_⟩
 ·show zHo (vN x+(Ls.length:Int)) (tg (x.1.2++z1 (vN x) Ls Ls.length) i)=true
  by_cases e:i<x.1.2.length
  ·rw [z4J e];have:(0<=(tg x.1.2 i).1/\(tg x.1.2 i).1<vN x)/\(0<=(tg x.1.2 i).2.1/\(tg x.1.2 i).2.1<vN x)/\(0<=(tg x.1.2 i).2.2/\(tg x.1.2 i).2.2<vN x):=zBF (g.fit.2.2.2 i e);exact zPW (by omega)
  ·have:=j3 h g (hnew i (by omega) hi);exact zPW (by omega)
 ·by_cases e:i<x.1.2.length
  ·show ¬ dgn (tg (x.1.2++z1 (vN x) Ls Ls.length) i);rw [z4J e];exact hs.deg i e
  ·have:=j3 h g (hnew i (by omega) hi);show ¬ dgn (tg (x.1.2++z1 (vN x) Ls Ls.length) i);unfold dgn;omega
 ·have hj:j<(x.1.2++z1 (vN x) Ls Ls.length).length:=hj;have h1:dE (tg (x.1.2++z1 (vN x) Ls Ls.length) i) a b:=h1;have h2:dE (tg (x.1.2++z1 (vN x) Ls Ls.length) j) a b:=h2
  by_cases ej:j<x.1.2.length
  ·rw [z4J ej] at h2;rw [z4J (by omega)] at h1;exact hs.dif i j hij ej a b h1 h2
  ·have mj:=hnew j (by omega) hj
   by_cases ei:i<x.1.2.length
   ·have k1:=hold i ei a (y9 h1).1;have k2:=hold i ei b (y9 h1).2;have bd:=j3 h g mj;obtain ⟨q,st⟩:=z3m h mj;rcases z6I h2 with ⟨ea,eb⟩|⟨ea,eb⟩|⟨ea,eb⟩
    ·rw [z4J ei] at h1;have:=((zMh g).1 st.e).2;rw [<- ea,<- eb] at this;exact this ⟨i,ei,h1⟩
    ·omega
    ·omega
   ·exact onenew i j hij (by omega) hj (z6t h g (hnew i (by omega) (by omega)) mj h1 h2)
 ·obtain ⟨h1,h2,h3⟩:=hh;have hj:j<(x.1.2++z1 (vN x) Ls Ls.length).length:=hj
  by_cases ej:j<x.1.2.length
  ·have k1:zV (tg x.1.2 j) (tg x.1.2 i).1:=by rw [<- z4J (S:=z1 (vN x) Ls Ls.length) ej,<- z4J (S:=z1 (vN x) Ls Ls.length) (show i<x.1.2.length by omega)];exact h1
   have k2:zV (tg x.1.2 j) (tg x.1.2 i).2.1:=by rw [<- z4J (S:=z1 (vN x) Ls Ls.length) ej,<- z4J (S:=z1 (vN x) Ls Ls.length) (show i<x.1.2.length by omega)];exact h2
   have k3:zV (tg x.1.2 j) (tg x.1.2 i).2.2:=by rw [<- z4J (S:=z1 (vN x) Ls Ls.length) ej,<- z4J (S:=z1 (vN x) Ls Ls.length) (show i<x.1.2.length by omega)];exact h3
   exact hs.mir i j hij ej ⟨k1,k2,k3⟩
  ·have mj:=hnew j (by omega) hj;have bd:=j3 h g mj;obtain ⟨q,st⟩:=z3m h mj;have h1:zV (tg (x.1.2++z1 (vN x) Ls Ls.length) j) (tg (x.1.2++z1 (vN x) Ls Ls.length) i).1:=h1;have h2:zV (tg (x.1.2++z1 (vN x) Ls Ls.length) j) (tg (x.1.2++z1 (vN x) Ls Ls.length) i).2.1:=h2;have h3:zV (tg (x.1.2++z1 (vN x) Ls Ls.length) j) (tg (x.1.2++z1 (vN x) Ls Ls.length) i).2.2:=h3;unfold zV at h1 h2 h3
   by_cases ei:i<x.1.2.length
   ·have k1:=hold i ei _ (.inl rfl);have k2:=hold i ei _ (.inr (.inl rfl));have k3:=hold i ei _ (.inr (.inr rfl));have hd:=hs.deg i ei;rw [<- z4J (S:=z1 (vN x) Ls Ls.length) ei] at hd;unfold dgn at hd;omega
   ·have mi:=hnew i (by omega) (by omega);have bi:=j3 h g mi;obtain ⟨q',st'⟩:=z3m h mi;have hne:=onenew i j hij (by omega) hj;have e1:(tg (x.1.2++z1 (vN x) Ls Ls.length) i).1=(tg (x.1.2++z1 (vN x) Ls Ls.length) j).2.1:=by omega
    have hw:(tg (x.1.2++z1 (vN x) Ls Ls.length) i).2.1=(tg (x.1.2++z1 (vN x) Ls Ls.length) j).1\/(tg (x.1.2++z1 (vN x) Ls Ls.length) i).2.1=(tg (x.1.2++z1 (vN x) Ls Ls.length) j).2.1:=by omega
    rcases hw with e|e
    ·have k1:=st'.e;have k2:=st.e;rw [e1,e] at k1;exact ((zMh g).1 k1).2 ((zMh g).1 k2).1
    ·have k1:=st'.e;have k2:=st.e;rw [e] at k1;exact hne (zP2 g k1 k2)
 ·have hv:(v:Int)<vN x+(Ls.length:Int):=hv
  by_cases e:(v:Int)<vN x
  ·obtain ⟨j,j1,j2⟩:=hs.use v e;exact ⟨j,by show j<(x.1.2++z1 (vN x) Ls Ls.length).length;rw [z7];omega,by show zV (tg (x.1.2++z1 (vN x) Ls Ls.length) j) v;rw [z4J j1];exact j2⟩
  ·have hj:v - (vN x).toNat<Ls.length:=by omega
   have ok:=h.ok _ (z3j hj)
   have hm:((Ls.getD (v - (vN x).toNat) []).getD 0 0,(Ls.getD (v - (vN x).toNat) []).getD ((0+1) % (Ls.getD (v - (vN x).toNat) []).length) 0,vN x+((v - (vN x).toNat:Nat):Int))∈x.1.2++z1 (vN x) Ls Ls.length :=
    zA7 _ (z3i.2 ⟨_,0,hj,ok.ne,rfl⟩)
   obtain ⟨b,hb,e2⟩:=zAr hm;refine ⟨b,hb,?_⟩;show zV (tg (x.1.2++z1 (vN x) Ls Ls.length) b) v;rw [e2];exact .inr (.inr (by show vN x+((v - (vN x).toNat:Nat):Int)=v;omega))
 ·have hv:(v:Int)<vN x+(Ls.length:Int):=hv
  by_cases e:(v:Int)<vN x
  ·exact z4j h g hs e
  ·exact z4f h g (j0:=v - (vN x).toNat) (by omega) (by omega)
end
end S1
namespace S1
end S1
namespace S1
theorem z61 {l:List Int} {n:Int} (hn:l.Nodup) (h: ∀ v∈l,0<=v/\v<n):l.length<=n.toNat:=by
 have:=zG7 l ((List.range n.toNat).map fun v=>((v:Nat):Int)) hn fun v hv=>zS.2 ⟨v.toNat,zW.2 (by have:=h v hv;omega),by have:=h v hv;omega⟩;rwa [z2,zDg] at this
structure z5K (x x':zX.T):Prop where
 one:x'.1=(vN x+(zAC x).length,z4V x (zAC x).length)
 eq:z3v x=(x'.1,apx (vN x) (zAC x).length,0)
 new:zF0 x'.1=some x'
 full:Full x'
 surf:zJh x'.1
 nob: ∀ w u,¬ bE x' w u
 few:(zAC x).length<=(vN x).toNat
theorem filled {x:zX.T} (g:Full x) (hs:zJh x.1) (h1:x.1.2.length<=40) (h2:vN x<=120): ∃ x',z5K x x':=by
 have hl:=zEJ g;have hn:=z8C g;have hk:(zAC x).length<=(vN x).toNat:=zLX x _
 have hf:(z1 (vN x) (zAC x) (zAC x).length).length<=(vN x).toNat:=by
  have e:=congrArg List.length (z3o (vN x) (zAC x));rw [z2] at e;rw [e]
  exact z61 hl.nd fun v hv=>by
   obtain ⟨w,hw⟩:=(zJF g).1 hv;exact (z5I g hw).2.1
 have hlen:(z4V x (zAC x).length).length<=160:=by
  unfold z4V;rw [z7];omega
 have hS:=z5s hl g hs (by omega) (by show (z4V x (zAC x).length).length<=8192;omega);obtain ⟨k1,k2,k3⟩:=zJm hS;refine ⟨jO _,k3,?_,by rw [k3];exact k1,k2,by rw [k3];exact hS,fun w u hb=> ?_,hk⟩
 ·unfold z3v;rw [if_neg (by omega),k3];rfl
 ·obtain ⟨e1,e2⟩:=(zMh k2).1 hb;rw [k3] at e1 e2;exact e2 (z4N hl g e1)
theorem z3l {x x':zX.T} (g:Full x) (h:z5K x x') {j:Nat} (hj:j<(zAC x).length) {v:Int} :v∈zDV x' (vN x+(j:Int))↔v∈(zAC x).getD j []:=by
 have hl:=zEJ g;have hn:=z8C g;have e2:x'.1.2=z4V x (zAC x).length:=congrArg Prod.snd h.one
 have key: ∀ {b c:Int},eE (z4V x (zAC x).length) b c->(b=vN x+(j:Int)->c∈(zAC x).getD j [])/\(c=vN x+(j:Int)->b∈(zAC x).getD j []):=fun {b c} hbc=>by
  rcases z4H.1 hbc with ⟨i,hi,hd⟩|hn2
  ·have k1:0<=b/\b<vN x:=zWZ g.fit hi (y9 hd).1;have k2:0<=c/\c<vN x:=zWZ g.fit hi (y9 hd).2;exact ⟨fun e=>by omega,fun e=>by omega⟩
  ·obtain ⟨t,ht,hd⟩:=zDS.1 hn2;have bd:=j3 hl g ht;obtain ⟨j',st⟩:=z3m hl ht;have hz:=st.z;have same:t.2.2=vN x+(j:Int)->j'=j:=fun e=>by omega
   rcases z6I hd with ⟨ea,eb⟩|⟨ea,eb⟩|⟨ea,eb⟩
   ·exact ⟨fun e=>by omega,fun e=>by omega⟩
   ·refine ⟨fun e=>by omega,fun e=> ?_⟩;have:=same (by omega);subst this;rw [ea];exact st.m2
   ·refine ⟨fun e=> ?_,fun e=>by omega⟩;have:=same (by omega);subst this;rw [eb];exact st.m1
 rw [h.full.link_iff,zHW h.full];constructor
 ·rintro ⟨d,d1,d2|d2⟩
  ·have:=zDr.2 ⟨d,d1,d2⟩;rw [e2] at this;exact (key this).1 rfl
  ·have:=zDr.2 ⟨d,d1,d2⟩;rw [e2] at this;exact (key this).2 rfl
 ·intro hv;obtain ⟨i,hi,ei⟩:=zLZ hv;have hm:((zAC x).getD j []).getD i 0=v:=ei
  have:eE x'.1.2 (vN x+(j:Int)) v:=by
   rw [e2];refine z4H.2 (.inr (zDS.2 ⟨_,z3i.2 ⟨j,i,hj,hi,rfl⟩,.inr (.inr ⟨rfl,hm⟩)⟩))
  obtain ⟨d,d1,d2⟩:=zDr.1 this;exact ⟨d,d1,.inl d2⟩
end S1
open S9 (z4Y z4L z4X z3p z4d)
namespace S1
theorem z8Z {s:Int×List P3} {v:Int} : ∀ m u,0<=z8i s v m u->∃ w:Nat,z8i s v m u=w/\eE s.2 w v/\¬ eE s.2 v w
 | 0,u=>fun h=>absurd h (by show ¬ (0:Int)<=-1;omega)
 | m +1,u=>by
   unfold z8i
   by_cases e:z8G s.2 u v>=0/\z8G s.2 v u<0
   ·rw [if_pos e];exact fun _=>⟨u,rfl,z8I.1 e.1,fun k=>by have:=z8I.2 k;omega⟩
   ·rw [if_neg e];exact z8Z m (u+1)
theorem z8w {x:zX.T} (g:Full x) {v w:Int} (h:bE x w v):z8Y x.1 v=w:=by
 obtain ⟨u,e,h1,h2⟩:=z8Z (s:=x.1) (v:=v) _ _ ((z8X g).2 ⟨w,h⟩);have:z8Y x.1 v=u:=e;rw [this];exact zN6 g ((zMh g).2 ⟨h1,h2⟩) h
def z8K (x:zX.T) (v j:Nat):List Bool:=(List.range x.1.1.toNat).map fun (u:Nat)=>had (lpS x v).1 u|| decide ((u:Int)∈(zAm (some x) v).take j)
def z8H (x:zX.T) (v:Nat):List Bool:=(List.range x.1.1.toNat).map fun (u:Nat)=>had (lpS x v).1 u
def stp (x:zX.T) (v:Int) (j:Nat):Int:=iter (nx x) v j
theorem z80 {α:Type} {n:Nat} (f:Nat->α) {k:Nat} (d:α) (h:k<n):((List.range n).map f).getD k d=f k:=by
 rw [gdE,gE (by simpa using h)];simp
theorem z8L {x:zX.T} {v u:Nat} (h:u<x.1.1.toNat):(z8H x v).getD u false=had (lpS x v).1 u:=z80 _ _ h
theorem z8r (x:zX.T) (v:Nat):z8K x v 0=z8H x v:=zAQ fun u _=>by rw [List.take_zero];simp
theorem z8q (x:zX.T):z8H x 0=List.replicate x.1.1.toNat false:=by
 apply List.ext_getElem (by simp [z8H]);intro i h1 h2;simp only [z8H,List.getElem_map,List.getElem_replicate];rfl
theorem z8x {l:List Int} (h:l.Nodup) {i j:Nat} (hi:i<l.length) (hj:j<l.length) (e:l[i]=l[j]):i=j:=by
 apply yE;intro q;rcases Nat.lt_or_gt_of_ne q with q|q
 ·exact (List.pairwise_iff_getElem.1 h i j hi hj q) e
 ·exact (List.pairwise_iff_getElem.1 h j i hj hi q) e.symm
structure WkF (x:zX.T) (v:Nat):Prop where
 rng: ∀ j,0<=stp x v j/\stp x v j<x.1.1
 aft: ∀ j,z8Y x.1 (stp x v j)=stp x v (j+1)
 get: ∀ j,j<(zAm (some x) v).length->(zAm (some x) v).getD j 0=stp x v j
 pos:0<(zAm (some x) v).length
 end_:stp x v (zAm (some x) v).length=v
 nd:(zAm (some x) v).Nodup
 dis: ∀ u∈zAm (some x) v,had (lpS x v).1 u=false
theorem z8l {x:zX.T} (g:Full x) {v:Nat} (hh:had (lpS x v).1 v=false) (ha: ¬ z8Y x.1 v<0):WkF x v:=by
 have hv: ∃ w,bE x w (v:Int):=(z8X g).1 (by omega);obtain ⟨p,p0,p1,p2,p3⟩:=zN4 g hv;have hk:=zH2 g hv;have hlen:(zAm (some x) (v:Int)).length=p:=by rw [p3];simp
 obtain ⟨ih,ihm⟩:=zS3 g v;refine ⟨fun j=> ?_,fun j=> ?_,fun j hj=> ?_,by omega,by rw [hlen];exact p1,(zYz g hv).nd,fun u hu=> ?_⟩
 ·obtain ⟨w,hw⟩:=hk j;exact (zOe g hw).2.1
 ·obtain ⟨w,hw⟩:=hk j;rw [show z8Y x.1 (stp x v j)=w from z8w g hw];exact (zGD g hw).symm
 ·rw [p3];rw [hlen] at hj;exact zPV hj
 ·rw [Bool.eq_false_iff];intro e;obtain ⟨L,hL,huL⟩:=List.mem_flatten.1 ((ihm u).1 e);have:=zUq g hv (ih.ok L hL) hu huL;rw [(ihm v).2 (List.mem_flatten.2 ⟨L,hL,this⟩)] at hh;cases hh
theorem z8Q {x:zX.T} {v:Nat} (w:WkF x v) {j:Nat} (hj:j<=(zAm (some x) v).length):(z8K x v j).getD (stp x v j).toNat false=decide (j=(zAm (some x) v).length):=by
 have r:=w.rng j;unfold z8K;rw [z80 _ _ (by omega),zA4 r.1]
 by_cases q:j=(zAm (some x) v).length
 ·rw [decide_eq_true q,q,qJ,w.end_]
  have:(v:Int)∈zAm (some x) v:=by
   have h0:=w.get 0 w.pos;rw [show stp x v 0=v from rfl] at h0;have hm:=zA5 (l:=zAm (some x) v) (j:=0) w.pos;rwa [h0] at hm
  rw [decide_eq_true this,Bool.or_true]
 ·have hlt:j<(zAm (some x) v).length:=by omega
  have hm:stp x v j∈zAm (some x) v:=by rw [<- w.get j hlt];exact zA5 hlt
  rw [w.dis _ hm,Bool.false_or,decide_eq_decide];constructor
  ·intro h;exfalso;obtain ⟨i,hi,e⟩:=yG.1 h;rw [zAN] at hi;rw [List.getElem_take] at e
   have e2:(zAm (some x) v)[j]'hlt=stp x v j:=by
    rw [<- w.get j hlt,gdE,gE hlt];rfl
   have:=z8x w.nd (by omega) hlt (e.trans e2.symm);omega
  ·exact fun h=>absurd h q
theorem z8u {x:zX.T} {v:Nat} (w:WkF x v) {j:Nat} (hj:j<(zAm (some x) v).length):(z8K x v j).set (stp x v j).toNat true=z8K x v (j+1):=by
 have r:=w.rng j;apply List.ext_getElem (by simp [z8K]);intro i h1 h2;simp only [z8K,List.getElem_set,List.getElem_map,List.getElem_range];rw [yJ hj]
 have e2:(zAm (some x) v)[j]'hj=stp x v j:=by
  rw [<- w.get j hj,gdE,gE hj];rfl
 rw [e2]
 by_cases q:(stp x v j).toNat=i
 ·rw [if_pos q,show (i:Int)=stp x v j by omega];simp
 ·rw [if_neg q]
  congr 1
  rw [decide_eq_decide,zY,zD];exact ⟨.inl,fun h=>h.resolve_right fun e=>q (by omega)⟩
theorem z8d {x:zX.T} {v:Nat} (hh:had (lpS x v).1 v=false):z8H x (v+1)=z8K x v (zAm (some x) v).length:=zAQ fun u _=>by
 rw [zMS hh,qJ];apply Bool.eq_iff_iff.2;rw [zV2,yO,zF]
theorem z8y (x:zX.T):lpS x 0=([],[]):=rfl
theorem z8z (x:zX.T) (v:Int):stp x v 0=v:=rfl
def z8e (x:zX.T):Spec Nat where
 inv v:=(v:Int)<=x.1.1
 live v:=[(5,.s (.int .i64 v)),(3,.s (.own 2 0 (lpS x v).2.length))]
 keep:=[1,4]
 heap v:=[(2,.row (.sl jF) 43 (lpS x v).2),(3,.row .bool 4 (z8H x v))]
 keepH:=[0,1]
 mu v:=x.1.1.toNat - v
def z8g (x:zX.T) (v:Nat):Spec Nat where
 inv j:=j<=(zAm (some x) v).length
 live j:=[(7,.s (.int .i64 (stp x v j))),(6,.s (.own 4 0 j))]
 keep:=[1,3,4,5]
 heap j:=[(3,.row .bool 4 (z8K x v j)),(4,.row jF 3 ((zAm (some x) v).take j))]
 keepH:=[0,1,2]
 mu j:=(zAm (some x) v).length - j
attribute [local irreducible] z8K z8H stp lpS zAm z8Y
theorem z84 (n:Int) (l:List P3) (x:zX.T) (g:Full x) (e1:x.1=(n,l)):zB7 ⟨tyL,[(66,z8P)],[]⟩ f43 [zAa.av (n,l)] (fun r=>r= .s (.sl (.sl jF) (zAC x))):=by
 have en:x.1.1=n:=by rw [e1]
 repeat' (conv=>whnf
          first|done|refine qy ?_|refine qG fun _=> ?_|refine qw (fun _=> ?_) (fun _=> ?_)|apply qt|refine qi (fun _=> ?_) (fun _=> ?_)|(refine j6 4 rfl (z8e x) (0) ?_ ?_ ?_ fun v hv=> ?_)|with_reducible refine jX (z8e _) (v+1) ?_ ?_ ?_ ?_|(refine j6 9 rfl (z8g x v) (0) ?_ ?_ ?_ fun j hj=> ?_)|with_reducible refine jX (z8g _ _) (j+1) ?_ ?_ ?_ ?_|refine qu ?_|refine qv ?_ ?_|exact zT)
 all_goals try first|refine qz ?_|apply qz5
 all_goals try simp only [qn0,yC,yA,ETy.dflt,Int.reduceToNat,Int.reduceAdd,Int.reduceSub,Int.reduceNeg,Nat.reduceAdd,z8e,z8g] at *
 all_goals
  have hn1: @LE.le Int _ x.1.1 4096:=g.fit.2.1;have hn0: @LE.le Int _ 0 x.1.1:=g.fit.1;have hl:l.length<=8192:=by have:=g.fit.2.2.1;rwa [e1] at this
  rw [en] at hn1 hn0
 all_goals try exact qh ⟨hl,hn1⟩
 all_goals try exact qh (jB _)
 all_goals try (refine qh ?_;omega)
 all_goals try rfl
 all_goals try rw [en] at hv
 all_goals try (refine qh ?_;rw [en];omega)
 all_goals try (refine qh ?_;unfold zAL;omega)
 all_goals try
  have hlen:=zLX x v;refine qh ?_;omega
 ·exact congrArg (fun p=>p.2.length) (z8y x)
 ·exact congrArg (fun p=>p.2) (z8y x)
 ·rw [z8q,en]
 all_goals try
  have q: @LT.lt Int _ (v:Int) n:=by assumption
  have q2:(z8H x v).getD v false=true:=by assumption
  rw [z8L (by rw [en];omega)] at q2;have e:=zZ7 q2
  first|(rw [e];done)|(unfold z8H;rw [e])
 all_goals try
  have q: @LT.lt Int _ (v:Int) n:=by assumption
  have q2:(z8H x v).getD v false=false:=by assumption
  rw [z8L (by rw [en];omega)] at q2;have q3:z8Y (n,l) v<0:=by assumption
  have q4:zAm (some x) v=[]:=zZA g fun h=>by
   have:=(z8X g).2 h;rw [e1] at this;omega
  have e:lpS x (v+1)=lpS x v:=by rw [zMS q2,q4];rfl
  first|(rw [e];done)|(unfold z8H;rw [e])
 all_goals try
  have q: ¬ @LT.lt Int _ (v:Int) n:=by assumption
  unfold zAC;rw [show v=x.1.1.toNat by rw [en];omega]
  done
 all_goals
  have q: @LT.lt Int _ (v:Int) n:=by assumption
  have q2:(z8H x v).getD v false=false:=by assumption
  rw [z8L (by rw [en];omega)] at q2;have q3: ¬ z8Y (n,l) v<0:=by assumption
  have w:=z8l g q2 (by rw [e1];exact q3)
 ·exact z8z x v
 ·exact z8r x v
 all_goals
  have r:=w.rng j;rw [en] at r
 all_goals try (refine qh ?_;omega)
 all_goals try
  have q4:(z8K x v j).getD (stp x v j).toNat false=true:=by assumption
  rw [z8Q w hj,zF] at q4;have wp:=w.pos
  first
  | (rw [zMS q2,if_pos w.pos,z7];rfl)
  | (rw [zMS q2,if_pos w.pos,q4,j5,qJ,qJ];done)
  | (rw [z8d q2,q4];done)
 all_goals
  have q4:(z8K x v j).getD (stp x v j).toNat false=false:=by assumption
  rw [z8Q w hj,zB0] at q4;have hj2:j<(zAm (some x) v).length:=by omega
  first
  | exact qh hj2
  | (have:=w.aft j;rw [e1] at this;exact this.symm)
  | exact (z8u w hj2).symm
  | (have w1:=zRQ (o:=some x) (v:=(v:Int));refine qh ?_;omega)
  | (have e2:(zAm (some x) v)[j]'hj2=stp x v j:=by
      rw [<- w.get j hj2,gdE,gE hj2];rfl
     rw [j5,List.take_take,Nat.min_self,yJ hj2,e2])
attribute [local semireducible] z8K z8H stp lpS zAm z8Y
def z8O:List AV->Option Res:=zGM zAa (fun s=>some (none,some (zJh s),.s (.sl (.sl jF) (zAC (jO s)))))
theorem z87:zAI prog 43 z8O:=mkR (zBJ fun s r h=>by
 cases h
 exact fb (fn:=[(66,z8P)]) ⟨z83,trivial⟩ func43 fun _ h=>z84 s.1 s.2 (jO s) (zJm h).2.1 (zJm h).2.2) func43
def z8W (x:zX.T) (n:Int):Spec Nat where
 inv i:=i<=(zAC x).length
 live i:=[(6,.s (.int .i64 i))]
 keep:=[1,2,4,5]
 heap i:=[(3,.flat 24 [.int .i64 (n+(zAC x).length),.own 2 0 (z4V x i).length]),(2,.row .arr3 58 (z4V x i))]
 keepH:=[0,1]
 mu i:=(zAC x).length - i
def z8V (x:zX.T) (n:Int) (i:Nat):Spec Nat where
 inv k:=k<=((zAC x).getD i []).length
 live k:=[(7,.s (.int .i64 k))]
 keep:=[1,2,4,5,6]
 heap k:=[(3,.flat 24 [.int .i64 (n+(zAC x).length),.own 2 0 (z4V x i++z4C ((zAC x).getD i []) (vN x+(i:Int)) k).length]),(2,.row .arr3 58 (z4V x i++z4C ((zAC x).getD i []) (vN x+(i:Int)) k))]
 keepH:=[0,1]
 mu k:=((zAC x).getD i []).length - k
theorem z8o (x:zX.T):z4V x 0=x.1.2:=yW _
theorem z8a (L:List Int) (z:Int):z4C L z 0=[]:=rfl
theorem z8N {n:Int} {a b:Nat} (h:a=b):zAM (Ob.flat 24 [.int .i64 n,.own 2 0 a]) (Ob.flat 24 [.int .i64 n,.own 2 0 b]):=zAM.intro (by rw [h])
theorem z8R (k m:Nat):((k:Int)+1).tmod (m:Int)=((k+1) % m:Nat):=by
 rw [Int.tmod_eq_emod_of_nonneg (by omega)];rfl
attribute [local irreducible] zAC z4V z4C jO
theorem z8k (n:Int) (l:List P3) (x:zX.T) (hx:x=jO (n,l)) (g:Full x) (e1:x.1=(n,l)) (hs:zJh (n,l)) (h1:l.length<=40) (h2:n<=120):zB7 ⟨tyL,[(43,z8O)],[]⟩ Try.f22 [zAa.av (n,l)] (fun r=>r= .tup [zAa.av (n+(zAC x).length,z4V x (zAC x).length),.s (.int .i64 (zAC x).length)]):=by
 subst hx
 repeat' (conv=>whnf
          first|done|refine qy ?_|refine qG fun _=> ?_|refine qw (fun _=> ?_) (fun _=> ?_)|apply qt|refine qi (fun _=> ?_) (fun _=> ?_)|(refine j6 4 rfl (z8W (jO (n,l)) n) (0) ?_ ?_ ?_ fun i hi=> ?_)|with_reducible refine jX (z8W _ _) (i+1) ?_ ?_ ?_ ?_|(refine j6 7 rfl (z8V (jO (n,l)) n i) (0) ?_ ?_ ?_ fun k hk=> ?_)|with_reducible refine jX (z8V _ _ _) (k+1) ?_ ?_ ?_ ?_|refine qu ?_|refine qv ?_ ?_|exact zT)
 all_goals try first|refine qz ?_|apply qz5
 all_goals try simp only [qn0,yC,yA,ETy.dflt,Int.reduceToNat,Int.reduceAdd,Int.reduceSub,Int.reduceNeg,Nat.reduceAdd,z8W,z8V] at *
 all_goals
  have en:vN (jO (n,l))=n:=congrArg Prod.fst e1;have e2:(jO (n,l)).1.2=l:=congrArg Prod.snd e1;have hl0:=z5p (jO (n,l));have hn0:0<=n:=hs.fit.1;rw [en] at hl0
  try rw [en]
 all_goals try exact qh (jB _)
 all_goals try (refine qh ?_;omega)
 all_goals try (refine qh ?_;unfold zAL;omega)
 ·refine z8N ?_;rw [z8o,e2]
 ·rw [z8o,e2]
 ·refine z8N ?_;rw [z8a,yW]
 ·rw [z8a,yW]
 ·have hk1:k<((zAC (jO (n,l))).getD i []).length:=Int.ofNat_lt.1 (by assumption);rw [z8R];refine jQ.intro ⟨by omega,Int.ofNat_lt.2 (Nat.mod_lt _ (by omega))⟩
 ·have hk1:k<((zAC (jO (n,l))).getD i []).length:=Int.ofNat_lt.1 (by assumption);have k1:=z5J (jO (n,l)) i;have k2:=z4O (jO (n,l)) i;rw [e2] at k1;rw [z7,z3q];refine qh ?_;omega
 ·refine z8N ?_;rw [z5V,<- zHR,z7 (bs:=[_])];rfl
 ·rw [z5V,z8R,Int.toNat_natCast,zHR]
 ·have hk1: ¬ (k:Int)<(((zAC (jO (n,l))).getD i []).length:Int):=by assumption
  refine z8N ?_;rw [z4P,en,show k=((zAC (jO (n,l))).getD i []).length by omega]
 ·have hk1: ¬ (k:Int)<(((zAC (jO (n,l))).getD i []).length:Int):=by assumption
  rw [z4P,en,show k=((zAC (jO (n,l))).getD i []).length by omega]
 ·rw [show i=(zAC (jO (n,l))).length by omega];exact jJ.intro rfl
attribute [local semireducible] zAC z4V z4C jO
def z8J (s:Int×List P3):(Int×List P3)×Int:=((s.1+(zAC (jO s)).length,z4V (jO s) (zAC (jO s)).length),(zAC (jO s)).length)
def z8U (G:Int×List P3->(Int×List P3)×Int):List AV->Option Res:=zGM zAa (fun s=>some (none,some (G=z8J/\zJh s/\s.2.length<=40/\s.1<=120),.tup [zAa.av (G s).1,.s (.int .i64 (G s).2)]))
theorem z89 (G:Int×List P3->(Int×List P3)×Int):zAI prog 22 (z8U G):=mkR (zBJ fun s r h=>by
 cases h
 exact fb (fn:=[(43,z8O)]) ⟨z87,trivial⟩ func22 fun _ h=>by
  rw [h.1]
  exact z8k s.1 s.2 (jO s) rfl (zJm h.2.1).2.1 (zJm h.2.1).2.2 h.2.1 h.2.2.1 h.2.2.2) func22
end S1
open S9 (z4Y z4L z4X z3p z4d)
namespace S1
theorem z62 {s:Int×List P3} (h:zJh s):z3f s=z3v (jO s):=by
 unfold z3f;rw [(zJm h).1]
end S1
open S9 (z4Y z4L z4X z3p z4d)
namespace S1
theorem z8m {n:Int} {l:List P3} (h:zJh (n,l)) (hc: ¬ (l.length>40\/n>120)):z3f (n,l)=((z8J (n,l)).1,apx n (zAC (jO (n,l))).length,0)/\(z8J (n,l)).2=(zAC (jO (n,l))).length:=by
 obtain ⟨k1,k2,k3⟩:=zJm h;obtain ⟨x',f⟩:=filled (x:=jO (n,l)) k2 (by rw [k3];exact h) (by show l.length<=40;omega) (by show n<=120;omega);refine ⟨?_,rfl⟩;rw [z62 h];have e:=f.eq;rw [f.one] at e;exact e
def z8b (L:List Int):Spec Nat where
 inv i:=i<=L.length
 live i:=[(64,.s (.int .i64 i))]
 keep:=[1,4,63]
 heap _:=[]
 keepH:=[0,1,2]
 mu i:=L.length - i
theorem z8t {s:Int×List P3} (h: ¬ zJh s):z3f s=((0,[]),[],11):=by
 unfold z3f
 have:zF0 s=none:=by
  cases e:zF0 s with
  | none=>rfl
  | some x=>exact absurd (zQF e).2.2 h
 rw [this]
attribute [local irreducible] z8J zAC
theorem lawSF_vc (n:Int) (l:List P3) (F:Int×List P3->FoR) (hF:F=z3f) (G:Int×List P3->(Int×List P3)×Int) (hG:G=z8J):zB7 ⟨tyL,[(14,z49),(15,z47),(17,z73 F),(16,z4Y),(22,z8U G),(23,z7Z)],[]⟩ Try.f5 [zAa.av (n,l)] (fun r=>r= .s (.bool true)):=by
 repeat' (conv=>whnf
          first|done|refine qy ?_|refine qG fun _=> ?_|refine qw (fun _=> ?_) (fun _=> ?_)|apply qt|refine qi (fun _=> ?_) (fun _=> ?_)|(refine j6 10 rfl (z8b (F (n,l)).2.1) (0) ?_ ?_ ?_ fun i hi=> ?_)|with_reducible refine jX (z8b _) (i+1) ?_ ?_ ?_ ?_|refine qu ?_|refine qv ?_ ?_|exact zT)
 all_goals try first|refine qz ?_|apply qz5
 all_goals try simp only [qn0,yC,yA,ETy.dflt,Int.reduceToNat,Int.reduceAdd,Int.reduceSub,Int.reduceNeg,Nat.reduceAdd,z8b] at *
 all_goals subst hF hG
 all_goals try
  have hb:(S9.allR (n,l)).length≠0:=by assumption
  have hS: ¬ zJh (n,l):=fun k=>hb (by have:=(z3p (n,l)).2 k;unfold z4X at this;rw [beq_iff_eq] at this;exact this);have e:=z8t hS
  first
  | (rw [e];rfl)
  | exact absurd (show ((z3f (n,l)).2.1.length:Int)=0 by rw [e];rfl) (by assumption)
  | exact absurd (show ((z3f (n,l)).1.2.length:Int)=0 by rw [e];rfl) (by assumption)
  | exact absurd (show (z3f (n,l)).1.1=0 by rw [e]) (by assumption)
 all_goals
  have hS:zJh (n,l):=(z3p (n,l)).1 (by unfold z4X;rw [beq_iff_eq];assumption);have hc: ¬ (l.length>40\/n>120):=by assumption
  obtain ⟨e1,e2⟩:=z8m hS hc;have hn0:0<=n:=hS.fit.1;have hf:=z5p (jO (n,l));have en:vN (jO (n,l))=n:=congrArg Prod.fst (zJm hS).2.2;rw [en] at hf;have el:(z3f (n,l)).2.1.length=(zAC (jO (n,l))).length:=by rw [e1];exact z4c ..
 all_goals try exact absurd (congrArg (fun r=>r.2.2) e1) (by assumption)
 all_goals try exact absurd (congrArg (fun r=>r.1) e1) (by assumption)
 ·exact qh ⟨rfl,hS,show l.length<=40 by omega,show n<=120 by omega⟩
 ·exact absurd (show (((z3f (n,l)).2.1.length:Nat):Int)=(z8J (n,l)).2 by rw [e2,el]) (by assumption)
 ·exact qh (jB _)
 ·refine qh ?_;unfold zAL;omega
 ·refine absurd ?_ (by assumption:(z3f (n,l)).2.1.getD i 0≠n+(i:Int));rw [e1];exact zPV (by omega)
 ·refine qh ?_;omega
 ·refine qh ?_;omega
def lawSFC:List AV->Option Res:=zGM zAa (fun _=>some (none,none,.s (.bool true)))
theorem lawSFRow:zAI prog 5 lawSFC:=mkR (zBJ fun s r h=>by
 cases h
 exact fb (fn:=[(14,z49),(15,z47),(17,z73 z3f),(16,z4Y),(22,z8U z8J),(23,z7Z)]) ⟨z5W,z5S,(z7G z3f),z4L,(z89 z8J),z7N,trivial⟩ func5 fun _ _=>lawSF_vc s.1 s.2 z3f rfl z8J rfl) func5
end S1
