/- A part of the proofs of the laws. -/
import Derived.Test.YtbfghjbhfgbdnaaT0toVmInl
import Derived.Test.YtbfghjbhfgbdnaaVmSort
import Derived.Test.YtbfghjbhfgbdnaaLaySort
import Derived.RangeFuncFrom
import Derived.RangeFuncLeaves
import Derived.Test.YtbfghjbhfgbdnaaVmCode2toVmKit
import Derived.Maps.RangeRun
import Derived.Scope
set_option linter.unusedSimpArgs false
set_option linter.unusedVariables false
set_option maxHeartbeats 8000000
set_option maxRecDepth 100000
open Go.Proofs.Try
open Go Go.Vm Go.Proofs
namespace S1
def zTT (x y:Int):Int:=if x<y then -1 else if x>y then 1 else 0
theorem z1o {fn} (x:Int):zB7 ⟨tyL,fn,[]⟩ f105 [(ETy.int .i64).av x] (fun v=>v= .s (.bool false)):=by
 repeat' (conv=>whnf
          first|done|refine qy ?_|refine qG fun _=> ?_|refine qw (fun _=> ?_) (fun _=> ?_)|apply qt|refine qi (fun _=> ?_) (fun _=> ?_)|refine qu ?_|refine qv ?_ ?_|exact zT)
 all_goals try first|refine qz ?_|apply qz5
 all_goals try simp only [qn0,yC,yA,ETy.dflt,Int.reduceToNat,Int.reduceAdd,Int.reduceSub,Int.reduceNeg,Nat.reduceAdd] at *
 simp
def z3F:List AV->Option Res:=zGM (.int .i64) (fun _=>some (none,none,.s (.bool false)))
theorem z1L:zAI prog 105 z3F:=mkR (zBJ fun x r h=>by cases h;exact fb (fn:=[]) trivial func105 fun _ _=>z1o x) func105
theorem z1p (x y:Int):zB7 ⟨tyL,[(105,z3F)],[]⟩ f84 [(ETy.int .i64).av x,(ETy.int .i64).av y] (fun v=>v= .s (.int .i64 (zTT x y))):=by
 repeat' (conv=>whnf
          first|done|refine qy ?_|refine qG fun _=> ?_|refine qw (fun _=> ?_) (fun _=> ?_)|apply qt|refine qi (fun _=> ?_) (fun _=> ?_)|refine qu ?_|refine qv ?_ ?_|exact zT)
 all_goals try first|refine qz ?_|apply qz5
 all_goals try simp only [qn0,yC,yA,ETy.dflt,Int.reduceToNat,Int.reduceAdd,Int.reduceSub,Int.reduceNeg,Nat.reduceAdd,zTT] at *
 all_goals (repeat' split)<;>omega
def z3I:List AV->Option Res:=zNH (.int .i64) (.int .i64) (fun x y=>some (none,none,.s (.int .i64 (zTT x y))))
theorem z1q:zAI prog 84 z3I:=mkR (zCh fun x y r h=>by cases h;exact fb (by exact ⟨z1L,trivial⟩) func84 fun _ _=>z1p x y) func84
def orR:List Int->Int
 | []=>0
 | x::r=>if x=0 then orR r else x
def zYc (l:List Int):Spec Nat where
 inv x:=x<=l.length/\orR l=orR (l.drop x)
 live x:=[(8,.s (.int .i64 x))]
 keep:=[3,6,7]
 heap _:=[]
 keepH:=[]
 mu x:=l.length - x
theorem z2u {fn} (l:List Int):zB7 ⟨tyL,fn,[]⟩ f83 [(ETy.sl (.int .i64)).av l] (fun v=>v= .s (.int .i64 (orR l))):=by
 repeat' (conv=>whnf
          first|done|refine qy ?_|refine qG fun _=> ?_|refine qw (fun _=> ?_) (fun _=> ?_)|apply qt|refine qi (fun _=> ?_) (fun _=> ?_)|(refine j6 3 rfl (zYc l) (0) ?_ ?_ ?_ fun x hx=> ?_)|with_reducible refine jX (zYc _) (x+1) ?_ ?_ ?_ ?_|refine qu ?_|refine qv ?_ ?_|exact zT)
 all_goals try first|refine qz ?_|apply qz5
 all_goals try simp only [qn0,yC,yA,ETy.dflt,Int.reduceToNat,Int.reduceAdd,Int.reduceSub,Int.reduceNeg,Nat.reduceAdd,zYc] at *
 all_goals try (refine qh ?_;omega)
 ·exact qh ⟨jB _,rfl⟩
 ·rename_i h1 h2;rw [hx.2,zCn 0 h1,orR,if_neg h2]
 ·rename_i h1 h2;exact qh ⟨by omega,by rw [hx.2,zCn 0 h1,orR,if_pos h2]⟩
 ·rw [hx.2,zHS (by assumption)];rfl
def orC:List AV->Option Res:=zGM (.sl (.int .i64)) (fun l=>some (none,none,.s (.int .i64 (orR l))))
theorem z26:zAI prog 83 orC:=mkR (zBJ fun l r h=>by cases h;exact fb (fn:=[]) trivial func83 fun _ _=>z2u l) func83
def cfW (a b:Wit):Int:=orR [zTT a.2.2 b.2.2,zTT a.2.1 b.2.1]
theorem zZQ (a b:Wit):zB7 ⟨tyL,[(84,z3I),(83,orC)],[]⟩ f82 [zCx.av a,zCx.av b] (fun v=>v= .s (.int .i64 (cfW a b))):=by
 repeat' (conv=>whnf
          first|done|refine qy ?_|refine qG fun _=> ?_|refine qw (fun _=> ?_) (fun _=> ?_)|apply qt|refine qi (fun _=> ?_) (fun _=> ?_)|refine qu ?_|refine qv ?_ ?_|exact zT)
 all_goals try first|refine qz ?_|apply qz5
 all_goals try simp only [qn0,yC,yA,ETy.dflt,Int.reduceToNat,Int.reduceAdd,Int.reduceSub,Int.reduceNeg,Nat.reduceAdd,cfW] at *
 try rfl
def z2e:List AV->Option Res:=zNH zCx zCx (fun a b=>some (none,none,.s (.int .i64 (cfW a b))))
theorem zYW:zAI prog 82 z2e:=mkR (zCh fun a b r h=>by cases h;exact fb (by exact ⟨z1q,z26,trivial⟩) func82 fun _ _=>zZQ a b) func82
theorem z10 (a b:Wit):cfW a b=if a.2.2=b.2.2 then zTT a.2.1 b.2.1 else zTT a.2.2 b.2.2:=by
 simp only [cfW,orR,zTT]
 repeat' split
 all_goals first|rfl|omega
def lt2 (p r q s:Int):Bool:=decide (p<q\/(p=q/\r<s))
theorem z14 (p r q s:Int):decide ((if p=q then zTT r s else zTT p q)<0)=lt2 p r q s:=by
 unfold lt2
 congr 1
 unfold zTT;apply propext
 by_cases h1:p=q
 ·subst h1
  by_cases h2:r<s
  ·simp [h2]
  ·by_cases h3:r>s<;>simp [h2,h3]
 ·by_cases h2:p<q
  ·simp [h1,h2]
  ·by_cases h3:p>q<;>simp [h1,h2,h3]
theorem z0A (p r:Int):lt2 p r p r=false:=by simp [lt2]
theorem lt2_trans (p r q s t u:Int) (h1:lt2 p r q s=true) (h2:lt2 q s t u=true):lt2 p r t u=true:=by
 simp only [lt2,zF] at *;omega
theorem zQo (p r q s t u:Int) (h1:lt2 p r q s=false) (h2:lt2 q s t u=false):lt2 p r t u=false:=by
 simp only [lt2,zB0] at *;omega
theorem z2l:z0L zCx cfW:=by
 have key: ∀ a b:RT zCx,ltOf (fun a b:RT zCx=>cfW a.1 b.1) a b=lt2 a.1.2.2 a.1.2.1 b.1.2.2 b.1.2.1:=by
  intro a b;show decide (cfW a.1 b.1<0)=_;rw [z10];exact z14 _ _ _ _
 refine ⟨fun x=>by rw [key];exact z0A _ _,fun x y z h1 h2=> ?_,fun x y z h1 h2=> ?_⟩
 ·rw [key] at h1 h2 ⊢;exact lt2_trans _ _ _ _ _ _ h1 h2
 ·rw [key] at h1 h2 ⊢;exact zQo _ _ _ _ _ _ h1 h2
def zXS:List AV->St->(AV->St->Prop)->Prop:=zGY zCx (zGe zCx cfW) (z3C 82) 1
theorem zWb : zIx prog 81 zXS ∧ ∃ fn, Try.prog.funcs[81]? = some fn ∧ (fn.name == "runtime.NumGoroutine") = false ∧ fn.body.isNone = false :=
 ⟨zWj (ρ:=Go.Proofs.S1.laySortF_ren) Go.Proofs.S1.laySortF (e:=zCx) rfl rfl (by decide) (fun w=>((z0s (fn:=[]) trivial).ty 33 _ rfl).run_isAgg) (fun w=>((z0s (fn:=[]) trivial).ty 33 _ rfl).run_sizeOf) (enters_of func82 (by kernel_rfl) rfl) z2l (fun x y=>zYW.1 _ _ rfl),
   _,func81,by kernel_rfl,by kernel_rfl⟩
def zUh:List AV->St->(AV->St->Prop)->Prop:=zKf zBg (fun l=>l.isEmpty)
theorem zOk : zIx prog 49 zUh ∧ ∃ fn, Try.prog.funcs[49]? = some fn ∧ (fn.name == "runtime.NumGoroutine") = false ∧ fn.body.isNone = false :=
 ⟨zUS (ρ:=Go.Proofs.S1.laySortI_ren) Go.Proofs.S1.laySortI,_,func49,by kernel_rfl,by kernel_rfl⟩
end S1
namespace S1
def s3 (t:P3):P3:=((zBg [t.1,t.2.1,t.2.2]).getD 0 0,(zBg [t.1,t.2.1,t.2.2]).getD 1 0,(zBg [t.1,t.2.1,t.2.2]).getD 2 0)
def zDo (t:P3):List P3:=[s3 t]
theorem zZe (t:P3):zB7 ⟨tyL,[],[(49,.run zUh)]⟩ f102 [ETy.arr3.av t] (fun v=>v= .s (.sl .arr3 (zDo t))):=by
 repeat' (conv=>whnf
          first|done|refine qy ?_|refine qG fun _=> ?_|refine qw (fun _=> ?_) (fun _=> ?_)|apply qt|refine qi (fun _=> ?_) (fun _=> ?_)|refine qu ?_|refine qv ?_ ?_|exact zT)
 all_goals try first|refine qz ?_|apply qz5
 all_goals try simp only [qn0,yC,yA,ETy.dflt,Int.reduceToNat,Int.reduceAdd,Int.reduceSub,Int.reduceNeg,Nat.reduceAdd,zDo,s3] at *
 try rfl
def zZm:List AV->Option Res:=zGM .arr3 (fun t=>some (none,none,.s (.sl .arr3 (zDo t))))
theorem zZg:zAI prog 102 zZm:=mkR (zBJ fun t r h=>by cases h;exact fb (fn:=[]) trivial func102 (p2:=by exact ⟨zOk,trivial⟩) fun _ _=>zZe t) func102
theorem zQY (n kind:Int) (l:List P3) (hb:l.length<=8192):zGL ⟨tyL,[(102,zZm)],[]⟩ f100 [zAa.av (n,l),(ETy.int .i64).av kind,ETy.fnc.av (some 102)] (fun v obs=>v= .s (.own 0 0 (prS zDo kind l l.length).2.2.length)/\obs=[.row zCx 33 (prS zDo kind l l.length).2.2]):=by
 have hS:=fun x (h:x<=8192)=>zX0 zDo (fun _=>(by decide:1<=3)) kind l x h
 repeat' (conv=>whnf
          first|done|refine qy ?_|refine qG fun _=> ?_|refine qw (fun _=> ?_) (fun _=> ?_)|apply qt|refine qi (fun _=> ?_) (fun _=> ?_)|(refine j6 5 rfl (zJ2 zDo kind l) (0) ?_ ?_ ?_ fun x hx=> ?_)|with_reducible refine jX (zJ2 _ _ _) (x+1) ?_ ?_ ?_ ?_|(refine j6 8 rfl (zJX kind x (zDo (l.getD x (0,0,0))) (prS zDo kind l x)) (0) ?_ ?_ ?_ fun y hy=> ?_)|with_reducible refine jX (zJX _ _ _ _) (y+1) ?_ ?_ ?_ ?_|(refine j6 11 rfl (zJt kind x (zAb (jE (prK kind x (zDo (l.getD x (0,0,0)))) (prS zDo kind l x) y).1 ((zDo (l.getD x (0,0,0))).getD y (0,0,0))) (jE (prK kind x (zDo (l.getD x (0,0,0)))) (prS zDo kind l x) y).2) (0) ?_ ?_ ?_ fun z hz=> ?_)|with_reducible refine jX (zJt _ _ _ _) (z+1) ?_ ?_ ?_ ?_|refine qu ?_|refine qv ?_ ?_|exact zT)
 all_goals try first|refine qz ?_|apply qz5
 all_goals try simp only [qn0,yC,yA,ETy.dflt,Int.reduceToNat,Int.reduceAdd,Int.reduceSub,Int.reduceNeg,Nat.reduceAdd,zJ2,zJX,zJt,zDT,zNK,zJ6] at *
 all_goals try (refine qh ?_;omega)
 all_goals try (rw [zPo (by assumption)];done)
 all_goals try (rw [zUg (by assumption)];(try simp);done)
 all_goals try first
  | (have e:z=(zAb (jE (prK kind x (zDo (l.getD x (0,0,0)))) (prS zDo kind l x) y).1 ((zDo (l.getD x (0,0,0))).getD y (0,0,0))).length:=by omega
     subst e;first|rfl|(rw [zDT,zAz];rfl))
  | (have e:y=(zDo (l.getD x (0,0,0))).length:=by omega
     subst e;rfl)
  | (have e:x=l.length:=by omega
     subst e;rfl)
 all_goals
  have hB:=zOR (kind:=kind) (i:=x) (ks:=zDo (l.getD x (0,0,0))) (hS x (by omega)) (by decide:1<=3) y (by omega);have h1:=hB.1 ((zDo (l.getD x (0,0,0))).getD y (0,0,0));have h2:=hB.2;have h3:=zNj kind x (zAb (jE (prK kind x (zDo (l.getD x (0,0,0)))) (prS zDo kind l x) y).1 ((zDo (l.getD x (0,0,0))).getD y (0,0,0))) (jE (prK kind x (zDo (l.getD x (0,0,0)))) (prS zDo kind l x) y).2 z;have h4:y<=3:=qT hy (by decide:1<=3)
  have h5:y*(3*x+3)<=3*(3*x+3):=yD _ h4;refine qh ?_;generalize y*(3*x+3)=q at *
 ·omega
 ·unfold zB8;simp only [zZ,List.take_zero,List.length_nil];omega
def zOj:List AV->Option zLe:=zNd zAa (.int .i64) .fnc (fun s kind f=>match f with
 | some 102=>some (none,some (s.2.length<=8192),.s (.own 0 0 (prS zDo kind s.2 s.2.length).2.2.length),[.row zCx 33 (prS zDo kind s.2 s.2.length).2.2])
 | _=>none)
theorem zQy:zEP prog 100 zPa:=zVC (zQQ fun s kind f r h=>by
 match f,h with
 | some 101,h=>cases h;exact fbF (fn:=[(101,zO4)]) ⟨zUC,trivial⟩ func100 fun _ h=>zQw s.1 kind s.2 h) func100
theorem zQ5:zEP prog 100 zOj:=zVC (zQQ fun s kind f r h=>by
 match f,h with
 | some 102,h=>cases h;exact fbF (fn:=[(102,zZm)]) ⟨zZg,trivial⟩ func100 fun _ h=>zQY s.1 kind s.2 h) func100
theorem zVT (n:Int) (l:List P3) (hb:l.length<=8192):zGL ⟨tyL,[],[(100,.res zPa)]⟩ f77 [zAa.av (n,l)] (fun v obs=>v= .s (.own 0 0 (prS qV 3 l l.length).2.2.length)/\obs=[.row zCx 33 (prS qV 3 l l.length).2.2]):=by
 repeat' (conv=>whnf
          first|done|refine qy ?_|refine qG fun _=> ?_|refine qw (fun _=> ?_) (fun _=> ?_)|apply qt|refine qi (fun _=> ?_) (fun _=> ?_)|refine qu ?_|refine qv ?_ ?_|exact zT)
 all_goals try first|refine qz ?_|apply qz5
 all_goals try simp only [qn0,yC,yA,ETy.dflt,Int.reduceToNat,Int.reduceAdd,Int.reduceSub,Int.reduceNeg,Nat.reduceAdd] at *
def zXo:List AV->Option zLe:=zGM zAa (fun s=>some (none,some (s.2.length<=8192),.s (.own 0 0 (prS qV 3 s.2 s.2.length).2.2.length),[.row zCx 33 (prS qV 3 s.2 s.2.length).2.2]))
theorem zV5:zEP prog 77 zXo:=zVC (zDa fun s r h=>by cases h;exact fbF (fn:=[]) trivial func77 (p2:=by exact ⟨zQy,trivial⟩) fun _ h=>zVT s.1 s.2 h) func77
theorem zOd (n:Int) (l:List P3) (hb:l.length<=8192):zGL ⟨tyL,[],[(100,.res zOj)]⟩ f78 [zAa.av (n,l)] (fun v obs=>v= .s (.own 0 0 (prS zDo 4 l l.length).2.2.length)/\obs=[.row zCx 33 (prS zDo 4 l l.length).2.2]):=by
 repeat' (conv=>whnf
          first|done|refine qy ?_|refine qG fun _=> ?_|refine qw (fun _=> ?_) (fun _=> ?_)|apply qt|refine qi (fun _=> ?_) (fun _=> ?_)|refine qu ?_|refine qv ?_ ?_|exact zT)
 all_goals try first|refine qz ?_|apply qz5
 all_goals try simp only [qn0,yC,yA,ETy.dflt,Int.reduceToNat,Int.reduceAdd,Int.reduceSub,Int.reduceNeg,Nat.reduceAdd] at *
def zMe:List AV->Option zLe:=zGM zAa (fun s=>some (none,some (s.2.length<=8192),.s (.own 0 0 (prS zDo 4 s.2 s.2.length).2.2.length),[.row zCx 33 (prS zDo 4 s.2 s.2.length).2.2]))
theorem zN7:zEP prog 78 zMe:=zVC (zDa fun s r h=>by cases h;exact fbF (fn:=[]) trivial func78 (p2:=by exact ⟨zQ5,trivial⟩) fun _ h=>zOd s.1 s.2 h) func78
end S1
namespace S1
theorem zKn {α:Type} {l:List α} (h: ¬ (l.length:Int)>0):l=[]:=by
 cases l with
 | nil=>rfl
 | cons a l=>exact absurd (by simp) h
theorem zFS {n:Int} {l:List P3} (h: ¬ ((zBk (n,l)).length:Int)>0):zLo (n,l):=by
 have h:=zKn h;unfold zBk at h;split at h
 ·cases h
 ·rename_i hb
  have hb: ¬ (n<0\/n>4096\/(l.length:Int)>8192):=by
   simpa only [zV3,yO,zF] using hb
  have hc:n<=4096/\0<=n/\l.length<=8192:=by omega
  refine ⟨hc.2.1,hc.1,hc.2.2,fun i hi=> ?_⟩;have:=jC.1 h i (zW.2 hi);unfold z0P at this;split at this
  ·assumption
  ·cases this
theorem zKv {s:List Bool} {i j:Nat} (h:(s.set i true).getD j false=true):i=j\/s.getD j false=true:=by
 by_cases e:i=j
 ·exact .inl e
 ·rw [gdE,qP e] at h;exact .inr (by rw [gdE];exact h)
theorem zLl {n:Nat} {l:List P3} {v:Nat} (hl: ∀ j,j<l.length->0<=(l.getD j (0,0,0)).1/\0<=(l.getD j (0,0,0)).2.1/\0<=(l.getD j (0,0,0)).2.2) :
 ∀ i,i<=l.length->(zCq n l i).getD v false=true->∃ j,j<i/\zV (l.getD j (0,0,0)) v
 | 0,_,h=>by
   have:(zCq n l 0).getD v false=false:=by
    show (List.replicate n false).getD v false=false;rw [gdE,yU];split<;>rfl
   rw [this] at h;cases h
 | i + 1,hi,h=>by
   have h:(zLw (zCq n l i) (l.getD i (0,0,0))).getD v false=true:=h;obtain ⟨k1,k2,k3⟩:=hl i (by omega);rcases zKv h with e|h
   ·exact ⟨i,by omega,.inr (.inr (by omega))⟩
   ·rcases zKv h with e|h
    ·exact ⟨i,by omega,.inr (.inl (by omega))⟩
    ·rcases zKv h with e|h
     ·exact ⟨i,by omega,.inl (by omega)⟩
     ·obtain ⟨j,h1,h2⟩:=zLl hl i (by omega) h;exact ⟨j,by omega,h2⟩
theorem zV0 {n:Int} {l:List P3} (hf:zLo (n,l)) (h: ¬ ((zHL (n,l)).length:Int)>0):z27 (n,l):=by
 have h:=zKn h;intro v hv;have:=jC.1 h v (zW.2 (by omega));unfold loG at this;split at this
 ·rename_i ht;exact zLl (fun j hj=>by have:=zBF (hf.2.2.2 j hj);omega) l.length (zI _) ht
 ·cases this
def zDG:List (List Wit)->List Wit
 | []=>[]
 | l::r=>if (l.length:Int)>0 then zGe zCx cfW l else zDG r
def allR (s:Int×List P3):List Wit:=zDG [zBk s,dgL s.2 s.2.length,(prS qV 3 s.2 s.2.length).2.2,(prS zDo 4 s.2 s.2.length).2.2,zHL s,zSe s]
theorem zIb (l:List Wit):(zGe zCx cfW l).length=l.length:=zHy z2l l
theorem z1l (n:Int) (l:List P3):zGL ⟨tyL,[],[(75,.res zXu),(76,.res z1S),(77,.res zXo),(78,.res zMe),(79,.res zSU),(80,.res zX1),(81,.run zXS)]⟩ f56 [zAa.av (n,l)] (fun v obs=>v= .s (.own 0 0 (allR (n,l)).length)/\obs=[.row zCx 33 (allR (n,l))]):=by
 repeat' (conv=>whnf
          first|done|refine qy ?_|refine qG fun _=> ?_|refine qw (fun _=> ?_) (fun _=> ?_)|apply qt|refine qi (fun _=> ?_) (fun _=> ?_)|(refine zQr 2 rfl ?_;refine Or.inl (y5 (7) ?_))|refine qu ?_|refine qv ?_ ?_|exact zT)
 all_goals try first|refine qz ?_|apply qz5
 all_goals try simp only [qn0,yC,yA,ETy.dflt,Int.reduceToNat,Int.reduceAdd,Int.reduceSub,Int.reduceNeg,Nat.reduceAdd] at *
 all_goals first
  | (simp only [allR,zDG, *,zIb,if_true,if_false,List.take_zero,List.drop_length,yW,zBQ,List.length_nil];first|done|exact (zIb _).symm)
  | (refine qh ?_;first|exact (zFS ‹_›).2.2.1|exact zFS ‹_›|exact ⟨zFS ‹_›,zV0 (zFS ‹_›) ‹_›⟩)
def z3O:List AV->Option zLe:=zGM zAa (fun s=>some (none,none,.s (.own 0 0 (allR s).length),[.row zCx 33 (allR s)]))
theorem z0e:zEP prog 56 z3O:=zVC (zDa fun s r h=>by cases h;exact fbF (fn:=[]) trivial func56 (p2:=by exact ⟨zWg,z0D,zV5,zN7,zRv,zVw,zWb,trivial⟩) fun _ _=>z1l s.1 s.2) func56
end S1
namespace S1
def zL5 (s:Int×List P3):Wit:=(allR s).headD (0,0,0)
theorem zVt (n:Int) (l:List P3):zB7 ⟨tyL,[],[(56,.res z3O)]⟩ f30 [zAa.av (n,l)] (fun v=>v=zCx.av (zL5 (n,l))):=by
 repeat' (conv=>whnf
          first|done|refine qy ?_|refine qG fun _=> ?_|refine qw (fun _=> ?_) (fun _=> ?_)|apply qt|refine qi (fun _=> ?_) (fun _=> ?_)|refine qu ?_|refine qv ?_ ?_|exact zT)
 all_goals try first|refine qz ?_|apply qz5
 all_goals try simp only [qn0,yC,yA,ETy.dflt,Int.reduceToNat,Int.reduceAdd,Int.reduceSub,Int.reduceNeg,Nat.reduceAdd] at *
 ·rename_i h1 h2;cases h:allR (n,l) with
  | nil=>rw [h] at h2;simp at h2
  | cons a r=>unfold zL5;rw [h];exact jJ.intro rfl
 ·rename_i h2;unfold zL5;rw [zKn h2];exact jJ.intro rfl
def zSk:List AV->Option Res:=zGM zAa (fun s=>some (none,none,zCx.av (zL5 s)))
theorem zV4:zAI prog 30 zSk:=mkR (zBJ fun s r h=>by cases h;exact fb (fn:=[]) trivial func30 (p2:=by exact ⟨z0e,trivial⟩) fun _ _=>zVt s.1 s.2) func30
def isR (s:Int×List P3):Bool:=decide (zL5 s=(0,0,0))
theorem zW5 {fn} (l:List P3) (hb:l.length<=8192):zB7 ⟨tyL,fn,[]⟩ f31 [(ETy.sl .arr3).av l] (fun v=>v=(ETy.sl .arr3).av l):=by
 repeat' (conv=>whnf
          first|done|refine qy ?_|refine qG fun _=> ?_|refine qw (fun _=> ?_) (fun _=> ?_)|apply qt|refine qi (fun _=> ?_) (fun _=> ?_)|refine qu ?_|refine qv ?_ ?_|exact zT)
 all_goals try first|refine qz ?_|apply qz5
 all_goals try simp only [qn0,yC,yA,ETy.dflt,Int.reduceToNat,Int.reduceAdd,Int.reduceSub,Int.reduceNeg,Nat.reduceAdd] at *
 ·exact (‹l=[]›).symm
 ·exact qJ
def zTi:List AV->Option Res:=zGM (.sl .arr3) (fun l=>some (none,some (l.length<=8192),.s (.sl .arr3 l)))
theorem zWk:zAI prog 31 zTi:=mkR (zBJ fun l r h=>by cases h;exact fb (fn:=[]) trivial func31 fun _ h=>zW5 l h) func31
def eqR (a b:List P3):Bool:=decide (a=b)
def z74 (a b:List P3):Spec Nat where
 inv x:=x<=a.length/\∀ i,i<x->a.getD i (0,0,0)=b.getD i (0,0,0)
 live x:=[(13,.s (.int .i64 x))]
 keep:=[0,1,12]
 heap _:=[]
 keepH:=[]
 mu x:=a.length - x
theorem z65 {fn} (a b:List P3):zB7 ⟨tyL,fn,[]⟩ f44 [(ETy.sl .arr3).av a,(ETy.sl .arr3).av b] (fun v=>v= .s (.bool (eqR a b))):=by
 repeat' (conv=>whnf
          first|done|refine qy ?_|refine qG fun _=> ?_|refine qw (fun _=> ?_) (fun _=> ?_)|apply qt|refine qi (fun _=> ?_) (fun _=> ?_)|(refine j6 4 rfl (z74 a b) (0) ?_ ?_ ?_ fun x hx=> ?_)|with_reducible refine jX (z74 _ _) (x+1) ?_ ?_ ?_ ?_|refine qu ?_|refine qv ?_ ?_|exact zT)
 all_goals try first|refine qz ?_|apply qz5
 all_goals try simp only [qn0,yC,yA,ETy.dflt,Int.reduceToNat,Int.reduceAdd,Int.reduceSub,Int.reduceNeg,Nat.reduceAdd,z74,eqR] at *
 ·have e:a≠b:=fun e=>by subst e;exact absurd rfl ‹(a.length:Int)≠_›
  rw [decide_eq_false e]
 ·exact qh ⟨jB _,fun i hi=>by omega⟩
 ·refine jQ.intro ⟨by omega,fun i hi=> ?_⟩
  by_cases e:i=x
  ·subst e;exact Prod.ext ‹_› (Prod.ext ‹_› ‹_›)
  ·exact hx.2 i (by omega)
 ·exact qh (by omega)
 ·have e:a≠b:=fun e=>by subst e;exact absurd rfl ‹(a.getD x (0,0,0)).snd.snd≠_›
  rw [decide_eq_false e]
 ·have e:a≠b:=fun e=>by subst e;exact absurd rfl ‹(a.getD x (0,0,0)).snd.fst≠_›
  rw [decide_eq_false e]
 ·have e:a≠b:=fun e=>by subst e;exact absurd rfl ‹(a.getD x (0,0,0)).fst≠_›
  rw [decide_eq_false e]
 ·have e:a=b:=List.ext_getElem (by omega) fun i h1 h2=>by
   have:=hx.2 i (by omega);rwa [gdE,gdE,gE h1,gE h2] at this
  rw [decide_eq_true e]
def z6y:List AV->Option Res:=zNH (.sl .arr3) (.sl .arr3) (fun a b=>some (none,none,.s (.bool (eqR a b))))
theorem z6r:zAI prog 44 z6y:=mkR (zCh fun a b r h=>by cases h;exact fb (fn:=[]) trivial func44 fun _ _=>z65 a b) func44
end S1
namespace S1
abbrev zX:ETy:= .pair zAa (.pair (.mp .arr2 (.int .i64)) (.sl (.int .i64)))
def zO8 {ρ:Type} (e:ETy) (f:e.T->Option ρ):List AV->Option ρ :=
 zGM (.pt e) (fun o=>match o with|some x=>f x|none=>none)
def zFf {ρ:Type} (e b:ETy) (f:e.T->b.T->Option ρ):List AV->Option ρ :=
 zNH (.pt e) b (fun o y=>match o with|some x=>f x y|none=>none)
theorem zE7 {P:Program} {e:ETy} {f:e.T->Option Res} {n:FuncId} (h: ∀ x r,f x=some r->zDn P n [(ETy.pt e).av (some x)] r): ∀ args r,zO8 e f args=some r->zDn P n args r :=
 zBJ fun o r hr=>by cases o with|none=>cases hr|some x=>exact h x r hr
theorem zBB {P:Program} {e b:ETy} {f:e.T->b.T->Option Res} {n:FuncId} (h: ∀ x y r,f x y=some r->zDn P n [(ETy.pt e).av (some x),b.av y] r): ∀ args r,zFf e b f args=some r->zDn P n args r :=
 zCh fun o y r hr=>by cases o with|none=>cases hr|some x=>exact h x y r hr
def trn (c b:Int):Int:=c - c % 3+(c+b) % 3
def zAX (x:zX.T) (c:Int):Bool:=decide (0<=c)&&decide (c<3*(x.1.2.length:Int))
def jD (x:zX.T) (c:Int):Int:=if zAX x c then trn c 1 else -1
def jA (x:zX.T) (c:Int):Int:=if zAX x c then trn c 2 else -1
def p3 (t:P3) (k:Int):Int:=if k=0 then t.1 else if k=1 then t.2.1 else t.2.2
def yM (x:zX.T) (c:Int):Int:=if zAX x c then p3 (x.1.2.getD (c / 3).toNat (0,0,0)) (c % 3) else -1
def qX (x:zX.T) (c:Int):Int×Int:=(yM x (jD x c),yM x (jA x c))
def qM (x:zX.T) (e:Int×Int):Int:=(zA3 .arr2 x.2.1 e).getD (-1)
def zAY (x:zX.T) (c:Int):Int:=qM x ((qX x c).2,(qX x c).1)
def yL (x:zX.T) (v:Int):Int:=if 0<=v/\v<x.2.2.length then x.2.2.getD v.toNat 0 else -1
theorem tm3 {c:Int} (h:0<=c):c.tmod 3=c % 3:=Int.tmod_eq_emod_of_nonneg h
theorem td3 {c:Int} (h:0<=c):c.tdiv 3=c / 3:=Int.tdiv_eq_ediv_of_nonneg h
theorem z6 {x:zX.T} {c:Int} :zAX x c=true↔0<=c/\c<3*(x.1.2.length:Int):=by
 unfold zAX;rw [zA,zF,zF]
theorem zT3 {fn} (c b:Int) (h:0<=c/\c<=1000000000/\0<=b/\b<=2):zB7 ⟨tyL,fn,[]⟩ f55 [jF.av c,jF.av b] (fun v=>v= .s (.int .i64 (trn c b))):=by
 repeat' (conv=>whnf
          first|done|refine qy ?_|refine qG fun _=> ?_|refine qw (fun _=> ?_) (fun _=> ?_)|apply qt|refine qi (fun _=> ?_) (fun _=> ?_)|refine qu ?_|refine qv ?_ ?_|exact zT)
 all_goals try first|refine qz ?_|apply qz5
 all_goals try simp only [qn0,yC,yA,ETy.dflt,Int.reduceToNat,Int.reduceAdd,Int.reduceSub,Int.reduceNeg,Nat.reduceAdd,trn] at *
 all_goals try refine qh ?_
 all_goals (rw [tm3 (by omega)];try rw [tm3 (by omega)])
 all_goals (try simp only [zAL]);(try omega)
def zOQ:List AV->Option Res:=zNH jF jF (fun c b=>some (none,some (0<=c/\c<=1000000000/\0<=b/\b<=2),.s (.int .i64 (trn c b))))
theorem zMM:zAI prog 55 zOQ:=mkR (zCh fun c b r h=>by cases h;exact fb (fn:=[]) trivial func55 fun _ h=>zT3 c b h) func55
theorem z1G {fn} (x:zX.T) (c:Int):zB7 ⟨tyL,fn,[]⟩ f54 [(ETy.pt zX).av (some x),jF.av c] (fun v=>v= .s (.bool (zAX x c))):=by
 obtain ⟨⟨n,l⟩,m,f⟩:=x
 repeat' (conv=>whnf
          first|done|refine qy ?_|refine qG fun _=> ?_|refine qw (fun _=> ?_) (fun _=> ?_)|apply qt|refine qi (fun _=> ?_) (fun _=> ?_)|refine qu ?_|refine qv ?_ ?_|exact zT)
 all_goals try first|refine qz ?_|apply qz5
 all_goals try simp only [qn0,yC,yA,ETy.dflt,Int.reduceToNat,Int.reduceAdd,Int.reduceSub,Int.reduceNeg,Nat.reduceAdd,zAX,qL] at *
 all_goals (rw [Bool.eq_iff_iff,zA,zF,zF])
 ·constructor
  ·intro h;exact ⟨by omega,h⟩
  ·intro h;exact h.2
 ·constructor
  ·intro h;cases h
  ·intro h;omega
def z1t:List AV->Option Res:=zFf zX jF (fun x c=>some (none,none,.s (.bool (zAX x c))))
theorem zSS:zAI prog 54 z1t:=mkR (zBB fun x c r h=>by cases h;exact fb (fn:=[]) trivial func54 fun _ _=>z1G x c) func54
theorem zD2 {x:zX.T} {c:Int} (h1:0<=c) (h2:c<3*(x.1.2.length:Int)):yM x c=p3 (x.1.2.getD (c / 3).toNat (0,0,0)) (c % 3):=by
 unfold yM;rw [if_pos (z6.2 ⟨h1,h2⟩)]
theorem zPr {x:zX.T} {c:Int} (h: ¬ (0<=c/\c<3*(x.1.2.length:Int))):zAX x c=false:=by
 rw [<- zA0];exact fun e=>h (z6.1 e)
theorem zYE {x:zX.T} {c:Int} (h: ¬ (0<=c/\c<3*(x.1.2.length:Int))):yM x c= -1:=by
 unfold yM;rw [zPr h];rfl
theorem z04 (t:P3) (k:Int) (h1:0<=k) (h2:k<3):[t.1,t.2.1,t.2.2].getD k.toNat 0=p3 t k:=by
 have:k=0\/k=1\/k=2:=by omega
 rcases this with e|e|e<;>subst e<;>rfl
theorem zLu {fn} (x:zX.T):zB7 ⟨tyL,fn,[]⟩ f35 [(ETy.pt zX).av (some x)] (fun v=>v= .s (.int .i64 x.1.2.length)):=by
 obtain ⟨⟨n,l⟩,m,f⟩:=x
 repeat' (conv=>whnf
          first|done|refine qy ?_|refine qG fun _=> ?_|refine qw (fun _=> ?_) (fun _=> ?_)|apply qt|refine qi (fun _=> ?_) (fun _=> ?_)|refine qu ?_|refine qv ?_ ?_|exact zT)
 all_goals try first|refine qz ?_|apply qz5
 all_goals try simp only [qn0,yC,yA,ETy.dflt,Int.reduceToNat,Int.reduceAdd,Int.reduceSub,Int.reduceNeg,Nat.reduceAdd,qL] at *
def zCX:List AV->Option Res:=zO8 zX (fun x=>some (none,none,.s (.int .i64 x.1.2.length)))
theorem zEF:zAI prog 35 zCX:=mkR (zE7 fun x r h=>by cases h;exact fb (fn:=[]) trivial func35 fun _ _=>zLu x) func35
theorem zO0 {fn} (x:zX.T):zB7 ⟨tyL,fn,[]⟩ f36 [(ETy.pt zX).av (some x)] (fun v=>v= .s (.int .i64 x.1.1)):=by
 obtain ⟨⟨n,l⟩,m,f⟩:=x
 repeat' (conv=>whnf
          first|done|refine qy ?_|refine qG fun _=> ?_|refine qw (fun _=> ?_) (fun _=> ?_)|apply qt|refine qi (fun _=> ?_) (fun _=> ?_)|refine qu ?_|refine qv ?_ ?_|exact zT)
 all_goals try first|refine qz ?_|apply qz5
 all_goals try simp only [qn0,yC,yA,ETy.dflt,Int.reduceToNat,Int.reduceAdd,Int.reduceSub,Int.reduceNeg,Nat.reduceAdd,qL] at *
def zBR:List AV->Option Res:=zO8 zX (fun x=>some (none,none,.s (.int .i64 x.1.1)))
theorem zC4:zAI prog 36 zBR:=mkR (zE7 fun x r h=>by cases h;exact fb (fn:=[]) trivial func36 fun _ _=>zO0 x) func36
theorem zTC (x:zX.T) (c:Int) (h:c<=1000000000):zB7 ⟨tyL,[(54,z1t)],[]⟩ Try.f27 [(ETy.pt zX).av (some x),jF.av c] (fun v=>v= .s (.int .i64 (yM x c))):=by
 obtain ⟨⟨n,l⟩,m,f⟩:=x
 repeat' (conv=>whnf
          first|done|refine qy ?_|refine qG fun _=> ?_|refine qw (fun _=> ?_) (fun _=> ?_)|apply qt|refine qi (fun _=> ?_) (fun _=> ?_)|refine qu ?_|refine qv ?_ ?_|exact zT)
 all_goals try first|refine qz ?_|apply qz5
 all_goals try simp only [qn0,yC,yA,ETy.dflt,Int.reduceToNat,Int.reduceAdd,Int.reduceSub,Int.reduceNeg,Nat.reduceAdd,qL] at *
 ·refine jQ.intro ⟨by omega,?_⟩;rw [td3 (by assumption)];unfold zAL;omega
 ·refine qh ?_;rw [td3 (by assumption)];omega
 ·refine qh ?_;rw [tm3 (by assumption)];omega
 ·rw [tm3 (by assumption),td3 (by assumption),zD2 (by assumption) (by assumption)];exact z04 _ _ (by omega) (by omega)
 all_goals (rw [zYE];intro h';first|exact absurd h'.2 ‹_›|exact absurd h'.1 ‹_›)
def zD5:List AV->Option Res:=zFf zX jF (fun x c=>some (none,some (c<=1000000000),.s (.int .i64 (yM x c))))
theorem zET:zAI prog 27 zD5:=mkR (zBB fun x c r h=>by cases h;exact fb (by exact ⟨zSS,trivial⟩) func27 fun _ h=>zTC x c h) func27
theorem zZO (x:zX.T) (c:Int) (h:c<=1000000):zB7 ⟨tyL,[(54,z1t),(55,zOQ)],[]⟩ Try.f28 [(ETy.pt zX).av (some x),jF.av c] (fun v=>v= .s (.int .i64 (jD x c))):=by
 repeat' (conv=>whnf
          first|done|refine qy ?_|refine qG fun _=> ?_|refine qw (fun _=> ?_) (fun _=> ?_)|apply qt|refine qi (fun _=> ?_) (fun _=> ?_)|refine qu ?_|refine qv ?_ ?_|exact zT)
 all_goals try first|refine qz ?_|apply qz5
 all_goals try simp only [qn0,yC,yA,ETy.dflt,Int.reduceToNat,Int.reduceAdd,Int.reduceSub,Int.reduceNeg,Nat.reduceAdd,qL] at *
 ·exact qh ⟨by assumption,Int.le_trans h (by decide),by decide,by decide⟩
 ·unfold jD;rw [if_pos (z6.2 ⟨by assumption,by assumption⟩)]
 all_goals (unfold jD;rw [zPr (by omega)];rfl)
def zOh:List AV->Option Res:=zFf zX jF (fun x c=>some (none,some (c<=1000000),.s (.int .i64 (jD x c))))
theorem zLR:zAI prog 28 zOh:=mkR (zBB fun x c r h=>by cases h;exact fb (by exact ⟨zSS,zMM,trivial⟩) func28 fun _ h=>zZO x c h) func28
theorem z0I (x:zX.T) (c:Int) (h:c<=1000000):zB7 ⟨tyL,[(54,z1t),(55,zOQ)],[]⟩ Try.f29 [(ETy.pt zX).av (some x),jF.av c] (fun v=>v= .s (.int .i64 (jA x c))):=by
 repeat' (conv=>whnf
          first|done|refine qy ?_|refine qG fun _=> ?_|refine qw (fun _=> ?_) (fun _=> ?_)|apply qt|refine qi (fun _=> ?_) (fun _=> ?_)|refine qu ?_|refine qv ?_ ?_|exact zT)
 all_goals try first|refine qz ?_|apply qz5
 all_goals try simp only [qn0,yC,yA,ETy.dflt,Int.reduceToNat,Int.reduceAdd,Int.reduceSub,Int.reduceNeg,Nat.reduceAdd,qL] at *
 ·exact qh ⟨by assumption,Int.le_trans h (by decide),by decide,by decide⟩
 ·unfold jA;rw [if_pos (z6.2 ⟨by assumption,by assumption⟩)]
 all_goals (unfold jA;rw [zPr (by omega)];rfl)
def zNe:List AV->Option Res:=zFf zX jF (fun x c=>some (none,some (c<=1000000),.s (.int .i64 (jA x c))))
theorem zLW:zAI prog 29 zNe:=mkR (zBB fun x c r h=>by cases h;exact fb (by exact ⟨zSS,zMM,trivial⟩) func29 fun _ h=>z0I x c h) func29
theorem zT2 {fn} (x:zX.T) (e:Int×Int):zB7 ⟨tyL,fn,[]⟩ f32 [(ETy.pt zX).av (some x),ETy.arr2.av e] (fun v=>v= .s (.int .i64 (qM x e))):=by
 obtain ⟨⟨n,l⟩,m,f⟩:=x
 repeat' (conv=>whnf
          first|done|refine qy ?_|refine qG fun _=> ?_|refine qw (fun _=> ?_) (fun _=> ?_)|apply qt|refine qi (fun _=> ?_) (fun _=> ?_)|refine qu ?_|refine qv ?_ ?_|exact zT)
 all_goals try first|refine qz ?_|apply qz5
 all_goals try simp only [qn0,yC,yA,ETy.dflt,Int.reduceToNat,Int.reduceAdd,Int.reduceSub,Int.reduceNeg,Nat.reduceAdd,qL,qM] at *
 ·rename_i h;cases hm:zA3 .arr2 m e with
  | none=>rw [hm] at h;cases h
  | some v=>rfl
 ·rename_i h;cases hm:zA3 .arr2 m e with
  | none=>rfl
  | some v=>rw [hm] at h;cases h
def zGd:List AV->Option Res:=zFf zX .arr2 (fun x e=>some (none,none,.s (.int .i64 (qM x e))))
theorem zFr:zAI prog 32 zGd:=mkR (zBB fun x e r h=>by cases h;exact fb (fn:=[]) trivial func32 fun _ _=>zT2 x e) func32
theorem zU5 {fn} (x:zX.T) (v:Int):zB7 ⟨tyL,fn,[]⟩ f41 [(ETy.pt zX).av (some x),jF.av v] (fun r=>r= .s (.int .i64 (yL x v))):=by
 obtain ⟨⟨n,l⟩,m,f⟩:=x
 repeat' (conv=>whnf
          first|done|refine qy ?_|refine qG fun _=> ?_|refine qw (fun _=> ?_) (fun _=> ?_)|apply qt|refine qi (fun _=> ?_) (fun _=> ?_)|refine qu ?_|refine qv ?_ ?_|exact zT)
 all_goals try first|refine qz ?_|apply qz5
 all_goals try simp only [qn0,yC,yA,ETy.dflt,Int.reduceToNat,Int.reduceAdd,Int.reduceSub,Int.reduceNeg,Nat.reduceAdd,qL,yL] at *
 ·rw [if_neg (by omega)]
 ·rw [if_neg (by omega)]
 ·rw [if_pos (by omega)]
def zEB:List AV->Option Res:=zFf zX jF (fun x v=>some (none,none,.s (.int .i64 (yL x v))))
theorem zEM:zAI prog 41 zEB:=mkR (zBB fun x v r h=>by cases h;exact fb (fn:=[]) trivial func41 fun _ _=>zU5 x v) func41
theorem zXU {c b:Int} :trn c b<=c+2:=by unfold trn;omega
theorem zVu {x:zX.T} {c:Int} (h:c<=1000000):jD x c<=1000000000:=by
 have:= @zXU c 1;unfold jD;split<;>omega
theorem zWA {x:zX.T} {c:Int} (h:c<=1000000):jA x c<=1000000000:=by
 have:= @zXU c 2;unfold jA;split<;>omega
theorem zZZ (x:zX.T) (c:Int) (h:c<=1000000):zB7 ⟨tyL,[(28,zOh),(29,zNe),(27,zD5)],[]⟩ Try.f8 [(ETy.pt zX).av (some x),jF.av c] (fun v=>v=ETy.arr2.av (qX x c)):=by
 repeat' (conv=>whnf
          first|done|refine qy ?_|refine qG fun _=> ?_|refine qw (fun _=> ?_) (fun _=> ?_)|apply qt|refine qi (fun _=> ?_) (fun _=> ?_)|refine qu ?_|refine qv ?_ ?_|exact zT)
 all_goals try first|refine qz ?_|apply qz5
 all_goals try simp only [qn0,yC,yA,ETy.dflt,Int.reduceToNat,Int.reduceAdd,Int.reduceSub,Int.reduceNeg,Nat.reduceAdd,qL] at *
 ·exact qh (zVu (by omega))
 ·exact qh (zWA (by omega))
 ·exact jJ.intro rfl
def zHJ:List AV->Option Res:=zFf zX jF (fun x c=>some (none,some (c<=1000000),ETy.arr2.av (qX x c)))
theorem zGR:zAI prog 8 zHJ:=mkR (zBB fun x c r h=>by cases h;exact fb (by exact ⟨zLR,zLW,zET,trivial⟩) func8 fun _ h=>zZZ x c h) func8
theorem z0y (x:zX.T) (c:Int) (h:c<=1000000):zB7 ⟨tyL,[(8,zHJ),(32,zGd)],[]⟩ f13 [(ETy.pt zX).av (some x),jF.av c] (fun v=>v= .s (.int .i64 (zAY x c))):=by
 repeat' (conv=>whnf
          first|done|refine qy ?_|refine qG fun _=> ?_|refine qw (fun _=> ?_) (fun _=> ?_)|apply qt|refine qi (fun _=> ?_) (fun _=> ?_)|refine qu ?_|refine qv ?_ ?_|exact zT)
 all_goals try first|refine qz ?_|apply qz5
 all_goals try simp only [qn0,yC,yA,ETy.dflt,Int.reduceToNat,Int.reduceAdd,Int.reduceSub,Int.reduceNeg,Nat.reduceAdd,qL] at *
 rfl
def zNh:List AV->Option Res:=zFf zX jF (fun x c=>some (none,some (c<=1000000),.s (.int .i64 (zAY x c))))
theorem zFb:zAI prog 13 zNh:=mkR (zBB fun x c r h=>by cases h;exact fb (by exact ⟨zGR,zFr,trivial⟩) func13 fun _ h=>z0y x c h) func13
end S1
namespace S1
def WOk (w:Wit):Prop:=w.1≠0/\zCx.inR w=true
theorem wrap64 {n:Int} (h: -10000<=n/\n<=10000):IntKind.i64.wrap n=n:=zTy (InK.i64.2 (by unfold zAL;omega))
theorem zJo {k a b:Int} (h0:k≠0) (hk: -10000<=k/\k<=10000) (ha: -10000<=a/\a<=10000) (hb: -10000<=b/\b<=10000):WOk (k,a,b) :=
 ⟨h0,by simp only [ETy.inR,wrap64 hk,wrap64 ha,wrap64 hb,beq_self_eq_true,Bool.and_self]⟩
theorem zPG {f:Nat->Option Wit} {n:Nat} (h: ∀ i,i<n->∀ w,f i=some w->WOk w): ∀ w∈(List.range n).filterMap f,WOk w:=by
 intro w hw;obtain ⟨i,hi,e⟩:=List.mem_filterMap.1 hw;exact h i (zW.1 hi) w e
theorem zQZ (s:Int×List P3): ∀ w∈zBk s,WOk w:=by
 unfold zBk;split
 ·intro w hw;rw [zD] at hw;subst hw;exact zJo (by decide) (by decide) (by decide) (by decide)
 ·rename_i hb
  have hb: ¬ (s.1<0\/s.1>4096\/(s.2.length:Int)>8192):=by
   simpa only [zV3,yO,zF] using hb
  refine zPG fun i hi w e=> ?_;unfold z0P at e;split at e
  ·cases e
  ·cases e;exact zJo (by decide) (by decide) (by omega) (by decide)
theorem zZP {l:List P3} (hl:l.length<=8192): ∀ w∈dgL l l.length,WOk w :=
 zPG fun i hi w e=>by
  unfold dgG at e;split at e
  ·cases e;exact zJo (by decide) (by decide) (by omega) (by decide)
  ·cases e
theorem zS6 {s:Int×List P3} (h:zLo s): ∀ w∈zHL s,WOk w :=
 zPG fun i hi w e=>by
  have h1:=h.1;have h2:=h.2.1;unfold loG at e;split at e
  ·cases e
  ·cases e;exact zJo (by decide) (by decide) (by omega) (by decide)
theorem zW8 {s:Int×List P3} (h:zLo s): ∀ w∈zSe s,WOk w :=
 zPG fun i hi w e=>by
  have h1:=h.1;have h2:=h.2.1;unfold piG at e;split at e
  ·cases e
  ·cases e;exact zJo (by decide) (by decide) (by omega) (by decide)
def zSH (l:List Int):Prop:= ∀ a∈l,0<=a/\a<=8192
theorem zZD {kind:Int} {i:Nat} {av:List Int} (h0:kind≠0) (hk: -10000<=kind/\kind<=10000) (hi:i<=8192) (ha:zSH av) (s:PS) (hs: ∀ w∈s.2,WOk w): ∀ w∈(jE (prA kind i av) s av.length).2,WOk w :=
 zAK (n:=av.length) (fun _ (t:PS)=> ∀ w∈t.2,WOk w) hs (fun j t hj ht=>by
  unfold prA;split
  ·exact ht
  ·intro w hw;rcases zY.1 hw with hw|hw
   ·exact ht w hw
   ·rw [zD] at hw;subst hw;have:=ha (av.getD j 0) (by rw [gdE,gE hj];exact y6 hj)
    exact zJo h0 hk (by omega) (by omega)) av.length (zI _)
theorem zTe (kp:P3->List P3) {kind:Int} (h0:kind≠0) (hk: -10000<=kind/\kind<=10000) {l:List P3} (hl:l.length<=8192): ∀ w∈(prS kp kind l l.length).2.2,WOk w :=
 (zAK (n:=l.length) (fun _ (t:zHu×PS)=>(∀ k,zSH (zAb t.1 k))/\∀ w∈t.2.2,WOk w) ⟨fun k a h=>(by cases h),fun w h=>(by cases h)⟩ (fun i t hi ht=>by
   unfold prI;refine zAK (n:=(kp (l.getD i (0,0,0))).length) (fun _ (t:zHu×PS)=>(∀ k,zSH (zAb t.1 k))/\∀ w∈t.2.2,WOk w) ht (fun m t hm ht=> ?_) _ (zI _);refine ⟨fun k a ha=> ?_,zZD h0 hk (by omega) (ht.1 _) _ ht.2⟩;have ha:a∈zAb (zAg .arr3 t.1 ((kp (l.getD i (0,0,0))).getD m (0,0,0)) (zAb t.1 ((kp (l.getD i (0,0,0))).getD m (0,0,0))++[(i:Int)])) k:=ha;rw [zEK] at ha;split at ha
   ·rcases zY.1 ha with ha|ha
    ·exact ht.1 _ a ha
    ·rw [zD] at ha;omega
   ·exact ht.1 _ a ha) l.length (zI _)).2
theorem zDZ {l:List Wit} (h: ∀ w∈l,WOk w): ∀ w∈zGe zCx cfW l,WOk w:=fun w hw=>h w (zMF z2l l (fun x hx=>(h x hx).2) w hw)
theorem zVs (s:Int×List P3): ∀ w∈allR s,WOk w:=by
 obtain ⟨n,l⟩:=s;unfold allR zDG;split
 ·exact zDZ (zQZ _)
 ·rename_i h1;have hf:=zFS h1;have hl:l.length<=8192:=hf.2.2.1;unfold zDG;split
  ·exact zDZ (zZP hl)
  ·unfold zDG;split
   ·exact zDZ (zTe _ (by decide) (by decide) hl)
   ·unfold zDG;split
    ·exact zDZ (zTe _ (by decide) (by decide) hl)
    ·unfold zDG;split
     ·exact zDZ (zS6 hf)
     ·unfold zDG;split
      ·exact zDZ (zW8 hf)
      ·intro w hw;cases hw
theorem zL9 {s:Int×List P3} (h:(zL5 s).1=0):allR s=[]:=by
 unfold zL5 at h;have hw:=zVs s;cases e:allR s with
 | nil=>rfl
 | cons w r =>
   rw [e] at h hw;exact absurd h (hw w (zQ ..)).1
theorem zX3 {s:Int×List P3} (h:(zL5 s).1=0):zL5 s=(0,0,0):=by unfold zL5;rw [zL9 h];rfl
theorem zE4: ∀ {ls:List (List Wit)},zDG ls=[]->∀ l∈ls,l=[]
 | [],_,l,hl=>by cases hl
 | a ::r,h,l,hl=>by
   unfold zDG at h;split at h
   ·rename_i ha;have:=zIb a;rw [h] at this;simp at this;omega
   ·rename_i ha;rcases zP.1 hl with e|hl
    ·subst e;exact zKn ha
    ·exact zE4 h l hl
structure z3Q (s:Int×List P3):Prop where
 fit:zLo s
 deg:dgL s.2 s.2.length=[]
 twi:(prS qV 3 s.2 s.2.length).2.2=[]
theorem zOW {s:Int×List P3} (h:(zL5 s).1=0):z3Q s:=by
 have h:=zE4 (zL9 h);obtain ⟨n,l⟩:=s;refine ⟨zFS (by rw [h (zBk (n,l)) (by simp)];simp),h _ (by simp),h _ (by simp)⟩
end S1
namespace S1
def z3a (x:Int×List P3) (s:List ((Int×Int)×Int)×List Int) (i:Nat):List ((Int×Int)×Int)×List Int :=
 (zAg .arr2 s.1 (qX (x,[],[]) (3*x.2.length - 1 - i)) (3*x.2.length - 1 - i),s.2.set (yM (x,[],[]) (3*x.2.length - 1 - i)).toNat (3*x.2.length - 1 - i))
def zGq (x:Int×List P3) (i:Nat):List ((Int×Int)×Int)×List Int:=jE (z3a x) ([],List.replicate x.1.toNat 0) i
def jO (x:Int×List P3):zX.T:=(x,(zGq x (3*x.2.length)).1,(zGq x (3*x.2.length)).2)
def zY6 (n:Int) (l:List P3):Spec Nat where
 inv x:=x<=3*l.length
 live x:=[(6,.s (.int .i64 (3*l.length - 1 - x)))]
 keep:=[3,5]
 heap x:=[(3,.map .arr2 (.int .i64) (zGq (n,l) x).1),(4,.row (.int .i64) 3 (zGq (n,l) x).2)]
 keepH:=[1,5]
 mu x:=3*l.length - x
theorem z2c {n:Int} {t:P3} (h:zHo n t=true) (k:Int):0<=p3 t k/\p3 t k<n:=by
 have:=zBF h;unfold p3;split
 ·omega
 ·split<;>omega
theorem zAn {x:zX.T} {c:Int} (hf:zLo x.1) (h:zAX x c=true):0<=yM x c/\yM x c<x.1.1:=by
 unfold yM;rw [if_pos h];rw [z6] at h;exact z2c (hf.2.2.2 _ (by omega)) _
theorem zGJ (x:Int×List P3): ∀ i,(zGq x i).2.length=x.1.toNat
 | 0=>jH
 | i+1=>by
   show ((zGq x i).2.set _ _).length=_;rw [qZ];exact zGJ x i
def zF0 (s:Int×List P3):Option zX.T:=if (zL5 s).1=0 then some (jO s) else none
def z1C:Option zX.T->AV
 | none=> .s (.val (.pointer none))
 | some x=>(ETy.pt zX).av (some x)
theorem zPA {I:Sig} {M:yN} {o:Option zX.T} {v:Value} (h:qA I M (z1C o) v):qA I M ((ETy.pt zX).av o) v:=by
 cases o with
 | some x=>exact h
 | none=>show [v]=[.pointer none];rw [show v= .pointer none from h.1]
theorem zDn.out {P:Program} {f:FuncId} {args:List AV} {p q:Option Prop} {u u':AV} (h:zDn P f args (p,q,u)) (hu: ∀ I v,qA I [] u v->qA I [] u' v):zDn P f args (p,q,u'):=fun I vals w hag hv=>by
 obtain ⟨h1,h2⟩:=h I vals w hag hv;refine ⟨h1,fun hq=> ?_⟩;exact (h2 hq).mono fun e w' ⟨v,σ',e1,e2,e3,e4,e5,e6⟩=>⟨v,σ',e1,e2,e3,e4,hu _ _ e5,e6⟩
theorem z0o (n:Int) (l:List P3):zB7 ⟨tyL,[(30,zSk),(31,zTi),(8,zHJ),(27,zD5)],[]⟩ f10 [zAa.av (n,l)] (fun v=>v= .tup [z1C (zF0 (n,l)),zCx.av (zL5 (n,l))]):=by
 repeat' (conv=>whnf
          first|done|refine qy ?_|refine qG fun _=> ?_|refine qw (fun _=> ?_) (fun _=> ?_)|apply qt|refine qi (fun _=> ?_) (fun _=> ?_)|(refine j6 6 rfl (zY6 n l) (0) ?_ ?_ ?_ fun x hx=> ?_)|with_reducible refine jX (zY6 _ _) (x+1) ?_ ?_ ?_ ?_|refine qu ?_|refine qv ?_ ?_|exact zT)
 all_goals try first|refine qz ?_|apply qz5
 all_goals try simp only [qn0,yC,yA,ETy.dflt,Int.reduceToNat,Int.reduceAdd,Int.reduceSub,Int.reduceNeg,Nat.reduceAdd,qL,zY6] at *
 ·rename_i h;unfold zF0;rw [if_neg h];exact jJ.intro rfl
 all_goals
  have hc:=zOW (s:=(n,l)) ‹_›;have hl:l.length<=8192:=hc.fit.2.2.1;have h0:0<=n:=hc.fit.1;have h1:n<=4096:=hc.fit.2.1
 ·exact qh hl
 ·exact qh ⟨h0,Int.le_refl _,by omega⟩
 ·exact qh (jB _)
 ·omega
 ·exact qh (show 3*(l.length:Int) - 1 - x<=1000000 by omega)
 ·exact qh (show 3*(l.length:Int) - 1 - x<=1000000000 by omega)
 ·have:=zAn (x:=((n,l),[],[])) (c:=3*(l.length:Int) - 1 - x) hc.fit (z6.2 ⟨by omega,by show _<3*(l.length:Int);omega⟩);refine jQ.intro ⟨this.1,Int.lt_of_lt_of_le this.2 ?_⟩;show n<=_;omega
 ·exact qh (by omega)
 ·omega
 ·rfl
 ·exact qh (by omega)
 ·have e:x=3*l.length:=by omega
  subst e
  have e2:List.take n.toNat (List.drop 0 (zGq (n,l) (3*l.length)).snd)=(zGq (n,l) (3*l.length)).snd:=by
   rw [j5];exact jR (Nat.le_of_eq (zGJ (n,l) _))
  unfold zF0;rw [if_pos ‹_›,zX3 ‹_›];refine jJ.intro ?_;rw [e2];rfl
def z0K:List AV->Option Res:=zGM zAa (fun s=>some (none,none,.tup [(ETy.pt zX).av (zF0 s),zCx.av (zL5 s)]))
theorem newRow:zAI prog 10 z0K:=mkR (zBJ fun s r h=>by
 cases h;refine zDn.out (fb (fn:=[(30,zSk),(31,zTi),(8,zHJ),(27,zD5)]) ⟨zV4,zWk,zGR,zET,trivial⟩ func10 fun _ _=>z0o s.1 s.2) fun I v h=> ?_;obtain ⟨vs,e,r⟩:=h
 match vs,r with
 | [a,b],r=>exact ⟨_,e,zPA r.1,r.2.1,trivial⟩) func10
end S1
namespace S1
theorem php: ∀ (L n:Nat) (g:Nat->Nat),(∀ i,i<n->g i<L)->(∀ i j,i<j->j<n->g i≠g j)->n<=L
 | 0,n,g,h,_=>by
   rcases Nat.eq_zero_or_pos n with e|e
   ·omega
   ·have:=h 0 e;omega
 | L + 1,n,g,h,hd=>by
   by_cases hx: ∃ i,i<n/\g i=L
   ·obtain ⟨i,hi,e⟩:=hx
    have:=php L (n - 1) (fun j=>if j<i then g j else g (j+1)) (fun j hj=>by
     split
     ·rename_i hji;have h1:=h j (by omega);have:=hd j i hji hi;omega
     ·rename_i hji
      have h1:=h (j+1) (by omega);have:=hd i (j+1) (by omega) (by omega);omega) (fun a b hab hb=>by
     split<;>split
     ·exact hd _ _ hab (by omega)
     ·exact hd _ _ (by omega) (by omega)
     ·omega
     ·exact hd _ _ (by omega) (by omega))
    omega
   ·have:=php L n g (fun i hi=>by
     have h1:=h i hi;have:g i≠L:=fun e=>hx ⟨i,hi,e⟩
     omega) hd
    omega
def iter (f:Int->Int) (c:Int):Nat->Int
 | 0=>c
 | k+1=>f (iter f c k)
theorem zMH {f:Int->Int} (inj: ∀ a b,0<=f a->f a=f b->a=b) {c:Int} : ∀ {i j:Nat},(∀ m,1<=m->m<=i->0<=iter f c m)->iter f c i=iter f c (i+j)->iter f c j=c
 | 0,j,_,h=>by rw [yK] at h;exact h.symm
 | i +1,j,hp,h=>by
   have h:f (iter f c i)=f (iter f c (i+j)):=by
    rw [show i+1+j=(i+j)+1 by omega] at h;exact h
   exact zMH inj (fun m h1 h2=>hp m h1 (by omega)) (inj _ _ (hp (i+1) (by omega) (zI _)) h)
theorem pig {f:Int->Int} {L:Nat} (hr: ∀ c,0<=f c->f c<L) (inj: ∀ a b,0<=f a->f a=f b->a=b) {c:Int} {k:Nat} (h: ∀ j,1<=j->j<=k->0<=iter f c j/\iter f c j≠c):k<=L:=by
 refine php L k (fun i=>(iter f c (i+1)).toNat) (fun i hi=> ?_) (fun i j hij hj e=> ?_)
 ·have h1:=(h (i+1) (by omega) (by omega)).1;have:=hr (iter f c i) h1;show (iter f c (i+1)).toNat<L;have:iter f c (i+1)<L:=this;omega
 ·have h1:=(h (i+1) (by omega) (by omega)).1;have h2:=(h (j+1) (by omega) (by omega)).1;have e:iter f c (i+1)=iter f c (i+1+(j - i)):=by rw [show i+1+(j - i)=j+1 by omega];omega
  exact (h (j - i) (by omega) (by omega)).2 (zMH inj (fun m a b=>(h m a (by omega)).1) e)
theorem zXv {c b:Int} {L:Nat} (h:0<=c/\c<3*(L:Int)):0<=trn c b/\trn c b<3*(L:Int):=by unfold trn;omega
theorem zKo {a b:Int} (h:trn a 1=trn b 1):a=b:=by unfold trn at h;omega
theorem zOz {a b:Int} (h:trn a 2=trn b 2):a=b:=by unfold trn at h;omega
structure Good (x:zX.T):Prop where
 fit:zLo x.1
 map: ∀ e c,zA3 .arr2 x.2.1 e=some c->zAX x c=true/\qX x c=e
 uniq: ∀ p q,zAX x p=true->zAX x q=true->qX x p=qX x q->p=q
 ends: ∀ c,zAX x c=true->(qX x c).1≠(qX x c).2
 first: ∀ v:Nat,x.2.2.getD v 0<=30000
 cor: ∀ c,zAX x c=true->zAX x (yL x (yM x c))=true
theorem zA2 {x:zX.T} {c:Int} (h:zAX x c=true):zAX x (jD x c)=true/\zAX x (jA x c)=true:=by
 unfold jD jA;rw [if_pos h,if_pos h];rw [z6] at h;exact ⟨(z6.2 (zXv h)),(z6.2 (zXv h))⟩
theorem zOB {x:zX.T} :zAX x (-1)=false:=zPr (by omega)
theorem zWp {x:zX.T} {c:Int} (h:zAX x c=false):qX x c=(-1,-1):=by
 unfold qX jD jA;rw [if_neg (by rw [h];simp),if_neg (by rw [h];simp)];unfold yM;rw [if_neg (by rw [zOB];simp)]
theorem Good.opp {x:zX.T} (g:Good x) {d:Int} (h:0<=zAY x d):zAX x d=true/\zAX x (zAY x d)=true/\qX x (zAY x d)=((qX x d).2,(qX x d).1):=by
 unfold zAY qM at *;cases e:zA3 .arr2 x.2.1 ((qX x d).2,(qX x d).1) with
 | none=>rw [e] at h;cases h
 | some o =>
   obtain ⟨h1,h2⟩:=g.map _ _ e;refine ⟨?_,h1,h2⟩;cases hd:zAX x d with
   | true=>rfl
   | false =>
     rw [zWp hd] at h2;have:=(zAn g.fit (zA2 h1).1).1;have h3:yM x (jD x o)= -1:=congrArg Prod.fst h2;omega
def z8 (x:zX.T) (c:Int):Int:=if zAY x (jA x c)<0 then -1 else jA x (zAY x (jA x c))
def yI (x:zX.T) (c:Int):Int:=if zAY x (jD x c)<0 then -1 else jD x (zAY x (jD x c))
theorem zBe {x:zX.T} {c:Int} (h:zAX x c=true):jA x c=trn c 2:=by unfold jA;rw [if_pos h]
theorem zAw {x:zX.T} {c:Int} (h:zAX x c=true):jD x c=trn c 1:=by unfold jD;rw [if_pos h]
theorem zN8 {x:zX.T} {c:Int} (h:zAX x (jA x c)=true):zAX x c=true:=by
 cases e:zAX x c with
 | true=>rfl
 | false=>unfold jA at h;rw [if_neg (by rw [e];simp),zOB] at h;cases h
theorem zNq {x:zX.T} {c:Int} (h:zAX x (jD x c)=true):zAX x c=true:=by
 cases e:zAX x c with
 | true=>rfl
 | false=>unfold jD at h;rw [if_neg (by rw [e];simp),zOB] at h;cases h
theorem Good.opp_inj {x:zX.T} (g:Good x) {a b:Int} (h:0<=zAY x a) (e:zAY x a=zAY x b):a=b:=by
 obtain ⟨h1,h2,h3⟩:=g.opp h;obtain ⟨k1,k2,k3⟩:=g.opp (d:=b) (by omega);rw [e,k3] at h3;refine g.uniq _ _ h1 k1 (Prod.ext ?_ ?_)
 ·exact (congrArg Prod.snd h3).symm
 ·exact (congrArg Prod.fst h3).symm
theorem Good.before_has {x:zX.T} (g:Good x) {c:Int} (h:0<=z8 x c):zAX x c=true/\zAX x (z8 x c)=true/\0<=zAY x (jA x c):=by
 unfold z8 at *;split at h
 ·omega
 ·rename_i ho;obtain ⟨h1,h2,h3⟩:=g.opp (d:=jA x c) (by omega);rw [if_neg ho];exact ⟨zN8 h1,(zA2 h2).2,by omega⟩
theorem Good.after_has {x:zX.T} (g:Good x) {c:Int} (h:0<=yI x c):zAX x c=true/\zAX x (yI x c)=true/\0<=zAY x (jD x c):=by
 unfold yI at *;split at h
 ·omega
 ·rename_i ho;obtain ⟨h1,h2,h3⟩:=g.opp (d:=jD x c) (by omega);rw [if_neg ho];exact ⟨zNq h1,(zA2 h2).1,by omega⟩
theorem Good.before_inj {x:zX.T} (g:Good x) (a b:Int) (h:0<=z8 x a) (e:z8 x a=z8 x b):a=b:=by
 obtain ⟨h1,h2,h3⟩:=g.before_has h;obtain ⟨k1,k2,k3⟩:=g.before_has (c:=b) (by omega);obtain ⟨_,o1,_⟩:=g.opp h3;obtain ⟨_,o2,_⟩:=g.opp k3;unfold z8 at e;rw [if_neg (by omega),if_neg (by omega),zBe o1,zBe o2] at e;have:=g.opp_inj h3 (zOz e);rw [zBe h1,zBe k1] at this;exact zOz this
theorem Good.after_inj {x:zX.T} (g:Good x) (a b:Int) (h:0<=yI x a) (e:yI x a=yI x b):a=b:=by
 obtain ⟨h1,h2,h3⟩:=g.after_has h;obtain ⟨k1,k2,k3⟩:=g.after_has (c:=b) (by omega);obtain ⟨_,o1,_⟩:=g.opp h3;obtain ⟨_,o2,_⟩:=g.opp k3;unfold yI at e;rw [if_neg (by omega),if_neg (by omega),zAw o1,zAw o2] at e;have:=g.opp_inj h3 (zKo e);rw [zAw h1,zAw k1] at this;exact zKo this
end S1
namespace S1
def zRG (l:List P3) (q:Nat):P3:=(qV (l.getD (q / 3) (0,0,0))).getD (q % 3) (0,0,0)
theorem zTB {kind:Int} {i:Nat} {av:List Int} {s:PS} {j:Nat} (h:(prA kind i av s j).2=[]):prA kind i av s j=s/\(zA3 .arr2 s.1 (av.getD j 0,(i:Int))).getD false=true:=by
 unfold prA at *;cases e:(zA3 .arr2 s.1 (av.getD j 0,(i:Int))).getD false with
 | true=>exact ⟨rfl,rfl⟩
 | false =>
   rw [e] at h;exact absurd h (by simp)
theorem zI9 {kind:Int} {i:Nat} {av:List Int} {s:PS} : ∀ {n:Nat},(jE (prA kind i av) s n).2=[]->jE (prA kind i av) s n=s/\∀ j,j<n->(zA3 .arr2 s.1 (av.getD j 0,(i:Int))).getD false=true
 | 0,_=>⟨rfl,fun j h=>by omega⟩
 | n+1,h=>by
   obtain ⟨h1,h2⟩:=zTB (s:=jE (prA kind i av) s n) h;have h:(prA kind i av (jE (prA kind i av) s n) n).2=[]:=h;rw [h1] at h;obtain ⟨h3,h4⟩:=zI9 h;refine ⟨h1.trans h3,fun j hj=> ?_⟩
   by_cases e:j=n
   ·subst e;rw [h3] at h2;exact h2
   ·exact h4 j (by omega)
structure Uq (l:List P3) (n:Nat) (s:zHu×PS):Prop where
 seen:s.2.1=[]
 dif: ∀ p q,p<q->q<n->zRG l p≠zRG l q
 had: ∀ p,p<n->zAb s.1 (zRG l p)≠[]
theorem zSj {l:List P3} {i m:Nat} (hm:m<3) {s:zHu×PS} (h:s.2.2=[]->Uq l (3*i+m) s)
 (h2:(prK 3 i (qV (l.getD i (0,0,0))) s m).2.2=[]):s.2.2=[]/\Uq l (3*i+m+1) (prK 3 i (qV (l.getD i (0,0,0))) s m):=by
 have hk:zRG l (3*i+m)=(qV (l.getD i (0,0,0))).getD m (0,0,0):=by
  unfold zRG;rw [show (3*i+m) / 3=i by omega,show (3*i+m) % 3=m by omega]
 have h3:=zI9 h2;have h0:s.2.2=[]:=by rw [<- h3.1];exact h2
 have u:=h h0
 have he:zAb s.1 (zRG l (3*i+m))=[]:=by
  rw [hk];cases e:zAb s.1 ((qV (l.getD i (0,0,0))).getD m (0,0,0)) with
  | nil=>rfl
  | cons a r =>
    have:=h3.2 0 (by rw [e];simp);rw [u.seen] at this;cases this
 refine ⟨h0,?_,fun p q hpq hq e=> ?_,fun p hp=> ?_⟩
 ·exact (congrArg Prod.fst h3.1).trans u.seen
 ·by_cases hn:q=3*i+m
  ·subst hn;exact u.had p hpq (by rw [e];exact he)
  ·exact u.dif p q hpq (by omega) e
 ·show zAb (zAg .arr3 s.1 ((qV (l.getD i (0,0,0))).getD m (0,0,0)) (zAb s.1 ((qV (l.getD i (0,0,0))).getD m (0,0,0))++[(i:Int)])) (zRG l p)≠[];rw [zEK];split
  ·simp
  ·rename_i hne
   by_cases hn:p=3*i+m
   ·subst hn;exact absurd hk.symm hne
   ·exact u.had p (by omega)
theorem zXX (l:List P3): ∀ i,(prS qV 3 l i).2.2=[]->Uq l (3*i) (prS qV 3 l i)
 | 0,_=>⟨rfl,fun p q _ h=>by omega,fun p h=>by omega⟩
 | i+1,h=>by
   have h:(jE (prK 3 i (qV (l.getD i (0,0,0)))) (prS qV 3 l i) 3).2.2=[]:=h;have h0:=zXX l i;have s1:=fun h=>(zSj (m:=0) (by omega) (s:=prS qV 3 l i) h0 h).2;have s2:=fun h=>(zSj (m:=1) (by omega) (s:=jE (prK 3 i (qV (l.getD i (0,0,0)))) (prS qV 3 l i) 1) s1 h).2;exact (zSj (m:=2) (by omega) (s:=jE (prK 3 i (qV (l.getD i (0,0,0)))) (prS qV 3 l i) 2) s2 h).2
theorem zKD (t:P3) {k:Nat} (h:k<3):(qV t).getD k (0,0,0)=(p3 t k,p3 t ((k+1) % 3:Nat),0):=by
 have:k=0\/k=1\/k=2:=by omega
 rcases this with e|e|e<;>subst e<;>rfl
theorem zIj {x:zX.T} {c:Int} (h:zAX x c=true):zRG x.1.2 (trn c 1).toNat=((qX x c).1,(qX x c).2,0):=by
 have hc:=z6.1 h;have h1:=z6.1 (zA2 h).1;have h2:=z6.1 (zA2 h).2;unfold zRG;rw [zKD _ (by omega)];unfold qX;rw [zD2 h1.1 h1.2,zD2 h2.1 h2.2];rw [zAw h,zBe h];have e0:0<=trn c 1:=by unfold trn;omega
 have e1:(trn c 1).toNat / 3=(c / 3).toNat:=by unfold trn;omega
 have e2:(trn c 1 / 3).toNat=(c / 3).toNat:=by unfold trn;omega
 have e3:(trn c 2 / 3).toNat=(c / 3).toNat:=by unfold trn;omega
 have e4:(((trn c 1).toNat % 3:Nat):Int)=trn c 1 % 3:=by omega
 have e5:((((trn c 1).toNat % 3+1) % 3:Nat):Int)=trn c 2 % 3:=by unfold trn;omega
 rw [e1,e2,e3,e4,e5]
theorem zXh {l:List P3} (h:dgL l l.length=[]) {i:Nat} (hi:i<l.length): ¬ ((l.getD i (0,0,0)).1=(l.getD i (0,0,0)).2.1\/(l.getD i (0,0,0)).2.1=(l.getD i (0,0,0)).2.2\/(l.getD i (0,0,0)).2.2=(l.getD i (0,0,0)).1):=by
 have:=jC.1 h i (zW.2 hi);unfold dgG at this;split at this
 ·cases this
 ·rename_i hd;exact fun e=>hd (z0V e)
theorem z2S {t:P3} (h: ¬ (t.1=t.2.1\/t.2.1=t.2.2\/t.2.2=t.1)) {k:Nat} (hk:k<3):p3 t k≠p3 t ((k+1) % 3:Nat):=by
 have:k=0\/k=1\/k=2:=by omega
 rcases this with e|e|e<;>subst e<;>intro e<;>apply h
 ·exact .inl e
 ·exact .inr (.inl e)
 ·exact .inr (.inr e)
theorem zPg (x:Int×List P3): ∀ i,i<=3*x.2.length->∀ e c,zA3 .arr2 (zGq x i).1 e=some c->0<=c/\c<3*(x.2.length:Int)/\qX (x,[],[]) c=e
 | 0,_,e,c,h=>by cases h
 | i +1,hi,e,c,h=>by
   have h:zA3 .arr2 (zAg .arr2 (zGq x i).1 (qX (x,[],[]) (3*x.2.length - 1 - i)) (3*x.2.length - 1 - i)) e=some c:=h
   by_cases he:qX (x,[],[]) (3*x.2.length - 1 - i)=e
   ·rw [he,zAz] at h;cases h;exact ⟨by omega,by omega,he⟩
   ·rw [zB4 _ he] at h;exact zPg x i (by omega) e c h
theorem zJ9 (x:Int×List P3) (hl:x.2.length<=8192): ∀ i,i<=3*x.2.length->∀ v,(zGq x i).2.getD v 0<=30000
 | 0,_,v=>by
   show (List.replicate _ _).getD v 0<=_;rw [gdE,yU];split<;>decide
 | i +1,hi,v=>by
   show ((zGq x i).2.set _ _).getD v 0<=_;rw [gdE,qI];split
   ·split
    ·show (3*(x.2.length:Int) - 1 - i)<=30000;omega
    ·decide
   ·rw [<- gdE];exact zJ9 x hl i (by omega) v
theorem zRY (x:Int×List P3) (hl:0<x.2.length): ∀ i,i<=3*x.2.length->∀ v,0<=(zGq x i).2.getD v 0/\(zGq x i).2.getD v 0<3*(x.2.length:Int)
 | 0,_,v=>by
   show 0<=(List.replicate _ _).getD v 0/\(List.replicate _ _).getD v 0<_
   have: ∀ n,(List.replicate n (0:Int)).getD v 0=0:=fun n=>by
    rw [gdE,yU];split<;>rfl
   rw [this];omega
 | i +1,hi,v=>by
   show 0<=((zGq x i).2.set _ _).getD v 0/\((zGq x i).2.set _ _).getD v 0<_;rw [gdE,qI];split
   ·split
    ·show 0<=(3*(x.2.length:Int) - 1 - i)/\(3*(x.2.length:Int) - 1 - i)<3*(x.2.length:Int);omega
    ·show (0:Int)<=0/\(0:Int)<3*(x.2.length:Int);omega
   ·rw [<- gdE];exact zRY x hl i (by omega) v
theorem zPs {s:Int×List P3} (h:z3Q s):Good (jO s) where
 fit:=h.fit
 map e c he:=by
  obtain ⟨h1,h2,h3⟩:=zPg s _ (zI _) e c he;exact ⟨z6.2 ⟨h1,h2⟩,h3⟩
 uniq p q hp hq e:=by
  have hu:=(zXX s.2 _ h.twi).dif;have kp:=zIj hp;have kq:=zIj hq;rw [e,<- kq] at kp;have ip:=z6.1 (zA2 hp).1;have iq:=z6.1 (zA2 hq).1;rw [zAw hp] at ip;rw [zAw hq] at iq;have ip:0<=trn p 1/\trn p 1<3*(s.2.length:Int):=ip;have iq:0<=trn q 1/\trn q 1<3*(s.2.length:Int):=iq;have kp:zRG s.2 (trn p 1).toNat=zRG s.2 (trn q 1).toNat:=kp;refine zKo ?_;rcases Nat.lt_trichotomy (trn p 1).toNat (trn q 1).toNat with hlt|heq|hgt
  ·exact absurd kp (hu _ _ hlt (by omega))
  ·omega
  ·exact absurd kp.symm (hu _ _ hgt (by omega))
 ends c hc e:=by
  have k:=zIj hc;have i0:=z6.1 hc;have i1:=z6.1 (zA2 hc).1;rw [zAw hc] at i1;have i1:0<=trn c 1/\trn c 1<3*(s.2.length:Int):=i1;unfold zRG at k;rw [zKD _ (by omega)] at k;refine z2S (zXh h.deg (i:=(trn c 1).toNat / 3) (by omega)) (k:=(trn c 1).toNat % 3) (by omega) ?_;exact (congrArg Prod.fst k).trans (e.trans (congrArg (fun t:P3=>t.2.1) k).symm)
 cor c hc:=by
  have i0:=z6.1 hc;have i0:0<=c/\c<3*(s.2.length:Int):=i0;have hv:=zAn (x:=jO s) h.fit hc;have hlen:(jO s).2.2.length=s.1.toNat:=zGJ s _;have hv2:0<=yM (jO s) c/\yM (jO s) c<s.1:=hv;unfold yL;rw [if_pos (by rw [hlen];omega)];exact z6.2 (zRY s (by omega) _ (zI _) _)
 first v:=zJ9 s h.fit.2.2.1 _ (zI _) v
end S1
namespace S1
theorem zXk {x:zX.T} (g:Good x) (c:Int):zAY x c<=30000:=by
 by_cases h:0<=zAY x c
 ·have:=z6.1 (g.opp h).2.1;have:=g.fit.2.2.1;omega
 ·omega
theorem zKx {x:zX.T} (g:Good x) (c:Int):jA x c<=30000:=by
 cases h:zAX x c with
 | false=>unfold jA;rw [if_neg (by rw [h];simp)];decide
 | true =>
   have:=z6.1 (zA2 h).2;have:=g.fit.2.2.1;omega
theorem zK3 {x:zX.T} (g:Good x) (c:Int):jD x c<=30000:=by
 cases h:zAX x c with
 | false=>unfold jD;rw [if_neg (by rw [h];simp)];decide
 | true =>
   have:=z6.1 (zA2 h).1;have:=g.fit.2.2.1;omega
theorem zUO (x:zX.T) (c:Int) (h:Good x/\c<=30000):zB7 ⟨tyL,[(29,zNe),(13,zNh)],[]⟩ f99 [(ETy.pt zX).av (some x),jF.av c] (fun v=>v= .s (.int .i64 (z8 x c))):=by
 repeat' (conv=>whnf
          first|done|refine qy ?_|refine qG fun _=> ?_|refine qw (fun _=> ?_) (fun _=> ?_)|apply qt|refine qi (fun _=> ?_) (fun _=> ?_)|refine qu ?_|refine qv ?_ ?_|exact zT)
 all_goals try first|refine qz ?_|apply qz5
 all_goals try simp only [qn0,yC,yA,ETy.dflt,Int.reduceToNat,Int.reduceAdd,Int.reduceSub,Int.reduceNeg,Nat.reduceAdd,z8] at *
 ·exact qh (Int.le_trans h.2 (by decide))
 ·exact qh (Int.le_trans (zKx h.1 _) (by decide))
 ·rw [if_pos (by assumption)]
 ·exact qh (Int.le_trans (zXk h.1 _) (by decide))
 ·rw [if_neg (by assumption)]
def zTj:List AV->Option Res:=zFf zX jF (fun x c=>some (none,some (Good x/\c<=30000),.s (.int .i64 (z8 x c))))
theorem zTR:zAI prog 99 zTj:=mkR (zBB fun x c r h=>by cases h;exact fb (by exact ⟨zLW,zFb,trivial⟩) func99 fun _ h=>zUO x c h) func99
theorem zWe (x:zX.T) (c:Int) (h:Good x/\c<=30000):zB7 ⟨tyL,[(28,zOh),(13,zNh)],[]⟩ f68 [(ETy.pt zX).av (some x),jF.av c] (fun v=>v= .s (.int .i64 (yI x c))):=by
 repeat' (conv=>whnf
          first|done|refine qy ?_|refine qG fun _=> ?_|refine qw (fun _=> ?_) (fun _=> ?_)|apply qt|refine qi (fun _=> ?_) (fun _=> ?_)|refine qu ?_|refine qv ?_ ?_|exact zT)
 all_goals try first|refine qz ?_|apply qz5
 all_goals try simp only [qn0,yC,yA,ETy.dflt,Int.reduceToNat,Int.reduceAdd,Int.reduceSub,Int.reduceNeg,Nat.reduceAdd,yI] at *
 ·exact qh (Int.le_trans h.2 (by decide))
 ·exact qh (Int.le_trans (zK3 h.1 _) (by decide))
 ·rw [if_pos (by assumption)]
 ·exact qh (Int.le_trans (zXk h.1 _) (by decide))
 ·rw [if_neg (by assumption)]
def zFc:List AV->Option Res:=zFf zX jF (fun x c=>some (none,some (Good x/\c<=30000),.s (.int .i64 (yI x c))))
theorem zHT:zAI prog 68 zFc:=mkR (zBB fun x c r h=>by cases h;exact fb (by exact ⟨zLR,zFb,trivial⟩) func68 fun _ h=>zWe x c h) func68
def zCD (x:zX.T) (v:Int):Bool:=decide (0<=v)&&(decide (v<x.1.1)&&decide (0<=yL x v))
theorem zWW (x:zX.T) (v:Int):zB7 ⟨tyL,[(36,zBR),(41,zEB)],[]⟩ f73 [(ETy.pt zX).av (some x),jF.av v] (fun r=>r= .s (.bool (zCD x v))):=by
 repeat' (conv=>whnf
          first|done|refine qy ?_|refine qG fun _=> ?_|refine qw (fun _=> ?_) (fun _=> ?_)|apply qt|refine qi (fun _=> ?_) (fun _=> ?_)|refine qu ?_|refine qv ?_ ?_|exact zT)
 all_goals try first|refine qz ?_|apply qz5
 all_goals try simp only [qn0,yC,yA,ETy.dflt,Int.reduceToNat,Int.reduceAdd,Int.reduceSub,Int.reduceNeg,Nat.reduceAdd,zCD] at *
 ·rename_i h1 h2;rw [decide_eq_true h1,decide_eq_true h2];rfl
 ·rename_i h1 h2;rw [decide_eq_false h2];simp
 ·rename_i h1;rw [decide_eq_false h1];rfl
theorem zSN {fn} (v:Int):zB7 ⟨tyL,fn,[]⟩ f73 [(ETy.pt zX).av none,jF.av v] (fun r=>r= .s (.bool false)):=by
 repeat' (conv=>whnf
          first|done|refine qy ?_|refine qG fun _=> ?_|refine qw (fun _=> ?_) (fun _=> ?_)|apply qt|refine qi (fun _=> ?_) (fun _=> ?_)|refine qu ?_|refine qv ?_ ?_|exact zT)
 all_goals try first|refine qz ?_|apply qz5
 all_goals try simp only [qn0,yC,yA,ETy.dflt,Int.reduceToNat,Int.reduceAdd,Int.reduceSub,Int.reduceNeg,Nat.reduceAdd] at *
def onO {α:Type} (o:Option zX.T) (d:α) (f:zX.T->α):α:=match o with|some x=>f x|none=>d
def zJw:List AV->Option Res:=zNH (.pt zX) jF (fun o v=>some (none,none,.s (.bool (onO o false fun x=>zCD x v))))
theorem zKe:zAI prog 73 zJw:=mkR (zCh fun o v r h=>by
 cases h;cases o with
 | none=>exact fb (fn:=[(36,zBR),(41,zEB)]) ⟨zC4,zEM,trivial⟩ func73 fun _ _=>zSN v
 | some x=>exact fb (fn:=[(36,zBR),(41,zEB)]) ⟨zC4,zEM,trivial⟩ func73 fun _ _=>zWW x v) func73
def zDH (x:zX.T) (c0:Int):Nat->Int->Int×Bool
 | 0,_=>(0,false)
 | n+1,c=>if z8 x c<0 then (c,true) else if z8 x c=c0 then (c0,false) else zDH x c0 n (z8 x c)
def zAc (x:zX.T) (v:Int):Int×Bool:=zDH x (yL x v) 30000 (yL x v)
def zRF (f:Int->Int) (c0:Int) (k:Nat):Prop:= ∀ j,1<=j->j<=k->0<=iter f c0 j/\iter f c0 j≠c0
theorem zRF.succ {f:Int->Int} {c0:Int} {k:Nat} (h:zRF f c0 k) (h1: ¬ f (iter f c0 k)<0) (h2: ¬ f (iter f c0 k)=c0):zRF f c0 (k+1):=fun j a b=>by
 by_cases e:j=k+1
 ·subst e;exact ⟨by show 0<=f (iter f c0 k);omega,h2⟩
 ·exact h j a (by omega)
theorem zJv {x:zX.T} (g:Good x) {c0:Int} {k:Nat} (h:zRF (z8 x) c0 k):k<=24576:=by
 have:=pig (L:=3*x.1.2.length) (fun c hc=>by have:=z6.1 (g.before_has hc).2.1;omega) g.before_inj h;have:=g.fit.2.2.1;omega
theorem zBT {x:zX.T} (g:Good x) {c0:Int} {k:Nat} (h:zRF (yI x) c0 k):k<=24576:=by
 have:=pig (L:=3*x.1.2.length) (fun c hc=>by have:=z6.1 (g.after_has hc).2.1;omega) g.after_inj h;have:=g.fit.2.2.1;omega
theorem zEC {x:zX.T} (g:Good x) (v:Int):yL x v<=30000:=by
 unfold yL;split
 ·exact g.first _
 ·decide
theorem zWo {x:zX.T} (g:Good x) {c0:Int} (h0:c0<=30000): ∀ k,iter (z8 x) c0 k<=30000
 | 0=>h0
 | k+1=>by
   show z8 x (iter (z8 x) c0 k)<=30000;unfold z8;split
   ·decide
   ·exact zKx g _
theorem zV1 {x:zX.T} (g:Good x) {c0:Int} (h0:c0<=30000): ∀ k,iter (yI x) c0 k<=30000
 | 0=>h0
 | k+1=>by
   show yI x (iter (yI x) c0 k)<=30000;unfold yI;split
   ·decide
   ·exact zK3 g _
def zZG (x:zX.T) (c0:Int):Spec Nat where
 inv k:=zRF (z8 x) c0 k/\zDH x c0 30000 c0=zDH x c0 (30000 - k) (iter (z8 x) c0 k)
 live k:=[(7,.s (.int .i64 (iter (z8 x) c0 k)))]
 keep:=[0,6]
 heap _:=[]
 keepH:=[]
 mu k:=30000 - k
theorem zFV {x:zX.T} {c0 c:Int} {k:Nat} (h:k<=24576):zDH x c0 (30000 - k) c=if z8 x c<0 then (c,true) else if z8 x c=c0 then (c0,false) else zDH x c0 (30000 - (k+1)) (z8 x c):=by
 rw [show 30000 - k=(30000 - (k+1))+1 by omega];rfl
theorem zWn (x:zX.T) (v:Int) (g:Good x):zB7 ⟨tyL,[(41,zEB),(99,zTj)],[]⟩ f74 [(ETy.pt zX).av (some x),jF.av v] (fun r=>r= .tup [.s (.int .i64 (zAc x v).1),.s (.bool (zAc x v).2)]):=by
 repeat' (conv=>whnf
          first|done|refine qy ?_|refine qG fun _=> ?_|refine qw (fun _=> ?_) (fun _=> ?_)|apply qt|refine qi (fun _=> ?_) (fun _=> ?_)|(refine j6 3 rfl (zZG x (yL x v)) (0) ?_ ?_ ?_ fun k hk=> ?_)|with_reducible refine jX (zZG _ _) (k+1) ?_ ?_ ?_ ?_|refine qu ?_|refine qv ?_ ?_|exact zT)
 all_goals try first|refine qz ?_|apply qz5
 all_goals try simp only [qn0,yC,yA,ETy.dflt,Int.reduceToNat,Int.reduceAdd,Int.reduceSub,Int.reduceNeg,Nat.reduceAdd,zZG] at *
 ·exact qh ⟨fun j a b=>by omega,rfl⟩
 all_goals have hk24:=zJv g hk.1
 ·exact qh ⟨g,zWo g (zEC g v) k⟩
 ·unfold zAc;rw [hk.2,zFV hk24,if_pos (by assumption)];exact jJ.intro rfl
 ·unfold zAc;rw [hk.2,zFV hk24,if_neg (by assumption),if_pos (by assumption)];exact jJ.intro rfl
 ·refine jQ.intro ⟨hk.1.succ (by assumption) (by assumption),?_⟩;rw [hk.2,zFV hk24,if_neg (by assumption),if_neg (by assumption)];rfl
 ·exact qh (by omega)
def zJr:List AV->Option Res:=zFf zX jF (fun x v=>some (none,some (Good x),.tup [.s (.int .i64 (zAc x v).1),.s (.bool (zAc x v).2)]))
theorem zKh:zAI prog 74 zJr:=mkR (zBB fun x v r h=>by cases h;exact fb (by exact ⟨zEM,zTR,trivial⟩) func74 fun _ h=>zWn x v h) func74
def zAq (x:zX.T) (v:Int):Bool:=zCD x v&& !(zAc x v).2
theorem zWa (x:zX.T) (v:Int) (g:Good x):zB7 ⟨tyL,[(73,zJw),(74,zJr)],[]⟩ f52 [(ETy.pt zX).av (some x),jF.av v] (fun r=>r= .s (.bool (zAq x v))):=by
 repeat' (conv=>whnf
          first|done|refine qy ?_|refine qG fun _=> ?_|refine qw (fun _=> ?_) (fun _=> ?_)|apply qt|refine qi (fun _=> ?_) (fun _=> ?_)|refine qu ?_|refine qv ?_ ?_|exact zT)
 all_goals try first|refine qz ?_|apply qz5
 all_goals try simp only [qn0,yC,yA,ETy.dflt,Int.reduceToNat,Int.reduceAdd,Int.reduceSub,Int.reduceNeg,Nat.reduceAdd,zAq,zCD] at *
 all_goals (simp only [*,decide_true,decide_false,Bool.true_and,Bool.false_and,Bool.and_false])
def zNN:List AV->Option Res:=zFf zX jF (fun x v=>some (none,some (Good x),.s (.bool (zAq x v))))
theorem zQP:zAI prog 52 zNN:=mkR (zBB fun x v r h=>by cases h;exact fb (by exact ⟨zKe,zKh,trivial⟩) func52 fun _ h=>zWa x v h) func52
def zBh (x:zX.T) (a b:Int):Bool:=decide (0<=qM x (a,b))|| decide (0<=qM x (b,a))
end S1
namespace Go.Vm
open Go.RowKit
def zHI:Obj->Bool
 | .cells _ _ _=>true
 | .map _ _=>true
 | _=>false
def Sig.add (I:Sig) (l:Nat) (o:Obj):Sig:=fun b=>if b=l then some o else I b
def Sig.del (I:Sig) (l:Nat):Sig:=fun b=>if b=l then none else I b
def Sig.leD (I τ:Sig):Prop:= ∀ b o,I b=some o->zHI o=true->τ b=some o
theorem Ole.nodata {o o':Obj} (h:Ole o o') (hd:zHI o=false):o'=o:=by
 rcases h with h|⟨c,c',T,fz,e,_⟩
 ·exact h.symm
 ·subst e;cases hd
section
variable {P:Program} {T:Tab} {B:Base} {w:World} {I τ:Sig} {M:yN} {st:St} {tmps:Array Value}
theorem Sig.del_leD {l:Nat} (h: ∀ o,I l=some o->zHI o=false):I.leD (I.del l):=fun b o e hd=>by
 unfold Sig.del;split
 ·rename_i hb;subst hb;rw [h o e] at hd;cases hd
 ·exact e
theorem zCJ.leD (h:I.leD τ) {b o:Nat} {ds:List Value} :zCJ I b o ds->zCJ τ b o ds :=
 fun ⟨c,T,fz,e,r⟩=>⟨c,T,fz,h _ _ e rfl,r⟩
theorem jI.leD (hs:I.leD τ): ∀ {e:ETy} {x:e.T} {ds:List Value},jI I e x ds->jI τ e x ds
 | .int _,_,_,h=>h
 | .bool,_,_,h=>h
 | .arr2,_,_,h=>h
 | .arr3,_,_,h=>h
 | .pair _ _,_,_,h=>by obtain ⟨d1,d2,rfl,h1,h2⟩:=h;exact ⟨d1,d2,rfl,h1.leD hs,h2.leD hs⟩
 | .sl _,_,_,h=>by
   obtain ⟨a,cap,rfl,hl,hc,h⟩:=h;refine ⟨a,cap,rfl,hl,hc,fun hne=> ?_⟩;obtain ⟨b,o,ha,hr⟩:=h hne;exact ⟨b,o,ha,fun i x hx=>let ⟨d,h1,h2⟩:=hr i x hx;⟨d,h1.leD hs,h2.leD hs⟩⟩
 | .mp _ _,_,_,h=>by
   obtain ⟨r,rfl,hl,hn,h⟩:=h;refine ⟨r,rfl,hl,hn,fun b hb=> ?_⟩;obtain ⟨es,clock,h1,h2,h3⟩:=h b hb;exact ⟨es,clock,hs _ _ h1 rfl,h2,fun i x hx=>let ⟨en,dk,dv,e1,e2,e3,e4,e5⟩:=h3 i x hx;⟨en,dk,dv,e1,e2.leD hs,e3,e4.leD hs,e5⟩⟩
 | .pt _,none,_,h=>h
 | .pt _,some _,_,h=>by obtain ⟨b,off,d,rfl,h1,h2⟩:=h;exact ⟨b,off,d,rfl,h1.leD hs,h2.leD hs⟩
 | .unit,_,_,h=>h
 | .fnc,_,_,h=>h
theorem y7.leD (hs:I.leD τ) {a:AS} {v:Value} (h:y7 I M a v):y7 τ M a v:=by
 cases a with
 | int=>exact h
 | bool=>exact h
 | val=>exact h
 | sl=>exact jI.leD hs h
 | mp=>exact jI.leD hs h
 | pt=>exact jI.leD hs h
 | ip=>obtain ⟨b,o,d,e,h1,h2⟩:=h;exact ⟨b,o,d,e,h1.leD hs,h2.leD hs⟩
 | ipi=>obtain ⟨b,o,d,e,h1,h2,h3⟩:=h;exact ⟨b,o,d,e,h1.leD hs,h2.leD hs,h3⟩
 | own=>exact h
 | ptr=>exact h
 | pti=>exact h
 | omp=>exact h
 | arr=>exact h
 | clo f ps=>obtain ⟨vs,e,r⟩:=h;exact ⟨vs,e,r.mono fun _ _=>jI.leD hs⟩
 | nq=>exact h
 | emp=>exact h
 | junk=>exact h
theorem qA.leD (hs:I.leD τ) {a:AV} {v:Value} (h:qA I M a v):qA τ M a v:=h.map fun _ _=>y7.leD hs
theorem zAi.leD {w':World} {base sz:Nat} {vs:List Value} (hx:I.leD τ) (hw: ∀ b o,I b=some o->zHI o=true->w'.heap[b]? =w.heap[b]?) (h:zAi I w base sz vs):zAi τ w' base sz vs :=
 ⟨fun v hv=>by
   rcases h.1 v hv with e|⟨b,o,n,cap,c,c',T,h1,h2,h3,h4⟩
   ·exact .inl e
   ·exact .inr ⟨b,o,n,cap,c,c',T,h1,hx _ _ h2 rfl,by rw [hw _ _ h2 rfl];exact h3,h4⟩,h.2⟩
theorem zAt.leD {w':World} {id:Nat} {ob:Ob} (hs:I.leD τ) (hk: ∀ p,M[id]? =some (some p)->w'.heap[p.b]? =w.heap[p.b]?) (hkn: ∀ b o,I b=some o->zHI o=true->w'.heap[b]? =w.heap[b]?)
 (h:zAt I M w id ob):zAt τ M w' id ob:=by
 cases ob with
 | row e T xs =>
   obtain ⟨h0,h⟩:=h;refine ⟨h0,?_⟩;cases hβ:M[id]? with
   | none=>simp [hβ] at h
   | some x =>
     cases x with
     | none=>simpa [hβ] using h
     | some p =>
       simp only [hβ] at h ⊢;obtain ⟨h1,h2,h3,c,h4,h5,h6⟩:=h;exact ⟨h1,h2,h3,c,by rw [hk p hβ];exact h4,h5,fun i x hx=>let ⟨d,e1,e2⟩:=h6 i x hx;⟨d,e1.leD hs,e2⟩⟩
 | flat T cs =>
   obtain ⟨p,h1,h2,h3,h4,h5,c,h6,h7⟩:=h;exact ⟨p,h1,h2,h3,h4,h5,c,by rw [hk p h1];exact h6,h7.mono fun _ _=>y7.leD hs⟩
 | map k v m =>
   obtain ⟨h0,p,es,clock,h1,h2,h3,h4⟩:=h;exact ⟨h0,p,es,clock,h1,by rw [hk p h1];exact h2,h3,fun i x hx=>let ⟨en,dk,dv,e1,e2,e3,e4,e5⟩:=h4 i x hx;⟨en,dk,dv,e1,e2.leD hs,e3,e4.leD hs,e5⟩⟩
 | gmap k e m =>
   obtain ⟨h0,p,es,clock,h1,h2,h3,h4,h5,h6⟩:=h;exact ⟨h0,p,es,clock,h1,by rw [hk p h1];exact h2,h3,fun i x hx=>let ⟨en,dk,dv,e1,e2,e3,e4,e5⟩:=h4 i x hx;⟨en,dk,dv,e1,e2.leD hs,e3,e4.leD hs,e5⟩,h5.leD hs hkn,h6⟩
 | grow e T xss =>
   obtain ⟨h0,p,h1,h2,h3,h4,c,h5,h6,h7,h8⟩:=h;exact ⟨h0,p,h1,h2,h3,h4,c,by rw [hk p h1];exact h5,h6,fun i x hx=>let ⟨v,e1,e2⟩:=h7 i x hx;⟨v,e1.leD hs,e2⟩,h8.leD hs hkn⟩
 | fr X l=>exact ⟨h.1,fun t=>(h.2 t).leD hs⟩
def Base.lock (B:Base) (l:Nat) (o:Obj):Base:= {B with sg:=B.sg.add l o}
theorem GG.lock (h:GG B I M st tmps w) {l:Nat} {o:Obj} (hB:B.w.heap.size<=l) (hl:w.heap[l]? =some o) (hn:I l=none)
 (hp: ∀ id ob p,hget st.hp id=some ob->M[id]? =some (some p)->p.b≠l):GG (B.lock l o) (I.add l o) M st tmps w:=by
 have hx: ∀ b u,I b=some u->(I.add l o) b=some u:=fun b u e=>by
  unfold Sig.add;split
  ·rename_i hb;subst hb;rw [hn] at e;cases e
  ·exact e
 have hle:I.le (I.add l o):=fun b u e=>⟨u,hx b u e,.refl⟩;refine ⟨⟨fun b u e=> ?_,fun id ob hi=>(h.mem.ob _ _ hi).sig hle hx⟩,fun t=>(h.env t).mono hle,h.len,fun id ob p hi hp'=> ?_,h.bel,⟨fun b u e=> ?_,fun b hb=> ?_⟩⟩
 ·unfold Sig.add at e;split at e
  ·rename_i hb;subst hb;cases e;exact ⟨_,hl,.refl⟩
  ·exact h.mem.ag _ _ e
 ·obtain ⟨s1,s2,s3⟩:=h.sep _ _ _ hi hp';refine ⟨?_,s2,s3⟩;unfold Sig.add;rw [if_neg (hp _ _ _ hi hp')];exact s1
 ·have e:(B.sg.add l o) b=some u:=e;unfold Sig.add at e ⊢;split at e
  ·rename_i hb;rw [if_pos hb];exact ⟨u,e,.refl⟩
  ·rename_i hb;rw [if_neg hb];exact h.grew.1 _ _ e
 ·have hb:b<B.w.heap.size:=hb;show (I.add l o) b=(B.sg.add l o) b;unfold Sig.add;rw [if_neg (by omega),if_neg (by omega)];exact h.grew.2 b hb
theorem GG.locked {l:Nat} {o:Obj} (h:GG (B.lock l o) I M st tmps w) (hd:zHI o=false):I l=some o/\w.heap[l]? =some o/\∀ id ob p,hget st.hp id=some ob->M[id]? =some (some p)->p.b≠l:=by
 obtain ⟨o',e1,e2⟩:=h.grew.1 l o (by show (B.sg.add l o) l=_;unfold Sig.add;rw [if_pos rfl]);have:=e2.nodata hd;subst this;obtain ⟨o2,e3,e4⟩:=h.mem.ag _ _ e1;have:=e4.nodata hd;subst this;refine ⟨e1,e3,fun id ob p hi hp e=> ?_⟩;have:=(h.sep _ _ _ hi hp).1;rw [e,e1] at this;cases this
theorem GG.unlock {l:Nat} {o:Obj} (h:GG (B.lock l o) I M st tmps w) (hd:zHI o=false) (hB:B.w.heap.size<=l) (hn:B.sg l=none) (o':Obj) :
 GG B (I.del l) M st tmps (w.putObj l o')/\(I.del l) l=none/\(w.putObj l o').heap[l]? =some o'/\∀ id ob p,hget st.hp id=some ob->M[id]? =some (some p)->p.b≠l:=by
 obtain ⟨h1,h2,h3⟩:=h.locked hd;have hs:I.leD (I.del l):=Sig.del_leD fun o2 e=>by rw [h1] at e;cases e;exact hd
 have hlt:=(zR.1 h2).1;have hoth: ∀ b,b≠l->(w.putObj l o').heap[b]? =w.heap[b]? :=fun b hb=>World.putObj_heap_other (fun e=>hb e);have hdl:(I.del l) l=none:=by unfold Sig.del;rw [if_pos rfl]
 refine ⟨⟨⟨fun b u e=> ?_,fun id ob hi=>(h.mem.ob _ _ hi).leD hs (fun p hp=>hoth _ (h3 _ _ _ hi hp)) fun b u e hdu=>hoth _ fun hb=> ?_⟩,fun t=>(h.env t).leD hs,h.len,fun id ob p hi hp'=> ?_,?_,⟨fun b u e=> ?_,fun b hb=> ?_⟩⟩,hdl,World.putObj_heap_same hlt,h3⟩
 ·unfold Sig.del at e;split at e
  ·cases e
  ·rename_i hb;rw [hoth b hb];exact h.mem.ag _ _ e
 ·subst hb;rw [h1] at e;cases e;rw [hd] at hdu;cases hdu
 ·obtain ⟨s1,s2,s3⟩:=h.sep _ _ _ hi hp';refine ⟨?_,s2,s3⟩;unfold Sig.del;rw [if_neg (h3 _ _ _ hi hp')];exact s1
 ·exact ⟨h.bel.toBelow.grown (grownBy_putObj' w l o') (Nat.le_of_lt (Nat.lt_of_le_of_lt hB hlt)) (fun k e=>by cases e;exact hB),h.bel.drawn⟩
 ·have hb:b≠l:=fun hb=>by subst hb;rw [hn] at e;cases e
  unfold Sig.del;rw [if_neg hb];refine h.grew.1 b u ?_;show (B.sg.add l o) b=_;unfold Sig.add;rw [if_neg hb];exact e
 ·have hne:b≠l:=by omega
  unfold Sig.del;rw [if_neg hne];have:=h.grew.2 b hb;rw [this];show (B.sg.add l o) b=_;unfold Sig.add;rw [if_neg hne]
end
end Go.Vm
namespace Go.Vm
open Go.RowKit
abbrev zLf:=Option ((e:ETy)×(Int->e.T))
def zOI:List PtV->zLf
 | [⟨.sl e,xs⟩]=>some ⟨e,fun i=>List.getD xs i.toNat e.dflt⟩
 | _=>none
def zEw (I:Sig):zLf->Int->List Value->Prop
 | none,_,vs=>vs=[]
 | some s,x,vs=> ∃ ds:List Value,vs=[.agg ds.toArray]/\jI I s.1 (s.2 x) ds
def zY4:zLf->Int->List AV
 | none,_=>[]
 | some s,x=>[.agg (s.1.cells (s.2 x))]
def z2s:zLf->Nat
 | none=>0
 | some _=>1
theorem zEw.len {I:Sig} {sec:zLf} {x:Int} {vs:List Value} (h:zEw I sec x vs):vs.length=z2s sec:=by
 cases sec with
 | none=>rw [show vs=[] from h];rfl
 | some s=>obtain ⟨ds,e,_⟩:=h;rw [e];rfl
theorem zEw.mono {I τ:Sig} {sec:zLf} {x:Int} {vs:List Value} (hs:I.le τ) (h:zEw I sec x vs):zEw τ sec x vs:=by
 cases sec with
 | none=>exact h
 | some s=>obtain ⟨ds,e,k⟩:=h;exact ⟨ds,e,k.mono hs⟩
theorem zEw.av {I:Sig} {M:yN} {sec:zLf} {x:Int} {vs:List Value} (h:zEw I sec x vs):jL I M (zY4 sec x) vs:=by
 cases sec with
 | none=>rw [show vs=[] from h];trivial
 | some s=>obtain ⟨ds,e,k⟩:=h;subst e;exact ⟨⟨ds,rfl,k.cells⟩,trivial⟩
def putZ (st:St):List Tmp->List AV->St
 | p::ps,v::vs=>putZ (st.put (some p) v) ps vs
 | _,_=>st
def z0M (tmps:Array Value) (l:List (Tmp×Value)):Array Value:=l.foldl (fun tmps x=>match x with|(t,a)=>tmps.setIfInBounds t a) tmps
def z2w (P:Program) (g:FuncId) (lb:Array Value) (sec:zLf) (L:List Int) (I:Sig):Prop :=
 ∀ (l:Nat) (J:List Int->Sig->World->Prop) (W:World),Ag I W->(∀ pre σp A A',J pre σp A->Below A.heap.size A A'->J pre σp A')->
   (∀ pre x vs σp σ1 Ws W1,J pre σp Ws->Below Ws.heap.size Ws W1->(∀ b,b<Ws.heap.size->σ1 b=σp b)->Ag σ1 W1->(pre++[x]) <+: L->zEw σ1 sec x vs->
     YieldAt Fence.wide 0 P l (Value.int .i64 x::vs).toArray W1 fun e W'=>e= .returned (.bool true)/\J (pre++[x]) σ1 W'/\Ag σ1 W')->
   J [] I W->CallsIn Fence.wide 0 P g (#[.func (.yield l) #[] #[]]++lb) W fun e W'=>(∃ v,e= .returned v)/\∃ σ',J L σ' W'
structure zZq (P:Program) (g:FuncId) (ps:List PtV) (L:List Int):Prop where
 enter: ∀ args w,(callFunc g args).run P w= .ok (.enter g args) w
 ok: ∀ x∈L,InK .i64 x
 seq: ∀ (I:Sig) (vs:List Value),jZ (fun (q:PtV) u=>jI I (.pt q.e) (some q.x) [u]) ps vs->z2w P g vs.toArray (zOI ps) L I
def backTo (id:Nat) (X:Array Value) (s:St) (K:St->Prop):Prop :=
 match hget s.hp id with
 | some (.fr X' l)=>X'=X/\(⟨l,s.hp,s.next⟩:St).forceAll K
 | _=>False
def zHk (st:St) (X:Array Value):St:=⟨zJT [] st.env,(st.next,.fr X (zJT [] st.env))::st.hp,st.next+1⟩
def zR0 (T:Tab) (ps:List Tmp) (sec:zLf) (assign body:Code) (st:St) (L:List Int) (S:Array Value->Nat->St):Prop :=
 ∀ X :Array Value,zOZ (zHk st X) (S X 0)/\∀ k,k<L.length->(putZ (S X k) ps (.s (.int .i64 (L.getD k 0))::zY4 sec (L.getD k 0))).forceAll fun h=>zBD T assign h fun e s=>match e with
   | .normal=>zBD T body s fun e s=>match e with
     | .normal=>backTo st.next X s fun s=>zOZ s (S X (k+1))
     | _=>False
   | _=>False
section
variable {P:Program} {T:Tab} {B:Base} {w w':World} {I τ:Sig} {M:yN} {st:St} {tmps:Array Value} {N:Nat} {a:Act}
theorem GG.rebase (h:GG B I M st tmps w) {B':Base} (hw:B'.w=B.w) (hg:B'.sg=B.sg):GG B' I M st tmps w:=by
 obtain ⟨bw,bs,bd⟩:=B;obtain ⟨bw',bs',bd'⟩:=B';cases hw;cases hg;exact ⟨h.mem,h.env,h.len,h.sep,h.bel,h.grew⟩
theorem GG.base (h:GG B I M st tmps w) (ds:List Deferred):GG {w:=B.w,sg:=I,dfs:=ds} I M st tmps w :=
 ⟨h.mem,h.env,h.len,h.sep,h.bel,⟨Sig.le.refl _,fun _ _=>rfl⟩⟩
theorem GG.grown (h:GG B I M st tmps w) (hb:Below w.heap.size w w'):GG B I M st tmps w':=by
 have hs:B.w.heap.size<=w.heap.size:=h.bel.size;refine ⟨⟨fun b o e=> ?_,fun id ob hi=>(h.mem.ob _ _ hi).same (fun p hp=>hb.block _ ((h.mem.ob _ _ hi).lt hp)) fun b o e=>hb.block _ (h.mem.ag.lt e)⟩,h.env,h.len,h.sep,h.bel.trans (hb.mono hs),h.grew⟩;rw [hb.block _ (h.mem.ag.lt e)];exact h.mem.ag _ _ e
theorem GG.framed (h:GG B I M st tmps w):GG B I (M++[none]) (zHk st tmps) tmps w:=by
 have hlast:(M++[none])[st.next]? =some none:=by rw [<- h.len];simp
 have hold: ∀ {id:Nat},id<st.next->(M++[none])[id]? =M[id]? :=fun hi=>by rw [yF];rw [h.len];exact hi
 refine ⟨⟨h.mem.ag,fun id ob hi=> ?_⟩,fun t=>(zK2 h.env t).more none,by simp [h.len,zHk],fun id ob p hi hp=> ?_,h.bel,h.grew⟩
 ·simp only [zHk,yB] at hi;split at hi
  ·rename_i e;subst e;cases hi;exact ⟨hlast,fun t=>(zK2 h.env t).more none⟩
  ·exact (h.mem.ob _ _ hi).keep none (fun _ _=>rfl) fun _ _ _=>rfl
 ·simp only [zHk,yB] at hi;split at hi
  ·rename_i e;subst e;rw [hlast] at hp;cases hp
  ·have hlt:=h.id_lt hi;rw [hold hlt] at hp;obtain ⟨s1,s2,s3⟩:=h.sep _ _ _ hi hp;refine ⟨s1,s2,fun id2 ob2 p2 hne2 hi2 hp2=> ?_⟩;simp only [zHk,yB] at hi2;split at hi2
   ·rename_i e;subst e;rw [hlast] at hp2;cases hp2
   ·rw [hold (h.id_lt hi2)] at hp2;exact s3 _ _ _ hne2 hi2 hp2
theorem GG.turnLock {l:Nat} {o:Obj} (h:GG (B.lock l o) I M st tmps w) (hd:zHI o=false) (hB:B.w.heap.size<=l) (hn:B.sg l=none) (o':Obj) :
 GG (B.lock l o') ((I.del l).add l o') M st tmps (w.putObj l o'):=by
 obtain ⟨h1,h2,h3,h4⟩:=h.unlock hd hB hn o';exact h1.lock hB h3 h2 h4
theorem GG.back {id:Nat} {X:Array Value} {l:Env} (h:GG B I M st tmps w) (hi:hget st.hp id=some (.fr X l)):GG B I M ⟨l,st.hp,st.next⟩ X w :=
 ⟨h.mem,(h.mem.ob _ _ hi).2,h.len,h.sep,h.bel,h.grew⟩
theorem zQ7 {id:Nat} {X:Array Value} {s:St} {K:St->Prop} (h:backTo id X s K): ∃ l,hget s.hp id=some (.fr X l)/\K ⟨l,s.hp,s.next⟩:=by
 unfold backTo at h;split at h
 ·rename_i X' l e;obtain ⟨rfl,h⟩:=h;rw [St.forceAll_eq] at h;exact ⟨l,e,h⟩
 ·exact h.elim
theorem GG.knowMore (h:GG B I M st tmps w) (hx: ∀ b o,I b=some o->τ b=some o) (hag:Ag τ w) (hp: ∀ id ob p,hget st.hp id=some ob->M[id]? =some (some p)->τ p.b=none) (ds:List Deferred) :
 GG {w:=B.w,sg:=τ,dfs:=ds} τ M st tmps w:=by
 have hle:I.le τ:=fun b o e=>⟨o,hx b o e,.refl⟩;exact ⟨⟨hag,fun id ob hi=>(h.mem.ob _ _ hi).sig hle hx⟩,fun t=>(h.env t).mono hle,h.len,fun id ob p hi hq=>⟨hp _ _ _ hi hq,(h.sep _ _ _ hi hq).2⟩,h.bel,⟨Sig.le.refl _,fun _ _=>rfl⟩⟩
theorem Base.relock (B:Base) {D:Nat} {o:Obj} (h:B.sg D=some o):B=({B with sg:=B.sg.del D} :Base).lock D o:=by
 obtain ⟨bw,bs,bd⟩:=B;show (⟨bw,bs,bd⟩:Base)=⟨bw,(bs.del D).add D o,bd⟩
 congr 1
 funext b
 unfold Sig.add Sig.del;split
 ·rename_i e;subst e;exact h
 ·rfl
structure Rnd (B:Base) (D l:Nat) (rdy:Obj) (N:Nat) (st:St) (tmps:Array Value) (σp:Sig) (w:World) (B1:Base):Prop where
 ww:B1.w=B.w
 dfs:B1.dfs=[]
 grew:zQk B B1.sg
 le:σp.le B1.sg
 mark:B1.sg D=some (.deferred (some []))
 free:B1.sg l=none
 ga:GA (B1.lock l rdy) N st {tmps:=tmps,defers:=[]} w
theorem Rnd.grown {B1:Base} {D l:Nat} {rdy:Obj} {σp:Sig} (h:Rnd B D l rdy N st tmps σp w B1) (hb:Below w.heap.size w w'):Rnd B D l rdy N st tmps σp w' B1 :=
 ⟨h.ww,h.dfs,h.grew,h.le,h.mark,h.free,let ⟨σ',β',hg'⟩:=h.ga.gg;⟨h.ga.defers,h.ga.size,σ',β',hg'.grown hb⟩⟩
theorem Rnd.ag {B1:Base} {D l:Nat} {rdy:Obj} {σp:Sig} (h:Rnd B D l rdy N st tmps σp w B1):Ag σp w:=fun b u e=>by
 obtain ⟨σ',β',hg'⟩:=h.ga.gg;obtain ⟨u1,e1,k1⟩:=h.le b u e;have hne:b≠l:=fun e'=>by rw [e',h.free] at e1;cases e1
 obtain ⟨u2,e2,k2⟩:=hg'.grew.1 b u1 (by show (B1.sg.add _ _) b=_;unfold Sig.add;rw [if_neg hne];exact e1);obtain ⟨u3,e3,k3⟩:=hg'.mem.ag _ _ e2;exact ⟨u3,e3,(k1.trans k2).trans k3⟩
theorem Rnd.learn {B1:Base} {D l:Nat} {rdy:Obj} {σp σ1:Sig} (h:Rnd B D l rdy N st tmps σp w B1) (hd:zHI rdy=false) (hBl:B.w.heap.size<=l) (hDl:D≠l) (hb:Below w.heap.size w w') (he: ∀ b,b<w.heap.size->σ1 b=σp b) (hag:Ag σ1 w') :
 ∃ B2,Rnd B D l rdy N st tmps σ1 w' B2:=by
 obtain ⟨σr,βr,hgr⟩:=h.ga.gg;obtain ⟨hl1,hl2,_⟩:=hgr.locked hd;have hll:l<w.heap.size:=(zR.1 hl2).1;have hBw:B.w.heap.size<=w.heap.size:=by have:=hgr.bel.size;rw [show (B1.lock l rdy).w=B.w from h.ww] at this;exact this
 obtain ⟨τ,hτ⟩: ∃ τ:Sig,τ=fun b=>if b<w.heap.size then σr b else σ1 b:=⟨_,rfl⟩;have ho: ∀ b,b<w.heap.size->τ b=σr b:=fun b hb=>by rw [hτ];show (if _ then _ else _)=_;rw [if_pos hb]
 have hn: ∀ b,¬ b<w.heap.size->τ b=σ1 b:=fun b hb=>by rw [hτ];show (if _ then _ else _)=_;rw [if_neg hb]
 have hx: ∀ b o,σr b=some o->τ b=some o:=fun b o e=>by rw [ho b (hgr.mem.ag.lt e)];exact e
 have hg2:=(hgr.grown hb).knowMore (τ:=τ) hx (fun b o e=>by
  by_cases hlt:b<w.heap.size
  ·rw [ho b hlt] at e;exact (hgr.grown hb).mem.ag _ _ e
  ·rw [hn b hlt] at e;exact hag _ _ e) (fun id ob p hi hp=>by rw [ho _ ((hgr.mem.ob _ _ hi).lt hp)];exact (hgr.sep _ _ _ hi hp).1) []
 have hτl:τ l=some rdy:=hx _ _ hl1;rw [Base.relock {w:=(B1.lock l rdy).w,sg:=τ,dfs:=[]} hτl] at hg2;have zDb: ∀ b,b≠l->(τ.del l) b=τ b:=fun b hb=>by unfold Sig.del;rw [if_neg hb]
 have hB1: ∀ b o,B1.sg b=some o->∃ o',τ b=some o'/\Ole o o':=fun b o e=>by
  have hne:b≠l:=fun e'=>by rw [e',h.free] at e;cases e
  obtain ⟨u2,e2,k2⟩:=hgr.grew.1 b o (by show (B1.sg.add _ _) b=_;unfold Sig.add;rw [if_neg hne];exact e);exact ⟨u2,hx _ _ e2,k2⟩
 have hne1: ∀ b o,B1.sg b=some o->b≠l:=fun b o e e'=>by rw [e',h.free] at e;cases e
 refine ⟨{w:=(B1.lock l rdy).w,sg:=τ.del l,dfs:=[]},h.ww,rfl,⟨fun b o e=> ?_,fun b hb'=> ?_⟩,fun b o e=> ?_,?_,by show (τ.del l) l=none;unfold Sig.del;rw [if_pos rfl],⟨rfl,h.ga.size,τ,βr,hg2⟩⟩
 ·obtain ⟨o1,e1,k1⟩:=h.grew.1 b o e;obtain ⟨o2,e2,k2⟩:=hB1 b o1 e1;exact ⟨o2,by show (τ.del l) b=_;rw [zDb b (hne1 b o1 e1)];exact e2,k1.trans k2⟩
 ·show (τ.del l) b=_;have hlt:b<l:=by omega
  rw [zDb b (by omega),ho b (by omega)];refine ((hgr.grew.2 b (by rw [show (B1.lock l rdy).w=B.w from h.ww];exact hb')).trans ?_).trans (h.grew.2 b hb');show (B1.sg.add _ _) b=_;unfold Sig.add;rw [if_neg (by omega)]
 ·by_cases hlt:b<w.heap.size
  ·rw [he b hlt] at e;obtain ⟨o1,e1,k1⟩:=h.le b o e;obtain ⟨o2,e2,k2⟩:=hB1 b o1 e1;exact ⟨o2,by show (τ.del l) b=_;rw [zDb b (hne1 b o1 e1)];exact e2,k1.trans k2⟩
  ·exact ⟨o,by show (τ.del l) b=_;rw [zDb b (by omega),hn b hlt];exact e,.refl⟩
 ·obtain ⟨o2,e2,k2⟩:=hB1 _ _ h.mark;have:=k2.nodata rfl;subst this;show (τ.del l) D=_;rw [zDb D hDl];exact e2
theorem zM7: ∀ (l:List (Tmp×Value)) (tmps:Array Value),(z0M tmps l).size=tmps.size
 | [],_=>rfl
 | (t,a)::r,tmps=>(zM7 r _).trans (by simp)
theorem GG.putZ: ∀ {ps:List Tmp} {avs:List AV} {vs:List Value} {st:St} {tmps:Array Value},(∀ p∈ps,p<tmps.size)->jL I M avs vs->GG B I M st tmps w->GG B I M (putZ st ps avs) (z0M tmps (ps.zip vs)) w
 | [],_,_,_,_,_,_,h=>by simpa [Vm.putZ,z0M] using h
 | p::ps,[],[],_,_,_,_,h=>by simpa [Vm.putZ,z0M] using h
 | p::ps,av::avs,v::vs,st,tmps,hp,hv,h=>by
   have h1:=h.put (d:=some p) (a:=av) (v:=v) (fun t e=>by cases e;exact hp p (zQ ..)) hv.1;exact GG.putZ (ps:=ps) (avs:=avs) (vs:=vs) (fun q hq=>by simpa [zHM] using hp q (zM _ hq)) hv.2 h1
 | p::ps,[],_::_,_,_,_,h,_=>h.elim
 | p::ps,_::_,[],_,_,_,h,_=>h.elim
theorem zWl (R:zAS P T) {g:Operand} {ps:Array Tmp} {assign body:Code} {Q:Exit->Act->World->Prop} (ha:codeOk N assign=true) (hb:codeOk N body=true) (hp: ∀ p∈ps.toList,p<N) (hgo:zED g=true)
 (h:GA B N st a w) {f:FuncId} {qs:List PtV} {L:List Int} (hg:jW st.env g= .s (.clo f qs)) (hs:zZq P f qs L) (hnp:ps.size=z2s (zOI qs)+1) {S:Array Value->Nat->St} (hr:zR0 T ps.toList (zOI qs) assign body st L S)
 (hQ: ∀ (B1:Base) (D:Nat) (a':Act) (w':World),B1.w=B.w->zQk B B1.sg->B1.dfs= {target:= .collected D,args:= #[]} ::B.dfs->B1.sg D=some (.deferred (some []))->B.w.heap.size<=D->B.sg D=none->
   GA B1 N (S a.tmps L.length) a' w'->Q .normal a' w') :
 (Code.rangeFunc g ps assign body).wpIn (FR none) 0 P Q a w:=by
 obtain ⟨hle0,hround⟩:=hr a.tmps;obtain ⟨σs,βs,hgg⟩:=h.gg;have hval:=jY hgg hgo;rw [hg] at hval;obtain ⟨vs,hev,hcap⟩:=hval;have hseq:=hs.seq σs vs hcap;refine wpIn_rangeFunc ?_;intro fn hfn;obtain ⟨rec,hrec⟩: ∃ rec:LoopState->Option Code->Loop,rec=fun st pe=> {state:=st,pending:=pe,fn,tmps:=a.tmps,params:=ps,assign,body,defers:=w.heap.size} :=⟨_,rfl⟩;obtain ⟨W1,hW1⟩: ∃ W1,(w.alloc (.deferred (some []))).alloc (.loop (rec .ready none))=W1:=⟨_,rfl⟩
 have hL1:W1.heap[w.heap.size+1]? =some (.loop (rec .ready none)):=by
  rw [<- hW1];have:=World.alloc_heap_new (w.alloc (.deferred (some []))) (.loop (rec .ready none));rwa [World.size_alloc] at this
 have hK1:W1.heap[w.heap.size]? =some (.deferred (some [])):=by
  rw [<- hW1];exact (Go.RowKit.Below.heap_alloc _ _ _ (by simp)).trans (World.alloc_heap_new w _)
 have hbw:Below w.heap.size w W1:=by
  rw [<- hW1];exact ((Below.refl _ w).alloc (zI _) _).alloc (by simp) _
 have hBw:B.w.heap.size<=w.heap.size:=hgg.bel.size
 -- the rounds' base: what is known at the start, and the block for the deferred calls
 have hσD:σs w.heap.size=none:=by
  cases e:σs w.heap.size with
  | none=>rfl
  | some o=>exact absurd (hgg.mem.ag.lt e) (Nat.lt_irrefl _)
 have hσl:σs (w.heap.size+1)=none:=by
  cases e:σs (w.heap.size+1) with
  | none=>rfl
  | some o=>exact absurd (hgg.mem.ag.lt e) (by omega)
 obtain ⟨B1,hB1⟩: ∃ B1:Base,B1=({w:=B.w,sg:=σs,dfs:=[]} :Base).lock w.heap.size (.deferred (some [])):=⟨_,rfl⟩;have hB1w:B1.w=B.w:=by rw [hB1];rfl
 have hB1l:B1.sg (w.heap.size+1)=none:=by
  rw [hB1];show (Sig.add σs _ _) _=_;unfold Sig.add;rw [if_neg (by omega)];exact hσl
 have hB1D:B1.sg w.heap.size=some (.deferred (some [])):=by
  rw [hB1];show (Sig.add σs _ _) _=_;unfold Sig.add;rw [if_pos rfl]
 have hB1le:σs.le B1.sg:=fun b o e=>⟨o,by
  rw [hB1];show (Sig.add σs _ _) _=_
  unfold Sig.add;rw [if_neg (fun e'=>by rw [e',hσD] at e;cases e)];exact e,.refl⟩
 have hBl:B1.w.heap.size<=w.heap.size+1:=by rw [hB1w];omega
 have hB1g:zQk B B1.sg:=⟨hgg.grew.1.trans hB1le,fun b hb'=>by
  rw [hB1];show (Sig.add σs _ _) b=_;unfold Sig.add
  rw [if_neg (by omega)];exact hgg.grew.2 b hb'⟩
 have hstart:GA (B1.lock (w.heap.size+1) (.loop (rec .ready none))) N (S a.tmps 0) {tmps:=a.tmps,defers:=[]} W1:=by
  have g1:=((hgg.framed).base []).grown hbw;have hpl: ∀ id ob q,hget (zHk st a.tmps).hp id=some ob->(βs++[none])[id]? =some (some q)->q.b<w.heap.size:=fun id ob q hi hq=>(hgg.framed.mem.ob _ _ hi).lt hq;have g2:=g1.lock (l:=w.heap.size) (o:= .deferred (some [])) hBw hK1 hσD (fun id ob q hi hq e=>by have:=hpl _ _ _ hi hq;omega);have g3:=g2.lock (l:=w.heap.size+1) (o:= .loop (rec .ready none)) (Nat.le_succ_of_le hBw) hL1 (by unfold Sig.add;rw [if_neg (by omega)];exact hσl) (fun id ob q hi hq e=>by have:=hpl _ _ _ hi hq;omega)
  rw [<- hB1] at g3;have:GA (B1.lock (w.heap.size+1) (.loop (rec .ready none))) N (zHk st a.tmps) {tmps:=a.tmps,defers:=[]} W1:=⟨by rw [hB1];rfl,h.size,_,_,g3⟩;exact this.weaken hle0
 refine ⟨w.heap.size+1,[{target:= .collected w.heap.size,args:= #[]}],W1,{target:= .fn (.func f) vs.toArray,args:= #[.func (.yield (w.heap.size+1)) #[] #[]]},W1,f,
  #[.func (.yield (w.heap.size+1)) #[] #[]]++vs.toArray,W1,?_,?_,?_,?_,fun hh=>(by cases hh),?_⟩
 ·rw [<- hW1,hrec];exact run_enterLoop_outer _ _ _ _ _
 ·simp only [resolve,hev];simp [go_sem]
 ·intro f' hf';trivial
 ·simp [invoke,go_sem,hs.enter]
 ·have hrnd:Rnd B w.heap.size (w.heap.size+1) (.loop (rec .ready none)) N (S a.tmps 0) a.tmps σs W1 B1:=⟨hB1w,by rw [hB1];rfl,hB1g,hB1le,hB1D,hB1l,hstart⟩
  refine (hseq (w.heap.size+1) (fun pre σp W=> ∃ B1,Rnd B w.heap.size (w.heap.size+1) (.loop (rec .ready none)) N (S a.tmps pre.length) a.tmps σp W B1) W1 hrnd.ag
   (fun pre σp A A' ⟨B2,hj⟩ hb'=>⟨B2,hj.grown hb'⟩) ?_ ⟨B1,hrnd⟩).mono ?_
  ·-- one round
   rintro pre x vs' σp σ1 Ws W ⟨B0,hj0⟩ hbW heq hag1 hpre hsec;obtain ⟨B2,hr2⟩:=hj0.learn rfl (Nat.le_succ_of_le hBw) (by omega) hbW heq hag1;have hj:=hr2.ga;have hBl:B2.w.heap.size<=w.heap.size+1:=by rw [hr2.ww];omega
   have hB1l:=hr2.free;obtain ⟨σ1',β1,hg1⟩:=hj.gg;obtain ⟨hl1,hl2,hl3⟩:=hg1.locked rfl
   have hlen:pre.length<L.length:=by
    have:=hpre.length_le;simp at this;omega
   have hxk:L.getD pre.length 0=x:=by
    obtain ⟨t,rfl⟩:=hpre;simp [gdE]
   have hxL:x∈L:=hpre.subset (by simp);have hy:=run_yield (P:=P) (args:=(Value.int .i64 x::vs').toArray) hl2 (by rw [hrec];simp [hsec.len,hnp]);rw [hrec] at hy;refine ⟨fn,_,assign,body,hy,roundIn_of_wpIn hfn ?_⟩;have hrd:=hround _ hlen;rw [St.forceAll_eq,hxk] at hrd
   have hsl:σ1.le σ1':=fun b u e=>by
    obtain ⟨u1,e1,k1⟩:=hr2.le b u e;have hne:b≠w.heap.size+1:=fun e'=>by rw [e',hB1l] at e1;cases e1
    obtain ⟨u2,e2,k2⟩:=hg1.grew.1 b u1 (by show (B2.sg.add _ _) b=_;unfold Sig.add;rw [if_neg hne];exact e1);exact ⟨u2,e2,k1.trans k2⟩
   have hga1:GA (B2.lock (w.heap.size+1) (.loop (rec .ready none))) N (putZ (S a.tmps pre.length) ps.toList (.s (.int .i64 x)::zY4 (zOI qs) x)) {tmps:=z0M a.tmps (ps.toList.zip (Value.int .i64 x::vs')),defers:=[]} W :=
    ⟨hj.defers,(zM7 _ _).trans h.size,σ1',β1,hg1.putZ (fun p hq=>by show p<a.tmps.size;rw [h.size];exact hp p hq) ⟨⟨rfl,hs.ok x hxL⟩,(hsec.mono hsl).av⟩⟩
   have hfold:Array.foldl (fun (tmps:Array Value) (x:Tmp×Value)=>match x with|(t,a)=>tmps.setIfInBounds t a) a.tmps (ps.zip (Value.int .i64 x::vs').toArray)=z0M a.tmps (ps.toList.zip (Value.int .i64 x::vs')):=by
    rw [<- Array.foldl_toList,Array.toList_zip];rfl
   refine zAj (B:=B2.lock (w.heap.size+1) (.loop (rec .ready none))) (r:=some (w.heap.size+1)) R assign ha (by dsimp only;rw [hfold];exact hga1) hrd fun e s1 a1 W2 hk2 hga2=> ?_;cases e with
   | normal =>
     obtain ⟨σ2,β2,hg2⟩:=hga2.gg;obtain ⟨_,hl2',_⟩:=hg2.locked rfl;have hbr:=run_beginRound (P:=P) hl2' (by rw [hrec]);refine ⟨_,hbr,?_⟩;have hg3:=hg2.turnLock rfl hBl hB1l (.loop {rec .ready none with state:= .busy});have hga3:GA (B2.lock (w.heap.size+1) (.loop {rec .ready none with state:= .busy})) N s1 a1 (W2.putObj (w.heap.size+1) (.loop {rec .ready none with state:= .busy})):=⟨hga2.defers,hga2.size,_,_,hg3⟩
     refine zAj (r:=some (w.heap.size+1)) R body hb hga3 hk2 fun e s4 a4 W4 hk4 hga4=> ?_;cases e with
     | normal =>
       obtain ⟨l',hfr,hle⟩:=zQ7 hk4;obtain ⟨σ4,β4,hg4⟩:=hga4.gg;obtain ⟨_,hl4,_⟩:=hg4.locked rfl;have hg5:=(hg4.back hfr).turnLock rfl hBl hB1l (.loop (rec .ready none));have hga5:GA (B2.lock (w.heap.size+1) (.loop (rec .ready none))) N ⟨l',s4.hp,s4.next⟩ {tmps:=a.tmps,defers:=[]} (W4.putObj (w.heap.size+1) (.loop (rec .ready none))):=⟨hj.defers,h.size,_,_,hg5⟩;have her:=run_endRound (P:=P) none hl4;have hga6:=hga5.weaken hle
       have hr6:Rnd B w.heap.size (w.heap.size+1) (.loop (rec .ready none)) N (S a.tmps (pre.length+1)) a.tmps σ1 (W4.putObj (w.heap.size+1) (.loop (rec .ready none))) B2:=⟨hr2.ww,hr2.dfs,hr2.grew,hr2.le,hr2.mark,hr2.free,hga6⟩;refine ⟨_,_,by rw [hrec] at her ⊢;exact her,rfl,?_,hr6.ag⟩;rw [z7];exact ⟨B2,hr6⟩
     | _=>exact hk4.elim
   | _=>exact hk2.elim
  ·-- behind the sequence
   rintro e W2 ⟨⟨v,rfl⟩,σ',B2,hj⟩;obtain ⟨σ2,β2,hg2⟩:=hj.ga.gg;obtain ⟨_,hl2,_⟩:=hg2.locked rfl;refine ⟨none,_,by have:=run_endLoop (P:=P) hl2 (by rw [hrec];simp);rw [hrec] at this;exact this,?_⟩;obtain ⟨hg3,_,_,_⟩:=hg2.unlock rfl (by rw [hj.ww];omega) hj.free (.loop {rec .ready none with state:= .exhausted});refine hQ {B2 with dfs:= {target:= .collected w.heap.size,args:= #[]} ::B.dfs} w.heap.size _ _ hj.ww hj.grew rfl hj.mark hBw ?_ ?_
   ·cases e:B.sg w.heap.size with
    | none=>rfl
    | some o=>obtain ⟨o1,e1,_⟩:=hgg.grew.1 _ _ e;rw [hσD] at e1;cases e1
   ·have hfin:=hg3.rebase (B':= {B2 with dfs:= {target:= .collected w.heap.size,args:= #[]} ::B.dfs}) rfl rfl;rw [hrec] at hfin;exact ⟨by show _::a.defers=_;rw [h.defers],h.size,_,_,hfin⟩
end
end Go.Vm
namespace Go.Vm
open Go.RowKit
open Go.ChangeMaps (setBlock)
structure RM where
 front:List Oper
 it:Tmp
 ty:TypeId
 x:Operand
 full:Array Oper
 bl:Nat
 tn:Tmp
 tk:Tmp
 c:Nat
 te:Tmp
 fullC:Array Oper
 backC:List Oper
 rest:Code
def zFy:List Oper->Option (List Oper×Oper)
 | []=>none
 | [o]=>some ([],o)
 | o::r=>match zFy r with
   | some (l,q)=>some (o::l,q)
   | none=>none
def zOD:Oper->Option (Tmp×TypeId×Operand)
 | ⟨some it,.range ty x,_,_,_,none⟩=>some (it,ty,x)
 | _=>none
def zR5:Oper->Option (Tmp×Tmp)
 | ⟨some tn,.next (.tmp it) false,_,_,_,none⟩=>some (tn,it)
 | _=>none
def zSr:Oper->Option (Tmp×Tmp)
 | ⟨some tk,.extract (.tmp tn) 0,_,_,_,none⟩=>some (tk,tn)
 | _=>none
def zOG:Oper->Option (Tmp×Tmp)
 | ⟨some te,.entry (.tmp it),_,_,_,none⟩=>some (te,it)
 | _=>none
def zX4 (it it1 it2 tn tn2 t tk te bl bl':Nat):Bool :=
 Nat.beq it1 it&&(Nat.beq it2 it&&(Nat.beq tn2 tn&&(Nat.beq t tk&&(Nat.beq bl' bl&&(!Nat.beq tn it&&(!Nat.beq tk it&&(!Nat.beq te it&& !Nat.beq tk tn)))))))
def z1W (bl:Nat) (opsB:List Oper) (t bl' c:Nat) (fullC:Array Oper) (rest:Code) (a:Code):Option RM :=
 match opsB,fullC.toList,a with
 | [o1,o2],eo::backC,.region _ full false=>match zR5 o1,zSr o2,zOG eo,zFy full.toList with
   | some (tn,it1),some (tk,tn2),some (te,it2),some (front,ro)=>match zOD ro with
     | some (it,ty,x)=>match zX4 it it1 it2 tn tn2 t tk te bl bl' with
       | true=>some ⟨front,it,ty,x,full,bl,tn,tk,c,te,fullC,backC,rest⟩
       | false=>none
     | none=>none
   | _,_,_,_=>none
 | _,_,_=>none
def zZE (a b:Code):Option RM :=
 match b with
 | .block bl (.loop (.seq (.region _ opsB false) (.seq (.cond (.tmp t) .skip (.exit bl')) (.block c (.seq (.region _ fullC false) rest)))))=>z1W bl opsB.toList t bl' c fullC rest a
 | _=>none
structure z3Y (a b:Code) (r:RM):Prop where
 ex: ∃ (ro o1 o2 eo:Oper) (idA idB idC:Nat) (opsB:Array Oper),a= .region idA r.full false/\r.full.toList=r.front++[ro]/\(ro.dst=some r.it/\ro.op= .range r.ty r.x/\ro.guard=none)/\
  b= .block r.bl (.loop (.seq (.region idB opsB false) (.seq (.cond (.tmp r.tk) .skip (.exit r.bl)) (.block r.c (.seq (.region idC r.fullC false) r.rest)))))/\opsB.toList=[o1,o2]/\
  (o1.dst=some r.tn/\o1.op= .next (.tmp r.it) false/\o1.guard=none)/\(o2.dst=some r.tk/\o2.op= .extract (.tmp r.tn) 0/\o2.guard=none)/\
  r.fullC.toList=eo::r.backC/\(eo.dst=some r.te/\eo.op= .entry (.tmp r.it)/\eo.guard=none)
 n1:r.tn≠r.it
 n2:r.tk≠r.it
 n3:r.te≠r.it
 n4:r.tk≠r.tn
theorem zGt: ∀ {l f:List Oper} {o:Oper},zFy l=some (f,o)->l=f++[o]
 | [],_,_,h=>by cases h
 | [q],_,_,h=>by cases h;rfl
 | q ::q2::r,f,o,h=>by
   simp only [zFy] at h;split at h
   ·rename_i l q' e;cases h;rw [zGt e];rfl
   ·cases h
theorem zRA {o:Oper} {it:Tmp} {ty:TypeId} {x:Operand} (h:zOD o=some (it,ty,x)):o.dst=some it/\o.op= .range ty x/\o.guard=none:=by
 unfold zOD at h;split at h<;>cases h;exact ⟨rfl,rfl,rfl⟩
theorem zTX {o:Oper} {tn it:Tmp} (h:zR5 o=some (tn,it)):o.dst=some tn/\o.op= .next (.tmp it) false/\o.guard=none:=by
 unfold zR5 at h;split at h<;>cases h;exact ⟨rfl,rfl,rfl⟩
theorem zR3 {o:Oper} {tk tn:Tmp} (h:zSr o=some (tk,tn)):o.dst=some tk/\o.op= .extract (.tmp tn) 0/\o.guard=none:=by
 unfold zSr at h;split at h<;>cases h;exact ⟨rfl,rfl,rfl⟩
theorem zQs {o:Oper} {te it:Tmp} (h:zOG o=some (te,it)):o.dst=some te/\o.op= .entry (.tmp it)/\o.guard=none:=by
 unfold zOG at h;split at h<;>cases h;exact ⟨rfl,rfl,rfl⟩
theorem zYR {a b:Code} {r:RM} (h:zZE a b=some r):z3Y a b r:=by
 unfold zZE at h;split at h
 case h_2=>cases h
 rename_i bl idB opsB t bl' c idC fullC rest;unfold z1W at h;split at h
 case h_2=>cases h
 rename_i o1 o2 eo backC idA full hoB hfC;split at h
 case h_2=>cases h
 rename_i tn it1 tk tn2 te it2 front ro e1 e2 e3 e4;split at h
 case h_2=>cases h
 rename_i it ty x e5;split at h
 case h_2=>cases h
 rename_i hc;cases h;unfold zX4 at hc;simp only [zA,y8,Nat.beq_eq] at hc;obtain ⟨rfl,rfl,rfl,rfl,rfl,h1,h2,h3,h4⟩:=hc;have nb: ∀ {p q:Nat},Nat.beq p q=false->p≠q:=fun h e=>by subst e;rw [qF] at h;cases h
 exact ⟨⟨ro,o1,o2,eo,idA,idB,idC,opsB,rfl,zGt e4,zRA e5,rfl,hoB,zTX e1,zR3 e2,hfC,zQs e3⟩,nb h1,nb h2,nb h3,nb h4⟩
abbrev IBM:=List ((ETy.int .i64).T×ETy.bool.T)
def itV (r:Nat):AV:= .s (.val (.pointer (some ⟨r,0,none⟩)))
def zUV (R:RM) (SP:Spec IBM) (st:St) (pre:IBM) (K:Exit->St->Prop):Exit->St->Prop
 | .normal,s=>SP.inv pre/\zOZ s (SP.head st pre)
 | .exit i,s=>match Nat.beq i R.c with
   | true=>SP.inv pre/\zOZ s (SP.head st pre)
   | false=>match Nat.beq i R.bl with
     | true=>K .normal s
     | false=>K (.exit i) s
 | e,s=>K e s
structure z38 (it:Nat) (p:Prop):Prop where
 intro::(out:p)
def zPf (T:Tab) (R:RM) (m:IBM) (st:St) (r:Nat) (K:Exit->St->Prop):Prop :=
 (st.put (some R.it) (itV r)).forceAll fun st=>z38 R.it (∃ SP:Spec IBM,(SP.inv []/\zOZ st (SP.head st []))/\
   (∀ pre e,(SP.inv pre/\pre.Nodup/\(∀ p∈pre,p∈m)/\e∈m/\e∉pre)->qQ (SP.head st pre).env R.it=itV r/\
     ((((SP.head st pre).put (some R.tn) (.s .junk)).put (some R.tk) (.s (.bool true))).put (some R.te) (.tup [.s (.int .i64 e.1),.s (.bool e.2)])).forceAll fun h =>
       zBj T false R.fullC R.backC h fun s=>zBD T R.rest s (zUV R SP st (pre++[e]) K))/\
   (∀ pre,(SP.inv pre/\pre.Nodup/\∀ p,p∈pre↔p∈m)->qQ (SP.head st pre).env R.it=itV r/\
     (((SP.head st pre).put (some R.tn) (.s .junk)).put (some R.tk) (.s (.bool false))).forceAll (K .normal)))
def z3V (T:Tab) (R:RM) (st:St) (K:Exit->St->Prop):Prop :=
 zBj T false R.full R.front st fun st=>match T.desc R.ty,jW st.env R.x with
  | .map _ _,.s (.mp (.int .i64) .bool m)=> ∀ r:Nat,zPf T R m st r K
  | _,_=>False
section
variable {P:Program} {T:Tab} {B:Base} {w w':World} {I τ:Sig} {M:yN} {st:St} {tmps:Array Value} {N:Nat} {a:Act}
theorem zOE {l:Nat} {o:Obj} (h:w.heap[l]? =some o):w.putObj l o=w:=by
 unfold World.putObj
 have:w.heap.setIfInBounds l o=w.heap:=by
  apply Array.ext_getElem?;intro i;rw [qR];split
  ·rename_i e;subst e;obtain ⟨hl,e⟩:=zR.1 h;rw [if_pos hl];exact h.symm
  ·rfl
 rw [this]
theorem GG.drewW (h:GG B I M st tmps w):GG B I M st tmps w.drew:=h.grown (Below.drew (Below.refl _ _))
structure zGI (l b:Nat) (m:IBM) (es:Array MapEntry) (clock:Nat) (seen:Array Nat) (pre:IBM):Prop where
 nd:pre.Nodup
 sub: ∀ p∈pre,p∈m
 iff: ∀ (i:Nat) (x:(ETy.int .i64).T×ETy.bool.T) (en:MapEntry),m[i]? =some x->es[i]? =some en->(seen.contains en.born=true↔x∈pre)
theorem zGI.step {l b:Nat} {m:IBM} {es:Array MapEntry} {clock:Nat} {seen:Array Nat} {pre:IBM} (h:zGI l b m es clock seen pre) (hn:(m.map (·.1)).Nodup) (hs:es.size=m.length) (hst:MapKept.Stamped es clock) {en:MapEntry} (he:en∈(leftOf es seen).toList) :
 ∃ (i:Nat) (x:(ETy.int .i64).T×ETy.bool.T),m[i]? =some x/\es[i]? =some en/\x∈m/\x∉pre/\zGI l b m es clock (seen.push en.born) (pre++[x]):=by
 obtain ⟨h1,h2⟩:=mem_left he;obtain ⟨i,hi,e⟩:=yG.1 h1;have hi':i<es.size:=by simpa using hi
 have ei:es[i]? =some en:=by rw [<- zJ,gE hi,e]
 have him:i<m.length:=by omega
 have em:m[i]? =some m[i]:=gE him;have hx:m[i]∉pre:=fun k=>by rw [(h.iff i _ _ em ei).2 k] at h2;cases h2
 refine ⟨i,m[i],em,ei,y6 him,hx,?_,?_,?_⟩
 ·rw [List.nodup_append];exact ⟨h.nd,by simp,fun p hp q hq e=>by rw [zD] at hq;subst hq;subst e;exact hx hp⟩
 ·intro p hp;rcases zY.1 hp with k|k
  ·exact h.sub p k
  ·rw [zD.1 k];exact y6 him
 ·intro j y en' ej ej';rw [contains_push,yO,h.iff j y en' ej ej',zY,zD,beq_iff_eq];refine or_congr Iff.rfl ⟨fun k=> ?_,fun k=> ?_⟩
  ·have:=born_inj hst.2.1 (yP (by rw [zJ];exact ej')) h1 k;subst this;have hj:j<es.toList.length:=(zG.1 (show es.toList[j]? =some en' by rw [zJ];exact ej')).1;have nd:es.toList.Nodup:=(List.Pairwise.of_map (S:=(·≠·)) (·.born) (fun _ _ h e=>h (by rw [e])) hst.2.1)
   have hij:j=i:=(List.getElem_inj nd).1 (by
    have a1:=(zG.1 (show es.toList[j]? =some en' by rw [zJ];exact ej')).2
    rw [a1,e])
   subst hij;rw [em] at ej;cases ej;rfl
  ·subst k;have nd:m.Nodup:=List.Pairwise.of_map (S:=(·≠·)) (·.1) (fun _ _ h e=>h (by rw [e])) hn;obtain ⟨hj,e2⟩:=zG.1 ej;have hij:j=i:=(List.getElem_inj nd).1 e2;subst hij;rw [ei] at ej';cases ej';rfl
theorem zGI.all {l b:Nat} {m:IBM} {es:Array MapEntry} {clock:Nat} {seen:Array Nat} {pre:IBM} (h:zGI l b m es clock seen pre) (hs:es.size=m.length) (h0:(leftOf es seen).size=0): ∀ p,p∈pre↔p∈m:=fun p=>by
 refine ⟨h.sub p,fun hp=> ?_⟩;obtain ⟨i,hi,rfl⟩:=yG.1 hp;have hi':i<es.size:=by omega
 refine (h.iff i _ _ (gE hi) (Array.getElem?_eq_getElem hi')).1 ?_;have he:leftOf es seen= #[]:=Array.eq_empty_of_size_eq_zero h0;unfold leftOf at he;rw [Array.filter_eq_empty_iff] at he;have:=he es[i] (Array.getElem_mem hi');simpa using this
theorem zTh {o1 o2:Oper} {it tn tk:Tmp} {l:Nat} {opsB:Array Oper} {vs:List Value} {k:Bool} {Q:Exit->Act->World->Prop} (h1:o1.dst=some tn/\o1.op= .next (.tmp it) false/\o1.guard=none) (h2:o2.dst=some tk/\o2.op= .extract (.tmp tn) 0/\o2.guard=none)
 (hit:a.eval (.tmp it)= .pointer (some ⟨l,0,none⟩)) (htn:tn<a.tmps.size) (hrun: ∀ ty,(Instr.next (.pointer (some ⟨l,0,none⟩)) false ty).run P w= .ok (.tuple (Value.bool k::vs).toArray) w')
 (hQ:Q .normal ((a.put (some tn) (.tuple (Value.bool k::vs).toArray)).put (some tk) (.bool k)) w'):wpListIn (FR none) 0 P opsB Q [o1,o2] a w:=by
 obtain ⟨a1,a2,a3⟩:=h1;obtain ⟨b1,b2,b3⟩:=h2;refine zAW a3 (zAo (v:= .tuple (Value.bool k::vs).toArray) (w':=w') (by rw [a2];intro c e;cases e) ?_ ?_)
 ·simp only [execOp,a2,hit];rw [zN,hrun];rfl
 ·rw [a1];refine zAW b3 (zAo (v:= .bool k) (w':=w') (by rw [b2];intro c e;cases e) ?_ ?_)
  ·have:(a.put (some tn) (.tuple (Value.bool k::vs).toArray)).eval (.tmp tn)= .tuple (Value.bool k::vs).toArray:=by
    simp [Act.eval,Act.put,htn]
   simp [execOp,b2,this,Instr.extract]
  ·rw [b1];exact hQ
theorem zZS (R:zAS P T) {ca cb:Code} {r:RM} (hr:zZE ca cb=some r) (hA:codeOk N ca=true) (hB:codeOk N cb=true) (h:GA B N st a w) {K:Exit->St->Prop} (hk:z3V T r st K) {Q:Exit->Act->World->Prop}
 (hQ: ∀ e B1 st' a' w',B1.w=B.w->zQk B B1.sg->B1.dfs=B.dfs->K e st'->GA B1 N st' a' w'->Q e a' w'):(Code.seq ca cb).wpIn (FR none) 0 P Q a w:=by
 obtain ⟨⟨ro,o1,o2,eo,idA,idB,idC,opsB,rfl,hfull,⟨r1,r2,r3⟩,rfl,hopsB,hn1,hn2,hfC,⟨q1,q2,q3⟩⟩,d1,d2,d3,d4⟩:=zYR hr;simp only [codeOk,zA,zO] at hA hB;have hAll:=hA.1;obtain ⟨hBop,⟨hcond,_⟩,hCop,hrest⟩:(∀ o∈opsB.toList,y4 N o=true)/\(True/\True)/\(∀ o∈r.fullC.toList,y4 N o=true)/\codeOk N r.rest=true:=⟨hB.1.1,⟨trivial,trivial⟩,hB.2.2.1.1,hB.2.2.2⟩;have hro:y4 N ro=true:=hAll ro (by rw [hfull];simp);have h1ok:y4 N o1=true:=hBop o1 (by rw [hopsB];simp)
 have h2ok:y4 N o2=true:=hBop o2 (by rw [hopsB];simp);have heok:y4 N eo=true:=hCop eo (by rw [hfC];simp);have hback: ∀ o∈r.backC,y4 N o=true:=fun o ho=>hCop o (by rw [hfC];exact zM _ ho)
 have bndOf: ∀ {o:Oper} {t:Tmp},y4 N o=true->o.dst=some t->t<N:=fun {o t} ho hd=>by
  simp only [y4,hd,zA] at ho;have:t+1<=N:=by simpa [Nat.blt] using ho.1
  exact Nat.lt_of_succ_le this
 have htn:r.tn<N:=bndOf h1ok hn1.1;have htk:r.tk<N:=bndOf h2ok hn2.1;have hte:r.te<N:=bndOf heok q1;have hit:r.it<N:=bndOf hro r1;refine wpIn_seq (wpIn_region_list ?_);rw [hfull];refine zCv R [ro] r.front (fun o ho=>hAll o (by rw [hfull];exact zAF _ ho)) h hk fun st1 a1 w1 hk1 h1=> ?_;split at hk1
 case h_2=>exact hk1.elim
 rename_i kt u m hdesc hx;obtain ⟨I,M,hg⟩:=h1.gg
 have hxv:qA I M (jW st1.env r.x) (a1.eval r.x):=jY hg (by
  simp only [y4,zA,zO] at hro
  exact hro.2 _ (by simp [r2,Op.operands]))
 rw [hx] at hxv;obtain ⟨ro0,hxe,hnd,hnil,hat⟩:=hxv;have hxe:a1.eval r.x= .map ro0:=(List.cons.inj hxe).1
 have hund:P.underlying r.ty=some (.map kt u):=by
  unfold Tab.desc at hdesc;split at hdesc
  ·rename_i ti e;rw [(R.ty _ _ e).und,hdesc]
  ·cases hdesc
 -- what lies in the iterator's block
 have main: ∀ (o:Obj),zHI o=false->(Instr.range r.ty (.map ro0)).run P w1= .ok (.pointer (some ⟨w1.heap.size,0,none⟩)) (w1.alloc o)->
  (∀ (st2:St) (a2:Act) (w2:World) (B1:Base),B1.w=B.w->zQk B B1.sg->B1.dfs=B.dfs->I.le B1.sg->B1.sg w1.heap.size=none->zPf T r m st1 w1.heap.size K->GA (B1.lock w1.heap.size o) N (st1.put (some r.it) (itV w1.heap.size)) a2 w2->(Code.block r.bl (.loop (.seq (.region idB opsB false) (.seq (.cond (.tmp r.tk) .skip (.exit r.bl)) (.block r.c (.seq (.region idC r.fullC false) r.rest)))))).wpIn (FR none) 0 P Q a2 w2)->
  wpListIn (FR none) 0 P r.full (Exit.then ((Code.block r.bl (.loop (.seq (.region idB opsB false) (.seq (.cond (.tmp r.tk) .skip (.exit r.bl)) (.block r.c (.seq (.region idC r.fullC false) r.rest)))))).wpIn (FR none) 0 P Q) Q) [ro] a1 w1:=by
  intro o hdo hrun hgo;refine zAW r3 (zAo (v:= .pointer (some ⟨w1.heap.size,0,none⟩)) (w':=w1.alloc o) (by rw [r2];intro c e;cases e) ?_ ?_)
  ·simp only [execOp,r2,hxe];rw [zN,hrun];rfl
  ·rw [r1]
   have hσ:I w1.heap.size=none:=by
    cases e:I w1.heap.size with
    | none=>rfl
    | some o=>exact absurd (hg.mem.ag.lt e) (Nat.lt_irrefl _)
   have g1:GG {w:=B.w,sg:=I,dfs:=B.dfs} I M st1 a1.tmps (w1.alloc o):=(hg.base B.dfs).grown ((Below.refl _ _).alloc (zI _) o);have g2:=g1.put (d:=some r.it) (a:=itV w1.heap.size) (v:= .pointer (some ⟨w1.heap.size,0,none⟩)) (fun t e=>by cases e;rw [h1.size];exact hit) ⟨rfl,fun cs e=>by cases e⟩;have g3:=g2.lock (l:=w1.heap.size) (o:=o) hg.bel.size (heap_alloc_new w1 o) hσ (fun id ob q hi hq e=>by have:=(hg.mem.ob _ _ hi).lt hq;omega)
   exact hgo (st1.put (some r.it) (itV w1.heap.size)) _ _ {w:=B.w,sg:=I,dfs:=B.dfs} rfl hg.grew rfl (Sig.le.refl _) hσ (hk1 _) ⟨by rw [put_defers];exact h1.defers,by rw [j9,q9];exact h1.size,_,_,by rw [j9];exact g3⟩
 -- where the block is let go
 have letGo: ∀ {B1:Base} {o:Obj} {st':St} {a':Act} {w':World},B1.w=B.w->B1.sg w1.heap.size=none->zHI o=false->GA (B1.lock w1.heap.size o) N st' a' w'->GA B1 N st' a' w':=fun {B1 o st' a' w'} hw hn hdo h'=>by
  obtain ⟨σ',β',hg'⟩:=h'.gg;obtain ⟨_,hl,_⟩:=hg'.locked hdo;have:=(hg'.unlock hdo (by rw [hw];exact hg.bel.size) hn o).1;rw [zOE hl] at this;exact ⟨h'.defers,h'.size,_,_,this⟩
 have itEv: ∀ {B2:Base} {st':St} {a':Act} {w':World},GA B2 N st' a' w'->qQ st'.env r.it=itV w1.heap.size->a'.eval (.tmp r.it)= .pointer (some ⟨w1.heap.size,0,none⟩):=fun {B2 st' a' w'} h' e=>by
  obtain ⟨σ',β',hg'⟩:=h'.gg;have:=hg'.env r.it;rw [e] at this;exact this.1
 -- nothing is left
 have over: ∀ {B1:Base} {o:Obj} {SP:Spec IBM} {st2:St} {pre:IBM} {a':Act} {w':World} {Q2:Act->World->Prop},B1.w=B.w->zQk B B1.sg->B1.dfs=B.dfs->B1.sg w1.heap.size=none->zHI o=false->GA (B1.lock w1.heap.size o) N (SP.head st2 pre) a' w'->
  qQ (SP.head st2 pre).env r.it=itV w1.heap.size->K .normal (((SP.head st2 pre).put (some r.tn) (.s .junk)).put (some r.tk) (.s (.bool false)))->(∀ ty,(Instr.next (.pointer (some ⟨w1.heap.size,0,none⟩)) false ty).run P w'= .ok (.tuple #[.bool false]) w')->
  (Code.seq (.region idB opsB false) (.seq (.cond (.tmp r.tk) .skip (.exit r.bl)) (.block r.c (.seq (.region idC r.fullC false) r.rest)))).wpIn (FR none) 0 P (Exit.then Q2 (Exit.inBlock r.bl Q)) a' w':=by
  intro B1 o SP st2 pre a' w' Q2 hw hgr hdf hn hdo h' hi hK hrun
  have hga:GA (B1.lock w1.heap.size o) N (((SP.head st2 pre).put (some r.tn) (.s .junk)).put (some r.tk) (.s (.bool false))) ((a'.put (some r.tn) (.tuple #[.bool false])).put (some r.tk) (.bool false)) w':=by
   obtain ⟨σ',β',hg'⟩:=h'.gg;have p1:=hg'.put (d:=some r.tn) (a:= .s .junk) (v:= .tuple #[.bool false]) (fun t e=>by cases e;rw [h'.size];exact htn) trivial;have p2:=p1.put (d:=some r.tk) (a:= .s (.bool false)) (v:= .bool false) (fun t e=>by cases e;rw [q9,h'.size];exact htk) rfl;exact ⟨by rw [put_defers,put_defers];exact h'.defers,by rw [j9,q9,j9,q9];exact h'.size,σ',β',by rw [j9,j9];exact p2⟩
  refine wpIn_seq (wpIn_region_list ?_);rw [hopsB];refine zTh (vs:=[]) (k:=false) (w':=w') hn1 hn2 (itEv h' hi) (by rw [h'.size];exact htn) hrun ?_;refine wpIn_seq (wpIn_cond_false (by simp [Act.eval,Act.put,h'.size,htk]) (wpIn_exit ?_));show Exit.inBlock r.bl Q (.exit r.bl) _ _;simp only [Exit.inBlock,if_true];exact hQ _ B1 _ _ _ hw hgr hdf hK (letGo hw hn hdo hga)
 cases ro0 with
 | none =>
   refine main (.mapIter none 0 #[] 0) rfl (run_range_nilMap w1 r.ty kt u hund) fun st2 a2 w2 B1 hw hgr hdf hle hn hgo h2=> ?_;unfold zPf at hgo;rw [St.forceAll_eq] at hgo;obtain ⟨SP,⟨hi0,hle0⟩,_,hend⟩:=hgo.out;have hm:m=[]:=hnil rfl;subst hm;obtain ⟨e1,e2⟩:=hend [] ⟨hi0,qW,fun p=>Iff.rfl⟩;rw [St.forceAll_eq] at e2;refine wpIn_block (wpIn_loop_ghost (fun _ a' w'=>GA (B1.lock w1.heap.size (.mapIter none 0 #[] 0)) N (SP.head (st1.put (some r.it) (itV w1.heap.size)) []) a' w') 0 (h2.weaken hle0) ?_)
   intro k a' w' h';refine over hw hgr hdf hn rfl h' e1 e2 fun ty=> ?_;obtain ⟨σ',β',hg'⟩:=h'.gg;obtain ⟨_,hl,_⟩:=hg'.locked rfl;simp only [Instr.next,getObj,zN,Sem.run,hl,Result.andThen];rfl
 | some b =>
   obtain ⟨es,clock,hb,⟨hsz,hst⟩,hents⟩:=hat b rfl
   refine main (.mapIter (some b) clock #[] clock) rfl (run_range_map w1 r.ty kt u b es clock hund (by
    obtain ⟨o',e1,e2⟩:=hg.mem.ag _ _ hb
    rw [e1,e2.map])) fun st2 a2 w2 B1 hw hgr hdf hle hn hgo h2=> ?_
   unfold zPf at hgo;rw [St.forceAll_eq] at hgo;obtain ⟨SP,⟨hi0,hle0⟩,hround,hend⟩:=hgo.out;obtain ⟨st3,hst3⟩: ∃ st3,st3=st1.put (some r.it) (itV w1.heap.size):=⟨_,rfl⟩;rw [<- hst3] at hround hend hle0 h2
   have hbne:b≠w1.heap.size:=fun e=>by
    have:=hg.mem.ag.lt hb;omega
   -- the map lies as it lay
   have mapAt: ∀ {seen:Array Nat} {c0:Nat} {st':St} {a':Act} {w':World},GA (B1.lock w1.heap.size (.mapIter (some b) clock seen c0)) N st' a' w'->w'.heap[b]? =some (.map es clock)/\w'.heap[w1.heap.size]? =some (.mapIter (some b) clock seen c0):=fun {seen c0 st' a' w'} h'=>by
    obtain ⟨σ',β',hg'⟩:=h'.gg;obtain ⟨_,hl,_⟩:=hg'.locked rfl;refine ⟨?_,hl⟩;obtain ⟨o1,k1,k2⟩:=hle b _ hb;obtain ⟨o2,k3,k4⟩:=hg'.grew.1 b o1 (by show (B1.sg.add _ _) b=_;unfold Sig.add;rw [if_neg hbne];exact k1);obtain ⟨o3,k5,k6⟩:=hg'.mem.ag _ _ k3;rw [k5,((k2.trans k4).trans k6).map]
   refine wpIn_block (wpIn_loop_ghost (fun k a' w'=> ∃ (pre:IBM) (seen:Array Nat) (c0:Nat),k=(leftOf es seen).size/\SP.inv pre/\zGI w1.heap.size b m es clock seen pre/\clock<=c0/\GA (B1.lock w1.heap.size (.mapIter (some b) clock seen c0)) N (SP.head st3 pre) a' w') _
    ⟨[],#[],clock,rfl,hi0,⟨qW,fun p hp=>(by cases hp),fun i x en _ _=>(by simp)⟩,zI _,h2.weaken hle0⟩ ?_)
   rintro k a' w' ⟨pre,seen,c0,rfl,hinv,hia,hc0,h'⟩;obtain ⟨hmb,hml⟩:=mapAt h';have each:=fun ty=>run_next_at (P:=P) w' ty w1.heap.size b clock c0 seen es clock hml hmb hst.1 hc0
   by_cases h0:(leftOf es seen).size=0
   ·obtain ⟨e1,e2⟩:=hend pre ⟨hinv,hia.nd,hia.all hsz h0⟩;rw [St.forceAll_eq] at e2;refine over hw hgr hdf hn rfl h' e1 e2 fun ty=> ?_;rcases each ty with ⟨_,hrun⟩|⟨en,hen,_⟩
    ·exact hrun
    ·have:(leftOf es seen)= #[]:=Array.eq_empty_of_size_eq_zero h0;rw [this] at hen;cases hen
   ·rcases each 0 with ⟨hh,_⟩|⟨en,hen,w3,hw3,hrun⟩
    ·exact absurd hh h0
    have hrun: ∀ ty,(Instr.next (.pointer (some ⟨w1.heap.size,0,none⟩)) false ty).run P w'= .ok (.tuple #[.bool true,en.key,en.val]) (setBlock w3 w1.heap.size (.mapIter (some b) clock (seen.push en.born) clock)):=fun ty=>hrun;obtain ⟨i,x,hxm,hxe2,hxin,hxnot,hia2⟩:=hia.step hnd hsz hst hen;obtain ⟨en2,dk,dv,f1,f2,f3,f4,f5⟩:=hents i x hxm;rw [hxe2] at f1;cases f1;obtain ⟨rfl,fk⟩:=f2;have f4:dv=[.bool x.2]:=f4
    subst f4;have f3:en.key= .int .i64 x.1:=f3;have f5:en.val= .bool x.2:=f5;obtain ⟨e1,e2⟩:=hround pre x ⟨hinv,hia.nd,hia.sub,hxin,hxnot⟩;rw [St.forceAll_eq] at e2
    -- the state behind the step
    have hg3:GA (B1.lock w1.heap.size (.mapIter (some b) clock (seen.push en.born) clock)) N (((SP.head st3 pre).put (some r.tn) (.s .junk)).put (some r.tk) (.s (.bool true)))
     ((a'.put (some r.tn) (.tuple #[.bool true,en.key,en.val])).put (some r.tk) (.bool true)) (setBlock w3 w1.heap.size (.mapIter (some b) clock (seen.push en.born) clock)):=by
     obtain ⟨σ',β',hg'⟩:=h'.gg
     have p0:GG (B1.lock w1.heap.size (.mapIter (some b) clock seen c0)) σ' β' (SP.head st3 pre) a'.tmps w3:=by
      rcases hw3 with e|e
      ·rw [e];exact hg'
      ·rw [e];exact hg'.drewW
     have p1:=p0.turnLock rfl (by rw [hw];exact hg.bel.size) hn (.mapIter (some b) clock (seen.push en.born) clock);have p2:=p1.put (d:=some r.tn) (a:= .s .junk) (v:= .tuple #[.bool true,en.key,en.val]) (fun t e=>by cases e;rw [h'.size];exact htn) trivial;have p3:=p2.put (d:=some r.tk) (a:= .s (.bool true)) (v:= .bool true) (fun t e=>by cases e;rw [q9,h'.size];exact htk) rfl;exact ⟨by rw [put_defers,put_defers];exact h'.defers,by rw [j9,q9,j9,q9];exact h'.size,_,_,by rw [j9,j9];exact p3⟩
    refine wpIn_seq (wpIn_region_list ?_);rw [hopsB];refine zTh (vs:=[en.key,en.val]) (k:=true) hn1 hn2 (itEv h' e1) (by rw [h'.size];exact htn) hrun ?_;refine wpIn_seq (wpIn_cond_true (by simp [Act.eval,Act.put,h'.size,htk]) (wpIn_skip ?_));refine wpIn_block (wpIn_seq (wpIn_region_list ?_));rw [hfC];obtain ⟨hmb3,hml3⟩:=mapAt hg3
    have hitv:((a'.put (some r.tn) (.tuple #[.bool true,en.key,en.val])).put (some r.tk) (.bool true)).eval (.tmp r.it)= .pointer (some ⟨w1.heap.size,0,none⟩):=itEv hg3 (by
     show qQ ((r.tk,_)::(r.tn,_)::(SP.head st3 pre).env) r.it=_
     rw [j8,if_neg d2,j8,if_neg d1];exact e1)
    refine zAW q3 (zAo (v:= .tuple #[en.key,en.val]) (by rw [q2];intro c e;cases e) (by
     simp only [execOp,q2];rw [show ∀ a:Act,a.eval=a.eval from fun _=>rfl] at *
     rw [hitv,zN,run_entry_at _ w1.heap.size b clock seen es clock en hml3 hmb3 (mem_left hen).1 hst.2.1];rfl) ?_)
    rw [q1]
    have hg4:GA (B1.lock w1.heap.size (.mapIter (some b) clock (seen.push en.born) clock)) N ((((SP.head st3 pre).put (some r.tn) (.s .junk)).put (some r.tk) (.s (.bool true))).put (some r.te) (.tup [.s (.int .i64 x.1),.s (.bool x.2)]))
     (((a'.put (some r.tn) (.tuple #[.bool true,en.key,en.val])).put (some r.tk) (.bool true)).put (some r.te) (.tuple #[en.key,en.val])) (setBlock w3 w1.heap.size (.mapIter (some b) clock (seen.push en.born) clock)):=by
     obtain ⟨σ',β',hg'⟩:=hg3.gg;have p1:=hg'.put (d:=some r.te) (a:= .tup [.s (.int .i64 x.1),.s (.bool x.2)]) (v:= .tuple #[en.key,en.val]) (fun t e=>by cases e;rw [hg3.size];exact hte) ⟨[en.key,en.val],rfl,⟨f3,fk⟩,f5,trivial⟩;exact ⟨by rw [put_defers];exact hg3.defers,by rw [j9,q9];exact hg3.size,_,_,by rw [j9];exact p1⟩
    have again: ∀ (s':St) (a5:Act) (w5:World),SP.inv (pre++[x])/\zOZ s' (SP.head st3 (pre++[x]))->GA (B1.lock w1.heap.size (.mapIter (some b) clock (seen.push en.born) clock)) N s' a5 w5->
     ∃ n',n'<(leftOf es seen).size/\∃ (pre:IBM) (seen:Array Nat) (c0:Nat),n'=(leftOf es seen).size/\SP.inv pre/\zGI w1.heap.size b m es clock seen pre/\clock<=c0/\GA (B1.lock w1.heap.size (.mapIter (some b) clock seen c0)) N (SP.head st3 pre) a5 w5 :=
     fun s' a5 w5 hh h5=>⟨_,left_shrinks es seen en hen,pre++[x],seen.push en.born,clock,rfl,hh.1,hia2,zI _,h5.weaken hh.2⟩
    have:=zCv R (r:=none) (n:=0) (ops:=r.fullC) (Q:=Exit.then (r.rest.wpIn (FR none) 0 P (Exit.inBlock r.c (Exit.then (fun a' w'=> ∃ n',n'<(leftOf es seen).size/\∃ (pre:IBM) (seen:Array Nat) (c0:Nat),n'=(leftOf es seen).size/\SP.inv pre/\zGI w1.heap.size b m es clock seen pre/\clock<=c0/\GA (B1.lock w1.heap.size (.mapIter (some b) clock seen c0)) N (SP.head st3 pre) a' w') (Exit.inBlock r.bl Q)))) (Exit.inBlock r.c (Exit.then (fun a' w'=> ∃ n',n'<(leftOf es seen).size/\∃ (pre:IBM) (seen:Array Nat) (c0:Nat),n'=(leftOf es seen).size/\SP.inv pre/\zGI w1.heap.size b m es clock seen pre/\clock<=c0/\GA (B1.lock w1.heap.size (.mapIter (some b) clock seen c0)) N (SP.head st3 pre) a' w') (Exit.inBlock r.bl Q)))) [] r.backC hback hg4 e2 fun s5 a5 w5 hk5 h5=> ?_
    ·rw [yW] at this;exact this
    show r.rest.wpIn _ _ _ _ a5 w5;refine zAj R r.rest hrest h5 hk5 fun ex s6 a6 w6 hk6 h6=> ?_;cases ex with
    | normal=>exact again s6 a6 w6 hk6 h6
    | exit j =>
      simp only [zUV] at hk6;simp only [Exit.inBlock];split at hk6
      ·rename_i ej;rw [if_pos (zC ej)];exact again s6 a6 w6 hk6 h6
      ·rename_i ej;rw [if_neg (fun e'=>by subst e';rw [qF] at ej;cases ej)];show Exit.inBlock r.bl Q (.exit j) a6 w6;simp only [Exit.inBlock];split at hk6
       ·rename_i ej2;rw [if_pos (zC ej2)];exact hQ _ B1 _ _ _ hw hgr hdf hk6 (letGo hw hn rfl h6)
       ·rename_i ej2;rw [if_neg (fun e'=>by subst e';rw [qF] at ej2;cases ej2)];exact hQ _ B1 _ _ _ hw hgr hdf hk6 (letGo hw hn rfl h6)
    | goto l=>exact hQ _ B1 _ _ _ hw hgr hdf hk6 (letGo hw hn rfl h6)
    | ret=>exact hQ _ B1 _ _ _ hw hgr hdf hk6 (letGo hw hn rfl h6)
    | panic ch=>exact hQ _ B1 _ _ _ hw hgr hdf hk6 (letGo hw hn rfl h6)
    | outgrown=>exact hQ _ B1 _ _ _ hw hgr hdf hk6 (letGo hw hn rfl h6)
end
end Go.Vm
namespace Go.Vm
open Go.RowKit
abbrev zHD:=FuncId->List PtV->List Int->Prop
def zFw (P:Program) (SQ:zHD):Prop:= ∀ f ps L,SQ f ps L->zZq P f ps L
def St.rowNils (T:Tab) (st:St):List Nat->St
 | []=>st
 | i::r=>(st.rowNil T i).rowNils T r
def zEn (T:Tab) (K:St->Prop):List Nat->St->Prop
 | [],st=>st.forceAll K
 | i::r,st=>(st.rowNil T i).forceAll fun st=>zEn T K r st
theorem zFY {T:Tab} {K:St->Prop} : ∀ (ids:List Nat) (st:St),zEn T K ids st=K (st.rowNils T ids)
 | [],st=>by rw [zEn,St.forceAll_eq];rfl
 | i::r,st=>by rw [zEn,St.forceAll_eq,zFY r];rfl
def zD1:zAG->List Nat
 | []=>[]
 | (i,_)::r=>i::zD1 r
def zDP:Code->Bool
 | .seq a b=>match zZE a b with
   | some _=>true
   | none=>zDP a|| zDP b
 | .block _ c=>zDP c
 | .cond _ a b=>zDP a|| zDP b
 | .loop c=>zDP c
 | .rangeFunc _ _ _ _=>true
 | .scope c=>zDP c
 | _=>false
def zCa (T:Tab) (SQ:zHD):Code->St->(Exit->St->Prop)->Prop
 | .seq a b,st,K=>match zZE a b with
   | some r=>z3V T r st K
   | none=>zCa T SQ a st (fun e s=>match e with
     | .normal=>zCa T SQ b s K
     | e=>K e s)
 | .block id c,st,K=>zCa T SQ c st (fun e s=>match e with
   | .exit i=>match Nat.beq i id with|true=>K .normal s|false=>K (.exit i) s
   | e=>K e s)
 | .rangeFunc g ps assign body,st,K=>match jW st.env g with
   | .s (.clo f qs)=>match Nat.beq ps.size (z2s (zOI qs)+1) with
     | true=> ∃ L,SQ f qs L/\∃ SP:Spec Nat,zEn T (fun st=>zR0 T ps.toList (zOI qs) assign body st L (fun X k=>SP.head (zHk st X) k)/\∀ X,(SP.head (zHk st X) L.length).forceAll (K .normal)) (zD1 st.hp) st
     | false=>False
   | _=>False
 | .skip,st,K=>zBD T .skip st K
 | .label l,st,K=>zBD T (.label l) st K
 | .region i o d,st,K=>zBD T (.region i o d) st K
 | .cond c a b,st,K=>match zDP a|| zDP b with
   | false=>zBD T (.cond c a b) st K
   | true=>match jW st.env c with
     | .s (.bool t)=>BIf t (zCa T SQ a st K) (zCa T SQ b st K)
     | _=>False
 | .loop c,st,K=>match zDP c with
   | false=>zEn T (fun st=>zBD T (.loop c) st K) (zD1 st.hp) st
   | true=> ∃ (X:Type) (S:Spec X),(∃ x,S.inv x/\zOZ st (S.head st x))/\
     ∀ x,S.inv x->(S.head st x).forceAll fun h=>zCa T SQ c h (fun e s=>match e with
       | .normal=> ∃ y,S.inv y/\zOZ s (S.head st y)/\S.mu y<S.mu x
       | e=>K e s)
 | .exit i,st,K=>zBD T (.exit i) st K
 | .goto l,st,K=>zBD T (.goto l) st K
 | .ret,st,K=>zBD T .ret st K
 | .scope c,st,K=>zCa T SQ c st (fun e s=>match e with
   | .goto _=>False
   | e=>K e s)
 | _,_,_=>False
def zBA (N:Nat):Code->Bool
 | .seq a b=>match zZE a b with
   | some _=>codeOk N a&&codeOk N b
   | none=>zBA N a&&zBA N b
 | .block _ c=>zBA N c
 | .rangeFunc g ps assign body=>zED g&&(ps.toList.all (fun p=>Nat.blt p N)&&(codeOk N assign&&codeOk N body))
 | .cond c a b=>match zDP a|| zDP b with
   | false=>codeOk N (.cond c a b)
   | true=>zED c&&zBA N a&&zBA N b
 | .loop c=>match zDP c with
   | false=>codeOk N (.loop c)
   | true=>zBA N c
 | .scope c=>zBA N c
 | c=>codeOk N c
def mark (D:Nat):Deferred:= {target:= .collected D,args:= #[]}
structure Marks (B0 B:Base):Prop where
 w:B.w=B0.w
 grew:zQk B0 B.sg
 ds: ∃ Ds:List Nat,B.dfs=Ds.map mark/\Ds.Nodup/\∀ D∈Ds,B.sg D=some (.deferred (some []))/\B0.w.heap.size<=D
section
variable {P:Program} {T:Tab} {SQ:zHD} {B B0:Base} {w w':World} {I τ:Sig} {M:yN} {st:St} {tmps:Array Value} {N:Nat} {a:Act}
theorem Marks.more {B1:Base} (h:Marks B0 B) {D:Nat} (h1:B1.w=B.w) (h2:zQk B B1.sg) (h3:B1.dfs=mark D::B.dfs) (h4:B1.sg D=some (.deferred (some []))) (h5:B.w.heap.size<=D) (h6:B.sg D=none):Marks B0 B1:=by
 obtain ⟨Ds,e1,e2,e3⟩:=h.ds;refine ⟨h1.trans h.w,⟨h.grew.1.trans h2.1,fun b hb=>(h2.2 b (by rw [h.w];exact hb)).trans (h.grew.2 b hb)⟩,D::Ds,by rw [h3,e1];rfl,yQ.2 ⟨fun hm=> ?_,e2⟩,fun D' hD=> ?_⟩
 ·rw [(e3 D hm).1] at h6;cases h6
 ·rcases zP.1 hD with e|hD
  ·subst e;exact ⟨h4,by rw [<- h.w];exact h5⟩
  ·obtain ⟨k1,k2⟩:=e3 D' hD;obtain ⟨o',e4,e5⟩:=h2.1 _ _ k1;have:=e5.nodata rfl;subst this;exact ⟨e4,k2⟩
theorem Marks.go {B1:Base} (h:Marks B0 B) (h1:B1.w=B.w) (h2:zQk B B1.sg) (h3:B1.dfs=B.dfs):Marks B0 B1:=by
 obtain ⟨Ds,e1,e2,e3⟩:=h.ds;refine ⟨h1.trans h.w,⟨h.grew.1.trans h2.1,fun b hb=>(h2.2 b (by rw [h.w];exact hb)).trans (h.grew.2 b hb)⟩,Ds,by rw [h3,e1],e2,fun D hD=> ?_⟩;obtain ⟨k1,k2⟩:=e3 D hD;obtain ⟨o',e4,e5⟩:=h2.1 _ _ k1;have:=e5.nodata rfl;subst this;exact ⟨e4,k2⟩
theorem zHr: ∀ (ids:List Nat) {st:St},(st.rowNils T ids).env=st.env
 | [],_=>rfl
 | i::r,st=>(zHr r (st:=st.rowNil T i)).trans (zQq i)
theorem GG.rowNils: ∀ (ids:List Nat) {M:yN} {st:St},GG B I M st tmps w->∃ β',GG B I β' (st.rowNils T ids) tmps w
 | [],M,_,h=>⟨M,h⟩
 | i::r,_,_,h=>by
   obtain ⟨β',h'⟩:=h.rowNil (T:=T) i;exact GG.rowNils r h'
theorem zMq (R:zAS P T) (hSQ:zFw P SQ): ∀ (c:Code) {B:Base} {st:St} {a:Act} {w:World} {K:Exit->St->Prop} {Q:Exit->Act->World->Prop},zBA N c=true->Marks B0 B->GA B N st a w->zCa T SQ c st K->
 (∀ e B1 st' a' w',Marks B0 B1->K e st'->GA B1 N st' a' w'->Q e a' w')->c.wpIn (FR none) 0 P Q a w:=by
 intro c
 induction c with
 | seq x y ihx ihy =>
   intro B st a w K Q hok hm h hk hQ;simp only [zBA] at hok;simp only [zCa] at hk;cases e:zZE x y with
   | some r =>
     rw [e] at hok hk;simp only [zA] at hok;exact zZS R e hok.1 hok.2 h hk fun e B1 st' a' w' h1 h2 h3 hk' h'=>hQ _ _ _ _ _ (hm.go h1 h2 h3) hk' h'
   | none =>
     rw [e] at hok hk;simp only [zA] at hok;refine wpIn_seq (ihx hok.1 hm h hk fun e B1 st' a' w' hm' hk' h'=> ?_);cases e with
     | normal=>exact ihy hok.2 hm' h' hk' hQ
     | _=>exact hQ _ _ _ _ _ hm' hk' h'
 | block id c ih =>
   intro B st a w K Q hok hm h hk hQ;simp only [zBA] at hok;refine wpIn_block (ih hok hm h hk fun e B1 st' a' w' hm' hk' h'=> ?_);cases e with
   | exit i =>
     simp only [Exit.inBlock];dsimp only at hk';split at hk'
     ·rename_i e;rw [if_pos (zC e)];exact hQ _ _ _ _ _ hm' hk' h'
     ·rename_i e;rw [if_neg (fun e'=>by subst e';rw [qF] at e;cases e)];exact hQ _ _ _ _ _ hm' hk' h'
   | _=>exact hQ _ _ _ _ _ hm' hk' h'
 | rangeFunc g ps assign body =>
   intro B st a w K Q hok hm h hk hQ;simp only [zBA,zA] at hok;obtain ⟨ho1,ho2,ho3,ho4⟩:=hok;simp only [zCa] at hk;split at hk
   case h_2=>exact hk.elim
   rename_i f qs hg;split at hk
   case h_2=>exact hk.elim
   rename_i hnp;obtain ⟨L,hL,SP,hk⟩:=hk;rw [zFY] at hk;obtain ⟨hr,hK⟩:=hk;obtain ⟨σr,βr,hgr⟩:=h.gg;obtain ⟨βn,hgn⟩:=hgr.rowNils (T:=T) (zD1 st.hp);replace h:GA B N (st.rowNils T (zD1 st.hp)) a w:=⟨h.defers,h.size,σr,βn,hgn⟩;rw [<- zHr (T:=T) (st:=st) (zD1 st.hp)] at hg
   have hp: ∀ p∈ps.toList,p<N:=fun p hp=>by
    have:=zO.1 ho2 p hp;exact Nat.lt_of_succ_le (by simpa [Nat.blt] using this)
   refine zWl R ho3 ho4 hp ho1 h hg (hSQ f qs L hL) (zC hnp) (S:=fun X k=>SP.head (zHk (st.rowNils T (zD1 st.hp)) X) k) hr fun B1 D a' w' h1 h2 h3 h4 h5 h6 h7=> ?_;have:=hK a.tmps;rw [St.forceAll_eq] at this;exact hQ _ _ _ _ _ (hm.more h1 h2 h3 h4 h5 h6) this h7
 | skip=>intro B st a w K Q hok hm h hk hQ;exact zAj R _ hok h hk fun e st' a' w' hk' h'=>hQ _ _ _ _ _ hm hk' h'
 | label l=>intro B st a w K Q hok hm h hk hQ;exact zAj R _ hok h hk fun e st' a' w' hk' h'=>hQ _ _ _ _ _ hm hk' h'
 | region i o d=>intro B st a w K Q hok hm h hk hQ;exact zAj R _ hok h hk fun e st' a' w' hk' h'=>hQ _ _ _ _ _ hm hk' h'
 | cond c x y ihx ihy =>
   intro B st a w K Q hok hm h hk hQ;simp only [zBA] at hok;simp only [zCa] at hk;split at hk
   ·rename_i e;rw [e] at hok;exact zAj R _ hok h hk fun e st' a' w' hk' h'=>hQ _ _ _ _ _ hm hk' h'
   ·rename_i e;rw [e] at hok;simp only [zA] at hok;split at hk
    case h_2=>exact hk.elim
    rename_i t ht;have hev:=zIf h hok.1.1 ht;cases t with
    | true=>exact wpIn_cond_true hev (ihx hok.1.2 hm h hk hQ)
    | false=>exact wpIn_cond_false hev (ihy hok.2 hm h hk hQ)
 | loop c ih =>
   intro B st a w K Q hok hm h hk hQ;simp only [zBA] at hok;simp only [zCa] at hk;split at hk
   ·rename_i e;rw [e] at hok;rw [zFY] at hk;obtain ⟨σr,βr,hgr⟩:=h.gg;obtain ⟨βn,hgn⟩:=hgr.rowNils (T:=T) (zD1 st.hp);replace h:GA B N (st.rowNils T (zD1 st.hp)) a w:=⟨h.defers,h.size,σr,βn,hgn⟩;exact zAj R _ hok h hk fun e st' a' w' hk' h'=>hQ _ _ _ _ _ hm hk' h'
   ·rename_i e;rw [e] at hok;have hok:zBA N c=true:=hok;simp only [St.forceAll_eq] at hk;obtain ⟨X,S,⟨x0,hi0,hle0⟩,hround⟩:=hk;refine wpIn_loop_ghost (fun m a w=> ∃ x B,S.inv x/\S.mu x=m/\Marks B0 B/\GA B N (S.head st x) a w) (S.mu x0) ⟨x0,B,hi0,rfl,hm,h.weaken hle0⟩ ?_;rintro m a w ⟨x,B,hi,rfl,hm,hx⟩;refine ih hok hm hx (hround x hi) fun e B1 st' a' w' hm' hk' h'=> ?_;cases e with
    | normal =>
      obtain ⟨y,hy,hle,hlt⟩:=hk';exact ⟨_,hlt,y,B1,hy,rfl,hm',h'.weaken hle⟩
    | _=>exact hQ _ _ _ _ _ hm' hk' h'
 | scope c ih =>
   intro B st a w K Q hok hm h hk hQ;simp only [zBA] at hok;simp only [zCa] at hk;rw [FR.none,wpIn_wide];refine wp_scope_straight ((wpIn_wide (n:=0)).1 ?_);rw [<- FR.none];refine ih hok hm h hk fun e B1 st' a' w' hm' hk' h'=> ?_;cases e with
   | goto l=>exact hk'.elim
   | _=>exact hQ _ _ _ _ _ hm' hk' h'
 | exit i=>intro B st a w K Q hok hm h hk hQ;exact zAj R _ hok h hk fun e st' a' w' hk' h'=>hQ _ _ _ _ _ hm hk' h'
 | goto l=>intro B st a w K Q hok hm h hk hQ;exact zAj R _ hok h hk fun e st' a' w' hk' h'=>hQ _ _ _ _ _ hm hk' h'
 | ret=>intro B st a w K Q hok hm h hk hQ;exact zAj R _ hok h hk fun e st' a' w' hk' h'=>hQ _ _ _ _ _ hm hk' h'
 | _=>intro B st a w K Q hok;cases hok
def zSX (T:Tab) (SQ:zHD) (fn:Func) (args:List AV) (R:AV->Prop):Prop :=
 match fn.body with
 | some c=>(St.init args).forceAll fun s=>zCa T SQ c s (post T fn R)
 | none=>False
theorem zUN (R:zAS P T) (hSQ:zFw P SQ) {f:FuncId} {fn:Func} {c:Code} (hf:P.funcs[f]? =some fn) (hb:fn.body=some c) (hok:zBA fn.ntmps c=true)
 {args:List AV} (hl:args.length<=fn.ntmps) {q:Option Prop} {u:AV} (h:zBV args->Opt q->zSX T SQ fn args (fun v=>v=u)):zDn P f args (none,q,u):=by
 intro I vals w hag hv;refine ⟨trivial,fun hq=> ?_⟩;have hga:=zHt (N:=fn.ntmps) hag hv hl;have hk:=h (zCU hv) hq;simp only [zSX,hb,St.forceAll_eq] at hk;refine (callsIn_of_wp_marks (F:=Fence.wide) (n:=0) hf hb trivial ?_).calls (fun _ _ hd=>by cases hd);rw [<- FR.none];refine zMq (B0:=⟨w,I,[]⟩) R hSQ c hok ⟨rfl,⟨Sig.le.refl _,fun _ _=>rfl⟩,[],rfl,qW,fun D hD=>by cases hD⟩ hga hk fun e B1 st' a' w' hm hp h'=> ?_
 have fin : (match fn.results.toList.all (zF9 T st') with|true=>zJc T fn st'=u|false=>False)->LeavesInM (FR none) 0 P fn a'.tmps (fun e w'=> ∃ v σ',e= .returned v/\I.le σ'/\Ag σ' w'/\
  (∀ b,b<w.heap.size->σ' b=I b)/\qA σ' [] u v/\Below w.heap.size w w') a'.defers .returning w':=by
  intro hu;split at hu
  case h_2=>exact hu.elim
  rename_i hallok;obtain ⟨σ1,β1,hg⟩:=h'.gg;obtain ⟨Ds,e1,e2,e3⟩:=hm.ds;rw [h'.defers,e1]
  -- the marks, one by one
  have key: ∀ (Ds:List Nat) (B1:Base) (σ1:Sig) (w':World),Ds.Nodup->(∀ D∈Ds,B1.sg D=some (.deferred (some []))/\w.heap.size<=D)->B1.w=w->zQk ⟨w,I,[]⟩ B1.sg->GG B1 σ1 β1 st' a'.tmps w'->
   LeavesInM (FR none) 0 P fn a'.tmps (fun e w'=> ∃ v σ',e= .returned v/\I.le σ'/\Ag σ' w'/\(∀ b,b<w.heap.size->σ' b=I b)/\qA σ' [] u v/\Below w.heap.size w w') (Ds.map mark) .returning w':=by
   intro Ds
   induction Ds with
   | cons D r ih =>
     intro B1 σ1 w' hn hD hw hgr hg;obtain ⟨hn1,hn2⟩:=yQ.1 hn;obtain ⟨d1,d2⟩:=hD D (zQ ..);rw [Base.relock B1 d1] at hg;obtain ⟨_,hl2,_⟩:=hg.locked rfl;have zDb: ∀ b,b≠D->(B1.sg.del D) b=B1.sg b:=fun b hb=>by unfold Sig.del;rw [if_neg hb]
     obtain ⟨hg2,_⟩:=hg.unlock rfl (by show B1.w.heap.size<=D;rw [hw];exact d2) (by show (B1.sg.del D) D=none;unfold Sig.del;rw [if_pos rfl]) (.deferred none);refine ⟨by simp,.inl ⟨D,_,rfl,run_takeDeferred hl2,ih {B1 with sg:=B1.sg.del D} _ _ hn2 (fun D' hD'=> ?_) hw ⟨fun b o e=> ?_,fun b hb=> ?_⟩ hg2⟩⟩
     ·obtain ⟨k1,k2⟩:=hD D' (zM _ hD');exact ⟨by show (B1.sg.del D) D'=_;rw [zDb _ (fun e=>hn1 (e▸hD'))];exact k1,k2⟩
     ·have hb:b≠D:=fun hb=>by subst hb;have:=hag.lt e;omega
      show ∃ o',(B1.sg.del D) b=some o'/\_;rw [zDb b hb];exact hgr.1 b o e
     ·have hb:b<w.heap.size:=hb;show (B1.sg.del D) b=_;rw [zDb b (by omega)];exact hgr.2 b hb
   | nil =>
     intro B1 σ1 w' _ _ hw hgr hg;have hsl:I.le σ1:=Sig.le.trans hgr.1 hg.grew.1;have hsb: ∀ b,b<w.heap.size->σ1 b=I b:=fun b hb=>(hg.grew.2 b (by rw [hw];exact hb)).trans (hgr.2 b hb);have hbel:Below w.heap.size w w':=by have:=hg.bel;rw [hw] at this;exact this
     have hview: ∀ {x:AV} {v:Value},qA σ1 β1 x v->qA (fun b=>if b<w.heap.size then I b else w'.heap[b]?) [] (x.viewT T st'.hp) v:=fun {x v} hx=>by
      refine AV.viewT_rep_at (fun b o e=> ?_) (fun id ob p hi hp=> ?_) hg.mem hx
      ·split
       ·rename_i hlt;rw [hsb b hlt] at e;exact ⟨o,e,.refl⟩
       ·exact hg.mem.ag _ _ e
      ·have:=(hg.sep _ _ _ hi hp).2.1;rw [hw] at this;rw [if_neg (by omega)]
     obtain ⟨vs,hrun,hall⟩:=zBo (P:=P) (w:=w') (fn:=fn) (tmps:=a'.tmps) (Q:=fun r v=>qA (fun b=>if b<w.heap.size then I b else w'.heap[b]?) [] (zGC T st' r) v) (fun r hr=>by
      have hro:=zO.1 hallok r hr;cases r with
      | tmp t=>exact ⟨_,rfl,hview (hg.env t)⟩
      | cell a t =>
        simp only [zF9] at hro;simp only [zGC];have hx:=hg.env a;split at hro
        ·rename_i id i k hea;rw [hea] at hx;split at hro
         ·rename_i v hv;obtain ⟨p,_,hptr,_⟩:=hx;obtain ⟨_,hrun⟩:=zBs (w:=w') R.ty R.one hg.mem (t:=t) (hg.env a) (p:=none) (q:=none) (v:=v) (by rw [hea];exact hv);obtain ⟨val,h1,h2⟩:=hrun trivial;refine ⟨val,?_,hview h2⟩;rw [hptr] at h1 ⊢;rw [zB6] at h1;simp only [asAddr,zN,qD,zL];exact h1
         ·cases hro
        ·cases hro)
     refine ⟨_,hrun,_,(fun b=>if b<w.heap.size then I b else w'.heap[b]?),rfl,fun b o e=> ?_,fun b o e=> ?_,fun b hb=>by simp [hb],by rw [<- hu];exact zKL hall,hbel⟩
     ·have:b<w.heap.size:=hag.lt e;exact ⟨o,by simp [this,e],.refl⟩
     ·dsimp only at e;split at e
      ·rename_i hlt;rw [<- hsb b hlt] at e;exact hg.mem.ag _ _ e
      ·exact ⟨o,e,.refl⟩
  exact key Ds B1 σ1 w' e2 e3 hm.w hm.grew hg
 cases e with
 | normal=>simp only [post,AV.force_eq] at hp;exact fin hp
 | ret=>simp only [post,AV.force_eq] at hp;exact fin hp
 | _=>exact hp.elim
end
end Go.Vm
namespace S1
theorem zRf {fn} (o:Option zX.T) (v:Int):zB7 ⟨tyL,fn,[]⟩ f67 [(ETy.pt zX).av o,jF.av v] (fun r=>r= .s (.clo 87 [⟨.pt zX,o⟩,⟨jF,v⟩])):=by
 repeat' (conv=>whnf
          first|done|refine qy ?_|refine qG fun _=> ?_|refine qw (fun _=> ?_) (fun _=> ?_)|apply qt|refine qi (fun _=> ?_) (fun _=> ?_)|refine qu ?_|refine qv ?_ ?_|exact zT)
 all_goals try first|refine qz ?_|apply qz5
 all_goals try simp only [qn0,yC,yA,ETy.dflt,Int.reduceToNat,Int.reduceAdd,Int.reduceSub,Int.reduceNeg,Nat.reduceAdd] at *
def zI1:List AV->Option Res:=zNH (.pt zX) jF (fun o v=>some (none,none,.s (.clo 87 [⟨.pt zX,o⟩,⟨jF,v⟩])))
theorem zNF:zAI prog 67 zI1:=mkR (zCh fun o v r h=>by cases h;exact fb (fn:=[]) trivial func67 fun _ _=>zRf o v) func67
def zAA (x:zX.T) (b:Int):Nat->Int->List Int
 | 0,_=>[]
 | n+1,c=>c::(if yI x c<0 then [] else if yI x c=b then [] else zAA x b n (yI x c))
def yZ (o:Option zX.T) (v:Int):List Int:=onO o [] fun x=>if zCD x v then zAA x (zAc x v).1 30000 (zAc x v).1 else []
end S1
namespace S1
def z2Z:zHD:=fun f ps L=>f=87/\∃ (o:Option zX.T) (v:Int),ps=[⟨.pt zX,o⟩,⟨jF,v⟩]/\(∀ x,o=some x->Good x)/\L=yZ o v
def lkO (x:zX.T) (L:List Int) (k:Nat):List Int:=(L.take k).map fun c=>yM x (jD x c)
def zFv (L:List Int) (k:Nat):Int:=if k=0 then -1 else L.getD (k - 1) 0
def zDV (x:zX.T) (v:Int):List Int :=
 lkO x (yZ (some x) v) (yZ (some x) v).length++(if zFv (yZ (some x) v) (yZ (some x) v).length>=0/\yI x (zFv (yZ (some x) v) (yZ (some x) v).length)<0 then [yM x (jA x (zFv (yZ (some x) v) (yZ (some x) v).length))] else [])
theorem zSf (x:zX.T) (L:List Int) (k:Nat) (h:k<=L.length):(lkO x L k).length=k:=by
 unfold lkO;rw [z2,zAN];omega
theorem zPM (x:zX.T) (L:List Int) (k:Nat) (h:k<L.length):lkO x L (k+1)=lkO x L k++[yM x (jD x (L.getD k 0))]:=by
 have e:L.take (k+1)=L.take k++[L.getD k 0]:=by
  rw [yJ h,gdE,gE h];rfl
 unfold lkO;rw [e,zA8];rfl
theorem zVM {x:zX.T} (g:Good x) (c:Int):yI x c<=30000:=by
 unfold yI;split
 ·decide
 ·exact zK3 g _
theorem zUL {x:zX.T} (g:Good x) (c:Int):z8 x c<=30000:=by
 unfold z8;split
 ·decide
 ·exact zKx g _
theorem zJ7 {x:zX.T} (g:Good x) {b:Int} : ∀ n c,c<=30000->(zAA x b n c).length<=n/\∀ a∈zAA x b n c,a<=30000
 | 0,c,_=>⟨zI _,fun a h=>by cases h⟩
 | n + 1,c,hc=>by
   obtain ⟨h1,h2⟩:=zJ7 g (b:=b) n (yI x c) (zVM g c);unfold zAA;split
   ·exact ⟨by simp,fun a h=>by rw [zD] at h;omega⟩
   ·split
    ·exact ⟨by simp,fun a h=>by rw [zD] at h;omega⟩
    ·refine ⟨by rw [zZ];omega,fun a h=> ?_⟩;rcases zP.1 h with e|h
     ·omega
     ·exact h2 a h
theorem zHw {x:zX.T} (g:Good x) {c0:Int} (h0:c0<=30000): ∀ n c,c<=30000->(zDH x c0 n c).1<=30000
 | 0,c,_=>by show (0:Int)<=30000;decide
 | n +1,c,hc=>by
   unfold zDH;split
   ·exact hc
   ·split
    ·exact h0
    ·exact zHw g h0 n _ (zUL g c)
theorem zG6 {x:zX.T} (g:Good x) (v:Int):(yZ (some x) v).length<=30000/\∀ a∈yZ (some x) v,a<=30000:=by
 show (if zCD x v then _ else _:List Int).length<=30000/\∀ a∈(if zCD x v then _ else _:List Int),a<=30000;split
 ·exact zJ7 g _ _ (zHw g (zEC g v) _ _ (zEC g v))
 ·exact ⟨jB _,fun a h=>by cases h⟩
theorem zSh {L:List Int} (h: ∀ a∈L,a<=30000) (k:Nat):L.getD k 0<=30000:=by
 rw [gdE];cases e:L[k]? with
 | none=>decide
 | some a=>exact h a (yP e)
theorem zUF {L:List Int} (h: ∀ a∈L,a<=30000) (k:Nat):zFv L k<=30000:=by
 unfold zFv;split
 ·decide
 ·exact zSh h _
def z2g (x:zX.T) (L:List Int):Spec Nat where
 inv _:=True
 live _:=[]
 keep:=[2,4,5,6]
 heap k:=[(2,.flat 43 [.own 4 0 (lkO x L k).length]),(3,.flat 3 [.int .i64 (zFv L k)]),(4,.row jF 3 (lkO x L k))]
 keepH:=[0,1,5]
 mu _:=0
theorem z7V (x:zX.T) (v:Int) (g:Good x):zSX ⟨tyL,[(67,zI1),(28,zOh),(29,zNe),(68,zFc),(27,zD5)],[]⟩ z2Z f45 [(ETy.pt zX).av (some x),jF.av v] (fun r=>r= .s (.sl jF (zDV x v))):=by
 obtain ⟨hl,ha⟩:=zG6 g v;have hd:=zSh ha;have hL:=zUF ha (yZ (some x) v).length;have ho:=zSf x (yZ (some x) v);have ho2:=ho _ (zI _)
 repeat' (conv=>whnf
          first|done|refine qy ?_|refine qG fun _=> ?_|refine qw (fun _=> ?_) (fun _=> ?_)|apply qt|refine qi (fun _=> ?_) (fun _=> ?_)|refine y5 (yZ (some x) v) (yH (jQ.out ?_) (y5 (z2g x (yZ (some x) v)) ?_))|(refine yH (fun X=> ?_) (fun X=> ?_))|(refine yH (yH ?_ (yH ?_ rfl)) (fun k hk=> ?_))|(refine yH ?_ (yH ?_ rfl))|refine qu ?_|refine qv ?_ ?_|exact zT)
 all_goals try first|refine qz ?_|apply qz5
 all_goals try simp only [qn0,yC,yA,ETy.dflt,Int.reduceToNat,Int.reduceAdd,Int.reduceSub,Int.reduceNeg,Nat.reduceAdd] at *
 ·exact qh ⟨rfl,some x,v,rfl,fun y e=>by cases e;exact g,rfl⟩
 ·exact qh (Int.le_trans (hd k) (by decide))
 ·exact qh (Int.le_trans (zK3 g _) (by decide))
 ·have:=ho k (Nat.le_of_lt hk);refine qh ?_;omega
 ·rw [zPM _ _ _ hk,z7];exact zAM.intro rfl
 ·exact zPM _ _ _ hk
 ·exact qh ⟨g,hL⟩
 ·exact qh (Int.le_trans hL (by decide))
 ·exact qh (Int.le_trans (zKx g _) (by decide))
 ·refine qh ?_;omega
 ·rename_i h1 h2;unfold zDV;rw [if_pos ⟨h1,h2⟩,j5];exact jR (by rw [z7];exact zI _)
 ·rename_i h1 h2;unfold zDV;rw [if_neg (fun e=>h2 e.2),yW]
 ·rename_i h1;unfold zDV;rw [if_neg (fun e=>h1 e.1),yW]
end S1
namespace S1
def z0j:Spec Nat where
 inv _:=True
 live _:=[]
 keep:=[2,4,5,6]
 heap _:=[(2,.flat 43 [.own 4 0 0]),(3,.flat 3 [.int .i64 (-1)]),(4,.row jF 3 [])]
 keepH:=[0,1,5]
 mu _:=0
theorem z64 (v:Int):zSX ⟨tyL,[(67,zI1),(28,zOh),(29,zNe),(68,zFc),(27,zD5)],[]⟩ z2Z f45 [(ETy.pt zX).av none,jF.av v] (fun r=>r= .s (.sl jF [])):=by
 repeat' (conv=>whnf
          first|done|refine qy ?_|refine qG fun _=> ?_|refine qw (fun _=> ?_) (fun _=> ?_)|apply qt|refine qi (fun _=> ?_) (fun _=> ?_)|refine y5 [] (yH (jQ.out ?_) (y5 z0j ?_))|(refine yH (fun X=> ?_) (fun X=> ?_))|(refine yH (yH ?_ (yH ?_ rfl)) (fun k hk=>absurd hk (Nat.not_lt_zero _)))|refine qu ?_|refine qv ?_ ?_|exact zT)
 all_goals try first|refine qz ?_|apply qz5
 all_goals try simp only [qn0,yC,yA,ETy.dflt,Int.reduceToNat,Int.reduceAdd,Int.reduceSub,Int.reduceNeg,Nat.reduceAdd] at *
 ·exact qh ⟨rfl,none,v,rfl,fun y e=>(by cases e),rfl⟩
 ·rfl
def zBn (o:Option zX.T) (v:Int):List Int:=onO o [] fun x=>zDV x v
def z67:List AV->Option Res:=zNH (.pt zX) jF (fun o v=>some (none,some (∀ x,o=some x->Good x),.s (.sl jF (zBn o v))))
theorem z6l (hS:zFw prog z2Z):zAI prog 45 z67:=⟨zCh fun o v r h=>by
 cases h;cases o with
 | none=>exact zUN (zCw (fn:=[(67,zI1),(28,zOh),(29,zNe),(68,zFc),(27,zD5)]) (fr:=[]) ⟨zNF,zLR,zLW,zHT,zET,trivial⟩ trivial) hS func45 rfl (by kernel_rfl) (zU rfl) fun _ _=>z64 v
 | some x=>exact zUN (zCw (fn:=[(67,zI1),(28,zOh),(29,zNe),(68,zFc),(27,zD5)]) (fr:=[]) ⟨zNF,zLR,zLW,zHT,zET,trivial⟩ trivial) hS func45 rfl (by kernel_rfl) (zU rfl) fun _ h=>z7V x v (h x rfl),_,func45,by kernel_rfl,by kernel_rfl⟩
end S1
namespace Go.Vm
open Go.RowKit
def zBp {α:Type} (a b:α):Prop:=a=b
theorem zBp.out {α:Type} {a b:α} (h:zBp a b):a=b:=h
theorem zBp.intro {α:Type} {a b:α} (h:a=b):zBp a b:=h
attribute [irreducible] zBp
def z3A (st:St) (o:Oper):Option (Operand×Operand×List Operand) :=
 match o.op with
 | .call ⟨.value (.tmp t),⟨x::ys⟩,_⟩=>match jW st.env (.tmp t) with
   | .s (.val (.func (.yield _) ⟨[]⟩ ⟨[]⟩))=>some (.tmp t,x,ys)
   | _=>none
 | _=>none
def z2z (o:Oper):Bool :=
 match o.op with
 | .call ⟨.value (.tmp _),⟨_::_⟩,_⟩=>true
 | _=>false
def yGo (l:Nat) (L:List Int) (sec:zLf) (g x:Operand) (ys:List Operand) (dst:Option Tmp) (st:St) (pre:List Int) (K:St->List Int->Prop):Prop :=
 match jW st.env g,jW st.env x,st.hp with
 | .s (.val (.func (.yield l') ⟨[]⟩ ⟨[]⟩)),.s (.int .i64 n),[]=>match ys,sec with
   | [],none=>l'=l/\(pre++[n]) <+: L/\(st.put dst (.s (.bool true))).forceAll fun st=>K st (pre++[n])
   | [y],some s=>l'=l/\(pre++[n]) <+: L/\zBp (jW st.env y) (.agg (s.1.cells (s.2 n)))/\(st.put dst (.s (.bool true))).forceAll fun st=>K st (pre++[n])
   | _,_=>False
 | _,_,_=>False
def zIk (T:Tab) (l:Nat) (L:List Int) (sec:zLf) (ops:Array Oper):List Oper->St->List Int->(St->List Int->Prop)->Prop
 | [],st,pre,K=>K st pre
 | o :: r, st,pre,K=>match z3A st o with
   | some (g,x,ys)=>match o.guard with
     | none=>yGo l L sec g x ys o.dst st pre fun st pre=>zIk T l L sec ops r st pre K
     | some (j,want)=>match zD6 ops st.env j with
       | .s (.bool b)=>BIf b
         (match want with
           | true=>(st.put (j7 ops j) (.s (.bool true))).force fun st=>yGo l L sec g x ys o.dst st pre fun st pre=>zIk T l L sec ops r st pre K
           | false=>(st.put (j7 ops j) (.s (.bool true))).force fun st=>(st.put o.dst .undef).force fun st=>zIk T l L sec ops r st pre K)
         (match want with
           | true=>(st.put (j7 ops j) (.s (.bool false))).force fun st=>(st.put o.dst .undef).force fun st=>zIk T l L sec ops r st pre K
           | false=>(st.put (j7 ops j) (.s (.bool false))).force fun st=>yGo l L sec g x ys o.dst st pre fun st pre=>zIk T l L sec ops r st pre K)
       | _=>False
   | none=>zBj T false ops [o] st fun st=>zIk T l L sec ops r st pre K
def zX5 (ops:Array Oper) (draw:Bool):Bool :=
 match draw with
 | false=>ops.toList.any z2z
 | true=>false
def zEL (T:Tab) (l:Nat) (L:List Int) (sec:zLf):Code->St->List Int->(Exit->St->List Int->Prop)->Prop
 | .seq a b,st,pre,K=>zEL T l L sec a st pre (fun e s pre=>match e with
   | .normal=>zEL T l L sec b s pre K
   | e=>K e s pre)
 | .cond c a b,st,pre,K=>match jW st.env c with
   | .s (.bool t)=>BIf t (zEL T l L sec a st pre K) (zEL T l L sec b st pre K)
   | _=>False
 | .block id c,st,pre,K=>zEL T l L sec c st pre (fun e s pre=>match e with
   | .exit i=>match Nat.beq i id with|true=>K .normal s pre|false=>K (.exit i) s pre
   | e=>K e s pre)
 | .loop c,st,pre,K=> ∃ (X:Type) (S:Spec X) (PR:X->List Int),(∃ x,S.inv x/\PR x=pre/\zOZ st (S.head st x))/\
    ∀ x,S.inv x->(S.head st x).forceAll fun h=>zEL T l L sec c h (PR x) (fun e s pre'=>match e with
      | .normal=> ∃ y,S.inv y/\PR y=pre'/\zOZ s (S.head st y)/\S.mu y<S.mu x
      | e=>K e s pre')
 | .region i ops draw,st,pre,K=>match zX5 ops draw with
   | true=>zIk T l L sec ops ops.toList st pre (K .normal)
   | false=>zBD T (.region i ops draw) st (fun e s=>K e s pre)
 | .skip,st,pre,K=>K .normal st pre
 | .exit i,st,pre,K=>K (.exit i) st pre
 | .ret,st,pre,K=>K .ret st pre
 | _,_,_,_=>False
theorem zYa {st:St} {o:Oper} {g x:Operand} {ys:List Operand} (h:z3A st o=some (g,x,ys)): ∃ t ts,g= .tmp t/\o.op= .call ⟨.value (.tmp t),⟨x::ys⟩,ts⟩:=by
 unfold z3A at h;split at h
 ·rename_i t x2 ys2 ts h1;split at h
  ·cases h;exact ⟨t,ts,rfl,h1⟩
  ·cases h
 ·cases h
theorem jI.of_cells {I:Sig} {M:yN} : ∀ {e:ETy} {x:e.T} {ds:List Value},jZ (y7 I M) (e.cells x) ds->jI I e x ds
 | .int _,_,_,h=>by obtain ⟨b,rfl,hb⟩:=h.len_one;exact ⟨by rw [hb.1],hb.2⟩
 | .bool,_,_,h=>by obtain ⟨b,rfl,hb⟩:=h.len_one;show _=_;rw [show _=_ from hb]
 | .arr2,_,ds,h=>by
   match ds,h with
   | [a,b],⟨h1,h2,_⟩=>exact ⟨by rw [h1.1,h2.1],h1.2,h2.2⟩
 | .arr3,_,ds,h=>by
   match ds,h with
   | [a,b,c],⟨h1,h2,h3,_⟩=>exact ⟨by rw [h1.1,h2.1,h3.1],h1.2,h2.2,h3.2⟩
 | .pair a b,x,ds,h=>by
   obtain ⟨m1,m2,e,h1,h2⟩:=jZ.split (l:=a.cells x.1) (l':=b.cells x.2) h;exact ⟨m1,m2,e,jI.of_cells h1,jI.of_cells h2⟩
 | .sl _,_,_,h=>by obtain ⟨b,rfl,hb⟩:=h.len_one;exact hb
 | .mp _ _,_,_,h=>by obtain ⟨b,rfl,hb⟩:=h.len_one;exact hb
 | .pt _,_,_,h=>by obtain ⟨b,rfl,hb⟩:=h.len_one;exact hb
 | .unit,_,_,h=>h.len_nil
 | .fnc,_,_,h=>by obtain ⟨b,rfl,hb⟩:=h.len_one;show _=_;rw [hb.1]
section
variable {P:Program} {T:Tab} {B B0:Base} {w w':World} {I τ:Sig} {M:yN} {st:St} {tmps:Array Value} {N:Nat} {a:Act}
def z05 (st:St):List Operand->zLf->Int->Prop
 | [],none,_=>True
 | [y],some s,n=>jW st.env y= .agg (s.1.cells (s.2 n))
 | _,_,_=>False
theorem zYA {l:Nat} {L:List Int} {sec:zLf} {g x:Operand} {ys:List Operand} {dst:Option Tmp} {pre:List Int} {K:St->List Int->Prop} (h:yGo l L sec g x ys dst st pre K) :
 jW st.env g= .s (.val (.func (.yield l) #[] #[]))/\∃ n,jW st.env x= .s (.int .i64 n)/\st.hp=[]/\(pre++[n]) <+: L/\K (st.put dst (.s (.bool true))) (pre++[n])/\z05 st ys sec n:=by
 unfold yGo at h;split at h
 ·rename_i l' n h1 h2 h3;split at h
  ·obtain ⟨rfl,hp,hk⟩:=h;rw [St.forceAll_eq] at hk;exact ⟨h1,n,h2,h3,hp,hk,trivial⟩
  ·obtain ⟨rfl,hp,hy,hk⟩:=h;rw [St.forceAll_eq] at hk;exact ⟨h1,n,h2,h3,hp,hk,hy.out⟩
  ·exact h.elim
 ·exact h.elim
theorem zQ6 {o:Oper} {ρ:Operand->Value} {l:Nat} {g x:Operand} {ys:List Operand} {ts:Array TypeId} {r:Result Next} (ho:o.op= .call ⟨.value g,⟨x::ys⟩,ts⟩) (hf:ρ g= .func (.yield l) #[] #[]) (hy:(Instr.yield l (ρ x::ys.map ρ).toArray).run P w=r):(execOp ρ o).run P w=r:=by
 simp only [execOp,ho,resolve,hf,Deferred.ofValue,zN,qD,zL,invoke];simpa using hy
theorem GG.yielded (h:GG B I M st tmps w) (hh:st.hp=[]) (hag:Ag I w'):GG ⟨w',I,[]⟩ I M st tmps w' :=
 ⟨⟨hag,fun id ob hi=>by rw [hh] at hi;cases hi⟩,h.env,h.len,fun id ob p hi=>(by rw [hh] at hi;cases hi),Below.refl _ _,Sig.le.refl _,fun _ _=>rfl⟩
def YOk (P:Program) (l:Nat) (L:List Int) (sec:zLf) (J:List Int->Sig->World->Prop):Prop :=
 ∀ pre x vs σp σ1 Ws W1,J pre σp Ws->Below Ws.heap.size Ws W1->(∀ b,b<Ws.heap.size->σ1 b=σp b)->Ag σ1 W1->(pre++[x]) <+: L->zEw σ1 sec x vs->
   YieldAt Fence.wide 0 P l (Value.int .i64 x::vs).toArray W1 fun e W'=>e= .returned (.bool true)/\J (pre++[x]) σ1 W'/\Ag σ1 W'
theorem zQx {l:Nat} {L:List Int} {sec:zLf} {J:List Int->Sig->World->Prop} (hY:YOk P l L sec J) {o:Oper} (ho:y4 N o=true) {ops:Array Oper} {os:List Oper} {Q:Exit->Act->World->Prop} {t:Tmp} {x:Operand} {ys:List Operand} {ts:Array TypeId} (hop:o.op= .call ⟨.value (.tmp t),⟨x::ys⟩,ts⟩)
 {pre:List Int} {K:St->List Int->Prop} (hd:B.dfs=[]) (hj:J pre B.sg B.w) (h:GA B N st a w) (hk:yGo l L sec (.tmp t) x ys o.dst st pre K)
 (hQ: ∀ B1 st' pre' a' w',B1.dfs=[]->J pre' B1.sg B1.w->K st' pre'->GA B1 N st' a' w'->wpListIn (FR none) 0 P ops Q os a' w'):o.wpIn (FR none) 0 P a w (wpListIn (FR none) 0 P ops Q os) Q:=by
 obtain ⟨hg,n,hx,hh,hpre,hK,hsec⟩:=zYA hk;obtain ⟨σ1,β1,hgg⟩:=h.gg
 have hxo:zED x=true:=by
  simp only [y4,zA,zO] at ho;exact ho.2 x (by simp [hop,Op.operands,Call.operands])
 have hgv:a.eval (.tmp t)= .func (.yield l) #[] #[]:=by
  have:=jY hgg (x:= .tmp t) rfl;rw [hg] at this;exact this.1
 have hxv:a.eval x= .int .i64 n:=by
  have:=jY hgg hxo;rw [hx] at this;exact this.1
 have hsr:zEw σ1 sec n (ys.map a.eval):=by
  unfold z05 at hsec;split at hsec
  ·rfl
  ·rename_i y s
   have hyo:zED y=true:=by
    simp only [y4,zA,zO] at ho;exact ho.2 y (by simp [hop,Op.operands,Call.operands])
   have:=jY hgg hyo;rw [hsec] at this;obtain ⟨ds,e1,e2⟩:=this;exact ⟨ds,by rw [jV,List.map_nil,e1],jI.of_cells e2⟩
  ·exact hsec.elim
 obtain ⟨fn,tmps,assign,body,hrun,hround⟩:=hY pre n _ B.sg σ1 B.w w hj hgg.bel hgg.grew.2 hgg.mem.ag hpre hsr;refine ⟨fun f' _=>trivial,?_⟩;have hex:=zQ6 (r:= .ok (.round l fn tmps assign body) w) hop hgv (by rw [hxv];exact hrun);rw [Oper.semAt_eq _ _ _ (by rw [hop];intro c e;cases e),hex];refine ⟨(fun e=>by cases e),?_⟩;refine hround.mono fun e w' hpost=> ?_;obtain ⟨rfl,hj',hag'⟩:=hpost;refine hQ ⟨w',σ1,[]⟩ (st.put o.dst (.s (.bool true))) (pre++[n]) _ _ rfl hj' hK ?_
 have hy:=(hgg.yielded hh hag').put (d:=o.dst) (zAp h.size ho) (a:= .s (.bool true)) (v:= .bool true) rfl;exact zEW (h.defers.trans hd) h.size ⟨σ1,β1,hy⟩
theorem zH5 (R:zAS P T) {l:Nat} {L:List Int} {sec:zLf} {J:List Int->Sig->World->Prop} (hY:YOk P l L sec J) {ops:Array Oper} {Q:Exit->Act->World->Prop} : ∀ (os:List Oper) {B:Base} {st:St} {a:Act} {w:World} {pre:List Int} {K:St->List Int->Prop},
 (∀ o∈os,y4 N o=true)->B.dfs=[]->J pre B.sg B.w->GA B N st a w->zIk T l L sec ops os st pre K->
 (∀ B1 st' pre' a' w',B1.dfs=[]->J pre' B1.sg B1.w->K st' pre'->GA B1 N st' a' w'->Q .normal a' w')->wpListIn (FR none) 0 P ops Q os a w
 | [],B,st,a,w,pre,K,_,hd,hj,h,hk,hQ=>hQ _ _ _ _ _ hd hj hk h
 | o ::os,B,st,a,w,pre,K,hall,hd,hj,h,hk,hQ=>by
   have ho:=hall o (by simp);have hall': ∀ o∈os,y4 N o=true:=fun o' ho'=>hall o' (by simp [ho']);simp only [zIk,St.force_eq] at hk;split at hk
   case h_2 =>
    have:=zCv R os [o] (ops:=ops) (Q:=Q) (fun o' ho'=>hall o' (by rw [zD.1 ho'];simp)) h hk fun st' a' w' hk' h'=>zH5 R hY os hall' hd hj h' hk' hQ;exact this
   rename_i g x ys hyf;obtain ⟨t,ts,rfl,hop⟩:=zYa hyf
   have go: ∀ {st:St},GA B N st a w->yGo l L sec (.tmp t) x ys o.dst st pre (fun st pre=>zIk T l L sec ops os st pre K)->o.wpIn (FR none) 0 P a w (wpListIn (FR none) 0 P ops Q os) Q:=fun h hk =>
    zQx hY ho hop hd hj h hk fun B1 st' pre' a' w' hd' hj' hk' h'=>zH5 R hY os hall' hd' hj' h' hk' hQ
   have skip: ∀ {st:St},GA B N st a w->zIk T l L sec ops os (st.put o.dst .undef) pre K->wpListIn (FR none) 0 P ops Q os (a.put o.dst undef) w:=fun h hk =>
    zH5 R hY os hall' hd hj (zFQ h ho) hk hQ
   simp only [wpListIn];cases hg:o.guard with
   | none =>
     simp only [hg] at hk;have:Region.wanted o (yielded ops a.tmps)=true:=by simp [Region.wanted,hg]
     rw [if_pos this];exact go h hk
   | some jw =>
     obtain ⟨j,want⟩:=jw;simp only [hg] at hk;obtain ⟨I,M,hgg⟩:=h.gg;split at hk
     case h_2=>exact hk.elim
     rename_i b hb;obtain ⟨d,hd1,hd2⟩:=zAT (ops:=ops) (env:=st.env) (j:=j) (by rw [hb];simp);rw [hd2] at hb;have hv:=hgg.env d;rw [hb] at hv;have hy:=zEf (ops:=ops) hd1 (show a.tmps.getD d undef= .bool b from hv);rw [hd1] at hk;cases b with
     | true =>
       cases want with
       | true =>
         rw [if_pos (by simp [Region.wanted,hg,hy])];exact go (zCH h hb) hk
       | false =>
         rw [if_neg (by simp [Region.wanted,hg,hy])];exact ⟨fun f _=>trivial,skip (zCH h hb) hk⟩
     | false =>
       cases want with
       | true =>
         rw [if_neg (by simp [Region.wanted,hg,hy])];exact ⟨fun f _=>trivial,skip (zCH h hb) hk⟩
       | false =>
         rw [if_pos (by simp [Region.wanted,hg,hy])];exact go (zCH h hb) hk
theorem zSq (R:zAS P T) {l:Nat} {L:List Int} {sec:zLf} {J:List Int->Sig->World->Prop}
 (hY:YOk P l L sec J) :
 ∀ (c:Code) {B:Base} {st:St} {a:Act} {w:World} {pre:List Int} {K:Exit->St->List Int->Prop} {Q:Exit->Act->World->Prop},codeOk N c=true->B.dfs=[]->J pre B.sg B.w->GA B N st a w->zEL T l L sec c st pre K->
 (∀ e B1 st' pre' a' w',B1.dfs=[]->J pre' B1.sg B1.w->K e st' pre'->GA B1 N st' a' w'->Q e a' w')->c.wpIn (FR none) 0 P Q a w:=by
 intro c
 induction c with
 | skip=>intro B st a w pre K Q _ hd hj h hk hQ;exact wpIn_skip (hQ _ _ _ _ _ _ hd hj hk h)
 | exit i=>intro B st a w pre K Q _ hd hj h hk hQ;exact wpIn_exit (hQ _ _ _ _ _ _ hd hj hk h)
 | ret=>intro B st a w pre K Q _ hd hj h hk hQ;exact wpIn_ret (hQ _ _ _ _ _ _ hd hj hk h)
 | seq x y ihx ihy =>
   intro B st a w pre K Q hok hd hj h hk hQ;simp only [codeOk,zA] at hok;refine wpIn_seq (ihx hok.1 hd hj h hk fun e B1 st' pre' a' w' hd' hj' hk' h'=> ?_);cases e with
   | normal=>exact ihy hok.2 hd' hj' h' hk' hQ
   | _=>exact hQ _ _ _ _ _ _ hd' hj' hk' h'
 | cond c x y ihx ihy =>
   intro B st a w pre K Q hok hd hj h hk hQ;simp only [codeOk,zA] at hok;simp only [zEL] at hk;split at hk
   ·rename_i t ht;have hev:=zIf h hok.1.1 ht;cases t with
    | true=>exact wpIn_cond_true hev (ihx hok.1.2 hd hj h hk hQ)
    | false=>exact wpIn_cond_false hev (ihy hok.2 hd hj h hk hQ)
   ·exact hk.elim
 | block id c ih =>
   intro B st a w pre K Q hok hd hj h hk hQ;simp only [codeOk] at hok;refine wpIn_block (ih hok hd hj h hk fun e B1 st' pre' a' w' hd' hj' hk' h'=> ?_);cases e with
   | exit i =>
     simp only [Exit.inBlock];dsimp only at hk';split at hk'
     ·rename_i e;rw [if_pos (zC e)];exact hQ _ _ _ _ _ _ hd' hj' hk' h'
     ·rename_i e;rw [if_neg (fun e'=>by subst e';rw [qF] at e;cases e)];exact hQ _ _ _ _ _ _ hd' hj' hk' h'
   | _=>exact hQ _ _ _ _ _ _ hd' hj' hk' h'
 | loop c ih =>
   intro B st a w pre K Q hok hd hj h hk hQ;simp only [codeOk] at hok;simp only [zEL,St.forceAll_eq] at hk;obtain ⟨X,S,PR,⟨x0,hi0,hp0,hle0⟩,hround⟩:=hk;refine wpIn_loop_ghost (fun m a w=> ∃ x B,S.inv x/\S.mu x=m/\B.dfs=[]/\J (PR x) B.sg B.w/\GA B N (S.head st x) a w) (S.mu x0) ⟨x0,B,hi0,rfl,hd,by rw [hp0];exact hj,h.weaken hle0⟩ ?_;rintro m a w ⟨x,B,hi,rfl,hd,hj,hx⟩;refine ih hok hd hj hx (hround x hi) fun e B1 st' pre' a' w' hd' hj' hk' h'=> ?_
   cases e with
   | normal =>
     obtain ⟨y,hy,hp,hle,hlt⟩:=hk';exact ⟨_,hlt,y,B1,hy,rfl,hd',by rw [hp];exact hj',h'.weaken hle⟩
   | _=>exact hQ _ _ _ _ _ _ hd' hj' hk' h'
 | region id ops draw =>
   intro B st a w pre K Q hok hd hj h hk hQ;simp only [zEL] at hk;split at hk
   ·rename_i hyp
    have hdr:draw=false:=by
     unfold zX5 at hyp;cases draw with
     | false=>rfl
     | true=>cases hyp
    subst hdr;simp only [codeOk,zA,zO] at hok;refine wpIn_region_list ?_;exact zH5 R hY ops.toList hok.1 hd hj h hk fun B1 st' pre' a' w' hd' hj' hk' h'=>hQ _ _ _ _ _ _ hd' hj' hk' h'
   ·exact zAj R _ hok h hk fun e st' a' w' hk' h'=>hQ _ _ _ _ _ _ hd hj hk' h'
 | _=>intro B st a w pre K Q hok hd hj h hk;exact hk.elim
def zIY (l:Nat) (ps:List PtV):List AV:= .s (.val (.func (.yield l) #[] #[]))::ps.map fun q=> .s (.pt q.e (some q.x))
def z2y (L:List Int):Exit->St->List Int->Prop
 | .normal,_,pre=>pre=L
 | .ret,_,pre=>pre=L
 | _,_,_=>False
def zRE (T:Tab) (fn:Func) (ps:List PtV) (L:List Int):Prop :=
 match fn.body with
 | some c=> ∀ l:Nat,(St.init (zIY l ps)).forceAll fun s=>zEL T l L (zOI ps) c s [] (z2y L)
 | none=>False
theorem zFX {l:Nat} : ∀ {ps:List PtV} {vs:List Value},jZ (fun (q:PtV) u=>jI I (.pt q.e) (some q.x) [u]) ps vs->jL I [] (ps.map fun q=>AV.s (.pt q.e (some q.x))) vs
 | [],[],_=>trivial
 | q::ps,v::vs,h=>⟨h.1,zFX (l:=l) h.2⟩
 | [],_::_,h=>h.elim
 | _::_,[],h=>h.elim
theorem seq_ok (R:zAS P T) {f:FuncId} {fn:Func} {c:Code} (hf:P.funcs[f]? =some fn) (hb:fn.body=some c) (hok:codeOk fn.ntmps c=true) (hr:fn.results= #[])
 (hn : (fn.name == "runtime.NumGoroutine") = false) {ps : List PtV} (hl : ps.length + 1 ≤ fn.ntmps) {L : List Int} (hL : ∀ x ∈ L, InK .i64 x) (h : zBV (zIY 0 ps) → zRE T fn ps L) : zZq P f ps L := by
 refine ⟨fun args w=> ?_,hL,fun I vs hcap l J W hag hst hY hJ=> ?_⟩
 ·simp only [callFunc,zN,run_program,zL,hf,hn,hb];simp
 ·have hv:jL I [] (zIY l ps) (.func (.yield l) #[] #[]::vs):=⟨⟨rfl,fun cs e=>by cases e⟩,zFX (l:=l) hcap⟩;have hv0:jL I [] (zIY 0 ps) (.func (.yield 0) #[] #[]::vs):=⟨⟨rfl,fun cs e=>by cases e⟩,zFX (l:=0) hcap⟩;have hk:=h (zCU hv0);simp only [zRE,hb,St.forceAll_eq] at hk;have hga:=zHt (N:=fn.ntmps) hag hv (by simpa [zIY] using hl);have e1: #[Value.func (.yield l) #[] #[]]++vs.toArray=(Value.func (.yield l) #[] #[]::vs).toArray:=by simp
  rw [e1];refine callsIn_of_wp (F:=Fence.wide) (n:=0) hf hb trivial ?_;rw [<- FR.none];refine zSq (J:=J) (L:=L) R hY c hok rfl hJ hga (hk l) fun e B1 st' pre' a' w' hd' hj' hk' h'=> ?_
  have fin:pre'=L->a'.defers=[]/\∃ v,(results fn a'.tmps).run P w'= .ok v w'/\(∃ v',(Ending.returned v)= .returned v')/\∃ σ',J L σ' w':=by
   intro e;subst e;obtain ⟨vs,hrun,_⟩:=zBo (P:=P) (w:=w') (fn:=fn) (tmps:=a'.tmps) (Q:=fun r v=>True) (fun r hr'=>by rw [hr] at hr';cases hr');obtain ⟨σ1,β1,hg⟩:=h'.gg;exact ⟨h'.defers.trans hd',_,hrun,⟨_,rfl⟩,_,hst _ _ _ _ hj' hg.bel⟩
  cases e with
  | normal=>exact fin hk'
  | ret=>exact fin hk'
  | _=>exact hk'.elim
end
end Go.Vm
namespace S1
theorem zDW {L r:List Int} {c:Int} {k:Nat} (h:L.drop k=c::r):L.take (k+1)=L.take k++[c]/\L.drop (k+1)=r:=by
 have hk:k<L.length:=by
  rcases Nat.lt_or_ge k L.length with h'|h'
  ·exact h'
  ·rw [jS h'] at h;cases h
 rw [List.drop_eq_getElem_cons hk] at h;injection h with h1 h2
 exact ⟨by rw [yJ hk,h1],h2⟩
theorem zPZ {L:List Int} {c:Int} {k:Nat} (h:L.drop k=[c]):L.take k++[c]=L:=by
 have:=zDW h;rw [<- this.1];have h2:=zAU (k+1) L;rw [this.2,yW] at h2;exact h2
theorem zOy {L r:List Int} {c:Int} {k:Nat} (h:L.drop k=c::r):(L.take k++[c]) <+: L:=by
 rw [<- (zDW h).1];exact List.take_prefix _ _
theorem zMs {x:zX.T} {c0:Int} (h0:0<=c0): ∀ n c,0<=c->0<=(zDH x c0 n c).1
 | 0,c,_=>by show (0:Int)<=0;decide
 | n +1,c,hc=>by
   unfold zDH;split
   ·exact hc
   ·split
    ·exact h0
    ·exact zMs h0 n _ (by omega)
theorem zJy {x:zX.T} {b:Int} : ∀ n c,0<=c->∀ a∈zAA x b n c,0<=a
 | 0,c,_,a,h=>by cases h
 | n + 1,c,hc,a,h=>by
   unfold zAA at h;split at h
   ·rw [zD] at h;omega
   ·split at h
    ·rw [zD] at h;omega
    ·rcases zP.1 h with e|h
     ·omega
     ·exact zJy n _ (by omega) a h
theorem zQj {x:zX.T} (g:Good x) (v:Int): ∀ a∈yZ (some x) v,InK .i64 a:=fun a h=>by
 have h1:=(zG6 g v).2 a h
 have h2:0<=a:=by
  have h:a∈(if zCD x v then _ else _:List Int):=h;split at h
  ·rename_i ht
   have hc:0<=yL x v:=by
    simp only [zCD,zA,zF] at ht;exact ht.2.2
   exact zJy _ _ (zMs hc _ _ hc) a h
  ·cases h
 exact InK.i64.2 (by unfold zAL;omega)
theorem zCE {x:zX.T} {b c:Int} {k:Nat} (h:k<=24576):zAA x b (30000 - k) c=c::(if yI x c<0 then [] else if yI x c=b then [] else zAA x b (30000 - (k+1)) (yI x c)):=by
 rw [show 30000 - k=(30000 - (k+1))+1 by omega];rfl
theorem zE3 {x:zX.T} {v:Int} (h1:0<=v) (h2:v<x.1.1) (h3:0<=yL x v):yZ (some x) v=zAA x (zAc x v).1 30000 (zAc x v).1:=by
 show (if zCD x v then _ else _:List Int)=_;rw [if_pos (by unfold zCD;rw [decide_eq_true h1,decide_eq_true h2,decide_eq_true h3];rfl)]
theorem zEj {x:zX.T} {v:Int} (h: ¬ (0<=v/\v<x.1.1/\0<=yL x v)):yZ (some x) v=[]:=by
 show (if zCD x v then _ else _:List Int)=_;rw [if_neg (fun e=>h (by simpa [zCD] using e))]
def zZM (x:zX.T) (b:Int):Spec Nat where
 inv k:=zRF (yI x) b k/\(zAA x b 30000 b).drop k=zAA x b (30000 - k) (iter (yI x) b k)
 live k:=[(6,.s (.int .i64 (iter (yI x) b k)))]
 keep:=[0,1,2,4]
 heap _:=[]
 keepH:=[]
 mu k:=30000 - k
theorem zQ4 (x:zX.T) (v:Int) (g:Good x):zRE ⟨tyL,[(73,zJw),(74,zJr),(68,zFc)],[]⟩ f87 [⟨.pt zX,some x⟩,⟨jF,v⟩] (yZ (some x) v):=by
 repeat' (conv=>whnf
          first|done|refine qy ?_|refine qG fun _=> ?_|refine qw (fun _=> ?_) (fun _=> ?_)|apply qt|refine qi (fun _=> ?_) (fun _=> ?_)|refine (fun (l:Nat)=> ?_)|refine y5 Nat (y5 (zZM x (zAc x v).1) (y5 (fun k=>(zAA x (zAc x v).1 30000 (zAc x v).1).take k) (yH (y5 0 (yH (jQ.out ?_) (yH (zBp.out ?_) (yH ?_ (yH ?_ rfl))))) (fun k hk=> ?_))))|((with_reducible show (∃ y,And (Spec.inv (zZM _ _) y) _));refine y5 (k+1) (yH (jQ.out ?_) (yH (zBp.out ?_) (yH (yH ?_ (yH ?_ rfl)) (jQ.out ?_)))))|refine yH (jQ.out (p:=(_++[_]) <+: _) ?_) ?_|refine zBp.out ?_|refine qu ?_|refine qv ?_ ?_|exact zT)
 all_goals try first|refine qz ?_|apply qz5
 all_goals try simp only [qn0,yC,yA,ETy.dflt,Int.reduceToNat,Int.reduceAdd,Int.reduceSub,Int.reduceNeg,Nat.reduceAdd,zZM] at *
 ·exact qh ⟨fun j a b=>by omega,rfl⟩
 ·exact zBp.intro rfl
 ·rename_i h1 h2 h3;rw [zE3 (v:=v) h1 h2 h3];have h24:=zBT g hk.1;have:=hk.2;rw [zCE h24] at this;exact qh (zOy this)
 ·rename_i h1 h2 h3;exact qh ⟨g,zV1 g (zHw g (zEC g v) _ _ (zEC g v)) k⟩
 ·rename_i h1 h2 h3 h4;rw [zE3 (v:=v) h1 h2 h3];have h24:=zBT g hk.1;have:=hk.2;rw [zCE h24,if_pos h4] at this;exact zBp.intro (zPZ this)
 ·rename_i h1 h2 h3 h4 h5;replace h5:yI x (iter (yI x) (zAc x v).1 k)=(zAc x v).1:=h5;rw [zE3 (v:=v) h1 h2 h3];have h24:=zBT g hk.1;have:=hk.2;rw [zCE h24,if_neg h4,if_pos h5] at this;exact zBp.intro (zPZ this)
 ·rename_i h1 h2 h3 h4 h5;replace h5: ¬ yI x (iter (yI x) (zAc x v).1 k)=(zAc x v).1:=h5;have h24:=zBT g hk.1;have:=hk.2;rw [zCE h24,if_neg h4,if_neg h5] at this;exact qh ⟨hk.1.succ h4 h5,(zDW this).2⟩
 ·rename_i h1 h2 h3 h4 h5;have h24:=zBT g hk.1;have:=hk.2;rw [zCE h24] at this;exact zBp.intro (zDW this).1
 ·rename_i h1 h2 h3 h4 h5;have h24:=zBT g hk.1;refine qh ?_;omega
 ·rename_i h1 h2 h3;exact zBp.intro (zEj (fun h=>h3 h.2.2)).symm
 ·rename_i h1 h2;exact zBp.intro (zEj (fun h=>h2 h.2.1)).symm
 ·rename_i h1;exact zBp.intro (zEj (fun h=>h1 h.1)).symm
theorem zNZ (v:Int):zRE ⟨tyL,[(73,zJw),(74,zJr),(68,zFc)],[]⟩ f87 [⟨.pt zX,none⟩,⟨jF,v⟩] (yZ none v):=by
 repeat' (conv=>whnf
          first|done|refine qy ?_|refine qG fun _=> ?_|refine qw (fun _=> ?_) (fun _=> ?_)|apply qt|refine qi (fun _=> ?_) (fun _=> ?_)|refine (fun (l:Nat)=> ?_)|refine zBp.out ?_|refine qu ?_|refine qv ?_ ?_|exact zT)
 all_goals try first|refine qz ?_|apply qz5
 all_goals try simp only [qn0,yC,yA,ETy.dflt,Int.reduceToNat,Int.reduceAdd,Int.reduceSub,Int.reduceNeg,Nat.reduceAdd] at *
 exact zBp.intro rfl
theorem z3U:zFw prog z2Z:=fun f ps L h=>by
 obtain ⟨rfl,o,v,rfl,hg,rfl⟩:=h;cases o with
 | none=>exact seq_ok (zCw (fn:=[(73,zJw),(74,zJr),(68,zFc)]) (fr:=[]) ⟨zKe,zKh,zHT,trivial⟩ trivial) func87 rfl (by kernel_rfl) rfl (by kernel_rfl) (zU rfl) (fun a h=>by cases h) fun _=>zNZ v
 | some x=>exact seq_ok (zCw (fn:=[(73,zJw),(74,zJr),(68,zFc)]) (fr:=[]) ⟨zKe,zKh,zHT,trivial⟩ trivial) func87 rfl (by kernel_rfl) rfl (by kernel_rfl) (zU rfl) (zQj (hg x rfl) v) fun _=>zQ4 x v (hg x rfl)
theorem z7e:zAI prog 45 z67:=z6l z3U
end S1
