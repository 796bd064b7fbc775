/- A part of the proofs of the laws. -/
import Derived.Test.YtbfghjbhfgbdnaaGreatT0toVmInl
import Derived.Test.YtbfghjbhfgbdnaaGreatVmSort
import Derived.Test.YtbfghjbhfgbdnaaGreatLaySort
import Derived.RangeFuncFrom
import Derived.RangeFuncLeaves
import Derived.Test.YtbfghjbhfgbdnaaGreatVmCode2toVmKit
import Derived.Maps.RangeRun
import Derived.Scope
set_option linter.unusedSimpArgs false
set_option linter.unusedVariables false
set_option maxHeartbeats 8000000
set_option maxRecDepth 100000
open Go.Proofs.Tryz
open Go Go.Vm Go.Proofs
namespace S1
def zNp (x y:Int):Int:=if x<y then -1 else if x>y then 1 else 0
theorem z2p {fn} (x:Int):zAk ⟨tyL,fn,[]⟩ f138 [(ETy.int .i64).av x] (fun v=>v= .s (.bool false)):=by
 repeat' (conv=>whnf
          first|done|refine qy ?_|refine qG fun _=> ?_|refine qw (fun _=> ?_) (fun _=> ?_)|apply qt|refine qi (fun _=> ?_) (fun _=> ?_)|refine qu ?_|refine qv ?_ ?_|exact zL)
 all_goals try first|refine qz ?_|apply qz5
 all_goals try simp only [qn0,zY,zX,ETy.dflt,Int.reduceToNat,Int.reduceAdd,Int.reduceSub,Int.reduceNeg,Nat.reduceAdd] at *
 simp
def z6C:List AV->Option Res:=zF4 (.int .i64) (fun _=>some (none,none,.s (.bool false)))
theorem z4W:jN prog 138 z6C:=mkR (zAm fun x r h=>by cases h;exact fb (fn:=[]) trivial func138 fun _ _=>z2p x) func138
theorem z3K (x y:Int):zAk ⟨tyL,[(138,z6C)],[]⟩ f113 [(ETy.int .i64).av x,(ETy.int .i64).av y] (fun v=>v= .s (.int .i64 (zNp x y))):=by
 repeat' (conv=>whnf
          first|done|refine qy ?_|refine qG fun _=> ?_|refine qw (fun _=> ?_) (fun _=> ?_)|apply qt|refine qi (fun _=> ?_) (fun _=> ?_)|refine qu ?_|refine qv ?_ ?_|exact zL)
 all_goals try first|refine qz ?_|apply qz5
 all_goals try simp only [qn0,zY,zX,ETy.dflt,Int.reduceToNat,Int.reduceAdd,Int.reduceSub,Int.reduceNeg,Nat.reduceAdd,zNp] at *
 all_goals (repeat' split)<;>omega
def z5X:List AV->Option Res:=zFm (.int .i64) (.int .i64) (fun x y=>some (none,none,.s (.int .i64 (zNp x y))))
theorem zZ2:jN prog 113 z5X:=mkR (zA4 fun x y r h=>by cases h;exact fb (by exact ⟨z4W,trivial⟩) func113 fun _ _=>z3K x y) func113
def orR:List Int->Int
 | []=>0
 | x::r=>if x=0 then orR r else x
def z0z (l:List Int):Spec Nat where
 inv x:=x<=l.length/\orR l=orR (l.drop x)
 live x:=[(8,.s (.int .i64 x))]
 keep:=[3,6,7]
 heap _:=[]
 keepH:=[]
 mu x:=l.length - x
theorem z5M {fn} (l:List Int):zAk ⟨tyL,fn,[]⟩ f124 [(ETy.sl (.int .i64)).av l] (fun v=>v= .s (.int .i64 (orR l))):=by
 repeat' (conv=>whnf
          first|done|refine qy ?_|refine qG fun _=> ?_|refine qw (fun _=> ?_) (fun _=> ?_)|apply qt|refine qi (fun _=> ?_) (fun _=> ?_)|(refine jS 3 rfl (z0z l) (0) ?_ ?_ ?_ fun x hx=> ?_)|with_reducible refine jK (z0z _) (x+1) ?_ ?_ ?_ ?_|refine qu ?_|refine qv ?_ ?_|exact zL)
 all_goals try first|refine qz ?_|apply qz5
 all_goals try simp only [qn0,zY,zX,ETy.dflt,Int.reduceToNat,Int.reduceAdd,Int.reduceSub,Int.reduceNeg,Nat.reduceAdd,z0z] at *
 all_goals try (refine qh ?_;omega)
 ·exact qh ⟨y7 _,rfl⟩
 ·rename_i h1 h2;rw [hx.2,zCt 0 h1,orR,if_neg h2]
 ·rename_i h1 h2;exact qh ⟨by omega,by rw [hx.2,zCt 0 h1,orR,if_pos h2]⟩
 ·rw [hx.2,zHf (by assumption)];rfl
def orC:List AV->Option Res:=zF4 (.sl (.int .i64)) (fun l=>some (none,none,.s (.int .i64 (orR l))))
theorem z5m:jN prog 124 orC:=mkR (zAm fun l r h=>by cases h;exact fb (fn:=[]) trivial func124 fun _ _=>z5M l) func124
def cfW (a b:Wit):Int:=orR [zNp a.2.2 b.2.2,zNp a.2.1 b.2.1]
theorem z1w (a b:Wit):zAk ⟨tyL,[(113,z5X),(124,orC)],[]⟩ f123 [zCp.av a,zCp.av b] (fun v=>v= .s (.int .i64 (cfW a b))):=by
 repeat' (conv=>whnf
          first|done|refine qy ?_|refine qG fun _=> ?_|refine qw (fun _=> ?_) (fun _=> ?_)|apply qt|refine qi (fun _=> ?_) (fun _=> ?_)|refine qu ?_|refine qv ?_ ?_|exact zL)
 all_goals try first|refine qz ?_|apply qz5
 all_goals try simp only [qn0,zY,zX,ETy.dflt,Int.reduceToNat,Int.reduceAdd,Int.reduceSub,Int.reduceNeg,Nat.reduceAdd,cfW] at *
 try rfl
def z5e:List AV->Option Res:=zFm zCp zCp (fun a b=>some (none,none,.s (.int .i64 (cfW a b))))
theorem z0f:jN prog 123 z5e:=mkR (zA4 fun a b r h=>by cases h;exact fb (by exact ⟨zZ2,z5m,trivial⟩) func123 fun _ _=>z1w a b) func123
theorem z4Y (a b:Wit):cfW a b=if a.2.2=b.2.2 then zNp a.2.1 b.2.1 else zNp a.2.2 b.2.2:=by
 simp only [cfW,orR,zNp]
 repeat' split
 all_goals first|rfl|omega
def lt2 (p r q s:Int):Bool:=decide (p<q\/(p=q/\r<s))
theorem zZL (p r q s:Int):decide ((if p=q then zNp r s else zNp p q)<0)=lt2 p r q s:=by
 unfold lt2
 congr 1
 unfold zNp;apply propext
 by_cases h1:p=q
 ·subst h1
  by_cases h2:r<s
  ·simp [h2]
  ·by_cases h3:r>s<;>simp [h2,h3]
 ·by_cases h2:p<q
  ·simp [h1,h2]
  ·by_cases h3:p>q<;>simp [h1,h2,h3]
theorem zTt (p r:Int):lt2 p r p r=false:=by simp [lt2]
theorem lt2_trans (p r q s t u:Int) (h1:lt2 p r q s=true) (h2:lt2 q s t u=true):lt2 p r t u=true:=by
 simp only [lt2,zB] at *;omega
theorem zKJ (p r q s t u:Int) (h1:lt2 p r q s=false) (h2:lt2 q s t u=false):lt2 p r t u=false:=by
 simp only [lt2,yX] at *;omega
theorem z5Q:z05 zCp cfW:=by
 have key: ∀ a b:RT zCp,ltOf (fun a b:RT zCp=>cfW a.1 b.1) a b=lt2 a.1.2.2 a.1.2.1 b.1.2.2 b.1.2.1:=by
  intro a b;show decide (cfW a.1 b.1<0)=_;rw [z4Y];exact zZL _ _ _ _
 refine ⟨fun x=>by rw [key];exact zTt _ _,fun x y z h1 h2=> ?_,fun x y z h1 h2=> ?_⟩
 ·rw [key] at h1 h2 ⊢;exact lt2_trans _ _ _ _ _ _ h1 h2
 ·rw [key] at h1 h2 ⊢;exact zKJ _ _ _ _ _ _ h1 h2
def zZc:List AV->St->(AV->St->Prop)->Prop:=zFd zCp (zEJ zCp cfW) (z4o 123) 1
theorem zY5 : zH9 prog 122 zZc ∧ ∃ fn, Tryz.prog.funcs[122]? = some fn ∧ (fn.name == "runtime.NumGoroutine") = false ∧ fn.body.isNone = false :=
 ⟨zQF (ρ:=Go.Proofs.S1.laySortF_ren) Go.Proofs.S1.laySortF (e:=zCp) rfl rfl (by decide) (fun w=>((zYT (fn:=[]) trivial).ty 45 _ rfl).run_isAgg) (fun w=>((zYT (fn:=[]) trivial).ty 45 _ rfl).run_sizeOf) (enters_of func123 (by kernel_rfl) rfl) z5Q (fun x y=>z0f.1 _ _ rfl),
   _,func122,by kernel_rfl,by kernel_rfl⟩
def zT9:List AV->St->(AV->St->Prop)->Prop:=zLe zBl (fun l=>l.isEmpty)
theorem zQh : zH9 prog 103 zT9 ∧ ∃ fn, Tryz.prog.funcs[103]? = some fn ∧ (fn.name == "runtime.NumGoroutine") = false ∧ fn.body.isNone = false :=
 ⟨zUo (ρ:=Go.Proofs.S1.laySortI_ren) Go.Proofs.S1.laySortI,_,func103,by kernel_rfl,by kernel_rfl⟩
end S1
namespace S1
def s3 (t:P3):P3:=((zBl [t.1,t.2.1,t.2.2]).getD 0 0,(zBl [t.1,t.2.1,t.2.2]).getD 1 0,(zBl [t.1,t.2.1,t.2.2]).getD 2 0)
def zDz (t:P3):List P3:=[s3 t]
theorem z2G (t:P3):zAk ⟨tyL,[],[(103,.run zT9)]⟩ f141 [ETy.arr3.av t] (fun v=>v= .s (.sl .arr3 (zDz t))):=by
 repeat' (conv=>whnf
          first|done|refine qy ?_|refine qG fun _=> ?_|refine qw (fun _=> ?_) (fun _=> ?_)|apply qt|refine qi (fun _=> ?_) (fun _=> ?_)|refine qu ?_|refine qv ?_ ?_|exact zL)
 all_goals try first|refine qz ?_|apply qz5
 all_goals try simp only [qn0,zY,zX,ETy.dflt,Int.reduceToNat,Int.reduceAdd,Int.reduceSub,Int.reduceNeg,Nat.reduceAdd,zDz,s3] at *
 try rfl
def z2I:List AV->Option Res:=zF4 .arr3 (fun t=>some (none,none,.s (.sl .arr3 (zDz t))))
theorem z1d:jN prog 141 z2I:=mkR (zAm fun t r h=>by cases h;exact fb (fn:=[]) trivial func141 (p2:=by exact ⟨zQh,trivial⟩) fun _ _=>z2G t) func141
theorem zRF (n kind:Int) (l:List P3) (hb:l.length<=8192):zGM ⟨tyL,[(141,z2I)],[]⟩ f139 [jQ.av (n,l),(ETy.int .i64).av kind,ETy.fnc.av (some 141)] (fun v obs=>v= .s (.own 0 0 (prS zDz kind l l.length).2.2.length)/\obs=[.row zCp 45 (prS zDz kind l l.length).2.2]):=by
 have hS:=fun x (h:x<=8192)=>zYv zDz (fun _=>(by decide:1<=3)) kind l x h
 repeat' (conv=>whnf
          first|done|refine qy ?_|refine qG fun _=> ?_|refine qw (fun _=> ?_) (fun _=> ?_)|apply qt|refine qi (fun _=> ?_) (fun _=> ?_)|(refine jS 5 rfl (zJz zDz kind l) (0) ?_ ?_ ?_ fun x hx=> ?_)|with_reducible refine jK (zJz _ _ _) (x+1) ?_ ?_ ?_ ?_|(refine jS 8 rfl (zJq kind x (zDz (l.getD x (0,0,0))) (prS zDz kind l x)) (0) ?_ ?_ ?_ fun y hy=> ?_)|with_reducible refine jK (zJq _ _ _ _) (y+1) ?_ ?_ ?_ ?_|(refine jS 11 rfl (zJx kind x (zAc (jL (prK kind x (zDz (l.getD x (0,0,0)))) (prS zDz kind l x) y).1 ((zDz (l.getD x (0,0,0))).getD y (0,0,0))) (jL (prK kind x (zDz (l.getD x (0,0,0)))) (prS zDz kind l x) y).2) (0) ?_ ?_ ?_ fun z hz=> ?_)|with_reducible refine jK (zJx _ _ _ _) (z+1) ?_ ?_ ?_ ?_|refine qu ?_|refine qv ?_ ?_|exact zL)
 all_goals try first|refine qz ?_|apply qz5
 all_goals try simp only [qn0,zY,zX,ETy.dflt,Int.reduceToNat,Int.reduceAdd,Int.reduceSub,Int.reduceNeg,Nat.reduceAdd,zJz,zJq,zJx,zD6,zN5,zKP] at *
 all_goals try (refine qh ?_;omega)
 all_goals try (rw [zQf (by assumption)];done)
 all_goals try (rw [zTF (by assumption)];(try simp);done)
 all_goals try first
  | (have e:z=(zAc (jL (prK kind x (zDz (l.getD x (0,0,0)))) (prS zDz kind l x) y).1 ((zDz (l.getD x (0,0,0))).getD y (0,0,0))).length:=by omega
     subst e;first|rfl|(rw [zD6,zAt];rfl))
  | (have e:y=(zDz (l.getD x (0,0,0))).length:=by omega
     subst e;rfl)
  | (have e:x=l.length:=by omega
     subst e;rfl)
 all_goals
  have hB:=zOb (kind:=kind) (i:=x) (ks:=zDz (l.getD x (0,0,0))) (hS x (by omega)) (by decide:1<=3) y (by omega);have h1:=hB.1 ((zDz (l.getD x (0,0,0))).getD y (0,0,0));have h2:=hB.2;have h3:=zOS kind x (zAc (jL (prK kind x (zDz (l.getD x (0,0,0)))) (prS zDz kind l x) y).1 ((zDz (l.getD x (0,0,0))).getD y (0,0,0))) (jL (prK kind x (zDz (l.getD x (0,0,0)))) (prS zDz kind l x) y).2 z;have h4:y<=3:=jB hy (by decide:1<=3)
  have h5:y*(3*x+3)<=3*(3*x+3):=yG _ h4;refine qh ?_;generalize y*(3*x+3)=q at *
 ·omega
 ·unfold zBi;simp only [zZ,List.take_zero,List.length_nil];omega
def zP8:List AV->Option zLx:=zOs jQ (.int .i64) .fnc (fun s kind f=>match f with
 | some 141=>some (none,some (s.2.length<=8192),.s (.own 0 0 (prS zDz kind s.2 s.2.length).2.2.length),[.row zCp 45 (prS zDz kind s.2 s.2.length).2.2])
 | _=>none)
theorem zRi:zEO prog 139 zP3:=zW5 (zPs fun s kind f r h=>by
 match f,h with
 | some 140,h=>cases h;exact fbF (fn:=[(140,zPI)]) ⟨zSt,trivial⟩ func139 fun _ h=>zRj s.1 kind s.2 h) func139
theorem zRb:zEO prog 139 zP8:=zW5 (zPs fun s kind f r h=>by
 match f,h with
 | some 141,h=>cases h;exact fbF (fn:=[(141,z2I)]) ⟨z1d,trivial⟩ func139 fun _ h=>zRF s.1 kind s.2 h) func139
theorem zXt (n:Int) (l:List P3) (hb:l.length<=8192):zGM ⟨tyL,[],[(139,.res zP3)]⟩ f118 [jQ.av (n,l)] (fun v obs=>v= .s (.own 0 0 (prS jC 3 l l.length).2.2.length)/\obs=[.row zCp 45 (prS jC 3 l l.length).2.2]):=by
 repeat' (conv=>whnf
          first|done|refine qy ?_|refine qG fun _=> ?_|refine qw (fun _=> ?_) (fun _=> ?_)|apply qt|refine qi (fun _=> ?_) (fun _=> ?_)|refine qu ?_|refine qv ?_ ?_|exact zL)
 all_goals try first|refine qz ?_|apply qz5
 all_goals try simp only [qn0,zY,zX,ETy.dflt,Int.reduceToNat,Int.reduceAdd,Int.reduceSub,Int.reduceNeg,Nat.reduceAdd] at *
def zZ5:List AV->Option zLx:=zF4 jQ (fun s=>some (none,some (s.2.length<=8192),.s (.own 0 0 (prS jC 3 s.2 s.2.length).2.2.length),[.row zCp 45 (prS jC 3 s.2 s.2.length).2.2]))
theorem zWd:zEO prog 118 zZ5:=zW5 (zDq fun s r h=>by cases h;exact fbF (fn:=[]) trivial func118 (p2:=by exact ⟨zRi,trivial⟩) fun _ h=>zXt s.1 s.2 h) func118
theorem zOw (n:Int) (l:List P3) (hb:l.length<=8192):zGM ⟨tyL,[],[(139,.res zP8)]⟩ f119 [jQ.av (n,l)] (fun v obs=>v= .s (.own 0 0 (prS zDz 4 l l.length).2.2.length)/\obs=[.row zCp 45 (prS zDz 4 l l.length).2.2]):=by
 repeat' (conv=>whnf
          first|done|refine qy ?_|refine qG fun _=> ?_|refine qw (fun _=> ?_) (fun _=> ?_)|apply qt|refine qi (fun _=> ?_) (fun _=> ?_)|refine qu ?_|refine qv ?_ ?_|exact zL)
 all_goals try first|refine qz ?_|apply qz5
 all_goals try simp only [qn0,zY,zX,ETy.dflt,Int.reduceToNat,Int.reduceAdd,Int.reduceSub,Int.reduceNeg,Nat.reduceAdd] at *
def zNZ:List AV->Option zLx:=zF4 jQ (fun s=>some (none,some (s.2.length<=8192),.s (.own 0 0 (prS zDz 4 s.2 s.2.length).2.2.length),[.row zCp 45 (prS zDz 4 s.2 s.2.length).2.2]))
theorem zOv:zEO prog 119 zNZ:=zW5 (zDq fun s r h=>by cases h;exact fbF (fn:=[]) trivial func119 (p2:=by exact ⟨zRb,trivial⟩) fun _ h=>zOw s.1 s.2 h) func119
end S1
namespace S1
theorem zLY {α:Type} {l:List α} (h: ¬ (l.length:Int)>0):l=[]:=by
 cases l with
 | nil=>rfl
 | cons a l=>exact absurd (by simp) h
theorem zF1 {n:Int} {l:List P3} (h: ¬ ((zBm (n,l)).length:Int)>0):zM1 (n,l):=by
 have h:=zLY h;unfold zBm at h;split at h
 ·cases h
 ·rename_i hb
  have hb: ¬ (n<0\/n>4096\/(l.length:Int)>8192):=by
   simpa only [zXc,yN,zB] using hb
  have hc:n<=4096/\0<=n/\l.length<=8192:=by omega
  refine ⟨hc.2.1,hc.1,hc.2.2,fun i hi=> ?_⟩;have:=jI.1 h i (zQ.2 hi);unfold z2m at this;split at this
  ·assumption
  ·cases this
theorem zKq {s:List Bool} {i j:Nat} (h:(s.set i true).getD j false=true):i=j\/s.getD j false=true:=by
 by_cases e:i=j
 ·exact .inl e
 ·rw [gdE,qU e] at h;exact .inr (by rw [gdE];exact h)
theorem zMO {n:Nat} {l:List P3} {v:Nat} (hl: ∀ j,j<l.length->0<=(l.getD j (0,0,0)).1/\0<=(l.getD j (0,0,0)).2.1/\0<=(l.getD j (0,0,0)).2.2) :
 ∀ i,i<=l.length->(zDE n l i).getD v false=true->∃ j,j<i/\zV (l.getD j (0,0,0)) v
 | 0,_,h=>by
   have:(zDE n l 0).getD v false=false:=by
    show (List.replicate n false).getD v false=false;rw [gdE,yY];split<;>rfl
   rw [this] at h;cases h
 | i + 1,hi,h=>by
   have h:(zMf (zDE n l i) (l.getD i (0,0,0))).getD v false=true:=h;obtain ⟨k1,k2,k3⟩:=hl i (by omega);rcases zKq h with e|h
   ·exact ⟨i,by omega,.inr (.inr (by omega))⟩
   ·rcases zKq h with e|h
    ·exact ⟨i,by omega,.inr (.inl (by omega))⟩
    ·rcases zKq h with e|h
     ·exact ⟨i,by omega,.inl (by omega)⟩
     ·obtain ⟨j,h1,h2⟩:=zMO hl i (by omega) h;exact ⟨j,by omega,h2⟩
theorem zWm {n:Int} {l:List P3} (hf:zM1 (n,l)) (h: ¬ ((zH4 (n,l)).length:Int)>0):z5V (n,l):=by
 have h:=zLY h;intro v hv;have:=jI.1 h v (zQ.2 (by omega));unfold loG at this;split at this
 ·rename_i ht;exact zMO (fun j hj=>by have:=zAv (hf.2.2.2 j hj);omega) l.length (zH _) ht
 ·cases this
def zD1:List (List Wit)->List Wit
 | []=>[]
 | l::r=>if (l.length:Int)>0 then zEJ zCp cfW l else zD1 r
def allR (s:Int×List P3):List Wit:=zD1 [zBm s,dgL s.2 s.2.length,(prS jC 3 s.2 s.2.length).2.2,(prS zDz 4 s.2 s.2.length).2.2,zH4 s,zVB s]
theorem zJS (l:List Wit):(zEJ zCp cfW l).length=l.length:=zGT z5Q l
theorem z3Q (n:Int) (l:List P3):zGM ⟨tyL,[],[(116,.res zYq),(117,.res z42),(118,.res zZ5),(119,.res zNZ),(120,.res zSI),(121,.res zZY),(122,.run zZc)]⟩ f86 [jQ.av (n,l)] (fun v obs=>v= .s (.own 0 0 (allR (n,l)).length)/\obs=[.row zCp 45 (allR (n,l))]):=by
 repeat' (conv=>whnf
          first|done|refine qy ?_|refine qG fun _=> ?_|refine qw (fun _=> ?_) (fun _=> ?_)|apply qt|refine qi (fun _=> ?_) (fun _=> ?_)|(refine zJa 2 rfl ?_;refine Or.inl (yM (7) ?_))|refine qu ?_|refine qv ?_ ?_|exact zL)
 all_goals try first|refine qz ?_|apply qz5
 all_goals try simp only [qn0,zY,zX,ETy.dflt,Int.reduceToNat,Int.reduceAdd,Int.reduceSub,Int.reduceNeg,Nat.reduceAdd] at *
 all_goals first
  | (simp only [allR,zD1, *,zJS,if_true,if_false,List.take_zero,List.drop_length,yJ,zAr,List.length_nil];first|done|exact (zJS _).symm)
  | (refine qh ?_;first|exact (zF1 ‹_›).2.2.1|exact zF1 ‹_›|exact ⟨zF1 ‹_›,zWm (zF1 ‹_›) ‹_›⟩)
def z6F:List AV->Option zLx:=zF4 jQ (fun s=>some (none,none,.s (.own 0 0 (allR s).length),[.row zCp 45 (allR s)]))
theorem z2y:zEO prog 86 z6F:=zW5 (zDq fun s r h=>by cases h;exact fbF (fn:=[]) trivial func86 (p2:=by exact ⟨zWv,z0q,zWd,zOv,zSP,zYE,zY5,trivial⟩) fun _ _=>z3Q s.1 s.2) func86
end S1
namespace S1
def zHh (s:Int×List P3):Wit:=(allR s).headD (0,0,0)
theorem zXG (n:Int) (l:List P3):zAk ⟨tyL,[],[(86,.res z6F)]⟩ f54 [jQ.av (n,l)] (fun v=>v=zCp.av (zHh (n,l))):=by
 repeat' (conv=>whnf
          first|done|refine qy ?_|refine qG fun _=> ?_|refine qw (fun _=> ?_) (fun _=> ?_)|apply qt|refine qi (fun _=> ?_) (fun _=> ?_)|refine qu ?_|refine qv ?_ ?_|exact zL)
 all_goals try first|refine qz ?_|apply qz5
 all_goals try simp only [qn0,zY,zX,ETy.dflt,Int.reduceToNat,Int.reduceAdd,Int.reduceSub,Int.reduceNeg,Nat.reduceAdd] at *
 ·rename_i h1 h2;cases h:allR (n,l) with
  | nil=>rw [h] at h2;simp at h2
  | cons a r=>unfold zHh;rw [h];exact jE.intro rfl
 ·rename_i h2;unfold zHh;rw [zLY h2];exact jE.intro rfl
def zQI:List AV->Option Res:=zF4 jQ (fun s=>some (none,none,zCp.av (zHh s)))
theorem zQz:jN prog 54 zQI:=mkR (zAm fun s r h=>by cases h;exact fb (fn:=[]) trivial func54 (p2:=by exact ⟨z2y,trivial⟩) fun _ _=>zXG s.1 s.2) func54
def isR (s:Int×List P3):Bool:=decide (zHh s=(0,0,0))
theorem zWb {fn} (l:List P3) (hb:l.length<=8192):zAk ⟨tyL,fn,[]⟩ f42 [(ETy.sl .arr3).av l] (fun v=>v=(ETy.sl .arr3).av l):=by
 repeat' (conv=>whnf
          first|done|refine qy ?_|refine qG fun _=> ?_|refine qw (fun _=> ?_) (fun _=> ?_)|apply qt|refine qi (fun _=> ?_) (fun _=> ?_)|refine qu ?_|refine qv ?_ ?_|exact zL)
 all_goals try first|refine qz ?_|apply qz5
 all_goals try simp only [qn0,zY,zX,ETy.dflt,Int.reduceToNat,Int.reduceAdd,Int.reduceSub,Int.reduceNeg,Nat.reduceAdd] at *
 ·exact (‹l=[]›).symm
 ·exact qI
def zUX:List AV->Option Res:=zF4 (.sl .arr3) (fun l=>some (none,some (l.length<=8192),.s (.sl .arr3 l)))
theorem zWz:jN prog 42 zUX:=mkR (zAm fun l r h=>by cases h;exact fb (fn:=[]) trivial func42 fun _ h=>zWb l h) func42
def eqR (a b:List P3):Bool:=decide (a=b)
def z06 (a b:List P3):Spec Nat where
 inv x:=x<=a.length/\∀ i,i<x->a.getD i (0,0,0)=b.getD i (0,0,0)
 live x:=[(13,.s (.int .i64 x))]
 keep:=[0,1,12]
 heap _:=[]
 keepH:=[]
 mu x:=a.length - x
theorem zYF {fn} (a b:List P3):zAk ⟨tyL,fn,[]⟩ f87 [(ETy.sl .arr3).av a,(ETy.sl .arr3).av b] (fun v=>v= .s (.bool (eqR a b))):=by
 repeat' (conv=>whnf
          first|done|refine qy ?_|refine qG fun _=> ?_|refine qw (fun _=> ?_) (fun _=> ?_)|apply qt|refine qi (fun _=> ?_) (fun _=> ?_)|(refine jS 4 rfl (z06 a b) (0) ?_ ?_ ?_ fun x hx=> ?_)|with_reducible refine jK (z06 _ _) (x+1) ?_ ?_ ?_ ?_|refine qu ?_|refine qv ?_ ?_|exact zL)
 all_goals try first|refine qz ?_|apply qz5
 all_goals try simp only [qn0,zY,zX,ETy.dflt,Int.reduceToNat,Int.reduceAdd,Int.reduceSub,Int.reduceNeg,Nat.reduceAdd,z06,eqR] at *
 ·have e:a≠b:=fun e=>by subst e;exact absurd rfl ‹(a.length:Int)≠_›
  rw [decide_eq_false e]
 ·exact qh ⟨y7 _,fun i hi=>by omega⟩
 ·refine zA9.intro ⟨by omega,fun i hi=> ?_⟩
  by_cases e:i=x
  ·subst e;exact Prod.ext ‹_› (Prod.ext ‹_› ‹_›)
  ·exact hx.2 i (by omega)
 ·exact qh (by omega)
 ·have e:a≠b:=fun e=>by subst e;exact absurd rfl ‹(a.getD x (0,0,0)).snd.snd≠_›
  rw [decide_eq_false e]
 ·have e:a≠b:=fun e=>by subst e;exact absurd rfl ‹(a.getD x (0,0,0)).snd.fst≠_›
  rw [decide_eq_false e]
 ·have e:a≠b:=fun e=>by subst e;exact absurd rfl ‹(a.getD x (0,0,0)).fst≠_›
  rw [decide_eq_false e]
 ·have e:a=b:=List.ext_getElem (by omega) fun i h1 h2=>by
   have:=hx.2 i (by omega);rwa [gdE,gdE,gE h1,gE h2] at this
  rw [decide_eq_true e]
def zPx:List AV->Option Res:=zFm (.sl .arr3) (.sl .arr3) (fun a b=>some (none,none,.s (.bool (eqR a b))))
theorem zRA:jN prog 87 zPx:=mkR (zA4 fun a b r h=>by cases h;exact fb (fn:=[]) trivial func87 fun _ _=>zYF a b) func87
end S1
namespace S1
abbrev z6:ETy:= .pair jQ (.pair (.mp .arr2 (.int .i64)) (.sl (.int .i64)))
def zRU {ρ:Type} (e:ETy) (f:e.T->Option ρ):List AV->Option ρ :=
 zF4 (.pt e) (fun o=>match o with|some x=>f x|none=>none)
def zGO {ρ:Type} (e b:ETy) (f:e.T->b.T->Option ρ):List AV->Option ρ :=
 zFm (.pt e) b (fun o y=>match o with|some x=>f x y|none=>none)
theorem zG8 {P:Program} {e:ETy} {f:e.T->Option Res} {n:FuncId} (h: ∀ x r,f x=some r->zDY P n [(ETy.pt e).av (some x)] r): ∀ args r,zRU e f args=some r->zDY P n args r :=
 zAm fun o r hr=>by cases o with|none=>cases hr|some x=>exact h x r hr
theorem zBP {P:Program} {e b:ETy} {f:e.T->b.T->Option Res} {n:FuncId} (h: ∀ x y r,f x y=some r->zDY P n [(ETy.pt e).av (some x),b.av y] r): ∀ args r,zGO e b f args=some r->zDY P n args r :=
 zA4 fun o y r hr=>by cases o with|none=>cases hr|some x=>exact h x y r hr
def trn (c b:Int):Int:=c - c % 3+(c+b) % 3
def zAY (x:z6.T) (c:Int):Bool:=decide (0<=c)&&decide (c<3*(x.1.2.length:Int))
def jM (x:z6.T) (c:Int):Int:=if zAY x c then trn c 1 else -1
def jH (x:z6.T) (c:Int):Int:=if zAY x c then trn c 2 else -1
def p3 (t:P3) (k:Int):Int:=if k=0 then t.1 else if k=1 then t.2.1 else t.2.2
def yO (x:z6.T) (c:Int):Int:=if zAY x c then p3 (x.1.2.getD (c / 3).toNat (0,0,0)) (c % 3) else -1
def jP (x:z6.T) (c:Int):Int×Int:=(yO x (jM x c),yO x (jH x c))
def qR (x:z6.T) (e:Int×Int):Int:=(zAR .arr2 x.2.1 e).getD (-1)
def zA2 (x:z6.T) (c:Int):Int:=qR x ((jP x c).2,(jP x c).1)
def yL (x:z6.T) (v:Int):Int:=if 0<=v/\v<x.2.2.length then x.2.2.getD v.toNat 0 else -1
theorem tm3 {c:Int} (h:0<=c):c.tmod 3=c % 3:=Int.tmod_eq_emod_of_nonneg h
theorem td3 {c:Int} (h:0<=c):c.tdiv 3=c / 3:=Int.tdiv_eq_ediv_of_nonneg h
theorem z7 {x:z6.T} {c:Int} :zAY x c=true↔0<=c/\c<3*(x.1.2.length:Int):=by
 unfold zAY;rw [zA,zB,zB]
theorem zVC {fn} (c b:Int) (h:0<=c/\c<=1000000000/\0<=b/\b<=2):zAk ⟨tyL,fn,[]⟩ f94 [qX.av c,qX.av b] (fun v=>v= .s (.int .i64 (trn c b))):=by
 repeat' (conv=>whnf
          first|done|refine qy ?_|refine qG fun _=> ?_|refine qw (fun _=> ?_) (fun _=> ?_)|apply qt|refine qi (fun _=> ?_) (fun _=> ?_)|refine qu ?_|refine qv ?_ ?_|exact zL)
 all_goals try first|refine qz ?_|apply qz5
 all_goals try simp only [qn0,zY,zX,ETy.dflt,Int.reduceToNat,Int.reduceAdd,Int.reduceSub,Int.reduceNeg,Nat.reduceAdd,trn] at *
 all_goals try refine qh ?_
 all_goals (rw [tm3 (by omega)];try rw [tm3 (by omega)])
 all_goals (try simp only [zAZ]);(try omega)
def zPG:List AV->Option Res:=zFm qX qX (fun c b=>some (none,some (0<=c/\c<=1000000000/\0<=b/\b<=2),.s (.int .i64 (trn c b))))
theorem zN8:jN prog 94 zPG:=mkR (zA4 fun c b r h=>by cases h;exact fb (fn:=[]) trivial func94 fun _ h=>zVC c b h) func94
theorem z2q {fn} (x:z6.T) (c:Int):zAk ⟨tyL,fn,[]⟩ f92 [(ETy.pt z6).av (some x),qX.av c] (fun v=>v= .s (.bool (zAY x c))):=by
 obtain ⟨⟨n,l⟩,m,f⟩:=x
 repeat' (conv=>whnf
          first|done|refine qy ?_|refine qG fun _=> ?_|refine qw (fun _=> ?_) (fun _=> ?_)|apply qt|refine qi (fun _=> ?_) (fun _=> ?_)|refine qu ?_|refine qv ?_ ?_|exact zL)
 all_goals try first|refine qz ?_|apply qz5
 all_goals try simp only [qn0,zY,zX,ETy.dflt,Int.reduceToNat,Int.reduceAdd,Int.reduceSub,Int.reduceNeg,Nat.reduceAdd,zAY,qL] at *
 all_goals (rw [Bool.eq_iff_iff,zA,zB,zB])
 ·constructor
  ·intro h;exact ⟨by omega,h⟩
  ·intro h;exact h.2
 ·constructor
  ·intro h;cases h
  ·intro h;omega
def z4m:List AV->Option Res:=zGO z6 qX (fun x c=>some (none,none,.s (.bool (zAY x c))))
theorem zUM:jN prog 92 z4m:=mkR (zBP fun x c r h=>by cases h;exact fb (fn:=[]) trivial func92 fun _ _=>z2q x c) func92
theorem zCh {x:z6.T} {c:Int} (h1:0<=c) (h2:c<3*(x.1.2.length:Int)):yO x c=p3 (x.1.2.getD (c / 3).toNat (0,0,0)) (c % 3):=by
 unfold yO;rw [if_pos (z7.2 ⟨h1,h2⟩)]
theorem zQC {x:z6.T} {c:Int} (h: ¬ (0<=c/\c<3*(x.1.2.length:Int))):zAY x c=false:=by
 rw [<- zA3];exact fun e=>h (z7.1 e)
theorem z1Z {x:z6.T} {c:Int} (h: ¬ (0<=c/\c<3*(x.1.2.length:Int))):yO x c= -1:=by
 unfold yO;rw [zQC h];rfl
theorem z3M (t:P3) (k:Int) (h1:0<=k) (h2:k<3):[t.1,t.2.1,t.2.2].getD k.toNat 0=p3 t k:=by
 have:k=0\/k=1\/k=2:=by omega
 rcases this with e|e|e<;>subst e<;>rfl
theorem zNH {fn} (x:z6.T):zAk ⟨tyL,fn,[]⟩ f106 [(ETy.pt z6).av (some x)] (fun v=>v= .s (.int .i64 x.1.2.length)):=by
 obtain ⟨⟨n,l⟩,m,f⟩:=x
 repeat' (conv=>whnf
          first|done|refine qy ?_|refine qG fun _=> ?_|refine qw (fun _=> ?_) (fun _=> ?_)|apply qt|refine qi (fun _=> ?_) (fun _=> ?_)|refine qu ?_|refine qv ?_ ?_|exact zL)
 all_goals try first|refine qz ?_|apply qz5
 all_goals try simp only [qn0,zY,zX,ETy.dflt,Int.reduceToNat,Int.reduceAdd,Int.reduceSub,Int.reduceNeg,Nat.reduceAdd,qL] at *
def zCY:List AV->Option Res:=zRU z6 (fun x=>some (none,none,.s (.int .i64 x.1.2.length)))
theorem zEE:jN prog 106 zCY:=mkR (zG8 fun x r h=>by cases h;exact fb (fn:=[]) trivial func106 fun _ _=>zNH x) func106
theorem zNy {fn} (x:z6.T):zAk ⟨tyL,fn,[]⟩ f65 [(ETy.pt z6).av (some x)] (fun v=>v= .s (.int .i64 x.1.1)):=by
 obtain ⟨⟨n,l⟩,m,f⟩:=x
 repeat' (conv=>whnf
          first|done|refine qy ?_|refine qG fun _=> ?_|refine qw (fun _=> ?_) (fun _=> ?_)|apply qt|refine qi (fun _=> ?_) (fun _=> ?_)|refine qu ?_|refine qv ?_ ?_|exact zL)
 all_goals try first|refine qz ?_|apply qz5
 all_goals try simp only [qn0,zY,zX,ETy.dflt,Int.reduceToNat,Int.reduceAdd,Int.reduceSub,Int.reduceNeg,Nat.reduceAdd,qL] at *
def zB0:List AV->Option Res:=zRU z6 (fun x=>some (none,none,.s (.int .i64 x.1.1)))
theorem zCb:jN prog 65 zB0:=mkR (zG8 fun x r h=>by cases h;exact fb (fn:=[]) trivial func65 fun _ _=>zNy x) func65
theorem zUz (x:z6.T) (c:Int) (h:c<=1000000000):zAk ⟨tyL,[(92,z4m)],[]⟩ Tryz.f57 [(ETy.pt z6).av (some x),qX.av c] (fun v=>v= .s (.int .i64 (yO x c))):=by
 obtain ⟨⟨n,l⟩,m,f⟩:=x
 repeat' (conv=>whnf
          first|done|refine qy ?_|refine qG fun _=> ?_|refine qw (fun _=> ?_) (fun _=> ?_)|apply qt|refine qi (fun _=> ?_) (fun _=> ?_)|refine qu ?_|refine qv ?_ ?_|exact zL)
 all_goals try first|refine qz ?_|apply qz5
 all_goals try simp only [qn0,zY,zX,ETy.dflt,Int.reduceToNat,Int.reduceAdd,Int.reduceSub,Int.reduceNeg,Nat.reduceAdd,qL] at *
 ·refine zA9.intro ⟨by omega,?_⟩;rw [td3 (by assumption)];unfold zAZ;omega
 ·refine qh ?_;rw [td3 (by assumption)];omega
 ·refine qh ?_;rw [tm3 (by assumption)];omega
 ·rw [tm3 (by assumption),td3 (by assumption),zCh (by assumption) (by assumption)];exact z3M _ _ (by omega) (by omega)
 all_goals (rw [z1Z];intro h';first|exact absurd h'.2 ‹_›|exact absurd h'.1 ‹_›)
def zDe:List AV->Option Res:=zGO z6 qX (fun x c=>some (none,some (c<=1000000000),.s (.int .i64 (yO x c))))
theorem zEX:jN prog 57 zDe:=mkR (zBP fun x c r h=>by cases h;exact fb (by exact ⟨zUM,trivial⟩) func57 fun _ h=>zUz x c h) func57
theorem z0o (x:z6.T) (c:Int) (h:c<=1000000):zAk ⟨tyL,[(92,z4m),(94,zPG)],[]⟩ f59 [(ETy.pt z6).av (some x),qX.av c] (fun v=>v= .s (.int .i64 (jM x c))):=by
 repeat' (conv=>whnf
          first|done|refine qy ?_|refine qG fun _=> ?_|refine qw (fun _=> ?_) (fun _=> ?_)|apply qt|refine qi (fun _=> ?_) (fun _=> ?_)|refine qu ?_|refine qv ?_ ?_|exact zL)
 all_goals try first|refine qz ?_|apply qz5
 all_goals try simp only [qn0,zY,zX,ETy.dflt,Int.reduceToNat,Int.reduceAdd,Int.reduceSub,Int.reduceNeg,Nat.reduceAdd,qL] at *
 ·exact qh ⟨by assumption,Int.le_trans h (by decide),by decide,by decide⟩
 ·unfold jM;rw [if_pos (z7.2 ⟨by assumption,by assumption⟩)]
 all_goals (unfold jM;rw [zQC (by omega)];rfl)
def zPA:List AV->Option Res:=zGO z6 qX (fun x c=>some (none,some (c<=1000000),.s (.int .i64 (jM x c))))
theorem zKp:jN prog 59 zPA:=mkR (zBP fun x c r h=>by cases h;exact fb (by exact ⟨zUM,zN8,trivial⟩) func59 fun _ h=>z0o x c h) func59
theorem z1n (x:z6.T) (c:Int) (h:c<=1000000):zAk ⟨tyL,[(92,z4m),(94,zPG)],[]⟩ f61 [(ETy.pt z6).av (some x),qX.av c] (fun v=>v= .s (.int .i64 (jH x c))):=by
 repeat' (conv=>whnf
          first|done|refine qy ?_|refine qG fun _=> ?_|refine qw (fun _=> ?_) (fun _=> ?_)|apply qt|refine qi (fun _=> ?_) (fun _=> ?_)|refine qu ?_|refine qv ?_ ?_|exact zL)
 all_goals try first|refine qz ?_|apply qz5
 all_goals try simp only [qn0,zY,zX,ETy.dflt,Int.reduceToNat,Int.reduceAdd,Int.reduceSub,Int.reduceNeg,Nat.reduceAdd,qL] at *
 ·exact qh ⟨by assumption,Int.le_trans h (by decide),by decide,by decide⟩
 ·unfold jH;rw [if_pos (z7.2 ⟨by assumption,by assumption⟩)]
 all_goals (unfold jH;rw [zQC (by omega)];rfl)
def zOG:List AV->Option Res:=zGO z6 qX (fun x c=>some (none,some (c<=1000000),.s (.int .i64 (jH x c))))
theorem zLB:jN prog 61 zOG:=mkR (zBP fun x c r h=>by cases h;exact fb (by exact ⟨zUM,zN8,trivial⟩) func61 fun _ h=>z1n x c h) func61
theorem zTI {fn} (x:z6.T) (e:Int×Int):zAk ⟨tyL,fn,[]⟩ f105 [(ETy.pt z6).av (some x),ETy.arr2.av e] (fun v=>v= .s (.int .i64 (qR x e))):=by
 obtain ⟨⟨n,l⟩,m,f⟩:=x
 repeat' (conv=>whnf
          first|done|refine qy ?_|refine qG fun _=> ?_|refine qw (fun _=> ?_) (fun _=> ?_)|apply qt|refine qi (fun _=> ?_) (fun _=> ?_)|refine qu ?_|refine qv ?_ ?_|exact zL)
 all_goals try first|refine qz ?_|apply qz5
 all_goals try simp only [qn0,zY,zX,ETy.dflt,Int.reduceToNat,Int.reduceAdd,Int.reduceSub,Int.reduceNeg,Nat.reduceAdd,qL,qR] at *
 ·rename_i h;cases hm:zAR .arr2 m e with
  | none=>rw [hm] at h;cases h
  | some v=>rfl
 ·rename_i h;cases hm:zAR .arr2 m e with
  | none=>rfl
  | some v=>rw [hm] at h;cases h
def zGk:List AV->Option Res:=zGO z6 .arr2 (fun x e=>some (none,none,.s (.int .i64 (qR x e))))
theorem zFn:jN prog 105 zGk:=mkR (zBP fun x e r h=>by cases h;exact fb (fn:=[]) trivial func105 fun _ _=>zTI x e) func105
theorem zTf {fn} (x:z6.T) (v:Int):zAk ⟨tyL,fn,[]⟩ f96 [(ETy.pt z6).av (some x),qX.av v] (fun r=>r= .s (.int .i64 (yL x v))):=by
 obtain ⟨⟨n,l⟩,m,f⟩:=x
 repeat' (conv=>whnf
          first|done|refine qy ?_|refine qG fun _=> ?_|refine qw (fun _=> ?_) (fun _=> ?_)|apply qt|refine qi (fun _=> ?_) (fun _=> ?_)|refine qu ?_|refine qv ?_ ?_|exact zL)
 all_goals try first|refine qz ?_|apply qz5
 all_goals try simp only [qn0,zY,zX,ETy.dflt,Int.reduceToNat,Int.reduceAdd,Int.reduceSub,Int.reduceNeg,Nat.reduceAdd,qL,yL] at *
 ·rw [if_neg (by omega)]
 ·rw [if_neg (by omega)]
 ·rw [if_pos (by omega)]
def zE6:List AV->Option Res:=zGO z6 qX (fun x v=>some (none,none,.s (.int .i64 (yL x v))))
theorem zEH:jN prog 96 zE6:=mkR (zBP fun x v r h=>by cases h;exact fb (fn:=[]) trivial func96 fun _ _=>zTf x v) func96
theorem zYs {c b:Int} :trn c b<=c+2:=by unfold trn;omega
theorem zYb {x:z6.T} {c:Int} (h:c<=1000000):jM x c<=1000000000:=by
 have:= @zYs c 1;unfold jM;split<;>omega
theorem zWk {x:z6.T} {c:Int} (h:c<=1000000):jH x c<=1000000000:=by
 have:= @zYs c 2;unfold jH;split<;>omega
theorem z1K (x:z6.T) (c:Int) (h:c<=1000000):zAk ⟨tyL,[(59,zPA),(61,zOG),(57,zDe)],[]⟩ Tryz.f29 [(ETy.pt z6).av (some x),qX.av c] (fun v=>v=ETy.arr2.av (jP x c)):=by
 repeat' (conv=>whnf
          first|done|refine qy ?_|refine qG fun _=> ?_|refine qw (fun _=> ?_) (fun _=> ?_)|apply qt|refine qi (fun _=> ?_) (fun _=> ?_)|refine qu ?_|refine qv ?_ ?_|exact zL)
 all_goals try first|refine qz ?_|apply qz5
 all_goals try simp only [qn0,zY,zX,ETy.dflt,Int.reduceToNat,Int.reduceAdd,Int.reduceSub,Int.reduceNeg,Nat.reduceAdd,qL] at *
 ·exact qh (zYb (by omega))
 ·exact qh (zWk (by omega))
 ·exact jE.intro rfl
def zMI:List AV->Option Res:=zGO z6 qX (fun x c=>some (none,some (c<=1000000),ETy.arr2.av (jP x c)))
theorem zLA:jN prog 29 zMI:=mkR (zBP fun x c r h=>by cases h;exact fb (by exact ⟨zKp,zLB,zEX,trivial⟩) func29 fun _ h=>z1K x c h) func29
theorem z4d (x:z6.T) (c:Int) (h:c<=1000000):zAk ⟨tyL,[(29,zMI),(105,zGk)],[]⟩ f95 [(ETy.pt z6).av (some x),qX.av c] (fun v=>v= .s (.int .i64 (zA2 x c))):=by
 repeat' (conv=>whnf
          first|done|refine qy ?_|refine qG fun _=> ?_|refine qw (fun _=> ?_) (fun _=> ?_)|apply qt|refine qi (fun _=> ?_) (fun _=> ?_)|refine qu ?_|refine qv ?_ ?_|exact zL)
 all_goals try first|refine qz ?_|apply qz5
 all_goals try simp only [qn0,zY,zX,ETy.dflt,Int.reduceToNat,Int.reduceAdd,Int.reduceSub,Int.reduceNeg,Nat.reduceAdd,qL] at *
 rfl
def zTV:List AV->Option Res:=zGO z6 qX (fun x c=>some (none,some (c<=1000000),.s (.int .i64 (zA2 x c))))
theorem zI0:jN prog 95 zTV:=mkR (zBP fun x c r h=>by cases h;exact fb (by exact ⟨zLA,zFn,trivial⟩) func95 fun _ h=>z4d x c h) func95
end S1
namespace S1
def WOk (w:Wit):Prop:=w.1≠0/\zCp.inR w=true
theorem wrap64 {n:Int} (h: -10000<=n/\n<=10000):IntKind.i64.wrap n=n:=zSo (InK.i64.2 (by unfold zAZ;omega))
theorem zKF {k a b:Int} (h0:k≠0) (hk: -10000<=k/\k<=10000) (ha: -10000<=a/\a<=10000) (hb: -10000<=b/\b<=10000):WOk (k,a,b) :=
 ⟨h0,by simp only [ETy.inR,wrap64 hk,wrap64 ha,wrap64 hb,beq_self_eq_true,Bool.and_self]⟩
theorem zP1 {f:Nat->Option Wit} {n:Nat} (h: ∀ i,i<n->∀ w,f i=some w->WOk w): ∀ w∈(List.range n).filterMap f,WOk w:=by
 intro w hw;obtain ⟨i,hi,e⟩:=List.mem_filterMap.1 hw;exact h i (zQ.1 hi) w e
theorem zRL (s:Int×List P3): ∀ w∈zBm s,WOk w:=by
 unfold zBm;split
 ·intro w hw;rw [zF] at hw;subst hw;exact zKF (by decide) (by decide) (by decide) (by decide)
 ·rename_i hb
  have hb: ¬ (s.1<0\/s.1>4096\/(s.2.length:Int)>8192):=by
   simpa only [zXc,yN,zB] using hb
  refine zP1 fun i hi w e=> ?_;unfold z2m at e;split at e
  ·cases e
  ·cases e;exact zKF (by decide) (by decide) (by omega) (by decide)
theorem z03 {l:List P3} (hl:l.length<=8192): ∀ w∈dgL l l.length,WOk w :=
 zP1 fun i hi w e=>by
  unfold dgG at e;split at e
  ·cases e;exact zKF (by decide) (by decide) (by omega) (by decide)
  ·cases e
theorem zTJ {s:Int×List P3} (h:zM1 s): ∀ w∈zH4 s,WOk w :=
 zP1 fun i hi w e=>by
  have h1:=h.1;have h2:=h.2.1;unfold loG at e;split at e
  ·cases e
  ·cases e;exact zKF (by decide) (by decide) (by omega) (by decide)
theorem zYX {s:Int×List P3} (h:zM1 s): ∀ w∈zVB s,WOk w :=
 zP1 fun i hi w e=>by
  have h1:=h.1;have h2:=h.2.1;unfold piG at e;split at e
  ·cases e
  ·cases e;exact zKF (by decide) (by decide) (by omega) (by decide)
def zTR (l:List Int):Prop:= ∀ a∈l,0<=a/\a<=8192
theorem z0t {kind:Int} {i:Nat} {av:List Int} (h0:kind≠0) (hk: -10000<=kind/\kind<=10000) (hi:i<=8192) (ha:zTR av) (s:PS) (hs: ∀ w∈s.2,WOk w): ∀ w∈(jL (prA kind i av) s av.length).2,WOk w :=
 zAM (n:=av.length) (fun _ (t:PS)=> ∀ w∈t.2,WOk w) hs (fun j t hj ht=>by
  unfold prA;split
  ·exact ht
  ·intro w hw;rcases z8.1 hw with hw|hw
   ·exact ht w hw
   ·rw [zF] at hw;subst hw;have:=ha (av.getD j 0) (by rw [gdE,gE hj];exact qF hj)
    exact zKF h0 hk (by omega) (by omega)) av.length (zH _)
theorem zVj (kp:P3->List P3) {kind:Int} (h0:kind≠0) (hk: -10000<=kind/\kind<=10000) {l:List P3} (hl:l.length<=8192): ∀ w∈(prS kp kind l l.length).2.2,WOk w :=
 (zAM (n:=l.length) (fun _ (t:zIa×PS)=>(∀ k,zTR (zAc t.1 k))/\∀ w∈t.2.2,WOk w) ⟨fun k a h=>(by cases h),fun w h=>(by cases h)⟩ (fun i t hi ht=>by
   unfold prI;refine zAM (n:=(kp (l.getD i (0,0,0))).length) (fun _ (t:zIa×PS)=>(∀ k,zTR (zAc t.1 k))/\∀ w∈t.2.2,WOk w) ht (fun m t hm ht=> ?_) _ (zH _);refine ⟨fun k a ha=> ?_,z0t h0 hk (by omega) (ht.1 _) _ ht.2⟩;have ha:a∈zAc (zAe .arr3 t.1 ((kp (l.getD i (0,0,0))).getD m (0,0,0)) (zAc t.1 ((kp (l.getD i (0,0,0))).getD m (0,0,0))++[(i:Int)])) k:=ha;rw [zE0] at ha;split at ha
   ·rcases z8.1 ha with ha|ha
    ·exact ht.1 _ a ha
    ·rw [zF] at ha;omega
   ·exact ht.1 _ a ha) l.length (zH _)).2
theorem zDQ {l:List Wit} (h: ∀ w∈l,WOk w): ∀ w∈zEJ zCp cfW l,WOk w:=fun w hw=>h w (zMP z5Q l (fun x hx=>(h x hx).2) w hw)
theorem zWq (s:Int×List P3): ∀ w∈allR s,WOk w:=by
 obtain ⟨n,l⟩:=s;unfold allR zD1;split
 ·exact zDQ (zRL _)
 ·rename_i h1;have hf:=zF1 h1;have hl:l.length<=8192:=hf.2.2.1;unfold zD1;split
  ·exact zDQ (z03 hl)
  ·unfold zD1;split
   ·exact zDQ (zVj _ (by decide) (by decide) hl)
   ·unfold zD1;split
    ·exact zDQ (zVj _ (by decide) (by decide) hl)
    ·unfold zD1;split
     ·exact zDQ (zTJ hf)
     ·unfold zD1;split
      ·exact zDQ (zYX hf)
      ·intro w hw;cases hw
theorem zLF {s:Int×List P3} (h:(zHh s).1=0):allR s=[]:=by
 unfold zHh at h;have hw:=zWq s;cases e:allR s with
 | nil=>rfl
 | cons w r =>
   rw [e] at h hw;exact absurd h (hw w (zR ..)).1
theorem zMb {s:Int×List P3} (h:(zHh s).1=0):zHh s=(0,0,0):=by unfold zHh;rw [zLF h];rfl
theorem zFF: ∀ {ls:List (List Wit)},zD1 ls=[]->∀ l∈ls,l=[]
 | [],_,l,hl=>by cases hl
 | a ::r,h,l,hl=>by
   unfold zD1 at h;split at h
   ·rename_i ha;have:=zJS a;rw [h] at this;simp at this;omega
   ·rename_i ha;rcases zS.1 hl with e|hl
    ·subst e;exact zLY ha
    ·exact zFF h l hl
structure z6Q (s:Int×List P3):Prop where
 fit:zM1 s
 deg:dgL s.2 s.2.length=[]
 twi:(prS jC 3 s.2 s.2.length).2.2=[]
theorem zVx {s:Int×List P3} (h:(zHh s).1=0):z6Q s:=by
 have h:=zFF (zLF h);obtain ⟨n,l⟩:=s;refine ⟨zF1 (by rw [h (zBm (n,l)) (by simp)];simp),h _ (by simp),h _ (by simp)⟩
end S1
namespace S1
def z67 (x:Int×List P3) (s:List ((Int×Int)×Int)×List Int) (i:Nat):List ((Int×Int)×Int)×List Int :=
 (zAe .arr2 s.1 (jP (x,[],[]) (3*x.2.length - 1 - i)) (3*x.2.length - 1 - i),s.2.set (yO (x,[],[]) (3*x.2.length - 1 - i)).toNat (3*x.2.length - 1 - i))
def zHW (x:Int×List P3) (i:Nat):List ((Int×Int)×Int)×List Int:=jL (z67 x) ([],List.replicate x.1.toNat 0) i
def j8 (x:Int×List P3):z6.T:=(x,(zHW x (3*x.2.length)).1,(zHW x (3*x.2.length)).2)
def z0e (n:Int) (l:List P3):Spec Nat where
 inv x:=x<=3*l.length
 live x:=[(6,.s (.int .i64 (3*l.length - 1 - x)))]
 keep:=[3,5]
 heap x:=[(3,.map .arr2 (.int .i64) (zHW (n,l) x).1),(4,.row (.int .i64) 3 (zHW (n,l) x).2)]
 keepH:=[1,5]
 mu x:=3*l.length - x
theorem z5c {n:Int} {t:P3} (h:zGz n t=true) (k:Int):0<=p3 t k/\p3 t k<n:=by
 have:=zAv h;unfold p3;split
 ·omega
 ·split<;>omega
theorem zB3 {x:z6.T} {c:Int} (hf:zM1 x.1) (h:zAY x c=true):0<=yO x c/\yO x c<x.1.1:=by
 unfold yO;rw [if_pos h];rw [z7] at h;exact z5c (hf.2.2.2 _ (by omega)) _
theorem zGY (x:Int×List P3): ∀ i,(zHW x i).2.length=x.1.toNat
 | 0=>jR
 | i+1=>by
   show ((zHW x i).2.set _ _).length=_;rw [qY];exact zGY x i
def zHO (s:Int×List P3):Option z6.T:=if (zHh s).1=0 then some (j8 s) else none
def z4i:Option z6.T->AV
 | none=> .s (.val (.pointer none))
 | some x=>(ETy.pt z6).av (some x)
theorem zWw {I:Sig} {Z:yQ} {o:Option z6.T} {v:Value} (h:qD I Z (z4i o) v):qD I Z ((ETy.pt z6).av o) v:=by
 cases o with
 | some x=>exact h
 | none=>show [v]=[.pointer none];rw [show v= .pointer none from h.1]
theorem zDY.out {P:Program} {f:FuncId} {args:List AV} {p q:Option Prop} {u u':AV} (h:zDY P f args (p,q,u)) (hu: ∀ I v,qD I [] u v->qD I [] u' v):zDY P f args (p,q,u'):=fun I vals w hag hv=>by
 obtain ⟨h1,h2⟩:=h I vals w hag hv;refine ⟨h1,fun hq=> ?_⟩;exact (h2 hq).mono fun e w' ⟨v,σ',e1,e2,e3,e4,e5,e6⟩=>⟨v,σ',e1,e2,e3,e4,hu _ _ e5,e6⟩
theorem z3L (n:Int) (l:List P3):zAk ⟨tyL,[(54,zQI),(42,zUX),(29,zMI),(57,zDe)],[]⟩ Tryz.f21 [jQ.av (n,l)] (fun v=>v= .tup [z4i (zHO (n,l)),zCp.av (zHh (n,l))]):=by
 repeat' (conv=>whnf
          first|done|refine qy ?_|refine qG fun _=> ?_|refine qw (fun _=> ?_) (fun _=> ?_)|apply qt|refine qi (fun _=> ?_) (fun _=> ?_)|(refine jS 6 rfl (z0e n l) (0) ?_ ?_ ?_ fun x hx=> ?_)|with_reducible refine jK (z0e _ _) (x+1) ?_ ?_ ?_ ?_|refine qu ?_|refine qv ?_ ?_|exact zL)
 all_goals try first|refine qz ?_|apply qz5
 all_goals try simp only [qn0,zY,zX,ETy.dflt,Int.reduceToNat,Int.reduceAdd,Int.reduceSub,Int.reduceNeg,Nat.reduceAdd,qL,z0e] at *
 ·rename_i h;unfold zHO;rw [if_neg h];exact jE.intro rfl
 all_goals
  have hc:=zVx (s:=(n,l)) ‹_›;have hl:l.length<=8192:=hc.fit.2.2.1;have h0:0<=n:=hc.fit.1;have h1:n<=4096:=hc.fit.2.1
 ·exact qh hl
 ·exact qh ⟨h0,Int.le_refl _,by omega⟩
 ·exact qh (y7 _)
 ·omega
 ·exact qh (show 3*(l.length:Int) - 1 - x<=1000000 by omega)
 ·exact qh (show 3*(l.length:Int) - 1 - x<=1000000000 by omega)
 ·have:=zB3 (x:=((n,l),[],[])) (c:=3*(l.length:Int) - 1 - x) hc.fit (z7.2 ⟨by omega,by show _<3*(l.length:Int);omega⟩);refine zA9.intro ⟨this.1,Int.lt_of_lt_of_le this.2 ?_⟩;show n<=_;omega
 ·exact qh (by omega)
 ·omega
 ·rfl
 ·exact qh (by omega)
 ·have e:x=3*l.length:=by omega
  subst e
  have e2:List.take n.toNat (List.drop 0 (zHW (n,l) (3*l.length)).snd)=(zHW (n,l) (3*l.length)).snd:=by
   rw [jJ];exact q9 (Nat.le_of_eq (zGY (n,l) _))
  unfold zHO;rw [if_pos ‹_›,zMb ‹_›];refine jE.intro ?_;rw [e2];rfl
def z4y:List AV->Option Res:=zF4 jQ (fun s=>some (none,none,.tup [(ETy.pt z6).av (zHO s),zCp.av (zHh s)]))
theorem newRow:jN prog 21 z4y:=mkR (zAm fun s r h=>by
 cases h;refine zDY.out (fb (fn:=[(54,zQI),(42,zUX),(29,zMI),(57,zDe)]) ⟨zQz,zWz,zLA,zEX,trivial⟩ func21 fun _ _=>z3L s.1 s.2) fun I v h=> ?_;obtain ⟨vs,e,r⟩:=h
 match vs,r with
 | [a,b],r=>exact ⟨_,e,zWw r.1,r.2.1,trivial⟩) func21
end S1
namespace S1
theorem php: ∀ (L n:Nat) (g:Nat->Nat),(∀ i,i<n->g i<L)->(∀ i j,i<j->j<n->g i≠g j)->n<=L
 | 0,n,g,h,_=>by
   rcases Nat.eq_zero_or_pos n with e|e
   ·omega
   ·have:=h 0 e;omega
 | L + 1,n,g,h,hd=>by
   by_cases hx: ∃ i,i<n/\g i=L
   ·obtain ⟨i,hi,e⟩:=hx
    have:=php L (n - 1) (fun j=>if j<i then g j else g (j+1)) (fun j hj=>by
     split
     ·rename_i hji;have h1:=h j (by omega);have:=hd j i hji hi;omega
     ·rename_i hji
      have h1:=h (j+1) (by omega);have:=hd i (j+1) (by omega) (by omega);omega) (fun a b hab hb=>by
     split<;>split
     ·exact hd _ _ hab (by omega)
     ·exact hd _ _ (by omega) (by omega)
     ·omega
     ·exact hd _ _ (by omega) (by omega))
    omega
   ·have:=php L n g (fun i hi=>by
     have h1:=h i hi;have:g i≠L:=fun e=>hx ⟨i,hi,e⟩
     omega) hd
    omega
def iter (f:Int->Int) (c:Int):Nat->Int
 | 0=>c
 | k+1=>f (iter f c k)
theorem zMt {f:Int->Int} (inj: ∀ a b,0<=f a->f a=f b->a=b) {c:Int} : ∀ {i j:Nat},(∀ m,1<=m->m<=i->0<=iter f c m)->iter f c i=iter f c (i+j)->iter f c j=c
 | 0,j,_,h=>by rw [yK] at h;exact h.symm
 | i +1,j,hp,h=>by
   have h:f (iter f c i)=f (iter f c (i+j)):=by
    rw [show i+1+j=(i+j)+1 by omega] at h;exact h
   exact zMt inj (fun m h1 h2=>hp m h1 (by omega)) (inj _ _ (hp (i+1) (by omega) (zH _)) h)
theorem pig {f:Int->Int} {L:Nat} (hr: ∀ c,0<=f c->f c<L) (inj: ∀ a b,0<=f a->f a=f b->a=b) {c:Int} {k:Nat} (h: ∀ j,1<=j->j<=k->0<=iter f c j/\iter f c j≠c):k<=L:=by
 refine php L k (fun i=>(iter f c (i+1)).toNat) (fun i hi=> ?_) (fun i j hij hj e=> ?_)
 ·have h1:=(h (i+1) (by omega) (by omega)).1;have:=hr (iter f c i) h1;show (iter f c (i+1)).toNat<L;have:iter f c (i+1)<L:=this;omega
 ·have h1:=(h (i+1) (by omega) (by omega)).1;have h2:=(h (j+1) (by omega) (by omega)).1;have e:iter f c (i+1)=iter f c (i+1+(j - i)):=by rw [show i+1+(j - i)=j+1 by omega];omega
  exact (h (j - i) (by omega) (by omega)).2 (zMt inj (fun m a b=>(h m a (by omega)).1) e)
theorem zZj {c b:Int} {L:Nat} (h:0<=c/\c<3*(L:Int)):0<=trn c b/\trn c b<3*(L:Int):=by unfold trn;omega
theorem zKs {a b:Int} (h:trn a 1=trn b 1):a=b:=by unfold trn at h;omega
theorem zQ3 {a b:Int} (h:trn a 2=trn b 2):a=b:=by unfold trn at h;omega
structure Good (x:z6.T):Prop where
 fit:zM1 x.1
 map: ∀ e c,zAR .arr2 x.2.1 e=some c->zAY x c=true/\jP x c=e
 uniq: ∀ p q,zAY x p=true->zAY x q=true->jP x p=jP x q->p=q
 ends: ∀ c,zAY x c=true->(jP x c).1≠(jP x c).2
 first: ∀ v:Nat,x.2.2.getD v 0<=30000
 cor: ∀ c,zAY x c=true->zAY x (yL x (yO x c))=true
theorem zA8 {x:z6.T} {c:Int} (h:zAY x c=true):zAY x (jM x c)=true/\zAY x (jH x c)=true:=by
 unfold jM jH;rw [if_pos h,if_pos h];rw [z7] at h;exact ⟨(z7.2 (zZj h)),(z7.2 (zZj h))⟩
theorem zPF {x:z6.T} :zAY x (-1)=false:=zQC (by omega)
theorem zWt {x:z6.T} {c:Int} (h:zAY x c=false):jP x c=(-1,-1):=by
 unfold jP jM jH;rw [if_neg (by rw [h];simp),if_neg (by rw [h];simp)];unfold yO;rw [if_neg (by rw [zPF];simp)]
theorem Good.opp {x:z6.T} (g:Good x) {d:Int} (h:0<=zA2 x d):zAY x d=true/\zAY x (zA2 x d)=true/\jP x (zA2 x d)=((jP x d).2,(jP x d).1):=by
 unfold zA2 qR at *;cases e:zAR .arr2 x.2.1 ((jP x d).2,(jP x d).1) with
 | none=>rw [e] at h;cases h
 | some o =>
   obtain ⟨h1,h2⟩:=g.map _ _ e;refine ⟨?_,h1,h2⟩;cases hd:zAY x d with
   | true=>rfl
   | false =>
     rw [zWt hd] at h2;have:=(zB3 g.fit (zA8 h1).1).1;have h3:yO x (jM x o)= -1:=congrArg Prod.fst h2;omega
def yC (x:z6.T) (c:Int):Int:=if zA2 x (jH x c)<0 then -1 else jH x (zA2 x (jH x c))
def yB (x:z6.T) (c:Int):Int:=if zA2 x (jM x c)<0 then -1 else jM x (zA2 x (jM x c))
theorem zBj {x:z6.T} {c:Int} (h:zAY x c=true):jH x c=trn c 2:=by unfold jH;rw [if_pos h]
theorem zBI {x:z6.T} {c:Int} (h:zAY x c=true):jM x c=trn c 1:=by unfold jM;rw [if_pos h]
theorem zPH {x:z6.T} {c:Int} (h:zAY x (jH x c)=true):zAY x c=true:=by
 cases e:zAY x c with
 | true=>rfl
 | false=>unfold jH at h;rw [if_neg (by rw [e];simp),zPF] at h;cases h
theorem zOC {x:z6.T} {c:Int} (h:zAY x (jM x c)=true):zAY x c=true:=by
 cases e:zAY x c with
 | true=>rfl
 | false=>unfold jM at h;rw [if_neg (by rw [e];simp),zPF] at h;cases h
theorem Good.opp_inj {x:z6.T} (g:Good x) {a b:Int} (h:0<=zA2 x a) (e:zA2 x a=zA2 x b):a=b:=by
 obtain ⟨h1,h2,h3⟩:=g.opp h;obtain ⟨k1,k2,k3⟩:=g.opp (d:=b) (by omega);rw [e,k3] at h3;refine g.uniq _ _ h1 k1 (Prod.ext ?_ ?_)
 ·exact (congrArg Prod.snd h3).symm
 ·exact (congrArg Prod.fst h3).symm
theorem Good.before_has {x:z6.T} (g:Good x) {c:Int} (h:0<=yC x c):zAY x c=true/\zAY x (yC x c)=true/\0<=zA2 x (jH x c):=by
 unfold yC at *;split at h
 ·omega
 ·rename_i ho;obtain ⟨h1,h2,h3⟩:=g.opp (d:=jH x c) (by omega);rw [if_neg ho];exact ⟨zPH h1,(zA8 h2).2,by omega⟩
theorem Good.after_has {x:z6.T} (g:Good x) {c:Int} (h:0<=yB x c):zAY x c=true/\zAY x (yB x c)=true/\0<=zA2 x (jM x c):=by
 unfold yB at *;split at h
 ·omega
 ·rename_i ho;obtain ⟨h1,h2,h3⟩:=g.opp (d:=jM x c) (by omega);rw [if_neg ho];exact ⟨zOC h1,(zA8 h2).1,by omega⟩
theorem Good.before_inj {x:z6.T} (g:Good x) (a b:Int) (h:0<=yC x a) (e:yC x a=yC x b):a=b:=by
 obtain ⟨h1,h2,h3⟩:=g.before_has h;obtain ⟨k1,k2,k3⟩:=g.before_has (c:=b) (by omega);obtain ⟨_,o1,_⟩:=g.opp h3;obtain ⟨_,o2,_⟩:=g.opp k3;unfold yC at e;rw [if_neg (by omega),if_neg (by omega),zBj o1,zBj o2] at e;have:=g.opp_inj h3 (zQ3 e);rw [zBj h1,zBj k1] at this;exact zQ3 this
theorem Good.after_inj {x:z6.T} (g:Good x) (a b:Int) (h:0<=yB x a) (e:yB x a=yB x b):a=b:=by
 obtain ⟨h1,h2,h3⟩:=g.after_has h;obtain ⟨k1,k2,k3⟩:=g.after_has (c:=b) (by omega);obtain ⟨_,o1,_⟩:=g.opp h3;obtain ⟨_,o2,_⟩:=g.opp k3;unfold yB at e;rw [if_neg (by omega),if_neg (by omega),zBI o1,zBI o2] at e;have:=g.opp_inj h3 (zKs e);rw [zBI h1,zBI k1] at this;exact zKs this
end S1
namespace S1
def zSC (l:List P3) (q:Nat):P3:=(jC (l.getD (q / 3) (0,0,0))).getD (q % 3) (0,0,0)
theorem zWD {kind:Int} {i:Nat} {av:List Int} {s:PS} {j:Nat} (h:(prA kind i av s j).2=[]):prA kind i av s j=s/\(zAR .arr2 s.1 (av.getD j 0,(i:Int))).getD false=true:=by
 unfold prA at *;cases e:(zAR .arr2 s.1 (av.getD j 0,(i:Int))).getD false with
 | true=>exact ⟨rfl,rfl⟩
 | false =>
   rw [e] at h;exact absurd h (by simp)
theorem zIq {kind:Int} {i:Nat} {av:List Int} {s:PS} : ∀ {n:Nat},(jL (prA kind i av) s n).2=[]->jL (prA kind i av) s n=s/\∀ j,j<n->(zAR .arr2 s.1 (av.getD j 0,(i:Int))).getD false=true
 | 0,_=>⟨rfl,fun j h=>by omega⟩
 | n+1,h=>by
   obtain ⟨h1,h2⟩:=zWD (s:=jL (prA kind i av) s n) h;have h:(prA kind i av (jL (prA kind i av) s n) n).2=[]:=h;rw [h1] at h;obtain ⟨h3,h4⟩:=zIq h;refine ⟨h1.trans h3,fun j hj=> ?_⟩
   by_cases e:j=n
   ·subst e;rw [h3] at h2;exact h2
   ·exact h4 j (by omega)
structure Uq (l:List P3) (n:Nat) (s:zIa×PS):Prop where
 seen:s.2.1=[]
 dif: ∀ p q,p<q->q<n->zSC l p≠zSC l q
 had: ∀ p,p<n->zAc s.1 (zSC l p)≠[]
theorem zWF {l:List P3} {i m:Nat} (hm:m<3) {s:zIa×PS} (h:s.2.2=[]->Uq l (3*i+m) s)
 (h2:(prK 3 i (jC (l.getD i (0,0,0))) s m).2.2=[]):s.2.2=[]/\Uq l (3*i+m+1) (prK 3 i (jC (l.getD i (0,0,0))) s m):=by
 have hk:zSC l (3*i+m)=(jC (l.getD i (0,0,0))).getD m (0,0,0):=by
  unfold zSC;rw [show (3*i+m) / 3=i by omega,show (3*i+m) % 3=m by omega]
 have h3:=zIq h2;have h0:s.2.2=[]:=by rw [<- h3.1];exact h2
 have u:=h h0
 have he:zAc s.1 (zSC l (3*i+m))=[]:=by
  rw [hk];cases e:zAc s.1 ((jC (l.getD i (0,0,0))).getD m (0,0,0)) with
  | nil=>rfl
  | cons a r =>
    have:=h3.2 0 (by rw [e];simp);rw [u.seen] at this;cases this
 refine ⟨h0,?_,fun p q hpq hq e=> ?_,fun p hp=> ?_⟩
 ·exact (congrArg Prod.fst h3.1).trans u.seen
 ·by_cases hn:q=3*i+m
  ·subst hn;exact u.had p hpq (by rw [e];exact he)
  ·exact u.dif p q hpq (by omega) e
 ·show zAc (zAe .arr3 s.1 ((jC (l.getD i (0,0,0))).getD m (0,0,0)) (zAc s.1 ((jC (l.getD i (0,0,0))).getD m (0,0,0))++[(i:Int)])) (zSC l p)≠[];rw [zE0];split
  ·simp
  ·rename_i hne
   by_cases hn:p=3*i+m
   ·subst hn;exact absurd hk.symm hne
   ·exact u.had p (by omega)
theorem zZ6 (l:List P3): ∀ i,(prS jC 3 l i).2.2=[]->Uq l (3*i) (prS jC 3 l i)
 | 0,_=>⟨rfl,fun p q _ h=>by omega,fun p h=>by omega⟩
 | i+1,h=>by
   have h:(jL (prK 3 i (jC (l.getD i (0,0,0)))) (prS jC 3 l i) 3).2.2=[]:=h;have h0:=zZ6 l i;have s1:=fun h=>(zWF (m:=0) (by omega) (s:=prS jC 3 l i) h0 h).2;have s2:=fun h=>(zWF (m:=1) (by omega) (s:=jL (prK 3 i (jC (l.getD i (0,0,0)))) (prS jC 3 l i) 1) s1 h).2;exact (zWF (m:=2) (by omega) (s:=jL (prK 3 i (jC (l.getD i (0,0,0)))) (prS jC 3 l i) 2) s2 h).2
theorem zJk (t:P3) {k:Nat} (h:k<3):(jC t).getD k (0,0,0)=(p3 t k,p3 t ((k+1) % 3:Nat),0):=by
 have:k=0\/k=1\/k=2:=by omega
 rcases this with e|e|e<;>subst e<;>rfl
theorem zIy {x:z6.T} {c:Int} (h:zAY x c=true):zSC x.1.2 (trn c 1).toNat=((jP x c).1,(jP x c).2,0):=by
 have hc:=z7.1 h;have h1:=z7.1 (zA8 h).1;have h2:=z7.1 (zA8 h).2;unfold zSC;rw [zJk _ (by omega)];unfold jP;rw [zCh h1.1 h1.2,zCh h2.1 h2.2];rw [zBI h,zBj h];have e0:0<=trn c 1:=by unfold trn;omega
 have e1:(trn c 1).toNat / 3=(c / 3).toNat:=by unfold trn;omega
 have e2:(trn c 1 / 3).toNat=(c / 3).toNat:=by unfold trn;omega
 have e3:(trn c 2 / 3).toNat=(c / 3).toNat:=by unfold trn;omega
 have e4:(((trn c 1).toNat % 3:Nat):Int)=trn c 1 % 3:=by omega
 have e5:((((trn c 1).toNat % 3+1) % 3:Nat):Int)=trn c 2 % 3:=by unfold trn;omega
 rw [e1,e2,e3,e4,e5]
theorem zZm {l:List P3} (h:dgL l l.length=[]) {i:Nat} (hi:i<l.length): ¬ ((l.getD i (0,0,0)).1=(l.getD i (0,0,0)).2.1\/(l.getD i (0,0,0)).2.1=(l.getD i (0,0,0)).2.2\/(l.getD i (0,0,0)).2.2=(l.getD i (0,0,0)).1):=by
 have:=jI.1 h i (zQ.2 hi);unfold dgG at this;split at this
 ·cases this
 ·rename_i hd;exact fun e=>hd (z3k e)
theorem z5y {t:P3} (h: ¬ (t.1=t.2.1\/t.2.1=t.2.2\/t.2.2=t.1)) {k:Nat} (hk:k<3):p3 t k≠p3 t ((k+1) % 3:Nat):=by
 have:k=0\/k=1\/k=2:=by omega
 rcases this with e|e|e<;>subst e<;>intro e<;>apply h
 ·exact .inl e
 ·exact .inr (.inl e)
 ·exact .inr (.inr e)
theorem zQy (x:Int×List P3): ∀ i,i<=3*x.2.length->∀ e c,zAR .arr2 (zHW x i).1 e=some c->0<=c/\c<3*(x.2.length:Int)/\jP (x,[],[]) c=e
 | 0,_,e,c,h=>by cases h
 | i +1,hi,e,c,h=>by
   have h:zAR .arr2 (zAe .arr2 (zHW x i).1 (jP (x,[],[]) (3*x.2.length - 1 - i)) (3*x.2.length - 1 - i)) e=some c:=h
   by_cases he:jP (x,[],[]) (3*x.2.length - 1 - i)=e
   ·rw [he,zAt] at h;cases h;exact ⟨by omega,by omega,he⟩
   ·rw [zBM _ he] at h;exact zQy x i (by omega) e c h
theorem zKK (x:Int×List P3) (hl:x.2.length<=8192): ∀ i,i<=3*x.2.length->∀ v,(zHW x i).2.getD v 0<=30000
 | 0,_,v=>by
   show (List.replicate _ _).getD v 0<=_;rw [gdE,yY];split<;>decide
 | i +1,hi,v=>by
   show ((zHW x i).2.set _ _).getD v 0<=_;rw [gdE,qS];split
   ·split
    ·show (3*(x.2.length:Int) - 1 - i)<=30000;omega
    ·decide
   ·rw [<- gdE];exact zKK x hl i (by omega) v
theorem zVI (x:Int×List P3) (hl:0<x.2.length): ∀ i,i<=3*x.2.length->∀ v,0<=(zHW x i).2.getD v 0/\(zHW x i).2.getD v 0<3*(x.2.length:Int)
 | 0,_,v=>by
   show 0<=(List.replicate _ _).getD v 0/\(List.replicate _ _).getD v 0<_
   have: ∀ n,(List.replicate n (0:Int)).getD v 0=0:=fun n=>by
    rw [gdE,yY];split<;>rfl
   rw [this];omega
 | i +1,hi,v=>by
   show 0<=((zHW x i).2.set _ _).getD v 0/\((zHW x i).2.set _ _).getD v 0<_;rw [gdE,qS];split
   ·split
    ·show 0<=(3*(x.2.length:Int) - 1 - i)/\(3*(x.2.length:Int) - 1 - i)<3*(x.2.length:Int);omega
    ·show (0:Int)<=0/\(0:Int)<3*(x.2.length:Int);omega
   ·rw [<- gdE];exact zVI x hl i (by omega) v
theorem zYB {s:Int×List P3} (h:z6Q s):Good (j8 s) where
 fit:=h.fit
 map e c he:=by
  obtain ⟨h1,h2,h3⟩:=zQy s _ (zH _) e c he;exact ⟨z7.2 ⟨h1,h2⟩,h3⟩
 uniq p q hp hq e:=by
  have hu:=(zZ6 s.2 _ h.twi).dif;have kp:=zIy hp;have kq:=zIy hq;rw [e,<- kq] at kp;have ip:=z7.1 (zA8 hp).1;have iq:=z7.1 (zA8 hq).1;rw [zBI hp] at ip;rw [zBI hq] at iq;have ip:0<=trn p 1/\trn p 1<3*(s.2.length:Int):=ip;have iq:0<=trn q 1/\trn q 1<3*(s.2.length:Int):=iq;have kp:zSC s.2 (trn p 1).toNat=zSC s.2 (trn q 1).toNat:=kp;refine zKs ?_;rcases Nat.lt_trichotomy (trn p 1).toNat (trn q 1).toNat with hlt|heq|hgt
  ·exact absurd kp (hu _ _ hlt (by omega))
  ·omega
  ·exact absurd kp.symm (hu _ _ hgt (by omega))
 ends c hc e:=by
  have k:=zIy hc;have i0:=z7.1 hc;have i1:=z7.1 (zA8 hc).1;rw [zBI hc] at i1;have i1:0<=trn c 1/\trn c 1<3*(s.2.length:Int):=i1;unfold zSC at k;rw [zJk _ (by omega)] at k;refine z5y (zZm h.deg (i:=(trn c 1).toNat / 3) (by omega)) (k:=(trn c 1).toNat % 3) (by omega) ?_;exact (congrArg Prod.fst k).trans (e.trans (congrArg (fun t:P3=>t.2.1) k).symm)
 cor c hc:=by
  have i0:=z7.1 hc;have i0:0<=c/\c<3*(s.2.length:Int):=i0;have hv:=zB3 (x:=j8 s) h.fit hc;have hlen:(j8 s).2.2.length=s.1.toNat:=zGY s _;have hv2:0<=yO (j8 s) c/\yO (j8 s) c<s.1:=hv;unfold yL;rw [if_pos (by rw [hlen];omega)];exact z7.2 (zVI s (by omega) _ (zH _) _)
 first v:=zKK s h.fit.2.2.1 _ (zH _) v
end S1
namespace S1
theorem zZP {x:z6.T} (g:Good x) (c:Int):zA2 x c<=30000:=by
 by_cases h:0<=zA2 x c
 ·have:=z7.1 (g.opp h).2.1;have:=g.fit.2.2.1;omega
 ·omega
theorem zLi {x:z6.T} (g:Good x) (c:Int):jH x c<=30000:=by
 cases h:zAY x c with
 | false=>unfold jH;rw [if_neg (by rw [h];simp)];decide
 | true =>
   have:=z7.1 (zA8 h).2;have:=g.fit.2.2.1;omega
theorem zKd {x:z6.T} (g:Good x) (c:Int):jM x c<=30000:=by
 cases h:zAY x c with
 | false=>unfold jM;rw [if_neg (by rw [h];simp)];decide
 | true =>
   have:=z7.1 (zA8 h).1;have:=g.fit.2.2.1;omega
theorem zWX (x:z6.T) (c:Int) (h:Good x/\c<=30000):zAk ⟨tyL,[(61,zOG),(95,zTV)],[]⟩ f97 [(ETy.pt z6).av (some x),qX.av c] (fun v=>v= .s (.int .i64 (yC x c))):=by
 repeat' (conv=>whnf
          first|done|refine qy ?_|refine qG fun _=> ?_|refine qw (fun _=> ?_) (fun _=> ?_)|apply qt|refine qi (fun _=> ?_) (fun _=> ?_)|refine qu ?_|refine qv ?_ ?_|exact zL)
 all_goals try first|refine qz ?_|apply qz5
 all_goals try simp only [qn0,zY,zX,ETy.dflt,Int.reduceToNat,Int.reduceAdd,Int.reduceSub,Int.reduceNeg,Nat.reduceAdd,yC] at *
 ·exact qh (Int.le_trans h.2 (by decide))
 ·exact qh (Int.le_trans (zLi h.1 _) (by decide))
 ·rw [if_pos (by assumption)]
 ·exact qh (Int.le_trans (zZP h.1 _) (by decide))
 ·rw [if_neg (by assumption)]
def zVp:List AV->Option Res:=zGO z6 qX (fun x c=>some (none,some (Good x/\c<=30000),.s (.int .i64 (yC x c))))
theorem zSX:jN prog 97 zVp:=mkR (zBP fun x c r h=>by cases h;exact fb (by exact ⟨zLB,zI0,trivial⟩) func97 fun _ h=>zWX x c h) func97
theorem zWn (x:z6.T) (c:Int) (h:Good x/\c<=30000):zAk ⟨tyL,[(59,zPA),(95,zTV)],[]⟩ f60 [(ETy.pt z6).av (some x),qX.av c] (fun v=>v= .s (.int .i64 (yB x c))):=by
 repeat' (conv=>whnf
          first|done|refine qy ?_|refine qG fun _=> ?_|refine qw (fun _=> ?_) (fun _=> ?_)|apply qt|refine qi (fun _=> ?_) (fun _=> ?_)|refine qu ?_|refine qv ?_ ?_|exact zL)
 all_goals try first|refine qz ?_|apply qz5
 all_goals try simp only [qn0,zY,zX,ETy.dflt,Int.reduceToNat,Int.reduceAdd,Int.reduceSub,Int.reduceNeg,Nat.reduceAdd,yB] at *
 ·exact qh (Int.le_trans h.2 (by decide))
 ·exact qh (Int.le_trans (zKd h.1 _) (by decide))
 ·rw [if_pos (by assumption)]
 ·exact qh (Int.le_trans (zZP h.1 _) (by decide))
 ·rw [if_neg (by assumption)]
def zGL:List AV->Option Res:=zGO z6 qX (fun x c=>some (none,some (Good x/\c<=30000),.s (.int .i64 (yB x c))))
theorem zHx:jN prog 60 zGL:=mkR (zBP fun x c r h=>by cases h;exact fb (by exact ⟨zKp,zI0,trivial⟩) func60 fun _ h=>zWn x c h) func60
def zCH (x:z6.T) (v:Int):Bool:=decide (0<=v)&&(decide (v<x.1.1)&&decide (0<=yL x v))
theorem zWc (x:z6.T) (v:Int):zAk ⟨tyL,[(65,zB0),(96,zE6)],[]⟩ f62 [(ETy.pt z6).av (some x),qX.av v] (fun r=>r= .s (.bool (zCH x v))):=by
 repeat' (conv=>whnf
          first|done|refine qy ?_|refine qG fun _=> ?_|refine qw (fun _=> ?_) (fun _=> ?_)|apply qt|refine qi (fun _=> ?_) (fun _=> ?_)|refine qu ?_|refine qv ?_ ?_|exact zL)
 all_goals try first|refine qz ?_|apply qz5
 all_goals try simp only [qn0,zY,zX,ETy.dflt,Int.reduceToNat,Int.reduceAdd,Int.reduceSub,Int.reduceNeg,Nat.reduceAdd,zCH] at *
 ·rename_i h1 h2;rw [decide_eq_true h1,decide_eq_true h2];rfl
 ·rename_i h1 h2;rw [decide_eq_false h2];simp
 ·rename_i h1;rw [decide_eq_false h1];rfl
theorem zTz {fn} (v:Int):zAk ⟨tyL,fn,[]⟩ f62 [(ETy.pt z6).av none,qX.av v] (fun r=>r= .s (.bool false)):=by
 repeat' (conv=>whnf
          first|done|refine qy ?_|refine qG fun _=> ?_|refine qw (fun _=> ?_) (fun _=> ?_)|apply qt|refine qi (fun _=> ?_) (fun _=> ?_)|refine qu ?_|refine qv ?_ ?_|exact zL)
 all_goals try first|refine qz ?_|apply qz5
 all_goals try simp only [qn0,zY,zX,ETy.dflt,Int.reduceToNat,Int.reduceAdd,Int.reduceSub,Int.reduceNeg,Nat.reduceAdd] at *
def onO {α:Type} (o:Option z6.T) (d:α) (f:z6.T->α):α:=match o with|some x=>f x|none=>d
def zJp:List AV->Option Res:=zFm (.pt z6) qX (fun o v=>some (none,none,.s (.bool (onO o false fun x=>zCH x v))))
theorem zLd:jN prog 62 zJp:=mkR (zA4 fun o v r h=>by
 cases h;cases o with
 | none=>exact fb (fn:=[(65,zB0),(96,zE6)]) ⟨zCb,zEH,trivial⟩ func62 fun _ _=>zTz v
 | some x=>exact fb (fn:=[(65,zB0),(96,zE6)]) ⟨zCb,zEH,trivial⟩ func62 fun _ _=>zWc x v) func62
def zDb (x:z6.T) (c0:Int):Nat->Int->Int×Bool
 | 0,_=>(0,false)
 | n+1,c=>if yC x c<0 then (c,true) else if yC x c=c0 then (c0,false) else zDb x c0 n (yC x c)
def zAd (x:z6.T) (v:Int):Int×Bool:=zDb x (yL x v) 30000 (yL x v)
def zPE (f:Int->Int) (c0:Int) (k:Nat):Prop:= ∀ j,1<=j->j<=k->0<=iter f c0 j/\iter f c0 j≠c0
theorem zPE.succ {f:Int->Int} {c0:Int} {k:Nat} (h:zPE f c0 k) (h1: ¬ f (iter f c0 k)<0) (h2: ¬ f (iter f c0 k)=c0):zPE f c0 (k+1):=fun j a b=>by
 by_cases e:j=k+1
 ·subst e;exact ⟨by show 0<=f (iter f c0 k);omega,h2⟩
 ·exact h j a (by omega)
theorem zKS {x:z6.T} (g:Good x) {c0:Int} {k:Nat} (h:zPE (yC x) c0 k):k<=24576:=by
 have:=pig (L:=3*x.1.2.length) (fun c hc=>by have:=z7.1 (g.before_has hc).2.1;omega) g.before_inj h;have:=g.fit.2.2.1;omega
theorem zBF {x:z6.T} (g:Good x) {c0:Int} {k:Nat} (h:zPE (yB x) c0 k):k<=24576:=by
 have:=pig (L:=3*x.1.2.length) (fun c hc=>by have:=z7.1 (g.after_has hc).2.1;omega) g.after_inj h;have:=g.fit.2.2.1;omega
theorem zEd {x:z6.T} (g:Good x) (v:Int):yL x v<=30000:=by
 unfold yL;split
 ·exact g.first _
 ·decide
theorem zXk {x:z6.T} (g:Good x) {c0:Int} (h0:c0<=30000): ∀ k,iter (yC x) c0 k<=30000
 | 0=>h0
 | k+1=>by
   show yC x (iter (yC x) c0 k)<=30000;unfold yC;split
   ·decide
   ·exact zLi g _
theorem zXe {x:z6.T} (g:Good x) {c0:Int} (h0:c0<=30000): ∀ k,iter (yB x) c0 k<=30000
 | 0=>h0
 | k+1=>by
   show yB x (iter (yB x) c0 k)<=30000;unfold yB;split
   ·decide
   ·exact zKd g _
def z1z (x:z6.T) (c0:Int):Spec Nat where
 inv k:=zPE (yC x) c0 k/\zDb x c0 30000 c0=zDb x c0 (30000 - k) (iter (yC x) c0 k)
 live k:=[(7,.s (.int .i64 (iter (yC x) c0 k)))]
 keep:=[0,6]
 heap _:=[]
 keepH:=[]
 mu k:=30000 - k
theorem zFc {x:z6.T} {c0 c:Int} {k:Nat} (h:k<=24576):zDb x c0 (30000 - k) c=if yC x c<0 then (c,true) else if yC x c=c0 then (c0,false) else zDb x c0 (30000 - (k+1)) (yC x c):=by
 rw [show 30000 - k=(30000 - (k+1))+1 by omega];rfl
theorem zXN (x:z6.T) (v:Int) (g:Good x):zAk ⟨tyL,[(96,zE6),(97,zVp)],[]⟩ f63 [(ETy.pt z6).av (some x),qX.av v] (fun r=>r= .tup [.s (.int .i64 (zAd x v).1),.s (.bool (zAd x v).2)]):=by
 repeat' (conv=>whnf
          first|done|refine qy ?_|refine qG fun _=> ?_|refine qw (fun _=> ?_) (fun _=> ?_)|apply qt|refine qi (fun _=> ?_) (fun _=> ?_)|(refine jS 3 rfl (z1z x (yL x v)) (0) ?_ ?_ ?_ fun k hk=> ?_)|with_reducible refine jK (z1z _ _) (k+1) ?_ ?_ ?_ ?_|refine qu ?_|refine qv ?_ ?_|exact zL)
 all_goals try first|refine qz ?_|apply qz5
 all_goals try simp only [qn0,zY,zX,ETy.dflt,Int.reduceToNat,Int.reduceAdd,Int.reduceSub,Int.reduceNeg,Nat.reduceAdd,z1z] at *
 ·exact qh ⟨fun j a b=>by omega,rfl⟩
 all_goals have hk24:=zKS g hk.1
 ·exact qh ⟨g,zXk g (zEd g v) k⟩
 ·unfold zAd;rw [hk.2,zFc hk24,if_pos (by assumption)];exact jE.intro rfl
 ·unfold zAd;rw [hk.2,zFc hk24,if_neg (by assumption),if_pos (by assumption)];exact jE.intro rfl
 ·refine zA9.intro ⟨hk.1.succ (by assumption) (by assumption),?_⟩;rw [hk.2,zFc hk24,if_neg (by assumption),if_neg (by assumption)];rfl
 ·exact qh (by omega)
def zKV:List AV->Option Res:=zGO z6 qX (fun x v=>some (none,some (Good x),.tup [.s (.int .i64 (zAd x v).1),.s (.bool (zAd x v).2)]))
theorem zK6:jN prog 63 zKV:=mkR (zBP fun x v r h=>by cases h;exact fb (by exact ⟨zEH,zSX,trivial⟩) func63 fun _ h=>zXN x v h) func63
def zAz (x:z6.T) (v:Int):Bool:=zCH x v&& !(zAd x v).2
theorem zW8 (x:z6.T) (v:Int) (g:Good x):zAk ⟨tyL,[(62,zJp),(63,zKV)],[]⟩ Tryz.f23 [(ETy.pt z6).av (some x),qX.av v] (fun r=>r= .s (.bool (zAz x v))):=by
 repeat' (conv=>whnf
          first|done|refine qy ?_|refine qG fun _=> ?_|refine qw (fun _=> ?_) (fun _=> ?_)|apply qt|refine qi (fun _=> ?_) (fun _=> ?_)|refine qu ?_|refine qv ?_ ?_|exact zL)
 all_goals try first|refine qz ?_|apply qz5
 all_goals try simp only [qn0,zY,zX,ETy.dflt,Int.reduceToNat,Int.reduceAdd,Int.reduceSub,Int.reduceNeg,Nat.reduceAdd,zAz,zCH] at *
 all_goals (simp only [*,decide_true,decide_false,Bool.true_and,Bool.false_and,Bool.and_false])
def zMd:List AV->Option Res:=zGO z6 qX (fun x v=>some (none,some (Good x),.s (.bool (zAz x v))))
theorem zQX:jN prog 23 zMd:=mkR (zBP fun x v r h=>by cases h;exact fb (by exact ⟨zLd,zK6,trivial⟩) func23 fun _ h=>zW8 x v h) func23
def zBe (x:z6.T) (a b:Int):Bool:=decide (0<=qR x (a,b))|| decide (0<=qR x (b,a))
theorem z1H (x:z6.T) (a b:Int):zAk ⟨tyL,[(105,zGk)],[]⟩ f71 [(ETy.pt z6).av (some x),qX.av a,qX.av b] (fun r=>r= .s (.bool (zBe x a b))):=by
 repeat' (conv=>whnf
          first|done|refine qy ?_|refine qG fun _=> ?_|refine qw (fun _=> ?_) (fun _=> ?_)|apply qt|refine qi (fun _=> ?_) (fun _=> ?_)|refine qu ?_|refine qv ?_ ?_|exact zL)
 all_goals try first|refine qz ?_|apply qz5
 all_goals try simp only [qn0,zY,zX,ETy.dflt,Int.reduceToNat,Int.reduceAdd,Int.reduceSub,Int.reduceNeg,Nat.reduceAdd,zBe] at *
 ·rename_i h;rw [decide_eq_true h];rfl
 ·rename_i h;rw [decide_eq_false h];rfl
theorem zXV {fn} (a b:Int):zAk ⟨tyL,fn,[]⟩ f71 [(ETy.pt z6).av none,qX.av a,qX.av b] (fun r=>r= .s (.bool false)):=by
 repeat' (conv=>whnf
          first|done|refine qy ?_|refine qG fun _=> ?_|refine qw (fun _=> ?_) (fun _=> ?_)|apply qt|refine qi (fun _=> ?_) (fun _=> ?_)|refine qu ?_|refine qv ?_ ?_|exact zL)
 all_goals try first|refine qz ?_|apply qz5
 all_goals try simp only [qn0,zY,zX,ETy.dflt,Int.reduceToNat,Int.reduceAdd,Int.reduceSub,Int.reduceNeg,Nat.reduceAdd] at *
def zTg:List AV->Option Res:=zOs (.pt z6) qX qX (fun o a b=>some (none,none,.s (.bool (onO o false fun x=>zBe x a b))))
theorem zTu:jN prog 71 zTg:=mkR (zEa fun o a b r h=>by
 cases h;cases o with
 | none=>exact fb (fn:=[(105,zGk)]) ⟨zFn,trivial⟩ func71 fun _ _=>zXV a b
 | some x=>exact fb (fn:=[(105,zGk)]) ⟨zFn,trivial⟩ func71 fun _ _=>z1H x a b) func71
end S1
namespace Go.Vm
open Go.RowKit
def zH1:Obj->Bool
 | .cells _ _ _=>true
 | .map _ _=>true
 | _=>false
def Sig.add (I:Sig) (l:Nat) (o:Obj):Sig:=fun b=>if b=l then some o else I b
def Sig.del (I:Sig) (l:Nat):Sig:=fun b=>if b=l then none else I b
def Sig.leD (I τ:Sig):Prop:= ∀ b o,I b=some o->zH1 o=true->τ b=some o
theorem Ole.nodata {o o':Obj} (h:Ole o o') (hd:zH1 o=false):o'=o:=by
 rcases h with h|⟨c,c',T,fz,e,_⟩
 ·exact h.symm
 ·subst e;cases hd
section
variable {P:Program} {T:Tab} {B:Base} {w:World} {I τ:Sig} {Z:yQ} {st:St} {tmps:Array Value}
theorem Sig.del_leD {l:Nat} (h: ∀ o,I l=some o->zH1 o=false):I.leD (I.del l):=fun b o e hd=>by
 unfold Sig.del;split
 ·rename_i hb;subst hb;rw [h o e] at hd;cases hd
 ·exact e
theorem zCN.leD (h:I.leD τ) {b o:Nat} {ds:List Value} :zCN I b o ds->zCN τ b o ds :=
 fun ⟨c,T,fz,e,r⟩=>⟨c,T,fz,h _ _ e rfl,r⟩
theorem jU.leD (hs:I.leD τ): ∀ {e:ETy} {x:e.T} {ds:List Value},jU I e x ds->jU τ e x ds
 | .int _,_,_,h=>h
 | .bool,_,_,h=>h
 | .arr2,_,_,h=>h
 | .arr3,_,_,h=>h
 | .pair _ _,_,_,h=>by obtain ⟨d1,d2,rfl,h1,h2⟩:=h;exact ⟨d1,d2,rfl,h1.leD hs,h2.leD hs⟩
 | .sl _,_,_,h=>by
   obtain ⟨a,cap,rfl,hl,hc,h⟩:=h;refine ⟨a,cap,rfl,hl,hc,fun hne=> ?_⟩;obtain ⟨b,o,ha,hr⟩:=h hne;exact ⟨b,o,ha,fun i x hx=>let ⟨d,h1,h2⟩:=hr i x hx;⟨d,h1.leD hs,h2.leD hs⟩⟩
 | .mp _ _,_,_,h=>by
   obtain ⟨r,rfl,hl,hn,h⟩:=h;refine ⟨r,rfl,hl,hn,fun b hb=> ?_⟩;obtain ⟨es,clock,h1,h2,h3⟩:=h b hb;exact ⟨es,clock,hs _ _ h1 rfl,h2,fun i x hx=>let ⟨en,dk,dv,e1,e2,e3,e4,e5⟩:=h3 i x hx;⟨en,dk,dv,e1,e2.leD hs,e3,e4.leD hs,e5⟩⟩
 | .pt _,none,_,h=>h
 | .pt _,some _,_,h=>by obtain ⟨b,off,d,rfl,h1,h2⟩:=h;exact ⟨b,off,d,rfl,h1.leD hs,h2.leD hs⟩
 | .unit,_,_,h=>h
 | .fnc,_,_,h=>h
theorem qA.leD (hs:I.leD τ) {a:AS} {v:Value} (h:qA I Z a v):qA τ Z a v:=by
 cases a with
 | int=>exact h
 | bool=>exact h
 | val=>exact h
 | sl=>exact jU.leD hs h
 | mp=>exact jU.leD hs h
 | pt=>exact jU.leD hs h
 | ip=>obtain ⟨b,o,d,e,h1,h2⟩:=h;exact ⟨b,o,d,e,h1.leD hs,h2.leD hs⟩
 | ipi=>obtain ⟨b,o,d,e,h1,h2,h3⟩:=h;exact ⟨b,o,d,e,h1.leD hs,h2.leD hs,h3⟩
 | own=>exact h
 | ptr=>exact h
 | pti=>exact h
 | omp=>exact h
 | arr=>exact h
 | clo f ps=>obtain ⟨vs,e,r⟩:=h;exact ⟨vs,e,r.mono fun _ _=>jU.leD hs⟩
 | nq=>exact h
 | emp=>exact h
 | junk=>exact h
theorem qD.leD (hs:I.leD τ) {a:AV} {v:Value} (h:qD I Z a v):qD τ Z a v:=h.map fun _ _=>qA.leD hs
theorem zAq.leD {w':World} {base sz:Nat} {vs:List Value} (hx:I.leD τ) (hw: ∀ b o,I b=some o->zH1 o=true->w'.heap[b]? =w.heap[b]?) (h:zAq I w base sz vs):zAq τ w' base sz vs :=
 ⟨fun v hv=>by
   rcases h.1 v hv with e|⟨b,o,n,cap,c,c',T,h1,h2,h3,h4⟩
   ·exact .inl e
   ·exact .inr ⟨b,o,n,cap,c,c',T,h1,hx _ _ h2 rfl,by rw [hw _ _ h2 rfl];exact h3,h4⟩,h.2⟩
theorem zBD.leD {w':World} {id:Nat} {ob:Ob} (hs:I.leD τ) (hk: ∀ p,Z[id]? =some (some p)->w'.heap[p.b]? =w.heap[p.b]?) (hkn: ∀ b o,I b=some o->zH1 o=true->w'.heap[b]? =w.heap[b]?)
 (h:zBD I Z w id ob):zBD τ Z w' id ob:=by
 cases ob with
 | row e T xs =>
   obtain ⟨h0,h⟩:=h;refine ⟨h0,?_⟩;cases hβ:Z[id]? with
   | none=>simp [hβ] at h
   | some x =>
     cases x with
     | none=>simpa [hβ] using h
     | some p =>
       simp only [hβ] at h ⊢;obtain ⟨h1,h2,h3,c,h4,h5,h6⟩:=h;exact ⟨h1,h2,h3,c,by rw [hk p hβ];exact h4,h5,fun i x hx=>let ⟨d,e1,e2⟩:=h6 i x hx;⟨d,e1.leD hs,e2⟩⟩
 | flat T cs =>
   obtain ⟨p,h1,h2,h3,h4,h5,c,h6,h7⟩:=h;exact ⟨p,h1,h2,h3,h4,h5,c,by rw [hk p h1];exact h6,h7.mono fun _ _=>qA.leD hs⟩
 | map k v m =>
   obtain ⟨h0,p,es,clock,h1,h2,h3,h4⟩:=h;exact ⟨h0,p,es,clock,h1,by rw [hk p h1];exact h2,h3,fun i x hx=>let ⟨en,dk,dv,e1,e2,e3,e4,e5⟩:=h4 i x hx;⟨en,dk,dv,e1,e2.leD hs,e3,e4.leD hs,e5⟩⟩
 | gmap k e m =>
   obtain ⟨h0,p,es,clock,h1,h2,h3,h4,h5,h6⟩:=h;exact ⟨h0,p,es,clock,h1,by rw [hk p h1];exact h2,h3,fun i x hx=>let ⟨en,dk,dv,e1,e2,e3,e4,e5⟩:=h4 i x hx;⟨en,dk,dv,e1,e2.leD hs,e3,e4.leD hs,e5⟩,h5.leD hs hkn,h6⟩
 | grow e T xss =>
   obtain ⟨h0,p,h1,h2,h3,h4,c,h5,h6,h7,h8⟩:=h;exact ⟨h0,p,h1,h2,h3,h4,c,by rw [hk p h1];exact h5,h6,fun i x hx=>let ⟨v,e1,e2⟩:=h7 i x hx;⟨v,e1.leD hs,e2⟩,h8.leD hs hkn⟩
 | fr X l=>exact ⟨h.1,fun t=>(h.2 t).leD hs⟩
def Base.lock (B:Base) (l:Nat) (o:Obj):Base:= {B with sg:=B.sg.add l o}
theorem GG.lock (h:GG B I Z st tmps w) {l:Nat} {o:Obj} (hB:B.w.heap.size<=l) (hl:w.heap[l]? =some o) (hn:I l=none)
 (hp: ∀ id ob p,hget st.hp id=some ob->Z[id]? =some (some p)->p.b≠l):GG (B.lock l o) (I.add l o) Z st tmps w:=by
 have hx: ∀ b u,I b=some u->(I.add l o) b=some u:=fun b u e=>by
  unfold Sig.add;split
  ·rename_i hb;subst hb;rw [hn] at e;cases e
  ·exact e
 have hle:I.le (I.add l o):=fun b u e=>⟨u,hx b u e,.refl⟩;refine ⟨⟨fun b u e=> ?_,fun id ob hi=>(h.mem.ob _ _ hi).sig hle hx⟩,fun t=>(h.env t).mono hle,h.len,fun id ob p hi hp'=> ?_,h.bel,⟨fun b u e=> ?_,fun b hb=> ?_⟩⟩
 ·unfold Sig.add at e;split at e
  ·rename_i hb;subst hb;cases e;exact ⟨_,hl,.refl⟩
  ·exact h.mem.ag _ _ e
 ·obtain ⟨s1,s2,s3⟩:=h.sep _ _ _ hi hp';refine ⟨?_,s2,s3⟩;unfold Sig.add;rw [if_neg (hp _ _ _ hi hp')];exact s1
 ·have e:(B.sg.add l o) b=some u:=e;unfold Sig.add at e ⊢;split at e
  ·rename_i hb;rw [if_pos hb];exact ⟨u,e,.refl⟩
  ·rename_i hb;rw [if_neg hb];exact h.grew.1 _ _ e
 ·have hb:b<B.w.heap.size:=hb;show (I.add l o) b=(B.sg.add l o) b;unfold Sig.add;rw [if_neg (by omega),if_neg (by omega)];exact h.grew.2 b hb
theorem GG.locked {l:Nat} {o:Obj} (h:GG (B.lock l o) I Z st tmps w) (hd:zH1 o=false):I l=some o/\w.heap[l]? =some o/\∀ id ob p,hget st.hp id=some ob->Z[id]? =some (some p)->p.b≠l:=by
 obtain ⟨o',e1,e2⟩:=h.grew.1 l o (by show (B.sg.add l o) l=_;unfold Sig.add;rw [if_pos rfl]);have:=e2.nodata hd;subst this;obtain ⟨o2,e3,e4⟩:=h.mem.ag _ _ e1;have:=e4.nodata hd;subst this;refine ⟨e1,e3,fun id ob p hi hp e=> ?_⟩;have:=(h.sep _ _ _ hi hp).1;rw [e,e1] at this;cases this
theorem GG.unlock {l:Nat} {o:Obj} (h:GG (B.lock l o) I Z st tmps w) (hd:zH1 o=false) (hB:B.w.heap.size<=l) (hn:B.sg l=none) (o':Obj) :
 GG B (I.del l) Z st tmps (w.putObj l o')/\(I.del l) l=none/\(w.putObj l o').heap[l]? =some o'/\∀ id ob p,hget st.hp id=some ob->Z[id]? =some (some p)->p.b≠l:=by
 obtain ⟨h1,h2,h3⟩:=h.locked hd;have hs:I.leD (I.del l):=Sig.del_leD fun o2 e=>by rw [h1] at e;cases e;exact hd
 have hlt:=(zT.1 h2).1;have hoth: ∀ b,b≠l->(w.putObj l o').heap[b]? =w.heap[b]? :=fun b hb=>World.putObj_heap_other (fun e=>hb e);have hdl:(I.del l) l=none:=by unfold Sig.del;rw [if_pos rfl]
 refine ⟨⟨⟨fun b u e=> ?_,fun id ob hi=>(h.mem.ob _ _ hi).leD hs (fun p hp=>hoth _ (h3 _ _ _ hi hp)) fun b u e hdu=>hoth _ fun hb=> ?_⟩,fun t=>(h.env t).leD hs,h.len,fun id ob p hi hp'=> ?_,?_,⟨fun b u e=> ?_,fun b hb=> ?_⟩⟩,hdl,World.putObj_heap_same hlt,h3⟩
 ·unfold Sig.del at e;split at e
  ·cases e
  ·rename_i hb;rw [hoth b hb];exact h.mem.ag _ _ e
 ·subst hb;rw [h1] at e;cases e;rw [hd] at hdu;cases hdu
 ·obtain ⟨s1,s2,s3⟩:=h.sep _ _ _ hi hp';refine ⟨?_,s2,s3⟩;unfold Sig.del;rw [if_neg (h3 _ _ _ hi hp')];exact s1
 ·exact ⟨h.bel.toBelow.grown (grownBy_putObj' w l o') (Nat.le_of_lt (Nat.lt_of_le_of_lt hB hlt)) (fun k e=>by cases e;exact hB),h.bel.drawn⟩
 ·have hb:b≠l:=fun hb=>by subst hb;rw [hn] at e;cases e
  unfold Sig.del;rw [if_neg hb];refine h.grew.1 b u ?_;show (B.sg.add l o) b=_;unfold Sig.add;rw [if_neg hb];exact e
 ·have hne:b≠l:=by omega
  unfold Sig.del;rw [if_neg hne];have:=h.grew.2 b hb;rw [this];show (B.sg.add l o) b=_;unfold Sig.add;rw [if_neg hne]
end
end Go.Vm
namespace Go.Vm
open Go.RowKit
abbrev zLw:=Option ((e:ETy)×(Int->e.T))
def zNx:List PtV->zLw
 | [⟨.sl e,xs⟩]=>some ⟨e,fun i=>List.getD xs i.toNat e.dflt⟩
 | _=>none
def zFK (I:Sig):zLw->Int->List Value->Prop
 | none,_,vs=>vs=[]
 | some s,x,vs=> ∃ ds:List Value,vs=[.agg ds.toArray]/\jU I s.1 (s.2 x) ds
def z2a:zLw->Int->List AV
 | none,_=>[]
 | some s,x=>[.agg (s.1.cells (s.2 x))]
def z5w:zLw->Nat
 | none=>0
 | some _=>1
theorem zFK.len {I:Sig} {sec:zLw} {x:Int} {vs:List Value} (h:zFK I sec x vs):vs.length=z5w sec:=by
 cases sec with
 | none=>rw [show vs=[] from h];rfl
 | some s=>obtain ⟨ds,e,_⟩:=h;rw [e];rfl
theorem zFK.mono {I τ:Sig} {sec:zLw} {x:Int} {vs:List Value} (hs:I.le τ) (h:zFK I sec x vs):zFK τ sec x vs:=by
 cases sec with
 | none=>exact h
 | some s=>obtain ⟨ds,e,k⟩:=h;exact ⟨ds,e,k.mono hs⟩
theorem zFK.av {I:Sig} {Z:yQ} {sec:zLw} {x:Int} {vs:List Value} (h:zFK I sec x vs):jW I Z (z2a sec x) vs:=by
 cases sec with
 | none=>rw [show vs=[] from h];trivial
 | some s=>obtain ⟨ds,e,k⟩:=h;subst e;exact ⟨⟨ds,rfl,k.cells⟩,trivial⟩
def putZ (st:St):List Tmp->List AV->St
 | p::ps,v::vs=>putZ (st.put (some p) v) ps vs
 | _,_=>st
def z2j (tmps:Array Value) (l:List (Tmp×Value)):Array Value:=l.foldl (fun tmps x=>match x with|(t,a)=>tmps.setIfInBounds t a) tmps
def z4z (P:Program) (g:FuncId) (lb:Array Value) (sec:zLw) (L:List Int) (I:Sig):Prop :=
 ∀ (l:Nat) (J:List Int->Sig->World->Prop) (W:World),Ag I W->(∀ pre σp A A',J pre σp A->Below A.heap.size A A'->J pre σp A')->
   (∀ pre x vs σp σ1 Ws W1,J pre σp Ws->Below Ws.heap.size Ws W1->(∀ b,b<Ws.heap.size->σ1 b=σp b)->Ag σ1 W1->(pre++[x]) <+: L->zFK σ1 sec x vs->
     YieldAt Fence.wide 0 P l (Value.int .i64 x::vs).toArray W1 fun e W'=>e= .returned (.bool true)/\J (pre++[x]) σ1 W'/\Ag σ1 W')->
   J [] I W->CallsIn Fence.wide 0 P g (#[.func (.yield l) #[] #[]]++lb) W fun e W'=>(∃ v,e= .returned v)/\∃ σ',J L σ' W'
structure z1Y (P:Program) (g:FuncId) (ps:List PtV) (L:List Int):Prop where
 enter: ∀ args w,(callFunc g args).run P w= .ok (.enter g args) w
 ok: ∀ x∈L,InK .i64 x
 seq: ∀ (I:Sig) (vs:List Value),zAA (fun (q:PtV) u=>jU I (.pt q.e) (some q.x) [u]) ps vs->z4z P g vs.toArray (zNx ps) L I
def backTo (id:Nat) (X:Array Value) (s:St) (K:St->Prop):Prop :=
 match hget s.hp id with
 | some (.fr X' l)=>X'=X/\(⟨l,s.hp,s.next⟩:St).forceAll K
 | _=>False
def zIl (st:St) (X:Array Value):St:=⟨zJ7 [] st.env,(st.next,.fr X (zJ7 [] st.env))::st.hp,st.next+1⟩
def zSr (T:Tab) (ps:List Tmp) (sec:zLw) (assign body:Code) (st:St) (L:List Int) (S:Array Value->Nat->St):Prop :=
 ∀ X :Array Value,zO7 (zIl st X) (S X 0)/\∀ k,k<L.length->(putZ (S X k) ps (.s (.int .i64 (L.getD k 0))::z2a sec (L.getD k 0))).forceAll fun h=>zBN T assign h fun e s=>match e with
   | .normal=>zBN T body s fun e s=>match e with
     | .normal=>backTo st.next X s fun s=>zO7 s (S X (k+1))
     | _=>False
   | _=>False
section
variable {P:Program} {T:Tab} {B:Base} {w w':World} {I τ:Sig} {Z:yQ} {st:St} {tmps:Array Value} {N:Nat} {a:Act}
theorem GG.rebase (h:GG B I Z st tmps w) {B':Base} (hw:B'.w=B.w) (hg:B'.sg=B.sg):GG B' I Z st tmps w:=by
 obtain ⟨bw,bs,bd⟩:=B;obtain ⟨bw',bs',bd'⟩:=B';cases hw;cases hg;exact ⟨h.mem,h.env,h.len,h.sep,h.bel,h.grew⟩
theorem GG.base (h:GG B I Z st tmps w) (ds:List Deferred):GG {w:=B.w,sg:=I,dfs:=ds} I Z st tmps w :=
 ⟨h.mem,h.env,h.len,h.sep,h.bel,⟨Sig.le.refl _,fun _ _=>rfl⟩⟩
theorem GG.grown (h:GG B I Z st tmps w) (hb:Below w.heap.size w w'):GG B I Z st tmps w':=by
 have hs:B.w.heap.size<=w.heap.size:=h.bel.size;refine ⟨⟨fun b o e=> ?_,fun id ob hi=>(h.mem.ob _ _ hi).same (fun p hp=>hb.block _ ((h.mem.ob _ _ hi).lt hp)) fun b o e=>hb.block _ (h.mem.ag.lt e)⟩,h.env,h.len,h.sep,h.bel.trans (hb.mono hs),h.grew⟩;rw [hb.block _ (h.mem.ag.lt e)];exact h.mem.ag _ _ e
theorem GG.framed (h:GG B I Z st tmps w):GG B I (Z++[none]) (zIl st tmps) tmps w:=by
 have hlast:(Z++[none])[st.next]? =some none:=by rw [<- h.len];simp
 have hold: ∀ {id:Nat},id<st.next->(Z++[none])[id]? =Z[id]? :=fun hi=>by rw [yF];rw [h.len];exact hi
 refine ⟨⟨h.mem.ag,fun id ob hi=> ?_⟩,fun t=>(zKa h.env t).more none,by simp [h.len,zIl],fun id ob p hi hp=> ?_,h.bel,h.grew⟩
 ·simp only [zIl,yD] at hi;split at hi
  ·rename_i e;subst e;cases hi;exact ⟨hlast,fun t=>(zKa h.env t).more none⟩
  ·exact (h.mem.ob _ _ hi).keep none (fun _ _=>rfl) fun _ _ _=>rfl
 ·simp only [zIl,yD] at hi;split at hi
  ·rename_i e;subst e;rw [hlast] at hp;cases hp
  ·have hlt:=h.id_lt hi;rw [hold hlt] at hp;obtain ⟨s1,s2,s3⟩:=h.sep _ _ _ hi hp;refine ⟨s1,s2,fun id2 ob2 p2 hne2 hi2 hp2=> ?_⟩;simp only [zIl,yD] at hi2;split at hi2
   ·rename_i e;subst e;rw [hlast] at hp2;cases hp2
   ·rw [hold (h.id_lt hi2)] at hp2;exact s3 _ _ _ hne2 hi2 hp2
theorem GG.turnLock {l:Nat} {o:Obj} (h:GG (B.lock l o) I Z st tmps w) (hd:zH1 o=false) (hB:B.w.heap.size<=l) (hn:B.sg l=none) (o':Obj) :
 GG (B.lock l o') ((I.del l).add l o') Z st tmps (w.putObj l o'):=by
 obtain ⟨h1,h2,h3,h4⟩:=h.unlock hd hB hn o';exact h1.lock hB h3 h2 h4
theorem GG.back {id:Nat} {X:Array Value} {l:Env} (h:GG B I Z st tmps w) (hi:hget st.hp id=some (.fr X l)):GG B I Z ⟨l,st.hp,st.next⟩ X w :=
 ⟨h.mem,(h.mem.ob _ _ hi).2,h.len,h.sep,h.bel,h.grew⟩
theorem zRT {id:Nat} {X:Array Value} {s:St} {K:St->Prop} (h:backTo id X s K): ∃ l,hget s.hp id=some (.fr X l)/\K ⟨l,s.hp,s.next⟩:=by
 unfold backTo at h;split at h
 ·rename_i X' l e;obtain ⟨rfl,h⟩:=h;rw [St.forceAll_eq] at h;exact ⟨l,e,h⟩
 ·exact h.elim
theorem GG.knowMore (h:GG B I Z st tmps w) (hx: ∀ b o,I b=some o->τ b=some o) (hag:Ag τ w) (hp: ∀ id ob p,hget st.hp id=some ob->Z[id]? =some (some p)->τ p.b=none) (ds:List Deferred) :
 GG {w:=B.w,sg:=τ,dfs:=ds} τ Z st tmps w:=by
 have hle:I.le τ:=fun b o e=>⟨o,hx b o e,.refl⟩;exact ⟨⟨hag,fun id ob hi=>(h.mem.ob _ _ hi).sig hle hx⟩,fun t=>(h.env t).mono hle,h.len,fun id ob p hi hq=>⟨hp _ _ _ hi hq,(h.sep _ _ _ hi hq).2⟩,h.bel,⟨Sig.le.refl _,fun _ _=>rfl⟩⟩
theorem Base.relock (B:Base) {D:Nat} {o:Obj} (h:B.sg D=some o):B=({B with sg:=B.sg.del D} :Base).lock D o:=by
 obtain ⟨bw,bs,bd⟩:=B;show (⟨bw,bs,bd⟩:Base)=⟨bw,(bs.del D).add D o,bd⟩
 congr 1
 funext b
 unfold Sig.add Sig.del;split
 ·rename_i e;subst e;exact h
 ·rfl
structure Rnd (B:Base) (D l:Nat) (rdy:Obj) (N:Nat) (st:St) (tmps:Array Value) (σp:Sig) (w:World) (B1:Base):Prop where
 ww:B1.w=B.w
 dfs:B1.dfs=[]
 grew:zR3 B B1.sg
 le:σp.le B1.sg
 mark:B1.sg D=some (.deferred (some []))
 free:B1.sg l=none
 ga:GA (B1.lock l rdy) N st {tmps:=tmps,defers:=[]} w
theorem Rnd.grown {B1:Base} {D l:Nat} {rdy:Obj} {σp:Sig} (h:Rnd B D l rdy N st tmps σp w B1) (hb:Below w.heap.size w w'):Rnd B D l rdy N st tmps σp w' B1 :=
 ⟨h.ww,h.dfs,h.grew,h.le,h.mark,h.free,let ⟨σ',β',hg'⟩:=h.ga.gg;⟨h.ga.defers,h.ga.size,σ',β',hg'.grown hb⟩⟩
theorem Rnd.ag {B1:Base} {D l:Nat} {rdy:Obj} {σp:Sig} (h:Rnd B D l rdy N st tmps σp w B1):Ag σp w:=fun b u e=>by
 obtain ⟨σ',β',hg'⟩:=h.ga.gg;obtain ⟨u1,e1,k1⟩:=h.le b u e;have hne:b≠l:=fun e'=>by rw [e',h.free] at e1;cases e1
 obtain ⟨u2,e2,k2⟩:=hg'.grew.1 b u1 (by show (B1.sg.add _ _) b=_;unfold Sig.add;rw [if_neg hne];exact e1);obtain ⟨u3,e3,k3⟩:=hg'.mem.ag _ _ e2;exact ⟨u3,e3,(k1.trans k2).trans k3⟩
theorem Rnd.learn {B1:Base} {D l:Nat} {rdy:Obj} {σp σ1:Sig} (h:Rnd B D l rdy N st tmps σp w B1) (hd:zH1 rdy=false) (hBl:B.w.heap.size<=l) (hDl:D≠l) (hb:Below w.heap.size w w') (he: ∀ b,b<w.heap.size->σ1 b=σp b) (hag:Ag σ1 w') :
 ∃ B2,Rnd B D l rdy N st tmps σ1 w' B2:=by
 obtain ⟨σr,βr,hgr⟩:=h.ga.gg;obtain ⟨hl1,hl2,_⟩:=hgr.locked hd;have hll:l<w.heap.size:=(zT.1 hl2).1;have hBw:B.w.heap.size<=w.heap.size:=by have:=hgr.bel.size;rw [show (B1.lock l rdy).w=B.w from h.ww] at this;exact this
 obtain ⟨τ,hτ⟩: ∃ τ:Sig,τ=fun b=>if b<w.heap.size then σr b else σ1 b:=⟨_,rfl⟩;have ho: ∀ b,b<w.heap.size->τ b=σr b:=fun b hb=>by rw [hτ];show (if _ then _ else _)=_;rw [if_pos hb]
 have hn: ∀ b,¬ b<w.heap.size->τ b=σ1 b:=fun b hb=>by rw [hτ];show (if _ then _ else _)=_;rw [if_neg hb]
 have hx: ∀ b o,σr b=some o->τ b=some o:=fun b o e=>by rw [ho b (hgr.mem.ag.lt e)];exact e
 have hg2:=(hgr.grown hb).knowMore (τ:=τ) hx (fun b o e=>by
  by_cases hlt:b<w.heap.size
  ·rw [ho b hlt] at e;exact (hgr.grown hb).mem.ag _ _ e
  ·rw [hn b hlt] at e;exact hag _ _ e) (fun id ob p hi hp=>by rw [ho _ ((hgr.mem.ob _ _ hi).lt hp)];exact (hgr.sep _ _ _ hi hp).1) []
 have hτl:τ l=some rdy:=hx _ _ hl1;rw [Base.relock {w:=(B1.lock l rdy).w,sg:=τ,dfs:=[]} hτl] at hg2;have zDc: ∀ b,b≠l->(τ.del l) b=τ b:=fun b hb=>by unfold Sig.del;rw [if_neg hb]
 have hB1: ∀ b o,B1.sg b=some o->∃ o',τ b=some o'/\Ole o o':=fun b o e=>by
  have hne:b≠l:=fun e'=>by rw [e',h.free] at e;cases e
  obtain ⟨u2,e2,k2⟩:=hgr.grew.1 b o (by show (B1.sg.add _ _) b=_;unfold Sig.add;rw [if_neg hne];exact e);exact ⟨u2,hx _ _ e2,k2⟩
 have hne1: ∀ b o,B1.sg b=some o->b≠l:=fun b o e e'=>by rw [e',h.free] at e;cases e
 refine ⟨{w:=(B1.lock l rdy).w,sg:=τ.del l,dfs:=[]},h.ww,rfl,⟨fun b o e=> ?_,fun b hb'=> ?_⟩,fun b o e=> ?_,?_,by show (τ.del l) l=none;unfold Sig.del;rw [if_pos rfl],⟨rfl,h.ga.size,τ,βr,hg2⟩⟩
 ·obtain ⟨o1,e1,k1⟩:=h.grew.1 b o e;obtain ⟨o2,e2,k2⟩:=hB1 b o1 e1;exact ⟨o2,by show (τ.del l) b=_;rw [zDc b (hne1 b o1 e1)];exact e2,k1.trans k2⟩
 ·show (τ.del l) b=_;have hlt:b<l:=by omega
  rw [zDc b (by omega),ho b (by omega)];refine ((hgr.grew.2 b (by rw [show (B1.lock l rdy).w=B.w from h.ww];exact hb')).trans ?_).trans (h.grew.2 b hb');show (B1.sg.add _ _) b=_;unfold Sig.add;rw [if_neg (by omega)]
 ·by_cases hlt:b<w.heap.size
  ·rw [he b hlt] at e;obtain ⟨o1,e1,k1⟩:=h.le b o e;obtain ⟨o2,e2,k2⟩:=hB1 b o1 e1;exact ⟨o2,by show (τ.del l) b=_;rw [zDc b (hne1 b o1 e1)];exact e2,k1.trans k2⟩
  ·exact ⟨o,by show (τ.del l) b=_;rw [zDc b (by omega),hn b hlt];exact e,.refl⟩
 ·obtain ⟨o2,e2,k2⟩:=hB1 _ _ h.mark;have:=k2.nodata rfl;subst this;show (τ.del l) D=_;rw [zDc D hDl];exact e2
theorem zMy: ∀ (l:List (Tmp×Value)) (tmps:Array Value),(z2j tmps l).size=tmps.size
 | [],_=>rfl
 | (t,a)::r,tmps=>(zMy r _).trans (by simp)
theorem GG.putZ: ∀ {ps:List Tmp} {avs:List AV} {vs:List Value} {st:St} {tmps:Array Value},(∀ p∈ps,p<tmps.size)->jW I Z avs vs->GG B I Z st tmps w->GG B I Z (putZ st ps avs) (z2j tmps (ps.zip vs)) w
 | [],_,_,_,_,_,_,h=>by simpa [Vm.putZ,z2j] using h
 | p::ps,[],[],_,_,_,_,h=>by simpa [Vm.putZ,z2j] using h
 | p::ps,av::avs,v::vs,st,tmps,hp,hv,h=>by
   have h1:=h.put (d:=some p) (a:=av) (v:=v) (fun t e=>by cases e;exact hp p (zR ..)) hv.1;exact GG.putZ (ps:=ps) (avs:=avs) (vs:=vs) (fun q hq=>by simpa [zH3] using hp q (zN _ hq)) hv.2 h1
 | p::ps,[],_::_,_,_,_,h,_=>h.elim
 | p::ps,_::_,[],_,_,_,h,_=>h.elim
theorem zXr (R:zAU P T) {g:Operand} {ps:Array Tmp} {assign body:Code} {Q:Exit->Act->World->Prop} (ha:codeOk N assign=true) (hb:codeOk N body=true) (hp: ∀ p∈ps.toList,p<N) (hgo:zE3 g=true)
 (h:GA B N st a w) {f:FuncId} {qs:List PtV} {L:List Int} (hg:j7 st.env g= .s (.clo f qs)) (hs:z1Y P f qs L) (hnp:ps.size=z5w (zNx qs)+1) {S:Array Value->Nat->St} (hr:zSr T ps.toList (zNx qs) assign body st L S)
 (hQ: ∀ (B1:Base) (D:Nat) (a':Act) (w':World),B1.w=B.w->zR3 B B1.sg->B1.dfs= {target:= .collected D,args:= #[]} ::B.dfs->B1.sg D=some (.deferred (some []))->B.w.heap.size<=D->B.sg D=none->
   GA B1 N (S a.tmps L.length) a' w'->Q .normal a' w') :
 (Code.rangeFunc g ps assign body).wpIn (FR none) 0 P Q a w:=by
 obtain ⟨hle0,hround⟩:=hr a.tmps;obtain ⟨σs,βs,hgg⟩:=h.gg;have hval:=j9 hgg hgo;rw [hg] at hval;obtain ⟨vs,hev,hcap⟩:=hval;have hseq:=hs.seq σs vs hcap;refine wpIn_rangeFunc ?_;intro fn hfn;obtain ⟨rec,hrec⟩: ∃ rec:LoopState->Option Code->Loop,rec=fun st pe=> {state:=st,pending:=pe,fn,tmps:=a.tmps,params:=ps,assign,body,defers:=w.heap.size} :=⟨_,rfl⟩;obtain ⟨W1,hW1⟩: ∃ W1,(w.alloc (.deferred (some []))).alloc (.loop (rec .ready none))=W1:=⟨_,rfl⟩
 have hL1:W1.heap[w.heap.size+1]? =some (.loop (rec .ready none)):=by
  rw [<- hW1];have:=World.alloc_heap_new (w.alloc (.deferred (some []))) (.loop (rec .ready none));rwa [World.size_alloc] at this
 have hK1:W1.heap[w.heap.size]? =some (.deferred (some [])):=by
  rw [<- hW1];exact (Go.RowKit.Below.heap_alloc _ _ _ (by simp)).trans (World.alloc_heap_new w _)
 have hbw:Below w.heap.size w W1:=by
  rw [<- hW1];exact ((Below.refl _ w).alloc (zH _) _).alloc (by simp) _
 have hBw:B.w.heap.size<=w.heap.size:=hgg.bel.size
 -- the rounds' base: what is known at the start, and the block for the deferred calls
 have hσD:σs w.heap.size=none:=by
  cases e:σs w.heap.size with
  | none=>rfl
  | some o=>exact absurd (hgg.mem.ag.lt e) (Nat.lt_irrefl _)
 have hσl:σs (w.heap.size+1)=none:=by
  cases e:σs (w.heap.size+1) with
  | none=>rfl
  | some o=>exact absurd (hgg.mem.ag.lt e) (by omega)
 obtain ⟨B1,hB1⟩: ∃ B1:Base,B1=({w:=B.w,sg:=σs,dfs:=[]} :Base).lock w.heap.size (.deferred (some [])):=⟨_,rfl⟩;have hB1w:B1.w=B.w:=by rw [hB1];rfl
 have hB1l:B1.sg (w.heap.size+1)=none:=by
  rw [hB1];show (Sig.add σs _ _) _=_;unfold Sig.add;rw [if_neg (by omega)];exact hσl
 have hB1D:B1.sg w.heap.size=some (.deferred (some [])):=by
  rw [hB1];show (Sig.add σs _ _) _=_;unfold Sig.add;rw [if_pos rfl]
 have hB1le:σs.le B1.sg:=fun b o e=>⟨o,by
  rw [hB1];show (Sig.add σs _ _) _=_
  unfold Sig.add;rw [if_neg (fun e'=>by rw [e',hσD] at e;cases e)];exact e,.refl⟩
 have hBl:B1.w.heap.size<=w.heap.size+1:=by rw [hB1w];omega
 have hB1g:zR3 B B1.sg:=⟨hgg.grew.1.trans hB1le,fun b hb'=>by
  rw [hB1];show (Sig.add σs _ _) b=_;unfold Sig.add
  rw [if_neg (by omega)];exact hgg.grew.2 b hb'⟩
 have hstart:GA (B1.lock (w.heap.size+1) (.loop (rec .ready none))) N (S a.tmps 0) {tmps:=a.tmps,defers:=[]} W1:=by
  have g1:=((hgg.framed).base []).grown hbw;have hpl: ∀ id ob q,hget (zIl st a.tmps).hp id=some ob->(βs++[none])[id]? =some (some q)->q.b<w.heap.size:=fun id ob q hi hq=>(hgg.framed.mem.ob _ _ hi).lt hq;have g2:=g1.lock (l:=w.heap.size) (o:= .deferred (some [])) hBw hK1 hσD (fun id ob q hi hq e=>by have:=hpl _ _ _ hi hq;omega);have g3:=g2.lock (l:=w.heap.size+1) (o:= .loop (rec .ready none)) (Nat.le_succ_of_le hBw) hL1 (by unfold Sig.add;rw [if_neg (by omega)];exact hσl) (fun id ob q hi hq e=>by have:=hpl _ _ _ hi hq;omega)
  rw [<- hB1] at g3;have:GA (B1.lock (w.heap.size+1) (.loop (rec .ready none))) N (zIl st a.tmps) {tmps:=a.tmps,defers:=[]} W1:=⟨by rw [hB1];rfl,h.size,_,_,g3⟩;exact this.weaken hle0
 refine ⟨w.heap.size+1,[{target:= .collected w.heap.size,args:= #[]}],W1,{target:= .fn (.func f) vs.toArray,args:= #[.func (.yield (w.heap.size+1)) #[] #[]]},W1,f,
  #[.func (.yield (w.heap.size+1)) #[] #[]]++vs.toArray,W1,?_,?_,?_,?_,fun hh=>(by cases hh),?_⟩
 ·rw [<- hW1,hrec];exact run_enterLoop_outer _ _ _ _ _
 ·simp only [resolve,hev];simp [go_sem]
 ·intro f' hf';trivial
 ·simp [invoke,go_sem,hs.enter]
 ·have hrnd:Rnd B w.heap.size (w.heap.size+1) (.loop (rec .ready none)) N (S a.tmps 0) a.tmps σs W1 B1:=⟨hB1w,by rw [hB1];rfl,hB1g,hB1le,hB1D,hB1l,hstart⟩
  refine (hseq (w.heap.size+1) (fun pre σp W=> ∃ B1,Rnd B w.heap.size (w.heap.size+1) (.loop (rec .ready none)) N (S a.tmps pre.length) a.tmps σp W B1) W1 hrnd.ag
   (fun pre σp A A' ⟨B2,hj⟩ hb'=>⟨B2,hj.grown hb'⟩) ?_ ⟨B1,hrnd⟩).mono ?_
  ·-- one round
   rintro pre x vs' σp σ1 Ws W ⟨B0,hj0⟩ hbW heq hag1 hpre hsec;obtain ⟨B2,hr2⟩:=hj0.learn rfl (Nat.le_succ_of_le hBw) (by omega) hbW heq hag1;have hj:=hr2.ga;have hBl:B2.w.heap.size<=w.heap.size+1:=by rw [hr2.ww];omega
   have hB1l:=hr2.free;obtain ⟨σ1',β1,hg1⟩:=hj.gg;obtain ⟨hl1,hl2,hl3⟩:=hg1.locked rfl
   have hlen:pre.length<L.length:=by
    have:=hpre.length_le;simp at this;omega
   have hxk:L.getD pre.length 0=x:=by
    obtain ⟨t,rfl⟩:=hpre;simp [gdE]
   have hxL:x∈L:=hpre.subset (by simp);have hy:=run_yield (P:=P) (args:=(Value.int .i64 x::vs').toArray) hl2 (by rw [hrec];simp [hsec.len,hnp]);rw [hrec] at hy;refine ⟨fn,_,assign,body,hy,roundIn_of_wpIn hfn ?_⟩;have hrd:=hround _ hlen;rw [St.forceAll_eq,hxk] at hrd
   have hsl:σ1.le σ1':=fun b u e=>by
    obtain ⟨u1,e1,k1⟩:=hr2.le b u e;have hne:b≠w.heap.size+1:=fun e'=>by rw [e',hB1l] at e1;cases e1
    obtain ⟨u2,e2,k2⟩:=hg1.grew.1 b u1 (by show (B2.sg.add _ _) b=_;unfold Sig.add;rw [if_neg hne];exact e1);exact ⟨u2,e2,k1.trans k2⟩
   have hga1:GA (B2.lock (w.heap.size+1) (.loop (rec .ready none))) N (putZ (S a.tmps pre.length) ps.toList (.s (.int .i64 x)::z2a (zNx qs) x)) {tmps:=z2j a.tmps (ps.toList.zip (Value.int .i64 x::vs')),defers:=[]} W :=
    ⟨hj.defers,(zMy _ _).trans h.size,σ1',β1,hg1.putZ (fun p hq=>by show p<a.tmps.size;rw [h.size];exact hp p hq) ⟨⟨rfl,hs.ok x hxL⟩,(hsec.mono hsl).av⟩⟩
   have hfold:Array.foldl (fun (tmps:Array Value) (x:Tmp×Value)=>match x with|(t,a)=>tmps.setIfInBounds t a) a.tmps (ps.zip (Value.int .i64 x::vs').toArray)=z2j a.tmps (ps.toList.zip (Value.int .i64 x::vs')):=by
    rw [<- Array.foldl_toList,Array.toList_zip];rfl
   refine zAn (B:=B2.lock (w.heap.size+1) (.loop (rec .ready none))) (r:=some (w.heap.size+1)) R assign ha (by dsimp only;rw [hfold];exact hga1) hrd fun e s1 a1 W2 hk2 hga2=> ?_;cases e with
   | normal =>
     obtain ⟨σ2,β2,hg2⟩:=hga2.gg;obtain ⟨_,hl2',_⟩:=hg2.locked rfl;have hbr:=run_beginRound (P:=P) hl2' (by rw [hrec]);refine ⟨_,hbr,?_⟩;have hg3:=hg2.turnLock rfl hBl hB1l (.loop {rec .ready none with state:= .busy});have hga3:GA (B2.lock (w.heap.size+1) (.loop {rec .ready none with state:= .busy})) N s1 a1 (W2.putObj (w.heap.size+1) (.loop {rec .ready none with state:= .busy})):=⟨hga2.defers,hga2.size,_,_,hg3⟩
     refine zAn (r:=some (w.heap.size+1)) R body hb hga3 hk2 fun e s4 a4 W4 hk4 hga4=> ?_;cases e with
     | normal =>
       obtain ⟨l',hfr,hle⟩:=zRT hk4;obtain ⟨σ4,β4,hg4⟩:=hga4.gg;obtain ⟨_,hl4,_⟩:=hg4.locked rfl;have hg5:=(hg4.back hfr).turnLock rfl hBl hB1l (.loop (rec .ready none));have hga5:GA (B2.lock (w.heap.size+1) (.loop (rec .ready none))) N ⟨l',s4.hp,s4.next⟩ {tmps:=a.tmps,defers:=[]} (W4.putObj (w.heap.size+1) (.loop (rec .ready none))):=⟨hj.defers,h.size,_,_,hg5⟩;have her:=run_endRound (P:=P) none hl4;have hga6:=hga5.weaken hle
       have hr6:Rnd B w.heap.size (w.heap.size+1) (.loop (rec .ready none)) N (S a.tmps (pre.length+1)) a.tmps σ1 (W4.putObj (w.heap.size+1) (.loop (rec .ready none))) B2:=⟨hr2.ww,hr2.dfs,hr2.grew,hr2.le,hr2.mark,hr2.free,hga6⟩;refine ⟨_,_,by rw [hrec] at her ⊢;exact her,rfl,?_,hr6.ag⟩;rw [zO];exact ⟨B2,hr6⟩
     | _=>exact hk4.elim
   | _=>exact hk2.elim
  ·-- behind the sequence
   rintro e W2 ⟨⟨v,rfl⟩,σ',B2,hj⟩;obtain ⟨σ2,β2,hg2⟩:=hj.ga.gg;obtain ⟨_,hl2,_⟩:=hg2.locked rfl;refine ⟨none,_,by have:=run_endLoop (P:=P) hl2 (by rw [hrec];simp);rw [hrec] at this;exact this,?_⟩;obtain ⟨hg3,_,_,_⟩:=hg2.unlock rfl (by rw [hj.ww];omega) hj.free (.loop {rec .ready none with state:= .exhausted});refine hQ {B2 with dfs:= {target:= .collected w.heap.size,args:= #[]} ::B.dfs} w.heap.size _ _ hj.ww hj.grew rfl hj.mark hBw ?_ ?_
   ·cases e:B.sg w.heap.size with
    | none=>rfl
    | some o=>obtain ⟨o1,e1,_⟩:=hgg.grew.1 _ _ e;rw [hσD] at e1;cases e1
   ·have hfin:=hg3.rebase (B':= {B2 with dfs:= {target:= .collected w.heap.size,args:= #[]} ::B.dfs}) rfl rfl;rw [hrec] at hfin;exact ⟨by show _::a.defers=_;rw [h.defers],h.size,_,_,hfin⟩
end
end Go.Vm
namespace Go.Vm
open Go.RowKit
open Go.ChangeMaps (setBlock)
structure RM where
 front:List Oper
 it:Tmp
 ty:TypeId
 x:Operand
 full:Array Oper
 bl:Nat
 tn:Tmp
 tk:Tmp
 c:Nat
 te:Tmp
 fullC:Array Oper
 backC:List Oper
 rest:Code
def zGD:List Oper->Option (List Oper×Oper)
 | []=>none
 | [o]=>some ([],o)
 | o::r=>match zGD r with
   | some (l,q)=>some (o::l,q)
   | none=>none
def zO9:Oper->Option (Tmp×TypeId×Operand)
 | ⟨some it,.range ty x,_,_,_,none⟩=>some (it,ty,x)
 | _=>none
def zWJ:Oper->Option (Tmp×Tmp)
 | ⟨some tn,.next (.tmp it) false,_,_,_,none⟩=>some (tn,it)
 | _=>none
def zVq:Oper->Option (Tmp×Tmp)
 | ⟨some tk,.extract (.tmp tn) 0,_,_,_,none⟩=>some (tk,tn)
 | _=>none
def zOd:Oper->Option (Tmp×Tmp)
 | ⟨some te,.entry (.tmp it),_,_,_,none⟩=>some (te,it)
 | _=>none
def zZf (it it1 it2 tn tn2 t tk te bl bl':Nat):Bool :=
 Nat.beq it1 it&&(Nat.beq it2 it&&(Nat.beq tn2 tn&&(Nat.beq t tk&&(Nat.beq bl' bl&&(!Nat.beq tn it&&(!Nat.beq tk it&&(!Nat.beq te it&& !Nat.beq tk tn)))))))
def z41 (bl:Nat) (opsB:List Oper) (t bl' c:Nat) (fullC:Array Oper) (rest:Code) (a:Code):Option RM :=
 match opsB,fullC.toList,a with
 | [o1,o2],eo::backC,.region _ full false=>match zWJ o1,zVq o2,zOd eo,zGD full.toList with
   | some (tn,it1),some (tk,tn2),some (te,it2),some (front,ro)=>match zO9 ro with
     | some (it,ty,x)=>match zZf it it1 it2 tn tn2 t tk te bl bl' with
       | true=>some ⟨front,it,ty,x,full,bl,tn,tk,c,te,fullC,backC,rest⟩
       | false=>none
     | none=>none
   | _,_,_,_=>none
 | _,_,_=>none
def z0K (a b:Code):Option RM :=
 match b with
 | .block bl (.loop (.seq (.region _ opsB false) (.seq (.cond (.tmp t) .skip (.exit bl')) (.block c (.seq (.region _ fullC false) rest)))))=>z41 bl opsB.toList t bl' c fullC rest a
 | _=>none
structure z6V (a b:Code) (r:RM):Prop where
 ex: ∃ (ro o1 o2 eo:Oper) (idA idB idC:Nat) (opsB:Array Oper),a= .region idA r.full false/\r.full.toList=r.front++[ro]/\(ro.dst=some r.it/\ro.op= .range r.ty r.x/\ro.guard=none)/\
  b= .block r.bl (.loop (.seq (.region idB opsB false) (.seq (.cond (.tmp r.tk) .skip (.exit r.bl)) (.block r.c (.seq (.region idC r.fullC false) r.rest)))))/\opsB.toList=[o1,o2]/\
  (o1.dst=some r.tn/\o1.op= .next (.tmp r.it) false/\o1.guard=none)/\(o2.dst=some r.tk/\o2.op= .extract (.tmp r.tn) 0/\o2.guard=none)/\
  r.fullC.toList=eo::r.backC/\(eo.dst=some r.te/\eo.op= .entry (.tmp r.it)/\eo.guard=none)
 n1:r.tn≠r.it
 n2:r.tk≠r.it
 n3:r.te≠r.it
 n4:r.tk≠r.tn
theorem zHY: ∀ {l f:List Oper} {o:Oper},zGD l=some (f,o)->l=f++[o]
 | [],_,_,h=>by cases h
 | [q],_,_,h=>by cases h;rfl
 | q ::q2::r,f,o,h=>by
   simp only [zGD] at h;split at h
   ·rename_i l q' e;cases h;rw [zHY e];rfl
   ·cases h
theorem zRI {o:Oper} {it:Tmp} {ty:TypeId} {x:Operand} (h:zO9 o=some (it,ty,x)):o.dst=some it/\o.op= .range ty x/\o.guard=none:=by
 unfold zO9 at h;split at h<;>cases h;exact ⟨rfl,rfl,rfl⟩
theorem zUm {o:Oper} {tn it:Tmp} (h:zWJ o=some (tn,it)):o.dst=some tn/\o.op= .next (.tmp it) false/\o.guard=none:=by
 unfold zWJ at h;split at h<;>cases h;exact ⟨rfl,rfl,rfl⟩
theorem zTy {o:Oper} {tk tn:Tmp} (h:zVq o=some (tk,tn)):o.dst=some tk/\o.op= .extract (.tmp tn) 0/\o.guard=none:=by
 unfold zVq at h;split at h<;>cases h;exact ⟨rfl,rfl,rfl⟩
theorem zRw {o:Oper} {te it:Tmp} (h:zOd o=some (te,it)):o.dst=some te/\o.op= .entry (.tmp it)/\o.guard=none:=by
 unfold zOd at h;split at h<;>cases h;exact ⟨rfl,rfl,rfl⟩
theorem z1P {a b:Code} {r:RM} (h:z0K a b=some r):z6V a b r:=by
 unfold z0K at h;split at h
 case h_2=>cases h
 rename_i bl idB opsB t bl' c idC fullC rest;unfold z41 at h;split at h
 case h_2=>cases h
 rename_i o1 o2 eo backC idA full hoB hfC;split at h
 case h_2=>cases h
 rename_i tn it1 tk tn2 te it2 front ro e1 e2 e3 e4;split at h
 case h_2=>cases h
 rename_i it ty x e5;split at h
 case h_2=>cases h
 rename_i hc;cases h;unfold zZf at hc;simp only [zA,y8,Nat.beq_eq] at hc;obtain ⟨rfl,rfl,rfl,rfl,rfl,h1,h2,h3,h4⟩:=hc;have nb: ∀ {p q:Nat},Nat.beq p q=false->p≠q:=fun h e=>by subst e;rw [qQ] at h;cases h
 exact ⟨⟨ro,o1,o2,eo,idA,idB,idC,opsB,rfl,zHY e4,zRI e5,rfl,hoB,zUm e1,zTy e2,hfC,zRw e3⟩,nb h1,nb h2,nb h3,nb h4⟩
abbrev IBM:=List ((ETy.int .i64).T×ETy.bool.T)
def itV (r:Nat):AV:= .s (.val (.pointer (some ⟨r,0,none⟩)))
def zU9 (R:RM) (SP:Spec IBM) (st:St) (pre:IBM) (K:Exit->St->Prop):Exit->St->Prop
 | .normal,s=>SP.inv pre/\zO7 s (SP.head st pre)
 | .exit i,s=>match Nat.beq i R.c with
   | true=>SP.inv pre/\zO7 s (SP.head st pre)
   | false=>match Nat.beq i R.bl with
     | true=>K .normal s
     | false=>K (.exit i) s
 | e,s=>K e s
structure z60 (it:Nat) (p:Prop):Prop where
 intro::(out:p)
def zPV (T:Tab) (R:RM) (m:IBM) (st:St) (r:Nat) (K:Exit->St->Prop):Prop :=
 (st.put (some R.it) (itV r)).forceAll fun st=>z60 R.it (∃ SP:Spec IBM,(SP.inv []/\zO7 st (SP.head st []))/\
   (∀ pre e,(SP.inv pre/\pre.Nodup/\(∀ p∈pre,p∈m)/\e∈m/\e∉pre)->qV (SP.head st pre).env R.it=itV r/\
     ((((SP.head st pre).put (some R.tn) (.s .junk)).put (some R.tk) (.s (.bool true))).put (some R.te) (.tup [.s (.int .i64 e.1),.s (.bool e.2)])).forceAll fun h =>
       zBn T false R.fullC R.backC h fun s=>zBN T R.rest s (zU9 R SP st (pre++[e]) K))/\
   (∀ pre,(SP.inv pre/\pre.Nodup/\∀ p,p∈pre↔p∈m)->qV (SP.head st pre).env R.it=itV r/\
     (((SP.head st pre).put (some R.tn) (.s .junk)).put (some R.tk) (.s (.bool false))).forceAll (K .normal)))
def z6J (T:Tab) (R:RM) (st:St) (K:Exit->St->Prop):Prop :=
 zBn T false R.full R.front st fun st=>match T.desc R.ty,j7 st.env R.x with
  | .map _ _,.s (.mp (.int .i64) .bool m)=> ∀ r:Nat,zPV T R m st r K
  | _,_=>False
section
variable {P:Program} {T:Tab} {B:Base} {w w':World} {I τ:Sig} {Z:yQ} {st:St} {tmps:Array Value} {N:Nat} {a:Act}
theorem zOX {l:Nat} {o:Obj} (h:w.heap[l]? =some o):w.putObj l o=w:=by
 unfold World.putObj
 have:w.heap.setIfInBounds l o=w.heap:=by
  apply Array.ext_getElem?;intro i;rw [qW];split
  ·rename_i e;subst e;obtain ⟨hl,e⟩:=zT.1 h;rw [if_pos hl];exact h.symm
  ·rfl
 rw [this]
theorem GG.drewW (h:GG B I Z st tmps w):GG B I Z st tmps w.drew:=h.grown (Below.drew (Below.refl _ _))
structure zGW (l b:Nat) (m:IBM) (es:Array MapEntry) (clock:Nat) (seen:Array Nat) (pre:IBM):Prop where
 nd:pre.Nodup
 sub: ∀ p∈pre,p∈m
 iff: ∀ (i:Nat) (x:(ETy.int .i64).T×ETy.bool.T) (en:MapEntry),m[i]? =some x->es[i]? =some en->(seen.contains en.born=true↔x∈pre)
theorem zGW.step {l b:Nat} {m:IBM} {es:Array MapEntry} {clock:Nat} {seen:Array Nat} {pre:IBM} (h:zGW l b m es clock seen pre) (hn:(m.map (·.1)).Nodup) (hs:es.size=m.length) (hst:MapKept.Stamped es clock) {en:MapEntry} (he:en∈(leftOf es seen).toList) :
 ∃ (i:Nat) (x:(ETy.int .i64).T×ETy.bool.T),m[i]? =some x/\es[i]? =some en/\x∈m/\x∉pre/\zGW l b m es clock (seen.push en.born) (pre++[x]):=by
 obtain ⟨h1,h2⟩:=mem_left he;obtain ⟨i,hi,e⟩:=yI.1 h1;have hi':i<es.size:=by simpa using hi
 have ei:es[i]? =some en:=by rw [<- zI,gE hi,e]
 have him:i<m.length:=by omega
 have em:m[i]? =some m[i]:=gE him;have hx:m[i]∉pre:=fun k=>by rw [(h.iff i _ _ em ei).2 k] at h2;cases h2
 refine ⟨i,m[i],em,ei,qF him,hx,?_,?_,?_⟩
 ·rw [List.nodup_append];exact ⟨h.nd,by simp,fun p hp q hq e=>by rw [zF] at hq;subst hq;subst e;exact hx hp⟩
 ·intro p hp;rcases z8.1 hp with k|k
  ·exact h.sub p k
  ·rw [zF.1 k];exact qF him
 ·intro j y en' ej ej';rw [contains_push,yN,h.iff j y en' ej ej',z8,zF,beq_iff_eq];refine or_congr Iff.rfl ⟨fun k=> ?_,fun k=> ?_⟩
  ·have:=born_inj hst.2.1 (yT (by rw [zI];exact ej')) h1 k;subst this;have hj:j<es.toList.length:=(zG.1 (show es.toList[j]? =some en' by rw [zI];exact ej')).1;have nd:es.toList.Nodup:=(List.Pairwise.of_map (S:=(·≠·)) (·.born) (fun _ _ h e=>h (by rw [e])) hst.2.1)
   have hij:j=i:=(List.getElem_inj nd).1 (by
    have a1:=(zG.1 (show es.toList[j]? =some en' by rw [zI];exact ej')).2
    rw [a1,e])
   subst hij;rw [em] at ej;cases ej;rfl
  ·subst k;have nd:m.Nodup:=List.Pairwise.of_map (S:=(·≠·)) (·.1) (fun _ _ h e=>h (by rw [e])) hn;obtain ⟨hj,e2⟩:=zG.1 ej;have hij:j=i:=(List.getElem_inj nd).1 e2;subst hij;rw [ei] at ej';cases ej';rfl
theorem zGW.all {l b:Nat} {m:IBM} {es:Array MapEntry} {clock:Nat} {seen:Array Nat} {pre:IBM} (h:zGW l b m es clock seen pre) (hs:es.size=m.length) (h0:(leftOf es seen).size=0): ∀ p,p∈pre↔p∈m:=fun p=>by
 refine ⟨h.sub p,fun hp=> ?_⟩;obtain ⟨i,hi,rfl⟩:=yI.1 hp;have hi':i<es.size:=by omega
 refine (h.iff i _ _ (gE hi) (Array.getElem?_eq_getElem hi')).1 ?_;have he:leftOf es seen= #[]:=Array.eq_empty_of_size_eq_zero h0;unfold leftOf at he;rw [Array.filter_eq_empty_iff] at he;have:=he es[i] (Array.getElem_mem hi');simpa using this
theorem zVG {o1 o2:Oper} {it tn tk:Tmp} {l:Nat} {opsB:Array Oper} {vs:List Value} {k:Bool} {Q:Exit->Act->World->Prop} (h1:o1.dst=some tn/\o1.op= .next (.tmp it) false/\o1.guard=none) (h2:o2.dst=some tk/\o2.op= .extract (.tmp tn) 0/\o2.guard=none)
 (hit:a.eval (.tmp it)= .pointer (some ⟨l,0,none⟩)) (htn:tn<a.tmps.size) (hrun: ∀ ty,(Instr.next (.pointer (some ⟨l,0,none⟩)) false ty).run P w= .ok (.tuple (Value.bool k::vs).toArray) w')
 (hQ:Q .normal ((a.put (some tn) (.tuple (Value.bool k::vs).toArray)).put (some tk) (.bool k)) w'):wpListIn (FR none) 0 P opsB Q [o1,o2] a w:=by
 obtain ⟨a1,a2,a3⟩:=h1;obtain ⟨b1,b2,b3⟩:=h2;refine zAX a3 (zBA (v:= .tuple (Value.bool k::vs).toArray) (w':=w') (by rw [a2];intro c e;cases e) ?_ ?_)
 ·simp only [execOp,a2,hit];rw [zP,hrun];rfl
 ·rw [a1];refine zAX b3 (zBA (v:= .bool k) (w':=w') (by rw [b2];intro c e;cases e) ?_ ?_)
  ·have:(a.put (some tn) (.tuple (Value.bool k::vs).toArray)).eval (.tmp tn)= .tuple (Value.bool k::vs).toArray:=by
    simp [Act.eval,Act.put,htn]
   simp [execOp,b2,this,Instr.extract]
  ·rw [b1];exact hQ
theorem z1b (R:zAU P T) {ca cb:Code} {r:RM} (hr:z0K ca cb=some r) (hA:codeOk N ca=true) (hB:codeOk N cb=true) (h:GA B N st a w) {K:Exit->St->Prop} (hk:z6J T r st K) {Q:Exit->Act->World->Prop}
 (hQ: ∀ e B1 st' a' w',B1.w=B.w->zR3 B B1.sg->B1.dfs=B.dfs->K e st'->GA B1 N st' a' w'->Q e a' w'):(Code.seq ca cb).wpIn (FR none) 0 P Q a w:=by
 obtain ⟨⟨ro,o1,o2,eo,idA,idB,idC,opsB,rfl,hfull,⟨r1,r2,r3⟩,rfl,hopsB,hn1,hn2,hfC,⟨q1,q2,q3⟩⟩,d1,d2,d3,d4⟩:=z1P hr;simp only [codeOk,zA,zM] at hA hB;have hAll:=hA.1;obtain ⟨hBop,⟨hcond,_⟩,hCop,hrest⟩:(∀ o∈opsB.toList,y6 N o=true)/\(True/\True)/\(∀ o∈r.fullC.toList,y6 N o=true)/\codeOk N r.rest=true:=⟨hB.1.1,⟨trivial,trivial⟩,hB.2.2.1.1,hB.2.2.2⟩;have hro:y6 N ro=true:=hAll ro (by rw [hfull];simp);have h1ok:y6 N o1=true:=hBop o1 (by rw [hopsB];simp)
 have h2ok:y6 N o2=true:=hBop o2 (by rw [hopsB];simp);have heok:y6 N eo=true:=hCop eo (by rw [hfC];simp);have hback: ∀ o∈r.backC,y6 N o=true:=fun o ho=>hCop o (by rw [hfC];exact zN _ ho)
 have bndOf: ∀ {o:Oper} {t:Tmp},y6 N o=true->o.dst=some t->t<N:=fun {o t} ho hd=>by
  simp only [y6,hd,zA] at ho;have:t+1<=N:=by simpa [Nat.blt] using ho.1
  exact Nat.lt_of_succ_le this
 have htn:r.tn<N:=bndOf h1ok hn1.1;have htk:r.tk<N:=bndOf h2ok hn2.1;have hte:r.te<N:=bndOf heok q1;have hit:r.it<N:=bndOf hro r1;refine wpIn_seq (wpIn_region_list ?_);rw [hfull];refine zDC R [ro] r.front (fun o ho=>hAll o (by rw [hfull];exact zAJ _ ho)) h hk fun st1 a1 w1 hk1 h1=> ?_;split at hk1
 case h_2=>exact hk1.elim
 rename_i kt u m hdesc hx;obtain ⟨I,Z,hg⟩:=h1.gg
 have hxv:qD I Z (j7 st1.env r.x) (a1.eval r.x):=j9 hg (by
  simp only [y6,zA,zM] at hro
  exact hro.2 _ (by simp [r2,Op.operands]))
 rw [hx] at hxv;obtain ⟨ro0,hxe,hnd,hnil,hat⟩:=hxv;have hxe:a1.eval r.x= .map ro0:=(List.cons.inj hxe).1
 have hund:P.underlying r.ty=some (.map kt u):=by
  unfold Tab.desc at hdesc;split at hdesc
  ·rename_i ti e;rw [(R.ty _ _ e).und,hdesc]
  ·cases hdesc
 -- what lies in the iterator's block
 have main: ∀ (o:Obj),zH1 o=false->(Instr.range r.ty (.map ro0)).run P w1= .ok (.pointer (some ⟨w1.heap.size,0,none⟩)) (w1.alloc o)->
  (∀ (st2:St) (a2:Act) (w2:World) (B1:Base),B1.w=B.w->zR3 B B1.sg->B1.dfs=B.dfs->I.le B1.sg->B1.sg w1.heap.size=none->zPV T r m st1 w1.heap.size K->GA (B1.lock w1.heap.size o) N (st1.put (some r.it) (itV w1.heap.size)) a2 w2->(Code.block r.bl (.loop (.seq (.region idB opsB false) (.seq (.cond (.tmp r.tk) .skip (.exit r.bl)) (.block r.c (.seq (.region idC r.fullC false) r.rest)))))).wpIn (FR none) 0 P Q a2 w2)->
  wpListIn (FR none) 0 P r.full (Exit.then ((Code.block r.bl (.loop (.seq (.region idB opsB false) (.seq (.cond (.tmp r.tk) .skip (.exit r.bl)) (.block r.c (.seq (.region idC r.fullC false) r.rest)))))).wpIn (FR none) 0 P Q) Q) [ro] a1 w1:=by
  intro o hdo hrun hgo;refine zAX r3 (zBA (v:= .pointer (some ⟨w1.heap.size,0,none⟩)) (w':=w1.alloc o) (by rw [r2];intro c e;cases e) ?_ ?_)
  ·simp only [execOp,r2,hxe];rw [zP,hrun];rfl
  ·rw [r1]
   have hσ:I w1.heap.size=none:=by
    cases e:I w1.heap.size with
    | none=>rfl
    | some o=>exact absurd (hg.mem.ag.lt e) (Nat.lt_irrefl _)
   have g1:GG {w:=B.w,sg:=I,dfs:=B.dfs} I Z st1 a1.tmps (w1.alloc o):=(hg.base B.dfs).grown ((Below.refl _ _).alloc (zH _) o);have g2:=g1.put (d:=some r.it) (a:=itV w1.heap.size) (v:= .pointer (some ⟨w1.heap.size,0,none⟩)) (fun t e=>by cases e;rw [h1.size];exact hit) ⟨rfl,fun cs e=>by cases e⟩;have g3:=g2.lock (l:=w1.heap.size) (o:=o) hg.bel.size (heap_alloc_new w1 o) hσ (fun id ob q hi hq e=>by have:=(hg.mem.ob _ _ hi).lt hq;omega)
   exact hgo (st1.put (some r.it) (itV w1.heap.size)) _ _ {w:=B.w,sg:=I,dfs:=B.dfs} rfl hg.grew rfl (Sig.le.refl _) hσ (hk1 _) ⟨by rw [put_defers];exact h1.defers,by rw [zAD,jG];exact h1.size,_,_,by rw [zAD];exact g3⟩
 -- where the block is let go
 have letGo: ∀ {B1:Base} {o:Obj} {st':St} {a':Act} {w':World},B1.w=B.w->B1.sg w1.heap.size=none->zH1 o=false->GA (B1.lock w1.heap.size o) N st' a' w'->GA B1 N st' a' w':=fun {B1 o st' a' w'} hw hn hdo h'=>by
  obtain ⟨σ',β',hg'⟩:=h'.gg;obtain ⟨_,hl,_⟩:=hg'.locked hdo;have:=(hg'.unlock hdo (by rw [hw];exact hg.bel.size) hn o).1;rw [zOX hl] at this;exact ⟨h'.defers,h'.size,_,_,this⟩
 have itEv: ∀ {B2:Base} {st':St} {a':Act} {w':World},GA B2 N st' a' w'->qV st'.env r.it=itV w1.heap.size->a'.eval (.tmp r.it)= .pointer (some ⟨w1.heap.size,0,none⟩):=fun {B2 st' a' w'} h' e=>by
  obtain ⟨σ',β',hg'⟩:=h'.gg;have:=hg'.env r.it;rw [e] at this;exact this.1
 -- nothing is left
 have over: ∀ {B1:Base} {o:Obj} {SP:Spec IBM} {st2:St} {pre:IBM} {a':Act} {w':World} {Q2:Act->World->Prop},B1.w=B.w->zR3 B B1.sg->B1.dfs=B.dfs->B1.sg w1.heap.size=none->zH1 o=false->GA (B1.lock w1.heap.size o) N (SP.head st2 pre) a' w'->
  qV (SP.head st2 pre).env r.it=itV w1.heap.size->K .normal (((SP.head st2 pre).put (some r.tn) (.s .junk)).put (some r.tk) (.s (.bool false)))->(∀ ty,(Instr.next (.pointer (some ⟨w1.heap.size,0,none⟩)) false ty).run P w'= .ok (.tuple #[.bool false]) w')->
  (Code.seq (.region idB opsB false) (.seq (.cond (.tmp r.tk) .skip (.exit r.bl)) (.block r.c (.seq (.region idC r.fullC false) r.rest)))).wpIn (FR none) 0 P (Exit.then Q2 (Exit.inBlock r.bl Q)) a' w':=by
  intro B1 o SP st2 pre a' w' Q2 hw hgr hdf hn hdo h' hi hK hrun
  have hga:GA (B1.lock w1.heap.size o) N (((SP.head st2 pre).put (some r.tn) (.s .junk)).put (some r.tk) (.s (.bool false))) ((a'.put (some r.tn) (.tuple #[.bool false])).put (some r.tk) (.bool false)) w':=by
   obtain ⟨σ',β',hg'⟩:=h'.gg;have p1:=hg'.put (d:=some r.tn) (a:= .s .junk) (v:= .tuple #[.bool false]) (fun t e=>by cases e;rw [h'.size];exact htn) trivial;have p2:=p1.put (d:=some r.tk) (a:= .s (.bool false)) (v:= .bool false) (fun t e=>by cases e;rw [jG,h'.size];exact htk) rfl;exact ⟨by rw [put_defers,put_defers];exact h'.defers,by rw [zAD,jG,zAD,jG];exact h'.size,σ',β',by rw [zAD,zAD];exact p2⟩
  refine wpIn_seq (wpIn_region_list ?_);rw [hopsB];refine zVG (vs:=[]) (k:=false) (w':=w') hn1 hn2 (itEv h' hi) (by rw [h'.size];exact htn) hrun ?_;refine wpIn_seq (wpIn_cond_false (by simp [Act.eval,Act.put,h'.size,htk]) (wpIn_exit ?_));show Exit.inBlock r.bl Q (.exit r.bl) _ _;simp only [Exit.inBlock,if_true];exact hQ _ B1 _ _ _ hw hgr hdf hK (letGo hw hn hdo hga)
 cases ro0 with
 | none =>
   refine main (.mapIter none 0 #[] 0) rfl (run_range_nilMap w1 r.ty kt u hund) fun st2 a2 w2 B1 hw hgr hdf hle hn hgo h2=> ?_;unfold zPV at hgo;rw [St.forceAll_eq] at hgo;obtain ⟨SP,⟨hi0,hle0⟩,_,hend⟩:=hgo.out;have hm:m=[]:=hnil rfl;subst hm;obtain ⟨e1,e2⟩:=hend [] ⟨hi0,jD,fun p=>Iff.rfl⟩;rw [St.forceAll_eq] at e2;refine wpIn_block (wpIn_loop_ghost (fun _ a' w'=>GA (B1.lock w1.heap.size (.mapIter none 0 #[] 0)) N (SP.head (st1.put (some r.it) (itV w1.heap.size)) []) a' w') 0 (h2.weaken hle0) ?_)
   intro k a' w' h';refine over hw hgr hdf hn rfl h' e1 e2 fun ty=> ?_;obtain ⟨σ',β',hg'⟩:=h'.gg;obtain ⟨_,hl,_⟩:=hg'.locked rfl;simp only [Instr.next,getObj,zP,Sem.run,hl,Result.andThen];rfl
 | some b =>
   obtain ⟨es,clock,hb,⟨hsz,hst⟩,hents⟩:=hat b rfl
   refine main (.mapIter (some b) clock #[] clock) rfl (run_range_map w1 r.ty kt u b es clock hund (by
    obtain ⟨o',e1,e2⟩:=hg.mem.ag _ _ hb
    rw [e1,e2.map])) fun st2 a2 w2 B1 hw hgr hdf hle hn hgo h2=> ?_
   unfold zPV at hgo;rw [St.forceAll_eq] at hgo;obtain ⟨SP,⟨hi0,hle0⟩,hround,hend⟩:=hgo.out;obtain ⟨st3,hst3⟩: ∃ st3,st3=st1.put (some r.it) (itV w1.heap.size):=⟨_,rfl⟩;rw [<- hst3] at hround hend hle0 h2
   have hbne:b≠w1.heap.size:=fun e=>by
    have:=hg.mem.ag.lt hb;omega
   -- the map lies as it lay
   have mapAt: ∀ {seen:Array Nat} {c0:Nat} {st':St} {a':Act} {w':World},GA (B1.lock w1.heap.size (.mapIter (some b) clock seen c0)) N st' a' w'->w'.heap[b]? =some (.map es clock)/\w'.heap[w1.heap.size]? =some (.mapIter (some b) clock seen c0):=fun {seen c0 st' a' w'} h'=>by
    obtain ⟨σ',β',hg'⟩:=h'.gg;obtain ⟨_,hl,_⟩:=hg'.locked rfl;refine ⟨?_,hl⟩;obtain ⟨o1,k1,k2⟩:=hle b _ hb;obtain ⟨o2,k3,k4⟩:=hg'.grew.1 b o1 (by show (B1.sg.add _ _) b=_;unfold Sig.add;rw [if_neg hbne];exact k1);obtain ⟨o3,k5,k6⟩:=hg'.mem.ag _ _ k3;rw [k5,((k2.trans k4).trans k6).map]
   refine wpIn_block (wpIn_loop_ghost (fun k a' w'=> ∃ (pre:IBM) (seen:Array Nat) (c0:Nat),k=(leftOf es seen).size/\SP.inv pre/\zGW w1.heap.size b m es clock seen pre/\clock<=c0/\GA (B1.lock w1.heap.size (.mapIter (some b) clock seen c0)) N (SP.head st3 pre) a' w') _
    ⟨[],#[],clock,rfl,hi0,⟨jD,fun p hp=>(by cases hp),fun i x en _ _=>(by simp)⟩,zH _,h2.weaken hle0⟩ ?_)
   rintro k a' w' ⟨pre,seen,c0,rfl,hinv,hia,hc0,h'⟩;obtain ⟨hmb,hml⟩:=mapAt h';have each:=fun ty=>run_next_at (P:=P) w' ty w1.heap.size b clock c0 seen es clock hml hmb hst.1 hc0
   by_cases h0:(leftOf es seen).size=0
   ·obtain ⟨e1,e2⟩:=hend pre ⟨hinv,hia.nd,hia.all hsz h0⟩;rw [St.forceAll_eq] at e2;refine over hw hgr hdf hn rfl h' e1 e2 fun ty=> ?_;rcases each ty with ⟨_,hrun⟩|⟨en,hen,_⟩
    ·exact hrun
    ·have:(leftOf es seen)= #[]:=Array.eq_empty_of_size_eq_zero h0;rw [this] at hen;cases hen
   ·rcases each 0 with ⟨hh,_⟩|⟨en,hen,w3,hw3,hrun⟩
    ·exact absurd hh h0
    have hrun: ∀ ty,(Instr.next (.pointer (some ⟨w1.heap.size,0,none⟩)) false ty).run P w'= .ok (.tuple #[.bool true,en.key,en.val]) (setBlock w3 w1.heap.size (.mapIter (some b) clock (seen.push en.born) clock)):=fun ty=>hrun;obtain ⟨i,x,hxm,hxe2,hxin,hxnot,hia2⟩:=hia.step hnd hsz hst hen;obtain ⟨en2,dk,dv,f1,f2,f3,f4,f5⟩:=hents i x hxm;rw [hxe2] at f1;cases f1;obtain ⟨rfl,fk⟩:=f2;have f4:dv=[.bool x.2]:=f4
    subst f4;have f3:en.key= .int .i64 x.1:=f3;have f5:en.val= .bool x.2:=f5;obtain ⟨e1,e2⟩:=hround pre x ⟨hinv,hia.nd,hia.sub,hxin,hxnot⟩;rw [St.forceAll_eq] at e2
    -- the state behind the step
    have hg3:GA (B1.lock w1.heap.size (.mapIter (some b) clock (seen.push en.born) clock)) N (((SP.head st3 pre).put (some r.tn) (.s .junk)).put (some r.tk) (.s (.bool true)))
     ((a'.put (some r.tn) (.tuple #[.bool true,en.key,en.val])).put (some r.tk) (.bool true)) (setBlock w3 w1.heap.size (.mapIter (some b) clock (seen.push en.born) clock)):=by
     obtain ⟨σ',β',hg'⟩:=h'.gg
     have p0:GG (B1.lock w1.heap.size (.mapIter (some b) clock seen c0)) σ' β' (SP.head st3 pre) a'.tmps w3:=by
      rcases hw3 with e|e
      ·rw [e];exact hg'
      ·rw [e];exact hg'.drewW
     have p1:=p0.turnLock rfl (by rw [hw];exact hg.bel.size) hn (.mapIter (some b) clock (seen.push en.born) clock);have p2:=p1.put (d:=some r.tn) (a:= .s .junk) (v:= .tuple #[.bool true,en.key,en.val]) (fun t e=>by cases e;rw [h'.size];exact htn) trivial;have p3:=p2.put (d:=some r.tk) (a:= .s (.bool true)) (v:= .bool true) (fun t e=>by cases e;rw [jG,h'.size];exact htk) rfl;exact ⟨by rw [put_defers,put_defers];exact h'.defers,by rw [zAD,jG,zAD,jG];exact h'.size,_,_,by rw [zAD,zAD];exact p3⟩
    refine wpIn_seq (wpIn_region_list ?_);rw [hopsB];refine zVG (vs:=[en.key,en.val]) (k:=true) hn1 hn2 (itEv h' e1) (by rw [h'.size];exact htn) hrun ?_;refine wpIn_seq (wpIn_cond_true (by simp [Act.eval,Act.put,h'.size,htk]) (wpIn_skip ?_));refine wpIn_block (wpIn_seq (wpIn_region_list ?_));rw [hfC];obtain ⟨hmb3,hml3⟩:=mapAt hg3
    have hitv:((a'.put (some r.tn) (.tuple #[.bool true,en.key,en.val])).put (some r.tk) (.bool true)).eval (.tmp r.it)= .pointer (some ⟨w1.heap.size,0,none⟩):=itEv hg3 (by
     show qV ((r.tk,_)::(r.tn,_)::(SP.head st3 pre).env) r.it=_
     rw [zAB,if_neg d2,zAB,if_neg d1];exact e1)
    refine zAX q3 (zBA (v:= .tuple #[en.key,en.val]) (by rw [q2];intro c e;cases e) (by
     simp only [execOp,q2];rw [show ∀ a:Act,a.eval=a.eval from fun _=>rfl] at *
     rw [hitv,zP,run_entry_at _ w1.heap.size b clock seen es clock en hml3 hmb3 (mem_left hen).1 hst.2.1];rfl) ?_)
    rw [q1]
    have hg4:GA (B1.lock w1.heap.size (.mapIter (some b) clock (seen.push en.born) clock)) N ((((SP.head st3 pre).put (some r.tn) (.s .junk)).put (some r.tk) (.s (.bool true))).put (some r.te) (.tup [.s (.int .i64 x.1),.s (.bool x.2)]))
     (((a'.put (some r.tn) (.tuple #[.bool true,en.key,en.val])).put (some r.tk) (.bool true)).put (some r.te) (.tuple #[en.key,en.val])) (setBlock w3 w1.heap.size (.mapIter (some b) clock (seen.push en.born) clock)):=by
     obtain ⟨σ',β',hg'⟩:=hg3.gg;have p1:=hg'.put (d:=some r.te) (a:= .tup [.s (.int .i64 x.1),.s (.bool x.2)]) (v:= .tuple #[en.key,en.val]) (fun t e=>by cases e;rw [hg3.size];exact hte) ⟨[en.key,en.val],rfl,⟨f3,fk⟩,f5,trivial⟩;exact ⟨by rw [put_defers];exact hg3.defers,by rw [zAD,jG];exact hg3.size,_,_,by rw [zAD];exact p1⟩
    have again: ∀ (s':St) (a5:Act) (w5:World),SP.inv (pre++[x])/\zO7 s' (SP.head st3 (pre++[x]))->GA (B1.lock w1.heap.size (.mapIter (some b) clock (seen.push en.born) clock)) N s' a5 w5->
     ∃ n',n'<(leftOf es seen).size/\∃ (pre:IBM) (seen:Array Nat) (c0:Nat),n'=(leftOf es seen).size/\SP.inv pre/\zGW w1.heap.size b m es clock seen pre/\clock<=c0/\GA (B1.lock w1.heap.size (.mapIter (some b) clock seen c0)) N (SP.head st3 pre) a5 w5 :=
     fun s' a5 w5 hh h5=>⟨_,left_shrinks es seen en hen,pre++[x],seen.push en.born,clock,rfl,hh.1,hia2,zH _,h5.weaken hh.2⟩
    have:=zDC R (r:=none) (n:=0) (ops:=r.fullC) (Q:=Exit.then (r.rest.wpIn (FR none) 0 P (Exit.inBlock r.c (Exit.then (fun a' w'=> ∃ n',n'<(leftOf es seen).size/\∃ (pre:IBM) (seen:Array Nat) (c0:Nat),n'=(leftOf es seen).size/\SP.inv pre/\zGW w1.heap.size b m es clock seen pre/\clock<=c0/\GA (B1.lock w1.heap.size (.mapIter (some b) clock seen c0)) N (SP.head st3 pre) a' w') (Exit.inBlock r.bl Q)))) (Exit.inBlock r.c (Exit.then (fun a' w'=> ∃ n',n'<(leftOf es seen).size/\∃ (pre:IBM) (seen:Array Nat) (c0:Nat),n'=(leftOf es seen).size/\SP.inv pre/\zGW w1.heap.size b m es clock seen pre/\clock<=c0/\GA (B1.lock w1.heap.size (.mapIter (some b) clock seen c0)) N (SP.head st3 pre) a' w') (Exit.inBlock r.bl Q)))) [] r.backC hback hg4 e2 fun s5 a5 w5 hk5 h5=> ?_
    ·rw [yJ] at this;exact this
    show r.rest.wpIn _ _ _ _ a5 w5;refine zAn R r.rest hrest h5 hk5 fun ex s6 a6 w6 hk6 h6=> ?_;cases ex with
    | normal=>exact again s6 a6 w6 hk6 h6
    | exit j =>
      simp only [zU9] at hk6;simp only [Exit.inBlock];split at hk6
      ·rename_i ej;rw [if_pos (zC ej)];exact again s6 a6 w6 hk6 h6
      ·rename_i ej;rw [if_neg (fun e'=>by subst e';rw [qQ] at ej;cases ej)];show Exit.inBlock r.bl Q (.exit j) a6 w6;simp only [Exit.inBlock];split at hk6
       ·rename_i ej2;rw [if_pos (zC ej2)];exact hQ _ B1 _ _ _ hw hgr hdf hk6 (letGo hw hn rfl h6)
       ·rename_i ej2;rw [if_neg (fun e'=>by subst e';rw [qQ] at ej2;cases ej2)];exact hQ _ B1 _ _ _ hw hgr hdf hk6 (letGo hw hn rfl h6)
    | goto l=>exact hQ _ B1 _ _ _ hw hgr hdf hk6 (letGo hw hn rfl h6)
    | ret=>exact hQ _ B1 _ _ _ hw hgr hdf hk6 (letGo hw hn rfl h6)
    | panic ch=>exact hQ _ B1 _ _ _ hw hgr hdf hk6 (letGo hw hn rfl h6)
    | outgrown=>exact hQ _ B1 _ _ _ hw hgr hdf hk6 (letGo hw hn rfl h6)
end
end Go.Vm
namespace Go.Vm
open Go.RowKit
abbrev zHQ:=FuncId->List PtV->List Int->Prop
def zG0 (P:Program) (SQ:zHQ):Prop:= ∀ f ps L,SQ f ps L->z1Y P f ps L
def St.rowNils (T:Tab) (st:St):List Nat->St
 | []=>st
 | i::r=>(st.rowNil T i).rowNils T r
def zEm (T:Tab) (K:St->Prop):List Nat->St->Prop
 | [],st=>st.forceAll K
 | i::r,st=>(st.rowNil T i).forceAll fun st=>zEm T K r st
theorem zFZ {T:Tab} {K:St->Prop} : ∀ (ids:List Nat) (st:St),zEm T K ids st=K (st.rowNils T ids)
 | [],st=>by rw [zEm,St.forceAll_eq];rfl
 | i::r,st=>by rw [zEm,St.forceAll_eq,zFZ r];rfl
def zDk:zAK->List Nat
 | []=>[]
 | (i,_)::r=>i::zDk r
def zD2:Code->Bool
 | .seq a b=>match z0K a b with
   | some _=>true
   | none=>zD2 a|| zD2 b
 | .block _ c=>zD2 c
 | .cond _ a b=>zD2 a|| zD2 b
 | .loop c=>zD2 c
 | .rangeFunc _ _ _ _=>true
 | .scope c=>zD2 c
 | _=>false
def zCl (T:Tab) (SQ:zHQ):Code->St->(Exit->St->Prop)->Prop
 | .seq a b,st,K=>match z0K a b with
   | some r=>z6J T r st K
   | none=>zCl T SQ a st (fun e s=>match e with
     | .normal=>zCl T SQ b s K
     | e=>K e s)
 | .block id c,st,K=>zCl T SQ c st (fun e s=>match e with
   | .exit i=>match Nat.beq i id with|true=>K .normal s|false=>K (.exit i) s
   | e=>K e s)
 | .rangeFunc g ps assign body,st,K=>match j7 st.env g with
   | .s (.clo f qs)=>match Nat.beq ps.size (z5w (zNx qs)+1) with
     | true=> ∃ L,SQ f qs L/\∃ SP:Spec Nat,zEm T (fun st=>zSr T ps.toList (zNx qs) assign body st L (fun X k=>SP.head (zIl st X) k)/\∀ X,(SP.head (zIl st X) L.length).forceAll (K .normal)) (zDk st.hp) st
     | false=>False
   | _=>False
 | .skip,st,K=>zBN T .skip st K
 | .label l,st,K=>zBN T (.label l) st K
 | .region i o d,st,K=>zBN T (.region i o d) st K
 | .cond c a b,st,K=>match zD2 a|| zD2 b with
   | false=>zBN T (.cond c a b) st K
   | true=>match j7 st.env c with
     | .s (.bool t)=>BIf t (zCl T SQ a st K) (zCl T SQ b st K)
     | _=>False
 | .loop c,st,K=>match zD2 c with
   | false=>zEm T (fun st=>zBN T (.loop c) st K) (zDk st.hp) st
   | true=> ∃ (X:Type) (S:Spec X),(∃ x,S.inv x/\zO7 st (S.head st x))/\
     ∀ x,S.inv x->(S.head st x).forceAll fun h=>zCl T SQ c h (fun e s=>match e with
       | .normal=> ∃ y,S.inv y/\zO7 s (S.head st y)/\S.mu y<S.mu x
       | e=>K e s)
 | .exit i,st,K=>zBN T (.exit i) st K
 | .goto l,st,K=>zBN T (.goto l) st K
 | .ret,st,K=>zBN T .ret st K
 | .scope c,st,K=>zCl T SQ c st (fun e s=>match e with
   | .goto _=>False
   | e=>K e s)
 | _,_,_=>False
def zBE (N:Nat):Code->Bool
 | .seq a b=>match z0K a b with
   | some _=>codeOk N a&&codeOk N b
   | none=>zBE N a&&zBE N b
 | .block _ c=>zBE N c
 | .rangeFunc g ps assign body=>zE3 g&&(ps.toList.all (fun p=>Nat.blt p N)&&(codeOk N assign&&codeOk N body))
 | .cond c a b=>match zD2 a|| zD2 b with
   | false=>codeOk N (.cond c a b)
   | true=>zE3 c&&zBE N a&&zBE N b
 | .loop c=>match zD2 c with
   | false=>codeOk N (.loop c)
   | true=>zBE N c
 | .scope c=>zBE N c
 | c=>codeOk N c
def mark (D:Nat):Deferred:= {target:= .collected D,args:= #[]}
structure Marks (B0 B:Base):Prop where
 w:B.w=B0.w
 grew:zR3 B0 B.sg
 ds: ∃ Ds:List Nat,B.dfs=Ds.map mark/\Ds.Nodup/\∀ D∈Ds,B.sg D=some (.deferred (some []))/\B0.w.heap.size<=D
section
variable {P:Program} {T:Tab} {SQ:zHQ} {B B0:Base} {w w':World} {I τ:Sig} {Z:yQ} {st:St} {tmps:Array Value} {N:Nat} {a:Act}
theorem Marks.more {B1:Base} (h:Marks B0 B) {D:Nat} (h1:B1.w=B.w) (h2:zR3 B B1.sg) (h3:B1.dfs=mark D::B.dfs) (h4:B1.sg D=some (.deferred (some []))) (h5:B.w.heap.size<=D) (h6:B.sg D=none):Marks B0 B1:=by
 obtain ⟨Ds,e1,e2,e3⟩:=h.ds;refine ⟨h1.trans h.w,⟨h.grew.1.trans h2.1,fun b hb=>(h2.2 b (by rw [h.w];exact hb)).trans (h.grew.2 b hb)⟩,D::Ds,by rw [h3,e1];rfl,yU.2 ⟨fun hm=> ?_,e2⟩,fun D' hD=> ?_⟩
 ·rw [(e3 D hm).1] at h6;cases h6
 ·rcases zS.1 hD with e|hD
  ·subst e;exact ⟨h4,by rw [<- h.w];exact h5⟩
  ·obtain ⟨k1,k2⟩:=e3 D' hD;obtain ⟨o',e4,e5⟩:=h2.1 _ _ k1;have:=e5.nodata rfl;subst this;exact ⟨e4,k2⟩
theorem Marks.go {B1:Base} (h:Marks B0 B) (h1:B1.w=B.w) (h2:zR3 B B1.sg) (h3:B1.dfs=B.dfs):Marks B0 B1:=by
 obtain ⟨Ds,e1,e2,e3⟩:=h.ds;refine ⟨h1.trans h.w,⟨h.grew.1.trans h2.1,fun b hb=>(h2.2 b (by rw [h.w];exact hb)).trans (h.grew.2 b hb)⟩,Ds,by rw [h3,e1],e2,fun D hD=> ?_⟩;obtain ⟨k1,k2⟩:=e3 D hD;obtain ⟨o',e4,e5⟩:=h2.1 _ _ k1;have:=e5.nodata rfl;subst this;exact ⟨e4,k2⟩
theorem zJQ: ∀ (ids:List Nat) {st:St},(st.rowNils T ids).env=st.env
 | [],_=>rfl
 | i::r,st=>(zJQ r (st:=st.rowNil T i)).trans (zRD i)
theorem GG.rowNils: ∀ (ids:List Nat) {Z:yQ} {st:St},GG B I Z st tmps w->∃ β',GG B I β' (st.rowNils T ids) tmps w
 | [],Z,_,h=>⟨Z,h⟩
 | i::r,_,_,h=>by
   obtain ⟨β',h'⟩:=h.rowNil (T:=T) i;exact GG.rowNils r h'
theorem zNU (R:zAU P T) (hSQ:zG0 P SQ): ∀ (c:Code) {B:Base} {st:St} {a:Act} {w:World} {K:Exit->St->Prop} {Q:Exit->Act->World->Prop},zBE N c=true->Marks B0 B->GA B N st a w->zCl T SQ c st K->
 (∀ e B1 st' a' w',Marks B0 B1->K e st'->GA B1 N st' a' w'->Q e a' w')->c.wpIn (FR none) 0 P Q a w:=by
 intro c
 induction c with
 | seq x y ihx ihy =>
   intro B st a w K Q hok hm h hk hQ;simp only [zBE] at hok;simp only [zCl] at hk;cases e:z0K x y with
   | some r =>
     rw [e] at hok hk;simp only [zA] at hok;exact z1b R e hok.1 hok.2 h hk fun e B1 st' a' w' h1 h2 h3 hk' h'=>hQ _ _ _ _ _ (hm.go h1 h2 h3) hk' h'
   | none =>
     rw [e] at hok hk;simp only [zA] at hok;refine wpIn_seq (ihx hok.1 hm h hk fun e B1 st' a' w' hm' hk' h'=> ?_);cases e with
     | normal=>exact ihy hok.2 hm' h' hk' hQ
     | _=>exact hQ _ _ _ _ _ hm' hk' h'
 | block id c ih =>
   intro B st a w K Q hok hm h hk hQ;simp only [zBE] at hok;refine wpIn_block (ih hok hm h hk fun e B1 st' a' w' hm' hk' h'=> ?_);cases e with
   | exit i =>
     simp only [Exit.inBlock];dsimp only at hk';split at hk'
     ·rename_i e;rw [if_pos (zC e)];exact hQ _ _ _ _ _ hm' hk' h'
     ·rename_i e;rw [if_neg (fun e'=>by subst e';rw [qQ] at e;cases e)];exact hQ _ _ _ _ _ hm' hk' h'
   | _=>exact hQ _ _ _ _ _ hm' hk' h'
 | rangeFunc g ps assign body =>
   intro B st a w K Q hok hm h hk hQ;simp only [zBE,zA] at hok;obtain ⟨ho1,ho2,ho3,ho4⟩:=hok;simp only [zCl] at hk;split at hk
   case h_2=>exact hk.elim
   rename_i f qs hg;split at hk
   case h_2=>exact hk.elim
   rename_i hnp;obtain ⟨L,hL,SP,hk⟩:=hk;rw [zFZ] at hk;obtain ⟨hr,hK⟩:=hk;obtain ⟨σr,βr,hgr⟩:=h.gg;obtain ⟨βn,hgn⟩:=hgr.rowNils (T:=T) (zDk st.hp);replace h:GA B N (st.rowNils T (zDk st.hp)) a w:=⟨h.defers,h.size,σr,βn,hgn⟩;rw [<- zJQ (T:=T) (st:=st) (zDk st.hp)] at hg
   have hp: ∀ p∈ps.toList,p<N:=fun p hp=>by
    have:=zM.1 ho2 p hp;exact Nat.lt_of_succ_le (by simpa [Nat.blt] using this)
   refine zXr R ho3 ho4 hp ho1 h hg (hSQ f qs L hL) (zC hnp) (S:=fun X k=>SP.head (zIl (st.rowNils T (zDk st.hp)) X) k) hr fun B1 D a' w' h1 h2 h3 h4 h5 h6 h7=> ?_;have:=hK a.tmps;rw [St.forceAll_eq] at this;exact hQ _ _ _ _ _ (hm.more h1 h2 h3 h4 h5 h6) this h7
 | skip=>intro B st a w K Q hok hm h hk hQ;exact zAn R _ hok h hk fun e st' a' w' hk' h'=>hQ _ _ _ _ _ hm hk' h'
 | label l=>intro B st a w K Q hok hm h hk hQ;exact zAn R _ hok h hk fun e st' a' w' hk' h'=>hQ _ _ _ _ _ hm hk' h'
 | region i o d=>intro B st a w K Q hok hm h hk hQ;exact zAn R _ hok h hk fun e st' a' w' hk' h'=>hQ _ _ _ _ _ hm hk' h'
 | cond c x y ihx ihy =>
   intro B st a w K Q hok hm h hk hQ;simp only [zBE] at hok;simp only [zCl] at hk;split at hk
   ·rename_i e;rw [e] at hok;exact zAn R _ hok h hk fun e st' a' w' hk' h'=>hQ _ _ _ _ _ hm hk' h'
   ·rename_i e;rw [e] at hok;simp only [zA] at hok;split at hk
    case h_2=>exact hk.elim
    rename_i t ht;have hev:=zIE h hok.1.1 ht;cases t with
    | true=>exact wpIn_cond_true hev (ihx hok.1.2 hm h hk hQ)
    | false=>exact wpIn_cond_false hev (ihy hok.2 hm h hk hQ)
 | loop c ih =>
   intro B st a w K Q hok hm h hk hQ;simp only [zBE] at hok;simp only [zCl] at hk;split at hk
   ·rename_i e;rw [e] at hok;rw [zFZ] at hk;obtain ⟨σr,βr,hgr⟩:=h.gg;obtain ⟨βn,hgn⟩:=hgr.rowNils (T:=T) (zDk st.hp);replace h:GA B N (st.rowNils T (zDk st.hp)) a w:=⟨h.defers,h.size,σr,βn,hgn⟩;exact zAn R _ hok h hk fun e st' a' w' hk' h'=>hQ _ _ _ _ _ hm hk' h'
   ·rename_i e;rw [e] at hok;have hok:zBE N c=true:=hok;simp only [St.forceAll_eq] at hk;obtain ⟨X,S,⟨x0,hi0,hle0⟩,hround⟩:=hk;refine wpIn_loop_ghost (fun m a w=> ∃ x B,S.inv x/\S.mu x=m/\Marks B0 B/\GA B N (S.head st x) a w) (S.mu x0) ⟨x0,B,hi0,rfl,hm,h.weaken hle0⟩ ?_;rintro m a w ⟨x,B,hi,rfl,hm,hx⟩;refine ih hok hm hx (hround x hi) fun e B1 st' a' w' hm' hk' h'=> ?_;cases e with
    | normal =>
      obtain ⟨y,hy,hle,hlt⟩:=hk';exact ⟨_,hlt,y,B1,hy,rfl,hm',h'.weaken hle⟩
    | _=>exact hQ _ _ _ _ _ hm' hk' h'
 | scope c ih =>
   intro B st a w K Q hok hm h hk hQ;simp only [zBE] at hok;simp only [zCl] at hk;rw [FR.none,wpIn_wide];refine wp_scope_straight ((wpIn_wide (n:=0)).1 ?_);rw [<- FR.none];refine ih hok hm h hk fun e B1 st' a' w' hm' hk' h'=> ?_;cases e with
   | goto l=>exact hk'.elim
   | _=>exact hQ _ _ _ _ _ hm' hk' h'
 | exit i=>intro B st a w K Q hok hm h hk hQ;exact zAn R _ hok h hk fun e st' a' w' hk' h'=>hQ _ _ _ _ _ hm hk' h'
 | goto l=>intro B st a w K Q hok hm h hk hQ;exact zAn R _ hok h hk fun e st' a' w' hk' h'=>hQ _ _ _ _ _ hm hk' h'
 | ret=>intro B st a w K Q hok hm h hk hQ;exact zAn R _ hok h hk fun e st' a' w' hk' h'=>hQ _ _ _ _ _ hm hk' h'
 | _=>intro B st a w K Q hok;cases hok
def zV4 (T:Tab) (SQ:zHQ) (fn:Func) (args:List AV) (R:AV->Prop):Prop :=
 match fn.body with
 | some c=>(St.init args).forceAll fun s=>zCl T SQ c s (post T fn R)
 | none=>False
theorem zT2 (R:zAU P T) (hSQ:zG0 P SQ) {f:FuncId} {fn:Func} {c:Code} (hf:P.funcs[f]? =some fn) (hb:fn.body=some c) (hok:zBE fn.ntmps c=true)
 {args:List AV} (hl:args.length<=fn.ntmps) {q:Option Prop} {u:AV} (h:zB4 args->Opt q->zV4 T SQ fn args (fun v=>v=u)):zDY P f args (none,q,u):=by
 intro I vals w hag hv;refine ⟨trivial,fun hq=> ?_⟩;have hga:=zIw (N:=fn.ntmps) hag hv hl;have hk:=h (zCX hv) hq;simp only [zV4,hb,St.forceAll_eq] at hk;refine (callsIn_of_wp_marks (F:=Fence.wide) (n:=0) hf hb trivial ?_).calls (fun _ _ hd=>by cases hd);rw [<- FR.none];refine zNU (B0:=⟨w,I,[]⟩) R hSQ c hok ⟨rfl,⟨Sig.le.refl _,fun _ _=>rfl⟩,[],rfl,jD,fun D hD=>by cases hD⟩ hga hk fun e B1 st' a' w' hm hp h'=> ?_
 have fin : (match fn.results.toList.all (zGU T st') with|true=>zKA T fn st'=u|false=>False)->LeavesInM (FR none) 0 P fn a'.tmps (fun e w'=> ∃ v σ',e= .returned v/\I.le σ'/\Ag σ' w'/\
  (∀ b,b<w.heap.size->σ' b=I b)/\qD σ' [] u v/\Below w.heap.size w w') a'.defers .returning w':=by
  intro hu;split at hu
  case h_2=>exact hu.elim
  rename_i hallok;obtain ⟨σ1,β1,hg⟩:=h'.gg;obtain ⟨Ds,e1,e2,e3⟩:=hm.ds;rw [h'.defers,e1]
  -- the marks, one by one
  have key: ∀ (Ds:List Nat) (B1:Base) (σ1:Sig) (w':World),Ds.Nodup->(∀ D∈Ds,B1.sg D=some (.deferred (some []))/\w.heap.size<=D)->B1.w=w->zR3 ⟨w,I,[]⟩ B1.sg->GG B1 σ1 β1 st' a'.tmps w'->
   LeavesInM (FR none) 0 P fn a'.tmps (fun e w'=> ∃ v σ',e= .returned v/\I.le σ'/\Ag σ' w'/\(∀ b,b<w.heap.size->σ' b=I b)/\qD σ' [] u v/\Below w.heap.size w w') (Ds.map mark) .returning w':=by
   intro Ds
   induction Ds with
   | cons D r ih =>
     intro B1 σ1 w' hn hD hw hgr hg;obtain ⟨hn1,hn2⟩:=yU.1 hn;obtain ⟨d1,d2⟩:=hD D (zR ..);rw [Base.relock B1 d1] at hg;obtain ⟨_,hl2,_⟩:=hg.locked rfl;have zDc: ∀ b,b≠D->(B1.sg.del D) b=B1.sg b:=fun b hb=>by unfold Sig.del;rw [if_neg hb]
     obtain ⟨hg2,_⟩:=hg.unlock rfl (by show B1.w.heap.size<=D;rw [hw];exact d2) (by show (B1.sg.del D) D=none;unfold Sig.del;rw [if_pos rfl]) (.deferred none);refine ⟨by simp,.inl ⟨D,_,rfl,run_takeDeferred hl2,ih {B1 with sg:=B1.sg.del D} _ _ hn2 (fun D' hD'=> ?_) hw ⟨fun b o e=> ?_,fun b hb=> ?_⟩ hg2⟩⟩
     ·obtain ⟨k1,k2⟩:=hD D' (zN _ hD');exact ⟨by show (B1.sg.del D) D'=_;rw [zDc _ (fun e=>hn1 (e▸hD'))];exact k1,k2⟩
     ·have hb:b≠D:=fun hb=>by subst hb;have:=hag.lt e;omega
      show ∃ o',(B1.sg.del D) b=some o'/\_;rw [zDc b hb];exact hgr.1 b o e
     ·have hb:b<w.heap.size:=hb;show (B1.sg.del D) b=_;rw [zDc b (by omega)];exact hgr.2 b hb
   | nil =>
     intro B1 σ1 w' _ _ hw hgr hg;have hsl:I.le σ1:=Sig.le.trans hgr.1 hg.grew.1;have hsb: ∀ b,b<w.heap.size->σ1 b=I b:=fun b hb=>(hg.grew.2 b (by rw [hw];exact hb)).trans (hgr.2 b hb);have hbel:Below w.heap.size w w':=by have:=hg.bel;rw [hw] at this;exact this
     have hview: ∀ {x:AV} {v:Value},qD σ1 β1 x v->qD (fun b=>if b<w.heap.size then I b else w'.heap[b]?) [] (x.viewT T st'.hp) v:=fun {x v} hx=>by
      refine AV.viewT_rep_at (fun b o e=> ?_) (fun id ob p hi hp=> ?_) hg.mem hx
      ·split
       ·rename_i hlt;rw [hsb b hlt] at e;exact ⟨o,e,.refl⟩
       ·exact hg.mem.ag _ _ e
      ·have:=(hg.sep _ _ _ hi hp).2.1;rw [hw] at this;rw [if_neg (by omega)]
     obtain ⟨vs,hrun,hall⟩:=zBz (P:=P) (w:=w') (fn:=fn) (tmps:=a'.tmps) (Q:=fun r v=>qD (fun b=>if b<w.heap.size then I b else w'.heap[b]?) [] (zG3 T st' r) v) (fun r hr=>by
      have hro:=zM.1 hallok r hr;cases r with
      | tmp t=>exact ⟨_,rfl,hview (hg.env t)⟩
      | cell a t =>
        simp only [zGU] at hro;simp only [zG3];have hx:=hg.env a;split at hro
        ·rename_i id i k hea;rw [hea] at hx;split at hro
         ·rename_i v hv;obtain ⟨p,_,hptr,_⟩:=hx;obtain ⟨_,hrun⟩:=zBp (w:=w') R.ty R.one hg.mem (t:=t) (hg.env a) (p:=none) (q:=none) (v:=v) (by rw [hea];exact hv);obtain ⟨val,h1,h2⟩:=hrun trivial;refine ⟨val,?_,hview h2⟩;rw [hptr] at h1 ⊢;rw [zB9] at h1;simp only [asAddr,zP,qP,zK];exact h1
         ·cases hro
        ·cases hro)
     refine ⟨_,hrun,_,(fun b=>if b<w.heap.size then I b else w'.heap[b]?),rfl,fun b o e=> ?_,fun b o e=> ?_,fun b hb=>by simp [hb],by rw [<- hu];exact zK0 hall,hbel⟩
     ·have:b<w.heap.size:=hag.lt e;exact ⟨o,by simp [this,e],.refl⟩
     ·dsimp only at e;split at e
      ·rename_i hlt;rw [<- hsb b hlt] at e;exact hg.mem.ag _ _ e
      ·exact ⟨o,e,.refl⟩
  exact key Ds B1 σ1 w' e2 e3 hm.w hm.grew hg
 cases e with
 | normal=>simp only [post,AV.force_eq] at hp;exact fin hp
 | ret=>simp only [post,AV.force_eq] at hp;exact fin hp
 | _=>exact hp.elim
end
end Go.Vm
namespace S1
theorem zU4 {fn} (o:Option z6.T) (v:Int):zAk ⟨tyL,fn,[]⟩ f58 [(ETy.pt z6).av o,qX.av v] (fun r=>r= .s (.clo 93 [⟨.pt z6,o⟩,⟨qX,v⟩])):=by
 repeat' (conv=>whnf
          first|done|refine qy ?_|refine qG fun _=> ?_|refine qw (fun _=> ?_) (fun _=> ?_)|apply qt|refine qi (fun _=> ?_) (fun _=> ?_)|refine qu ?_|refine qv ?_ ?_|exact zL)
 all_goals try first|refine qz ?_|apply qz5
 all_goals try simp only [qn0,zY,zX,ETy.dflt,Int.reduceToNat,Int.reduceAdd,Int.reduceSub,Int.reduceNeg,Nat.reduceAdd] at *
def zIs:List AV->Option Res:=zFm (.pt z6) qX (fun o v=>some (none,none,.s (.clo 93 [⟨.pt z6,o⟩,⟨qX,v⟩])))
theorem zNS:jN prog 58 zIs:=mkR (zA4 fun o v r h=>by cases h;exact fb (fn:=[]) trivial func58 fun _ _=>zU4 o v) func58
def jX (x:z6.T) (b:Int):Nat->Int->List Int
 | 0,_=>[]
 | n+1,c=>c::(if yB x c<0 then [] else if yB x c=b then [] else jX x b n (yB x c))
def yS (o:Option z6.T) (v:Int):List Int:=onO o [] fun x=>if zCH x v then jX x (zAd x v).1 30000 (zAd x v).1 else []
end S1
namespace S1
def z5t:zHQ:=fun f ps L=>f=93/\∃ (o:Option z6.T) (v:Int),ps=[⟨.pt z6,o⟩,⟨qX,v⟩]/\(∀ x,o=some x->Good x)/\L=yS o v
def lkO (x:z6.T) (L:List Int) (k:Nat):List Int:=(L.take k).map fun c=>yO x (jM x c)
def zGC (L:List Int) (k:Nat):Int:=if k=0 then -1 else L.getD (k - 1) 0
def zDS (x:z6.T) (v:Int):List Int :=
 lkO x (yS (some x) v) (yS (some x) v).length++(if zGC (yS (some x) v) (yS (some x) v).length>=0/\yB x (zGC (yS (some x) v) (yS (some x) v).length)<0 then [yO x (jH x (zGC (yS (some x) v) (yS (some x) v).length))] else [])
theorem zSu (x:z6.T) (L:List Int) (k:Nat) (h:k<=L.length):(lkO x L k).length=k:=by
 unfold lkO;rw [jF,zAO];omega
theorem zQG (x:z6.T) (L:List Int) (k:Nat) (h:k<L.length):lkO x L (k+1)=lkO x L k++[yO x (jM x (L.getD k 0))]:=by
 have e:L.take (k+1)=L.take k++[L.getD k 0]:=by
  rw [yH h,gdE,gE h];rfl
 unfold lkO;rw [e,zBZ];rfl
theorem zYm {x:z6.T} (g:Good x) (c:Int):yB x c<=30000:=by
 unfold yB;split
 ·decide
 ·exact zKd g _
theorem zUS {x:z6.T} (g:Good x) (c:Int):yC x c<=30000:=by
 unfold yC;split
 ·decide
 ·exact zLi g _
theorem zKL {x:z6.T} (g:Good x) {b:Int} : ∀ n c,c<=30000->(jX x b n c).length<=n/\∀ a∈jX x b n c,a<=30000
 | 0,c,_=>⟨zH _,fun a h=>by cases h⟩
 | n + 1,c,hc=>by
   obtain ⟨h1,h2⟩:=zKL g (b:=b) n (yB x c) (zYm g c);unfold jX;split
   ·exact ⟨by simp,fun a h=>by rw [zF] at h;omega⟩
   ·split
    ·exact ⟨by simp,fun a h=>by rw [zF] at h;omega⟩
    ·refine ⟨by rw [zZ];omega,fun a h=> ?_⟩;rcases zS.1 h with e|h
     ·omega
     ·exact h2 a h
theorem zIG {x:z6.T} (g:Good x) {c0:Int} (h0:c0<=30000): ∀ n c,c<=30000->(zDb x c0 n c).1<=30000
 | 0,c,_=>by show (0:Int)<=30000;decide
 | n +1,c,hc=>by
   unfold zDb;split
   ·exact hc
   ·split
    ·exact h0
    ·exact zIG g h0 n _ (zUS g c)
theorem zGh {x:z6.T} (g:Good x) (v:Int):(yS (some x) v).length<=30000/\∀ a∈yS (some x) v,a<=30000:=by
 show (if zCH x v then _ else _:List Int).length<=30000/\∀ a∈(if zCH x v then _ else _:List Int),a<=30000;split
 ·exact zKL g _ _ (zIG g (zEd g v) _ _ (zEd g v))
 ·exact ⟨y7 _,fun a h=>by cases h⟩
theorem zSR {L:List Int} (h: ∀ a∈L,a<=30000) (k:Nat):L.getD k 0<=30000:=by
 rw [gdE];cases e:L[k]? with
 | none=>decide
 | some a=>exact h a (yT e)
theorem zV7 {L:List Int} (h: ∀ a∈L,a<=30000) (k:Nat):zGC L k<=30000:=by
 unfold zGC;split
 ·decide
 ·exact zSR h _
def z5J (x:z6.T) (L:List Int):Spec Nat where
 inv _:=True
 live _:=[]
 keep:=[2,4,5,6]
 heap k:=[(2,.flat 38 [.own 4 0 (lkO x L k).length]),(3,.flat 3 [.int .i64 (zGC L k)]),(4,.row qX 3 (lkO x L k))]
 keepH:=[0,1,5]
 mu _:=0
end S1
namespace S1
def z3C:Spec Nat where
 inv _:=True
 live _:=[]
 keep:=[2,4,5,6]
 heap _:=[(2,.flat 38 [.own 4 0 0]),(3,.flat 3 [.int .i64 (-1)]),(4,.row qX 3 [])]
 keepH:=[0,1,5]
 mu _:=0
def zBw (o:Option z6.T) (v:Int):List Int:=onO o [] fun x=>zDS x v
end S1
namespace Go.Vm
open Go.RowKit
def zBv {α:Type} (a b:α):Prop:=a=b
theorem zBv.out {α:Type} {a b:α} (h:zBv a b):a=b:=h
theorem zBv.intro {α:Type} {a b:α} (h:a=b):zBv a b:=h
attribute [irreducible] zBv
def z5R (st:St) (o:Oper):Option (Operand×Operand×List Operand) :=
 match o.op with
 | .call ⟨.value (.tmp t),⟨x::ys⟩,_⟩=>match j7 st.env (.tmp t) with
   | .s (.val (.func (.yield _) ⟨[]⟩ ⟨[]⟩))=>some (.tmp t,x,ys)
   | _=>none
 | _=>none
def z5K (o:Oper):Bool :=
 match o.op with
 | .call ⟨.value (.tmp _),⟨_::_⟩,_⟩=>true
 | _=>false
def yGo (l:Nat) (L:List Int) (sec:zLw) (g x:Operand) (ys:List Operand) (dst:Option Tmp) (st:St) (pre:List Int) (K:St->List Int->Prop):Prop :=
 match j7 st.env g,j7 st.env x,st.hp with
 | .s (.val (.func (.yield l') ⟨[]⟩ ⟨[]⟩)),.s (.int .i64 n),[]=>match ys,sec with
   | [],none=>l'=l/\(pre++[n]) <+: L/\(st.put dst (.s (.bool true))).forceAll fun st=>K st (pre++[n])
   | [y],some s=>l'=l/\(pre++[n]) <+: L/\zBv (j7 st.env y) (.agg (s.1.cells (s.2 n)))/\(st.put dst (.s (.bool true))).forceAll fun st=>K st (pre++[n])
   | _,_=>False
 | _,_,_=>False
def zIp (T:Tab) (l:Nat) (L:List Int) (sec:zLw) (ops:Array Oper):List Oper->St->List Int->(St->List Int->Prop)->Prop
 | [],st,pre,K=>K st pre
 | o :: r, st,pre,K=>match z5R st o with
   | some (g,x,ys)=>match o.guard with
     | none=>yGo l L sec g x ys o.dst st pre fun st pre=>zIp T l L sec ops r st pre K
     | some (j,want)=>match zDh ops st.env j with
       | .s (.bool b)=>BIf b
         (match want with
           | true=>(st.put (zAC ops j) (.s (.bool true))).force fun st=>yGo l L sec g x ys o.dst st pre fun st pre=>zIp T l L sec ops r st pre K
           | false=>(st.put (zAC ops j) (.s (.bool true))).force fun st=>(st.put o.dst .undef).force fun st=>zIp T l L sec ops r st pre K)
         (match want with
           | true=>(st.put (zAC ops j) (.s (.bool false))).force fun st=>(st.put o.dst .undef).force fun st=>zIp T l L sec ops r st pre K
           | false=>(st.put (zAC ops j) (.s (.bool false))).force fun st=>yGo l L sec g x ys o.dst st pre fun st pre=>zIp T l L sec ops r st pre K)
       | _=>False
   | none=>zBn T false ops [o] st fun st=>zIp T l L sec ops r st pre K
def zZF (ops:Array Oper) (draw:Bool):Bool :=
 match draw with
 | false=>ops.toList.any z5K
 | true=>false
def zEb (T:Tab) (l:Nat) (L:List Int) (sec:zLw):Code->St->List Int->(Exit->St->List Int->Prop)->Prop
 | .seq a b,st,pre,K=>zEb T l L sec a st pre (fun e s pre=>match e with
   | .normal=>zEb T l L sec b s pre K
   | e=>K e s pre)
 | .cond c a b,st,pre,K=>match j7 st.env c with
   | .s (.bool t)=>BIf t (zEb T l L sec a st pre K) (zEb T l L sec b st pre K)
   | _=>False
 | .block id c,st,pre,K=>zEb T l L sec c st pre (fun e s pre=>match e with
   | .exit i=>match Nat.beq i id with|true=>K .normal s pre|false=>K (.exit i) s pre
   | e=>K e s pre)
 | .loop c,st,pre,K=> ∃ (X:Type) (S:Spec X) (PR:X->List Int),(∃ x,S.inv x/\PR x=pre/\zO7 st (S.head st x))/\
    ∀ x,S.inv x->(S.head st x).forceAll fun h=>zEb T l L sec c h (PR x) (fun e s pre'=>match e with
      | .normal=> ∃ y,S.inv y/\PR y=pre'/\zO7 s (S.head st y)/\S.mu y<S.mu x
      | e=>K e s pre')
 | .region i ops draw,st,pre,K=>match zZF ops draw with
   | true=>zIp T l L sec ops ops.toList st pre (K .normal)
   | false=>zBN T (.region i ops draw) st (fun e s=>K e s pre)
 | .skip,st,pre,K=>K .normal st pre
 | .exit i,st,pre,K=>K (.exit i) st pre
 | .ret,st,pre,K=>K .ret st pre
 | _,_,_,_=>False
theorem z0B {st:St} {o:Oper} {g x:Operand} {ys:List Operand} (h:z5R st o=some (g,x,ys)): ∃ t ts,g= .tmp t/\o.op= .call ⟨.value (.tmp t),⟨x::ys⟩,ts⟩:=by
 unfold z5R at h;split at h
 ·rename_i t x2 ys2 ts h1;split at h
  ·cases h;exact ⟨t,ts,rfl,h1⟩
  ·cases h
 ·cases h
theorem jU.of_cells {I:Sig} {Z:yQ} : ∀ {e:ETy} {x:e.T} {ds:List Value},zAA (qA I Z) (e.cells x) ds->jU I e x ds
 | .int _,_,_,h=>by obtain ⟨b,rfl,hb⟩:=h.len_one;exact ⟨by rw [hb.1],hb.2⟩
 | .bool,_,_,h=>by obtain ⟨b,rfl,hb⟩:=h.len_one;show _=_;rw [show _=_ from hb]
 | .arr2,_,ds,h=>by
   match ds,h with
   | [a,b],⟨h1,h2,_⟩=>exact ⟨by rw [h1.1,h2.1],h1.2,h2.2⟩
 | .arr3,_,ds,h=>by
   match ds,h with
   | [a,b,c],⟨h1,h2,h3,_⟩=>exact ⟨by rw [h1.1,h2.1,h3.1],h1.2,h2.2,h3.2⟩
 | .pair a b,x,ds,h=>by
   obtain ⟨m1,m2,e,h1,h2⟩:=zAA.split (l:=a.cells x.1) (l':=b.cells x.2) h;exact ⟨m1,m2,e,jU.of_cells h1,jU.of_cells h2⟩
 | .sl _,_,_,h=>by obtain ⟨b,rfl,hb⟩:=h.len_one;exact hb
 | .mp _ _,_,_,h=>by obtain ⟨b,rfl,hb⟩:=h.len_one;exact hb
 | .pt _,_,_,h=>by obtain ⟨b,rfl,hb⟩:=h.len_one;exact hb
 | .unit,_,_,h=>h.len_nil
 | .fnc,_,_,h=>by obtain ⟨b,rfl,hb⟩:=h.len_one;show _=_;rw [hb.1]
section
variable {P:Program} {T:Tab} {B B0:Base} {w w':World} {I τ:Sig} {Z:yQ} {st:St} {tmps:Array Value} {N:Nat} {a:Act}
def z4F (st:St):List Operand->zLw->Int->Prop
 | [],none,_=>True
 | [y],some s,n=>j7 st.env y= .agg (s.1.cells (s.2 n))
 | _,_,_=>False
theorem z1i {l:Nat} {L:List Int} {sec:zLw} {g x:Operand} {ys:List Operand} {dst:Option Tmp} {pre:List Int} {K:St->List Int->Prop} (h:yGo l L sec g x ys dst st pre K) :
 j7 st.env g= .s (.val (.func (.yield l) #[] #[]))/\∃ n,j7 st.env x= .s (.int .i64 n)/\st.hp=[]/\(pre++[n]) <+: L/\K (st.put dst (.s (.bool true))) (pre++[n])/\z4F st ys sec n:=by
 unfold yGo at h;split at h
 ·rename_i l' n h1 h2 h3;split at h
  ·obtain ⟨rfl,hp,hk⟩:=h;rw [St.forceAll_eq] at hk;exact ⟨h1,n,h2,h3,hp,hk,trivial⟩
  ·obtain ⟨rfl,hp,hy,hk⟩:=h;rw [St.forceAll_eq] at hk;exact ⟨h1,n,h2,h3,hp,hk,hy.out⟩
  ·exact h.elim
 ·exact h.elim
theorem zRl {o:Oper} {ρ:Operand->Value} {l:Nat} {g x:Operand} {ys:List Operand} {ts:Array TypeId} {r:Result Next} (ho:o.op= .call ⟨.value g,⟨x::ys⟩,ts⟩) (hf:ρ g= .func (.yield l) #[] #[]) (hy:(Instr.yield l (ρ x::ys.map ρ).toArray).run P w=r):(execOp ρ o).run P w=r:=by
 simp only [execOp,ho,resolve,hf,Deferred.ofValue,zP,qP,zK,invoke];simpa using hy
theorem GG.yielded (h:GG B I Z st tmps w) (hh:st.hp=[]) (hag:Ag I w'):GG ⟨w',I,[]⟩ I Z st tmps w' :=
 ⟨⟨hag,fun id ob hi=>by rw [hh] at hi;cases hi⟩,h.env,h.len,fun id ob p hi=>(by rw [hh] at hi;cases hi),Below.refl _ _,Sig.le.refl _,fun _ _=>rfl⟩
def YOk (P:Program) (l:Nat) (L:List Int) (sec:zLw) (J:List Int->Sig->World->Prop):Prop :=
 ∀ pre x vs σp σ1 Ws W1,J pre σp Ws->Below Ws.heap.size Ws W1->(∀ b,b<Ws.heap.size->σ1 b=σp b)->Ag σ1 W1->(pre++[x]) <+: L->zFK σ1 sec x vs->
   YieldAt Fence.wide 0 P l (Value.int .i64 x::vs).toArray W1 fun e W'=>e= .returned (.bool true)/\J (pre++[x]) σ1 W'/\Ag σ1 W'
theorem zRe {l:Nat} {L:List Int} {sec:zLw} {J:List Int->Sig->World->Prop} (hY:YOk P l L sec J) {o:Oper} (ho:y6 N o=true) {ops:Array Oper} {os:List Oper} {Q:Exit->Act->World->Prop} {t:Tmp} {x:Operand} {ys:List Operand} {ts:Array TypeId} (hop:o.op= .call ⟨.value (.tmp t),⟨x::ys⟩,ts⟩)
 {pre:List Int} {K:St->List Int->Prop} (hd:B.dfs=[]) (hj:J pre B.sg B.w) (h:GA B N st a w) (hk:yGo l L sec (.tmp t) x ys o.dst st pre K)
 (hQ: ∀ B1 st' pre' a' w',B1.dfs=[]->J pre' B1.sg B1.w->K st' pre'->GA B1 N st' a' w'->wpListIn (FR none) 0 P ops Q os a' w'):o.wpIn (FR none) 0 P a w (wpListIn (FR none) 0 P ops Q os) Q:=by
 obtain ⟨hg,n,hx,hh,hpre,hK,hsec⟩:=z1i hk;obtain ⟨σ1,β1,hgg⟩:=h.gg
 have hxo:zE3 x=true:=by
  simp only [y6,zA,zM] at ho;exact ho.2 x (by simp [hop,Op.operands,Call.operands])
 have hgv:a.eval (.tmp t)= .func (.yield l) #[] #[]:=by
  have:=j9 hgg (x:= .tmp t) rfl;rw [hg] at this;exact this.1
 have hxv:a.eval x= .int .i64 n:=by
  have:=j9 hgg hxo;rw [hx] at this;exact this.1
 have hsr:zFK σ1 sec n (ys.map a.eval):=by
  unfold z4F at hsec;split at hsec
  ·rfl
  ·rename_i y s
   have hyo:zE3 y=true:=by
    simp only [y6,zA,zM] at ho;exact ho.2 y (by simp [hop,Op.operands,Call.operands])
   have:=j9 hgg hyo;rw [hsec] at this;obtain ⟨ds,e1,e2⟩:=this;exact ⟨ds,by rw [jT,List.map_nil,e1],jU.of_cells e2⟩
  ·exact hsec.elim
 obtain ⟨fn,tmps,assign,body,hrun,hround⟩:=hY pre n _ B.sg σ1 B.w w hj hgg.bel hgg.grew.2 hgg.mem.ag hpre hsr;refine ⟨fun f' _=>trivial,?_⟩;have hex:=zRl (r:= .ok (.round l fn tmps assign body) w) hop hgv (by rw [hxv];exact hrun);rw [Oper.semAt_eq _ _ _ (by rw [hop];intro c e;cases e),hex];refine ⟨(fun e=>by cases e),?_⟩;refine hround.mono fun e w' hpost=> ?_;obtain ⟨rfl,hj',hag'⟩:=hpost;refine hQ ⟨w',σ1,[]⟩ (st.put o.dst (.s (.bool true))) (pre++[n]) _ _ rfl hj' hK ?_
 have hy:=(hgg.yielded hh hag').put (d:=o.dst) (zAx h.size ho) (a:= .s (.bool true)) (v:= .bool true) rfl;exact zEV (h.defers.trans hd) h.size ⟨σ1,β1,hy⟩
theorem zHg (R:zAU P T) {l:Nat} {L:List Int} {sec:zLw} {J:List Int->Sig->World->Prop} (hY:YOk P l L sec J) {ops:Array Oper} {Q:Exit->Act->World->Prop} : ∀ (os:List Oper) {B:Base} {st:St} {a:Act} {w:World} {pre:List Int} {K:St->List Int->Prop},
 (∀ o∈os,y6 N o=true)->B.dfs=[]->J pre B.sg B.w->GA B N st a w->zIp T l L sec ops os st pre K->
 (∀ B1 st' pre' a' w',B1.dfs=[]->J pre' B1.sg B1.w->K st' pre'->GA B1 N st' a' w'->Q .normal a' w')->wpListIn (FR none) 0 P ops Q os a w
 | [],B,st,a,w,pre,K,_,hd,hj,h,hk,hQ=>hQ _ _ _ _ _ hd hj hk h
 | o ::os,B,st,a,w,pre,K,hall,hd,hj,h,hk,hQ=>by
   have ho:=hall o (by simp);have hall': ∀ o∈os,y6 N o=true:=fun o' ho'=>hall o' (by simp [ho']);simp only [zIp,St.force_eq] at hk;split at hk
   case h_2 =>
    have:=zDC R os [o] (ops:=ops) (Q:=Q) (fun o' ho'=>hall o' (by rw [zF.1 ho'];simp)) h hk fun st' a' w' hk' h'=>zHg R hY os hall' hd hj h' hk' hQ;exact this
   rename_i g x ys hyf;obtain ⟨t,ts,rfl,hop⟩:=z0B hyf
   have go: ∀ {st:St},GA B N st a w->yGo l L sec (.tmp t) x ys o.dst st pre (fun st pre=>zIp T l L sec ops os st pre K)->o.wpIn (FR none) 0 P a w (wpListIn (FR none) 0 P ops Q os) Q:=fun h hk =>
    zRe hY ho hop hd hj h hk fun B1 st' pre' a' w' hd' hj' hk' h'=>zHg R hY os hall' hd' hj' h' hk' hQ
   have skip: ∀ {st:St},GA B N st a w->zIp T l L sec ops os (st.put o.dst .undef) pre K->wpListIn (FR none) 0 P ops Q os (a.put o.dst undef) w:=fun h hk =>
    zHg R hY os hall' hd hj (zFW h ho) hk hQ
   simp only [wpListIn];cases hg:o.guard with
   | none =>
     simp only [hg] at hk;have:Region.wanted o (yielded ops a.tmps)=true:=by simp [Region.wanted,hg]
     rw [if_pos this];exact go h hk
   | some jw =>
     obtain ⟨j,want⟩:=jw;simp only [hg] at hk;obtain ⟨I,Z,hgg⟩:=h.gg;split at hk
     case h_2=>exact hk.elim
     rename_i b hb;obtain ⟨d,hd1,hd2⟩:=zAT (ops:=ops) (env:=st.env) (j:=j) (by rw [hb];simp);rw [hd2] at hb;have hv:=hgg.env d;rw [hb] at hv;have hy:=zEr (ops:=ops) hd1 (show a.tmps.getD d undef= .bool b from hv);rw [hd1] at hk;cases b with
     | true =>
       cases want with
       | true =>
         rw [if_pos (by simp [Region.wanted,hg,hy])];exact go (zCL h hb) hk
       | false =>
         rw [if_neg (by simp [Region.wanted,hg,hy])];exact ⟨fun f _=>trivial,skip (zCL h hb) hk⟩
     | false =>
       cases want with
       | true =>
         rw [if_neg (by simp [Region.wanted,hg,hy])];exact ⟨fun f _=>trivial,skip (zCL h hb) hk⟩
       | false =>
         rw [if_pos (by simp [Region.wanted,hg,hy])];exact go (zCL h hb) hk
theorem zUR (R:zAU P T) {l:Nat} {L:List Int} {sec:zLw} {J:List Int->Sig->World->Prop}
 (hY:YOk P l L sec J) :
 ∀ (c:Code) {B:Base} {st:St} {a:Act} {w:World} {pre:List Int} {K:Exit->St->List Int->Prop} {Q:Exit->Act->World->Prop},codeOk N c=true->B.dfs=[]->J pre B.sg B.w->GA B N st a w->zEb T l L sec c st pre K->
 (∀ e B1 st' pre' a' w',B1.dfs=[]->J pre' B1.sg B1.w->K e st' pre'->GA B1 N st' a' w'->Q e a' w')->c.wpIn (FR none) 0 P Q a w:=by
 intro c
 induction c with
 | skip=>intro B st a w pre K Q _ hd hj h hk hQ;exact wpIn_skip (hQ _ _ _ _ _ _ hd hj hk h)
 | exit i=>intro B st a w pre K Q _ hd hj h hk hQ;exact wpIn_exit (hQ _ _ _ _ _ _ hd hj hk h)
 | ret=>intro B st a w pre K Q _ hd hj h hk hQ;exact wpIn_ret (hQ _ _ _ _ _ _ hd hj hk h)
 | seq x y ihx ihy =>
   intro B st a w pre K Q hok hd hj h hk hQ;simp only [codeOk,zA] at hok;refine wpIn_seq (ihx hok.1 hd hj h hk fun e B1 st' pre' a' w' hd' hj' hk' h'=> ?_);cases e with
   | normal=>exact ihy hok.2 hd' hj' h' hk' hQ
   | _=>exact hQ _ _ _ _ _ _ hd' hj' hk' h'
 | cond c x y ihx ihy =>
   intro B st a w pre K Q hok hd hj h hk hQ;simp only [codeOk,zA] at hok;simp only [zEb] at hk;split at hk
   ·rename_i t ht;have hev:=zIE h hok.1.1 ht;cases t with
    | true=>exact wpIn_cond_true hev (ihx hok.1.2 hd hj h hk hQ)
    | false=>exact wpIn_cond_false hev (ihy hok.2 hd hj h hk hQ)
   ·exact hk.elim
 | block id c ih =>
   intro B st a w pre K Q hok hd hj h hk hQ;simp only [codeOk] at hok;refine wpIn_block (ih hok hd hj h hk fun e B1 st' pre' a' w' hd' hj' hk' h'=> ?_);cases e with
   | exit i =>
     simp only [Exit.inBlock];dsimp only at hk';split at hk'
     ·rename_i e;rw [if_pos (zC e)];exact hQ _ _ _ _ _ _ hd' hj' hk' h'
     ·rename_i e;rw [if_neg (fun e'=>by subst e';rw [qQ] at e;cases e)];exact hQ _ _ _ _ _ _ hd' hj' hk' h'
   | _=>exact hQ _ _ _ _ _ _ hd' hj' hk' h'
 | loop c ih =>
   intro B st a w pre K Q hok hd hj h hk hQ;simp only [codeOk] at hok;simp only [zEb,St.forceAll_eq] at hk;obtain ⟨X,S,PR,⟨x0,hi0,hp0,hle0⟩,hround⟩:=hk;refine wpIn_loop_ghost (fun m a w=> ∃ x B,S.inv x/\S.mu x=m/\B.dfs=[]/\J (PR x) B.sg B.w/\GA B N (S.head st x) a w) (S.mu x0) ⟨x0,B,hi0,rfl,hd,by rw [hp0];exact hj,h.weaken hle0⟩ ?_;rintro m a w ⟨x,B,hi,rfl,hd,hj,hx⟩;refine ih hok hd hj hx (hround x hi) fun e B1 st' pre' a' w' hd' hj' hk' h'=> ?_
   cases e with
   | normal =>
     obtain ⟨y,hy,hp,hle,hlt⟩:=hk';exact ⟨_,hlt,y,B1,hy,rfl,hd',by rw [hp];exact hj',h'.weaken hle⟩
   | _=>exact hQ _ _ _ _ _ _ hd' hj' hk' h'
 | region id ops draw =>
   intro B st a w pre K Q hok hd hj h hk hQ;simp only [zEb] at hk;split at hk
   ·rename_i hyp
    have hdr:draw=false:=by
     unfold zZF at hyp;cases draw with
     | false=>rfl
     | true=>cases hyp
    subst hdr;simp only [codeOk,zA,zM] at hok;refine wpIn_region_list ?_;exact zHg R hY ops.toList hok.1 hd hj h hk fun B1 st' pre' a' w' hd' hj' hk' h'=>hQ _ _ _ _ _ _ hd' hj' hk' h'
   ·exact zAn R _ hok h hk fun e st' a' w' hk' h'=>hQ _ _ _ _ _ _ hd hj hk' h'
 | _=>intro B st a w pre K Q hok hd hj h hk;exact hk.elim
def zJO (l:Nat) (ps:List PtV):List AV:= .s (.val (.func (.yield l) #[] #[]))::ps.map fun q=> .s (.pt q.e (some q.x))
def z5T (L:List Int):Exit->St->List Int->Prop
 | .normal,_,pre=>pre=L
 | .ret,_,pre=>pre=L
 | _,_,_=>False
def zR2 (T:Tab) (fn:Func) (ps:List PtV) (L:List Int):Prop :=
 match fn.body with
 | some c=> ∀ l:Nat,(St.init (zJO l ps)).forceAll fun s=>zEb T l L (zNx ps) c s [] (z5T L)
 | none=>False
theorem zFV {l:Nat} : ∀ {ps:List PtV} {vs:List Value},zAA (fun (q:PtV) u=>jU I (.pt q.e) (some q.x) [u]) ps vs->jW I [] (ps.map fun q=>AV.s (.pt q.e (some q.x))) vs
 | [],[],_=>trivial
 | q::ps,v::vs,h=>⟨h.1,zFV (l:=l) h.2⟩
 | [],_::_,h=>h.elim
 | _::_,[],h=>h.elim
theorem seq_ok (R:zAU P T) {f:FuncId} {fn:Func} {c:Code} (hf:P.funcs[f]? =some fn) (hb:fn.body=some c) (hok:codeOk fn.ntmps c=true) (hr:fn.results= #[])
 (hn : (fn.name == "runtime.NumGoroutine") = false) {ps : List PtV} (hl : ps.length + 1 ≤ fn.ntmps) {L : List Int} (hL : ∀ x ∈ L, InK .i64 x) (h : zB4 (zJO 0 ps) → zR2 T fn ps L) : z1Y P f ps L := by
 refine ⟨fun args w=> ?_,hL,fun I vs hcap l J W hag hst hY hJ=> ?_⟩
 ·simp only [callFunc,zP,run_program,zK,hf,hn,hb];simp
 ·have hv:jW I [] (zJO l ps) (.func (.yield l) #[] #[]::vs):=⟨⟨rfl,fun cs e=>by cases e⟩,zFV (l:=l) hcap⟩;have hv0:jW I [] (zJO 0 ps) (.func (.yield 0) #[] #[]::vs):=⟨⟨rfl,fun cs e=>by cases e⟩,zFV (l:=0) hcap⟩;have hk:=h (zCX hv0);simp only [zR2,hb,St.forceAll_eq] at hk;have hga:=zIw (N:=fn.ntmps) hag hv (by simpa [zJO] using hl);have e1: #[Value.func (.yield l) #[] #[]]++vs.toArray=(Value.func (.yield l) #[] #[]::vs).toArray:=by simp
  rw [e1];refine callsIn_of_wp (F:=Fence.wide) (n:=0) hf hb trivial ?_;rw [<- FR.none];refine zUR (J:=J) (L:=L) R hY c hok rfl hJ hga (hk l) fun e B1 st' pre' a' w' hd' hj' hk' h'=> ?_
  have fin:pre'=L->a'.defers=[]/\∃ v,(results fn a'.tmps).run P w'= .ok v w'/\(∃ v',(Ending.returned v)= .returned v')/\∃ σ',J L σ' w':=by
   intro e;subst e;obtain ⟨vs,hrun,_⟩:=zBz (P:=P) (w:=w') (fn:=fn) (tmps:=a'.tmps) (Q:=fun r v=>True) (fun r hr'=>by rw [hr] at hr';cases hr');obtain ⟨σ1,β1,hg⟩:=h'.gg;exact ⟨h'.defers.trans hd',_,hrun,⟨_,rfl⟩,_,hst _ _ _ _ hj' hg.bel⟩
  cases e with
  | normal=>exact fin hk'
  | ret=>exact fin hk'
  | _=>exact hk'.elim
end
end Go.Vm
namespace S1
theorem zD9 {L r:List Int} {c:Int} {k:Nat} (h:L.drop k=c::r):L.take (k+1)=L.take k++[c]/\L.drop (k+1)=r:=by
 have hk:k<L.length:=by
  rcases Nat.lt_or_ge k L.length with h'|h'
  ·exact h'
  ·rw [y9 h'] at h;cases h
 rw [List.drop_eq_getElem_cons hk] at h;injection h with h1 h2
 exact ⟨by rw [yH hk,h1],h2⟩
theorem zPy {L:List Int} {c:Int} {k:Nat} (h:L.drop k=[c]):L.take k++[c]=L:=by
 have:=zD9 h;rw [<- this.1];have h2:=zAV (k+1) L;rw [this.2,yJ] at h2;exact h2
theorem zQq {L r:List Int} {c:Int} {k:Nat} (h:L.drop k=c::r):(L.take k++[c]) <+: L:=by
 rw [<- (zD9 h).1];exact List.take_prefix _ _
theorem zMe {x:z6.T} {c0:Int} (h0:0<=c0): ∀ n c,0<=c->0<=(zDb x c0 n c).1
 | 0,c,_=>by show (0:Int)<=0;decide
 | n +1,c,hc=>by
   unfold zDb;split
   ·exact hc
   ·split
    ·exact h0
    ·exact zMe h0 n _ (by omega)
theorem zKI {x:z6.T} {b:Int} : ∀ n c,0<=c->∀ a∈jX x b n c,0<=a
 | 0,c,_,a,h=>by cases h
 | n + 1,c,hc,a,h=>by
   unfold jX at h;split at h
   ·rw [zF] at h;omega
   ·split at h
    ·rw [zF] at h;omega
    ·rcases zS.1 h with e|h
     ·omega
     ·exact zKI n _ (by omega) a h
theorem zRV {x:z6.T} (g:Good x) (v:Int): ∀ a∈yS (some x) v,InK .i64 a:=fun a h=>by
 have h1:=(zGh g v).2 a h
 have h2:0<=a:=by
  have h:a∈(if zCH x v then _ else _:List Int):=h;split at h
  ·rename_i ht
   have hc:0<=yL x v:=by
    simp only [zCH,zA,zB] at ht;exact ht.2.2
   exact zKI _ _ (zMe hc _ _ hc) a h
  ·cases h
 exact InK.i64.2 (by unfold zAZ;omega)
theorem zCF {x:z6.T} {b c:Int} {k:Nat} (h:k<=24576):jX x b (30000 - k) c=c::(if yB x c<0 then [] else if yB x c=b then [] else jX x b (30000 - (k+1)) (yB x c)):=by
 rw [show 30000 - k=(30000 - (k+1))+1 by omega];rfl
theorem zEo {x:z6.T} {v:Int} (h1:0<=v) (h2:v<x.1.1) (h3:0<=yL x v):yS (some x) v=jX x (zAd x v).1 30000 (zAd x v).1:=by
 show (if zCH x v then _ else _:List Int)=_;rw [if_pos (by unfold zCH;rw [decide_eq_true h1,decide_eq_true h2,decide_eq_true h3];rfl)]
theorem zFG {x:z6.T} {v:Int} (h: ¬ (0<=v/\v<x.1.1/\0<=yL x v)):yS (some x) v=[]:=by
 show (if zCH x v then _ else _:List Int)=_;rw [if_neg (fun e=>h (by simpa [zCH] using e))]
def z2X (x:z6.T) (b:Int):Spec Nat where
 inv k:=zPE (yB x) b k/\(jX x b 30000 b).drop k=jX x b (30000 - k) (iter (yB x) b k)
 live k:=[(6,.s (.int .i64 (iter (yB x) b k)))]
 keep:=[0,1,2,4]
 heap _:=[]
 keepH:=[]
 mu k:=30000 - k
theorem zRn (x:z6.T) (v:Int) (g:Good x):zR2 ⟨tyL,[(62,zJp),(63,zKV),(60,zGL)],[]⟩ f93 [⟨.pt z6,some x⟩,⟨qX,v⟩] (yS (some x) v):=by
 repeat' (conv=>whnf
          first|done|refine qy ?_|refine qG fun _=> ?_|refine qw (fun _=> ?_) (fun _=> ?_)|apply qt|refine qi (fun _=> ?_) (fun _=> ?_)|refine (fun (l:Nat)=> ?_)|refine yM Nat (yM (z2X x (zAd x v).1) (yM (fun k=>(jX x (zAd x v).1 30000 (zAd x v).1).take k) (yA (yM 0 (yA (zA9.out ?_) (yA (zBv.out ?_) (yA ?_ (yA ?_ rfl))))) (fun k hk=> ?_))))|((with_reducible show (∃ y,And (Spec.inv (z2X _ _) y) _));refine yM (k+1) (yA (zA9.out ?_) (yA (zBv.out ?_) (yA (yA ?_ (yA ?_ rfl)) (zA9.out ?_)))))|refine yA (zA9.out (p:=(_++[_]) <+: _) ?_) ?_|refine zBv.out ?_|refine qu ?_|refine qv ?_ ?_|exact zL)
 all_goals try first|refine qz ?_|apply qz5
 all_goals try simp only [qn0,zY,zX,ETy.dflt,Int.reduceToNat,Int.reduceAdd,Int.reduceSub,Int.reduceNeg,Nat.reduceAdd,z2X] at *
 ·exact qh ⟨fun j a b=>by omega,rfl⟩
 ·exact zBv.intro rfl
 ·rename_i h1 h2 h3;rw [zEo (v:=v) h1 h2 h3];have h24:=zBF g hk.1;have:=hk.2;rw [zCF h24] at this;exact qh (zQq this)
 ·rename_i h1 h2 h3;exact qh ⟨g,zXe g (zIG g (zEd g v) _ _ (zEd g v)) k⟩
 ·rename_i h1 h2 h3 h4;rw [zEo (v:=v) h1 h2 h3];have h24:=zBF g hk.1;have:=hk.2;rw [zCF h24,if_pos h4] at this;exact zBv.intro (zPy this)
 ·rename_i h1 h2 h3 h4 h5;replace h5:yB x (iter (yB x) (zAd x v).1 k)=(zAd x v).1:=h5;rw [zEo (v:=v) h1 h2 h3];have h24:=zBF g hk.1;have:=hk.2;rw [zCF h24,if_neg h4,if_pos h5] at this;exact zBv.intro (zPy this)
 ·rename_i h1 h2 h3 h4 h5;replace h5: ¬ yB x (iter (yB x) (zAd x v).1 k)=(zAd x v).1:=h5;have h24:=zBF g hk.1;have:=hk.2;rw [zCF h24,if_neg h4,if_neg h5] at this;exact qh ⟨hk.1.succ h4 h5,(zD9 this).2⟩
 ·rename_i h1 h2 h3 h4 h5;have h24:=zBF g hk.1;have:=hk.2;rw [zCF h24] at this;exact zBv.intro (zD9 this).1
 ·rename_i h1 h2 h3 h4 h5;have h24:=zBF g hk.1;refine qh ?_;omega
 ·rename_i h1 h2 h3;exact zBv.intro (zFG (fun h=>h3 h.2.2)).symm
 ·rename_i h1 h2;exact zBv.intro (zFG (fun h=>h2 h.2.1)).symm
 ·rename_i h1;exact zBv.intro (zFG (fun h=>h1 h.1)).symm
theorem zON (v:Int):zR2 ⟨tyL,[(62,zJp),(63,zKV),(60,zGL)],[]⟩ f93 [⟨.pt z6,none⟩,⟨qX,v⟩] (yS none v):=by
 repeat' (conv=>whnf
          first|done|refine qy ?_|refine qG fun _=> ?_|refine qw (fun _=> ?_) (fun _=> ?_)|apply qt|refine qi (fun _=> ?_) (fun _=> ?_)|refine (fun (l:Nat)=> ?_)|refine zBv.out ?_|refine qu ?_|refine qv ?_ ?_|exact zL)
 all_goals try first|refine qz ?_|apply qz5
 all_goals try simp only [qn0,zY,zX,ETy.dflt,Int.reduceToNat,Int.reduceAdd,Int.reduceSub,Int.reduceNeg,Nat.reduceAdd] at *
 exact zBv.intro rfl
theorem z6R:zG0 prog z5t:=fun f ps L h=>by
 obtain ⟨rfl,o,v,rfl,hg,rfl⟩:=h;cases o with
 | none=>exact seq_ok (zCv (fn:=[(62,zJp),(63,zKV),(60,zGL)]) (fr:=[]) ⟨zLd,zK6,zHx,trivial⟩ trivial) func93 rfl (by kernel_rfl) rfl (by kernel_rfl) (zW rfl) (fun a h=>by cases h) fun _=>zON v
 | some x=>exact seq_ok (zCv (fn:=[(62,zJp),(63,zKV),(60,zGL)]) (fr:=[]) ⟨zLd,zK6,zHx,trivial⟩ trivial) func93 rfl (by kernel_rfl) rfl (by kernel_rfl) (zW rfl) (zRV (hg x rfl) v) fun _=>zRn x v (hg x rfl)
end S1
