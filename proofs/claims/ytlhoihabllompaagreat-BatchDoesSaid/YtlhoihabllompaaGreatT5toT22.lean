/- A part of the proofs of the laws. -/
import Derived.Test.YtlhoihabllompaaGreatT0toVmInl
import Derived.Test.YtlhoihabllompaaGreatVmSort
import Derived.Test.YtlhoihabllompaaGreatLaySort
import Derived.RangeFuncFrom
import Derived.RangeFuncLeaves
import Derived.Test.YtlhoihabllompaaGreatVmGrow2toVmKit
import Derived.Maps.RangeRun
import Derived.Scope
set_option linter.unusedSimpArgs false
set_option linter.unusedVariables false
set_option maxHeartbeats 8000000
set_option maxRecDepth 100000
open Go.Proofs.Tryz
open Go Go.Vm Go.Proofs
namespace S1
def zYM (x y:Int):Int:=if x<y then -1 else if x>y then 1 else 0
theorem z65 {fn} (x:Int):zAG ⟨tyL,fn,[]⟩ f177 [(ETy.int .i64).av x] (fun v=>v= .s (.bool false)):=by
 repeat' (conv=>whnf
          first|done|refine qy ?_|refine qG fun _=> ?_|refine qw (fun _=> ?_) (fun _=> ?_)|apply qt|refine qi (fun _=> ?_) (fun _=> ?_)|refine qu ?_|refine qv ?_ ?_|exact zO)
 all_goals try first|refine qz ?_|apply qz5
 all_goals try simp only [qn0,z7,zX,ETy.dflt,Int.reduceToNat,Int.reduceAdd,Int.reduceSub,Int.reduceNeg,Nat.reduceAdd] at *
 simp
def z8W:List AV->Option Res:=zEz (.int .i64) (fun _=>some (none,none,.s (.bool false)))
theorem z7s:qM prog 177 z8W:=mkR (zA1 fun x r h=>by cases h;exact fb (fn:=[]) trivial func177 fun _ _=>z65 x) func177
theorem z7V (x y:Int):zAG ⟨tyL,[(177,z8W)],[]⟩ f169 [(ETy.int .i64).av x,(ETy.int .i64).av y] (fun v=>v= .s (.int .i64 (zYM x y))):=by
 repeat' (conv=>whnf
          first|done|refine qy ?_|refine qG fun _=> ?_|refine qw (fun _=> ?_) (fun _=> ?_)|apply qt|refine qi (fun _=> ?_) (fun _=> ?_)|refine qu ?_|refine qv ?_ ?_|exact zO)
 all_goals try first|refine qz ?_|apply qz5
 all_goals try simp only [qn0,z7,zX,ETy.dflt,Int.reduceToNat,Int.reduceAdd,Int.reduceSub,Int.reduceNeg,Nat.reduceAdd,zYM] at *
 all_goals (repeat' split)<;>omega
def z9Y:List AV->Option Res:=zCr (.int .i64) (.int .i64) (fun x y=>some (none,none,.s (.int .i64 (zYM x y))))
theorem z7W:qM prog 169 z9Y:=mkR (jD fun x y r h=>by cases h;exact fb (by exact ⟨z7s,trivial⟩) func169 fun _ _=>z7V x y) func169
def orR:List Int->Int
 | []=>0
 | x::r=>if x=0 then orR r else x
def z3p (l:List Int):Spec Nat where
 inv x:=x<=l.length/\orR l=orR (l.drop x)
 live x:=[(8,.s (.int .i64 x))]
 keep:=[3,6,7]
 heap _:=[]
 keepH:=[]
 mu x:=l.length - x
theorem z8o {fn} (l:List Int):zAG ⟨tyL,fn,[]⟩ f168 [(ETy.sl (.int .i64)).av l] (fun v=>v= .s (.int .i64 (orR l))):=by
 repeat' (conv=>whnf
          first|done|refine qy ?_|refine qG fun _=> ?_|refine qw (fun _=> ?_) (fun _=> ?_)|apply qt|refine qi (fun _=> ?_) (fun _=> ?_)|(refine zaB 3 rfl (z3p l) (0) ?_ ?_ ?_ fun x hx=> ?_)|with_reducible refine zaA (z3p _) (x+1) ?_ ?_ ?_ ?_|refine qu ?_|refine qv ?_ ?_|exact zO)
 all_goals try first|refine qz ?_|apply qz5
 all_goals try simp only [qn0,z7,zX,ETy.dflt,Int.reduceToNat,Int.reduceAdd,Int.reduceSub,Int.reduceNeg,Nat.reduceAdd,z3p] at *
 all_goals try (refine qh ?_;omega)
 ·exact qh ⟨zbH _,rfl⟩
 ·rename_i h1 h2;rw [hx.2,zBU 0 h1,orR,if_neg h2]
 ·rename_i h1 h2;exact qh ⟨by omega,by rw [hx.2,zBU 0 h1,orR,if_pos h2]⟩
 ·rw [hx.2,zE9 (by assumption)];rfl
def orC:List AV->Option Res:=zEz (.sl (.int .i64)) (fun l=>some (none,none,.s (.int .i64 (orR l))))
theorem z8g:qM prog 168 orC:=mkR (zA1 fun l r h=>by cases h;exact fb (fn:=[]) trivial func168 fun _ _=>z8o l) func168
def cfW (a b:Wit):Int:=orR [zYM a.2.2 b.2.2,zYM a.2.1 b.2.1]
theorem z5Z (a b:Wit):zAG ⟨tyL,[(169,z9Y),(168,orC)],[]⟩ f167 [zB0.av a,zB0.av b] (fun v=>v= .s (.int .i64 (cfW a b))):=by
 repeat' (conv=>whnf
          first|done|refine qy ?_|refine qG fun _=> ?_|refine qw (fun _=> ?_) (fun _=> ?_)|apply qt|refine qi (fun _=> ?_) (fun _=> ?_)|refine qu ?_|refine qv ?_ ?_|exact zO)
 all_goals try first|refine qz ?_|apply qz5
 all_goals try simp only [qn0,z7,zX,ETy.dflt,Int.reduceToNat,Int.reduceAdd,Int.reduceSub,Int.reduceNeg,Nat.reduceAdd,cfW] at *
 try rfl
def z96:List AV->Option Res:=zCr zB0 zB0 (fun a b=>some (none,none,.s (.int .i64 (cfW a b))))
theorem z4L:qM prog 167 z96:=mkR (jD fun a b r h=>by cases h;exact fb (by exact ⟨z7W,z8g,trivial⟩) func167 fun _ _=>z5Z a b) func167
theorem z6F (a b:Wit):cfW a b=if a.2.2=b.2.2 then zYM a.2.1 b.2.1 else zYM a.2.2 b.2.2:=by
 simp only [cfW,orR,zYM]
 repeat' split
 all_goals first|rfl|omega
def lt2 (p r q s:Int):Bool:=decide (p<q\/(p=q/\r<s))
theorem z6s (p r q s:Int):decide ((if p=q then zYM r s else zYM p q)<0)=lt2 p r q s:=by
 unfold lt2
 congr 1
 unfold zYM;apply propext
 by_cases h1:p=q
 ·subst h1
  by_cases h2:r<s
  ·simp [h2]
  ·by_cases h3:r>s<;>simp [h2,h3]
 ·by_cases h2:p<q
  ·simp [h1,h2]
  ·by_cases h3:p>q<;>simp [h1,h2,h3]
theorem z3O (p r:Int):lt2 p r p r=false:=by simp [lt2]
theorem lt2_trans (p r q s t u:Int) (h1:lt2 p r q s=true) (h2:lt2 q s t u=true):lt2 p r t u=true:=by
 simp only [lt2,zP] at *;omega
theorem zSl (p r q s t u:Int) (h1:lt2 p r q s=false) (h2:lt2 q s t u=false):lt2 p r t u=false:=by
 simp only [lt2,yM] at *;omega
theorem z86:z5y zB0 cfW:=by
 have key: ∀ a b:RT zB0,ltOf (fun a b:RT zB0=>cfW a.1 b.1) a b=lt2 a.1.2.2 a.1.2.1 b.1.2.2 b.1.2.1:=by
  intro a b;show decide (cfW a.1 b.1<0)=_;rw [z6F];exact z6s _ _ _ _
 refine ⟨fun x=>by rw [key];exact z3O _ _,fun x y z h1 h2=> ?_,fun x y z h1 h2=> ?_⟩
 ·rw [key] at h1 h2 ⊢;exact lt2_trans _ _ _ _ _ _ h1 h2
 ·rw [key] at h1 h2 ⊢;exact zSl _ _ _ _ _ _ h1 h2
def zYI:List AV->St->(AV->St->Prop)->Prop:=zGq zB0 (zGb zB0 cfW) (z8k 167) 1
theorem z0V : zJM prog 166 zYI ∧ ∃ fn, Tryz.prog.funcs[166]? = some fn ∧ (fn.name == "runtime.NumGoroutine") = false ∧ fn.body.isNone = false :=
 ⟨zZR (ρ:=Go.Proofs.S1.laySortF_ren) Go.Proofs.S1.laySortF (e:=zB0) rfl rfl (by decide) (fun w=>((z6m (fn:=[]) trivial).ty 91 _ rfl).run_isAgg) (fun w=>((z6m (fn:=[]) trivial).ty 91 _ rfl).run_sizeOf) (enters_of func167 (by kernel_rfl) rfl) z86 (fun x y=>z4L.1 _ _ rfl),
   _,func166,by kernel_rfl,by kernel_rfl⟩
def zNS:List AV->St->(AV->St->Prop)->Prop:=zMg zBY (fun l=>l.isEmpty)
theorem zRK : zJM prog 75 zNS ∧ ∃ fn, Tryz.prog.funcs[75]? = some fn ∧ (fn.name == "runtime.NumGoroutine") = false ∧ fn.body.isNone = false :=
 ⟨zWs (ρ:=Go.Proofs.S1.laySortI_ren) Go.Proofs.S1.laySortI,_,func75,by kernel_rfl,by kernel_rfl⟩
end S1
namespace S1
def s3 (t:P3):P3:=((zBY [t.1,t.2.1,t.2.2]).getD 0 0,(zBY [t.1,t.2.1,t.2.2]).getD 1 0,(zBY [t.1,t.2.1,t.2.2]).getD 2 0)
def zDm (t:P3):List P3:=[s3 t]
theorem z3m (t:P3):zAG ⟨tyL,[],[(75,.run zNS)]⟩ f181 [ETy.arr3.av t] (fun v=>v= .s (.sl .arr3 (zDm t))):=by
 repeat' (conv=>whnf
          first|done|refine qy ?_|refine qG fun _=> ?_|refine qw (fun _=> ?_) (fun _=> ?_)|apply qt|refine qi (fun _=> ?_) (fun _=> ?_)|refine qu ?_|refine qv ?_ ?_|exact zO)
 all_goals try first|refine qz ?_|apply qz5
 all_goals try simp only [qn0,z7,zX,ETy.dflt,Int.reduceToNat,Int.reduceAdd,Int.reduceSub,Int.reduceNeg,Nat.reduceAdd,zDm,s3] at *
 try rfl
def z4d:List AV->Option Res:=zEz .arr3 (fun t=>some (none,none,.s (.sl .arr3 (zDm t))))
theorem z3G:qM prog 181 z4d:=mkR (zA1 fun t r h=>by cases h;exact fb (fn:=[]) trivial func181 (p2:=by exact ⟨zRK,trivial⟩) fun _ _=>z3m t) func181
theorem zSp (n kind:Int) (l:List P3) (hb:l.length<=8192):zFB ⟨tyL,[(181,z4d)],[]⟩ f179 [qP.av (n,l),(ETy.int .i64).av kind,ETy.fnc.av (some 181)] (fun v obs=>v= .s (.own 0 0 (prS zDm kind l l.length).2.2.length)/\obs=[.row zB0 91 (prS zDm kind l l.length).2.2]):=by
 have hS:=fun x (h:x<=8192)=>z2t zDm (fun _=>(by decide:1<=3)) kind l x h
 repeat' (conv=>whnf
          first|done|refine qy ?_|refine qG fun _=> ?_|refine qw (fun _=> ?_) (fun _=> ?_)|apply qt|refine qi (fun _=> ?_) (fun _=> ?_)|(refine zaB 5 rfl (zFJ zDm kind l) (0) ?_ ?_ ?_ fun x hx=> ?_)|with_reducible refine zaA (zFJ _ _ _) (x+1) ?_ ?_ ?_ ?_|(refine zaB 8 rfl (zFE kind x (zDm (l.getD x (0,0,0))) (prS zDm kind l x)) (0) ?_ ?_ ?_ fun y hy=> ?_)|with_reducible refine zaA (zFE _ _ _ _) (y+1) ?_ ?_ ?_ ?_|(refine zaB 11 rfl (zJx kind x (zAL (qA (prK kind x (zDm (l.getD x (0,0,0)))) (prS zDm kind l x) y).1 ((zDm (l.getD x (0,0,0))).getD y (0,0,0))) (qA (prK kind x (zDm (l.getD x (0,0,0)))) (prS zDm kind l x) y).2) (0) ?_ ?_ ?_ fun z hz=> ?_)|with_reducible refine zaA (zJx _ _ _ _) (z+1) ?_ ?_ ?_ ?_|refine qu ?_|refine qv ?_ ?_|exact zO)
 all_goals try first|refine qz ?_|apply qz5
 all_goals try simp only [qn0,z7,zX,ETy.dflt,Int.reduceToNat,Int.reduceAdd,Int.reduceSub,Int.reduceNeg,Nat.reduceAdd,zFJ,zFE,zJx,zDJ,zNq,zKh] at *
 all_goals try (refine qh ?_;omega)
 all_goals try (rw [zQf (by assumption)];done)
 all_goals try (rw [zUI (by assumption)];(try simp);done)
 all_goals try first
  | (have e:z=(zAL (qA (prK kind x (zDm (l.getD x (0,0,0)))) (prS zDm kind l x) y).1 ((zDm (l.getD x (0,0,0))).getD y (0,0,0))).length:=by omega
     subst e;first|rfl|(rw [zDJ,zAT];rfl))
  | (have e:y=(zDm (l.getD x (0,0,0))).length:=by omega
     subst e;rfl)
  | (have e:x=l.length:=by omega
     subst e;rfl)
 all_goals
  have hB:=zPT (kind:=kind) (i:=x) (ks:=zDm (l.getD x (0,0,0))) (hS x (by omega)) (by decide:1<=3) y (by omega);have h1:=hB.1 ((zDm (l.getD x (0,0,0))).getD y (0,0,0));have h2:=hB.2;have h3:=zPq kind x (zAL (qA (prK kind x (zDm (l.getD x (0,0,0)))) (prS zDm kind l x) y).1 ((zDm (l.getD x (0,0,0))).getD y (0,0,0))) (qA (prK kind x (zDm (l.getD x (0,0,0)))) (prS zDm kind l x) y).2 z;have h4:y<=3:=zb0 hy (by decide:1<=3)
  have h5:y*(3*x+3)<=3*(3*x+3):=zbE _ h4;refine qh ?_;generalize y*(3*x+3)=q at *
 ·omega
 ·unfold zBT;simp only [yA,List.take_zero,List.length_nil];omega
def zKu:List AV->Option zKQ:=zOw qP (.int .i64) .fnc (fun s kind f=>match f with
 | some 181=>some (none,some (s.2.length<=8192),.s (.own 0 0 (prS zDm kind s.2 s.2.length).2.2.length),[.row zB0 91 (prS zDm kind s.2 s.2.length).2.2])
 | _=>none)
theorem zTC:zDM prog 179 zMH:=zaw (zRF fun s kind f r h=>by
 match f,h with
 | some 180,h=>cases h;exact fbF (fn:=[(180,zQC)]) ⟨zUR,trivial⟩ func179 fun _ h=>zTB s.1 kind s.2 h) func179
theorem zSj:zDM prog 179 zKu:=zaw (zRF fun s kind f r h=>by
 match f,h with
 | some 181,h=>cases h;exact fbF (fn:=[(181,z4d)]) ⟨z3G,trivial⟩ func179 fun _ h=>zSp s.1 kind s.2 h) func179
theorem zZZ (n:Int) (l:List P3) (hb:l.length<=8192):zFB ⟨tyL,[],[(179,.res zMH)]⟩ f162 [qP.av (n,l)] (fun v obs=>v= .s (.own 0 0 (prS qQ 3 l l.length).2.2.length)/\obs=[.row zB0 91 (prS qQ 3 l l.length).2.2]):=by
 repeat' (conv=>whnf
          first|done|refine qy ?_|refine qG fun _=> ?_|refine qw (fun _=> ?_) (fun _=> ?_)|apply qt|refine qi (fun _=> ?_) (fun _=> ?_)|refine qu ?_|refine qv ?_ ?_|exact zO)
 all_goals try first|refine qz ?_|apply qz5
 all_goals try simp only [qn0,z7,zX,ETy.dflt,Int.reduceToNat,Int.reduceAdd,Int.reduceSub,Int.reduceNeg,Nat.reduceAdd] at *
def zX9:List AV->Option zKQ:=zEz qP (fun s=>some (none,some (s.2.length<=8192),.s (.own 0 0 (prS qQ 3 s.2 s.2.length).2.2.length),[.row zB0 91 (prS qQ 3 s.2 s.2.length).2.2]))
theorem zZl:zDM prog 162 zX9:=zaw (zCC fun s r h=>by cases h;exact fbF (fn:=[]) trivial func162 (p2:=by exact ⟨zTC,trivial⟩) fun _ h=>zZZ s.1 s.2 h) func162
theorem zPv (n:Int) (l:List P3) (hb:l.length<=8192):zFB ⟨tyL,[],[(179,.res zKu)]⟩ f163 [qP.av (n,l)] (fun v obs=>v= .s (.own 0 0 (prS zDm 4 l l.length).2.2.length)/\obs=[.row zB0 91 (prS zDm 4 l l.length).2.2]):=by
 repeat' (conv=>whnf
          first|done|refine qy ?_|refine qG fun _=> ?_|refine qw (fun _=> ?_) (fun _=> ?_)|apply qt|refine qi (fun _=> ?_) (fun _=> ?_)|refine qu ?_|refine qv ?_ ?_|exact zO)
 all_goals try first|refine qz ?_|apply qz5
 all_goals try simp only [qn0,z7,zX,ETy.dflt,Int.reduceToNat,Int.reduceAdd,Int.reduceSub,Int.reduceNeg,Nat.reduceAdd] at *
def zIj:List AV->Option zKQ:=zEz qP (fun s=>some (none,some (s.2.length<=8192),.s (.own 0 0 (prS zDm 4 s.2 s.2.length).2.2.length),[.row zB0 91 (prS zDm 4 s.2 s.2.length).2.2]))
theorem zPY:zDM prog 163 zIj:=zaw (zCC fun s r h=>by cases h;exact fbF (fn:=[]) trivial func163 (p2:=by exact ⟨zSj,trivial⟩) fun _ h=>zPv s.1 s.2 h) func163
end S1
namespace S1
theorem zLV {α:Type} {l:List α} (h: ¬ (l.length:Int)>0):l=[]:=by
 cases l with
 | nil=>rfl
 | cons a l=>exact absurd (by simp) h
theorem zF5 {n:Int} {l:List P3} (h: ¬ ((jF (n,l)).length:Int)>0):zMc (n,l):=by
 have h:=zLV h;unfold jF at h;split at h
 ·cases h
 ·rename_i hb
  have hb: ¬ (n<0\/n>4096\/(l.length:Int)>8192):=by
   simpa only [zHN,zbA,zP] using hb
  have hc:n<=4096/\0<=n/\l.length<=8192:=by omega
  refine ⟨hc.2.1,hc.1,hc.2.2,fun i hi=> ?_⟩;have:=zbO.1 h i (zV.2 hi);unfold z6D at this;split at this
  ·assumption
  ·cases this
theorem zL9 {s:List Bool} {i j:Nat} (h:(s.set i true).getD j false=true):i=j\/s.getD j false=true:=by
 by_cases e:i=j
 ·exact .inl e
 ·rw [gdE,zba e] at h;exact .inr (by rw [gdE];exact h)
theorem zMn {n:Nat} {l:List P3} {v:Nat} (hl: ∀ j,j<l.length->0<=(l.getD j (0,0,0)).1/\0<=(l.getD j (0,0,0)).2.1/\0<=(l.getD j (0,0,0)).2.2) :
 ∀ i,i<=l.length->(zC8 n l i).getD v false=true->∃ j,j<i/\z8 (l.getD j (0,0,0)) v
 | 0,_,h=>by
   have:(zC8 n l 0).getD v false=false:=by
    show (List.replicate n false).getD v false=false;rw [gdE,zbI];split<;>rfl
   rw [this] at h;cases h
 | i + 1,hi,h=>by
   have h:(zNQ (zC8 n l i) (l.getD i (0,0,0))).getD v false=true:=h;obtain ⟨k1,k2,k3⟩:=hl i (by omega);rcases zL9 h with e|h
   ·exact ⟨i,by omega,.inr (.inr (by omega))⟩
   ·rcases zL9 h with e|h
    ·exact ⟨i,by omega,.inr (.inl (by omega))⟩
    ·rcases zL9 h with e|h
     ·exact ⟨i,by omega,.inl (by omega)⟩
     ·obtain ⟨j,h1,h2⟩:=zMn hl i (by omega) h;exact ⟨j,by omega,h2⟩
theorem zZI {n:Int} {l:List P3} (hf:zMc (n,l)) (h: ¬ ((zH3 (n,l)).length:Int)>0):z87 (n,l):=by
 have h:=zLV h;intro v hv;have:=zbO.1 h v (zV.2 (by omega));unfold loG at this;split at this
 ·rename_i ht;exact zMn (fun j hj=>by have:=zAH (hf.2.2.2 j hj);omega) l.length (zI _) ht
 ·cases this
def zDI:List (List Wit)->List Wit
 | []=>[]
 | l::r=>if (l.length:Int)>0 then zGb zB0 cfW l else zDI r
def allR (s:Int×List P3):List Wit:=zDI [jF s,dgL s.2 s.2.length,(prS qQ 3 s.2 s.2.length).2.2,(prS zDm 4 s.2 s.2.length).2.2,zH3 s,zXw s]
theorem zII (l:List Wit):(zGb zB0 cfW l).length=l.length:=zJF z86 l
theorem z7f (n:Int) (l:List P3):zFB ⟨tyL,[],[(160,.res zTj),(161,.res z41),(162,.res zX9),(163,.res zIj),(164,.res zPf),(165,.res zXi),(166,.run zYI)]⟩ f135 [qP.av (n,l)] (fun v obs=>v= .s (.own 0 0 (allR (n,l)).length)/\obs=[.row zB0 91 (allR (n,l))]):=by
 repeat' (conv=>whnf
          first|done|refine qy ?_|refine qG fun _=> ?_|refine qw (fun _=> ?_) (fun _=> ?_)|apply qt|refine qi (fun _=> ?_) (fun _=> ?_)|(refine zdg 2 rfl ?_;refine Or.inl (zB (7) ?_))|refine qu ?_|refine qv ?_ ?_|exact zO)
 all_goals try first|refine qz ?_|apply qz5
 all_goals try simp only [qn0,z7,zX,ETy.dflt,Int.reduceToNat,Int.reduceAdd,Int.reduceSub,Int.reduceNeg,Nat.reduceAdd] at *
 all_goals first
  | (simp only [allR,zDI, *,zII,if_true,if_false,List.take_zero,List.drop_length,zbF,zbq,List.length_nil];first|done|exact (zII _).symm)
  | (refine qh ?_;first|exact (zF5 ‹_›).2.2.1|exact zF5 ‹_›|exact ⟨zF5 ‹_›,zZI (zF5 ‹_›) ‹_›⟩)
def z89:List AV->Option zKQ:=zEz qP (fun s=>some (none,none,.s (.own 0 0 (allR s).length),[.row zB0 91 (allR s)]))
theorem z7G:zDM prog 135 z89:=zaw (zCC fun s r h=>by cases h;exact fbF (fn:=[]) trivial func135 (p2:=by exact ⟨zZd,z4v,zZl,zPY,zTh,z1R,z0V,trivial⟩) fun _ _=>z7f s.1 s.2) func135
end S1
namespace S1
def zJr (s:Int×List P3):Wit:=(allR s).headD (0,0,0)
theorem z0s (n:Int) (l:List P3):zAG ⟨tyL,[],[(135,.res z89)]⟩ f93 [qP.av (n,l)] (fun v=>v=zB0.av (zJr (n,l))):=by
 repeat' (conv=>whnf
          first|done|refine qy ?_|refine qG fun _=> ?_|refine qw (fun _=> ?_) (fun _=> ?_)|apply qt|refine qi (fun _=> ?_) (fun _=> ?_)|refine qu ?_|refine qv ?_ ?_|exact zO)
 all_goals try first|refine qz ?_|apply qz5
 all_goals try simp only [qn0,z7,zX,ETy.dflt,Int.reduceToNat,Int.reduceAdd,Int.reduceSub,Int.reduceNeg,Nat.reduceAdd] at *
 ·rename_i h1 h2;cases h:allR (n,l) with
  | nil=>rw [h] at h2;simp at h2
  | cons a r=>unfold zJr;rw [h];exact y9.intro rfl
 ·rename_i h2;unfold zJr;rw [zLV h2];exact y9.intro rfl
def zYt:List AV->Option Res:=zEz qP (fun s=>some (none,none,zB0.av (zJr s)))
theorem zZS:qM prog 93 zYt:=mkR (zA1 fun s r h=>by cases h;exact fb (fn:=[]) trivial func93 (p2:=by exact ⟨z7G,trivial⟩) fun _ _=>z0s s.1 s.2) func93
def isR (s:Int×List P3):Bool:=decide (zJr s=(0,0,0))
theorem zZA {fn} (l:List P3) (hb:l.length<=8192):zAG ⟨tyL,fn,[]⟩ f64 [(ETy.sl .arr3).av l] (fun v=>v=(ETy.sl .arr3).av l):=by
 repeat' (conv=>whnf
          first|done|refine qy ?_|refine qG fun _=> ?_|refine qw (fun _=> ?_) (fun _=> ?_)|apply qt|refine qi (fun _=> ?_) (fun _=> ?_)|refine qu ?_|refine qv ?_ ?_|exact zO)
 all_goals try first|refine qz ?_|apply qz5
 all_goals try simp only [qn0,z7,zX,ETy.dflt,Int.reduceToNat,Int.reduceAdd,Int.reduceSub,Int.reduceNeg,Nat.reduceAdd] at *
 ·exact (‹l=[]›).symm
 ·exact zbK
def zIF:List AV->Option Res:=zEz (.sl .arr3) (fun l=>some (none,some (l.length<=8192),.s (.sl .arr3 l)))
theorem zMV:qM prog 64 zIF:=mkR (zA1 fun l r h=>by cases h;exact fb (fn:=[]) trivial func64 fun _ h=>zZA l h) func64
def eqR (a b:List P3):Bool:=decide (a=b)
def z5U (a b:List P3):Spec Nat where
 inv x:=x<=a.length/\∀ i,i<x->a.getD i (0,0,0)=b.getD i (0,0,0)
 live x:=[(13,.s (.int .i64 x))]
 keep:=[0,1,12]
 heap _:=[]
 keepH:=[]
 mu x:=a.length - x
theorem z18 {fn} (a b:List P3):zAG ⟨tyL,fn,[]⟩ f140 [(ETy.sl .arr3).av a,(ETy.sl .arr3).av b] (fun v=>v= .s (.bool (eqR a b))):=by
 repeat' (conv=>whnf
          first|done|refine qy ?_|refine qG fun _=> ?_|refine qw (fun _=> ?_) (fun _=> ?_)|apply qt|refine qi (fun _=> ?_) (fun _=> ?_)|(refine zaB 4 rfl (z5U a b) (0) ?_ ?_ ?_ fun x hx=> ?_)|with_reducible refine zaA (z5U _ _) (x+1) ?_ ?_ ?_ ?_|refine qu ?_|refine qv ?_ ?_|exact zO)
 all_goals try first|refine qz ?_|apply qz5
 all_goals try simp only [qn0,z7,zX,ETy.dflt,Int.reduceToNat,Int.reduceAdd,Int.reduceSub,Int.reduceNeg,Nat.reduceAdd,z5U,eqR] at *
 ·have e:a≠b:=fun e=>by subst e;exact absurd rfl ‹(a.length:Int)≠_›
  rw [decide_eq_false e]
 ·exact qh ⟨zbH _,fun i hi=>by omega⟩
 ·refine yJ.intro ⟨by omega,fun i hi=> ?_⟩
  by_cases e:i=x
  ·subst e;exact Prod.ext ‹_› (Prod.ext ‹_› ‹_›)
  ·exact hx.2 i (by omega)
 ·exact qh (by omega)
 ·have e:a≠b:=fun e=>by subst e;exact absurd rfl ‹(a.getD x (0,0,0)).snd.snd≠_›
  rw [decide_eq_false e]
 ·have e:a≠b:=fun e=>by subst e;exact absurd rfl ‹(a.getD x (0,0,0)).snd.fst≠_›
  rw [decide_eq_false e]
 ·have e:a≠b:=fun e=>by subst e;exact absurd rfl ‹(a.getD x (0,0,0)).fst≠_›
  rw [decide_eq_false e]
 ·have e:a=b:=List.ext_getElem (by omega) fun i h1 h2=>by
   have:=hx.2 i (by omega);rwa [gdE,gdE,gE h1,gE h2] at this
  rw [decide_eq_true e]
def zOQ:List AV->Option Res:=zCr (.sl .arr3) (.sl .arr3) (fun a b=>some (none,none,.s (.bool (eqR a b))))
theorem zQq:qM prog 140 zOQ:=mkR (jD fun a b r h=>by cases h;exact fb (fn:=[]) trivial func140 fun _ _=>z18 a b) func140
end S1
namespace S1
abbrev yI:ETy:= .pair qP (.pair (.mp .arr2 (.int .i64)) (.sl (.int .i64)))
def zZY {ρ:Type} (e:ETy) (f:e.T->Option ρ):List AV->Option ρ :=
 zEz (.pt e) (fun o=>match o with|some x=>f x|none=>none)
def zGX {ρ:Type} (e b:ETy) (f:e.T->b.T->Option ρ):List AV->Option ρ :=
 zCr (.pt e) b (fun o y=>match o with|some x=>f x y|none=>none)
theorem zM0 {P:Program} {e:ETy} {f:e.T->Option Res} {n:FuncId} (h: ∀ x r,f x=some r->zCn P n [(ETy.pt e).av (some x)] r): ∀ args r,zZY e f args=some r->zCn P n args r :=
 zA1 fun o r hr=>by cases o with|none=>cases hr|some x=>exact h x r hr
theorem zAs {P:Program} {e b:ETy} {f:e.T->b.T->Option Res} {n:FuncId} (h: ∀ x y r,f x y=some r->zCn P n [(ETy.pt e).av (some x),b.av y] r): ∀ args r,zGX e b f args=some r->zCn P n args r :=
 jD fun o y r hr=>by cases o with|none=>cases hr|some x=>exact h x y r hr
def trn (c b:Int):Int:=c - c % 3+(c+b) % 3
def j6 (x:yI.T) (c:Int):Bool:=decide (0<=c)&&decide (c<3*(x.1.2.length:Int))
def qY (x:yI.T) (c:Int):Int:=if j6 x c then trn c 1 else -1
def qV (x:yI.T) (c:Int):Int:=if j6 x c then trn c 2 else -1
def p3 (t:P3) (k:Int):Int:=if k=0 then t.1 else if k=1 then t.2.1 else t.2.2
def yS (x:yI.T) (c:Int):Int:=if j6 x c then p3 (x.1.2.getD (c / 3).toNat (0,0,0)) (c % 3) else -1
def jR (x:yI.T) (c:Int):Int×Int:=(yS x (qY x c),yS x (qV x c))
def qJ (x:yI.T) (e:Int×Int):Int:=(jS .arr2 x.2.1 e).getD (-1)
def zAI (x:yI.T) (c:Int):Int:=qJ x ((jR x c).2,(jR x c).1)
def yY (x:yI.T) (v:Int):Int:=if 0<=v/\v<x.2.2.length then x.2.2.getD v.toNat 0 else -1
theorem tm3 {c:Int} (h:0<=c):c.tmod 3=c % 3:=Int.tmod_eq_emod_of_nonneg h
theorem td3 {c:Int} (h:0<=c):c.tdiv 3=c / 3:=Int.tdiv_eq_ediv_of_nonneg h
theorem yH {x:yI.T} {c:Int} :j6 x c=true↔0<=c/\c<3*(x.1.2.length:Int):=by
 unfold j6;rw [zC,zP,zP]
theorem zU6 {fn} (c b:Int) (h:0<=c/\c<=1000000000/\0<=b/\b<=2):zAG ⟨tyL,fn,[]⟩ f158 [y8.av c,y8.av b] (fun v=>v= .s (.int .i64 (trn c b))):=by
 repeat' (conv=>whnf
          first|done|refine qy ?_|refine qG fun _=> ?_|refine qw (fun _=> ?_) (fun _=> ?_)|apply qt|refine qi (fun _=> ?_) (fun _=> ?_)|refine qu ?_|refine qv ?_ ?_|exact zO)
 all_goals try first|refine qz ?_|apply qz5
 all_goals try simp only [qn0,z7,zX,ETy.dflt,Int.reduceToNat,Int.reduceAdd,Int.reduceSub,Int.reduceNeg,Nat.reduceAdd,trn] at *
 all_goals try refine qh ?_
 all_goals (rw [tm3 (by omega)];try rw [tm3 (by omega)])
 all_goals (try simp only [yP]);(try omega)
def zJY:List AV->Option Res:=zCr y8 y8 (fun c b=>some (none,some (0<=c/\c<=1000000000/\0<=b/\b<=2),.s (.int .i64 (trn c b))))
theorem zOK:qM prog 158 zJY:=mkR (jD fun c b r h=>by cases h;exact fb (fn:=[]) trivial func158 fun _ h=>zU6 c b h) func158
theorem z72 {fn} (x:yI.T) (c:Int):zAG ⟨tyL,fn,[]⟩ f136 [(ETy.pt yI).av (some x),y8.av c] (fun v=>v= .s (.bool (j6 x c))):=by
 obtain ⟨⟨n,l⟩,m,f⟩:=x
 repeat' (conv=>whnf
          first|done|refine qy ?_|refine qG fun _=> ?_|refine qw (fun _=> ?_) (fun _=> ?_)|apply qt|refine qi (fun _=> ?_) (fun _=> ?_)|refine qu ?_|refine qv ?_ ?_|exact zO)
 all_goals try first|refine qz ?_|apply qz5
 all_goals try simp only [qn0,z7,zX,ETy.dflt,Int.reduceToNat,Int.reduceAdd,Int.reduceSub,Int.reduceNeg,Nat.reduceAdd,j6,zbU] at *
 all_goals (rw [Bool.eq_iff_iff,zC,zP,zP])
 ·constructor
  ·intro h;exact ⟨by omega,h⟩
  ·intro h;exact h.2
 ·constructor
  ·intro h;cases h
  ·intro h;omega
def z5C:List AV->Option Res:=zGX yI y8 (fun x c=>some (none,none,.s (.bool (j6 x c))))
theorem zWI:qM prog 136 z5C:=mkR (zAs fun x c r h=>by cases h;exact fb (fn:=[]) trivial func136 fun _ _=>z72 x c) func136
theorem zDY {x:yI.T} {c:Int} (h1:0<=c) (h2:c<3*(x.1.2.length:Int)):yS x c=p3 (x.1.2.getD (c / 3).toNat (0,0,0)) (c % 3):=by
 unfold yS;rw [if_pos (yH.2 ⟨h1,h2⟩)]
theorem zRW {x:yI.T} {c:Int} (h: ¬ (0<=c/\c<3*(x.1.2.length:Int))):j6 x c=false:=by
 rw [<- zbV];exact fun e=>h (yH.1 e)
theorem z44 {x:yI.T} {c:Int} (h: ¬ (0<=c/\c<3*(x.1.2.length:Int))):yS x c= -1:=by
 unfold yS;rw [zRW h];rfl
theorem z7z (t:P3) (k:Int) (h1:0<=k) (h2:k<3):[t.1,t.2.1,t.2.2].getD k.toNat 0=p3 t k:=by
 have:k=0\/k=1\/k=2:=by omega
 rcases this with e|e|e<;>subst e<;>rfl
theorem zOS {fn} (x:yI.T):zAG ⟨tyL,fn,[]⟩ f74 [(ETy.pt yI).av (some x)] (fun v=>v= .s (.int .i64 x.1.2.length)):=by
 obtain ⟨⟨n,l⟩,m,f⟩:=x
 repeat' (conv=>whnf
          first|done|refine qy ?_|refine qG fun _=> ?_|refine qw (fun _=> ?_) (fun _=> ?_)|apply qt|refine qi (fun _=> ?_) (fun _=> ?_)|refine qu ?_|refine qv ?_ ?_|exact zO)
 all_goals try first|refine qz ?_|apply qz5
 all_goals try simp only [qn0,z7,zX,ETy.dflt,Int.reduceToNat,Int.reduceAdd,Int.reduceSub,Int.reduceNeg,Nat.reduceAdd,zbU] at *
def zB3:List AV->Option Res:=zZY yI (fun x=>some (none,none,.s (.int .i64 x.1.2.length)))
theorem zE5:qM prog 74 zB3:=mkR (zM0 fun x r h=>by cases h;exact fb (fn:=[]) trivial func74 fun _ _=>zOS x) func74
theorem zPZ {fn} (x:yI.T):zAG ⟨tyL,fn,[]⟩ f85 [(ETy.pt yI).av (some x)] (fun v=>v= .s (.int .i64 x.1.1)):=by
 obtain ⟨⟨n,l⟩,m,f⟩:=x
 repeat' (conv=>whnf
          first|done|refine qy ?_|refine qG fun _=> ?_|refine qw (fun _=> ?_) (fun _=> ?_)|apply qt|refine qi (fun _=> ?_) (fun _=> ?_)|refine qu ?_|refine qv ?_ ?_|exact zO)
 all_goals try first|refine qz ?_|apply qz5
 all_goals try simp only [qn0,z7,zX,ETy.dflt,Int.reduceToNat,Int.reduceAdd,Int.reduceSub,Int.reduceNeg,Nat.reduceAdd,zbU] at *
def zBn:List AV->Option Res:=zZY yI (fun x=>some (none,none,.s (.int .i64 x.1.1)))
theorem zD0:qM prog 85 zBn:=mkR (zM0 fun x r h=>by cases h;exact fb (fn:=[]) trivial func85 fun _ _=>zPZ x) func85
theorem zXk (x:yI.T) (c:Int) (h:c<=1000000000):zAG ⟨tyL,[(136,z5C)],[]⟩ f94 [(ETy.pt yI).av (some x),y8.av c] (fun v=>v= .s (.int .i64 (yS x c))):=by
 obtain ⟨⟨n,l⟩,m,f⟩:=x
 repeat' (conv=>whnf
          first|done|refine qy ?_|refine qG fun _=> ?_|refine qw (fun _=> ?_) (fun _=> ?_)|apply qt|refine qi (fun _=> ?_) (fun _=> ?_)|refine qu ?_|refine qv ?_ ?_|exact zO)
 all_goals try first|refine qz ?_|apply qz5
 all_goals try simp only [qn0,z7,zX,ETy.dflt,Int.reduceToNat,Int.reduceAdd,Int.reduceSub,Int.reduceNeg,Nat.reduceAdd,zbU] at *
 ·refine yJ.intro ⟨by omega,?_⟩;rw [td3 (by assumption)];unfold yP;omega
 ·refine qh ?_;rw [td3 (by assumption)];omega
 ·refine qh ?_;rw [tm3 (by assumption)];omega
 ·rw [tm3 (by assumption),td3 (by assumption),zDY (by assumption) (by assumption)];exact z7z _ _ (by omega) (by omega)
 all_goals (rw [z44];intro h';first|exact absurd h'.2 ‹_›|exact absurd h'.1 ‹_›)
def zC4:List AV->Option Res:=zGX yI y8 (fun x c=>some (none,some (c<=1000000000),.s (.int .i64 (yS x c))))
theorem zEF:qM prog 94 zC4:=mkR (zAs fun x c r h=>by cases h;exact fb (by exact ⟨zWI,trivial⟩) func94 fun _ h=>zXk x c h) func94
theorem z5b (x:yI.T) (c:Int) (h:c<=1000000):zAG ⟨tyL,[(136,z5C),(158,zJY)],[]⟩ f121 [(ETy.pt yI).av (some x),y8.av c] (fun v=>v= .s (.int .i64 (qY x c))):=by
 repeat' (conv=>whnf
          first|done|refine qy ?_|refine qG fun _=> ?_|refine qw (fun _=> ?_) (fun _=> ?_)|apply qt|refine qi (fun _=> ?_) (fun _=> ?_)|refine qu ?_|refine qv ?_ ?_|exact zO)
 all_goals try first|refine qz ?_|apply qz5
 all_goals try simp only [qn0,z7,zX,ETy.dflt,Int.reduceToNat,Int.reduceAdd,Int.reduceSub,Int.reduceNeg,Nat.reduceAdd,zbU] at *
 ·exact qh ⟨by assumption,Int.le_trans h (by decide),by decide,by decide⟩
 ·unfold qY;rw [if_pos (yH.2 ⟨by assumption,by assumption⟩)]
 all_goals (unfold qY;rw [zRW (by omega)];rfl)
def zKt:List AV->Option Res:=zGX yI y8 (fun x c=>some (none,some (c<=1000000),.s (.int .i64 (qY x c))))
theorem zLj:qM prog 121 zKt:=mkR (zAs fun x c r h=>by cases h;exact fb (by exact ⟨zWI,zOK,trivial⟩) func121 fun _ h=>z5b x c h) func121
theorem z47 (x:yI.T) (c:Int) (h:c<=1000000):zAG ⟨tyL,[(136,z5C),(158,zJY)],[]⟩ f122 [(ETy.pt yI).av (some x),y8.av c] (fun v=>v= .s (.int .i64 (qV x c))):=by
 repeat' (conv=>whnf
          first|done|refine qy ?_|refine qG fun _=> ?_|refine qw (fun _=> ?_) (fun _=> ?_)|apply qt|refine qi (fun _=> ?_) (fun _=> ?_)|refine qu ?_|refine qv ?_ ?_|exact zO)
 all_goals try first|refine qz ?_|apply qz5
 all_goals try simp only [qn0,z7,zX,ETy.dflt,Int.reduceToNat,Int.reduceAdd,Int.reduceSub,Int.reduceNeg,Nat.reduceAdd,zbU] at *
 ·exact qh ⟨by assumption,Int.le_trans h (by decide),by decide,by decide⟩
 ·unfold qV;rw [if_pos (yH.2 ⟨by assumption,by assumption⟩)]
 all_goals (unfold qV;rw [zRW (by omega)];rfl)
def zLy:List AV->Option Res:=zGX yI y8 (fun x c=>some (none,some (c<=1000000),.s (.int .i64 (qV x c))))
theorem zLU:qM prog 122 zLy:=mkR (zAs fun x c r h=>by cases h;exact fb (by exact ⟨zWI,zOK,trivial⟩) func122 fun _ h=>z47 x c h) func122
theorem zUv {fn} (x:yI.T) (e:Int×Int):zAG ⟨tyL,fn,[]⟩ f78 [(ETy.pt yI).av (some x),ETy.arr2.av e] (fun v=>v= .s (.int .i64 (qJ x e))):=by
 obtain ⟨⟨n,l⟩,m,f⟩:=x
 repeat' (conv=>whnf
          first|done|refine qy ?_|refine qG fun _=> ?_|refine qw (fun _=> ?_) (fun _=> ?_)|apply qt|refine qi (fun _=> ?_) (fun _=> ?_)|refine qu ?_|refine qv ?_ ?_|exact zO)
 all_goals try first|refine qz ?_|apply qz5
 all_goals try simp only [qn0,z7,zX,ETy.dflt,Int.reduceToNat,Int.reduceAdd,Int.reduceSub,Int.reduceNeg,Nat.reduceAdd,zbU,qJ] at *
 ·rename_i h;cases hm:jS .arr2 m e with
  | none=>rw [hm] at h;cases h
  | some v=>rfl
 ·rename_i h;cases hm:jS .arr2 m e with
  | none=>rfl
  | some v=>rw [hm] at h;cases h
def zEC:List AV->Option Res:=zGX yI .arr2 (fun x e=>some (none,none,.s (.int .i64 (qJ x e))))
theorem zFi:qM prog 78 zEC:=mkR (zAs fun x e r h=>by cases h;exact fb (fn:=[]) trivial func78 fun _ _=>zUv x e) func78
theorem zVU {fn} (x:yI.T) (v:Int):zAG ⟨tyL,fn,[]⟩ f124 [(ETy.pt yI).av (some x),y8.av v] (fun r=>r= .s (.int .i64 (yY x v))):=by
 obtain ⟨⟨n,l⟩,m,f⟩:=x
 repeat' (conv=>whnf
          first|done|refine qy ?_|refine qG fun _=> ?_|refine qw (fun _=> ?_) (fun _=> ?_)|apply qt|refine qi (fun _=> ?_) (fun _=> ?_)|refine qu ?_|refine qv ?_ ?_|exact zO)
 all_goals try first|refine qz ?_|apply qz5
 all_goals try simp only [qn0,z7,zX,ETy.dflt,Int.reduceToNat,Int.reduceAdd,Int.reduceSub,Int.reduceNeg,Nat.reduceAdd,zbU,yY] at *
 ·rw [if_neg (by omega)]
 ·rw [if_neg (by omega)]
 ·rw [if_pos (by omega)]
def zDw:List AV->Option Res:=zGX yI y8 (fun x v=>some (none,none,.s (.int .i64 (yY x v))))
theorem zGT:qM prog 124 zDw:=mkR (zAs fun x v r h=>by cases h;exact fb (fn:=[]) trivial func124 fun _ _=>zVU x v) func124
theorem z2A {c b:Int} :trn c b<=c+2:=by unfold trn;omega
theorem z00 {x:yI.T} {c:Int} (h:c<=1000000):qY x c<=1000000000:=by
 have:= @z2A c 1;unfold qY;split<;>omega
theorem z0M {x:yI.T} {c:Int} (h:c<=1000000):qV x c<=1000000000:=by
 have:= @z2A c 2;unfold qV;split<;>omega
theorem z3u (x:yI.T) (c:Int) (h:c<=1000000):zAG ⟨tyL,[(121,zKt),(122,zLy),(94,zC4)],[]⟩ f77 [(ETy.pt yI).av (some x),y8.av c] (fun v=>v=ETy.arr2.av (jR x c)):=by
 repeat' (conv=>whnf
          first|done|refine qy ?_|refine qG fun _=> ?_|refine qw (fun _=> ?_) (fun _=> ?_)|apply qt|refine qi (fun _=> ?_) (fun _=> ?_)|refine qu ?_|refine qv ?_ ?_|exact zO)
 all_goals try first|refine qz ?_|apply qz5
 all_goals try simp only [qn0,z7,zX,ETy.dflt,Int.reduceToNat,Int.reduceAdd,Int.reduceSub,Int.reduceNeg,Nat.reduceAdd,zbU] at *
 ·exact qh (z00 (by omega))
 ·exact qh (z0M (by omega))
 ·exact y9.intro rfl
def zLK:List AV->Option Res:=zGX yI y8 (fun x c=>some (none,some (c<=1000000),ETy.arr2.av (jR x c)))
theorem zMb:qM prog 77 zLK:=mkR (zAs fun x c r h=>by cases h;exact fb (by exact ⟨zLj,zLU,zEF,trivial⟩) func77 fun _ h=>z3u x c h) func77
theorem z6d (x:yI.T) (c:Int) (h:c<=1000000):zAG ⟨tyL,[(77,zLK),(78,zEC)],[]⟩ f37 [(ETy.pt yI).av (some x),y8.av c] (fun v=>v= .s (.int .i64 (zAI x c))):=by
 repeat' (conv=>whnf
          first|done|refine qy ?_|refine qG fun _=> ?_|refine qw (fun _=> ?_) (fun _=> ?_)|apply qt|refine qi (fun _=> ?_) (fun _=> ?_)|refine qu ?_|refine qv ?_ ?_|exact zO)
 all_goals try first|refine qz ?_|apply qz5
 all_goals try simp only [qn0,z7,zX,ETy.dflt,Int.reduceToNat,Int.reduceAdd,Int.reduceSub,Int.reduceNeg,Nat.reduceAdd,zbU] at *
 rfl
def zSa:List AV->Option Res:=zGX yI y8 (fun x c=>some (none,some (c<=1000000),.s (.int .i64 (zAI x c))))
theorem zKP:qM prog 37 zSa:=mkR (zAs fun x c r h=>by cases h;exact fb (by exact ⟨zMb,zFi,trivial⟩) func37 fun _ h=>z6d x c h) func37
end S1
namespace S1
def WOk (w:Wit):Prop:=w.1≠0/\zB0.inR w=true
theorem wrap64 {n:Int} (h: -10000<=n/\n<=10000):IntKind.i64.wrap n=n:=zWJ (InK.i64.2 (by unfold yP;omega))
theorem zK3 {k a b:Int} (h0:k≠0) (hk: -10000<=k/\k<=10000) (ha: -10000<=a/\a<=10000) (hb: -10000<=b/\b<=10000):WOk (k,a,b) :=
 ⟨h0,by simp only [ETy.inR,wrap64 hk,wrap64 ha,wrap64 hb,beq_self_eq_true,Bool.and_self]⟩
theorem zRf {f:Nat->Option Wit} {n:Nat} (h: ∀ i,i<n->∀ w,f i=some w->WOk w): ∀ w∈(List.range n).filterMap f,WOk w:=by
 intro w hw;obtain ⟨i,hi,e⟩:=List.mem_filterMap.1 hw;exact h i (zV.1 hi) w e
theorem zTV (s:Int×List P3): ∀ w∈jF s,WOk w:=by
 unfold jF;split
 ·intro w hw;rw [zF] at hw;subst hw;exact zK3 (by decide) (by decide) (by decide) (by decide)
 ·rename_i hb
  have hb: ¬ (s.1<0\/s.1>4096\/(s.2.length:Int)>8192):=by
   simpa only [zHN,zbA,zP] using hb
  refine zRf fun i hi w e=> ?_;unfold z6D at e;split at e
  ·cases e
  ·cases e;exact zK3 (by decide) (by decide) (by omega) (by decide)
theorem z4P {l:List P3} (hl:l.length<=8192): ∀ w∈dgL l l.length,WOk w :=
 zRf fun i hi w e=>by
  unfold dgG at e;split at e
  ·cases e;exact zK3 (by decide) (by decide) (by omega) (by decide)
  ·cases e
theorem zT6 {s:Int×List P3} (h:zMc s): ∀ w∈zH3 s,WOk w :=
 zRf fun i hi w e=>by
  have h1:=h.1;have h2:=h.2.1;unfold loG at e;split at e
  ·cases e
  ·cases e;exact zK3 (by decide) (by decide) (by omega) (by decide)
theorem z1Z {s:Int×List P3} (h:zMc s): ∀ w∈zXw s,WOk w :=
 zRf fun i hi w e=>by
  have h1:=h.1;have h2:=h.2.1;unfold piG at e;split at e
  ·cases e
  ·cases e;exact zK3 (by decide) (by decide) (by omega) (by decide)
def zYb (l:List Int):Prop:= ∀ a∈l,0<=a/\a<=8192
theorem z3a {kind:Int} {i:Nat} {av:List Int} (h0:kind≠0) (hk: -10000<=kind/\kind<=10000) (hi:i<=8192) (ha:zYb av) (s:PS) (hs: ∀ w∈s.2,WOk w): ∀ w∈(qA (prA kind i av) s av.length).2,WOk w :=
 qX (n:=av.length) (fun _ (t:PS)=> ∀ w∈t.2,WOk w) hs (fun j t hj ht=>by
  unfold prA;split
  ·exact ht
  ·intro w hw;rcases yD.1 hw with hw|hw
   ·exact ht w hw
   ·rw [zF] at hw;subst hw;have:=ha (av.getD j 0) (by rw [gdE,gE hj];exact yQ hj)
    exact zK3 h0 hk (by omega) (by omega)) av.length (zI _)
theorem zY8 (kp:P3->List P3) {kind:Int} (h0:kind≠0) (hk: -10000<=kind/\kind<=10000) {l:List P3} (hl:l.length<=8192): ∀ w∈(prS kp kind l l.length).2.2,WOk w :=
 (qX (n:=l.length) (fun _ (t:zJQ×PS)=>(∀ k,zYb (zAL t.1 k))/\∀ w∈t.2.2,WOk w) ⟨fun k a h=>(by cases h),fun w h=>(by cases h)⟩ (fun i t hi ht=>by
   unfold prI;refine qX (n:=(kp (l.getD i (0,0,0))).length) (fun _ (t:zJQ×PS)=>(∀ k,zYb (zAL t.1 k))/\∀ w∈t.2.2,WOk w) ht (fun m t hm ht=> ?_) _ (zI _);refine ⟨fun k a ha=> ?_,z3a h0 hk (by omega) (ht.1 _) _ ht.2⟩;have ha:a∈zAL (zAB .arr3 t.1 ((kp (l.getD i (0,0,0))).getD m (0,0,0)) (zAL t.1 ((kp (l.getD i (0,0,0))).getD m (0,0,0))++[(i:Int)])) k:=ha;rw [zDq] at ha;split at ha
   ·rcases yD.1 ha with ha|ha
    ·exact ht.1 _ a ha
    ·rw [zF] at ha;omega
   ·exact ht.1 _ a ha) l.length (zI _)).2
theorem zDP {l:List Wit} (h: ∀ w∈l,WOk w): ∀ w∈zGb zB0 cfW l,WOk w:=fun w hw=>h w (zNm z86 l (fun x hx=>(h x hx).2) w hw)
theorem zZT (s:Int×List P3): ∀ w∈allR s,WOk w:=by
 obtain ⟨n,l⟩:=s;unfold allR zDI;split
 ·exact zDP (zTV _)
 ·rename_i h1;have hf:=zF5 h1;have hl:l.length<=8192:=hf.2.2.1;unfold zDI;split
  ·exact zDP (z4P hl)
  ·unfold zDI;split
   ·exact zDP (zY8 _ (by decide) (by decide) hl)
   ·unfold zDI;split
    ·exact zDP (zY8 _ (by decide) (by decide) hl)
    ·unfold zDI;split
     ·exact zDP (zT6 hf)
     ·unfold zDI;split
      ·exact zDP (z1Z hf)
      ·intro w hw;cases hw
theorem zM5 {s:Int×List P3} (h:(zJr s).1=0):allR s=[]:=by
 unfold zJr at h;have hw:=zZT s;cases e:allR s with
 | nil=>rfl
 | cons w r =>
   rw [e] at h hw;exact absurd h (hw w (zY ..)).1
theorem zQj {s:Int×List P3} (h:(zJr s).1=0):zJr s=(0,0,0):=by unfold zJr;rw [zM5 h];rfl
theorem zEs: ∀ {ls:List (List Wit)},zDI ls=[]->∀ l∈ls,l=[]
 | [],_,l,hl=>by cases hl
 | a ::r,h,l,hl=>by
   unfold zDI at h;split at h
   ·rename_i ha;have:=zII a;rw [h] at this;simp at this;omega
   ·rename_i ha;rcases zT.1 hl with e|hl
    ·subst e;exact zLV ha
    ·exact zEs h l hl
structure z9i (s:Int×List P3):Prop where
 fit:zMc s
 deg:dgL s.2 s.2.length=[]
 twi:(prS qQ 3 s.2 s.2.length).2.2=[]
theorem zX8 {s:Int×List P3} (h:(zJr s).1=0):z9i s:=by
 have h:=zEs (zM5 h);obtain ⟨n,l⟩:=s;refine ⟨zF5 (by rw [h (jF (n,l)) (by simp)];simp),h _ (by simp),h _ (by simp)⟩
end S1
namespace S1
def z9s (x:Int×List P3) (s:List ((Int×Int)×Int)×List Int) (i:Nat):List ((Int×Int)×Int)×List Int :=
 (zAB .arr2 s.1 (jR (x,[],[]) (3*x.2.length - 1 - i)) (3*x.2.length - 1 - i),s.2.set (yS (x,[],[]) (3*x.2.length - 1 - i)).toNat (3*x.2.length - 1 - i))
def zHA (x:Int×List P3) (i:Nat):List ((Int×Int)×Int)×List Int:=qA (z9s x) ([],List.replicate x.1.toNat 0) i
def zAa (x:Int×List P3):yI.T:=(x,(zHA x (3*x.2.length)).1,(zHA x (3*x.2.length)).2)
def z2x (n:Int) (l:List P3):Spec Nat where
 inv x:=x<=3*l.length
 live x:=[(6,.s (.int .i64 (3*l.length - 1 - x)))]
 keep:=[3,5]
 heap x:=[(3,.map .arr2 (.int .i64) (zHA (n,l) x).1),(4,.row (.int .i64) 3 (zHA (n,l) x).2)]
 keepH:=[1,5]
 mu x:=3*l.length - x
theorem z9X {n:Int} {t:P3} (h:zCm n t=true) (k:Int):0<=p3 t k/\p3 t k<n:=by
 have:=zAH h;unfold p3;split
 ·omega
 ·split<;>omega
theorem zBA {x:yI.T} {c:Int} (hf:zMc x.1) (h:j6 x c=true):0<=yS x c/\yS x c<x.1.1:=by
 unfold yS;rw [if_pos h];rw [yH] at h;exact z9X (hf.2.2.2 _ (by omega)) _
theorem zGZ (x:Int×List P3): ∀ i,(zHA x i).2.length=x.1.toNat
 | 0=>zbc
 | i+1=>by
   show ((zHA x i).2.set _ _).length=_;rw [zbY];exact zGZ x i
def zHP (s:Int×List P3):Option yI.T:=if (zJr s).1=0 then some (zAa s) else none
def z8M:Option yI.T->AV
 | none=> .s (.val (.pointer none))
 | some x=>(ETy.pt yI).av (some x)
theorem zZq {I:Sig} {M:yR} {o:Option yI.T} {v:Value} (h:y6 I M (z8M o) v):y6 I M ((ETy.pt yI).av o) v:=by
 cases o with
 | some x=>exact h
 | none=>show [v]=[.pointer none];rw [show v= .pointer none from h.1]
theorem zCn.out {P:Program} {f:FuncId} {args:List AV} {p q:Option Prop} {u u':AV} (h:zCn P f args (p,q,u)) (hu: ∀ I v,y6 I [] u v->y6 I [] u' v):zCn P f args (p,q,u'):=fun I vals w hag hv=>by
 obtain ⟨h1,h2⟩:=h I vals w hag hv;refine ⟨h1,fun hq=> ?_⟩;exact (h2 hq).mono fun e w' ⟨v,σ',e1,e2,e3,e4,e5,e6⟩=>⟨v,σ',e1,e2,e3,e4,hu _ _ e5,e6⟩
theorem z6J (n:Int) (l:List P3):zAG ⟨tyL,[(93,zYt),(64,zIF),(77,zLK),(94,zC4)],[]⟩ f54 [qP.av (n,l)] (fun v=>v= .tup [z8M (zHP (n,l)),zB0.av (zJr (n,l))]):=by
 repeat' (conv=>whnf
          first|done|refine qy ?_|refine qG fun _=> ?_|refine qw (fun _=> ?_) (fun _=> ?_)|apply qt|refine qi (fun _=> ?_) (fun _=> ?_)|(refine zaB 6 rfl (z2x n l) (0) ?_ ?_ ?_ fun x hx=> ?_)|with_reducible refine zaA (z2x _ _) (x+1) ?_ ?_ ?_ ?_|refine qu ?_|refine qv ?_ ?_|exact zO)
 all_goals try first|refine qz ?_|apply qz5
 all_goals try simp only [qn0,z7,zX,ETy.dflt,Int.reduceToNat,Int.reduceAdd,Int.reduceSub,Int.reduceNeg,Nat.reduceAdd,zbU,z2x] at *
 ·rename_i h;unfold zHP;rw [if_neg h];exact y9.intro rfl
 all_goals
  have hc:=zX8 (s:=(n,l)) ‹_›;have hl:l.length<=8192:=hc.fit.2.2.1;have h0:0<=n:=hc.fit.1;have h1:n<=4096:=hc.fit.2.1
 ·exact qh hl
 ·exact qh ⟨h0,Int.le_refl _,by omega⟩
 ·exact qh (zbH _)
 ·omega
 ·exact qh (show 3*(l.length:Int) - 1 - x<=1000000 by omega)
 ·exact qh (show 3*(l.length:Int) - 1 - x<=1000000000 by omega)
 ·have:=zBA (x:=((n,l),[],[])) (c:=3*(l.length:Int) - 1 - x) hc.fit (yH.2 ⟨by omega,by show _<3*(l.length:Int);omega⟩);refine yJ.intro ⟨this.1,Int.lt_of_lt_of_le this.2 ?_⟩;show n<=_;omega
 ·exact qh (by omega)
 ·omega
 ·rfl
 ·exact qh (by omega)
 ·have e:x=3*l.length:=by omega
  subst e
  have e2:List.take n.toNat (List.drop 0 (zHA (n,l) (3*l.length)).snd)=(zHA (n,l) (3*l.length)).snd:=by
   rw [zb6];exact zbT (Nat.le_of_eq (zGZ (n,l) _))
  unfold zHP;rw [if_pos ‹_›,zQj ‹_›];refine y9.intro ?_;rw [e2];rfl
def z9G:List AV->Option Res:=zEz qP (fun s=>some (none,none,.tup [(ETy.pt yI).av (zHP s),zB0.av (zJr s)]))
theorem newRow:qM prog 54 z9G:=mkR (zA1 fun s r h=>by
 cases h;refine zCn.out (fb (fn:=[(93,zYt),(64,zIF),(77,zLK),(94,zC4)]) ⟨zZS,zMV,zMb,zEF,trivial⟩ func54 fun _ _=>z6J s.1 s.2) fun I v h=> ?_;obtain ⟨vs,e,r⟩:=h
 match vs,r with
 | [a,b],r=>exact ⟨_,e,zZq r.1,r.2.1,trivial⟩) func54
end S1
namespace S1
theorem php: ∀ (L n:Nat) (g:Nat->Nat),(∀ i,i<n->g i<L)->(∀ i j,i<j->j<n->g i≠g j)->n<=L
 | 0,n,g,h,_=>by
   rcases Nat.eq_zero_or_pos n with e|e
   ·omega
   ·have:=h 0 e;omega
 | L + 1,n,g,h,hd=>by
   by_cases hx: ∃ i,i<n/\g i=L
   ·obtain ⟨i,hi,e⟩:=hx
    have:=php L (n - 1) (fun j=>if j<i then g j else g (j+1)) (fun j hj=>by
     split
     ·rename_i hji;have h1:=h j (by omega);have:=hd j i hji hi;omega
     ·rename_i hji
      have h1:=h (j+1) (by omega);have:=hd i (j+1) (by omega) (by omega);omega) (fun a b hab hb=>by
     split<;>split
     ·exact hd _ _ hab (by omega)
     ·exact hd _ _ (by omega) (by omega)
     ·omega
     ·exact hd _ _ (by omega) (by omega))
    omega
   ·have:=php L n g (fun i hi=>by
     have h1:=h i hi;have:g i≠L:=fun e=>hx ⟨i,hi,e⟩
     omega) hd
    omega
def iter (f:Int->Int) (c:Int):Nat->Int
 | 0=>c
 | k+1=>f (iter f c k)
theorem zOi {f:Int->Int} (inj: ∀ a b,0<=f a->f a=f b->a=b) {c:Int} : ∀ {i j:Nat},(∀ m,1<=m->m<=i->0<=iter f c m)->iter f c i=iter f c (i+j)->iter f c j=c
 | 0,j,_,h=>by rw [zD] at h;exact h.symm
 | i +1,j,hp,h=>by
   have h:f (iter f c i)=f (iter f c (i+j)):=by
    rw [show i+1+j=(i+j)+1 by omega] at h;exact h
   exact zOi inj (fun m h1 h2=>hp m h1 (by omega)) (inj _ _ (hp (i+1) (by omega) (zI _)) h)
theorem pig {f:Int->Int} {L:Nat} (hr: ∀ c,0<=f c->f c<L) (inj: ∀ a b,0<=f a->f a=f b->a=b) {c:Int} {k:Nat} (h: ∀ j,1<=j->j<=k->0<=iter f c j/\iter f c j≠c):k<=L:=by
 refine php L k (fun i=>(iter f c (i+1)).toNat) (fun i hi=> ?_) (fun i j hij hj e=> ?_)
 ·have h1:=(h (i+1) (by omega) (by omega)).1;have:=hr (iter f c i) h1;show (iter f c (i+1)).toNat<L;have:iter f c (i+1)<L:=this;omega
 ·have h1:=(h (i+1) (by omega) (by omega)).1;have h2:=(h (j+1) (by omega) (by omega)).1;have e:iter f c (i+1)=iter f c (i+1+(j - i)):=by rw [show i+1+(j - i)=j+1 by omega];omega
  exact (h (j - i) (by omega) (by omega)).2 (zOi inj (fun m a b=>(h m a (by omega)).1) e)
theorem z2s {c b:Int} {L:Nat} (h:0<=c/\c<3*(L:Int)):0<=trn c b/\trn c b<3*(L:Int):=by unfold trn;omega
theorem zMa {a b:Int} (h:trn a 1=trn b 1):a=b:=by unfold trn at h;omega
theorem zRC {a b:Int} (h:trn a 2=trn b 2):a=b:=by unfold trn at h;omega
structure Good (x:yI.T):Prop where
 fit:zMc x.1
 map: ∀ e c,jS .arr2 x.2.1 e=some c->j6 x c=true/\jR x c=e
 uniq: ∀ p q,j6 x p=true->j6 x q=true->jR x p=jR x q->p=q
 ends: ∀ c,j6 x c=true->(jR x c).1≠(jR x c).2
 first: ∀ v:Nat,x.2.2.getD v 0<=30000
 cor: ∀ c,j6 x c=true->j6 x (yY x (yS x c))=true
theorem zAF {x:yI.T} {c:Int} (h:j6 x c=true):j6 x (qY x c)=true/\j6 x (qV x c)=true:=by
 unfold qY qV;rw [if_pos h,if_pos h];rw [yH] at h;exact ⟨(yH.2 (z2s h)),(yH.2 (z2s h))⟩
theorem zPM {x:yI.T} :j6 x (-1)=false:=zRW (by omega)
theorem zZe {x:yI.T} {c:Int} (h:j6 x c=false):jR x c=(-1,-1):=by
 unfold jR qY qV;rw [if_neg (by rw [h];simp),if_neg (by rw [h];simp)];unfold yS;rw [if_neg (by rw [zPM];simp)]
theorem Good.opp {x:yI.T} (g:Good x) {d:Int} (h:0<=zAI x d):j6 x d=true/\j6 x (zAI x d)=true/\jR x (zAI x d)=((jR x d).2,(jR x d).1):=by
 unfold zAI qJ at *;cases e:jS .arr2 x.2.1 ((jR x d).2,(jR x d).1) with
 | none=>rw [e] at h;cases h
 | some o =>
   obtain ⟨h1,h2⟩:=g.map _ _ e;refine ⟨?_,h1,h2⟩;cases hd:j6 x d with
   | true=>rfl
   | false =>
     rw [zZe hd] at h2;have:=(zBA g.fit (zAF h1).1).1;have h3:yS x (qY x o)= -1:=congrArg Prod.fst h2;omega
def yK (x:yI.T) (c:Int):Int:=if zAI x (qV x c)<0 then -1 else qV x (zAI x (qV x c))
def yO (x:yI.T) (c:Int):Int:=if zAI x (qY x c)<0 then -1 else qY x (zAI x (qY x c))
theorem zBP {x:yI.T} {c:Int} (h:j6 x c=true):qV x c=trn c 2:=by unfold qV;rw [if_pos h]
theorem zAg {x:yI.T} {c:Int} (h:j6 x c=true):qY x c=trn c 1:=by unfold qY;rw [if_pos h]
theorem zPS {x:yI.T} {c:Int} (h:j6 x (qV x c)=true):j6 x c=true:=by
 cases e:j6 x c with
 | true=>rfl
 | false=>unfold qV at h;rw [if_neg (by rw [e];simp),zPM] at h;cases h
theorem zQT {x:yI.T} {c:Int} (h:j6 x (qY x c)=true):j6 x c=true:=by
 cases e:j6 x c with
 | true=>rfl
 | false=>unfold qY at h;rw [if_neg (by rw [e];simp),zPM] at h;cases h
theorem Good.opp_inj {x:yI.T} (g:Good x) {a b:Int} (h:0<=zAI x a) (e:zAI x a=zAI x b):a=b:=by
 obtain ⟨h1,h2,h3⟩:=g.opp h;obtain ⟨k1,k2,k3⟩:=g.opp (d:=b) (by omega);rw [e,k3] at h3;refine g.uniq _ _ h1 k1 (Prod.ext ?_ ?_)
 ·exact (congrArg Prod.snd h3).symm
 ·exact (congrArg Prod.fst h3).symm
theorem Good.before_has {x:yI.T} (g:Good x) {c:Int} (h:0<=yK x c):j6 x c=true/\j6 x (yK x c)=true/\0<=zAI x (qV x c):=by
 unfold yK at *;split at h
 ·omega
 ·rename_i ho;obtain ⟨h1,h2,h3⟩:=g.opp (d:=qV x c) (by omega);rw [if_neg ho];exact ⟨zPS h1,(zAF h2).2,by omega⟩
theorem Good.after_has {x:yI.T} (g:Good x) {c:Int} (h:0<=yO x c):j6 x c=true/\j6 x (yO x c)=true/\0<=zAI x (qY x c):=by
 unfold yO at *;split at h
 ·omega
 ·rename_i ho;obtain ⟨h1,h2,h3⟩:=g.opp (d:=qY x c) (by omega);rw [if_neg ho];exact ⟨zQT h1,(zAF h2).1,by omega⟩
theorem Good.before_inj {x:yI.T} (g:Good x) (a b:Int) (h:0<=yK x a) (e:yK x a=yK x b):a=b:=by
 obtain ⟨h1,h2,h3⟩:=g.before_has h;obtain ⟨k1,k2,k3⟩:=g.before_has (c:=b) (by omega);obtain ⟨_,o1,_⟩:=g.opp h3;obtain ⟨_,o2,_⟩:=g.opp k3;unfold yK at e;rw [if_neg (by omega),if_neg (by omega),zBP o1,zBP o2] at e;have:=g.opp_inj h3 (zRC e);rw [zBP h1,zBP k1] at this;exact zRC this
theorem Good.after_inj {x:yI.T} (g:Good x) (a b:Int) (h:0<=yO x a) (e:yO x a=yO x b):a=b:=by
 obtain ⟨h1,h2,h3⟩:=g.after_has h;obtain ⟨k1,k2,k3⟩:=g.after_has (c:=b) (by omega);obtain ⟨_,o1,_⟩:=g.opp h3;obtain ⟨_,o2,_⟩:=g.opp k3;unfold yO at e;rw [if_neg (by omega),if_neg (by omega),zAg o1,zAg o2] at e;have:=g.opp_inj h3 (zMa e);rw [zAg h1,zAg k1] at this;exact zMa this
end S1
namespace S1
def zTZ (l:List P3) (q:Nat):P3:=(qQ (l.getD (q / 3) (0,0,0))).getD (q % 3) (0,0,0)
theorem zV2 {kind:Int} {i:Nat} {av:List Int} {s:PS} {j:Nat} (h:(prA kind i av s j).2=[]):prA kind i av s j=s/\(jS .arr2 s.1 (av.getD j 0,(i:Int))).getD false=true:=by
 unfold prA at *;cases e:(jS .arr2 s.1 (av.getD j 0,(i:Int))).getD false with
 | true=>exact ⟨rfl,rfl⟩
 | false =>
   rw [e] at h;exact absurd h (by simp)
theorem zIH {kind:Int} {i:Nat} {av:List Int} {s:PS} : ∀ {n:Nat},(qA (prA kind i av) s n).2=[]->qA (prA kind i av) s n=s/\∀ j,j<n->(jS .arr2 s.1 (av.getD j 0,(i:Int))).getD false=true
 | 0,_=>⟨rfl,fun j h=>by omega⟩
 | n+1,h=>by
   obtain ⟨h1,h2⟩:=zV2 (s:=qA (prA kind i av) s n) h;have h:(prA kind i av (qA (prA kind i av) s n) n).2=[]:=h;rw [h1] at h;obtain ⟨h3,h4⟩:=zIH h;refine ⟨h1.trans h3,fun j hj=> ?_⟩
   by_cases e:j=n
   ·subst e;rw [h3] at h2;exact h2
   ·exact h4 j (by omega)
structure Uq (l:List P3) (n:Nat) (s:zJQ×PS):Prop where
 seen:s.2.1=[]
 dif: ∀ p q,p<q->q<n->zTZ l p≠zTZ l q
 had: ∀ p,p<n->zAL s.1 (zTZ l p)≠[]
theorem zXh {l:List P3} {i m:Nat} (hm:m<3) {s:zJQ×PS} (h:s.2.2=[]->Uq l (3*i+m) s)
 (h2:(prK 3 i (qQ (l.getD i (0,0,0))) s m).2.2=[]):s.2.2=[]/\Uq l (3*i+m+1) (prK 3 i (qQ (l.getD i (0,0,0))) s m):=by
 have hk:zTZ l (3*i+m)=(qQ (l.getD i (0,0,0))).getD m (0,0,0):=by
  unfold zTZ;rw [show (3*i+m) / 3=i by omega,show (3*i+m) % 3=m by omega]
 have h3:=zIH h2;have h0:s.2.2=[]:=by rw [<- h3.1];exact h2
 have u:=h h0
 have he:zAL s.1 (zTZ l (3*i+m))=[]:=by
  rw [hk];cases e:zAL s.1 ((qQ (l.getD i (0,0,0))).getD m (0,0,0)) with
  | nil=>rfl
  | cons a r =>
    have:=h3.2 0 (by rw [e];simp);rw [u.seen] at this;cases this
 refine ⟨h0,?_,fun p q hpq hq e=> ?_,fun p hp=> ?_⟩
 ·exact (congrArg Prod.fst h3.1).trans u.seen
 ·by_cases hn:q=3*i+m
  ·subst hn;exact u.had p hpq (by rw [e];exact he)
  ·exact u.dif p q hpq (by omega) e
 ·show zAL (zAB .arr3 s.1 ((qQ (l.getD i (0,0,0))).getD m (0,0,0)) (zAL s.1 ((qQ (l.getD i (0,0,0))).getD m (0,0,0))++[(i:Int)])) (zTZ l p)≠[];rw [zDq];split
  ·simp
  ·rename_i hne
   by_cases hn:p=3*i+m
   ·subst hn;exact absurd hk.symm hne
   ·exact u.had p (by omega)
theorem z2L (l:List P3): ∀ i,(prS qQ 3 l i).2.2=[]->Uq l (3*i) (prS qQ 3 l i)
 | 0,_=>⟨rfl,fun p q _ h=>by omega,fun p h=>by omega⟩
 | i+1,h=>by
   have h:(qA (prK 3 i (qQ (l.getD i (0,0,0)))) (prS qQ 3 l i) 3).2.2=[]:=h;have h0:=z2L l i;have s1:=fun h=>(zXh (m:=0) (by omega) (s:=prS qQ 3 l i) h0 h).2;have s2:=fun h=>(zXh (m:=1) (by omega) (s:=qA (prK 3 i (qQ (l.getD i (0,0,0)))) (prS qQ 3 l i) 1) s1 h).2;exact (zXh (m:=2) (by omega) (s:=qA (prK 3 i (qQ (l.getD i (0,0,0)))) (prS qQ 3 l i) 2) s2 h).2
theorem zKW (t:P3) {k:Nat} (h:k<3):(qQ t).getD k (0,0,0)=(p3 t k,p3 t ((k+1) % 3:Nat),0):=by
 have:k=0\/k=1\/k=2:=by omega
 rcases this with e|e|e<;>subst e<;>rfl
theorem zJP {x:yI.T} {c:Int} (h:j6 x c=true):zTZ x.1.2 (trn c 1).toNat=((jR x c).1,(jR x c).2,0):=by
 have hc:=yH.1 h;have h1:=yH.1 (zAF h).1;have h2:=yH.1 (zAF h).2;unfold zTZ;rw [zKW _ (by omega)];unfold jR;rw [zDY h1.1 h1.2,zDY h2.1 h2.2];rw [zAg h,zBP h];have e0:0<=trn c 1:=by unfold trn;omega
 have e1:(trn c 1).toNat / 3=(c / 3).toNat:=by unfold trn;omega
 have e2:(trn c 1 / 3).toNat=(c / 3).toNat:=by unfold trn;omega
 have e3:(trn c 2 / 3).toNat=(c / 3).toNat:=by unfold trn;omega
 have e4:(((trn c 1).toNat % 3:Nat):Int)=trn c 1 % 3:=by omega
 have e5:((((trn c 1).toNat % 3+1) % 3:Nat):Int)=trn c 2 % 3:=by unfold trn;omega
 rw [e1,e2,e3,e4,e5]
theorem z2v {l:List P3} (h:dgL l l.length=[]) {i:Nat} (hi:i<l.length): ¬ ((l.getD i (0,0,0)).1=(l.getD i (0,0,0)).2.1\/(l.getD i (0,0,0)).2.1=(l.getD i (0,0,0)).2.2\/(l.getD i (0,0,0)).2.2=(l.getD i (0,0,0)).1):=by
 have:=zbO.1 h i (zV.2 hi);unfold dgG at this;split at this
 ·cases this
 ·rename_i hd;exact fun e=>hd (zWp e)
theorem z9b {t:P3} (h: ¬ (t.1=t.2.1\/t.2.1=t.2.2\/t.2.2=t.1)) {k:Nat} (hk:k<3):p3 t k≠p3 t ((k+1) % 3:Nat):=by
 have:k=0\/k=1\/k=2:=by omega
 rcases this with e|e|e<;>subst e<;>intro e<;>apply h
 ·exact .inl e
 ·exact .inr (.inl e)
 ·exact .inr (.inr e)
theorem zRH (x:Int×List P3): ∀ i,i<=3*x.2.length->∀ e c,jS .arr2 (zHA x i).1 e=some c->0<=c/\c<3*(x.2.length:Int)/\jR (x,[],[]) c=e
 | 0,_,e,c,h=>by cases h
 | i +1,hi,e,c,h=>by
   have h:jS .arr2 (zAB .arr2 (zHA x i).1 (jR (x,[],[]) (3*x.2.length - 1 - i)) (3*x.2.length - 1 - i)) e=some c:=h
   by_cases he:jR (x,[],[]) (3*x.2.length - 1 - i)=e
   ·rw [he,zAT] at h;cases h;exact ⟨by omega,by omega,he⟩
   ·rw [zA4 _ he] at h;exact zRH x i (by omega) e c h
theorem zKE (x:Int×List P3) (hl:x.2.length<=8192): ∀ i,i<=3*x.2.length->∀ v,(zHA x i).2.getD v 0<=30000
 | 0,_,v=>by
   show (List.replicate _ _).getD v 0<=_;rw [gdE,zbI];split<;>decide
 | i +1,hi,v=>by
   show ((zHA x i).2.set _ _).getD v 0<=_;rw [gdE,zbQ];split
   ·split
    ·show (3*(x.2.length:Int) - 1 - i)<=30000;omega
    ·decide
   ·rw [<- gdE];exact zKE x hl i (by omega) v
theorem zW0 (x:Int×List P3) (hl:0<x.2.length): ∀ i,i<=3*x.2.length->∀ v,0<=(zHA x i).2.getD v 0/\(zHA x i).2.getD v 0<3*(x.2.length:Int)
 | 0,_,v=>by
   show 0<=(List.replicate _ _).getD v 0/\(List.replicate _ _).getD v 0<_
   have: ∀ n,(List.replicate n (0:Int)).getD v 0=0:=fun n=>by
    rw [gdE,zbI];split<;>rfl
   rw [this];omega
 | i +1,hi,v=>by
   show 0<=((zHA x i).2.set _ _).getD v 0/\((zHA x i).2.set _ _).getD v 0<_;rw [gdE,zbQ];split
   ·split
    ·show 0<=(3*(x.2.length:Int) - 1 - i)/\(3*(x.2.length:Int) - 1 - i)<3*(x.2.length:Int);omega
    ·show (0:Int)<=0/\(0:Int)<3*(x.2.length:Int);omega
   ·rw [<- gdE];exact zW0 x hl i (by omega) v
theorem zZN {s:Int×List P3} (h:z9i s):Good (zAa s) where
 fit:=h.fit
 map e c he:=by
  obtain ⟨h1,h2,h3⟩:=zRH s _ (zI _) e c he;exact ⟨yH.2 ⟨h1,h2⟩,h3⟩
 uniq p q hp hq e:=by
  have hu:=(z2L s.2 _ h.twi).dif;have kp:=zJP hp;have kq:=zJP hq;rw [e,<- kq] at kp;have ip:=yH.1 (zAF hp).1;have iq:=yH.1 (zAF hq).1;rw [zAg hp] at ip;rw [zAg hq] at iq;have ip:0<=trn p 1/\trn p 1<3*(s.2.length:Int):=ip;have iq:0<=trn q 1/\trn q 1<3*(s.2.length:Int):=iq;have kp:zTZ s.2 (trn p 1).toNat=zTZ s.2 (trn q 1).toNat:=kp;refine zMa ?_;rcases Nat.lt_trichotomy (trn p 1).toNat (trn q 1).toNat with hlt|heq|hgt
  ·exact absurd kp (hu _ _ hlt (by omega))
  ·omega
  ·exact absurd kp.symm (hu _ _ hgt (by omega))
 ends c hc e:=by
  have k:=zJP hc;have i0:=yH.1 hc;have i1:=yH.1 (zAF hc).1;rw [zAg hc] at i1;have i1:0<=trn c 1/\trn c 1<3*(s.2.length:Int):=i1;unfold zTZ at k;rw [zKW _ (by omega)] at k;refine z9b (z2v h.deg (i:=(trn c 1).toNat / 3) (by omega)) (k:=(trn c 1).toNat % 3) (by omega) ?_;exact (congrArg Prod.fst k).trans (e.trans (congrArg (fun t:P3=>t.2.1) k).symm)
 cor c hc:=by
  have i0:=yH.1 hc;have i0:0<=c/\c<3*(s.2.length:Int):=i0;have hv:=zBA (x:=zAa s) h.fit hc;have hlen:(zAa s).2.2.length=s.1.toNat:=zGZ s _;have hv2:0<=yS (zAa s) c/\yS (zAa s) c<s.1:=hv;unfold yY;rw [if_pos (by rw [hlen];omega)];exact yH.2 (zW0 s (by omega) _ (zI _) _)
 first v:=zKE s h.fit.2.2.1 _ (zI _) v
end S1
namespace S1
theorem z2V {x:yI.T} (g:Good x) (c:Int):zAI x c<=30000:=by
 by_cases h:0<=zAI x c
 ·have:=yH.1 (g.opp h).2.1;have:=g.fit.2.2.1;omega
 ·omega
theorem zLz {x:yI.T} (g:Good x) (c:Int):qV x c<=30000:=by
 cases h:j6 x c with
 | false=>unfold qV;rw [if_neg (by rw [h];simp)];decide
 | true =>
   have:=yH.1 (zAF h).2;have:=g.fit.2.2.1;omega
theorem zMI {x:yI.T} (g:Good x) (c:Int):qY x c<=30000:=by
 cases h:j6 x c with
 | false=>unfold qY;rw [if_neg (by rw [h];simp)];decide
 | true =>
   have:=yH.1 (zAF h).1;have:=g.fit.2.2.1;omega
theorem zYp (x:yI.T) (c:Int) (h:Good x/\c<=30000):zAG ⟨tyL,[(122,zLy),(37,zSa)],[]⟩ Tryz.f128 [(ETy.pt yI).av (some x),y8.av c] (fun v=>v= .s (.int .i64 (yK x c))):=by
 repeat' (conv=>whnf
          first|done|refine qy ?_|refine qG fun _=> ?_|refine qw (fun _=> ?_) (fun _=> ?_)|apply qt|refine qi (fun _=> ?_) (fun _=> ?_)|refine qu ?_|refine qv ?_ ?_|exact zO)
 all_goals try first|refine qz ?_|apply qz5
 all_goals try simp only [qn0,z7,zX,ETy.dflt,Int.reduceToNat,Int.reduceAdd,Int.reduceSub,Int.reduceNeg,Nat.reduceAdd,yK] at *
 ·exact qh (Int.le_trans h.2 (by decide))
 ·exact qh (Int.le_trans (zLz h.1 _) (by decide))
 ·rw [if_pos (by assumption)]
 ·exact qh (Int.le_trans (z2V h.1 _) (by decide))
 ·rw [if_neg (by assumption)]
def zOx:List AV->Option Res:=zGX yI y8 (fun x c=>some (none,some (Good x/\c<=30000),.s (.int .i64 (yK x c))))
theorem zUw:qM prog 128 zOx:=mkR (zAs fun x c r h=>by cases h;exact fb (by exact ⟨zLU,zKP,trivial⟩) func128 fun _ h=>zYp x c h) func128
theorem z03 (x:yI.T) (c:Int) (h:Good x/\c<=30000):zAG ⟨tyL,[(121,zKt),(37,zSa)],[]⟩ f130 [(ETy.pt yI).av (some x),y8.av c] (fun v=>v= .s (.int .i64 (yO x c))):=by
 repeat' (conv=>whnf
          first|done|refine qy ?_|refine qG fun _=> ?_|refine qw (fun _=> ?_) (fun _=> ?_)|apply qt|refine qi (fun _=> ?_) (fun _=> ?_)|refine qu ?_|refine qv ?_ ?_|exact zO)
 all_goals try first|refine qz ?_|apply qz5
 all_goals try simp only [qn0,z7,zX,ETy.dflt,Int.reduceToNat,Int.reduceAdd,Int.reduceSub,Int.reduceNeg,Nat.reduceAdd,yO] at *
 ·exact qh (Int.le_trans h.2 (by decide))
 ·exact qh (Int.le_trans (zMI h.1 _) (by decide))
 ·rw [if_pos (by assumption)]
 ·exact qh (Int.le_trans (z2V h.1 _) (by decide))
 ·rw [if_neg (by assumption)]
def zGS:List AV->Option Res:=zGX yI y8 (fun x c=>some (none,some (Good x/\c<=30000),.s (.int .i64 (yO x c))))
theorem zHw:qM prog 130 zGS:=mkR (zAs fun x c r h=>by cases h;exact fb (by exact ⟨zLj,zKP,trivial⟩) func130 fun _ h=>z03 x c h) func130
def zBR (x:yI.T) (v:Int):Bool:=decide (0<=v)&&(decide (v<x.1.1)&&decide (0<=yY x v))
theorem z0z (x:yI.T) (v:Int):zAG ⟨tyL,[(85,zBn),(124,zDw)],[]⟩ f88 [(ETy.pt yI).av (some x),y8.av v] (fun r=>r= .s (.bool (zBR x v))):=by
 repeat' (conv=>whnf
          first|done|refine qy ?_|refine qG fun _=> ?_|refine qw (fun _=> ?_) (fun _=> ?_)|apply qt|refine qi (fun _=> ?_) (fun _=> ?_)|refine qu ?_|refine qv ?_ ?_|exact zO)
 all_goals try first|refine qz ?_|apply qz5
 all_goals try simp only [qn0,z7,zX,ETy.dflt,Int.reduceToNat,Int.reduceAdd,Int.reduceSub,Int.reduceNeg,Nat.reduceAdd,zBR] at *
 ·rename_i h1 h2;rw [decide_eq_true h1,decide_eq_true h2];rfl
 ·rename_i h1 h2;rw [decide_eq_false h2];simp
 ·rename_i h1;rw [decide_eq_false h1];rfl
theorem zUG {fn} (v:Int):zAG ⟨tyL,fn,[]⟩ f88 [(ETy.pt yI).av none,y8.av v] (fun r=>r= .s (.bool false)):=by
 repeat' (conv=>whnf
          first|done|refine qy ?_|refine qG fun _=> ?_|refine qw (fun _=> ?_) (fun _=> ?_)|apply qt|refine qi (fun _=> ?_) (fun _=> ?_)|refine qu ?_|refine qv ?_ ?_|exact zO)
 all_goals try first|refine qz ?_|apply qz5
 all_goals try simp only [qn0,z7,zX,ETy.dflt,Int.reduceToNat,Int.reduceAdd,Int.reduceSub,Int.reduceNeg,Nat.reduceAdd] at *
def onO {α:Type} (o:Option yI.T) (d:α) (f:yI.T->α):α:=match o with|some x=>f x|none=>d
def zIS:List AV->Option Res:=zCr (.pt yI) y8 (fun o v=>some (none,none,.s (.bool (onO o false fun x=>zBR x v))))
theorem zMG:qM prog 88 zIS:=mkR (jD fun o v r h=>by
 cases h;cases o with
 | none=>exact fb (fn:=[(85,zBn),(124,zDw)]) ⟨zD0,zGT,trivial⟩ func88 fun _ _=>zUG v
 | some x=>exact fb (fn:=[(85,zBn),(124,zDw)]) ⟨zD0,zGT,trivial⟩ func88 fun _ _=>z0z x v) func88
def zDL (x:yI.T) (c0:Int):Nat->Int->Int×Bool
 | 0,_=>(0,false)
 | n+1,c=>if yK x c<0 then (c,true) else if yK x c=c0 then (c0,false) else zDL x c0 n (yK x c)
def zAP (x:yI.T) (v:Int):Int×Bool:=zDL x (yY x v) 30000 (yY x v)
def zT3 (f:Int->Int) (c0:Int) (k:Nat):Prop:= ∀ j,1<=j->j<=k->0<=iter f c0 j/\iter f c0 j≠c0
theorem zT3.succ {f:Int->Int} {c0:Int} {k:Nat} (h:zT3 f c0 k) (h1: ¬ f (iter f c0 k)<0) (h2: ¬ f (iter f c0 k)=c0):zT3 f c0 (k+1):=fun j a b=>by
 by_cases e:j=k+1
 ·subst e;exact ⟨by show 0<=f (iter f c0 k);omega,h2⟩
 ·exact h j a (by omega)
theorem zKS {x:yI.T} (g:Good x) {c0:Int} {k:Nat} (h:zT3 (yK x) c0 k):k<=24576:=by
 have:=pig (L:=3*x.1.2.length) (fun c hc=>by have:=yH.1 (g.before_has hc).2.1;omega) g.before_inj h;have:=g.fit.2.2.1;omega
theorem zAz {x:yI.T} (g:Good x) {c0:Int} {k:Nat} (h:zT3 (yO x) c0 k):k<=24576:=by
 have:=pig (L:=3*x.1.2.length) (fun c hc=>by have:=yH.1 (g.after_has hc).2.1;omega) g.after_inj h;have:=g.fit.2.2.1;omega
theorem zEX {x:yI.T} (g:Good x) (v:Int):yY x v<=30000:=by
 unfold yY;split
 ·exact g.first _
 ·decide
theorem z1M {x:yI.T} (g:Good x) {c0:Int} (h0:c0<=30000): ∀ k,iter (yK x) c0 k<=30000
 | 0=>h0
 | k+1=>by
   show yK x (iter (yK x) c0 k)<=30000;unfold yK;split
   ·decide
   ·exact zLz g _
theorem zZP {x:yI.T} (g:Good x) {c0:Int} (h0:c0<=30000): ∀ k,iter (yO x) c0 k<=30000
 | 0=>h0
 | k+1=>by
   show yO x (iter (yO x) c0 k)<=30000;unfold yO;split
   ·decide
   ·exact zMI g _
def z49 (x:yI.T) (c0:Int):Spec Nat where
 inv k:=zT3 (yK x) c0 k/\zDL x c0 30000 c0=zDL x c0 (30000 - k) (iter (yK x) c0 k)
 live k:=[(7,.s (.int .i64 (iter (yK x) c0 k)))]
 keep:=[0,6]
 heap _:=[]
 keepH:=[]
 mu k:=30000 - k
theorem zF4 {x:yI.T} {c0 c:Int} {k:Nat} (h:k<=24576):zDL x c0 (30000 - k) c=if yK x c<0 then (c,true) else if yK x c=c0 then (c0,false) else zDL x c0 (30000 - (k+1)) (yK x c):=by
 rw [show 30000 - k=(30000 - (k+1))+1 by omega];rfl
theorem zZs (x:yI.T) (v:Int) (g:Good x):zAG ⟨tyL,[(124,zDw),(128,zOx)],[]⟩ f89 [(ETy.pt yI).av (some x),y8.av v] (fun r=>r= .tup [.s (.int .i64 (zAP x v).1),.s (.bool (zAP x v).2)]):=by
 repeat' (conv=>whnf
          first|done|refine qy ?_|refine qG fun _=> ?_|refine qw (fun _=> ?_) (fun _=> ?_)|apply qt|refine qi (fun _=> ?_) (fun _=> ?_)|(refine zaB 3 rfl (z49 x (yY x v)) (0) ?_ ?_ ?_ fun k hk=> ?_)|with_reducible refine zaA (z49 _ _) (k+1) ?_ ?_ ?_ ?_|refine qu ?_|refine qv ?_ ?_|exact zO)
 all_goals try first|refine qz ?_|apply qz5
 all_goals try simp only [qn0,z7,zX,ETy.dflt,Int.reduceToNat,Int.reduceAdd,Int.reduceSub,Int.reduceNeg,Nat.reduceAdd,z49] at *
 ·exact qh ⟨fun j a b=>by omega,rfl⟩
 all_goals have hk24:=zKS g hk.1
 ·exact qh ⟨g,z1M g (zEX g v) k⟩
 ·unfold zAP;rw [hk.2,zF4 hk24,if_pos (by assumption)];exact y9.intro rfl
 ·unfold zAP;rw [hk.2,zF4 hk24,if_neg (by assumption),if_pos (by assumption)];exact y9.intro rfl
 ·refine yJ.intro ⟨hk.1.succ (by assumption) (by assumption),?_⟩;rw [hk.2,zF4 hk24,if_neg (by assumption),if_neg (by assumption)];rfl
 ·exact qh (by omega)
def zIb:List AV->Option Res:=zGX yI y8 (fun x v=>some (none,some (Good x),.tup [.s (.int .i64 (zAP x v).1),.s (.bool (zAP x v).2)]))
theorem zLh:qM prog 89 zIb:=mkR (zAs fun x v r h=>by cases h;exact fb (by exact ⟨zGT,zUw,trivial⟩) func89 fun _ h=>zZs x v h) func89
def zAY (x:yI.T) (v:Int):Bool:=zBR x v&& !(zAP x v).2
theorem z0P (x:yI.T) (v:Int) (g:Good x):zAG ⟨tyL,[(88,zIS),(89,zIb)],[]⟩ Tryz.f46 [(ETy.pt yI).av (some x),y8.av v] (fun r=>r= .s (.bool (zAY x v))):=by
 repeat' (conv=>whnf
          first|done|refine qy ?_|refine qG fun _=> ?_|refine qw (fun _=> ?_) (fun _=> ?_)|apply qt|refine qi (fun _=> ?_) (fun _=> ?_)|refine qu ?_|refine qv ?_ ?_|exact zO)
 all_goals try first|refine qz ?_|apply qz5
 all_goals try simp only [qn0,z7,zX,ETy.dflt,Int.reduceToNat,Int.reduceAdd,Int.reduceSub,Int.reduceNeg,Nat.reduceAdd,zAY,zBR] at *
 all_goals (simp only [*,decide_true,decide_false,Bool.true_and,Bool.false_and,Bool.and_false])
def zNZ:List AV->Option Res:=zGX yI y8 (fun x v=>some (none,some (Good x),.s (.bool (zAY x v))))
theorem zQw:qM prog 46 zNZ:=mkR (zAs fun x v r h=>by cases h;exact fb (by exact ⟨zMG,zLh,trivial⟩) func46 fun _ h=>z0P x v h) func46
def zAQ (x:yI.T) (a b:Int):Bool:=decide (0<=qJ x (a,b))|| decide (0<=qJ x (b,a))
theorem z3i (x:yI.T) (a b:Int):zAG ⟨tyL,[(78,zEC)],[]⟩ f55 [(ETy.pt yI).av (some x),y8.av a,y8.av b] (fun r=>r= .s (.bool (zAQ x a b))):=by
 repeat' (conv=>whnf
          first|done|refine qy ?_|refine qG fun _=> ?_|refine qw (fun _=> ?_) (fun _=> ?_)|apply qt|refine qi (fun _=> ?_) (fun _=> ?_)|refine qu ?_|refine qv ?_ ?_|exact zO)
 all_goals try first|refine qz ?_|apply qz5
 all_goals try simp only [qn0,z7,zX,ETy.dflt,Int.reduceToNat,Int.reduceAdd,Int.reduceSub,Int.reduceNeg,Nat.reduceAdd,zAQ] at *
 ·rename_i h;rw [decide_eq_true h];rfl
 ·rename_i h;rw [decide_eq_false h];rfl
theorem zZp {fn} (a b:Int):zAG ⟨tyL,fn,[]⟩ f55 [(ETy.pt yI).av none,y8.av a,y8.av b] (fun r=>r= .s (.bool false)):=by
 repeat' (conv=>whnf
          first|done|refine qy ?_|refine qG fun _=> ?_|refine qw (fun _=> ?_) (fun _=> ?_)|apply qt|refine qi (fun _=> ?_) (fun _=> ?_)|refine qu ?_|refine qv ?_ ?_|exact zO)
 all_goals try first|refine qz ?_|apply qz5
 all_goals try simp only [qn0,z7,zX,ETy.dflt,Int.reduceToNat,Int.reduceAdd,Int.reduceSub,Int.reduceNeg,Nat.reduceAdd] at *
def zLo:List AV->Option Res:=zOw (.pt yI) y8 y8 (fun o a b=>some (none,none,.s (.bool (onO o false fun x=>zAQ x a b))))
theorem zLw:qM prog 55 zLo:=mkR (zDZ fun o a b r h=>by
 cases h;cases o with
 | none=>exact fb (fn:=[(78,zEC)]) ⟨zFi,trivial⟩ func55 fun _ _=>zZp a b
 | some x=>exact fb (fn:=[(78,zEC)]) ⟨zFi,trivial⟩ func55 fun _ _=>z3i x a b) func55
end S1
namespace Go.Vm
open Go.RowKit
def zHY:Obj->Bool
 | .cells _ _ _=>true
 | .map _ _=>true
 | _=>false
def Sig.add (I:Sig) (l:Nat) (o:Obj):Sig:=fun b=>if b=l then some o else I b
def Sig.del (I:Sig) (l:Nat):Sig:=fun b=>if b=l then none else I b
def Sig.leD (I τ:Sig):Prop:= ∀ b o,I b=some o->zHY o=true->τ b=some o
theorem Ole.nodata {o o':Obj} (h:Ole o o') (hd:zHY o=false):o'=o:=by
 rcases h with h|⟨c,c',T,fz,e,_⟩
 ·exact h.symm
 ·subst e;cases hd
section
variable {P:Program} {T:Tab} {B:Base} {w:World} {I τ:Sig} {M:yR} {st:St} {tmps:Array Value}
theorem Sig.del_leD {l:Nat} (h: ∀ o,I l=some o->zHY o=false):I.leD (I.del l):=fun b o e hd=>by
 unfold Sig.del;split
 ·rename_i hb;subst hb;rw [h o e] at hd;cases hd
 ·exact e
theorem zBu.leD (h:I.leD τ) {b o:Nat} {ds:List Value} :zBu I b o ds->zBu τ b o ds :=
 fun ⟨c,T,fz,e,r⟩=>⟨c,T,fz,h _ _ e rfl,r⟩
theorem jG.leD (hs:I.leD τ): ∀ {e:ETy} {x:e.T} {ds:List Value},jG I e x ds->jG τ e x ds
 | .int _,_,_,h=>h
 | .bool,_,_,h=>h
 | .arr2,_,_,h=>h
 | .arr3,_,_,h=>h
 | .pair _ _,_,_,h=>by obtain ⟨d1,d2,rfl,h1,h2⟩:=h;exact ⟨d1,d2,rfl,h1.leD hs,h2.leD hs⟩
 | .sl _,_,_,h=>by
   obtain ⟨a,cap,rfl,hl,hc,h⟩:=h;refine ⟨a,cap,rfl,hl,hc,fun hne=> ?_⟩;obtain ⟨b,o,ha,hr⟩:=h hne;exact ⟨b,o,ha,fun i x hx=>let ⟨d,h1,h2⟩:=hr i x hx;⟨d,h1.leD hs,h2.leD hs⟩⟩
 | .mp _ _,_,_,h=>by
   obtain ⟨r,rfl,hl,hn,h⟩:=h;refine ⟨r,rfl,hl,hn,fun b hb=> ?_⟩;obtain ⟨es,clock,h1,h2,h3⟩:=h b hb;exact ⟨es,clock,hs _ _ h1 rfl,h2,fun i x hx=>let ⟨en,dk,dv,e1,e2,e3,e4,e5⟩:=h3 i x hx;⟨en,dk,dv,e1,e2.leD hs,e3,e4.leD hs,e5⟩⟩
 | .pt _,none,_,h=>h
 | .pt _,some _,_,h=>by obtain ⟨b,off,d,rfl,h1,h2⟩:=h;exact ⟨b,off,d,rfl,h1.leD hs,h2.leD hs⟩
 | .unit,_,_,h=>h
 | .fnc,_,_,h=>h
theorem y5.leD (hs:I.leD τ) {a:AS} {v:Value} (h:y5 I M a v):y5 τ M a v:=by
 cases a with
 | int=>exact h
 | bool=>exact h
 | val=>exact h
 | sl=>exact jG.leD hs h
 | mp=>exact jG.leD hs h
 | pt=>exact jG.leD hs h
 | ip=>obtain ⟨b,o,d,e,h1,h2⟩:=h;exact ⟨b,o,d,e,h1.leD hs,h2.leD hs⟩
 | ipi=>obtain ⟨b,o,d,e,h1,h2,h3⟩:=h;exact ⟨b,o,d,e,h1.leD hs,h2.leD hs,h3⟩
 | own=>exact h
 | ptr=>exact h
 | pti=>exact h
 | omp=>exact h
 | arr=>exact h
 | clo f ps=>obtain ⟨vs,e,r⟩:=h;exact ⟨vs,e,r.mono fun _ _=>jG.leD hs⟩
 | nq=>exact h
 | emp=>exact h
 | junk=>exact h
theorem y6.leD (hs:I.leD τ) {a:AV} {v:Value} (h:y6 I M a v):y6 τ M a v:=h.map fun _ _=>y5.leD hs
theorem zA0.leD {w':World} {base sz:Nat} {vs:List Value} (hx:I.leD τ) (hw: ∀ b o,I b=some o->zHY o=true->w'.heap[b]? =w.heap[b]?) (h:zA0 I w base sz vs):zA0 τ w' base sz vs :=
 ⟨fun v hv=>by
   rcases h.1 v hv with e|⟨b,o,n,cap,c,c',T,h1,h2,h3,h4⟩
   ·exact .inl e
   ·exact .inr ⟨b,o,n,cap,c,c',T,h1,hx _ _ h2 rfl,by rw [hw _ _ h2 rfl];exact h3,h4⟩,h.2⟩
theorem zAf.leD {w':World} {id:Nat} {ob:Ob} (hs:I.leD τ) (hk: ∀ p,M[id]? =some (some p)->w'.heap[p.b]? =w.heap[p.b]?) (hkn: ∀ b o,I b=some o->zHY o=true->w'.heap[b]? =w.heap[b]?)
 (h:zAf I M w id ob):zAf τ M w' id ob:=by
 cases ob with
 | row e T xs =>
   obtain ⟨h0,h⟩:=h;refine ⟨h0,?_⟩;cases hβ:M[id]? with
   | none=>simp [hβ] at h
   | some x =>
     cases x with
     | none=>simpa [hβ] using h
     | some p =>
       simp only [hβ] at h ⊢;obtain ⟨h1,h2,h3,c,h4,h5,h6⟩:=h;exact ⟨h1,h2,h3,c,by rw [hk p hβ];exact h4,h5,fun i x hx=>let ⟨d,e1,e2⟩:=h6 i x hx;⟨d,e1.leD hs,e2⟩⟩
 | flat T cs =>
   obtain ⟨p,h1,h2,h3,h4,h5,c,h6,h7⟩:=h;exact ⟨p,h1,h2,h3,h4,h5,c,by rw [hk p h1];exact h6,h7.mono fun _ _=>y5.leD hs⟩
 | map k v m =>
   obtain ⟨h0,p,es,clock,h1,h2,h3,h4⟩:=h;exact ⟨h0,p,es,clock,h1,by rw [hk p h1];exact h2,h3,fun i x hx=>let ⟨en,dk,dv,e1,e2,e3,e4,e5⟩:=h4 i x hx;⟨en,dk,dv,e1,e2.leD hs,e3,e4.leD hs,e5⟩⟩
 | gmap k e m =>
   obtain ⟨h0,p,es,clock,h1,h2,h3,h4,h5,h6⟩:=h;exact ⟨h0,p,es,clock,h1,by rw [hk p h1];exact h2,h3,fun i x hx=>let ⟨en,dk,dv,e1,e2,e3,e4,e5⟩:=h4 i x hx;⟨en,dk,dv,e1,e2.leD hs,e3,e4.leD hs,e5⟩,h5.leD hs hkn,h6⟩
 | grow e T xss =>
   obtain ⟨h0,p,h1,h2,h3,h4,c,h5,h6,h7,h8⟩:=h;exact ⟨h0,p,h1,h2,h3,h4,c,by rw [hk p h1];exact h5,h6,fun i x hx=>let ⟨v,e1,e2⟩:=h7 i x hx;⟨v,e1.leD hs,e2⟩,h8.leD hs hkn⟩
 | fr X l=>exact ⟨h.1,fun t=>(h.2 t).leD hs⟩
def Base.lock (B:Base) (l:Nat) (o:Obj):Base:= {B with sg:=B.sg.add l o}
theorem GG.lock (h:GG B I M st tmps w) {l:Nat} {o:Obj} (hB:B.w.heap.size<=l) (hl:w.heap[l]? =some o) (hn:I l=none)
 (hp: ∀ id ob p,hget st.hp id=some ob->M[id]? =some (some p)->p.b≠l):GG (B.lock l o) (I.add l o) M st tmps w:=by
 have hx: ∀ b u,I b=some u->(I.add l o) b=some u:=fun b u e=>by
  unfold Sig.add;split
  ·rename_i hb;subst hb;rw [hn] at e;cases e
  ·exact e
 have hle:I.le (I.add l o):=fun b u e=>⟨u,hx b u e,.refl⟩;refine ⟨⟨fun b u e=> ?_,fun id ob hi=>(h.mem.ob _ _ hi).sig hle hx⟩,fun t=>(h.env t).mono hle,h.len,fun id ob p hi hp'=> ?_,h.bel,⟨fun b u e=> ?_,fun b hb=> ?_⟩⟩
 ·unfold Sig.add at e;split at e
  ·rename_i hb;subst hb;cases e;exact ⟨_,hl,.refl⟩
  ·exact h.mem.ag _ _ e
 ·obtain ⟨s1,s2,s3⟩:=h.sep _ _ _ hi hp';refine ⟨?_,s2,s3⟩;unfold Sig.add;rw [if_neg (hp _ _ _ hi hp')];exact s1
 ·have e:(B.sg.add l o) b=some u:=e;unfold Sig.add at e ⊢;split at e
  ·rename_i hb;rw [if_pos hb];exact ⟨u,e,.refl⟩
  ·rename_i hb;rw [if_neg hb];exact h.grew.1 _ _ e
 ·have hb:b<B.w.heap.size:=hb;show (I.add l o) b=(B.sg.add l o) b;unfold Sig.add;rw [if_neg (by omega),if_neg (by omega)];exact h.grew.2 b hb
theorem GG.locked {l:Nat} {o:Obj} (h:GG (B.lock l o) I M st tmps w) (hd:zHY o=false):I l=some o/\w.heap[l]? =some o/\∀ id ob p,hget st.hp id=some ob->M[id]? =some (some p)->p.b≠l:=by
 obtain ⟨o',e1,e2⟩:=h.grew.1 l o (by show (B.sg.add l o) l=_;unfold Sig.add;rw [if_pos rfl]);have:=e2.nodata hd;subst this;obtain ⟨o2,e3,e4⟩:=h.mem.ag _ _ e1;have:=e4.nodata hd;subst this;refine ⟨e1,e3,fun id ob p hi hp e=> ?_⟩;have:=(h.sep _ _ _ hi hp).1;rw [e,e1] at this;cases this
theorem GG.unlock {l:Nat} {o:Obj} (h:GG (B.lock l o) I M st tmps w) (hd:zHY o=false) (hB:B.w.heap.size<=l) (hn:B.sg l=none) (o':Obj) :
 GG B (I.del l) M st tmps (w.putObj l o')/\(I.del l) l=none/\(w.putObj l o').heap[l]? =some o'/\∀ id ob p,hget st.hp id=some ob->M[id]? =some (some p)->p.b≠l:=by
 obtain ⟨h1,h2,h3⟩:=h.locked hd;have hs:I.leD (I.del l):=Sig.del_leD fun o2 e=>by rw [h1] at e;cases e;exact hd
 have hlt:=(zW.1 h2).1;have hoth: ∀ b,b≠l->(w.putObj l o').heap[b]? =w.heap[b]? :=fun b hb=>World.putObj_heap_other (fun e=>hb e);have hdl:(I.del l) l=none:=by unfold Sig.del;rw [if_pos rfl]
 refine ⟨⟨⟨fun b u e=> ?_,fun id ob hi=>(h.mem.ob _ _ hi).leD hs (fun p hp=>hoth _ (h3 _ _ _ hi hp)) fun b u e hdu=>hoth _ fun hb=> ?_⟩,fun t=>(h.env t).leD hs,h.len,fun id ob p hi hp'=> ?_,?_,⟨fun b u e=> ?_,fun b hb=> ?_⟩⟩,hdl,World.putObj_heap_same hlt,h3⟩
 ·unfold Sig.del at e;split at e
  ·cases e
  ·rename_i hb;rw [hoth b hb];exact h.mem.ag _ _ e
 ·subst hb;rw [h1] at e;cases e;rw [hd] at hdu;cases hdu
 ·obtain ⟨s1,s2,s3⟩:=h.sep _ _ _ hi hp';refine ⟨?_,s2,s3⟩;unfold Sig.del;rw [if_neg (h3 _ _ _ hi hp')];exact s1
 ·exact ⟨h.bel.toBelow.grown (grownBy_putObj' w l o') (Nat.le_of_lt (Nat.lt_of_le_of_lt hB hlt)) (fun k e=>by cases e;exact hB),h.bel.drawn⟩
 ·have hb:b≠l:=fun hb=>by subst hb;rw [hn] at e;cases e
  unfold Sig.del;rw [if_neg hb];refine h.grew.1 b u ?_;show (B.sg.add l o) b=_;unfold Sig.add;rw [if_neg hb];exact e
 ·have hne:b≠l:=by omega
  unfold Sig.del;rw [if_neg hne];have:=h.grew.2 b hb;rw [this];show (B.sg.add l o) b=_;unfold Sig.add;rw [if_neg hne]
end
end Go.Vm
namespace Go.Vm
open Go.RowKit
abbrev zMm:=Option ((e:ETy)×(Int->e.T))
def zPl:List PtV->zMm
 | [⟨.sl e,xs⟩]=>some ⟨e,fun i=>List.getD xs i.toNat e.dflt⟩
 | _=>none
def zFL (I:Sig):zMm->Int->List Value->Prop
 | none,_,vs=>vs=[]
 | some s,x,vs=> ∃ ds:List Value,vs=[.agg ds.toArray]/\jG I s.1 (s.2 x) ds
def z4A:zMm->Int->List AV
 | none,_=>[]
 | some s,x=>[.agg (s.1.cells (s.2 x))]
def z9P:zMm->Nat
 | none=>0
 | some _=>1
theorem zFL.len {I:Sig} {sec:zMm} {x:Int} {vs:List Value} (h:zFL I sec x vs):vs.length=z9P sec:=by
 cases sec with
 | none=>rw [show vs=[] from h];rfl
 | some s=>obtain ⟨ds,e,_⟩:=h;rw [e];rfl
theorem zFL.mono {I τ:Sig} {sec:zMm} {x:Int} {vs:List Value} (hs:I.le τ) (h:zFL I sec x vs):zFL τ sec x vs:=by
 cases sec with
 | none=>exact h
 | some s=>obtain ⟨ds,e,k⟩:=h;exact ⟨ds,e,k.mono hs⟩
theorem zFL.av {I:Sig} {M:yR} {sec:zMm} {x:Int} {vs:List Value} (h:zFL I sec x vs):jH I M (z4A sec x) vs:=by
 cases sec with
 | none=>rw [show vs=[] from h];trivial
 | some s=>obtain ⟨ds,e,k⟩:=h;subst e;exact ⟨⟨ds,rfl,k.cells⟩,trivial⟩
def putZ (st:St):List Tmp->List AV->St
 | p::ps,v::vs=>putZ (st.put (some p) v) ps vs
 | _,_=>st
def z5v (tmps:Array Value) (l:List (Tmp×Value)):Array Value:=l.foldl (fun tmps x=>match x with|(t,a)=>tmps.setIfInBounds t a) tmps
def z8z (P:Program) (g:FuncId) (lb:Array Value) (sec:zMm) (L:List Int) (I:Sig):Prop :=
 ∀ (l:Nat) (J:List Int->Sig->World->Prop) (W:World),Ag I W->(∀ pre σp A A',J pre σp A->Below A.heap.size A A'->J pre σp A')->
   (∀ pre x vs σp σ1 Ws W1,J pre σp Ws->Below Ws.heap.size Ws W1->(∀ b,b<Ws.heap.size->σ1 b=σp b)->Ag σ1 W1->(pre++[x]) <+: L->zFL σ1 sec x vs->
     YieldAt Fence.wide 0 P l (Value.int .i64 x::vs).toArray W1 fun e W'=>e= .returned (.bool true)/\J (pre++[x]) σ1 W'/\Ag σ1 W')->
   J [] I W->CallsIn Fence.wide 0 P g (#[.func (.yield l) #[] #[]]++lb) W fun e W'=>(∃ v,e= .returned v)/\∃ σ',J L σ' W'
structure z4B (P:Program) (g:FuncId) (ps:List PtV) (L:List Int):Prop where
 enter: ∀ args w,(callFunc g args).run P w= .ok (.enter g args) w
 ok: ∀ x∈L,InK .i64 x
 seq: ∀ (I:Sig) (vs:List Value),jQ (fun (q:PtV) u=>jG I (.pt q.e) (some q.x) [u]) ps vs->z8z P g vs.toArray (zPl ps) L I
def backTo (id:Nat) (X:Array Value) (s:St) (K:St->Prop):Prop :=
 match hget s.hp id with
 | some (.fr X' l)=>X'=X/\(⟨l,s.hp,s.next⟩:St).forceAll K
 | _=>False
def zIv (st:St) (X:Array Value):St:=⟨zJq [] st.env,(st.next,.fr X (zJq [] st.env))::st.hp,st.next+1⟩
def zUQ (T:Tab) (ps:List Tmp) (sec:zMm) (assign body:Code) (st:St) (L:List Int) (S:Array Value->Nat->St):Prop :=
 ∀ X :Array Value,zOs (zIv st X) (S X 0)/\∀ k,k<L.length->(putZ (S X k) ps (.s (.int .i64 (L.getD k 0))::z4A sec (L.getD k 0))).forceAll fun h=>zA8 T assign h fun e s=>match e with
   | .normal=>zA8 T body s fun e s=>match e with
     | .normal=>backTo st.next X s fun s=>zOs s (S X (k+1))
     | _=>False
   | _=>False
section
variable {P:Program} {T:Tab} {B:Base} {w w':World} {I τ:Sig} {M:yR} {st:St} {tmps:Array Value} {N:Nat} {a:Act}
theorem GG.rebase (h:GG B I M st tmps w) {B':Base} (hw:B'.w=B.w) (hg:B'.sg=B.sg):GG B' I M st tmps w:=by
 obtain ⟨bw,bs,bd⟩:=B;obtain ⟨bw',bs',bd'⟩:=B';cases hw;cases hg;exact ⟨h.mem,h.env,h.len,h.sep,h.bel,h.grew⟩
theorem GG.base (h:GG B I M st tmps w) (ds:List Deferred):GG {w:=B.w,sg:=I,dfs:=ds} I M st tmps w :=
 ⟨h.mem,h.env,h.len,h.sep,h.bel,⟨Sig.le.refl _,fun _ _=>rfl⟩⟩
theorem GG.grown (h:GG B I M st tmps w) (hb:Below w.heap.size w w'):GG B I M st tmps w':=by
 have hs:B.w.heap.size<=w.heap.size:=h.bel.size;refine ⟨⟨fun b o e=> ?_,fun id ob hi=>(h.mem.ob _ _ hi).same (fun p hp=>hb.block _ ((h.mem.ob _ _ hi).lt hp)) fun b o e=>hb.block _ (h.mem.ag.lt e)⟩,h.env,h.len,h.sep,h.bel.trans (hb.mono hs),h.grew⟩;rw [hb.block _ (h.mem.ag.lt e)];exact h.mem.ag _ _ e
theorem GG.framed (h:GG B I M st tmps w):GG B I (M++[none]) (zIv st tmps) tmps w:=by
 have hlast:(M++[none])[st.next]? =some none:=by rw [<- h.len];simp
 have hold: ∀ {id:Nat},id<st.next->(M++[none])[id]? =M[id]? :=fun hi=>by rw [zbD];rw [h.len];exact hi
 refine ⟨⟨h.mem.ag,fun id ob hi=> ?_⟩,fun t=>(zKq h.env t).more none,by simp [h.len,zIv],fun id ob p hi hp=> ?_,h.bel,h.grew⟩
 ·simp only [zIv,yL] at hi;split at hi
  ·rename_i e;subst e;cases hi;exact ⟨hlast,fun t=>(zKq h.env t).more none⟩
  ·exact (h.mem.ob _ _ hi).keep none (fun _ _=>rfl) fun _ _ _=>rfl
 ·simp only [zIv,yL] at hi;split at hi
  ·rename_i e;subst e;rw [hlast] at hp;cases hp
  ·have hlt:=h.id_lt hi;rw [hold hlt] at hp;obtain ⟨s1,s2,s3⟩:=h.sep _ _ _ hi hp;refine ⟨s1,s2,fun id2 ob2 p2 hne2 hi2 hp2=> ?_⟩;simp only [zIv,yL] at hi2;split at hi2
   ·rename_i e;subst e;rw [hlast] at hp2;cases hp2
   ·rw [hold (h.id_lt hi2)] at hp2;exact s3 _ _ _ hne2 hi2 hp2
theorem GG.turnLock {l:Nat} {o:Obj} (h:GG (B.lock l o) I M st tmps w) (hd:zHY o=false) (hB:B.w.heap.size<=l) (hn:B.sg l=none) (o':Obj) :
 GG (B.lock l o') ((I.del l).add l o') M st tmps (w.putObj l o'):=by
 obtain ⟨h1,h2,h3,h4⟩:=h.unlock hd hB hn o';exact h1.lock hB h3 h2 h4
theorem GG.back {id:Nat} {X:Array Value} {l:Env} (h:GG B I M st tmps w) (hi:hget st.hp id=some (.fr X l)):GG B I M ⟨l,st.hp,st.next⟩ X w :=
 ⟨h.mem,(h.mem.ob _ _ hi).2,h.len,h.sep,h.bel,h.grew⟩
theorem zSd {id:Nat} {X:Array Value} {s:St} {K:St->Prop} (h:backTo id X s K): ∃ l,hget s.hp id=some (.fr X l)/\K ⟨l,s.hp,s.next⟩:=by
 unfold backTo at h;split at h
 ·rename_i X' l e;obtain ⟨rfl,h⟩:=h;rw [St.forceAll_eq] at h;exact ⟨l,e,h⟩
 ·exact h.elim
theorem GG.knowMore (h:GG B I M st tmps w) (hx: ∀ b o,I b=some o->τ b=some o) (hag:Ag τ w) (hp: ∀ id ob p,hget st.hp id=some ob->M[id]? =some (some p)->τ p.b=none) (ds:List Deferred) :
 GG {w:=B.w,sg:=τ,dfs:=ds} τ M st tmps w:=by
 have hle:I.le τ:=fun b o e=>⟨o,hx b o e,.refl⟩;exact ⟨⟨hag,fun id ob hi=>(h.mem.ob _ _ hi).sig hle hx⟩,fun t=>(h.env t).mono hle,h.len,fun id ob p hi hq=>⟨hp _ _ _ hi hq,(h.sep _ _ _ hi hq).2⟩,h.bel,⟨Sig.le.refl _,fun _ _=>rfl⟩⟩
theorem Base.relock (B:Base) {D:Nat} {o:Obj} (h:B.sg D=some o):B=({B with sg:=B.sg.del D} :Base).lock D o:=by
 obtain ⟨bw,bs,bd⟩:=B;show (⟨bw,bs,bd⟩:Base)=⟨bw,(bs.del D).add D o,bd⟩
 congr 1
 funext b
 unfold Sig.add Sig.del;split
 ·rename_i e;subst e;exact h
 ·rfl
structure Rnd (B:Base) (D l:Nat) (rdy:Obj) (N:Nat) (st:St) (tmps:Array Value) (σp:Sig) (w:World) (B1:Base):Prop where
 ww:B1.w=B.w
 dfs:B1.dfs=[]
 grew:zTG B B1.sg
 le:σp.le B1.sg
 mark:B1.sg D=some (.deferred (some []))
 free:B1.sg l=none
 ga:GA (B1.lock l rdy) N st {tmps:=tmps,defers:=[]} w
theorem Rnd.grown {B1:Base} {D l:Nat} {rdy:Obj} {σp:Sig} (h:Rnd B D l rdy N st tmps σp w B1) (hb:Below w.heap.size w w'):Rnd B D l rdy N st tmps σp w' B1 :=
 ⟨h.ww,h.dfs,h.grew,h.le,h.mark,h.free,let ⟨σ',β',hg'⟩:=h.ga.gg;⟨h.ga.defers,h.ga.size,σ',β',hg'.grown hb⟩⟩
theorem Rnd.ag {B1:Base} {D l:Nat} {rdy:Obj} {σp:Sig} (h:Rnd B D l rdy N st tmps σp w B1):Ag σp w:=fun b u e=>by
 obtain ⟨σ',β',hg'⟩:=h.ga.gg;obtain ⟨u1,e1,k1⟩:=h.le b u e;have hne:b≠l:=fun e'=>by rw [e',h.free] at e1;cases e1
 obtain ⟨u2,e2,k2⟩:=hg'.grew.1 b u1 (by show (B1.sg.add _ _) b=_;unfold Sig.add;rw [if_neg hne];exact e1);obtain ⟨u3,e3,k3⟩:=hg'.mem.ag _ _ e2;exact ⟨u3,e3,(k1.trans k2).trans k3⟩
theorem Rnd.learn {B1:Base} {D l:Nat} {rdy:Obj} {σp σ1:Sig} (h:Rnd B D l rdy N st tmps σp w B1) (hd:zHY rdy=false) (hBl:B.w.heap.size<=l) (hDl:D≠l) (hb:Below w.heap.size w w') (he: ∀ b,b<w.heap.size->σ1 b=σp b) (hag:Ag σ1 w') :
 ∃ B2,Rnd B D l rdy N st tmps σ1 w' B2:=by
 obtain ⟨σr,βr,hgr⟩:=h.ga.gg;obtain ⟨hl1,hl2,_⟩:=hgr.locked hd;have hll:l<w.heap.size:=(zW.1 hl2).1;have hBw:B.w.heap.size<=w.heap.size:=by have:=hgr.bel.size;rw [show (B1.lock l rdy).w=B.w from h.ww] at this;exact this
 obtain ⟨τ,hτ⟩: ∃ τ:Sig,τ=fun b=>if b<w.heap.size then σr b else σ1 b:=⟨_,rfl⟩;have ho: ∀ b,b<w.heap.size->τ b=σr b:=fun b hb=>by rw [hτ];show (if _ then _ else _)=_;rw [if_pos hb]
 have hn: ∀ b,¬ b<w.heap.size->τ b=σ1 b:=fun b hb=>by rw [hτ];show (if _ then _ else _)=_;rw [if_neg hb]
 have hx: ∀ b o,σr b=some o->τ b=some o:=fun b o e=>by rw [ho b (hgr.mem.ag.lt e)];exact e
 have hg2:=(hgr.grown hb).knowMore (τ:=τ) hx (fun b o e=>by
  by_cases hlt:b<w.heap.size
  ·rw [ho b hlt] at e;exact (hgr.grown hb).mem.ag _ _ e
  ·rw [hn b hlt] at e;exact hag _ _ e) (fun id ob p hi hp=>by rw [ho _ ((hgr.mem.ob _ _ hi).lt hp)];exact (hgr.sep _ _ _ hi hp).1) []
 have hτl:τ l=some rdy:=hx _ _ hl1;rw [Base.relock {w:=(B1.lock l rdy).w,sg:=τ,dfs:=[]} hτl] at hg2;have zDU: ∀ b,b≠l->(τ.del l) b=τ b:=fun b hb=>by unfold Sig.del;rw [if_neg hb]
 have hB1: ∀ b o,B1.sg b=some o->∃ o',τ b=some o'/\Ole o o':=fun b o e=>by
  have hne:b≠l:=fun e'=>by rw [e',h.free] at e;cases e
  obtain ⟨u2,e2,k2⟩:=hgr.grew.1 b o (by show (B1.sg.add _ _) b=_;unfold Sig.add;rw [if_neg hne];exact e);exact ⟨u2,hx _ _ e2,k2⟩
 have hne1: ∀ b o,B1.sg b=some o->b≠l:=fun b o e e'=>by rw [e',h.free] at e;cases e
 refine ⟨{w:=(B1.lock l rdy).w,sg:=τ.del l,dfs:=[]},h.ww,rfl,⟨fun b o e=> ?_,fun b hb'=> ?_⟩,fun b o e=> ?_,?_,by show (τ.del l) l=none;unfold Sig.del;rw [if_pos rfl],⟨rfl,h.ga.size,τ,βr,hg2⟩⟩
 ·obtain ⟨o1,e1,k1⟩:=h.grew.1 b o e;obtain ⟨o2,e2,k2⟩:=hB1 b o1 e1;exact ⟨o2,by show (τ.del l) b=_;rw [zDU b (hne1 b o1 e1)];exact e2,k1.trans k2⟩
 ·show (τ.del l) b=_;have hlt:b<l:=by omega
  rw [zDU b (by omega),ho b (by omega)];refine ((hgr.grew.2 b (by rw [show (B1.lock l rdy).w=B.w from h.ww];exact hb')).trans ?_).trans (h.grew.2 b hb');show (B1.sg.add _ _) b=_;unfold Sig.add;rw [if_neg (by omega)]
 ·by_cases hlt:b<w.heap.size
  ·rw [he b hlt] at e;obtain ⟨o1,e1,k1⟩:=h.le b o e;obtain ⟨o2,e2,k2⟩:=hB1 b o1 e1;exact ⟨o2,by show (τ.del l) b=_;rw [zDU b (hne1 b o1 e1)];exact e2,k1.trans k2⟩
  ·exact ⟨o,by show (τ.del l) b=_;rw [zDU b (by omega),hn b hlt];exact e,.refl⟩
 ·obtain ⟨o2,e2,k2⟩:=hB1 _ _ h.mark;have:=k2.nodata rfl;subst this;show (τ.del l) D=_;rw [zDU D hDl];exact e2
theorem zO2: ∀ (l:List (Tmp×Value)) (tmps:Array Value),(z5v tmps l).size=tmps.size
 | [],_=>rfl
 | (t,a)::r,tmps=>(zO2 r _).trans (by simp)
theorem GG.putZ: ∀ {ps:List Tmp} {avs:List AV} {vs:List Value} {st:St} {tmps:Array Value},(∀ p∈ps,p<tmps.size)->jH I M avs vs->GG B I M st tmps w->GG B I M (putZ st ps avs) (z5v tmps (ps.zip vs)) w
 | [],_,_,_,_,_,_,h=>by simpa [Vm.putZ,z5v] using h
 | p::ps,[],[],_,_,_,_,h=>by simpa [Vm.putZ,z5v] using h
 | p::ps,av::avs,v::vs,st,tmps,hp,hv,h=>by
   have h1:=h.put (d:=some p) (a:=av) (v:=v) (fun t e=>by cases e;exact hp p (zY ..)) hv.1;exact GG.putZ (ps:=ps) (avs:=avs) (vs:=vs) (fun q hq=>by simpa [zHa] using hp q (zQ _ hq)) hv.2 h1
 | p::ps,[],_::_,_,_,_,h,_=>h.elim
 | p::ps,_::_,[],_,_,_,h,_=>h.elim
theorem z0o (R:jM P T) {g:Operand} {ps:Array Tmp} {assign body:Code} {Q:Exit->Act->World->Prop} (ha:codeOk N assign=true) (hb:codeOk N body=true) (hp: ∀ p∈ps.toList,p<N) (hgo:zDy g=true)
 (h:GA B N st a w) {f:FuncId} {qs:List PtV} {L:List Int} (hg:y7 st.env g= .s (.clo f qs)) (hs:z4B P f qs L) (hnp:ps.size=z9P (zPl qs)+1) {S:Array Value->Nat->St} (hr:zUQ T ps.toList (zPl qs) assign body st L S)
 (hQ: ∀ (B1:Base) (D:Nat) (a':Act) (w':World),B1.w=B.w->zTG B B1.sg->B1.dfs= {target:= .collected D,args:= #[]} ::B.dfs->B1.sg D=some (.deferred (some []))->B.w.heap.size<=D->B.sg D=none->
   GA B1 N (S a.tmps L.length) a' w'->Q .normal a' w') :
 (Code.rangeFunc g ps assign body).wpIn (FR none) 0 P Q a w:=by
 obtain ⟨hle0,hround⟩:=hr a.tmps;obtain ⟨σs,βs,hgg⟩:=h.gg;have hval:=jP hgg hgo;rw [hg] at hval;obtain ⟨vs,hev,hcap⟩:=hval;have hseq:=hs.seq σs vs hcap;refine wpIn_rangeFunc ?_;intro fn hfn;obtain ⟨rec,hrec⟩: ∃ rec:LoopState->Option Code->Loop,rec=fun st pe=> {state:=st,pending:=pe,fn,tmps:=a.tmps,params:=ps,assign,body,defers:=w.heap.size} :=⟨_,rfl⟩;obtain ⟨W1,hW1⟩: ∃ W1,(w.alloc (.deferred (some []))).alloc (.loop (rec .ready none))=W1:=⟨_,rfl⟩
 have hL1:W1.heap[w.heap.size+1]? =some (.loop (rec .ready none)):=by
  rw [<- hW1];have:=World.alloc_heap_new (w.alloc (.deferred (some []))) (.loop (rec .ready none));rwa [World.size_alloc] at this
 have hK1:W1.heap[w.heap.size]? =some (.deferred (some [])):=by
  rw [<- hW1];exact (Go.RowKit.Below.heap_alloc _ _ _ (by simp)).trans (World.alloc_heap_new w _)
 have hbw:Below w.heap.size w W1:=by
  rw [<- hW1];exact ((Below.refl _ w).alloc (zI _) _).alloc (by simp) _
 have hBw:B.w.heap.size<=w.heap.size:=hgg.bel.size
 -- the rounds' base: what is known at the start, and the block for the deferred calls
 have hσD:σs w.heap.size=none:=by
  cases e:σs w.heap.size with
  | none=>rfl
  | some o=>exact absurd (hgg.mem.ag.lt e) (Nat.lt_irrefl _)
 have hσl:σs (w.heap.size+1)=none:=by
  cases e:σs (w.heap.size+1) with
  | none=>rfl
  | some o=>exact absurd (hgg.mem.ag.lt e) (by omega)
 obtain ⟨B1,hB1⟩: ∃ B1:Base,B1=({w:=B.w,sg:=σs,dfs:=[]} :Base).lock w.heap.size (.deferred (some [])):=⟨_,rfl⟩;have hB1w:B1.w=B.w:=by rw [hB1];rfl
 have hB1l:B1.sg (w.heap.size+1)=none:=by
  rw [hB1];show (Sig.add σs _ _) _=_;unfold Sig.add;rw [if_neg (by omega)];exact hσl
 have hB1D:B1.sg w.heap.size=some (.deferred (some [])):=by
  rw [hB1];show (Sig.add σs _ _) _=_;unfold Sig.add;rw [if_pos rfl]
 have hB1le:σs.le B1.sg:=fun b o e=>⟨o,by
  rw [hB1];show (Sig.add σs _ _) _=_
  unfold Sig.add;rw [if_neg (fun e'=>by rw [e',hσD] at e;cases e)];exact e,.refl⟩
 have hBl:B1.w.heap.size<=w.heap.size+1:=by rw [hB1w];omega
 have hB1g:zTG B B1.sg:=⟨hgg.grew.1.trans hB1le,fun b hb'=>by
  rw [hB1];show (Sig.add σs _ _) b=_;unfold Sig.add
  rw [if_neg (by omega)];exact hgg.grew.2 b hb'⟩
 have hstart:GA (B1.lock (w.heap.size+1) (.loop (rec .ready none))) N (S a.tmps 0) {tmps:=a.tmps,defers:=[]} W1:=by
  have g1:=((hgg.framed).base []).grown hbw;have hpl: ∀ id ob q,hget (zIv st a.tmps).hp id=some ob->(βs++[none])[id]? =some (some q)->q.b<w.heap.size:=fun id ob q hi hq=>(hgg.framed.mem.ob _ _ hi).lt hq;have g2:=g1.lock (l:=w.heap.size) (o:= .deferred (some [])) hBw hK1 hσD (fun id ob q hi hq e=>by have:=hpl _ _ _ hi hq;omega);have g3:=g2.lock (l:=w.heap.size+1) (o:= .loop (rec .ready none)) (Nat.le_succ_of_le hBw) hL1 (by unfold Sig.add;rw [if_neg (by omega)];exact hσl) (fun id ob q hi hq e=>by have:=hpl _ _ _ hi hq;omega)
  rw [<- hB1] at g3;have:GA (B1.lock (w.heap.size+1) (.loop (rec .ready none))) N (zIv st a.tmps) {tmps:=a.tmps,defers:=[]} W1:=⟨by rw [hB1];rfl,h.size,_,_,g3⟩;exact this.weaken hle0
 refine ⟨w.heap.size+1,[{target:= .collected w.heap.size,args:= #[]}],W1,{target:= .fn (.func f) vs.toArray,args:= #[.func (.yield (w.heap.size+1)) #[] #[]]},W1,f,
  #[.func (.yield (w.heap.size+1)) #[] #[]]++vs.toArray,W1,?_,?_,?_,?_,fun hh=>(by cases hh),?_⟩
 ·rw [<- hW1,hrec];exact run_enterLoop_outer _ _ _ _ _
 ·simp only [resolve,hev];simp [go_sem]
 ·intro f' hf';trivial
 ·simp [invoke,go_sem,hs.enter]
 ·have hrnd:Rnd B w.heap.size (w.heap.size+1) (.loop (rec .ready none)) N (S a.tmps 0) a.tmps σs W1 B1:=⟨hB1w,by rw [hB1];rfl,hB1g,hB1le,hB1D,hB1l,hstart⟩
  refine (hseq (w.heap.size+1) (fun pre σp W=> ∃ B1,Rnd B w.heap.size (w.heap.size+1) (.loop (rec .ready none)) N (S a.tmps pre.length) a.tmps σp W B1) W1 hrnd.ag
   (fun pre σp A A' ⟨B2,hj⟩ hb'=>⟨B2,hj.grown hb'⟩) ?_ ⟨B1,hrnd⟩).mono ?_
  ·-- one round
   rintro pre x vs' σp σ1 Ws W ⟨B0,hj0⟩ hbW heq hag1 hpre hsec;obtain ⟨B2,hr2⟩:=hj0.learn rfl (Nat.le_succ_of_le hBw) (by omega) hbW heq hag1;have hj:=hr2.ga;have hBl:B2.w.heap.size<=w.heap.size+1:=by rw [hr2.ww];omega
   have hB1l:=hr2.free;obtain ⟨σ1',β1,hg1⟩:=hj.gg;obtain ⟨hl1,hl2,hl3⟩:=hg1.locked rfl
   have hlen:pre.length<L.length:=by
    have:=hpre.length_le;simp at this;omega
   have hxk:L.getD pre.length 0=x:=by
    obtain ⟨t,rfl⟩:=hpre;simp [gdE]
   have hxL:x∈L:=hpre.subset (by simp);have hy:=run_yield (P:=P) (args:=(Value.int .i64 x::vs').toArray) hl2 (by rw [hrec];simp [hsec.len,hnp]);rw [hrec] at hy;refine ⟨fn,_,assign,body,hy,roundIn_of_wpIn hfn ?_⟩;have hrd:=hround _ hlen;rw [St.forceAll_eq,hxk] at hrd
   have hsl:σ1.le σ1':=fun b u e=>by
    obtain ⟨u1,e1,k1⟩:=hr2.le b u e;have hne:b≠w.heap.size+1:=fun e'=>by rw [e',hB1l] at e1;cases e1
    obtain ⟨u2,e2,k2⟩:=hg1.grew.1 b u1 (by show (B2.sg.add _ _) b=_;unfold Sig.add;rw [if_neg hne];exact e1);exact ⟨u2,e2,k1.trans k2⟩
   have hga1:GA (B2.lock (w.heap.size+1) (.loop (rec .ready none))) N (putZ (S a.tmps pre.length) ps.toList (.s (.int .i64 x)::z4A (zPl qs) x)) {tmps:=z5v a.tmps (ps.toList.zip (Value.int .i64 x::vs')),defers:=[]} W :=
    ⟨hj.defers,(zO2 _ _).trans h.size,σ1',β1,hg1.putZ (fun p hq=>by show p<a.tmps.size;rw [h.size];exact hp p hq) ⟨⟨rfl,hs.ok x hxL⟩,(hsec.mono hsl).av⟩⟩
   have hfold:Array.foldl (fun (tmps:Array Value) (x:Tmp×Value)=>match x with|(t,a)=>tmps.setIfInBounds t a) a.tmps (ps.zip (Value.int .i64 x::vs').toArray)=z5v a.tmps (ps.toList.zip (Value.int .i64 x::vs')):=by
    rw [<- Array.foldl_toList,Array.toList_zip];rfl
   refine zA2 (B:=B2.lock (w.heap.size+1) (.loop (rec .ready none))) (r:=some (w.heap.size+1)) R assign ha (by dsimp only;rw [hfold];exact hga1) hrd fun e s1 a1 W2 hk2 hga2=> ?_;cases e with
   | normal =>
     obtain ⟨σ2,β2,hg2⟩:=hga2.gg;obtain ⟨_,hl2',_⟩:=hg2.locked rfl;have hbr:=run_beginRound (P:=P) hl2' (by rw [hrec]);refine ⟨_,hbr,?_⟩;have hg3:=hg2.turnLock rfl hBl hB1l (.loop {rec .ready none with state:= .busy});have hga3:GA (B2.lock (w.heap.size+1) (.loop {rec .ready none with state:= .busy})) N s1 a1 (W2.putObj (w.heap.size+1) (.loop {rec .ready none with state:= .busy})):=⟨hga2.defers,hga2.size,_,_,hg3⟩
     refine zA2 (r:=some (w.heap.size+1)) R body hb hga3 hk2 fun e s4 a4 W4 hk4 hga4=> ?_;cases e with
     | normal =>
       obtain ⟨l',hfr,hle⟩:=zSd hk4;obtain ⟨σ4,β4,hg4⟩:=hga4.gg;obtain ⟨_,hl4,_⟩:=hg4.locked rfl;have hg5:=(hg4.back hfr).turnLock rfl hBl hB1l (.loop (rec .ready none));have hga5:GA (B2.lock (w.heap.size+1) (.loop (rec .ready none))) N ⟨l',s4.hp,s4.next⟩ {tmps:=a.tmps,defers:=[]} (W4.putObj (w.heap.size+1) (.loop (rec .ready none))):=⟨hj.defers,h.size,_,_,hg5⟩;have her:=run_endRound (P:=P) none hl4;have hga6:=hga5.weaken hle
       have hr6:Rnd B w.heap.size (w.heap.size+1) (.loop (rec .ready none)) N (S a.tmps (pre.length+1)) a.tmps σ1 (W4.putObj (w.heap.size+1) (.loop (rec .ready none))) B2:=⟨hr2.ww,hr2.dfs,hr2.grew,hr2.le,hr2.mark,hr2.free,hga6⟩;refine ⟨_,_,by rw [hrec] at her ⊢;exact her,rfl,?_,hr6.ag⟩;rw [zN];exact ⟨B2,hr6⟩
     | _=>exact hk4.elim
   | _=>exact hk2.elim
  ·-- behind the sequence
   rintro e W2 ⟨⟨v,rfl⟩,σ',B2,hj⟩;obtain ⟨σ2,β2,hg2⟩:=hj.ga.gg;obtain ⟨_,hl2,_⟩:=hg2.locked rfl;refine ⟨none,_,by have:=run_endLoop (P:=P) hl2 (by rw [hrec];simp);rw [hrec] at this;exact this,?_⟩;obtain ⟨hg3,_,_,_⟩:=hg2.unlock rfl (by rw [hj.ww];omega) hj.free (.loop {rec .ready none with state:= .exhausted});refine hQ {B2 with dfs:= {target:= .collected w.heap.size,args:= #[]} ::B.dfs} w.heap.size _ _ hj.ww hj.grew rfl hj.mark hBw ?_ ?_
   ·cases e:B.sg w.heap.size with
    | none=>rfl
    | some o=>obtain ⟨o1,e1,_⟩:=hgg.grew.1 _ _ e;rw [hσD] at e1;cases e1
   ·have hfin:=hg3.rebase (B':= {B2 with dfs:= {target:= .collected w.heap.size,args:= #[]} ::B.dfs}) rfl rfl;rw [hrec] at hfin;exact ⟨by show _::a.defers=_;rw [h.defers],h.size,_,_,hfin⟩
end
end Go.Vm
namespace Go.Vm
open Go.RowKit
open Go.ChangeMaps (setBlock)
structure RM where
 front:List Oper
 it:Tmp
 ty:TypeId
 x:Operand
 full:Array Oper
 bl:Nat
 tn:Tmp
 tk:Tmp
 c:Nat
 te:Tmp
 fullC:Array Oper
 backC:List Oper
 rest:Code
def zFp:List Oper->Option (List Oper×Oper)
 | []=>none
 | [o]=>some ([],o)
 | o::r=>match zFp r with
   | some (l,q)=>some (o::l,q)
   | none=>none
def zQ2:Oper->Option (Tmp×TypeId×Operand)
 | ⟨some it,.range ty x,_,_,_,none⟩=>some (it,ty,x)
 | _=>none
def zTd:Oper->Option (Tmp×Tmp)
 | ⟨some tn,.next (.tmp it) false,_,_,_,none⟩=>some (tn,it)
 | _=>none
def zWv:Oper->Option (Tmp×Tmp)
 | ⟨some tk,.extract (.tmp tn) 0,_,_,_,none⟩=>some (tk,tn)
 | _=>none
def zQ4:Oper->Option (Tmp×Tmp)
 | ⟨some te,.entry (.tmp it),_,_,_,none⟩=>some (te,it)
 | _=>none
def z1q (it it1 it2 tn tn2 t tk te bl bl':Nat):Bool :=
 Nat.beq it1 it&&(Nat.beq it2 it&&(Nat.beq tn2 tn&&(Nat.beq t tk&&(Nat.beq bl' bl&&(!Nat.beq tn it&&(!Nat.beq tk it&&(!Nat.beq te it&& !Nat.beq tk tn)))))))
def z7y (bl:Nat) (opsB:List Oper) (t bl' c:Nat) (fullC:Array Oper) (rest:Code) (a:Code):Option RM :=
 match opsB,fullC.toList,a with
 | [o1,o2],eo::backC,.region _ full false=>match zTd o1,zWv o2,zQ4 eo,zFp full.toList with
   | some (tn,it1),some (tk,tn2),some (te,it2),some (front,ro)=>match zQ2 ro with
     | some (it,ty,x)=>match z1q it it1 it2 tn tn2 t tk te bl bl' with
       | true=>some ⟨front,it,ty,x,full,bl,tn,tk,c,te,fullC,backC,rest⟩
       | false=>none
     | none=>none
   | _,_,_,_=>none
 | _,_,_=>none
def z1B (a b:Code):Option RM :=
 match b with
 | .block bl (.loop (.seq (.region _ opsB false) (.seq (.cond (.tmp t) .skip (.exit bl')) (.block c (.seq (.region _ fullC false) rest)))))=>z7y bl opsB.toList t bl' c fullC rest a
 | _=>none
structure z9v (a b:Code) (r:RM):Prop where
 ex: ∃ (ro o1 o2 eo:Oper) (idA idB idC:Nat) (opsB:Array Oper),a= .region idA r.full false/\r.full.toList=r.front++[ro]/\(ro.dst=some r.it/\ro.op= .range r.ty r.x/\ro.guard=none)/\
  b= .block r.bl (.loop (.seq (.region idB opsB false) (.seq (.cond (.tmp r.tk) .skip (.exit r.bl)) (.block r.c (.seq (.region idC r.fullC false) r.rest)))))/\opsB.toList=[o1,o2]/\
  (o1.dst=some r.tn/\o1.op= .next (.tmp r.it) false/\o1.guard=none)/\(o2.dst=some r.tk/\o2.op= .extract (.tmp r.tn) 0/\o2.guard=none)/\
  r.fullC.toList=eo::r.backC/\(eo.dst=some r.te/\eo.op= .entry (.tmp r.it)/\eo.guard=none)
 n1:r.tn≠r.it
 n2:r.tk≠r.it
 n3:r.te≠r.it
 n4:r.tk≠r.tn
theorem zHX: ∀ {l f:List Oper} {o:Oper},zFp l=some (f,o)->l=f++[o]
 | [],_,_,h=>by cases h
 | [q],_,_,h=>by cases h;rfl
 | q ::q2::r,f,o,h=>by
   simp only [zFp] at h;split at h
   ·rename_i l q' e;cases h;rw [zHX e];rfl
   ·cases h
theorem zTJ {o:Oper} {it:Tmp} {ty:TypeId} {x:Operand} (h:zQ2 o=some (it,ty,x)):o.dst=some it/\o.op= .range ty x/\o.guard=none:=by
 unfold zQ2 at h;split at h<;>cases h;exact ⟨rfl,rfl,rfl⟩
theorem zXm {o:Oper} {tn it:Tmp} (h:zTd o=some (tn,it)):o.dst=some tn/\o.op= .next (.tmp it) false/\o.guard=none:=by
 unfold zTd at h;split at h<;>cases h;exact ⟨rfl,rfl,rfl⟩
theorem zUD {o:Oper} {tk tn:Tmp} (h:zWv o=some (tk,tn)):o.dst=some tk/\o.op= .extract (.tmp tn) 0/\o.guard=none:=by
 unfold zWv at h;split at h<;>cases h;exact ⟨rfl,rfl,rfl⟩
theorem zSk {o:Oper} {te it:Tmp} (h:zQ4 o=some (te,it)):o.dst=some te/\o.op= .entry (.tmp it)/\o.guard=none:=by
 unfold zQ4 at h;split at h<;>cases h;exact ⟨rfl,rfl,rfl⟩
theorem z4F {a b:Code} {r:RM} (h:z1B a b=some r):z9v a b r:=by
 unfold z1B at h;split at h
 case h_2=>cases h
 rename_i bl idB opsB t bl' c idC fullC rest;unfold z7y at h;split at h
 case h_2=>cases h
 rename_i o1 o2 eo backC idA full hoB hfC;split at h
 case h_2=>cases h
 rename_i tn it1 tk tn2 te it2 front ro e1 e2 e3 e4;split at h
 case h_2=>cases h
 rename_i it ty x e5;split at h
 case h_2=>cases h
 rename_i hc;cases h;unfold z1q at hc;simp only [zC,zbB,Nat.beq_eq] at hc;obtain ⟨rfl,rfl,rfl,rfl,rfl,h1,h2,h3,h4⟩:=hc;have nb: ∀ {p q:Nat},Nat.beq p q=false->p≠q:=fun h e=>by subst e;rw [zbJ] at h;cases h
 exact ⟨⟨ro,o1,o2,eo,idA,idB,idC,opsB,rfl,zHX e4,zTJ e5,rfl,hoB,zXm e1,zUD e2,hfC,zSk e3⟩,nb h1,nb h2,nb h3,nb h4⟩
abbrev IBM:=List ((ETy.int .i64).T×ETy.bool.T)
def itV (r:Nat):AV:= .s (.val (.pointer (some ⟨r,0,none⟩)))
def zT8 (R:RM) (SP:Spec IBM) (st:St) (pre:IBM) (K:Exit->St->Prop):Exit->St->Prop
 | .normal,s=>SP.inv pre/\zOs s (SP.head st pre)
 | .exit i,s=>match Nat.beq i R.c with
   | true=>SP.inv pre/\zOs s (SP.head st pre)
   | false=>match Nat.beq i R.bl with
     | true=>K .normal s
     | false=>K (.exit i) s
 | e,s=>K e s
structure z8H (it:Nat) (p:Prop):Prop where
 intro::(out:p)
def zSO (T:Tab) (R:RM) (m:IBM) (st:St) (r:Nat) (K:Exit->St->Prop):Prop :=
 (st.put (some R.it) (itV r)).forceAll fun st=>z8H R.it (∃ SP:Spec IBM,(SP.inv []/\zOs st (SP.head st []))/\
   (∀ pre e,(SP.inv pre/\pre.Nodup/\(∀ p∈pre,p∈m)/\e∈m/\e∉pre)->yZ (SP.head st pre).env R.it=itV r/\
     ((((SP.head st pre).put (some R.tn) (.s .junk)).put (some R.tk) (.s (.bool true))).put (some R.te) (.tup [.s (.int .i64 e.1),.s (.bool e.2)])).forceAll fun h =>
       zAN T false R.fullC R.backC h fun s=>zA8 T R.rest s (zT8 R SP st (pre++[e]) K))/\
   (∀ pre,(SP.inv pre/\pre.Nodup/\∀ p,p∈pre↔p∈m)->yZ (SP.head st pre).env R.it=itV r/\
     (((SP.head st pre).put (some R.tn) (.s .junk)).put (some R.tk) (.s (.bool false))).forceAll (K .normal)))
def z9J (T:Tab) (R:RM) (st:St) (K:Exit->St->Prop):Prop :=
 zAN T false R.full R.front st fun st=>match T.desc R.ty,y7 st.env R.x with
  | .map _ _,.s (.mp (.int .i64) .bool m)=> ∀ r:Nat,zSO T R m st r K
  | _,_=>False
section
variable {P:Program} {T:Tab} {B:Base} {w w':World} {I τ:Sig} {M:yR} {st:St} {tmps:Array Value} {N:Nat} {a:Act}
theorem zPp {l:Nat} {o:Obj} (h:w.heap[l]? =some o):w.putObj l o=w:=by
 unfold World.putObj
 have:w.heap.setIfInBounds l o=w.heap:=by
  apply Array.ext_getElem?;intro i;rw [zbb];split
  ·rename_i e;subst e;obtain ⟨hl,e⟩:=zW.1 h;rw [if_pos hl];exact h.symm
  ·rfl
 rw [this]
theorem GG.drewW (h:GG B I M st tmps w):GG B I M st tmps w.drew:=h.grown (Below.drew (Below.refl _ _))
structure zFu (l b:Nat) (m:IBM) (es:Array MapEntry) (clock:Nat) (seen:Array Nat) (pre:IBM):Prop where
 nd:pre.Nodup
 sub: ∀ p∈pre,p∈m
 iff: ∀ (i:Nat) (x:(ETy.int .i64).T×ETy.bool.T) (en:MapEntry),m[i]? =some x->es[i]? =some en->(seen.contains en.born=true↔x∈pre)
theorem zFu.step {l b:Nat} {m:IBM} {es:Array MapEntry} {clock:Nat} {seen:Array Nat} {pre:IBM} (h:zFu l b m es clock seen pre) (hn:(m.map (·.1)).Nodup) (hs:es.size=m.length) (hst:MapKept.Stamped es clock) {en:MapEntry} (he:en∈(leftOf es seen).toList) :
 ∃ (i:Nat) (x:(ETy.int .i64).T×ETy.bool.T),m[i]? =some x/\es[i]? =some en/\x∈m/\x∉pre/\zFu l b m es clock (seen.push en.born) (pre++[x]):=by
 obtain ⟨h1,h2⟩:=mem_left he;obtain ⟨i,hi,e⟩:=yG.1 h1;have hi':i<es.size:=by simpa using hi
 have ei:es[i]? =some en:=by rw [<- zM,gE hi,e]
 have him:i<m.length:=by omega
 have em:m[i]? =some m[i]:=gE him;have hx:m[i]∉pre:=fun k=>by rw [(h.iff i _ _ em ei).2 k] at h2;cases h2
 refine ⟨i,m[i],em,ei,yQ him,hx,?_,?_,?_⟩
 ·rw [List.nodup_append];exact ⟨h.nd,by simp,fun p hp q hq e=>by rw [zF] at hq;subst hq;subst e;exact hx hp⟩
 ·intro p hp;rcases yD.1 hp with k|k
  ·exact h.sub p k
  ·rw [zF.1 k];exact yQ him
 ·intro j y en' ej ej';rw [contains_push,zbA,h.iff j y en' ej ej',yD,zF,beq_iff_eq];refine or_congr Iff.rfl ⟨fun k=> ?_,fun k=> ?_⟩
  ·have:=born_inj hst.2.1 (zbM (by rw [zM];exact ej')) h1 k;subst this;have hj:j<es.toList.length:=(zK.1 (show es.toList[j]? =some en' by rw [zM];exact ej')).1;have nd:es.toList.Nodup:=(List.Pairwise.of_map (S:=(·≠·)) (·.born) (fun _ _ h e=>h (by rw [e])) hst.2.1)
   have hij:j=i:=(List.getElem_inj nd).1 (by
    have a1:=(zK.1 (show es.toList[j]? =some en' by rw [zM];exact ej')).2
    rw [a1,e])
   subst hij;rw [em] at ej;cases ej;rfl
  ·subst k;have nd:m.Nodup:=List.Pairwise.of_map (S:=(·≠·)) (·.1) (fun _ _ h e=>h (by rw [e])) hn;obtain ⟨hj,e2⟩:=zK.1 ej;have hij:j=i:=(List.getElem_inj nd).1 e2;subst hij;rw [ei] at ej';cases ej';rfl
theorem zFu.all {l b:Nat} {m:IBM} {es:Array MapEntry} {clock:Nat} {seen:Array Nat} {pre:IBM} (h:zFu l b m es clock seen pre) (hs:es.size=m.length) (h0:(leftOf es seen).size=0): ∀ p,p∈pre↔p∈m:=fun p=>by
 refine ⟨h.sub p,fun hp=> ?_⟩;obtain ⟨i,hi,rfl⟩:=yG.1 hp;have hi':i<es.size:=by omega
 refine (h.iff i _ _ (gE hi) (Array.getElem?_eq_getElem hi')).1 ?_;have he:leftOf es seen= #[]:=Array.eq_empty_of_size_eq_zero h0;unfold leftOf at he;rw [Array.filter_eq_empty_iff] at he;have:=he es[i] (Array.getElem_mem hi');simpa using this
theorem zUN {o1 o2:Oper} {it tn tk:Tmp} {l:Nat} {opsB:Array Oper} {vs:List Value} {k:Bool} {Q:Exit->Act->World->Prop} (h1:o1.dst=some tn/\o1.op= .next (.tmp it) false/\o1.guard=none) (h2:o2.dst=some tk/\o2.op= .extract (.tmp tn) 0/\o2.guard=none)
 (hit:a.eval (.tmp it)= .pointer (some ⟨l,0,none⟩)) (htn:tn<a.tmps.size) (hrun: ∀ ty,(Instr.next (.pointer (some ⟨l,0,none⟩)) false ty).run P w= .ok (.tuple (Value.bool k::vs).toArray) w')
 (hQ:Q .normal ((a.put (some tn) (.tuple (Value.bool k::vs).toArray)).put (some tk) (.bool k)) w'):wpListIn (FR none) 0 P opsB Q [o1,o2] a w:=by
 obtain ⟨a1,a2,a3⟩:=h1;obtain ⟨b1,b2,b3⟩:=h2;refine j5 a3 (zAd (v:= .tuple (Value.bool k::vs).toArray) (w':=w') (by rw [a2];intro c e;cases e) ?_ ?_)
 ·simp only [execOp,a2,hit];rw [zaz,hrun];rfl
 ·rw [a1];refine j5 b3 (zAd (v:= .bool k) (w':=w') (by rw [b2];intro c e;cases e) ?_ ?_)
  ·have:(a.put (some tn) (.tuple (Value.bool k::vs).toArray)).eval (.tmp tn)= .tuple (Value.bool k::vs).toArray:=by
    simp [Act.eval,Act.put,htn]
   simp [execOp,b2,this,Instr.extract]
  ·rw [b1];exact hQ
theorem z3E (R:jM P T) {ca cb:Code} {r:RM} (hr:z1B ca cb=some r) (hA:codeOk N ca=true) (hB:codeOk N cb=true) (h:GA B N st a w) {K:Exit->St->Prop} (hk:z9J T r st K) {Q:Exit->Act->World->Prop}
 (hQ: ∀ e B1 st' a' w',B1.w=B.w->zTG B B1.sg->B1.dfs=B.dfs->K e st'->GA B1 N st' a' w'->Q e a' w'):(Code.seq ca cb).wpIn (FR none) 0 P Q a w:=by
 obtain ⟨⟨ro,o1,o2,eo,idA,idB,idC,opsB,rfl,hfull,⟨r1,r2,r3⟩,rfl,hopsB,hn1,hn2,hfC,⟨q1,q2,q3⟩⟩,d1,d2,d3,d4⟩:=z4F hr;simp only [codeOk,zC,zJ] at hA hB;have hAll:=hA.1;obtain ⟨hBop,⟨hcond,_⟩,hCop,hrest⟩:(∀ o∈opsB.toList,yT N o=true)/\(True/\True)/\(∀ o∈r.fullC.toList,yT N o=true)/\codeOk N r.rest=true:=⟨hB.1.1,⟨trivial,trivial⟩,hB.2.2.1.1,hB.2.2.2⟩;have hro:yT N ro=true:=hAll ro (by rw [hfull];simp);have h1ok:yT N o1=true:=hBop o1 (by rw [hopsB];simp)
 have h2ok:yT N o2=true:=hBop o2 (by rw [hopsB];simp);have heok:yT N eo=true:=hCop eo (by rw [hfC];simp);have hback: ∀ o∈r.backC,yT N o=true:=fun o ho=>hCop o (by rw [hfC];exact zQ _ ho)
 have bndOf: ∀ {o:Oper} {t:Tmp},yT N o=true->o.dst=some t->t<N:=fun {o t} ho hd=>by
  simp only [yT,hd,zC] at ho;have:t+1<=N:=by simpa [Nat.blt] using ho.1
  exact Nat.lt_of_succ_le this
 have htn:r.tn<N:=bndOf h1ok hn1.1;have htk:r.tk<N:=bndOf h2ok hn2.1;have hte:r.te<N:=bndOf heok q1;have hit:r.it<N:=bndOf hro r1;refine wpIn_seq (wpIn_region_list ?_);rw [hfull];refine zCe R [ro] r.front (fun o ho=>hAll o (by rw [hfull];exact zb9 _ ho)) h hk fun st1 a1 w1 hk1 h1=> ?_;split at hk1
 case h_2=>exact hk1.elim
 rename_i kt u m hdesc hx;obtain ⟨I,M,hg⟩:=h1.gg
 have hxv:y6 I M (y7 st1.env r.x) (a1.eval r.x):=jP hg (by
  simp only [yT,zC,zJ] at hro
  exact hro.2 _ (by simp [r2,Op.operands]))
 rw [hx] at hxv;obtain ⟨ro0,hxe,hnd,hnil,hat⟩:=hxv;have hxe:a1.eval r.x= .map ro0:=(List.cons.inj hxe).1
 have hund:P.underlying r.ty=some (.map kt u):=by
  unfold Tab.desc at hdesc;split at hdesc
  ·rename_i ti e;rw [(R.ty _ _ e).und,hdesc]
  ·cases hdesc
 -- what lies in the iterator's block
 have main: ∀ (o:Obj),zHY o=false->(Instr.range r.ty (.map ro0)).run P w1= .ok (.pointer (some ⟨w1.heap.size,0,none⟩)) (w1.alloc o)->
  (∀ (st2:St) (a2:Act) (w2:World) (B1:Base),B1.w=B.w->zTG B B1.sg->B1.dfs=B.dfs->I.le B1.sg->B1.sg w1.heap.size=none->zSO T r m st1 w1.heap.size K->GA (B1.lock w1.heap.size o) N (st1.put (some r.it) (itV w1.heap.size)) a2 w2->(Code.block r.bl (.loop (.seq (.region idB opsB false) (.seq (.cond (.tmp r.tk) .skip (.exit r.bl)) (.block r.c (.seq (.region idC r.fullC false) r.rest)))))).wpIn (FR none) 0 P Q a2 w2)->
  wpListIn (FR none) 0 P r.full (Exit.then ((Code.block r.bl (.loop (.seq (.region idB opsB false) (.seq (.cond (.tmp r.tk) .skip (.exit r.bl)) (.block r.c (.seq (.region idC r.fullC false) r.rest)))))).wpIn (FR none) 0 P Q) Q) [ro] a1 w1:=by
  intro o hdo hrun hgo;refine j5 r3 (zAd (v:= .pointer (some ⟨w1.heap.size,0,none⟩)) (w':=w1.alloc o) (by rw [r2];intro c e;cases e) ?_ ?_)
  ·simp only [execOp,r2,hxe];rw [zaz,hrun];rfl
  ·rw [r1]
   have hσ:I w1.heap.size=none:=by
    cases e:I w1.heap.size with
    | none=>rfl
    | some o=>exact absurd (hg.mem.ag.lt e) (Nat.lt_irrefl _)
   have g1:GG {w:=B.w,sg:=I,dfs:=B.dfs} I M st1 a1.tmps (w1.alloc o):=(hg.base B.dfs).grown ((Below.refl _ _).alloc (zI _) o);have g2:=g1.put (d:=some r.it) (a:=itV w1.heap.size) (v:= .pointer (some ⟨w1.heap.size,0,none⟩)) (fun t e=>by cases e;rw [h1.size];exact hit) ⟨rfl,fun cs e=>by cases e⟩;have g3:=g2.lock (l:=w1.heap.size) (o:=o) hg.bel.size (heap_alloc_new w1 o) hσ (fun id ob q hi hq e=>by have:=(hg.mem.ob _ _ hi).lt hq;omega)
   exact hgo (st1.put (some r.it) (itV w1.heap.size)) _ _ {w:=B.w,sg:=I,dfs:=B.dfs} rfl hg.grew rfl (Sig.le.refl _) hσ (hk1 _) ⟨by rw [put_defers];exact h1.defers,by rw [jU,qU];exact h1.size,_,_,by rw [jU];exact g3⟩
 -- where the block is let go
 have letGo: ∀ {B1:Base} {o:Obj} {st':St} {a':Act} {w':World},B1.w=B.w->B1.sg w1.heap.size=none->zHY o=false->GA (B1.lock w1.heap.size o) N st' a' w'->GA B1 N st' a' w':=fun {B1 o st' a' w'} hw hn hdo h'=>by
  obtain ⟨σ',β',hg'⟩:=h'.gg;obtain ⟨_,hl,_⟩:=hg'.locked hdo;have:=(hg'.unlock hdo (by rw [hw];exact hg.bel.size) hn o).1;rw [zPp hl] at this;exact ⟨h'.defers,h'.size,_,_,this⟩
 have itEv: ∀ {B2:Base} {st':St} {a':Act} {w':World},GA B2 N st' a' w'->yZ st'.env r.it=itV w1.heap.size->a'.eval (.tmp r.it)= .pointer (some ⟨w1.heap.size,0,none⟩):=fun {B2 st' a' w'} h' e=>by
  obtain ⟨σ',β',hg'⟩:=h'.gg;have:=hg'.env r.it;rw [e] at this;exact this.1
 -- nothing is left
 have over: ∀ {B1:Base} {o:Obj} {SP:Spec IBM} {st2:St} {pre:IBM} {a':Act} {w':World} {Q2:Act->World->Prop},B1.w=B.w->zTG B B1.sg->B1.dfs=B.dfs->B1.sg w1.heap.size=none->zHY o=false->GA (B1.lock w1.heap.size o) N (SP.head st2 pre) a' w'->
  yZ (SP.head st2 pre).env r.it=itV w1.heap.size->K .normal (((SP.head st2 pre).put (some r.tn) (.s .junk)).put (some r.tk) (.s (.bool false)))->(∀ ty,(Instr.next (.pointer (some ⟨w1.heap.size,0,none⟩)) false ty).run P w'= .ok (.tuple #[.bool false]) w')->
  (Code.seq (.region idB opsB false) (.seq (.cond (.tmp r.tk) .skip (.exit r.bl)) (.block r.c (.seq (.region idC r.fullC false) r.rest)))).wpIn (FR none) 0 P (Exit.then Q2 (Exit.inBlock r.bl Q)) a' w':=by
  intro B1 o SP st2 pre a' w' Q2 hw hgr hdf hn hdo h' hi hK hrun
  have hga:GA (B1.lock w1.heap.size o) N (((SP.head st2 pre).put (some r.tn) (.s .junk)).put (some r.tk) (.s (.bool false))) ((a'.put (some r.tn) (.tuple #[.bool false])).put (some r.tk) (.bool false)) w':=by
   obtain ⟨σ',β',hg'⟩:=h'.gg;have p1:=hg'.put (d:=some r.tn) (a:= .s .junk) (v:= .tuple #[.bool false]) (fun t e=>by cases e;rw [h'.size];exact htn) trivial;have p2:=p1.put (d:=some r.tk) (a:= .s (.bool false)) (v:= .bool false) (fun t e=>by cases e;rw [qU,h'.size];exact htk) rfl;exact ⟨by rw [put_defers,put_defers];exact h'.defers,by rw [jU,qU,jU,qU];exact h'.size,σ',β',by rw [jU,jU];exact p2⟩
  refine wpIn_seq (wpIn_region_list ?_);rw [hopsB];refine zUN (vs:=[]) (k:=false) (w':=w') hn1 hn2 (itEv h' hi) (by rw [h'.size];exact htn) hrun ?_;refine wpIn_seq (wpIn_cond_false (by simp [Act.eval,Act.put,h'.size,htk]) (wpIn_exit ?_));show Exit.inBlock r.bl Q (.exit r.bl) _ _;simp only [Exit.inBlock,if_true];exact hQ _ B1 _ _ _ hw hgr hdf hK (letGo hw hn hdo hga)
 cases ro0 with
 | none =>
   refine main (.mapIter none 0 #[] 0) rfl (run_range_nilMap w1 r.ty kt u hund) fun st2 a2 w2 B1 hw hgr hdf hle hn hgo h2=> ?_;unfold zSO at hgo;rw [St.forceAll_eq] at hgo;obtain ⟨SP,⟨hi0,hle0⟩,_,hend⟩:=hgo.out;have hm:m=[]:=hnil rfl;subst hm;obtain ⟨e1,e2⟩:=hend [] ⟨hi0,zbS,fun p=>Iff.rfl⟩;rw [St.forceAll_eq] at e2;refine wpIn_block (wpIn_loop_ghost (fun _ a' w'=>GA (B1.lock w1.heap.size (.mapIter none 0 #[] 0)) N (SP.head (st1.put (some r.it) (itV w1.heap.size)) []) a' w') 0 (h2.weaken hle0) ?_)
   intro k a' w' h';refine over hw hgr hdf hn rfl h' e1 e2 fun ty=> ?_;obtain ⟨σ',β',hg'⟩:=h'.gg;obtain ⟨_,hl,_⟩:=hg'.locked rfl;simp only [Instr.next,getObj,zaz,Sem.run,hl,Result.andThen];rfl
 | some b =>
   obtain ⟨es,clock,hb,⟨hsz,hst⟩,hents⟩:=hat b rfl
   refine main (.mapIter (some b) clock #[] clock) rfl (run_range_map w1 r.ty kt u b es clock hund (by
    obtain ⟨o',e1,e2⟩:=hg.mem.ag _ _ hb
    rw [e1,e2.map])) fun st2 a2 w2 B1 hw hgr hdf hle hn hgo h2=> ?_
   unfold zSO at hgo;rw [St.forceAll_eq] at hgo;obtain ⟨SP,⟨hi0,hle0⟩,hround,hend⟩:=hgo.out;obtain ⟨st3,hst3⟩: ∃ st3,st3=st1.put (some r.it) (itV w1.heap.size):=⟨_,rfl⟩;rw [<- hst3] at hround hend hle0 h2
   have hbne:b≠w1.heap.size:=fun e=>by
    have:=hg.mem.ag.lt hb;omega
   -- the map lies as it lay
   have mapAt: ∀ {seen:Array Nat} {c0:Nat} {st':St} {a':Act} {w':World},GA (B1.lock w1.heap.size (.mapIter (some b) clock seen c0)) N st' a' w'->w'.heap[b]? =some (.map es clock)/\w'.heap[w1.heap.size]? =some (.mapIter (some b) clock seen c0):=fun {seen c0 st' a' w'} h'=>by
    obtain ⟨σ',β',hg'⟩:=h'.gg;obtain ⟨_,hl,_⟩:=hg'.locked rfl;refine ⟨?_,hl⟩;obtain ⟨o1,k1,k2⟩:=hle b _ hb;obtain ⟨o2,k3,k4⟩:=hg'.grew.1 b o1 (by show (B1.sg.add _ _) b=_;unfold Sig.add;rw [if_neg hbne];exact k1);obtain ⟨o3,k5,k6⟩:=hg'.mem.ag _ _ k3;rw [k5,((k2.trans k4).trans k6).map]
   refine wpIn_block (wpIn_loop_ghost (fun k a' w'=> ∃ (pre:IBM) (seen:Array Nat) (c0:Nat),k=(leftOf es seen).size/\SP.inv pre/\zFu w1.heap.size b m es clock seen pre/\clock<=c0/\GA (B1.lock w1.heap.size (.mapIter (some b) clock seen c0)) N (SP.head st3 pre) a' w') _
    ⟨[],#[],clock,rfl,hi0,⟨zbS,fun p hp=>(by cases hp),fun i x en _ _=>(by simp)⟩,zI _,h2.weaken hle0⟩ ?_)
   rintro k a' w' ⟨pre,seen,c0,rfl,hinv,hia,hc0,h'⟩;obtain ⟨hmb,hml⟩:=mapAt h';have each:=fun ty=>run_next_at (P:=P) w' ty w1.heap.size b clock c0 seen es clock hml hmb hst.1 hc0
   by_cases h0:(leftOf es seen).size=0
   ·obtain ⟨e1,e2⟩:=hend pre ⟨hinv,hia.nd,hia.all hsz h0⟩;rw [St.forceAll_eq] at e2;refine over hw hgr hdf hn rfl h' e1 e2 fun ty=> ?_;rcases each ty with ⟨_,hrun⟩|⟨en,hen,_⟩
    ·exact hrun
    ·have:(leftOf es seen)= #[]:=Array.eq_empty_of_size_eq_zero h0;rw [this] at hen;cases hen
   ·rcases each 0 with ⟨hh,_⟩|⟨en,hen,w3,hw3,hrun⟩
    ·exact absurd hh h0
    have hrun: ∀ ty,(Instr.next (.pointer (some ⟨w1.heap.size,0,none⟩)) false ty).run P w'= .ok (.tuple #[.bool true,en.key,en.val]) (setBlock w3 w1.heap.size (.mapIter (some b) clock (seen.push en.born) clock)):=fun ty=>hrun;obtain ⟨i,x,hxm,hxe2,hxin,hxnot,hia2⟩:=hia.step hnd hsz hst hen;obtain ⟨en2,dk,dv,f1,f2,f3,f4,f5⟩:=hents i x hxm;rw [hxe2] at f1;cases f1;obtain ⟨rfl,fk⟩:=f2;have f4:dv=[.bool x.2]:=f4
    subst f4;have f3:en.key= .int .i64 x.1:=f3;have f5:en.val= .bool x.2:=f5;obtain ⟨e1,e2⟩:=hround pre x ⟨hinv,hia.nd,hia.sub,hxin,hxnot⟩;rw [St.forceAll_eq] at e2
    -- the state behind the step
    have hg3:GA (B1.lock w1.heap.size (.mapIter (some b) clock (seen.push en.born) clock)) N (((SP.head st3 pre).put (some r.tn) (.s .junk)).put (some r.tk) (.s (.bool true)))
     ((a'.put (some r.tn) (.tuple #[.bool true,en.key,en.val])).put (some r.tk) (.bool true)) (setBlock w3 w1.heap.size (.mapIter (some b) clock (seen.push en.born) clock)):=by
     obtain ⟨σ',β',hg'⟩:=h'.gg
     have p0:GG (B1.lock w1.heap.size (.mapIter (some b) clock seen c0)) σ' β' (SP.head st3 pre) a'.tmps w3:=by
      rcases hw3 with e|e
      ·rw [e];exact hg'
      ·rw [e];exact hg'.drewW
     have p1:=p0.turnLock rfl (by rw [hw];exact hg.bel.size) hn (.mapIter (some b) clock (seen.push en.born) clock);have p2:=p1.put (d:=some r.tn) (a:= .s .junk) (v:= .tuple #[.bool true,en.key,en.val]) (fun t e=>by cases e;rw [h'.size];exact htn) trivial;have p3:=p2.put (d:=some r.tk) (a:= .s (.bool true)) (v:= .bool true) (fun t e=>by cases e;rw [qU,h'.size];exact htk) rfl;exact ⟨by rw [put_defers,put_defers];exact h'.defers,by rw [jU,qU,jU,qU];exact h'.size,_,_,by rw [jU,jU];exact p3⟩
    refine wpIn_seq (wpIn_region_list ?_);rw [hopsB];refine zUN (vs:=[en.key,en.val]) (k:=true) hn1 hn2 (itEv h' e1) (by rw [h'.size];exact htn) hrun ?_;refine wpIn_seq (wpIn_cond_true (by simp [Act.eval,Act.put,h'.size,htk]) (wpIn_skip ?_));refine wpIn_block (wpIn_seq (wpIn_region_list ?_));rw [hfC];obtain ⟨hmb3,hml3⟩:=mapAt hg3
    have hitv:((a'.put (some r.tn) (.tuple #[.bool true,en.key,en.val])).put (some r.tk) (.bool true)).eval (.tmp r.it)= .pointer (some ⟨w1.heap.size,0,none⟩):=itEv hg3 (by
     show yZ ((r.tk,_)::(r.tn,_)::(SP.head st3 pre).env) r.it=_
     rw [qR,if_neg d2,qR,if_neg d1];exact e1)
    refine j5 q3 (zAd (v:= .tuple #[en.key,en.val]) (by rw [q2];intro c e;cases e) (by
     simp only [execOp,q2];rw [show ∀ a:Act,a.eval=a.eval from fun _=>rfl] at *
     rw [hitv,zaz,run_entry_at _ w1.heap.size b clock seen es clock en hml3 hmb3 (mem_left hen).1 hst.2.1];rfl) ?_)
    rw [q1]
    have hg4:GA (B1.lock w1.heap.size (.mapIter (some b) clock (seen.push en.born) clock)) N ((((SP.head st3 pre).put (some r.tn) (.s .junk)).put (some r.tk) (.s (.bool true))).put (some r.te) (.tup [.s (.int .i64 x.1),.s (.bool x.2)]))
     (((a'.put (some r.tn) (.tuple #[.bool true,en.key,en.val])).put (some r.tk) (.bool true)).put (some r.te) (.tuple #[en.key,en.val])) (setBlock w3 w1.heap.size (.mapIter (some b) clock (seen.push en.born) clock)):=by
     obtain ⟨σ',β',hg'⟩:=hg3.gg;have p1:=hg'.put (d:=some r.te) (a:= .tup [.s (.int .i64 x.1),.s (.bool x.2)]) (v:= .tuple #[en.key,en.val]) (fun t e=>by cases e;rw [hg3.size];exact hte) ⟨[en.key,en.val],rfl,⟨f3,fk⟩,f5,trivial⟩;exact ⟨by rw [put_defers];exact hg3.defers,by rw [jU,qU];exact hg3.size,_,_,by rw [jU];exact p1⟩
    have again: ∀ (s':St) (a5:Act) (w5:World),SP.inv (pre++[x])/\zOs s' (SP.head st3 (pre++[x]))->GA (B1.lock w1.heap.size (.mapIter (some b) clock (seen.push en.born) clock)) N s' a5 w5->
     ∃ n',n'<(leftOf es seen).size/\∃ (pre:IBM) (seen:Array Nat) (c0:Nat),n'=(leftOf es seen).size/\SP.inv pre/\zFu w1.heap.size b m es clock seen pre/\clock<=c0/\GA (B1.lock w1.heap.size (.mapIter (some b) clock seen c0)) N (SP.head st3 pre) a5 w5 :=
     fun s' a5 w5 hh h5=>⟨_,left_shrinks es seen en hen,pre++[x],seen.push en.born,clock,rfl,hh.1,hia2,zI _,h5.weaken hh.2⟩
    have:=zCe R (r:=none) (n:=0) (ops:=r.fullC) (Q:=Exit.then (r.rest.wpIn (FR none) 0 P (Exit.inBlock r.c (Exit.then (fun a' w'=> ∃ n',n'<(leftOf es seen).size/\∃ (pre:IBM) (seen:Array Nat) (c0:Nat),n'=(leftOf es seen).size/\SP.inv pre/\zFu w1.heap.size b m es clock seen pre/\clock<=c0/\GA (B1.lock w1.heap.size (.mapIter (some b) clock seen c0)) N (SP.head st3 pre) a' w') (Exit.inBlock r.bl Q)))) (Exit.inBlock r.c (Exit.then (fun a' w'=> ∃ n',n'<(leftOf es seen).size/\∃ (pre:IBM) (seen:Array Nat) (c0:Nat),n'=(leftOf es seen).size/\SP.inv pre/\zFu w1.heap.size b m es clock seen pre/\clock<=c0/\GA (B1.lock w1.heap.size (.mapIter (some b) clock seen c0)) N (SP.head st3 pre) a' w') (Exit.inBlock r.bl Q)))) [] r.backC hback hg4 e2 fun s5 a5 w5 hk5 h5=> ?_
    ·rw [zbF] at this;exact this
    show r.rest.wpIn _ _ _ _ a5 w5;refine zA2 R r.rest hrest h5 hk5 fun ex s6 a6 w6 hk6 h6=> ?_;cases ex with
    | normal=>exact again s6 a6 w6 hk6 h6
    | exit j =>
      simp only [zT8] at hk6;simp only [Exit.inBlock];split at hk6
      ·rename_i ej;rw [if_pos (zH ej)];exact again s6 a6 w6 hk6 h6
      ·rename_i ej;rw [if_neg (fun e'=>by subst e';rw [zbJ] at ej;cases ej)];show Exit.inBlock r.bl Q (.exit j) a6 w6;simp only [Exit.inBlock];split at hk6
       ·rename_i ej2;rw [if_pos (zH ej2)];exact hQ _ B1 _ _ _ hw hgr hdf hk6 (letGo hw hn rfl h6)
       ·rename_i ej2;rw [if_neg (fun e'=>by subst e';rw [zbJ] at ej2;cases ej2)];exact hQ _ B1 _ _ _ hw hgr hdf hk6 (letGo hw hn rfl h6)
    | goto l=>exact hQ _ B1 _ _ _ hw hgr hdf hk6 (letGo hw hn rfl h6)
    | ret=>exact hQ _ B1 _ _ _ hw hgr hdf hk6 (letGo hw hn rfl h6)
    | panic ch=>exact hQ _ B1 _ _ _ hw hgr hdf hk6 (letGo hw hn rfl h6)
    | outgrown=>exact hQ _ B1 _ _ _ hw hgr hdf hk6 (letGo hw hn rfl h6)
end
end Go.Vm
namespace Go.Vm
open Go.RowKit
abbrev zDE:=FuncId->List PtV->List Int->Prop
def zDb (P:Program) (SQ:zDE):Prop:= ∀ f ps L,SQ f ps L->z4B P f ps L
def St.rowNils (T:Tab) (st:St):List Nat->St
 | []=>st
 | i::r=>(st.rowNil T i).rowNils T r
def zEp (T:Tab) (K:St->Prop):List Nat->St->Prop
 | [],st=>st.forceAll K
 | i::r,st=>(st.rowNil T i).forceAll fun st=>zEp T K r st
theorem zFX {T:Tab} {K:St->Prop} : ∀ (ids:List Nat) (st:St),zEp T K ids st=K (st.rowNils T ids)
 | [],st=>by rw [zEp,St.forceAll_eq];rfl
 | i::r,st=>by rw [zEp,St.forceAll_eq,zFX r];rfl
def zD6:jJ->List Nat
 | []=>[]
 | (i,_)::r=>i::zD6 r
def zB1:Code->Bool
 | .seq a b=>match z1B a b with
   | some _=>true
   | none=>zB1 a|| zB1 b
 | .block _ c=>zB1 c
 | .cond _ a b=>zB1 a|| zB1 b
 | .loop c=>zB1 c
 | .rangeFunc _ _ _ _=>true
 | .scope c=>zB1 c
 | _=>false
def qC (T:Tab) (SQ:zDE):Code->St->(Exit->St->Prop)->Prop
 | .seq a b,st,K=>match z1B a b with
   | some r=>z9J T r st K
   | none=>qC T SQ a st (fun e s=>match e with
     | .normal=>qC T SQ b s K
     | e=>K e s)
 | .block id c,st,K=>qC T SQ c st (fun e s=>match e with
   | .exit i=>match Nat.beq i id with|true=>K .normal s|false=>K (.exit i) s
   | e=>K e s)
 | .rangeFunc g ps assign body,st,K=>match y7 st.env g with
   | .s (.clo f qs)=>match Nat.beq ps.size (z9P (zPl qs)+1) with
     | true=> ∃ L,SQ f qs L/\∃ SP:Spec Nat,zEp T (fun st=>zUQ T ps.toList (zPl qs) assign body st L (fun X k=>SP.head (zIv st X) k)/\∀ X,(SP.head (zIv st X) L.length).forceAll (K .normal)) (zD6 st.hp) st
     | false=>False
   | _=>False
 | .skip,st,K=>zA8 T .skip st K
 | .label l,st,K=>zA8 T (.label l) st K
 | .region i o d,st,K=>zA8 T (.region i o d) st K
 | .cond c a b,st,K=>match zB1 a|| zB1 b with
   | false=>zA8 T (.cond c a b) st K
   | true=>match y7 st.env c with
     | .s (.bool t)=>BIf t (qC T SQ a st K) (qC T SQ b st K)
     | _=>False
 | .loop c,st,K=>match zB1 c with
   | false=>zEp T (fun st=>zA8 T (.loop c) st K) (zD6 st.hp) st
   | true=> ∃ (X:Type) (S:Spec X),(∃ x,S.inv x/\zOs st (S.head st x))/\
     ∀ x,S.inv x->(S.head st x).forceAll fun h=>qC T SQ c h (fun e s=>match e with
       | .normal=> ∃ y,S.inv y/\zOs s (S.head st y)/\S.mu y<S.mu x
       | e=>K e s)
 | .exit i,st,K=>zA8 T (.exit i) st K
 | .goto l,st,K=>zA8 T (.goto l) st K
 | .ret,st,K=>zA8 T .ret st K
 | .scope c,st,K=>qC T SQ c st (fun e s=>match e with
   | .goto _=>False
   | e=>K e s)
 | _,_,_=>False
def zAi (N:Nat):Code->Bool
 | .seq a b=>match z1B a b with
   | some _=>codeOk N a&&codeOk N b
   | none=>zAi N a&&zAi N b
 | .block _ c=>zAi N c
 | .rangeFunc g ps assign body=>zDy g&&(ps.toList.all (fun p=>Nat.blt p N)&&(codeOk N assign&&codeOk N body))
 | .cond c a b=>match zB1 a|| zB1 b with
   | false=>codeOk N (.cond c a b)
   | true=>zDy c&&zAi N a&&zAi N b
 | .loop c=>match zB1 c with
   | false=>codeOk N (.loop c)
   | true=>zAi N c
 | .scope c=>zAi N c
 | c=>codeOk N c
def mark (D:Nat):Deferred:= {target:= .collected D,args:= #[]}
structure Marks (B0 B:Base):Prop where
 w:B.w=B0.w
 grew:zTG B0 B.sg
 ds: ∃ Ds:List Nat,B.dfs=Ds.map mark/\Ds.Nodup/\∀ D∈Ds,B.sg D=some (.deferred (some []))/\B0.w.heap.size<=D
section
variable {P:Program} {T:Tab} {SQ:zDE} {B B0:Base} {w w':World} {I τ:Sig} {M:yR} {st:St} {tmps:Array Value} {N:Nat} {a:Act}
theorem Marks.more {B1:Base} (h:Marks B0 B) {D:Nat} (h1:B1.w=B.w) (h2:zTG B B1.sg) (h3:B1.dfs=mark D::B.dfs) (h4:B1.sg D=some (.deferred (some []))) (h5:B.w.heap.size<=D) (h6:B.sg D=none):Marks B0 B1:=by
 obtain ⟨Ds,e1,e2,e3⟩:=h.ds;refine ⟨h1.trans h.w,⟨h.grew.1.trans h2.1,fun b hb=>(h2.2 b (by rw [h.w];exact hb)).trans (h.grew.2 b hb)⟩,D::Ds,by rw [h3,e1];rfl,zbG.2 ⟨fun hm=> ?_,e2⟩,fun D' hD=> ?_⟩
 ·rw [(e3 D hm).1] at h6;cases h6
 ·rcases zT.1 hD with e|hD
  ·subst e;exact ⟨h4,by rw [<- h.w];exact h5⟩
  ·obtain ⟨k1,k2⟩:=e3 D' hD;obtain ⟨o',e4,e5⟩:=h2.1 _ _ k1;have:=e5.nodata rfl;subst this;exact ⟨e4,k2⟩
theorem Marks.go {B1:Base} (h:Marks B0 B) (h1:B1.w=B.w) (h2:zTG B B1.sg) (h3:B1.dfs=B.dfs):Marks B0 B1:=by
 obtain ⟨Ds,e1,e2,e3⟩:=h.ds;refine ⟨h1.trans h.w,⟨h.grew.1.trans h2.1,fun b hb=>(h2.2 b (by rw [h.w];exact hb)).trans (h.grew.2 b hb)⟩,Ds,by rw [h3,e1],e2,fun D hD=> ?_⟩;obtain ⟨k1,k2⟩:=e3 D hD;obtain ⟨o',e4,e5⟩:=h2.1 _ _ k1;have:=e5.nodata rfl;subst this;exact ⟨e4,k2⟩
theorem zJE: ∀ (ids:List Nat) {st:St},(st.rowNils T ids).env=st.env
 | [],_=>rfl
 | i::r,st=>(zJE r (st:=st.rowNil T i)).trans (zTL i)
theorem GG.rowNils: ∀ (ids:List Nat) {M:yR} {st:St},GG B I M st tmps w->∃ β',GG B I β' (st.rowNils T ids) tmps w
 | [],M,_,h=>⟨M,h⟩
 | i::r,_,_,h=>by
   obtain ⟨β',h'⟩:=h.rowNil (T:=T) i;exact GG.rowNils r h'
theorem zOJ (R:jM P T) (hSQ:zDb P SQ): ∀ (c:Code) {B:Base} {st:St} {a:Act} {w:World} {K:Exit->St->Prop} {Q:Exit->Act->World->Prop},zAi N c=true->Marks B0 B->GA B N st a w->qC T SQ c st K->
 (∀ e B1 st' a' w',Marks B0 B1->K e st'->GA B1 N st' a' w'->Q e a' w')->c.wpIn (FR none) 0 P Q a w:=by
 intro c
 induction c with
 | seq x y ihx ihy =>
   intro B st a w K Q hok hm h hk hQ;simp only [zAi] at hok;simp only [qC] at hk;cases e:z1B x y with
   | some r =>
     rw [e] at hok hk;simp only [zC] at hok;exact z3E R e hok.1 hok.2 h hk fun e B1 st' a' w' h1 h2 h3 hk' h'=>hQ _ _ _ _ _ (hm.go h1 h2 h3) hk' h'
   | none =>
     rw [e] at hok hk;simp only [zC] at hok;refine wpIn_seq (ihx hok.1 hm h hk fun e B1 st' a' w' hm' hk' h'=> ?_);cases e with
     | normal=>exact ihy hok.2 hm' h' hk' hQ
     | _=>exact hQ _ _ _ _ _ hm' hk' h'
 | block id c ih =>
   intro B st a w K Q hok hm h hk hQ;simp only [zAi] at hok;refine wpIn_block (ih hok hm h hk fun e B1 st' a' w' hm' hk' h'=> ?_);cases e with
   | exit i =>
     simp only [Exit.inBlock];dsimp only at hk';split at hk'
     ·rename_i e;rw [if_pos (zH e)];exact hQ _ _ _ _ _ hm' hk' h'
     ·rename_i e;rw [if_neg (fun e'=>by subst e';rw [zbJ] at e;cases e)];exact hQ _ _ _ _ _ hm' hk' h'
   | _=>exact hQ _ _ _ _ _ hm' hk' h'
 | rangeFunc g ps assign body =>
   intro B st a w K Q hok hm h hk hQ;simp only [zAi,zC] at hok;obtain ⟨ho1,ho2,ho3,ho4⟩:=hok;simp only [qC] at hk;split at hk
   case h_2=>exact hk.elim
   rename_i f qs hg;split at hk
   case h_2=>exact hk.elim
   rename_i hnp;obtain ⟨L,hL,SP,hk⟩:=hk;rw [zFX] at hk;obtain ⟨hr,hK⟩:=hk;obtain ⟨σr,βr,hgr⟩:=h.gg;obtain ⟨βn,hgn⟩:=hgr.rowNils (T:=T) (zD6 st.hp);replace h:GA B N (st.rowNils T (zD6 st.hp)) a w:=⟨h.defers,h.size,σr,βn,hgn⟩;rw [<- zJE (T:=T) (st:=st) (zD6 st.hp)] at hg
   have hp: ∀ p∈ps.toList,p<N:=fun p hp=>by
    have:=zJ.1 ho2 p hp;exact Nat.lt_of_succ_le (by simpa [Nat.blt] using this)
   refine z0o R ho3 ho4 hp ho1 h hg (hSQ f qs L hL) (zH hnp) (S:=fun X k=>SP.head (zIv (st.rowNils T (zD6 st.hp)) X) k) hr fun B1 D a' w' h1 h2 h3 h4 h5 h6 h7=> ?_;have:=hK a.tmps;rw [St.forceAll_eq] at this;exact hQ _ _ _ _ _ (hm.more h1 h2 h3 h4 h5 h6) this h7
 | skip=>intro B st a w K Q hok hm h hk hQ;exact zA2 R _ hok h hk fun e st' a' w' hk' h'=>hQ _ _ _ _ _ hm hk' h'
 | label l=>intro B st a w K Q hok hm h hk hQ;exact zA2 R _ hok h hk fun e st' a' w' hk' h'=>hQ _ _ _ _ _ hm hk' h'
 | region i o d=>intro B st a w K Q hok hm h hk hQ;exact zA2 R _ hok h hk fun e st' a' w' hk' h'=>hQ _ _ _ _ _ hm hk' h'
 | cond c x y ihx ihy =>
   intro B st a w K Q hok hm h hk hQ;simp only [zAi] at hok;simp only [qC] at hk;split at hk
   ·rename_i e;rw [e] at hok;exact zA2 R _ hok h hk fun e st' a' w' hk' h'=>hQ _ _ _ _ _ hm hk' h'
   ·rename_i e;rw [e] at hok;simp only [zC] at hok;split at hk
    case h_2=>exact hk.elim
    rename_i t ht;have hev:=zJ3 h hok.1.1 ht;cases t with
    | true=>exact wpIn_cond_true hev (ihx hok.1.2 hm h hk hQ)
    | false=>exact wpIn_cond_false hev (ihy hok.2 hm h hk hQ)
 | loop c ih =>
   intro B st a w K Q hok hm h hk hQ;simp only [zAi] at hok;simp only [qC] at hk;split at hk
   ·rename_i e;rw [e] at hok;rw [zFX] at hk;obtain ⟨σr,βr,hgr⟩:=h.gg;obtain ⟨βn,hgn⟩:=hgr.rowNils (T:=T) (zD6 st.hp);replace h:GA B N (st.rowNils T (zD6 st.hp)) a w:=⟨h.defers,h.size,σr,βn,hgn⟩;exact zA2 R _ hok h hk fun e st' a' w' hk' h'=>hQ _ _ _ _ _ hm hk' h'
   ·rename_i e;rw [e] at hok;have hok:zAi N c=true:=hok;simp only [St.forceAll_eq] at hk;obtain ⟨X,S,⟨x0,hi0,hle0⟩,hround⟩:=hk;refine wpIn_loop_ghost (fun m a w=> ∃ x B,S.inv x/\S.mu x=m/\Marks B0 B/\GA B N (S.head st x) a w) (S.mu x0) ⟨x0,B,hi0,rfl,hm,h.weaken hle0⟩ ?_;rintro m a w ⟨x,B,hi,rfl,hm,hx⟩;refine ih hok hm hx (hround x hi) fun e B1 st' a' w' hm' hk' h'=> ?_;cases e with
    | normal =>
      obtain ⟨y,hy,hle,hlt⟩:=hk';exact ⟨_,hlt,y,B1,hy,rfl,hm',h'.weaken hle⟩
    | _=>exact hQ _ _ _ _ _ hm' hk' h'
 | scope c ih =>
   intro B st a w K Q hok hm h hk hQ;simp only [zAi] at hok;simp only [qC] at hk;rw [FR.none,wpIn_wide];refine wp_scope_straight ((wpIn_wide (n:=0)).1 ?_);rw [<- FR.none];refine ih hok hm h hk fun e B1 st' a' w' hm' hk' h'=> ?_;cases e with
   | goto l=>exact hk'.elim
   | _=>exact hQ _ _ _ _ _ hm' hk' h'
 | exit i=>intro B st a w K Q hok hm h hk hQ;exact zA2 R _ hok h hk fun e st' a' w' hk' h'=>hQ _ _ _ _ _ hm hk' h'
 | goto l=>intro B st a w K Q hok hm h hk hQ;exact zA2 R _ hok h hk fun e st' a' w' hk' h'=>hQ _ _ _ _ _ hm hk' h'
 | ret=>intro B st a w K Q hok hm h hk hQ;exact zA2 R _ hok h hk fun e st' a' w' hk' h'=>hQ _ _ _ _ _ hm hk' h'
 | _=>intro B st a w K Q hok;cases hok
def zH7 (T:Tab) (SQ:zDE) (fn:Func) (args:List AV) (R:AV->Prop):Prop :=
 match fn.body with
 | some c=>(St.init args).forceAll fun s=>qC T SQ c s (post T fn R)
 | none=>False
theorem zHL (R:jM P T) (hSQ:zDb P SQ) {f:FuncId} {fn:Func} {c:Code} (hf:P.funcs[f]? =some fn) (hb:fn.body=some c) (hok:zAi fn.ntmps c=true)
 {args:List AV} (hl:args.length<=fn.ntmps) {q:Option Prop} {u:AV} (h:zBl args->Opt q->zH7 T SQ fn args (fun v=>v=u)):zCn P f args (none,q,u):=by
 intro I vals w hag hv;refine ⟨trivial,fun hq=> ?_⟩;have hga:=zJA (N:=fn.ntmps) hag hv hl;have hk:=h (zCF hv) hq;simp only [zH7,hb,St.forceAll_eq] at hk;refine (callsIn_of_wp_marks (F:=Fence.wide) (n:=0) hf hb trivial ?_).calls (fun _ _ hd=>by cases hd);rw [<- FR.none];refine zOJ (B0:=⟨w,I,[]⟩) R hSQ c hok ⟨rfl,⟨Sig.le.refl _,fun _ _=>rfl⟩,[],rfl,zbS,fun D hD=>by cases hD⟩ hga hk fun e B1 st' a' w' hm hp h'=> ?_
 have fin : (match fn.results.toList.all (zGU T st') with|true=>zKo T fn st'=u|false=>False)->LeavesInM (FR none) 0 P fn a'.tmps (fun e w'=> ∃ v σ',e= .returned v/\I.le σ'/\Ag σ' w'/\
  (∀ b,b<w.heap.size->σ' b=I b)/\y6 σ' [] u v/\Below w.heap.size w w') a'.defers .returning w':=by
  intro hu;split at hu
  case h_2=>exact hu.elim
  rename_i hallok;obtain ⟨σ1,β1,hg⟩:=h'.gg;obtain ⟨Ds,e1,e2,e3⟩:=hm.ds;rw [h'.defers,e1]
  -- the marks, one by one
  have key: ∀ (Ds:List Nat) (B1:Base) (σ1:Sig) (w':World),Ds.Nodup->(∀ D∈Ds,B1.sg D=some (.deferred (some []))/\w.heap.size<=D)->B1.w=w->zTG ⟨w,I,[]⟩ B1.sg->GG B1 σ1 β1 st' a'.tmps w'->
   LeavesInM (FR none) 0 P fn a'.tmps (fun e w'=> ∃ v σ',e= .returned v/\I.le σ'/\Ag σ' w'/\(∀ b,b<w.heap.size->σ' b=I b)/\y6 σ' [] u v/\Below w.heap.size w w') (Ds.map mark) .returning w':=by
   intro Ds
   induction Ds with
   | cons D r ih =>
     intro B1 σ1 w' hn hD hw hgr hg;obtain ⟨hn1,hn2⟩:=zbG.1 hn;obtain ⟨d1,d2⟩:=hD D (zY ..);rw [Base.relock B1 d1] at hg;obtain ⟨_,hl2,_⟩:=hg.locked rfl;have zDU: ∀ b,b≠D->(B1.sg.del D) b=B1.sg b:=fun b hb=>by unfold Sig.del;rw [if_neg hb]
     obtain ⟨hg2,_⟩:=hg.unlock rfl (by show B1.w.heap.size<=D;rw [hw];exact d2) (by show (B1.sg.del D) D=none;unfold Sig.del;rw [if_pos rfl]) (.deferred none);refine ⟨by simp,.inl ⟨D,_,rfl,run_takeDeferred hl2,ih {B1 with sg:=B1.sg.del D} _ _ hn2 (fun D' hD'=> ?_) hw ⟨fun b o e=> ?_,fun b hb=> ?_⟩ hg2⟩⟩
     ·obtain ⟨k1,k2⟩:=hD D' (zQ _ hD');exact ⟨by show (B1.sg.del D) D'=_;rw [zDU _ (fun e=>hn1 (e▸hD'))];exact k1,k2⟩
     ·have hb:b≠D:=fun hb=>by subst hb;have:=hag.lt e;omega
      show ∃ o',(B1.sg.del D) b=some o'/\_;rw [zDU b hb];exact hgr.1 b o e
     ·have hb:b<w.heap.size:=hb;show (B1.sg.del D) b=_;rw [zDU b (by omega)];exact hgr.2 b hb
   | nil =>
     intro B1 σ1 w' _ _ hw hgr hg;have hsl:I.le σ1:=Sig.le.trans hgr.1 hg.grew.1;have hsb: ∀ b,b<w.heap.size->σ1 b=I b:=fun b hb=>(hg.grew.2 b (by rw [hw];exact hb)).trans (hgr.2 b hb);have hbel:Below w.heap.size w w':=by have:=hg.bel;rw [hw] at this;exact this
     have hview: ∀ {x:AV} {v:Value},y6 σ1 β1 x v->y6 (fun b=>if b<w.heap.size then I b else w'.heap[b]?) [] (x.viewT T st'.hp) v:=fun {x v} hx=>by
      refine AV.viewT_rep_at (fun b o e=> ?_) (fun id ob p hi hp=> ?_) hg.mem hx
      ·split
       ·rename_i hlt;rw [hsb b hlt] at e;exact ⟨o,e,.refl⟩
       ·exact hg.mem.ag _ _ e
      ·have:=(hg.sep _ _ _ hi hp).2.1;rw [hw] at this;rw [if_neg (by omega)]
     obtain ⟨vs,hrun,hall⟩:=zB5 (P:=P) (w:=w') (fn:=fn) (tmps:=a'.tmps) (Q:=fun r v=>y6 (fun b=>if b<w.heap.size then I b else w'.heap[b]?) [] (zGQ T st' r) v) (fun r hr=>by
      have hro:=zJ.1 hallok r hr;cases r with
      | tmp t=>exact ⟨_,rfl,hview (hg.env t)⟩
      | cell a t =>
        simp only [zGU] at hro;simp only [zGQ];have hx:=hg.env a;split at hro
        ·rename_i id i k hea;rw [hea] at hx;split at hro
         ·rename_i v hv;obtain ⟨p,_,hptr,_⟩:=hx;obtain ⟨_,hrun⟩:=zBf (w:=w') R.ty R.one hg.mem (t:=t) (hg.env a) (p:=none) (q:=none) (v:=v) (by rw [hea];exact hv);obtain ⟨val,h1,h2⟩:=hrun trivial;refine ⟨val,?_,hview h2⟩;rw [hptr] at h1 ⊢;rw [zBL] at h1;simp only [asAddr,zaz,zb4,zay];exact h1
         ·cases hro
        ·cases hro)
     refine ⟨_,hrun,_,(fun b=>if b<w.heap.size then I b else w'.heap[b]?),rfl,fun b o e=> ?_,fun b o e=> ?_,fun b hb=>by simp [hb],by rw [<- hu];exact zJu hall,hbel⟩
     ·have:b<w.heap.size:=hag.lt e;exact ⟨o,by simp [this,e],.refl⟩
     ·dsimp only at e;split at e
      ·rename_i hlt;rw [<- hsb b hlt] at e;exact hg.mem.ag _ _ e
      ·exact ⟨o,e,.refl⟩
  exact key Ds B1 σ1 w' e2 e3 hm.w hm.grew hg
 cases e with
 | normal=>simp only [post,AV.force_eq] at hp;exact fin hp
 | ret=>simp only [post,AV.force_eq] at hp;exact fin hp
 | _=>exact hp.elim
end
end Go.Vm
namespace S1
theorem zW2 {fn} (o:Option yI.T) (v:Int):zAG ⟨tyL,fn,[]⟩ f90 [(ETy.pt yI).av o,y8.av v] (fun r=>r= .s (.clo 129 [⟨.pt yI,o⟩,⟨y8,v⟩])):=by
 repeat' (conv=>whnf
          first|done|refine qy ?_|refine qG fun _=> ?_|refine qw (fun _=> ?_) (fun _=> ?_)|apply qt|refine qi (fun _=> ?_) (fun _=> ?_)|refine qu ?_|refine qv ?_ ?_|exact zO)
 all_goals try first|refine qz ?_|apply qz5
 all_goals try simp only [qn0,z7,zX,ETy.dflt,Int.reduceToNat,Int.reduceAdd,Int.reduceSub,Int.reduceNeg,Nat.reduceAdd] at *
def zFO:List AV->Option Res:=zCr (.pt yI) y8 (fun o v=>some (none,none,.s (.clo 129 [⟨.pt yI,o⟩,⟨y8,v⟩])))
theorem zI1:qM prog 90 zFO:=mkR (jD fun o v r h=>by cases h;exact fb (fn:=[]) trivial func90 fun _ _=>zW2 o v) func90
def jW (x:yI.T) (b:Int):Nat->Int->List Int
 | 0,_=>[]
 | n+1,c=>c::(if yO x c<0 then [] else if yO x c=b then [] else jW x b n (yO x c))
def yU (o:Option yI.T) (v:Int):List Int:=onO o [] fun x=>if zBR x v then jW x (zAP x v).1 30000 (zAP x v).1 else []
end S1
namespace S1
def z8P:zDE:=fun f ps L=>f=129/\∃ (o:Option yI.T) (v:Int),ps=[⟨.pt yI,o⟩,⟨y8,v⟩]/\(∀ x,o=some x->Good x)/\L=yU o v
def lkO (x:yI.T) (L:List Int) (k:Nat):List Int:=(L.take k).map fun c=>yS x (qY x c)
def zGG (L:List Int) (k:Nat):Int:=if k=0 then -1 else L.getD (k - 1) 0
def zCz (x:yI.T) (v:Int):List Int :=
 lkO x (yU (some x) v) (yU (some x) v).length++(if zGG (yU (some x) v) (yU (some x) v).length>=0/\yO x (zGG (yU (some x) v) (yU (some x) v).length)<0 then [yS x (qV x (zGG (yU (some x) v) (yU (some x) v).length))] else [])
theorem zYg (x:yI.T) (L:List Int) (k:Nat) (h:k<=L.length):(lkO x L k).length=k:=by
 unfold lkO;rw [yV,qZ];omega
theorem zRd (x:yI.T) (L:List Int) (k:Nat) (h:k<L.length):lkO x L (k+1)=lkO x L k++[yS x (qY x (L.getD k 0))]:=by
 have e:L.take (k+1)=L.take k++[L.getD k 0]:=by
  rw [yB h,gdE,gE h];rfl
 unfold lkO;rw [e,zbo];rfl
theorem z1i {x:yI.T} (g:Good x) (c:Int):yO x c<=30000:=by
 unfold yO;split
 ·decide
 ·exact zMI g _
theorem zVd {x:yI.T} (g:Good x) (c:Int):yK x c<=30000:=by
 unfold yK;split
 ·decide
 ·exact zLz g _
theorem zKI {x:yI.T} (g:Good x) {b:Int} : ∀ n c,c<=30000->(jW x b n c).length<=n/\∀ a∈jW x b n c,a<=30000
 | 0,c,_=>⟨zI _,fun a h=>by cases h⟩
 | n + 1,c,hc=>by
   obtain ⟨h1,h2⟩:=zKI g (b:=b) n (yO x c) (z1i g c);unfold jW;split
   ·exact ⟨by simp,fun a h=>by rw [zF] at h;omega⟩
   ·split
    ·exact ⟨by simp,fun a h=>by rw [zF] at h;omega⟩
    ·refine ⟨by rw [yA];omega,fun a h=> ?_⟩;rcases zT.1 h with e|h
     ·omega
     ·exact h2 a h
theorem zJT {x:yI.T} (g:Good x) {c0:Int} (h0:c0<=30000): ∀ n c,c<=30000->(zDL x c0 n c).1<=30000
 | 0,c,_=>by show (0:Int)<=30000;decide
 | n +1,c,hc=>by
   unfold zDL;split
   ·exact hc
   ·split
    ·exact h0
    ·exact zJT g h0 n _ (zVd g c)
theorem zGo {x:yI.T} (g:Good x) (v:Int):(yU (some x) v).length<=30000/\∀ a∈yU (some x) v,a<=30000:=by
 show (if zBR x v then _ else _:List Int).length<=30000/\∀ a∈(if zBR x v then _ else _:List Int),a<=30000;split
 ·exact zKI g _ _ (zJT g (zEX g v) _ _ (zEX g v))
 ·exact ⟨zbH _,fun a h=>by cases h⟩
theorem zY0 {L:List Int} (h: ∀ a∈L,a<=30000) (k:Nat):L.getD k 0<=30000:=by
 rw [gdE];cases e:L[k]? with
 | none=>decide
 | some a=>exact h a (zbM e)
theorem zW8 {L:List Int} (h: ∀ a∈L,a<=30000) (k:Nat):zGG L k<=30000:=by
 unfold zGG;split
 ·decide
 ·exact zY0 h _
def zPP (x:yI.T) (L:List Int):Spec Nat where
 inv _:=True
 live _:=[]
 keep:=[2,4,5,6]
 heap k:=[(2,.flat 54 [.own 4 0 (lkO x L k).length]),(3,.flat 3 [.int .i64 (zGG L k)]),(4,.row y8 3 (lkO x L k))]
 keepH:=[0,1,5]
 mu _:=0
end S1
namespace S1
def z7i:Spec Nat where
 inv _:=True
 live _:=[]
 keep:=[2,4,5,6]
 heap _:=[(2,.flat 54 [.own 4 0 0]),(3,.flat 3 [.int .i64 (-1)]),(4,.row y8 3 [])]
 keepH:=[0,1,5]
 mu _:=0
def zBh (o:Option yI.T) (v:Int):List Int:=onO o [] fun x=>zCz x v
end S1
namespace Go.Vm
open Go.RowKit
def zAp {α:Type} (a b:α):Prop:=a=b
theorem zAp.out {α:Type} {a b:α} (h:zAp a b):a=b:=h
theorem zAp.intro {α:Type} {a b:α} (h:a=b):zAp a b:=h
attribute [irreducible] zAp
def z9A (st:St) (o:Oper):Option (Operand×Operand×List Operand) :=
 match o.op with
 | .call ⟨.value (.tmp t),⟨x::ys⟩,_⟩=>match y7 st.env (.tmp t) with
   | .s (.val (.func (.yield _) ⟨[]⟩ ⟨[]⟩))=>some (.tmp t,x,ys)
   | _=>none
 | _=>none
def z9F (o:Oper):Bool :=
 match o.op with
 | .call ⟨.value (.tmp _),⟨_::_⟩,_⟩=>true
 | _=>false
def yGo (l:Nat) (L:List Int) (sec:zMm) (g x:Operand) (ys:List Operand) (dst:Option Tmp) (st:St) (pre:List Int) (K:St->List Int->Prop):Prop :=
 match y7 st.env g,y7 st.env x,st.hp with
 | .s (.val (.func (.yield l') ⟨[]⟩ ⟨[]⟩)),.s (.int .i64 n),[]=>match ys,sec with
   | [],none=>l'=l/\(pre++[n]) <+: L/\(st.put dst (.s (.bool true))).forceAll fun st=>K st (pre++[n])
   | [y],some s=>l'=l/\(pre++[n]) <+: L/\zAp (y7 st.env y) (.agg (s.1.cells (s.2 n)))/\(st.put dst (.s (.bool true))).forceAll fun st=>K st (pre++[n])
   | _,_=>False
 | _,_,_=>False
def zJV (T:Tab) (l:Nat) (L:List Int) (sec:zMm) (ops:Array Oper):List Oper->St->List Int->(St->List Int->Prop)->Prop
 | [],st,pre,K=>K st pre
 | o :: r, st,pre,K=>match z9A st o with
   | some (g,x,ys)=>match o.guard with
     | none=>yGo l L sec g x ys o.dst st pre fun st pre=>zJV T l L sec ops r st pre K
     | some (j,want)=>match zFl ops st.env j with
       | .s (.bool b)=>BIf b
         (match want with
           | true=>(st.put (qT ops j) (.s (.bool true))).force fun st=>yGo l L sec g x ys o.dst st pre fun st pre=>zJV T l L sec ops r st pre K
           | false=>(st.put (qT ops j) (.s (.bool true))).force fun st=>(st.put o.dst .undef).force fun st=>zJV T l L sec ops r st pre K)
         (match want with
           | true=>(st.put (qT ops j) (.s (.bool false))).force fun st=>(st.put o.dst .undef).force fun st=>zJV T l L sec ops r st pre K
           | false=>(st.put (qT ops j) (.s (.bool false))).force fun st=>yGo l L sec g x ys o.dst st pre fun st pre=>zJV T l L sec ops r st pre K)
       | _=>False
   | none=>zAN T false ops [o] st fun st=>zJV T l L sec ops r st pre K
def z2Q (ops:Array Oper) (draw:Bool):Bool :=
 match draw with
 | false=>ops.toList.any z9F
 | true=>false
def zDt (T:Tab) (l:Nat) (L:List Int) (sec:zMm):Code->St->List Int->(Exit->St->List Int->Prop)->Prop
 | .seq a b,st,pre,K=>zDt T l L sec a st pre (fun e s pre=>match e with
   | .normal=>zDt T l L sec b s pre K
   | e=>K e s pre)
 | .cond c a b,st,pre,K=>match y7 st.env c with
   | .s (.bool t)=>BIf t (zDt T l L sec a st pre K) (zDt T l L sec b st pre K)
   | _=>False
 | .block id c,st,pre,K=>zDt T l L sec c st pre (fun e s pre=>match e with
   | .exit i=>match Nat.beq i id with|true=>K .normal s pre|false=>K (.exit i) s pre
   | e=>K e s pre)
 | .loop c,st,pre,K=> ∃ (X:Type) (S:Spec X) (PR:X->List Int),(∃ x,S.inv x/\PR x=pre/\zOs st (S.head st x))/\
    ∀ x,S.inv x->(S.head st x).forceAll fun h=>zDt T l L sec c h (PR x) (fun e s pre'=>match e with
      | .normal=> ∃ y,S.inv y/\PR y=pre'/\zOs s (S.head st y)/\S.mu y<S.mu x
      | e=>K e s pre')
 | .region i ops draw,st,pre,K=>match z2Q ops draw with
   | true=>zJV T l L sec ops ops.toList st pre (K .normal)
   | false=>zA8 T (.region i ops draw) st (fun e s=>K e s pre)
 | .skip,st,pre,K=>K .normal st pre
 | .exit i,st,pre,K=>K (.exit i) st pre
 | .ret,st,pre,K=>K .ret st pre
 | _,_,_,_=>False
theorem z5o {st:St} {o:Oper} {g x:Operand} {ys:List Operand} (h:z9A st o=some (g,x,ys)): ∃ t ts,g= .tmp t/\o.op= .call ⟨.value (.tmp t),⟨x::ys⟩,ts⟩:=by
 unfold z9A at h;split at h
 ·rename_i t x2 ys2 ts h1;split at h
  ·cases h;exact ⟨t,ts,rfl,h1⟩
  ·cases h
 ·cases h
theorem jG.of_cells {I:Sig} {M:yR} : ∀ {e:ETy} {x:e.T} {ds:List Value},jQ (y5 I M) (e.cells x) ds->jG I e x ds
 | .int _,_,_,h=>by obtain ⟨b,rfl,hb⟩:=h.len_one;exact ⟨by rw [hb.1],hb.2⟩
 | .bool,_,_,h=>by obtain ⟨b,rfl,hb⟩:=h.len_one;show _=_;rw [show _=_ from hb]
 | .arr2,_,ds,h=>by
   match ds,h with
   | [a,b],⟨h1,h2,_⟩=>exact ⟨by rw [h1.1,h2.1],h1.2,h2.2⟩
 | .arr3,_,ds,h=>by
   match ds,h with
   | [a,b,c],⟨h1,h2,h3,_⟩=>exact ⟨by rw [h1.1,h2.1,h3.1],h1.2,h2.2,h3.2⟩
 | .pair a b,x,ds,h=>by
   obtain ⟨m1,m2,e,h1,h2⟩:=jQ.split (l:=a.cells x.1) (l':=b.cells x.2) h;exact ⟨m1,m2,e,jG.of_cells h1,jG.of_cells h2⟩
 | .sl _,_,_,h=>by obtain ⟨b,rfl,hb⟩:=h.len_one;exact hb
 | .mp _ _,_,_,h=>by obtain ⟨b,rfl,hb⟩:=h.len_one;exact hb
 | .pt _,_,_,h=>by obtain ⟨b,rfl,hb⟩:=h.len_one;exact hb
 | .unit,_,_,h=>h.len_nil
 | .fnc,_,_,h=>by obtain ⟨b,rfl,hb⟩:=h.len_one;show _=_;rw [hb.1]
section
variable {P:Program} {T:Tab} {B B0:Base} {w w':World} {I τ:Sig} {M:yR} {st:St} {tmps:Array Value} {N:Nat} {a:Act}
def z7p (st:St):List Operand->zMm->Int->Prop
 | [],none,_=>True
 | [y],some s,n=>y7 st.env y= .agg (s.1.cells (s.2 n))
 | _,_,_=>False
theorem z5g {l:Nat} {L:List Int} {sec:zMm} {g x:Operand} {ys:List Operand} {dst:Option Tmp} {pre:List Int} {K:St->List Int->Prop} (h:yGo l L sec g x ys dst st pre K) :
 y7 st.env g= .s (.val (.func (.yield l) #[] #[]))/\∃ n,y7 st.env x= .s (.int .i64 n)/\st.hp=[]/\(pre++[n]) <+: L/\K (st.put dst (.s (.bool true))) (pre++[n])/\z7p st ys sec n:=by
 unfold yGo at h;split at h
 ·rename_i l' n h1 h2 h3;split at h
  ·obtain ⟨rfl,hp,hk⟩:=h;rw [St.forceAll_eq] at hk;exact ⟨h1,n,h2,h3,hp,hk,trivial⟩
  ·obtain ⟨rfl,hp,hy,hk⟩:=h;rw [St.forceAll_eq] at hk;exact ⟨h1,n,h2,h3,hp,hk,hy.out⟩
  ·exact h.elim
 ·exact h.elim
theorem zS0 {o:Oper} {ρ:Operand->Value} {l:Nat} {g x:Operand} {ys:List Operand} {ts:Array TypeId} {r:Result Next} (ho:o.op= .call ⟨.value g,⟨x::ys⟩,ts⟩) (hf:ρ g= .func (.yield l) #[] #[]) (hy:(Instr.yield l (ρ x::ys.map ρ).toArray).run P w=r):(execOp ρ o).run P w=r:=by
 simp only [execOp,ho,resolve,hf,Deferred.ofValue,zaz,zb4,zay,invoke];simpa using hy
theorem GG.yielded (h:GG B I M st tmps w) (hh:st.hp=[]) (hag:Ag I w'):GG ⟨w',I,[]⟩ I M st tmps w' :=
 ⟨⟨hag,fun id ob hi=>by rw [hh] at hi;cases hi⟩,h.env,h.len,fun id ob p hi=>(by rw [hh] at hi;cases hi),Below.refl _ _,Sig.le.refl _,fun _ _=>rfl⟩
def YOk (P:Program) (l:Nat) (L:List Int) (sec:zMm) (J:List Int->Sig->World->Prop):Prop :=
 ∀ pre x vs σp σ1 Ws W1,J pre σp Ws->Below Ws.heap.size Ws W1->(∀ b,b<Ws.heap.size->σ1 b=σp b)->Ag σ1 W1->(pre++[x]) <+: L->zFL σ1 sec x vs->
   YieldAt Fence.wide 0 P l (Value.int .i64 x::vs).toArray W1 fun e W'=>e= .returned (.bool true)/\J (pre++[x]) σ1 W'/\Ag σ1 W'
theorem zTT {l:Nat} {L:List Int} {sec:zMm} {J:List Int->Sig->World->Prop} (hY:YOk P l L sec J) {o:Oper} (ho:yT N o=true) {ops:Array Oper} {os:List Oper} {Q:Exit->Act->World->Prop} {t:Tmp} {x:Operand} {ys:List Operand} {ts:Array TypeId} (hop:o.op= .call ⟨.value (.tmp t),⟨x::ys⟩,ts⟩)
 {pre:List Int} {K:St->List Int->Prop} (hd:B.dfs=[]) (hj:J pre B.sg B.w) (h:GA B N st a w) (hk:yGo l L sec (.tmp t) x ys o.dst st pre K)
 (hQ: ∀ B1 st' pre' a' w',B1.dfs=[]->J pre' B1.sg B1.w->K st' pre'->GA B1 N st' a' w'->wpListIn (FR none) 0 P ops Q os a' w'):o.wpIn (FR none) 0 P a w (wpListIn (FR none) 0 P ops Q os) Q:=by
 obtain ⟨hg,n,hx,hh,hpre,hK,hsec⟩:=z5g hk;obtain ⟨σ1,β1,hgg⟩:=h.gg
 have hxo:zDy x=true:=by
  simp only [yT,zC,zJ] at ho;exact ho.2 x (by simp [hop,Op.operands,Call.operands])
 have hgv:a.eval (.tmp t)= .func (.yield l) #[] #[]:=by
  have:=jP hgg (x:= .tmp t) rfl;rw [hg] at this;exact this.1
 have hxv:a.eval x= .int .i64 n:=by
  have:=jP hgg hxo;rw [hx] at this;exact this.1
 have hsr:zFL σ1 sec n (ys.map a.eval):=by
  unfold z7p at hsec;split at hsec
  ·rfl
  ·rename_i y s
   have hyo:zDy y=true:=by
    simp only [yT,zC,zJ] at ho;exact ho.2 y (by simp [hop,Op.operands,Call.operands])
   have:=jP hgg hyo;rw [hsec] at this;obtain ⟨ds,e1,e2⟩:=this;exact ⟨ds,by rw [zbk,zcF,e1],jG.of_cells e2⟩
  ·exact hsec.elim
 obtain ⟨fn,tmps,assign,body,hrun,hround⟩:=hY pre n _ B.sg σ1 B.w w hj hgg.bel hgg.grew.2 hgg.mem.ag hpre hsr;refine ⟨fun f' _=>trivial,?_⟩;have hex:=zS0 (r:= .ok (.round l fn tmps assign body) w) hop hgv (by rw [hxv];exact hrun);rw [Oper.semAt_eq _ _ _ (by rw [hop];intro c e;cases e),hex];refine ⟨(fun e=>by cases e),?_⟩;refine hround.mono fun e w' hpost=> ?_;obtain ⟨rfl,hj',hag'⟩:=hpost;refine hQ ⟨w',σ1,[]⟩ (st.put o.dst (.s (.bool true))) (pre++[n]) _ _ rfl hj' hK ?_
 have hy:=(hgg.yielded hh hag').put (d:=o.dst) (zAb h.size ho) (a:= .s (.bool true)) (v:= .bool true) rfl;exact zEU (h.defers.trans hd) h.size ⟨σ1,β1,hy⟩
theorem zIC (R:jM P T) {l:Nat} {L:List Int} {sec:zMm} {J:List Int->Sig->World->Prop} (hY:YOk P l L sec J) {ops:Array Oper} {Q:Exit->Act->World->Prop} : ∀ (os:List Oper) {B:Base} {st:St} {a:Act} {w:World} {pre:List Int} {K:St->List Int->Prop},
 (∀ o∈os,yT N o=true)->B.dfs=[]->J pre B.sg B.w->GA B N st a w->zJV T l L sec ops os st pre K->
 (∀ B1 st' pre' a' w',B1.dfs=[]->J pre' B1.sg B1.w->K st' pre'->GA B1 N st' a' w'->Q .normal a' w')->wpListIn (FR none) 0 P ops Q os a w
 | [],B,st,a,w,pre,K,_,hd,hj,h,hk,hQ=>hQ _ _ _ _ _ hd hj hk h
 | o ::os,B,st,a,w,pre,K,hall,hd,hj,h,hk,hQ=>by
   have ho:=hall o (by simp);have hall': ∀ o∈os,yT N o=true:=fun o' ho'=>hall o' (by simp [ho']);simp only [zJV,St.force_eq] at hk;split at hk
   case h_2 =>
    have:=zCe R os [o] (ops:=ops) (Q:=Q) (fun o' ho'=>hall o' (by rw [zF.1 ho'];simp)) h hk fun st' a' w' hk' h'=>zIC R hY os hall' hd hj h' hk' hQ;exact this
   rename_i g x ys hyf;obtain ⟨t,ts,rfl,hop⟩:=z5o hyf
   have go: ∀ {st:St},GA B N st a w->yGo l L sec (.tmp t) x ys o.dst st pre (fun st pre=>zJV T l L sec ops os st pre K)->o.wpIn (FR none) 0 P a w (wpListIn (FR none) 0 P ops Q os) Q:=fun h hk =>
    zTT hY ho hop hd hj h hk fun B1 st' pre' a' w' hd' hj' hk' h'=>zIC R hY os hall' hd' hj' h' hk' hQ
   have skip: ∀ {st:St},GA B N st a w->zJV T l L sec ops os (st.put o.dst .undef) pre K->wpListIn (FR none) 0 P ops Q os (a.put o.dst undef) w:=fun h hk =>
    zIC R hY os hall' hd hj (zBG h ho) hk hQ
   simp only [wpListIn];cases hg:o.guard with
   | none =>
     simp only [hg] at hk;have:Region.wanted o (yielded ops a.tmps)=true:=by simp [Region.wanted,hg]
     rw [if_pos this];exact go h hk
   | some jw =>
     obtain ⟨j,want⟩:=jw;simp only [hg] at hk;obtain ⟨I,M,hgg⟩:=h.gg;split at hk
     case h_2=>exact hk.elim
     rename_i b hb;obtain ⟨d,hd1,hd2⟩:=j8 (ops:=ops) (env:=st.env) (j:=j) (by rw [hb];simp);rw [hd2] at hb;have hv:=hgg.env d;rw [hb] at hv;have hy:=zEu (ops:=ops) hd1 (show a.tmps.getD d undef= .bool b from hv);rw [hd1] at hk;cases b with
     | true =>
       cases want with
       | true =>
         rw [if_pos (by simp [Region.wanted,hg,hy])];exact go (zBv h hb) hk
       | false =>
         rw [if_neg (by simp [Region.wanted,hg,hy])];exact ⟨fun f _=>trivial,skip (zBv h hb) hk⟩
     | false =>
       cases want with
       | true =>
         rw [if_neg (by simp [Region.wanted,hg,hy])];exact ⟨fun f _=>trivial,skip (zBv h hb) hk⟩
       | false =>
         rw [if_pos (by simp [Region.wanted,hg,hy])];exact go (zBv h hb) hk
theorem zWa (R:jM P T) {l:Nat} {L:List Int} {sec:zMm} {J:List Int->Sig->World->Prop}
 (hY:YOk P l L sec J) :
 ∀ (c:Code) {B:Base} {st:St} {a:Act} {w:World} {pre:List Int} {K:Exit->St->List Int->Prop} {Q:Exit->Act->World->Prop},codeOk N c=true->B.dfs=[]->J pre B.sg B.w->GA B N st a w->zDt T l L sec c st pre K->
 (∀ e B1 st' pre' a' w',B1.dfs=[]->J pre' B1.sg B1.w->K e st' pre'->GA B1 N st' a' w'->Q e a' w')->c.wpIn (FR none) 0 P Q a w:=by
 intro c
 induction c with
 | skip=>intro B st a w pre K Q _ hd hj h hk hQ;exact wpIn_skip (hQ _ _ _ _ _ _ hd hj hk h)
 | exit i=>intro B st a w pre K Q _ hd hj h hk hQ;exact wpIn_exit (hQ _ _ _ _ _ _ hd hj hk h)
 | ret=>intro B st a w pre K Q _ hd hj h hk hQ;exact wpIn_ret (hQ _ _ _ _ _ _ hd hj hk h)
 | seq x y ihx ihy =>
   intro B st a w pre K Q hok hd hj h hk hQ;simp only [codeOk,zC] at hok;refine wpIn_seq (ihx hok.1 hd hj h hk fun e B1 st' pre' a' w' hd' hj' hk' h'=> ?_);cases e with
   | normal=>exact ihy hok.2 hd' hj' h' hk' hQ
   | _=>exact hQ _ _ _ _ _ _ hd' hj' hk' h'
 | cond c x y ihx ihy =>
   intro B st a w pre K Q hok hd hj h hk hQ;simp only [codeOk,zC] at hok;simp only [zDt] at hk;split at hk
   ·rename_i t ht;have hev:=zJ3 h hok.1.1 ht;cases t with
    | true=>exact wpIn_cond_true hev (ihx hok.1.2 hd hj h hk hQ)
    | false=>exact wpIn_cond_false hev (ihy hok.2 hd hj h hk hQ)
   ·exact hk.elim
 | block id c ih =>
   intro B st a w pre K Q hok hd hj h hk hQ;simp only [codeOk] at hok;refine wpIn_block (ih hok hd hj h hk fun e B1 st' pre' a' w' hd' hj' hk' h'=> ?_);cases e with
   | exit i =>
     simp only [Exit.inBlock];dsimp only at hk';split at hk'
     ·rename_i e;rw [if_pos (zH e)];exact hQ _ _ _ _ _ _ hd' hj' hk' h'
     ·rename_i e;rw [if_neg (fun e'=>by subst e';rw [zbJ] at e;cases e)];exact hQ _ _ _ _ _ _ hd' hj' hk' h'
   | _=>exact hQ _ _ _ _ _ _ hd' hj' hk' h'
 | loop c ih =>
   intro B st a w pre K Q hok hd hj h hk hQ;simp only [codeOk] at hok;simp only [zDt,St.forceAll_eq] at hk;obtain ⟨X,S,PR,⟨x0,hi0,hp0,hle0⟩,hround⟩:=hk;refine wpIn_loop_ghost (fun m a w=> ∃ x B,S.inv x/\S.mu x=m/\B.dfs=[]/\J (PR x) B.sg B.w/\GA B N (S.head st x) a w) (S.mu x0) ⟨x0,B,hi0,rfl,hd,by rw [hp0];exact hj,h.weaken hle0⟩ ?_;rintro m a w ⟨x,B,hi,rfl,hd,hj,hx⟩;refine ih hok hd hj hx (hround x hi) fun e B1 st' pre' a' w' hd' hj' hk' h'=> ?_
   cases e with
   | normal =>
     obtain ⟨y,hy,hp,hle,hlt⟩:=hk';exact ⟨_,hlt,y,B1,hy,rfl,hd',by rw [hp];exact hj',h'.weaken hle⟩
   | _=>exact hQ _ _ _ _ _ _ hd' hj' hk' h'
 | region id ops draw =>
   intro B st a w pre K Q hok hd hj h hk hQ;simp only [zDt] at hk;split at hk
   ·rename_i hyp
    have hdr:draw=false:=by
     unfold z2Q at hyp;cases draw with
     | false=>rfl
     | true=>cases hyp
    subst hdr;simp only [codeOk,zC,zJ] at hok;refine wpIn_region_list ?_;exact zIC R hY ops.toList hok.1 hd hj h hk fun B1 st' pre' a' w' hd' hj' hk' h'=>hQ _ _ _ _ _ _ hd' hj' hk' h'
   ·exact zA2 R _ hok h hk fun e st' a' w' hk' h'=>hQ _ _ _ _ _ _ hd hj hk' h'
 | _=>intro B st a w pre K Q hok hd hj h hk;exact hk.elim
def zI5 (l:Nat) (ps:List PtV):List AV:= .s (.val (.func (.yield l) #[] #[]))::ps.map fun q=> .s (.pt q.e (some q.x))
def z9Q (L:List Int):Exit->St->List Int->Prop
 | .normal,_,pre=>pre=L
 | .ret,_,pre=>pre=L
 | _,_,_=>False
def zQ0 (T:Tab) (fn:Func) (ps:List PtV) (L:List Int):Prop :=
 match fn.body with
 | some c=> ∀ l:Nat,(St.init (zI5 l ps)).forceAll fun s=>zDt T l L (zPl ps) c s [] (z9Q L)
 | none=>False
theorem zFW {l:Nat} : ∀ {ps:List PtV} {vs:List Value},jQ (fun (q:PtV) u=>jG I (.pt q.e) (some q.x) [u]) ps vs->jH I [] (ps.map fun q=>AV.s (.pt q.e (some q.x))) vs
 | [],[],_=>trivial
 | q::ps,v::vs,h=>⟨h.1,zFW (l:=l) h.2⟩
 | [],_::_,h=>h.elim
 | _::_,[],h=>h.elim
theorem seq_ok (R:jM P T) {f:FuncId} {fn:Func} {c:Code} (hf:P.funcs[f]? =some fn) (hb:fn.body=some c) (hok:codeOk fn.ntmps c=true) (hr:fn.results= #[])
 (hn : (fn.name == "runtime.NumGoroutine") = false) {ps : List PtV} (hl : ps.length + 1 ≤ fn.ntmps) {L : List Int} (hL : ∀ x ∈ L, InK .i64 x) (h : zBl (zI5 0 ps) → zQ0 T fn ps L) : z4B P f ps L := by
 refine ⟨fun args w=> ?_,hL,fun I vs hcap l J W hag hst hY hJ=> ?_⟩
 ·simp only [callFunc,zaz,run_program,zay,hf,hn,hb];simp
 ·have hv:jH I [] (zI5 l ps) (.func (.yield l) #[] #[]::vs):=⟨⟨rfl,fun cs e=>by cases e⟩,zFW (l:=l) hcap⟩;have hv0:jH I [] (zI5 0 ps) (.func (.yield 0) #[] #[]::vs):=⟨⟨rfl,fun cs e=>by cases e⟩,zFW (l:=0) hcap⟩;have hk:=h (zCF hv0);simp only [zQ0,hb,St.forceAll_eq] at hk;have hga:=zJA (N:=fn.ntmps) hag hv (by simpa [zI5] using hl);have e1: #[Value.func (.yield l) #[] #[]]++vs.toArray=(Value.func (.yield l) #[] #[]::vs).toArray:=by simp
  rw [e1];refine callsIn_of_wp (F:=Fence.wide) (n:=0) hf hb trivial ?_;rw [<- FR.none];refine zWa (J:=J) (L:=L) R hY c hok rfl hJ hga (hk l) fun e B1 st' pre' a' w' hd' hj' hk' h'=> ?_
  have fin:pre'=L->a'.defers=[]/\∃ v,(results fn a'.tmps).run P w'= .ok v w'/\(∃ v',(Ending.returned v)= .returned v')/\∃ σ',J L σ' w':=by
   intro e;subst e;obtain ⟨vs,hrun,_⟩:=zB5 (P:=P) (w:=w') (fn:=fn) (tmps:=a'.tmps) (Q:=fun r v=>True) (fun r hr'=>by rw [hr] at hr';cases hr');obtain ⟨σ1,β1,hg⟩:=h'.gg;exact ⟨h'.defers.trans hd',_,hrun,⟨_,rfl⟩,_,hst _ _ _ _ hj' hg.bel⟩
  cases e with
  | normal=>exact fin hk'
  | ret=>exact fin hk'
  | _=>exact hk'.elim
end
end Go.Vm
namespace S1
theorem zDA {L r:List Int} {c:Int} {k:Nat} (h:L.drop k=c::r):L.take (k+1)=L.take k++[c]/\L.drop (k+1)=r:=by
 have hk:k<L.length:=by
  rcases Nat.lt_or_ge k L.length with h'|h'
  ·exact h'
  ·rw [zb7 h'] at h;cases h
 rw [List.drop_eq_getElem_cons hk] at h;injection h with h1 h2
 exact ⟨by rw [yB hk,h1],h2⟩
theorem zSH {L:List Int} {c:Int} {k:Nat} (h:L.drop k=[c]):L.take k++[c]=L:=by
 have:=zDA h;rw [<- this.1];have h2:=jE (k+1) L;rw [this.2,zbF] at h2;exact h2
theorem zQp {L r:List Int} {c:Int} {k:Nat} (h:L.drop k=c::r):(L.take k++[c]) <+: L:=by
 rw [<- (zDA h).1];exact List.take_prefix _ _
theorem zO8 {x:yI.T} {c0:Int} (h0:0<=c0): ∀ n c,0<=c->0<=(zDL x c0 n c).1
 | 0,c,_=>by show (0:Int)<=0;decide
 | n +1,c,hc=>by
   unfold zDL;split
   ·exact hc
   ·split
    ·exact h0
    ·exact zO8 h0 n _ (by omega)
theorem zKL {x:yI.T} {b:Int} : ∀ n c,0<=c->∀ a∈jW x b n c,0<=a
 | 0,c,_,a,h=>by cases h
 | n + 1,c,hc,a,h=>by
   unfold jW at h;split at h
   ·rw [zF] at h;omega
   ·split at h
    ·rw [zF] at h;omega
    ·rcases zT.1 h with e|h
     ·omega
     ·exact zKL n _ (by omega) a h
theorem zKV {x:yI.T} (g:Good x) (v:Int): ∀ a∈yU (some x) v,InK .i64 a:=fun a h=>by
 have h1:=(zGo g v).2 a h
 have h2:0<=a:=by
  have h:a∈(if zBR x v then _ else _:List Int):=h;split at h
  ·rename_i ht
   have hc:0<=yY x v:=by
    simp only [zBR,zC,zP] at ht;exact ht.2.2
   exact zKL _ _ (zO8 hc _ _ hc) a h
  ·cases h
 exact InK.i64.2 (by unfold yP;omega)
theorem zBq {x:yI.T} {b c:Int} {k:Nat} (h:k<=24576):jW x b (30000 - k) c=c::(if yO x c<0 then [] else if yO x c=b then [] else jW x b (30000 - (k+1)) (yO x c)):=by
 rw [show 30000 - k=(30000 - (k+1))+1 by omega];rfl
theorem zEb {x:yI.T} {v:Int} (h1:0<=v) (h2:v<x.1.1) (h3:0<=yY x v):yU (some x) v=jW x (zAP x v).1 30000 (zAP x v).1:=by
 show (if zBR x v then _ else _:List Int)=_;rw [if_pos (by unfold zBR;rw [decide_eq_true h1,decide_eq_true h2,decide_eq_true h3];rfl)]
theorem zEa {x:yI.T} {v:Int} (h: ¬ (0<=v/\v<x.1.1/\0<=yY x v)):yU (some x) v=[]:=by
 show (if zBR x v then _ else _:List Int)=_;rw [if_neg (fun e=>h (by simpa [zBR] using e))]
def z5Y (x:yI.T) (b:Int):Spec Nat where
 inv k:=zT3 (yO x) b k/\(jW x b 30000 b).drop k=jW x b (30000 - k) (iter (yO x) b k)
 live k:=[(6,.s (.int .i64 (iter (yO x) b k)))]
 keep:=[0,1,2,4]
 heap _:=[]
 keepH:=[]
 mu k:=30000 - k
theorem zSm (x:yI.T) (v:Int) (g:Good x):zQ0 ⟨tyL,[(88,zIS),(89,zIb),(130,zGS)],[]⟩ Tryz.f129 [⟨.pt yI,some x⟩,⟨y8,v⟩] (yU (some x) v):=by
 repeat' (conv=>whnf
          first|done|refine qy ?_|refine qG fun _=> ?_|refine qw (fun _=> ?_) (fun _=> ?_)|apply qt|refine qi (fun _=> ?_) (fun _=> ?_)|refine (fun (l:Nat)=> ?_)|refine zB Nat (zB (z5Y x (zAP x v).1) (zB (fun k=>(jW x (zAP x v).1 30000 (zAP x v).1).take k) (zA (zB 0 (zA (yJ.out ?_) (zA (zAp.out ?_) (zA ?_ (zA ?_ rfl))))) (fun k hk=> ?_))))|((with_reducible show (∃ y,And (Spec.inv (z5Y _ _) y) _));refine zB (k+1) (zA (yJ.out ?_) (zA (zAp.out ?_) (zA (zA ?_ (zA ?_ rfl)) (yJ.out ?_)))))|refine zA (yJ.out (p:=(_++[_]) <+: _) ?_) ?_|refine zAp.out ?_|refine qu ?_|refine qv ?_ ?_|exact zO)
 all_goals try first|refine qz ?_|apply qz5
 all_goals try simp only [qn0,z7,zX,ETy.dflt,Int.reduceToNat,Int.reduceAdd,Int.reduceSub,Int.reduceNeg,Nat.reduceAdd,z5Y] at *
 ·exact qh ⟨fun j a b=>by omega,rfl⟩
 ·exact zAp.intro rfl
 ·rename_i h1 h2 h3;rw [zEb (v:=v) h1 h2 h3];have h24:=zAz g hk.1;have:=hk.2;rw [zBq h24] at this;exact qh (zQp this)
 ·rename_i h1 h2 h3;exact qh ⟨g,zZP g (zJT g (zEX g v) _ _ (zEX g v)) k⟩
 ·rename_i h1 h2 h3 h4;rw [zEb (v:=v) h1 h2 h3];have h24:=zAz g hk.1;have:=hk.2;rw [zBq h24,if_pos h4] at this;exact zAp.intro (zSH this)
 ·rename_i h1 h2 h3 h4 h5;replace h5:yO x (iter (yO x) (zAP x v).1 k)=(zAP x v).1:=h5;rw [zEb (v:=v) h1 h2 h3];have h24:=zAz g hk.1;have:=hk.2;rw [zBq h24,if_neg h4,if_pos h5] at this;exact zAp.intro (zSH this)
 ·rename_i h1 h2 h3 h4 h5;replace h5: ¬ yO x (iter (yO x) (zAP x v).1 k)=(zAP x v).1:=h5;have h24:=zAz g hk.1;have:=hk.2;rw [zBq h24,if_neg h4,if_neg h5] at this;exact qh ⟨hk.1.succ h4 h5,(zDA this).2⟩
 ·rename_i h1 h2 h3 h4 h5;have h24:=zAz g hk.1;have:=hk.2;rw [zBq h24] at this;exact zAp.intro (zDA this).1
 ·rename_i h1 h2 h3 h4 h5;have h24:=zAz g hk.1;refine qh ?_;omega
 ·rename_i h1 h2 h3;exact zAp.intro (zEa (fun h=>h3 h.2.2)).symm
 ·rename_i h1 h2;exact zAp.intro (zEa (fun h=>h2 h.2.1)).symm
 ·rename_i h1;exact zAp.intro (zEa (fun h=>h1 h.1)).symm
theorem zP0 (v:Int):zQ0 ⟨tyL,[(88,zIS),(89,zIb),(130,zGS)],[]⟩ Tryz.f129 [⟨.pt yI,none⟩,⟨y8,v⟩] (yU none v):=by
 repeat' (conv=>whnf
          first|done|refine qy ?_|refine qG fun _=> ?_|refine qw (fun _=> ?_) (fun _=> ?_)|apply qt|refine qi (fun _=> ?_) (fun _=> ?_)|refine (fun (l:Nat)=> ?_)|refine zAp.out ?_|refine qu ?_|refine qv ?_ ?_|exact zO)
 all_goals try first|refine qz ?_|apply qz5
 all_goals try simp only [qn0,z7,zX,ETy.dflt,Int.reduceToNat,Int.reduceAdd,Int.reduceSub,Int.reduceNeg,Nat.reduceAdd] at *
 exact zAp.intro rfl
theorem z9Z:zDb prog z8P:=fun f ps L h=>by
 obtain ⟨rfl,o,v,rfl,hg,rfl⟩:=h;cases o with
 | none=>exact seq_ok (yN (fn:=[(88,zIS),(89,zIb),(130,zGS)]) (fr:=[]) ⟨zMG,zLh,zHw,trivial⟩ trivial) func129 rfl (by kernel_rfl) rfl (by kernel_rfl) (zU rfl) (fun a h=>by cases h) fun _=>zP0 v
 | some x=>exact seq_ok (yN (fn:=[(88,zIS),(89,zIb),(130,zGS)]) (fr:=[]) ⟨zMG,zLh,zHw,trivial⟩ trivial) func129 rfl (by kernel_rfl) rfl (by kernel_rfl) (zU rfl) (zKV (hg x rfl) v) fun _=>zSm x v (hg x rfl)
end S1
