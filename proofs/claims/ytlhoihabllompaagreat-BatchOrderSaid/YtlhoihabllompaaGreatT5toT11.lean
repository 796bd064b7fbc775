/- A part of the proofs of the laws. -/
import Derived.Test.YtlhoihabllompaaGreatT0toVmInl
import Derived.Test.YtlhoihabllompaaGreatVmSort
import Derived.Test.YtlhoihabllompaaGreatLaySort
set_option linter.unusedSimpArgs false
set_option linter.unusedVariables false
set_option maxHeartbeats 8000000
set_option maxRecDepth 100000
open Go Go.Vm Go.Proofs
namespace S1
def zYM (x y:Int):Int:=if x<y then -1 else if x>y then 1 else 0
theorem z65 {fn} (x:Int):zAG ⟨tyL,fn,[]⟩ Tryz.f177 [(ETy.int .i64).av x] (fun v=>v= .s (.bool false)):=by
 repeat' (conv=>whnf
          first|done|refine qN ?_|apply qH|refine qG fun _=> ?_|apply qB|apply qa|apply qo|refine qe (fun _=> ?_) (fun _=> ?_)|refine qn (fun _=> ?_) (fun _=> ?_)|refine qd (fun _=> ?_) (fun _=> ?_)|apply qt|refine qi (fun _=> ?_) (fun _=> ?_)|refine zA rfl ?_|apply qE|apply qO|exact zO|apply qq|apply qs|refine qK (by kernel_rfl) ?_|apply qr)
 all_goals try first|refine qz ?_|apply qz5
 all_goals try simp only [z6,zS,yE,zZ,qn1,z7,qn2,zX,ETy.dflt,qn3,qn4,Int.reduceToNat,Int.reduceAdd,Int.reduceSub,Int.reduceNeg,Nat.reduceAdd,zD] at *
 simp
def z8W:List AV->Option Res:=zEz (.int .i64) (fun _=>some (none,none,.s (.bool false)))
theorem z7s:qM Tryz.prog 177 z8W:=⟨zA1 fun x r h=>by cases h;exact qL (yN (fn:=[]) (fr:=[]) trivial trivial) Tryz.func177 (by kernel_rfl) fun _ _=>z65 x,_,Tryz.func177,by kernel_rfl,by kernel_rfl⟩
theorem z7V (x y:Int):zAG ⟨tyL,[(177,z8W)],[]⟩ Tryz.f169 [(ETy.int .i64).av x,(ETy.int .i64).av y] (fun v=>v= .s (.int .i64 (zYM x y))):=by
 repeat' (conv=>whnf
          first|done|refine qN ?_|apply qH|refine qG fun _=> ?_|apply qB|apply qa|apply qo|refine qe (fun _=> ?_) (fun _=> ?_)|refine qn (fun _=> ?_) (fun _=> ?_)|refine qd (fun _=> ?_) (fun _=> ?_)|apply qt|refine qi (fun _=> ?_) (fun _=> ?_)|refine zA rfl ?_|apply qE|apply qO|exact zO|apply qq|apply qs|refine qK (by kernel_rfl) ?_|apply qr)
 all_goals try first|refine qz ?_|apply qz5
 all_goals try simp only [z6,zS,yE,zZ,qn1,z7,qn2,zX,ETy.dflt,qn3,qn4,Int.reduceToNat,Int.reduceAdd,Int.reduceSub,Int.reduceNeg,Nat.reduceAdd,zD,zYM] at *
 all_goals (repeat' split)<;>omega
def z9Y:List AV->Option Res:=zCr (.int .i64) (.int .i64) (fun x y=>some (none,none,.s (.int .i64 (zYM x y))))
theorem z7W:qM Tryz.prog 169 z9Y:=⟨jD fun x y r h=>by cases h;exact qL (yN (fn:=[(177,z8W)]) (fr:=[]) ⟨z7s,trivial⟩ trivial) Tryz.func169 (by kernel_rfl) fun _ _=>z7V x y,_,Tryz.func169,by kernel_rfl,by kernel_rfl⟩
def orR:List Int->Int
 | []=>0
 | x::r=>if x=0 then orR r else x
def z3p (l:List Int):Spec Nat where
 inv x:=x<=l.length/\orR l=orR (l.drop x)
 live x:=[(8,.s (.int .i64 x))]
 keep:=[3,6,7]
 heap _:=[]
 keepH:=[]
 mu x:=l.length - x
theorem z8o {fn} (l:List Int):zAG ⟨tyL,fn,[]⟩ Tryz.f168 [(ETy.sl (.int .i64)).av l] (fun v=>v= .s (.int .i64 (orR l))):=by
 repeat' (conv=>whnf
          first|done|refine qN ?_|apply qH|refine qG fun _=> ?_|apply qB|apply qa|apply qo|refine qe (fun _=> ?_) (fun _=> ?_)|refine qn (fun _=> ?_) (fun _=> ?_)|refine qd (fun _=> ?_) (fun _=> ?_)|apply qt|refine qi (fun _=> ?_) (fun _=> ?_)|(refine zaB 3 rfl (z3p l) (0) ?_ ?_ ?_ fun x hx=> ?_)|with_reducible refine zaA (z3p _) (x+1) ?_ ?_ ?_ ?_|refine zA rfl ?_|apply qE|apply qO|exact zO|apply qq|apply qs|refine qK (by kernel_rfl) ?_|apply qr)
 all_goals try first|refine qz ?_|apply qz5
 all_goals try simp only [z6,zS,yE,zZ,qn1,z7,qn2,zX,ETy.dflt,qn3,qn4,Int.reduceToNat,Int.reduceAdd,Int.reduceSub,Int.reduceNeg,Nat.reduceAdd,zD,z3p] at *
 all_goals try (refine qh ?_;omega)
 ·exact qh ⟨Nat.zero_le _,rfl⟩
 ·rename_i h1 h2;rw [hx.2,zBU 0 h1,orR,if_neg h2]
 ·rename_i h1 h2;exact qh ⟨by omega,by rw [hx.2,zBU 0 h1,orR,if_pos h2]⟩
 ·rw [hx.2,zE9 (by assumption)];rfl
def orC:List AV->Option Res:=zEz (.sl (.int .i64)) (fun l=>some (none,none,.s (.int .i64 (orR l))))
theorem z8g:qM Tryz.prog 168 orC:=⟨zA1 fun l r h=>by cases h;exact qL (yN (fn:=[]) (fr:=[]) trivial trivial) Tryz.func168 (by kernel_rfl) fun _ _=>z8o l,_,Tryz.func168,by kernel_rfl,by kernel_rfl⟩
def cfW (a b:Wit):Int:=orR [zYM a.2.2 b.2.2,zYM a.2.1 b.2.1]
theorem z5Z (a b:Wit):zAG ⟨tyL,[(169,z9Y),(168,orC)],[]⟩ Tryz.f167 [zB0.av a,zB0.av b] (fun v=>v= .s (.int .i64 (cfW a b))):=by
 repeat' (conv=>whnf
          first|done|refine qN ?_|apply qH|refine qG fun _=> ?_|apply qB|apply qa|apply qo|refine qe (fun _=> ?_) (fun _=> ?_)|refine qn (fun _=> ?_) (fun _=> ?_)|refine qd (fun _=> ?_) (fun _=> ?_)|apply qt|refine qi (fun _=> ?_) (fun _=> ?_)|refine zA rfl ?_|apply qE|apply qO|exact zO|apply qq|apply qs|refine qK (by kernel_rfl) ?_|apply qr)
 all_goals try first|refine qz ?_|apply qz5
 all_goals try simp only [z6,zS,yE,zZ,qn1,z7,qn2,zX,ETy.dflt,qn3,qn4,Int.reduceToNat,Int.reduceAdd,Int.reduceSub,Int.reduceNeg,Nat.reduceAdd,zD,cfW] at *
 try rfl
def z96:List AV->Option Res:=zCr zB0 zB0 (fun a b=>some (none,none,.s (.int .i64 (cfW a b))))
theorem z4L:qM Tryz.prog 167 z96:=⟨jD fun a b r h=>by cases h;exact qL (yN (fn:=[(169,z9Y),(168,orC)]) (fr:=[]) ⟨z7W,z8g,trivial⟩ trivial) Tryz.func167 (by kernel_rfl) fun _ _=>z5Z a b,_,Tryz.func167,by kernel_rfl,by kernel_rfl⟩
theorem z6F (a b:Wit):cfW a b=if a.2.2=b.2.2 then zYM a.2.1 b.2.1 else zYM a.2.2 b.2.2:=by
 simp only [cfW,orR,zYM]
 repeat' split
 all_goals first|rfl|omega
def lt2 (p r q s:Int):Bool:=decide (p<q\/(p=q/\r<s))
theorem z6s (p r q s:Int):decide ((if p=q then zYM r s else zYM p q)<0)=lt2 p r q s:=by
 unfold lt2
 congr 1
 unfold zYM;apply propext
 by_cases h1:p=q
 ·subst h1
  by_cases h2:r<s
  ·simp [h2]
  ·by_cases h3:r>s<;>simp [h2,h3]
 ·by_cases h2:p<q
  ·simp [h1,h2]
  ·by_cases h3:p>q<;>simp [h1,h2,h3]
theorem z3O (p r:Int):lt2 p r p r=false:=by simp [lt2]
theorem lt2_trans (p r q s t u:Int) (h1:lt2 p r q s=true) (h2:lt2 q s t u=true):lt2 p r t u=true:=by
 simp only [lt2,zP] at *;omega
theorem zSl (p r q s t u:Int) (h1:lt2 p r q s=false) (h2:lt2 q s t u=false):lt2 p r t u=false:=by
 simp only [lt2,yM] at *;omega
theorem z86:z5y zB0 cfW:=by
 have key: ∀ a b:RT zB0,ltOf (fun a b:RT zB0=>cfW a.1 b.1) a b=lt2 a.1.2.2 a.1.2.1 b.1.2.2 b.1.2.1:=by
  intro a b;show decide (cfW a.1 b.1<0)=_;rw [z6F];exact z6s _ _ _ _
 refine ⟨fun x=>by rw [key];exact z3O _ _,fun x y z h1 h2=> ?_,fun x y z h1 h2=> ?_⟩
 ·rw [key] at h1 h2 ⊢;exact lt2_trans _ _ _ _ _ _ h1 h2
 ·rw [key] at h1 h2 ⊢;exact zSl _ _ _ _ _ _ h1 h2
def zYI:List AV->St->(AV->St->Prop)->Prop:=zGq zB0 (zGb zB0 cfW) (z8k 167) 1
theorem z0V : zJM Tryz.prog 166 zYI ∧ ∃ fn, Tryz.prog.funcs[166]? = some fn ∧ (fn.name == "runtime.NumGoroutine") = false ∧ fn.body.isNone = false :=
 ⟨zZR (ρ:=Go.Proofs.S1.laySortF_ren) Go.Proofs.S1.laySortF (e:=zB0) rfl rfl (by decide) (fun w=>((z6m (fn:=[]) trivial).ty 91 _ rfl).run_isAgg) (fun w=>((z6m (fn:=[]) trivial).ty 91 _ rfl).run_sizeOf) (enters_of Tryz.func167 (by kernel_rfl) rfl) z86 (fun x y=>z4L.1 _ _ rfl),
   _,Tryz.func166,by kernel_rfl,by kernel_rfl⟩
def zNS:List AV->St->(AV->St->Prop)->Prop:=zMg zBY (fun l=>l.isEmpty)
theorem zRK : zJM Tryz.prog 75 zNS ∧ ∃ fn, Tryz.prog.funcs[75]? = some fn ∧ (fn.name == "runtime.NumGoroutine") = false ∧ fn.body.isNone = false :=
 ⟨zWs (ρ:=Go.Proofs.S1.laySortI_ren) Go.Proofs.S1.laySortI,_,Tryz.func75,by kernel_rfl,by kernel_rfl⟩
end S1
open Go Go.Vm Go.Proofs
namespace S1
def s3 (t:P3):P3:=((zBY [t.1,t.2.1,t.2.2]).getD 0 0,(zBY [t.1,t.2.1,t.2.2]).getD 1 0,(zBY [t.1,t.2.1,t.2.2]).getD 2 0)
def zDm (t:P3):List P3:=[s3 t]
theorem z3m (t:P3):zAG ⟨tyL,[],[(75,.run zNS)]⟩ Tryz.f181 [ETy.arr3.av t] (fun v=>v= .s (.sl .arr3 (zDm t))):=by
 repeat' (conv=>whnf
          first|done|refine qN ?_|apply qH|refine qG fun _=> ?_|apply qB|apply qa|apply qo|refine qe (fun _=> ?_) (fun _=> ?_)|refine qn (fun _=> ?_) (fun _=> ?_)|refine qd (fun _=> ?_) (fun _=> ?_)|apply qt|refine qi (fun _=> ?_) (fun _=> ?_)|refine zA rfl ?_|apply qE|apply qO|exact zO|apply qq|apply qs|refine qK (by kernel_rfl) ?_|apply qr)
 all_goals try first|refine qz ?_|apply qz5
 all_goals try simp only [z6,zS,yE,zZ,qn1,z7,qn2,zX,ETy.dflt,qn3,qn4,Int.reduceToNat,Int.reduceAdd,Int.reduceSub,Int.reduceNeg,Nat.reduceAdd,zD,zDm,s3] at *
 try rfl
def z4d:List AV->Option Res:=zEz .arr3 (fun t=>some (none,none,.s (.sl .arr3 (zDm t))))
theorem z3G:qM Tryz.prog 181 z4d:=⟨zA1 fun t r h=>by cases h;exact qL (yN (fn:=[]) (fr:=[(75,.run zNS)]) trivial ⟨zRK,trivial⟩) Tryz.func181 (by kernel_rfl) fun _ _=>z3m t,_,Tryz.func181,by kernel_rfl,by kernel_rfl⟩
theorem zSp (n kind:Int) (l:List P3) (hb:l.length<=8192):zFB ⟨tyL,[(181,z4d)],[]⟩ Tryz.f179 [qP.av (n,l),(ETy.int .i64).av kind,ETy.fnc.av (some 181)] (fun v obs=>v= .s (.own 0 0 (prS zDm kind l l.length).2.2.length)/\obs=[.row zB0 91 (prS zDm kind l l.length).2.2]):=by
 have hS:=fun x (h:x<=8192)=>z2t zDm (fun _=>(by decide:1<=3)) kind l x h
 repeat' (conv=>whnf
          first|done|refine qN ?_|apply qH|refine qG fun _=> ?_|apply qB|apply qa|apply qo|refine qe (fun _=> ?_) (fun _=> ?_)|refine qn (fun _=> ?_) (fun _=> ?_)|refine qd (fun _=> ?_) (fun _=> ?_)|apply qt|refine qi (fun _=> ?_) (fun _=> ?_)|(refine zaB 5 rfl (zFJ zDm kind l) (0) ?_ ?_ ?_ fun x hx=> ?_)|with_reducible refine zaA (zFJ _ _ _) (x+1) ?_ ?_ ?_ ?_|(refine zaB 8 rfl (zFE kind x (zDm (l.getD x (0,0,0))) (prS zDm kind l x)) (0) ?_ ?_ ?_ fun y hy=> ?_)|with_reducible refine zaA (zFE _ _ _ _) (y+1) ?_ ?_ ?_ ?_|(refine zaB 11 rfl (zJx kind x (zAL (qA (prK kind x (zDm (l.getD x (0,0,0)))) (prS zDm kind l x) y).1 ((zDm (l.getD x (0,0,0))).getD y (0,0,0))) (qA (prK kind x (zDm (l.getD x (0,0,0)))) (prS zDm kind l x) y).2) (0) ?_ ?_ ?_ fun z hz=> ?_)|with_reducible refine zaA (zJx _ _ _ _) (z+1) ?_ ?_ ?_ ?_|refine zA rfl ?_|apply qE|apply qO|exact zO|apply qq|apply qs|refine qK (by kernel_rfl) ?_|apply qr)
 all_goals try first|refine qz ?_|apply qz5
 all_goals try simp only [z6,zS,yE,zZ,qn1,z7,qn2,zX,ETy.dflt,qn3,qn4,Int.reduceToNat,Int.reduceAdd,Int.reduceSub,Int.reduceNeg,Nat.reduceAdd,zD,zFJ,zFE,zJx,zDJ,zNq,zKh] at *
 all_goals try (refine qh ?_;omega)
 all_goals try (rw [zQf (by assumption)];done)
 all_goals try (rw [zUI (by assumption)];(try simp);done)
 all_goals try first
  | (have e:z=(zAL (qA (prK kind x (zDm (l.getD x (0,0,0)))) (prS zDm kind l x) y).1 ((zDm (l.getD x (0,0,0))).getD y (0,0,0))).length:=by omega
     subst e;first|rfl|(rw [zDJ,zAT];rfl))
  | (have e:y=(zDm (l.getD x (0,0,0))).length:=by omega
     subst e;rfl)
  | (have e:x=l.length:=by omega
     subst e;rfl)
 all_goals
  have hB:=zPT (kind:=kind) (i:=x) (ks:=zDm (l.getD x (0,0,0))) (hS x (by omega)) (by decide:1<=3) y (by omega);have h1:=hB.1 ((zDm (l.getD x (0,0,0))).getD y (0,0,0));have h2:=hB.2;have h3:=zPq kind x (zAL (qA (prK kind x (zDm (l.getD x (0,0,0)))) (prS zDm kind l x) y).1 ((zDm (l.getD x (0,0,0))).getD y (0,0,0))) (qA (prK kind x (zDm (l.getD x (0,0,0)))) (prS zDm kind l x) y).2 z;have h4:y<=3:=Nat.le_trans hy (by decide:1<=3)
  have h5:y*(3*x+3)<=3*(3*x+3):=Nat.mul_le_mul_right _ h4;refine qh ?_;generalize y*(3*x+3)=q at *
 ·omega
 ·unfold zBT;simp only [yA,List.take_zero,List.length_nil];omega
def zKu:List AV->Option zKQ:=zOw qP (.int .i64) .fnc (fun s kind f=>match f with
 | some 181=>some (none,some (s.2.length<=8192),.s (.own 0 0 (prS zDm kind s.2 s.2.length).2.2.length),[.row zB0 91 (prS zDm kind s.2 s.2.length).2.2])
 | _=>none)
theorem zTC:zDM Tryz.prog 179 zMH:=⟨zRF fun s kind f r h=>by
 match f,h with
 | some 180,h=>cases h;exact zDk (yN (fn:=[(180,zQC)]) (fr:=[]) ⟨zUR,trivial⟩ trivial) Tryz.func179 (by kernel_rfl) fun _ h=>zTB s.1 kind s.2 h,_,Tryz.func179,by kernel_rfl,by kernel_rfl⟩
theorem zSj:zDM Tryz.prog 179 zKu:=⟨zRF fun s kind f r h=>by
 match f,h with
 | some 181,h=>cases h;exact zDk (yN (fn:=[(181,z4d)]) (fr:=[]) ⟨z3G,trivial⟩ trivial) Tryz.func179 (by kernel_rfl) fun _ h=>zSp s.1 kind s.2 h,_,Tryz.func179,by kernel_rfl,by kernel_rfl⟩
theorem zZZ (n:Int) (l:List P3) (hb:l.length<=8192):zFB ⟨tyL,[],[(179,.res zMH)]⟩ Tryz.f162 [qP.av (n,l)] (fun v obs=>v= .s (.own 0 0 (prS qQ 3 l l.length).2.2.length)/\obs=[.row zB0 91 (prS qQ 3 l l.length).2.2]):=by
 repeat' (conv=>whnf
          first|done|refine qN ?_|apply qH|refine qG fun _=> ?_|apply qB|apply qa|apply qo|refine qe (fun _=> ?_) (fun _=> ?_)|refine qn (fun _=> ?_) (fun _=> ?_)|refine qd (fun _=> ?_) (fun _=> ?_)|apply qt|refine qi (fun _=> ?_) (fun _=> ?_)|refine zA rfl ?_|apply qE|apply qO|exact zO|apply qq|apply qs|refine qK (by kernel_rfl) ?_|apply qr)
 all_goals try first|refine qz ?_|apply qz5
 all_goals try simp only [z6,zS,yE,zZ,qn1,z7,qn2,zX,ETy.dflt,qn3,qn4,Int.reduceToNat,Int.reduceAdd,Int.reduceSub,Int.reduceNeg,Nat.reduceAdd,zD] at *
def zX9:List AV->Option zKQ:=zEz qP (fun s=>some (none,some (s.2.length<=8192),.s (.own 0 0 (prS qQ 3 s.2 s.2.length).2.2.length),[.row zB0 91 (prS qQ 3 s.2 s.2.length).2.2]))
theorem zZl:zDM Tryz.prog 162 zX9:=⟨zCC fun s r h=>by cases h;exact zDk (yN (fn:=[]) (fr:=[(179,.res zMH)]) trivial ⟨zTC,trivial⟩) Tryz.func162 (by kernel_rfl) fun _ h=>zZZ s.1 s.2 h,_,Tryz.func162,by kernel_rfl,by kernel_rfl⟩
theorem zPv (n:Int) (l:List P3) (hb:l.length<=8192):zFB ⟨tyL,[],[(179,.res zKu)]⟩ Tryz.f163 [qP.av (n,l)] (fun v obs=>v= .s (.own 0 0 (prS zDm 4 l l.length).2.2.length)/\obs=[.row zB0 91 (prS zDm 4 l l.length).2.2]):=by
 repeat' (conv=>whnf
          first|done|refine qN ?_|apply qH|refine qG fun _=> ?_|apply qB|apply qa|apply qo|refine qe (fun _=> ?_) (fun _=> ?_)|refine qn (fun _=> ?_) (fun _=> ?_)|refine qd (fun _=> ?_) (fun _=> ?_)|apply qt|refine qi (fun _=> ?_) (fun _=> ?_)|refine zA rfl ?_|apply qE|apply qO|exact zO|apply qq|apply qs|refine qK (by kernel_rfl) ?_|apply qr)
 all_goals try first|refine qz ?_|apply qz5
 all_goals try simp only [z6,zS,yE,zZ,qn1,z7,qn2,zX,ETy.dflt,qn3,qn4,Int.reduceToNat,Int.reduceAdd,Int.reduceSub,Int.reduceNeg,Nat.reduceAdd,zD] at *
def zIj:List AV->Option zKQ:=zEz qP (fun s=>some (none,some (s.2.length<=8192),.s (.own 0 0 (prS zDm 4 s.2 s.2.length).2.2.length),[.row zB0 91 (prS zDm 4 s.2 s.2.length).2.2]))
theorem zPY:zDM Tryz.prog 163 zIj:=⟨zCC fun s r h=>by cases h;exact zDk (yN (fn:=[]) (fr:=[(179,.res zKu)]) trivial ⟨zSj,trivial⟩) Tryz.func163 (by kernel_rfl) fun _ h=>zPv s.1 s.2 h,_,Tryz.func163,by kernel_rfl,by kernel_rfl⟩
end S1
open Go Go.Vm Go.Proofs
namespace S1
theorem zLV {α:Type} {l:List α} (h: ¬ (l.length:Int)>0):l=[]:=by
 cases l with
 | nil=>rfl
 | cons a l=>exact absurd (by simp) h
theorem zF5 {n:Int} {l:List P3} (h: ¬ ((jF (n,l)).length:Int)>0):zMc (n,l):=by
 have h:=zLV h;unfold jF at h;split at h
 ·cases h
 ·rename_i hb
  have hb: ¬ (n<0\/n>4096\/(l.length:Int)>8192):=by
   simpa only [zHN,Bool.or_eq_true,zP] using hb
  have hc:n<=4096/\0<=n/\l.length<=8192:=by omega
  refine ⟨hc.2.1,hc.1,hc.2.2,fun i hi=> ?_⟩;have:=List.filterMap_eq_nil_iff.1 h i (zV.2 hi);unfold z6D at this;split at this
  ·assumption
  ·cases this
theorem zL9 {s:List Bool} {i j:Nat} (h:(s.set i true).getD j false=true):i=j\/s.getD j false=true:=by
 by_cases e:i=j
 ·exact .inl e
 ·rw [gdE,List.getElem?_set_ne e] at h;exact .inr (by rw [gdE];exact h)
theorem zMn {n:Nat} {l:List P3} {v:Nat} (hl: ∀ j,j<l.length->0<=(l.getD j (0,0,0)).1/\0<=(l.getD j (0,0,0)).2.1/\0<=(l.getD j (0,0,0)).2.2) :
 ∀ i,i<=l.length->(zC8 n l i).getD v false=true->∃ j,j<i/\z8 (l.getD j (0,0,0)) v
 | 0,_,h=>by
   have:(zC8 n l 0).getD v false=false:=by
    show (List.replicate n false).getD v false=false;rw [gdE,List.getElem?_replicate];split<;>rfl
   rw [this] at h;cases h
 | i + 1,hi,h=>by
   have h:(zNQ (zC8 n l i) (l.getD i (0,0,0))).getD v false=true:=h;obtain ⟨k1,k2,k3⟩:=hl i (by omega);rcases zL9 h with e|h
   ·exact ⟨i,by omega,.inr (.inr (by omega))⟩
   ·rcases zL9 h with e|h
    ·exact ⟨i,by omega,.inr (.inl (by omega))⟩
    ·rcases zL9 h with e|h
     ·exact ⟨i,by omega,.inl (by omega)⟩
     ·obtain ⟨j,h1,h2⟩:=zMn hl i (by omega) h;exact ⟨j,by omega,h2⟩
theorem zZI {n:Int} {l:List P3} (hf:zMc (n,l)) (h: ¬ ((zH3 (n,l)).length:Int)>0):z87 (n,l):=by
 have h:=zLV h;intro v hv;have:=List.filterMap_eq_nil_iff.1 h v (zV.2 (by omega));unfold loG at this;split at this
 ·rename_i ht;exact zMn (fun j hj=>by have:=zAH (hf.2.2.2 j hj);omega) l.length (zI _) ht
 ·cases this
def zDI:List (List Wit)->List Wit
 | []=>[]
 | l::r=>if (l.length:Int)>0 then zGb zB0 cfW l else zDI r
def allR (s:Int×List P3):List Wit:=zDI [jF s,dgL s.2 s.2.length,(prS qQ 3 s.2 s.2.length).2.2,(prS zDm 4 s.2 s.2.length).2.2,zH3 s,zXw s]
theorem zII (l:List Wit):(zGb zB0 cfW l).length=l.length:=zJF z86 l
theorem z7f (n:Int) (l:List P3):zFB ⟨tyL,[],[(160,.res zTj),(161,.res z41),(162,.res zX9),(163,.res zIj),(164,.res zPf),(165,.res zXi),(166,.run zYI)]⟩ Tryz.f135 [qP.av (n,l)] (fun v obs=>v= .s (.own 0 0 (allR (n,l)).length)/\obs=[.row zB0 91 (allR (n,l))]):=by
 repeat' (conv=>whnf
          first|done|refine qN ?_|apply qH|refine qG fun _=> ?_|apply qB|apply qa|apply qo|refine qe (fun _=> ?_) (fun _=> ?_)|refine qn (fun _=> ?_) (fun _=> ?_)|refine qd (fun _=> ?_) (fun _=> ?_)|apply qt|refine qi (fun _=> ?_) (fun _=> ?_)|(refine qS 2 rfl ?_;refine Or.inl (zB (7) ?_))|refine zA rfl ?_|apply qE|apply qO|exact zO|apply qq|apply qs|refine qK (by kernel_rfl) ?_|apply qr)
 all_goals try first|refine qz ?_|apply qz5
 all_goals try simp only [z6,zS,yE,zZ,qn1,z7,qn2,zX,ETy.dflt,qn3,qn4,Int.reduceToNat,Int.reduceAdd,Int.reduceSub,Int.reduceNeg,Nat.reduceAdd,zD] at *
 all_goals first
  | (simp only [allR,zDI, *,zII,if_true,if_false,List.take_zero,List.drop_length,List.append_nil,List.nil_append,List.length_nil];first|done|exact (zII _).symm)
  | (refine qh ?_;first|exact (zF5 ‹_›).2.2.1|exact zF5 ‹_›|exact ⟨zF5 ‹_›,zZI (zF5 ‹_›) ‹_›⟩)
def z89:List AV->Option zKQ:=zEz qP (fun s=>some (none,none,.s (.own 0 0 (allR s).length),[.row zB0 91 (allR s)]))
theorem z7G:zDM Tryz.prog 135 z89:=⟨zCC fun s r h=>by cases h;exact zDk (yN (fn:=[]) (fr:=[(160,.res zTj),(161,.res z41),(162,.res zX9),(163,.res zIj),(164,.res zPf),(165,.res zXi),(166,.run zYI)]) trivial ⟨zZd,z4v,zZl,zPY,zTh,z1R,z0V,trivial⟩) Tryz.func135 (by kernel_rfl) fun _ _=>z7f s.1 s.2,_,Tryz.func135,by kernel_rfl,by kernel_rfl⟩
end S1
open Go Go.Vm Go.Proofs
namespace S1
def zJr (s:Int×List P3):Wit:=(allR s).headD (0,0,0)
theorem z0s (n:Int) (l:List P3):zAG ⟨tyL,[],[(135,.res z89)]⟩ Tryz.f93 [qP.av (n,l)] (fun v=>v=zB0.av (zJr (n,l))):=by
 repeat' (conv=>whnf
          first|done|refine qN ?_|apply qH|refine qG fun _=> ?_|apply qB|apply qa|apply qo|refine qe (fun _=> ?_) (fun _=> ?_)|refine qn (fun _=> ?_) (fun _=> ?_)|refine qd (fun _=> ?_) (fun _=> ?_)|apply qt|refine qi (fun _=> ?_) (fun _=> ?_)|refine zA rfl ?_|apply qE|apply qO|exact zO|apply qq|apply qs|refine qK (by kernel_rfl) ?_|apply qr)
 all_goals try first|refine qz ?_|apply qz5
 all_goals try simp only [z6,zS,yE,zZ,qn1,z7,qn2,zX,ETy.dflt,qn3,qn4,Int.reduceToNat,Int.reduceAdd,Int.reduceSub,Int.reduceNeg,Nat.reduceAdd,zD] at *
 ·rename_i h1 h2;cases h:allR (n,l) with
  | nil=>rw [h] at h2;simp at h2
  | cons a r=>unfold zJr;rw [h];exact y9.intro rfl
 ·rename_i h2;unfold zJr;rw [zLV h2];exact y9.intro rfl
def zYt:List AV->Option Res:=zEz qP (fun s=>some (none,none,zB0.av (zJr s)))
theorem zZS:qM Tryz.prog 93 zYt:=⟨zA1 fun s r h=>by cases h;exact qL (yN (fn:=[]) (fr:=[(135,.res z89)]) trivial ⟨z7G,trivial⟩) Tryz.func93 (by kernel_rfl) fun _ _=>z0s s.1 s.2,_,Tryz.func93,by kernel_rfl,by kernel_rfl⟩
def isR (s:Int×List P3):Bool:=decide (zJr s=(0,0,0))
theorem zZA {fn} (l:List P3) (hb:l.length<=8192):zAG ⟨tyL,fn,[]⟩ Tryz.f64 [(ETy.sl .arr3).av l] (fun v=>v=(ETy.sl .arr3).av l):=by
 repeat' (conv=>whnf
          first|done|refine qN ?_|apply qH|refine qG fun _=> ?_|apply qB|apply qa|apply qo|refine qe (fun _=> ?_) (fun _=> ?_)|refine qn (fun _=> ?_) (fun _=> ?_)|refine qd (fun _=> ?_) (fun _=> ?_)|apply qt|refine qi (fun _=> ?_) (fun _=> ?_)|refine zA rfl ?_|apply qE|apply qO|exact zO|apply qq|apply qs|refine qK (by kernel_rfl) ?_|apply qr)
 all_goals try first|refine qz ?_|apply qz5
 all_goals try simp only [z6,zS,yE,zZ,qn1,z7,qn2,zX,ETy.dflt,qn3,qn4,Int.reduceToNat,Int.reduceAdd,Int.reduceSub,Int.reduceNeg,Nat.reduceAdd,zD] at *
 ·exact (‹l=[]›).symm
 ·exact List.take_length
def zIF:List AV->Option Res:=zEz (.sl .arr3) (fun l=>some (none,some (l.length<=8192),.s (.sl .arr3 l)))
theorem zMV:qM Tryz.prog 64 zIF:=⟨zA1 fun l r h=>by cases h;exact qL (yN (fn:=[]) (fr:=[]) trivial trivial) Tryz.func64 (by kernel_rfl) fun _ h=>zZA l h,_,Tryz.func64,by kernel_rfl,by kernel_rfl⟩
def eqR (a b:List P3):Bool:=decide (a=b)
def z5U (a b:List P3):Spec Nat where
 inv x:=x<=a.length/\∀ i,i<x->a.getD i (0,0,0)=b.getD i (0,0,0)
 live x:=[(13,.s (.int .i64 x))]
 keep:=[0,1,12]
 heap _:=[]
 keepH:=[]
 mu x:=a.length - x
theorem z18 {fn} (a b:List P3):zAG ⟨tyL,fn,[]⟩ Tryz.f140 [(ETy.sl .arr3).av a,(ETy.sl .arr3).av b] (fun v=>v= .s (.bool (eqR a b))):=by
 repeat' (conv=>whnf
          first|done|refine qN ?_|apply qH|refine qG fun _=> ?_|apply qB|apply qa|apply qo|refine qe (fun _=> ?_) (fun _=> ?_)|refine qn (fun _=> ?_) (fun _=> ?_)|refine qd (fun _=> ?_) (fun _=> ?_)|apply qt|refine qi (fun _=> ?_) (fun _=> ?_)|(refine zaB 4 rfl (z5U a b) (0) ?_ ?_ ?_ fun x hx=> ?_)|with_reducible refine zaA (z5U _ _) (x+1) ?_ ?_ ?_ ?_|refine zA rfl ?_|apply qE|apply qO|exact zO|apply qq|apply qs|refine qK (by kernel_rfl) ?_|apply qr)
 all_goals try first|refine qz ?_|apply qz5
 all_goals try simp only [z6,zS,yE,zZ,qn1,z7,qn2,zX,ETy.dflt,qn3,qn4,Int.reduceToNat,Int.reduceAdd,Int.reduceSub,Int.reduceNeg,Nat.reduceAdd,zD,z5U,eqR] at *
 ·have e:a≠b:=fun e=>by subst e;exact absurd rfl ‹(a.length:Int)≠_›
  rw [decide_eq_false e]
 ·exact qh ⟨Nat.zero_le _,fun i hi=>by omega⟩
 ·refine yJ.intro ⟨by omega,fun i hi=> ?_⟩
  by_cases e:i=x
  ·subst e;exact Prod.ext ‹_› (Prod.ext ‹_› ‹_›)
  ·exact hx.2 i (by omega)
 ·exact qh (by omega)
 ·have e:a≠b:=fun e=>by subst e;exact absurd rfl ‹(a.getD x (0,0,0)).snd.snd≠_›
  rw [decide_eq_false e]
 ·have e:a≠b:=fun e=>by subst e;exact absurd rfl ‹(a.getD x (0,0,0)).snd.fst≠_›
  rw [decide_eq_false e]
 ·have e:a≠b:=fun e=>by subst e;exact absurd rfl ‹(a.getD x (0,0,0)).fst≠_›
  rw [decide_eq_false e]
 ·have e:a=b:=List.ext_getElem (by omega) fun i h1 h2=>by
   have:=hx.2 i (by omega);rwa [gdE,gdE,gE h1,gE h2] at this
  rw [decide_eq_true e]
def zOQ:List AV->Option Res:=zCr (.sl .arr3) (.sl .arr3) (fun a b=>some (none,none,.s (.bool (eqR a b))))
theorem zQq:qM Tryz.prog 140 zOQ:=⟨jD fun a b r h=>by cases h;exact qL (yN (fn:=[]) (fr:=[]) trivial trivial) Tryz.func140 (by kernel_rfl) fun _ _=>z18 a b,_,Tryz.func140,by kernel_rfl,by kernel_rfl⟩
end S1
open Go Go.Vm Go.Proofs
namespace S1
abbrev yI:ETy:= .pair qP (.pair (.mp .arr2 (.int .i64)) (.sl (.int .i64)))
def zZY {ρ:Type} (e:ETy) (f:e.T->Option ρ):List AV->Option ρ :=
 zEz (.pt e) (fun o=>match o with|some x=>f x|none=>none)
def zGX {ρ:Type} (e b:ETy) (f:e.T->b.T->Option ρ):List AV->Option ρ :=
 zCr (.pt e) b (fun o y=>match o with|some x=>f x y|none=>none)
theorem zM0 {P:Program} {e:ETy} {f:e.T->Option Res} {n:FuncId} (h: ∀ x r,f x=some r->zCn P n [(ETy.pt e).av (some x)] r): ∀ args r,zZY e f args=some r->zCn P n args r :=
 zA1 fun o r hr=>by cases o with|none=>cases hr|some x=>exact h x r hr
theorem zAs {P:Program} {e b:ETy} {f:e.T->b.T->Option Res} {n:FuncId} (h: ∀ x y r,f x y=some r->zCn P n [(ETy.pt e).av (some x),b.av y] r): ∀ args r,zGX e b f args=some r->zCn P n args r :=
 jD fun o y r hr=>by cases o with|none=>cases hr|some x=>exact h x y r hr
def trn (c b:Int):Int:=c - c % 3+(c+b) % 3
def j6 (x:yI.T) (c:Int):Bool:=decide (0<=c)&&decide (c<3*(x.1.2.length:Int))
def qY (x:yI.T) (c:Int):Int:=if j6 x c then trn c 1 else -1
def qV (x:yI.T) (c:Int):Int:=if j6 x c then trn c 2 else -1
def p3 (t:P3) (k:Int):Int:=if k=0 then t.1 else if k=1 then t.2.1 else t.2.2
def yS (x:yI.T) (c:Int):Int:=if j6 x c then p3 (x.1.2.getD (c / 3).toNat (0,0,0)) (c % 3) else -1
def jR (x:yI.T) (c:Int):Int×Int:=(yS x (qY x c),yS x (qV x c))
def qJ (x:yI.T) (e:Int×Int):Int:=(jS .arr2 x.2.1 e).getD (-1)
def zAI (x:yI.T) (c:Int):Int:=qJ x ((jR x c).2,(jR x c).1)
def yY (x:yI.T) (v:Int):Int:=if 0<=v/\v<x.2.2.length then x.2.2.getD v.toNat 0 else -1
theorem tm3 {c:Int} (h:0<=c):c.tmod 3=c % 3:=Int.tmod_eq_emod_of_nonneg h
theorem td3 {c:Int} (h:0<=c):c.tdiv 3=c / 3:=Int.tdiv_eq_ediv_of_nonneg h
theorem yH {x:yI.T} {c:Int} :j6 x c=true↔0<=c/\c<3*(x.1.2.length:Int):=by
 unfold j6;rw [zC,zP,zP]
theorem zU6 {fn} (c b:Int) (h:0<=c/\c<=1000000000/\0<=b/\b<=2):zAG ⟨tyL,fn,[]⟩ Tryz.f158 [y8.av c,y8.av b] (fun v=>v= .s (.int .i64 (trn c b))):=by
 repeat' (conv=>whnf
          first|done|refine qN ?_|apply qH|refine qG fun _=> ?_|apply qB|apply qa|apply qo|refine qe (fun _=> ?_) (fun _=> ?_)|refine qn (fun _=> ?_) (fun _=> ?_)|refine qd (fun _=> ?_) (fun _=> ?_)|apply qt|refine qi (fun _=> ?_) (fun _=> ?_)|refine zA rfl ?_|apply qE|apply qO|exact zO|apply qq|apply qs|refine qK (by kernel_rfl) ?_|apply qr)
 all_goals try first|refine qz ?_|apply qz5
 all_goals try simp only [z6,zS,yE,zZ,qn1,z7,qn2,zX,ETy.dflt,qn3,qn4,Int.reduceToNat,Int.reduceAdd,Int.reduceSub,Int.reduceNeg,Nat.reduceAdd,zD,trn] at *
 all_goals try refine qh ?_
 all_goals (rw [tm3 (by omega)];try rw [tm3 (by omega)])
 all_goals (try simp only [yP]);(try omega)
def zJY:List AV->Option Res:=zCr y8 y8 (fun c b=>some (none,some (0<=c/\c<=1000000000/\0<=b/\b<=2),.s (.int .i64 (trn c b))))
theorem zOK:qM Tryz.prog 158 zJY:=⟨jD fun c b r h=>by cases h;exact qL (yN (fn:=[]) (fr:=[]) trivial trivial) Tryz.func158 (by kernel_rfl) fun _ h=>zU6 c b h,_,Tryz.func158,by kernel_rfl,by kernel_rfl⟩
theorem z72 {fn} (x:yI.T) (c:Int):zAG ⟨tyL,fn,[]⟩ Tryz.f136 [(ETy.pt yI).av (some x),y8.av c] (fun v=>v= .s (.bool (j6 x c))):=by
 obtain ⟨⟨n,l⟩,m,f⟩:=x
 repeat' (conv=>whnf
          first|done|refine qN ?_|apply qH|refine qG fun _=> ?_|apply qB|apply qa|apply qo|refine qe (fun _=> ?_) (fun _=> ?_)|refine qn (fun _=> ?_) (fun _=> ?_)|refine qd (fun _=> ?_) (fun _=> ?_)|apply qt|refine qi (fun _=> ?_) (fun _=> ?_)|refine zA rfl ?_|apply qE|apply qO|exact zO|apply qq|apply qs|refine qK (by kernel_rfl) ?_|apply qr)
 all_goals try first|refine qz ?_|apply qz5
 all_goals try simp only [z6,zS,yE,zZ,qn1,z7,qn2,zX,ETy.dflt,qn3,qn4,Int.reduceToNat,Int.reduceAdd,Int.reduceSub,Int.reduceNeg,Nat.reduceAdd,zD,j6,Option.getD_some] at *
 all_goals (rw [Bool.eq_iff_iff,zC,zP,zP])
 ·constructor
  ·intro h;exact ⟨by omega,h⟩
  ·intro h;exact h.2
 ·constructor
  ·intro h;cases h
  ·intro h;omega
def z5C:List AV->Option Res:=zGX yI y8 (fun x c=>some (none,none,.s (.bool (j6 x c))))
theorem zWI:qM Tryz.prog 136 z5C:=⟨zAs fun x c r h=>by cases h;exact qL (yN (fn:=[]) (fr:=[]) trivial trivial) Tryz.func136 (by kernel_rfl) fun _ _=>z72 x c,_,Tryz.func136,by kernel_rfl,by kernel_rfl⟩
theorem zDY {x:yI.T} {c:Int} (h1:0<=c) (h2:c<3*(x.1.2.length:Int)):yS x c=p3 (x.1.2.getD (c / 3).toNat (0,0,0)) (c % 3):=by
 unfold yS;rw [if_pos (yH.2 ⟨h1,h2⟩)]
theorem zRW {x:yI.T} {c:Int} (h: ¬ (0<=c/\c<3*(x.1.2.length:Int))):j6 x c=false:=by
 rw [<- Bool.not_eq_true];exact fun e=>h (yH.1 e)
theorem z44 {x:yI.T} {c:Int} (h: ¬ (0<=c/\c<3*(x.1.2.length:Int))):yS x c= -1:=by
 unfold yS;rw [zRW h];rfl
theorem z7z (t:P3) (k:Int) (h1:0<=k) (h2:k<3):[t.1,t.2.1,t.2.2].getD k.toNat 0=p3 t k:=by
 have:k=0\/k=1\/k=2:=by omega
 rcases this with e|e|e<;>subst e<;>rfl
theorem zOS {fn} (x:yI.T):zAG ⟨tyL,fn,[]⟩ Tryz.f74 [(ETy.pt yI).av (some x)] (fun v=>v= .s (.int .i64 x.1.2.length)):=by
 obtain ⟨⟨n,l⟩,m,f⟩:=x
 repeat' (conv=>whnf
          first|done|refine qN ?_|apply qH|refine qG fun _=> ?_|apply qB|apply qa|apply qo|refine qe (fun _=> ?_) (fun _=> ?_)|refine qn (fun _=> ?_) (fun _=> ?_)|refine qd (fun _=> ?_) (fun _=> ?_)|apply qt|refine qi (fun _=> ?_) (fun _=> ?_)|refine zA rfl ?_|apply qE|apply qO|exact zO|apply qq|apply qs|refine qK (by kernel_rfl) ?_|apply qr)
 all_goals try first|refine qz ?_|apply qz5
 all_goals try simp only [z6,zS,yE,zZ,qn1,z7,qn2,zX,ETy.dflt,qn3,qn4,Int.reduceToNat,Int.reduceAdd,Int.reduceSub,Int.reduceNeg,Nat.reduceAdd,zD,Option.getD_some] at *
def zB3:List AV->Option Res:=zZY yI (fun x=>some (none,none,.s (.int .i64 x.1.2.length)))
theorem zE5:qM Tryz.prog 74 zB3:=⟨zM0 fun x r h=>by cases h;exact qL (yN (fn:=[]) (fr:=[]) trivial trivial) Tryz.func74 (by kernel_rfl) fun _ _=>zOS x,_,Tryz.func74,by kernel_rfl,by kernel_rfl⟩
theorem zPZ {fn} (x:yI.T):zAG ⟨tyL,fn,[]⟩ Tryz.f85 [(ETy.pt yI).av (some x)] (fun v=>v= .s (.int .i64 x.1.1)):=by
 obtain ⟨⟨n,l⟩,m,f⟩:=x
 repeat' (conv=>whnf
          first|done|refine qN ?_|apply qH|refine qG fun _=> ?_|apply qB|apply qa|apply qo|refine qe (fun _=> ?_) (fun _=> ?_)|refine qn (fun _=> ?_) (fun _=> ?_)|refine qd (fun _=> ?_) (fun _=> ?_)|apply qt|refine qi (fun _=> ?_) (fun _=> ?_)|refine zA rfl ?_|apply qE|apply qO|exact zO|apply qq|apply qs|refine qK (by kernel_rfl) ?_|apply qr)
 all_goals try first|refine qz ?_|apply qz5
 all_goals try simp only [z6,zS,yE,zZ,qn1,z7,qn2,zX,ETy.dflt,qn3,qn4,Int.reduceToNat,Int.reduceAdd,Int.reduceSub,Int.reduceNeg,Nat.reduceAdd,zD,Option.getD_some] at *
def zBn:List AV->Option Res:=zZY yI (fun x=>some (none,none,.s (.int .i64 x.1.1)))
theorem zD0:qM Tryz.prog 85 zBn:=⟨zM0 fun x r h=>by cases h;exact qL (yN (fn:=[]) (fr:=[]) trivial trivial) Tryz.func85 (by kernel_rfl) fun _ _=>zPZ x,_,Tryz.func85,by kernel_rfl,by kernel_rfl⟩
theorem zXk (x:yI.T) (c:Int) (h:c<=1000000000):zAG ⟨tyL,[(136,z5C)],[]⟩ Tryz.f94 [(ETy.pt yI).av (some x),y8.av c] (fun v=>v= .s (.int .i64 (yS x c))):=by
 obtain ⟨⟨n,l⟩,m,f⟩:=x
 repeat' (conv=>whnf
          first|done|refine qN ?_|apply qH|refine qG fun _=> ?_|apply qB|apply qa|apply qo|refine qe (fun _=> ?_) (fun _=> ?_)|refine qn (fun _=> ?_) (fun _=> ?_)|refine qd (fun _=> ?_) (fun _=> ?_)|apply qt|refine qi (fun _=> ?_) (fun _=> ?_)|refine zA rfl ?_|apply qE|apply qO|exact zO|apply qq|apply qs|refine qK (by kernel_rfl) ?_|apply qr)
 all_goals try first|refine qz ?_|apply qz5
 all_goals try simp only [z6,zS,yE,zZ,qn1,z7,qn2,zX,ETy.dflt,qn3,qn4,Int.reduceToNat,Int.reduceAdd,Int.reduceSub,Int.reduceNeg,Nat.reduceAdd,zD,Option.getD_some] at *
 ·refine yJ.intro ⟨by omega,?_⟩;rw [td3 (by assumption)];unfold yP;omega
 ·refine qh ?_;rw [td3 (by assumption)];omega
 ·refine qh ?_;rw [tm3 (by assumption)];omega
 ·rw [tm3 (by assumption),td3 (by assumption),zDY (by assumption) (by assumption)];exact z7z _ _ (by omega) (by omega)
 all_goals (rw [z44];intro h';first|exact absurd h'.2 ‹_›|exact absurd h'.1 ‹_›)
def zC4:List AV->Option Res:=zGX yI y8 (fun x c=>some (none,some (c<=1000000000),.s (.int .i64 (yS x c))))
theorem zEF:qM Tryz.prog 94 zC4:=⟨zAs fun x c r h=>by cases h;exact qL (yN (fn:=[(136,z5C)]) (fr:=[]) ⟨zWI,trivial⟩ trivial) Tryz.func94 (by kernel_rfl) fun _ h=>zXk x c h,_,Tryz.func94,by kernel_rfl,by kernel_rfl⟩
theorem z5b (x:yI.T) (c:Int) (h:c<=1000000):zAG ⟨tyL,[(136,z5C),(158,zJY)],[]⟩ Tryz.f121 [(ETy.pt yI).av (some x),y8.av c] (fun v=>v= .s (.int .i64 (qY x c))):=by
 repeat' (conv=>whnf
          first|done|refine qN ?_|apply qH|refine qG fun _=> ?_|apply qB|apply qa|apply qo|refine qe (fun _=> ?_) (fun _=> ?_)|refine qn (fun _=> ?_) (fun _=> ?_)|refine qd (fun _=> ?_) (fun _=> ?_)|apply qt|refine qi (fun _=> ?_) (fun _=> ?_)|refine zA rfl ?_|apply qE|apply qO|exact zO|apply qq|apply qs|refine qK (by kernel_rfl) ?_|apply qr)
 all_goals try first|refine qz ?_|apply qz5
 all_goals try simp only [z6,zS,yE,zZ,qn1,z7,qn2,zX,ETy.dflt,qn3,qn4,Int.reduceToNat,Int.reduceAdd,Int.reduceSub,Int.reduceNeg,Nat.reduceAdd,zD,Option.getD_some] at *
 ·exact qh ⟨by assumption,Int.le_trans h (by decide),by decide,by decide⟩
 ·unfold qY;rw [if_pos (yH.2 ⟨by assumption,by assumption⟩)]
 all_goals (unfold qY;rw [zRW (by omega)];rfl)
def zKt:List AV->Option Res:=zGX yI y8 (fun x c=>some (none,some (c<=1000000),.s (.int .i64 (qY x c))))
theorem zLj:qM Tryz.prog 121 zKt:=⟨zAs fun x c r h=>by cases h;exact qL (yN (fn:=[(136,z5C),(158,zJY)]) (fr:=[]) ⟨zWI,zOK,trivial⟩ trivial) Tryz.func121 (by kernel_rfl) fun _ h=>z5b x c h,_,Tryz.func121,by kernel_rfl,by kernel_rfl⟩
theorem z47 (x:yI.T) (c:Int) (h:c<=1000000):zAG ⟨tyL,[(136,z5C),(158,zJY)],[]⟩ Tryz.f122 [(ETy.pt yI).av (some x),y8.av c] (fun v=>v= .s (.int .i64 (qV x c))):=by
 repeat' (conv=>whnf
          first|done|refine qN ?_|apply qH|refine qG fun _=> ?_|apply qB|apply qa|apply qo|refine qe (fun _=> ?_) (fun _=> ?_)|refine qn (fun _=> ?_) (fun _=> ?_)|refine qd (fun _=> ?_) (fun _=> ?_)|apply qt|refine qi (fun _=> ?_) (fun _=> ?_)|refine zA rfl ?_|apply qE|apply qO|exact zO|apply qq|apply qs|refine qK (by kernel_rfl) ?_|apply qr)
 all_goals try first|refine qz ?_|apply qz5
 all_goals try simp only [z6,zS,yE,zZ,qn1,z7,qn2,zX,ETy.dflt,qn3,qn4,Int.reduceToNat,Int.reduceAdd,Int.reduceSub,Int.reduceNeg,Nat.reduceAdd,zD,Option.getD_some] at *
 ·exact qh ⟨by assumption,Int.le_trans h (by decide),by decide,by decide⟩
 ·unfold qV;rw [if_pos (yH.2 ⟨by assumption,by assumption⟩)]
 all_goals (unfold qV;rw [zRW (by omega)];rfl)
def zLy:List AV->Option Res:=zGX yI y8 (fun x c=>some (none,some (c<=1000000),.s (.int .i64 (qV x c))))
theorem zLU:qM Tryz.prog 122 zLy:=⟨zAs fun x c r h=>by cases h;exact qL (yN (fn:=[(136,z5C),(158,zJY)]) (fr:=[]) ⟨zWI,zOK,trivial⟩ trivial) Tryz.func122 (by kernel_rfl) fun _ h=>z47 x c h,_,Tryz.func122,by kernel_rfl,by kernel_rfl⟩
theorem zUv {fn} (x:yI.T) (e:Int×Int):zAG ⟨tyL,fn,[]⟩ Tryz.f78 [(ETy.pt yI).av (some x),ETy.arr2.av e] (fun v=>v= .s (.int .i64 (qJ x e))):=by
 obtain ⟨⟨n,l⟩,m,f⟩:=x
 repeat' (conv=>whnf
          first|done|refine qN ?_|apply qH|refine qG fun _=> ?_|apply qB|apply qa|apply qo|refine qe (fun _=> ?_) (fun _=> ?_)|refine qn (fun _=> ?_) (fun _=> ?_)|refine qd (fun _=> ?_) (fun _=> ?_)|apply qt|refine qi (fun _=> ?_) (fun _=> ?_)|refine zA rfl ?_|apply qE|apply qO|exact zO|apply qq|apply qs|refine qK (by kernel_rfl) ?_|apply qr)
 all_goals try first|refine qz ?_|apply qz5
 all_goals try simp only [z6,zS,yE,zZ,qn1,z7,qn2,zX,ETy.dflt,qn3,qn4,Int.reduceToNat,Int.reduceAdd,Int.reduceSub,Int.reduceNeg,Nat.reduceAdd,zD,Option.getD_some,qJ] at *
 ·rename_i h;cases hm:jS .arr2 m e with
  | none=>rw [hm] at h;cases h
  | some v=>rfl
 ·rename_i h;cases hm:jS .arr2 m e with
  | none=>rfl
  | some v=>rw [hm] at h;cases h
def zEC:List AV->Option Res:=zGX yI .arr2 (fun x e=>some (none,none,.s (.int .i64 (qJ x e))))
theorem zFi:qM Tryz.prog 78 zEC:=⟨zAs fun x e r h=>by cases h;exact qL (yN (fn:=[]) (fr:=[]) trivial trivial) Tryz.func78 (by kernel_rfl) fun _ _=>zUv x e,_,Tryz.func78,by kernel_rfl,by kernel_rfl⟩
theorem zVU {fn} (x:yI.T) (v:Int):zAG ⟨tyL,fn,[]⟩ Tryz.f124 [(ETy.pt yI).av (some x),y8.av v] (fun r=>r= .s (.int .i64 (yY x v))):=by
 obtain ⟨⟨n,l⟩,m,f⟩:=x
 repeat' (conv=>whnf
          first|done|refine qN ?_|apply qH|refine qG fun _=> ?_|apply qB|apply qa|apply qo|refine qe (fun _=> ?_) (fun _=> ?_)|refine qn (fun _=> ?_) (fun _=> ?_)|refine qd (fun _=> ?_) (fun _=> ?_)|apply qt|refine qi (fun _=> ?_) (fun _=> ?_)|refine zA rfl ?_|apply qE|apply qO|exact zO|apply qq|apply qs|refine qK (by kernel_rfl) ?_|apply qr)
 all_goals try first|refine qz ?_|apply qz5
 all_goals try simp only [z6,zS,yE,zZ,qn1,z7,qn2,zX,ETy.dflt,qn3,qn4,Int.reduceToNat,Int.reduceAdd,Int.reduceSub,Int.reduceNeg,Nat.reduceAdd,zD,Option.getD_some,yY] at *
 ·rw [if_neg (by omega)]
 ·rw [if_neg (by omega)]
 ·rw [if_pos (by omega)]
def zDw:List AV->Option Res:=zGX yI y8 (fun x v=>some (none,none,.s (.int .i64 (yY x v))))
theorem zGT:qM Tryz.prog 124 zDw:=⟨zAs fun x v r h=>by cases h;exact qL (yN (fn:=[]) (fr:=[]) trivial trivial) Tryz.func124 (by kernel_rfl) fun _ _=>zVU x v,_,Tryz.func124,by kernel_rfl,by kernel_rfl⟩
theorem z2A {c b:Int} :trn c b<=c+2:=by unfold trn;omega
theorem z00 {x:yI.T} {c:Int} (h:c<=1000000):qY x c<=1000000000:=by
 have:= @z2A c 1;unfold qY;split<;>omega
theorem z0M {x:yI.T} {c:Int} (h:c<=1000000):qV x c<=1000000000:=by
 have:= @z2A c 2;unfold qV;split<;>omega
theorem z3u (x:yI.T) (c:Int) (h:c<=1000000):zAG ⟨tyL,[(121,zKt),(122,zLy),(94,zC4)],[]⟩ Tryz.f77 [(ETy.pt yI).av (some x),y8.av c] (fun v=>v=ETy.arr2.av (jR x c)):=by
 repeat' (conv=>whnf
          first|done|refine qN ?_|apply qH|refine qG fun _=> ?_|apply qB|apply qa|apply qo|refine qe (fun _=> ?_) (fun _=> ?_)|refine qn (fun _=> ?_) (fun _=> ?_)|refine qd (fun _=> ?_) (fun _=> ?_)|apply qt|refine qi (fun _=> ?_) (fun _=> ?_)|refine zA rfl ?_|apply qE|apply qO|exact zO|apply qq|apply qs|refine qK (by kernel_rfl) ?_|apply qr)
 all_goals try first|refine qz ?_|apply qz5
 all_goals try simp only [z6,zS,yE,zZ,qn1,z7,qn2,zX,ETy.dflt,qn3,qn4,Int.reduceToNat,Int.reduceAdd,Int.reduceSub,Int.reduceNeg,Nat.reduceAdd,zD,Option.getD_some] at *
 ·exact qh (z00 (by omega))
 ·exact qh (z0M (by omega))
 ·exact y9.intro rfl
def zLK:List AV->Option Res:=zGX yI y8 (fun x c=>some (none,some (c<=1000000),ETy.arr2.av (jR x c)))
theorem zMb:qM Tryz.prog 77 zLK:=⟨zAs fun x c r h=>by cases h;exact qL (yN (fn:=[(121,zKt),(122,zLy),(94,zC4)]) (fr:=[]) ⟨zLj,zLU,zEF,trivial⟩ trivial) Tryz.func77 (by kernel_rfl) fun _ h=>z3u x c h,_,Tryz.func77,by kernel_rfl,by kernel_rfl⟩
theorem z6d (x:yI.T) (c:Int) (h:c<=1000000):zAG ⟨tyL,[(77,zLK),(78,zEC)],[]⟩ Tryz.f37 [(ETy.pt yI).av (some x),y8.av c] (fun v=>v= .s (.int .i64 (zAI x c))):=by
 repeat' (conv=>whnf
          first|done|refine qN ?_|apply qH|refine qG fun _=> ?_|apply qB|apply qa|apply qo|refine qe (fun _=> ?_) (fun _=> ?_)|refine qn (fun _=> ?_) (fun _=> ?_)|refine qd (fun _=> ?_) (fun _=> ?_)|apply qt|refine qi (fun _=> ?_) (fun _=> ?_)|refine zA rfl ?_|apply qE|apply qO|exact zO|apply qq|apply qs|refine qK (by kernel_rfl) ?_|apply qr)
 all_goals try first|refine qz ?_|apply qz5
 all_goals try simp only [z6,zS,yE,zZ,qn1,z7,qn2,zX,ETy.dflt,qn3,qn4,Int.reduceToNat,Int.reduceAdd,Int.reduceSub,Int.reduceNeg,Nat.reduceAdd,zD,Option.getD_some] at *
 rfl
def zSa:List AV->Option Res:=zGX yI y8 (fun x c=>some (none,some (c<=1000000),.s (.int .i64 (zAI x c))))
theorem zKP:qM Tryz.prog 37 zSa:=⟨zAs fun x c r h=>by cases h;exact qL (yN (fn:=[(77,zLK),(78,zEC)]) (fr:=[]) ⟨zMb,zFi,trivial⟩ trivial) Tryz.func37 (by kernel_rfl) fun _ h=>z6d x c h,_,Tryz.func37,by kernel_rfl,by kernel_rfl⟩
end S1
open Go Go.Vm Go.Proofs
namespace S1
def WOk (w:Wit):Prop:=w.1≠0/\zB0.inR w=true
theorem wrap64 {n:Int} (h: -10000<=n/\n<=10000):IntKind.i64.wrap n=n:=zWJ (InK.i64.2 (by unfold yP;omega))
theorem zK3 {k a b:Int} (h0:k≠0) (hk: -10000<=k/\k<=10000) (ha: -10000<=a/\a<=10000) (hb: -10000<=b/\b<=10000):WOk (k,a,b) :=
 ⟨h0,by simp only [ETy.inR,wrap64 hk,wrap64 ha,wrap64 hb,beq_self_eq_true,Bool.and_self]⟩
theorem zRf {f:Nat->Option Wit} {n:Nat} (h: ∀ i,i<n->∀ w,f i=some w->WOk w): ∀ w∈(List.range n).filterMap f,WOk w:=by
 intro w hw;obtain ⟨i,hi,e⟩:=List.mem_filterMap.1 hw;exact h i (zV.1 hi) w e
theorem zTV (s:Int×List P3): ∀ w∈jF s,WOk w:=by
 unfold jF;split
 ·intro w hw;rw [zF] at hw;subst hw;exact zK3 (by decide) (by decide) (by decide) (by decide)
 ·rename_i hb
  have hb: ¬ (s.1<0\/s.1>4096\/(s.2.length:Int)>8192):=by
   simpa only [zHN,Bool.or_eq_true,zP] using hb
  refine zRf fun i hi w e=> ?_;unfold z6D at e;split at e
  ·cases e
  ·cases e;exact zK3 (by decide) (by decide) (by omega) (by decide)
theorem z4P {l:List P3} (hl:l.length<=8192): ∀ w∈dgL l l.length,WOk w :=
 zRf fun i hi w e=>by
  unfold dgG at e;split at e
  ·cases e;exact zK3 (by decide) (by decide) (by omega) (by decide)
  ·cases e
theorem zT6 {s:Int×List P3} (h:zMc s): ∀ w∈zH3 s,WOk w :=
 zRf fun i hi w e=>by
  have h1:=h.1;have h2:=h.2.1;unfold loG at e;split at e
  ·cases e
  ·cases e;exact zK3 (by decide) (by decide) (by omega) (by decide)
theorem z1Z {s:Int×List P3} (h:zMc s): ∀ w∈zXw s,WOk w :=
 zRf fun i hi w e=>by
  have h1:=h.1;have h2:=h.2.1;unfold piG at e;split at e
  ·cases e
  ·cases e;exact zK3 (by decide) (by decide) (by omega) (by decide)
def zYb (l:List Int):Prop:= ∀ a∈l,0<=a/\a<=8192
theorem z3a {kind:Int} {i:Nat} {av:List Int} (h0:kind≠0) (hk: -10000<=kind/\kind<=10000) (hi:i<=8192) (ha:zYb av) (s:PS) (hs: ∀ w∈s.2,WOk w): ∀ w∈(qA (prA kind i av) s av.length).2,WOk w :=
 qX (n:=av.length) (fun _ (t:PS)=> ∀ w∈t.2,WOk w) hs (fun j t hj ht=>by
  unfold prA;split
  ·exact ht
  ·intro w hw;rcases yD.1 hw with hw|hw
   ·exact ht w hw
   ·rw [zF] at hw;subst hw;have:=ha (av.getD j 0) (by rw [gdE,gE hj];exact yQ hj)
    exact zK3 h0 hk (by omega) (by omega)) av.length (zI _)
theorem zY8 (kp:P3->List P3) {kind:Int} (h0:kind≠0) (hk: -10000<=kind/\kind<=10000) {l:List P3} (hl:l.length<=8192): ∀ w∈(prS kp kind l l.length).2.2,WOk w :=
 (qX (n:=l.length) (fun _ (t:zJQ×PS)=>(∀ k,zYb (zAL t.1 k))/\∀ w∈t.2.2,WOk w) ⟨fun k a h=>(by cases h),fun w h=>(by cases h)⟩ (fun i t hi ht=>by
   unfold prI;refine qX (n:=(kp (l.getD i (0,0,0))).length) (fun _ (t:zJQ×PS)=>(∀ k,zYb (zAL t.1 k))/\∀ w∈t.2.2,WOk w) ht (fun m t hm ht=> ?_) _ (zI _);refine ⟨fun k a ha=> ?_,z3a h0 hk (by omega) (ht.1 _) _ ht.2⟩;have ha:a∈zAL (zAB .arr3 t.1 ((kp (l.getD i (0,0,0))).getD m (0,0,0)) (zAL t.1 ((kp (l.getD i (0,0,0))).getD m (0,0,0))++[(i:Int)])) k:=ha;rw [zDq] at ha;split at ha
   ·rcases yD.1 ha with ha|ha
    ·exact ht.1 _ a ha
    ·rw [zF] at ha;omega
   ·exact ht.1 _ a ha) l.length (zI _)).2
theorem zDP {l:List Wit} (h: ∀ w∈l,WOk w): ∀ w∈zGb zB0 cfW l,WOk w:=fun w hw=>h w (zNm z86 l (fun x hx=>(h x hx).2) w hw)
theorem zZT (s:Int×List P3): ∀ w∈allR s,WOk w:=by
 obtain ⟨n,l⟩:=s;unfold allR zDI;split
 ·exact zDP (zTV _)
 ·rename_i h1;have hf:=zF5 h1;have hl:l.length<=8192:=hf.2.2.1;unfold zDI;split
  ·exact zDP (z4P hl)
  ·unfold zDI;split
   ·exact zDP (zY8 _ (by decide) (by decide) hl)
   ·unfold zDI;split
    ·exact zDP (zY8 _ (by decide) (by decide) hl)
    ·unfold zDI;split
     ·exact zDP (zT6 hf)
     ·unfold zDI;split
      ·exact zDP (z1Z hf)
      ·intro w hw;cases hw
theorem zM5 {s:Int×List P3} (h:(zJr s).1=0):allR s=[]:=by
 unfold zJr at h;have hw:=zZT s;cases e:allR s with
 | nil=>rfl
 | cons w r =>
   rw [e] at h hw;exact absurd h (hw w (zY ..)).1
theorem zQj {s:Int×List P3} (h:(zJr s).1=0):zJr s=(0,0,0):=by unfold zJr;rw [zM5 h];rfl
theorem zEs: ∀ {ls:List (List Wit)},zDI ls=[]->∀ l∈ls,l=[]
 | [],_,l,hl=>by cases hl
 | a ::r,h,l,hl=>by
   unfold zDI at h;split at h
   ·rename_i ha;have:=zII a;rw [h] at this;simp at this;omega
   ·rename_i ha;rcases zT.1 hl with e|hl
    ·subst e;exact zLV ha
    ·exact zEs h l hl
structure z9i (s:Int×List P3):Prop where
 fit:zMc s
 deg:dgL s.2 s.2.length=[]
 twi:(prS qQ 3 s.2 s.2.length).2.2=[]
theorem zX8 {s:Int×List P3} (h:(zJr s).1=0):z9i s:=by
 have h:=zEs (zM5 h);obtain ⟨n,l⟩:=s;refine ⟨zF5 (by rw [h (jF (n,l)) (by simp)];simp),h _ (by simp),h _ (by simp)⟩
end S1
open Go Go.Vm Go.Proofs
namespace S1
def z9s (x:Int×List P3) (s:List ((Int×Int)×Int)×List Int) (i:Nat):List ((Int×Int)×Int)×List Int :=
 (zAB .arr2 s.1 (jR (x,[],[]) (3*x.2.length - 1 - i)) (3*x.2.length - 1 - i),s.2.set (yS (x,[],[]) (3*x.2.length - 1 - i)).toNat (3*x.2.length - 1 - i))
def zHA (x:Int×List P3) (i:Nat):List ((Int×Int)×Int)×List Int:=qA (z9s x) ([],List.replicate x.1.toNat 0) i
def zAa (x:Int×List P3):yI.T:=(x,(zHA x (3*x.2.length)).1,(zHA x (3*x.2.length)).2)
def z2x (n:Int) (l:List P3):Spec Nat where
 inv x:=x<=3*l.length
 live x:=[(6,.s (.int .i64 (3*l.length - 1 - x)))]
 keep:=[3,5]
 heap x:=[(3,.map .arr2 (.int .i64) (zHA (n,l) x).1),(4,.row (.int .i64) 3 (zHA (n,l) x).2)]
 keepH:=[1,5]
 mu x:=3*l.length - x
theorem z9X {n:Int} {t:P3} (h:zCm n t=true) (k:Int):0<=p3 t k/\p3 t k<n:=by
 have:=zAH h;unfold p3;split
 ·omega
 ·split<;>omega
theorem zBA {x:yI.T} {c:Int} (hf:zMc x.1) (h:j6 x c=true):0<=yS x c/\yS x c<x.1.1:=by
 unfold yS;rw [if_pos h];rw [yH] at h;exact z9X (hf.2.2.2 _ (by omega)) _
theorem zGZ (x:Int×List P3): ∀ i,(zHA x i).2.length=x.1.toNat
 | 0=>List.length_replicate
 | i+1=>by
   show ((zHA x i).2.set _ _).length=_;rw [List.length_set];exact zGZ x i
def zHP (s:Int×List P3):Option yI.T:=if (zJr s).1=0 then some (zAa s) else none
def z8M:Option yI.T->AV
 | none=> .s (.val (.pointer none))
 | some x=>(ETy.pt yI).av (some x)
theorem zZq {σ:Sig} {β:yR} {o:Option yI.T} {v:Value} (h:y6 σ β (z8M o) v):y6 σ β ((ETy.pt yI).av o) v:=by
 cases o with
 | some x=>exact h
 | none=>show [v]=[.pointer none];rw [show v= .pointer none from h.1]
theorem zCn.out {P:Program} {f:FuncId} {args:List AV} {p q:Option Prop} {u u':AV} (h:zCn P f args (p,q,u)) (hu: ∀ σ v,y6 σ [] u v->y6 σ [] u' v):zCn P f args (p,q,u'):=fun σ vals w hag hv=>by
 obtain ⟨h1,h2⟩:=h σ vals w hag hv;refine ⟨h1,fun hq=> ?_⟩;exact (h2 hq).mono fun e w' ⟨v,σ',e1,e2,e3,e4,e5,e6⟩=>⟨v,σ',e1,e2,e3,e4,hu _ _ e5,e6⟩
theorem z6J (n:Int) (l:List P3):zAG ⟨tyL,[(93,zYt),(64,zIF),(77,zLK),(94,zC4)],[]⟩ Tryz.f54 [qP.av (n,l)] (fun v=>v= .tup [z8M (zHP (n,l)),zB0.av (zJr (n,l))]):=by
 repeat' (conv=>whnf
          first|done|refine qN ?_|apply qH|refine qG fun _=> ?_|apply qB|apply qa|apply qo|refine qe (fun _=> ?_) (fun _=> ?_)|refine qn (fun _=> ?_) (fun _=> ?_)|refine qd (fun _=> ?_) (fun _=> ?_)|apply qt|refine qi (fun _=> ?_) (fun _=> ?_)|(refine zaB 6 rfl (z2x n l) (0) ?_ ?_ ?_ fun x hx=> ?_)|with_reducible refine zaA (z2x _ _) (x+1) ?_ ?_ ?_ ?_|refine zA rfl ?_|apply qE|apply qO|exact zO|apply qq|apply qs|refine qK (by kernel_rfl) ?_|apply qr)
 all_goals try first|refine qz ?_|apply qz5
 all_goals try simp only [z6,zS,yE,zZ,qn1,z7,qn2,zX,ETy.dflt,qn3,qn4,Int.reduceToNat,Int.reduceAdd,Int.reduceSub,Int.reduceNeg,Nat.reduceAdd,zD,Option.getD_some,z2x] at *
 ·rename_i h;unfold zHP;rw [if_neg h];exact y9.intro rfl
 all_goals
  have hc:=zX8 (s:=(n,l)) ‹_›;have hl:l.length<=8192:=hc.fit.2.2.1;have h0:0<=n:=hc.fit.1;have h1:n<=4096:=hc.fit.2.1
 ·exact qh hl
 ·exact qh ⟨h0,Int.le_refl _,by omega⟩
 ·exact qh (Nat.zero_le _)
 ·omega
 ·exact qh (show 3*(l.length:Int) - 1 - x<=1000000 by omega)
 ·exact qh (show 3*(l.length:Int) - 1 - x<=1000000000 by omega)
 ·have:=zBA (x:=((n,l),[],[])) (c:=3*(l.length:Int) - 1 - x) hc.fit (yH.2 ⟨by omega,by show _<3*(l.length:Int);omega⟩);refine yJ.intro ⟨this.1,Int.lt_of_lt_of_le this.2 ?_⟩;show n<=_;omega
 ·exact qh (by omega)
 ·omega
 ·rfl
 ·exact qh (by omega)
 ·have e:x=3*l.length:=by omega
  subst e
  have e2:List.take n.toNat (List.drop 0 (zHA (n,l) (3*l.length)).snd)=(zHA (n,l) (3*l.length)).snd:=by
   rw [List.drop_zero];exact List.take_of_length_le (Nat.le_of_eq (zGZ (n,l) _))
  unfold zHP;rw [if_pos ‹_›,zQj ‹_›];refine y9.intro ?_;rw [e2];rfl
def z9G:List AV->Option Res:=zEz qP (fun s=>some (none,none,.tup [(ETy.pt yI).av (zHP s),zB0.av (zJr s)]))
theorem newRow:qM Tryz.prog 54 z9G:=⟨zA1 fun s r h=>by
 cases h;refine zCn.out (qL (yN (fn:=[(93,zYt),(64,zIF),(77,zLK),(94,zC4)]) (fr:=[]) ⟨zZS,zMV,zMb,zEF,trivial⟩ trivial) Tryz.func54 (by kernel_rfl) fun _ _=>z6J s.1 s.2) fun σ v h=> ?_;obtain ⟨vs,e,r⟩:=h
 match vs,r with
 | [a,b],r=>exact ⟨_,e,zZq r.1,r.2.1,trivial⟩,_,Tryz.func54,by kernel_rfl,by kernel_rfl⟩
end S1
