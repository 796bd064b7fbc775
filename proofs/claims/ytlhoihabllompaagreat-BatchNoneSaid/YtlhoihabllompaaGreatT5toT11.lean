/- A part of the proofs of the laws. -/
import Derived.Test.YtlhoihabllompaaGreatT0toVmInl
import Derived.Test.YtlhoihabllompaaGreatVmSort
import Derived.Test.YtlhoihabllompaaGreatLaySort
set_option linter.unusedSimpArgs false
set_option linter.unusedVariables false
set_option maxHeartbeats 8000000
set_option maxRecDepth 100000
open Go Go.Vm Go.Proofs
namespace S1
def zWr (x y:Int):Int:=if x<y then -1 else if x>y then 1 else 0
theorem z6U {fn} (x:Int):zAG ⟨tyL,fn,[]⟩ Tryz.f177 [(ETy.int .i64).av x] (fun v=>v= .s (.bool false)):=by
 repeat' (conv=>whnf
          first|done|refine qN (by first|rfl|omega|(simp only [yO] at *;omega)) ?_|apply qH|refine qG fun _=> ?_|apply qB|apply qa|apply qo|refine qe (fun _=> ?_) (fun _=> ?_)|refine qn (fun _=> ?_) (fun _=> ?_)|refine qd (fun _=> ?_) (fun _=> ?_)|apply qt|refine qi (fun _=> ?_) (fun _=> ?_)|refine zA rfl ?_|apply qE|apply qO|exact zN|apply qq|apply qs|refine qK (by kernel_rfl) ?_|apply qr)
 all_goals try first|apply qz1|apply qz2|apply qz3|apply qz4|apply qz5|apply qz6|apply qz7|apply qz8|apply qz9|apply qz0
 all_goals try simp only [zZ,zR,yE,z6,qn1,zY,qn2,zX,ETy.dflt,qn3,qn4,Int.reduceToNat,Int.reduceAdd,Int.reduceSub,Int.reduceNeg,Nat.reduceAdd,zD] at *
 simp
def z7n:List AV->Option Res:=zEv (.int .i64) (fun _=>some (none,none,.s (.bool false)))
theorem z6Z:qM Tryz.prog 177 z7n:=⟨zAW fun x r h=>by cases h;exact qL (yM (fn:=[]) (fr:=[]) trivial trivial) Tryz.func177 (by kernel_rfl) fun _ _=>z6U x,_,Tryz.func177,by kernel_rfl,by kernel_rfl⟩
theorem z6T (x y:Int):zAG ⟨tyL,[(177,z7n)],[]⟩ Tryz.f169 [(ETy.int .i64).av x,(ETy.int .i64).av y] (fun v=>v= .s (.int .i64 (zWr x y))):=by
 repeat' (conv=>whnf
          first|done|refine qN (by first|rfl|omega|(simp only [yO] at *;omega)) ?_|apply qH|refine qG fun _=> ?_|apply qB|apply qa|apply qo|refine qe (fun _=> ?_) (fun _=> ?_)|refine qn (fun _=> ?_) (fun _=> ?_)|refine qd (fun _=> ?_) (fun _=> ?_)|apply qt|refine qi (fun _=> ?_) (fun _=> ?_)|refine zA rfl ?_|apply qE|apply qO|exact zN|apply qq|apply qs|refine qK (by kernel_rfl) ?_|apply qr)
 all_goals try first|apply qz1|apply qz2|apply qz3|apply qz4|apply qz5|apply qz6|apply qz7|apply qz8|apply qz9|apply qz0
 all_goals try simp only [zZ,zR,yE,z6,qn1,zY,qn2,zX,ETy.dflt,qn3,qn4,Int.reduceToNat,Int.reduceAdd,Int.reduceSub,Int.reduceNeg,Nat.reduceAdd,zD,zWr] at *
 all_goals (repeat' split)<;>omega
def z7e:List AV->Option Res:=zCs (.int .i64) (.int .i64) (fun x y=>some (none,none,.s (.int .i64 (zWr x y))))
theorem z6K:qM Tryz.prog 169 z7e:=⟨jC fun x y r h=>by cases h;exact qL (yM (fn:=[(177,z7n)]) (fr:=[]) ⟨z6Z,trivial⟩ trivial) Tryz.func169 (by kernel_rfl) fun _ _=>z6T x y,_,Tryz.func169,by kernel_rfl,by kernel_rfl⟩
def orR:List Int->Int
 | []=>0
 | x::r=>if x=0 then orR r else x
def z2w (l:List Int):Spec Nat where
 inv x:=x<=l.length/\orR l=orR (l.drop x)
 live x:=[(8,.s (.int .i64 x))]
 keep:=[3,6,7]
 heap _:=[]
 keepH:=[]
 mu x:=l.length - x
theorem z7q {fn} (l:List Int):zAG ⟨tyL,fn,[]⟩ Tryz.f168 [(ETy.sl (.int .i64)).av l] (fun v=>v= .s (.int .i64 (orR l))):=by
 repeat' (conv=>whnf
          first|done|refine qN (by first|rfl|omega|(simp only [yO] at *;omega)) ?_|apply qH|refine qG fun _=> ?_|apply qB|apply qa|apply qo|refine qe (fun _=> ?_) (fun _=> ?_)|refine qn (fun _=> ?_) (fun _=> ?_)|refine qd (fun _=> ?_) (fun _=> ?_)|apply qt|refine qi (fun _=> ?_) (fun _=> ?_)|(refine qS 3 rfl ?_;refine Or.inr (zB (Nat) (zB (z2w l) (zA (zB (0) (zA (yJ.out ?_) (zA ?_ (zA ?_ rfl)))) (fun x hx=> ?_)))))|((with_reducible show (∃ y,And (Spec.inv (z2w _) y) _));refine zB (x+1) (zA (yJ.out ?_) (zA (zA ?_ (zA ?_ rfl)) (yJ.out ?_))))|refine zA rfl ?_|apply qE|apply qO|exact zN|apply qq|apply qs|refine qK (by kernel_rfl) ?_|apply qr)
 all_goals try first|apply qz1|apply qz2|apply qz3|apply qz4|apply qz5|apply qz6|apply qz7|apply qz8|apply qz9|apply qz0
 all_goals try simp only [zZ,zR,yE,z6,qn1,zY,qn2,zX,ETy.dflt,qn3,qn4,Int.reduceToNat,Int.reduceAdd,Int.reduceSub,Int.reduceNeg,Nat.reduceAdd,zD,z2w] at *
 all_goals try (refine qh ?_;omega)
 ·exact qh ⟨Nat.zero_le _,rfl⟩
 ·rename_i h1 h2;rw [hx.2,zBM 0 h1,orR,if_neg h2]
 ·rename_i h1 h2;exact qh ⟨by omega,by rw [hx.2,zBM 0 h1,orR,if_pos h2]⟩
 ·rw [hx.2,zE3 (by assumption)];rfl
def orC:List AV->Option Res:=zEv (.sl (.int .i64)) (fun l=>some (none,none,.s (.int .i64 (orR l))))
theorem z8Y:qM Tryz.prog 168 orC:=⟨zAW fun l r h=>by cases h;exact qL (yM (fn:=[]) (fr:=[]) trivial trivial) Tryz.func168 (by kernel_rfl) fun _ _=>z7q l,_,Tryz.func168,by kernel_rfl,by kernel_rfl⟩
def cfW (a b:Wit):Int:=orR [zWr a.2.2 b.2.2,zWr a.2.1 b.2.1]
theorem z3I (a b:Wit):zAG ⟨tyL,[(169,z7e),(168,orC)],[]⟩ Tryz.f167 [zBY.av a,zBY.av b] (fun v=>v= .s (.int .i64 (cfW a b))):=by
 repeat' (conv=>whnf
          first|done|refine qN (by first|rfl|omega|(simp only [yO] at *;omega)) ?_|apply qH|refine qG fun _=> ?_|apply qB|apply qa|apply qo|refine qe (fun _=> ?_) (fun _=> ?_)|refine qn (fun _=> ?_) (fun _=> ?_)|refine qd (fun _=> ?_) (fun _=> ?_)|apply qt|refine qi (fun _=> ?_) (fun _=> ?_)|refine zA rfl ?_|apply qE|apply qO|exact zN|apply qq|apply qs|refine qK (by kernel_rfl) ?_|apply qr)
 all_goals try first|apply qz1|apply qz2|apply qz3|apply qz4|apply qz5|apply qz6|apply qz7|apply qz8|apply qz9|apply qz0
 all_goals try simp only [zZ,zR,yE,z6,qn1,zY,qn2,zX,ETy.dflt,qn3,qn4,Int.reduceToNat,Int.reduceAdd,Int.reduceSub,Int.reduceNeg,Nat.reduceAdd,zD,cfW] at *
 try rfl
def z8E:List AV->Option Res:=zCs zBY zBY (fun a b=>some (none,none,.s (.int .i64 (cfW a b))))
theorem z4g:qM Tryz.prog 167 z8E:=⟨jC fun a b r h=>by cases h;exact qL (yM (fn:=[(169,z7e),(168,orC)]) (fr:=[]) ⟨z6K,z8Y,trivial⟩ trivial) Tryz.func167 (by kernel_rfl) fun _ _=>z3I a b,_,Tryz.func167,by kernel_rfl,by kernel_rfl⟩
theorem z5d (a b:Wit):cfW a b=if a.2.2=b.2.2 then zWr a.2.1 b.2.1 else zWr a.2.2 b.2.2:=by
 simp only [cfW,orR,zWr]
 repeat' split
 all_goals first|rfl|omega
def lt2 (p r q s:Int):Bool:=decide (p<q\/(p=q/\r<s))
theorem z6Q (p r q s:Int):decide ((if p=q then zWr r s else zWr p q)<0)=lt2 p r q s:=by
 unfold lt2
 congr 1
 unfold zWr;apply propext
 by_cases h1:p=q
 ·subst h1
  by_cases h2:r<s
  ·simp [h2]
  ·by_cases h3:r>s<;>simp [h2,h3]
 ·by_cases h2:p<q
  ·simp [h1,h2]
  ·by_cases h3:p>q<;>simp [h1,h2,h3]
theorem z21 (p r:Int):lt2 p r p r=false:=by simp [lt2]
theorem lt2_trans (p r q s t u:Int) (h1:lt2 p r q s=true) (h2:lt2 q s t u=true):lt2 p r t u=true:=by
 simp only [lt2,zP] at *;omega
theorem zSZ (p r q s t u:Int) (h1:lt2 p r q s=false) (h2:lt2 q s t u=false):lt2 p r t u=false:=by
 simp only [lt2,yP] at *;omega
theorem z7k:z5R zBY cfW:=by
 have key: ∀ a b:RT zBY,ltOf (fun a b:RT zBY=>cfW a.1 b.1) a b=lt2 a.1.2.2 a.1.2.1 b.1.2.2 b.1.2.1:=by
  intro a b;show decide (cfW a.1 b.1<0)=_;rw [z5d];exact z6Q _ _ _ _
 refine ⟨fun x=>by rw [key];exact z21 _ _,fun x y z h1 h2=> ?_,fun x y z h1 h2=> ?_⟩
 ·rw [key] at h1 h2 ⊢;exact lt2_trans _ _ _ _ _ _ h1 h2
 ·rw [key] at h1 h2 ⊢;exact zSZ _ _ _ _ _ _ h1 h2
def zVy:List AV->St->(AV->St->Prop)->Prop:=zG6 zBY (zGi zBY cfW) (z8H 167) 1
theorem zZ9 : zJU Tryz.prog 166 zVy ∧ ∃ fn, Tryz.prog.funcs[166]? = some fn ∧ (fn.name == "runtime.NumGoroutine") = false ∧ fn.body.isNone = false :=
 ⟨zYk (ρ:=Go.Proofs.S1.laySortF_ren) Go.Proofs.S1.laySortF (e:=zBY) rfl rfl (by decide) (fun w=>((z6I (fn:=[]) trivial).ty 91 _ rfl).run_isAgg) (fun w=>((z6I (fn:=[]) trivial).ty 91 _ rfl).run_sizeOf) (enters_of Tryz.func167 (by kernel_rfl) rfl) z7k (fun x y=>z4g.1 _ _ rfl),
   _,Tryz.func166,by kernel_rfl,by kernel_rfl⟩
def zNQ:List AV->St->(AV->St->Prop)->Prop:=zLG zBX (fun l=>l.isEmpty)
theorem zQe : zJU Tryz.prog 75 zNQ ∧ ∃ fn, Tryz.prog.funcs[75]? = some fn ∧ (fn.name == "runtime.NumGoroutine") = false ∧ fn.body.isNone = false :=
 ⟨zU8 (ρ:=Go.Proofs.S1.laySortI_ren) Go.Proofs.S1.laySortI,_,Tryz.func75,by kernel_rfl,by kernel_rfl⟩
end S1
open Go Go.Vm Go.Proofs
namespace S1
def s3 (t:P3):P3:=((zBX [t.1,t.2.1,t.2.2]).getD 0 0,(zBX [t.1,t.2.1,t.2.2]).getD 1 0,(zBX [t.1,t.2.1,t.2.2]).getD 2 0)
def zDh (t:P3):List P3:=[s3 t]
theorem z4D (t:P3):zAG ⟨tyL,[],[(75,.run zNQ)]⟩ Tryz.f181 [ETy.arr3.av t] (fun v=>v= .s (.sl .arr3 (zDh t))):=by
 repeat' (conv=>whnf
          first|done|refine qN (by first|rfl|omega|(simp only [yO] at *;omega)) ?_|apply qH|refine qG fun _=> ?_|apply qB|apply qa|apply qo|refine qe (fun _=> ?_) (fun _=> ?_)|refine qn (fun _=> ?_) (fun _=> ?_)|refine qd (fun _=> ?_) (fun _=> ?_)|apply qt|refine qi (fun _=> ?_) (fun _=> ?_)|refine zA rfl ?_|apply qE|apply qO|exact zN|apply qq|apply qs|refine qK (by kernel_rfl) ?_|apply qr)
 all_goals try first|apply qz1|apply qz2|apply qz3|apply qz4|apply qz5|apply qz6|apply qz7|apply qz8|apply qz9|apply qz0
 all_goals try simp only [zZ,zR,yE,z6,qn1,zY,qn2,zX,ETy.dflt,qn3,qn4,Int.reduceToNat,Int.reduceAdd,Int.reduceSub,Int.reduceNeg,Nat.reduceAdd,zD,zDh,s3] at *
 try rfl
def z2q:List AV->Option Res:=zEv .arr3 (fun t=>some (none,none,.s (.sl .arr3 (zDh t))))
theorem z3p:qM Tryz.prog 181 z2q:=⟨zAW fun t r h=>by cases h;exact qL (yM (fn:=[]) (fr:=[(75,.run zNQ)]) trivial ⟨zQe,trivial⟩) Tryz.func181 (by kernel_rfl) fun _ _=>z4D t,_,Tryz.func181,by kernel_rfl,by kernel_rfl⟩
theorem zS9 (n kind:Int) (l:List P3) (hb:l.length<=8192):zEu ⟨tyL,[(181,z2q)],[]⟩ Tryz.f179 [qR.av (n,l),(ETy.int .i64).av kind,ETy.fnc.av (some 181)] (fun v obs=>v= .s (.own 0 0 (prS zDh kind l l.length).2.2.length)/\obs=[.row zBY 91 (prS zDh kind l l.length).2.2]):=by
 have hS:=fun x (h:x<=8192)=>z1p zDh (fun _=>(by decide:1<=3)) kind l x h
 repeat' (conv=>whnf
          first|done|refine qN (by first|rfl|omega|(simp only [yO] at *;omega)) ?_|apply qH|refine qG fun _=> ?_|apply qB|apply qa|apply qo|refine qe (fun _=> ?_) (fun _=> ?_)|refine qn (fun _=> ?_) (fun _=> ?_)|refine qd (fun _=> ?_) (fun _=> ?_)|apply qt|refine qi (fun _=> ?_) (fun _=> ?_)|(refine qS 5 rfl ?_;refine Or.inr (zB (Nat) (zB (zEw zDh kind l) (zA (zB (0) (zA (yJ.out ?_) (zA ?_ (zA ?_ rfl)))) (fun x hx=> ?_)))))|((with_reducible show (∃ y,And (Spec.inv (zEw _ _ _) y) _));refine zB (x+1) (zA (yJ.out ?_) (zA (zA ?_ (zA ?_ rfl)) (yJ.out ?_))))|(refine qS 8 rfl ?_;refine Or.inr (zB (Nat) (zB (zEz kind x (zDh (l.getD x (0,0,0))) (prS zDh kind l x)) (zA (zB (0) (zA (yJ.out ?_) (zA ?_ (zA ?_ rfl)))) (fun y hy=> ?_)))))|((with_reducible show (∃ y,And (Spec.inv (zEz _ _ _ _) y) _));refine zB (y+1) (zA (yJ.out ?_) (zA (zA ?_ (zA ?_ rfl)) (yJ.out ?_))))|(refine qS 11 rfl ?_;refine Or.inr (zB (Nat) (zB (zKS kind x (zAI (qA (prK kind x (zDh (l.getD x (0,0,0)))) (prS zDh kind l x) y).1 ((zDh (l.getD x (0,0,0))).getD y (0,0,0))) (qA (prK kind x (zDh (l.getD x (0,0,0)))) (prS zDh kind l x) y).2) (zA (zB (0) (zA (yJ.out ?_) (zA ?_ (zA ?_ rfl)))) (fun z hz=> ?_)))))|((with_reducible show (∃ y,And (Spec.inv (zKS _ _ _ _) y) _));refine zB (z+1) (zA (yJ.out ?_) (zA (zA ?_ (zA ?_ rfl)) (yJ.out ?_))))|refine zA rfl ?_|apply qE|apply qO|exact zN|apply qq|apply qs|refine qK (by kernel_rfl) ?_|apply qr)
 all_goals try first|apply qz1|apply qz2|apply qz3|apply qz4|apply qz5|apply qz6|apply qz7|apply qz8|apply qz9|apply qz0
 all_goals try simp only [zZ,zR,yE,z6,qn1,zY,qn2,zX,ETy.dflt,qn3,qn4,Int.reduceToNat,Int.reduceAdd,Int.reduceSub,Int.reduceNeg,Nat.reduceAdd,zD,zEw,zEz,zKS,zCt,zO1,zK1] at *
 all_goals try (refine qh ?_;omega)
 all_goals try (rw [zSD (by assumption)];done)
 all_goals try (rw [zUj (by assumption)];(try simp);done)
 all_goals try first
  | (have e:z=(zAI (qA (prK kind x (zDh (l.getD x (0,0,0)))) (prS zDh kind l x) y).1 ((zDh (l.getD x (0,0,0))).getD y (0,0,0))).length:=by omega
     subst e;first|rfl|(rw [zCt,zAQ];rfl))
  | (have e:y=(zDh (l.getD x (0,0,0))).length:=by omega
     subst e;rfl)
  | (have e:x=l.length:=by omega
     subst e;rfl)
 all_goals
  have hB:=zOq (kind:=kind) (i:=x) (ks:=zDh (l.getD x (0,0,0))) (hS x (by omega)) (by decide:1<=3) y (by omega);have h1:=hB.1 ((zDh (l.getD x (0,0,0))).getD y (0,0,0));have h2:=hB.2;have h3:=zOo kind x (zAI (qA (prK kind x (zDh (l.getD x (0,0,0)))) (prS zDh kind l x) y).1 ((zDh (l.getD x (0,0,0))).getD y (0,0,0))) (qA (prK kind x (zDh (l.getD x (0,0,0)))) (prS zDh kind l x) y).2 z;have h4:y<=3:=Nat.le_trans hy (by decide:1<=3)
  have h5:y*(3*x+3)<=3*(3*x+3):=Nat.mul_le_mul_right _ h4;refine qh ?_;generalize y*(3*x+3)=q at *
 ·omega
 ·unfold zBS;simp only [z8,List.take_zero,List.length_nil];omega
def zMN:List AV->Option zKI:=zOb qR (.int .i64) .fnc (fun s kind f=>match f with
 | some 181=>some (none,some (s.2.length<=8192),.s (.own 0 0 (prS zDh kind s.2 s.2.length).2.2.length),[.row zBY 91 (prS zDh kind s.2 s.2.length).2.2])
 | _=>none)
theorem zSy:zDB Tryz.prog 179 zKh:=⟨zQ3 fun s kind f r h=>by
 match f,h with
 | some 180,h=>cases h;exact zDc (yM (fn:=[(180,zQP)]) (fr:=[]) ⟨zUl,trivial⟩ trivial) Tryz.func179 (by kernel_rfl) fun _ h=>zSc s.1 kind s.2 h,_,Tryz.func179,by kernel_rfl,by kernel_rfl⟩
theorem zSr:zDB Tryz.prog 179 zMN:=⟨zQ3 fun s kind f r h=>by
 match f,h with
 | some 181,h=>cases h;exact zDc (yM (fn:=[(181,z2q)]) (fr:=[]) ⟨z3p,trivial⟩ trivial) Tryz.func179 (by kernel_rfl) fun _ h=>zS9 s.1 kind s.2 h,_,Tryz.func179,by kernel_rfl,by kernel_rfl⟩
theorem zYo (n:Int) (l:List P3) (hb:l.length<=8192):zEu ⟨tyL,[],[(179,.res zKh)]⟩ Tryz.f162 [qR.av (n,l)] (fun v obs=>v= .s (.own 0 0 (prS qP 3 l l.length).2.2.length)/\obs=[.row zBY 91 (prS qP 3 l l.length).2.2]):=by
 repeat' (conv=>whnf
          first|done|refine qN (by first|rfl|omega|(simp only [yO] at *;omega)) ?_|apply qH|refine qG fun _=> ?_|apply qB|apply qa|apply qo|refine qe (fun _=> ?_) (fun _=> ?_)|refine qn (fun _=> ?_) (fun _=> ?_)|refine qd (fun _=> ?_) (fun _=> ?_)|apply qt|refine qi (fun _=> ?_) (fun _=> ?_)|refine zA rfl ?_|apply qE|apply qO|exact zN|apply qq|apply qs|refine qK (by kernel_rfl) ?_|apply qr)
 all_goals try first|apply qz1|apply qz2|apply qz3|apply qz4|apply qz5|apply qz6|apply qz7|apply qz8|apply qz9|apply qz0
 all_goals try simp only [zZ,zR,yE,z6,qn1,zY,qn2,zX,ETy.dflt,qn3,qn4,Int.reduceToNat,Int.reduceAdd,Int.reduceSub,Int.reduceNeg,Nat.reduceAdd,zD] at *
def zVq:List AV->Option zKI:=zEv qR (fun s=>some (none,some (s.2.length<=8192),.s (.own 0 0 (prS qP 3 s.2 s.2.length).2.2.length),[.row zBY 91 (prS qP 3 s.2 s.2.length).2.2]))
theorem z0F:zDB Tryz.prog 162 zVq:=⟨zCC fun s r h=>by cases h;exact zDc (yM (fn:=[]) (fr:=[(179,.res zKh)]) trivial ⟨zSy,trivial⟩) Tryz.func162 (by kernel_rfl) fun _ h=>zYo s.1 s.2 h,_,Tryz.func162,by kernel_rfl,by kernel_rfl⟩
theorem zOl (n:Int) (l:List P3) (hb:l.length<=8192):zEu ⟨tyL,[],[(179,.res zMN)]⟩ Tryz.f163 [qR.av (n,l)] (fun v obs=>v= .s (.own 0 0 (prS zDh 4 l l.length).2.2.length)/\obs=[.row zBY 91 (prS zDh 4 l l.length).2.2]):=by
 repeat' (conv=>whnf
          first|done|refine qN (by first|rfl|omega|(simp only [yO] at *;omega)) ?_|apply qH|refine qG fun _=> ?_|apply qB|apply qa|apply qo|refine qe (fun _=> ?_) (fun _=> ?_)|refine qn (fun _=> ?_) (fun _=> ?_)|refine qd (fun _=> ?_) (fun _=> ?_)|apply qt|refine qi (fun _=> ?_) (fun _=> ?_)|refine zA rfl ?_|apply qE|apply qO|exact zN|apply qq|apply qs|refine qK (by kernel_rfl) ?_|apply qr)
 all_goals try first|apply qz1|apply qz2|apply qz3|apply qz4|apply qz5|apply qz6|apply qz7|apply qz8|apply qz9|apply qz0
 all_goals try simp only [zZ,zR,yE,z6,qn1,zY,qn2,zX,ETy.dflt,qn3,qn4,Int.reduceToNat,Int.reduceAdd,Int.reduceSub,Int.reduceNeg,Nat.reduceAdd,zD] at *
def zIn:List AV->Option zKI:=zEv qR (fun s=>some (none,some (s.2.length<=8192),.s (.own 0 0 (prS zDh 4 s.2 s.2.length).2.2.length),[.row zBY 91 (prS zDh 4 s.2 s.2.length).2.2]))
theorem zPS:zDB Tryz.prog 163 zIn:=⟨zCC fun s r h=>by cases h;exact zDc (yM (fn:=[]) (fr:=[(179,.res zMN)]) trivial ⟨zSr,trivial⟩) Tryz.func163 (by kernel_rfl) fun _ h=>zOl s.1 s.2 h,_,Tryz.func163,by kernel_rfl,by kernel_rfl⟩
end S1
open Go Go.Vm Go.Proofs
namespace S1
theorem zMD {α:Type} {l:List α} (h: ¬ (l.length:Int)>0):l=[]:=by
 cases l with
 | nil=>rfl
 | cons a l=>exact absurd (by simp) h
theorem zFI {n:Int} {l:List P3} (h: ¬ ((jD (n,l)).length:Int)>0):zLh (n,l):=by
 have h:=zMD h;unfold jD at h;split at h
 ·cases h
 ·rename_i hb
  have hb: ¬ (n<0\/n>4096\/(l.length:Int)>8192):=by
   simpa only [zGp,Bool.or_eq_true,zP] using hb
  have hc:n<=4096/\0<=n/\l.length<=8192:=by omega
  refine ⟨hc.2.1,hc.1,hc.2.2,fun i hi=> ?_⟩;have:=List.filterMap_eq_nil_iff.1 h i (zV.2 hi);unfold z5P at this;split at this
  ·assumption
  ·cases this
theorem zLq {s:List Bool} {i j:Nat} (h:(s.set i true).getD j false=true):i=j\/s.getD j false=true:=by
 by_cases e:i=j
 ·exact .inl e
 ·rw [gdE,List.getElem?_set_ne e] at h;exact .inr (by rw [gdE];exact h)
theorem zN7 {n:Nat} {l:List P3} {v:Nat} (hl: ∀ j,j<l.length->0<=(l.getD j (0,0,0)).1/\0<=(l.getD j (0,0,0)).2.1/\0<=(l.getD j (0,0,0)).2.2) :
 ∀ i,i<=l.length->(zCe n l i).getD v false=true->∃ j,j<i/\z7 (l.getD j (0,0,0)) v
 | 0,_,h=>by
   have:(zCe n l 0).getD v false=false:=by
    show (List.replicate n false).getD v false=false;rw [gdE,List.getElem?_replicate];split<;>rfl
   rw [this] at h;cases h
 | i + 1,hi,h=>by
   have h:(zNA (zCe n l i) (l.getD i (0,0,0))).getD v false=true:=h;obtain ⟨k1,k2,k3⟩:=hl i (by omega);rcases zLq h with e|h
   ·exact ⟨i,by omega,.inr (.inr (by omega))⟩
   ·rcases zLq h with e|h
    ·exact ⟨i,by omega,.inr (.inl (by omega))⟩
    ·rcases zLq h with e|h
     ·exact ⟨i,by omega,.inl (by omega)⟩
     ·obtain ⟨j,h1,h2⟩:=zN7 hl i (by omega) h;exact ⟨j,by omega,h2⟩
theorem zZA {n:Int} {l:List P3} (hf:zLh (n,l)) (h: ¬ ((zHQ (n,l)).length:Int)>0):z8V (n,l):=by
 have h:=zMD h;intro v hv;have:=List.filterMap_eq_nil_iff.1 h v (zV.2 (by omega));unfold loG at this;split at this
 ·rename_i ht;exact zN7 (fun j hj=>by have:=zAE (hf.2.2.2 j hj);omega) l.length (zI _) ht
 ·cases this
def zDA:List (List Wit)->List Wit
 | []=>[]
 | l::r=>if (l.length:Int)>0 then zGi zBY cfW l else zDA r
def allR (s:Int×List P3):List Wit:=zDA [jD s,dgL s.2 s.2.length,(prS qP 3 s.2 s.2.length).2.2,(prS zDh 4 s.2 s.2.length).2.2,zHQ s,zUo s]
theorem zJH (l:List Wit):(zGi zBY cfW l).length=l.length:=zI8 z7k l
theorem z54 (n:Int) (l:List P3):zEu ⟨tyL,[],[(160,.res zWh),(161,.res z2p),(162,.res zVq),(163,.res zIn),(164,.res zPu),(165,.res zX6),(166,.run zVy)]⟩ Tryz.f135 [qR.av (n,l)] (fun v obs=>v= .s (.own 0 0 (allR (n,l)).length)/\obs=[.row zBY 91 (allR (n,l))]):=by
 repeat' (conv=>whnf
          first|done|refine qN (by first|rfl|omega|(simp only [yO] at *;omega)) ?_|apply qH|refine qG fun _=> ?_|apply qB|apply qa|apply qo|refine qe (fun _=> ?_) (fun _=> ?_)|refine qn (fun _=> ?_) (fun _=> ?_)|refine qd (fun _=> ?_) (fun _=> ?_)|apply qt|refine qi (fun _=> ?_) (fun _=> ?_)|(refine qS 2 rfl ?_;refine Or.inl (zB (7) ?_))|refine zA rfl ?_|apply qE|apply qO|exact zN|apply qq|apply qs|refine qK (by kernel_rfl) ?_|apply qr)
 all_goals try first|apply qz1|apply qz2|apply qz3|apply qz4|apply qz5|apply qz6|apply qz7|apply qz8|apply qz9|apply qz0
 all_goals try simp only [zZ,zR,yE,z6,qn1,zY,qn2,zX,ETy.dflt,qn3,qn4,Int.reduceToNat,Int.reduceAdd,Int.reduceSub,Int.reduceNeg,Nat.reduceAdd,zD] at *
 all_goals first
  | (simp only [allR,zDA, *,zJH,if_true,if_false,List.take_zero,List.drop_length,List.append_nil,List.nil_append,List.length_nil];first|done|exact (zJH _).symm)
  | (refine qh ?_;first|exact (zFI ‹_›).2.2.1|exact zFI ‹_›|exact ⟨zFI ‹_›,zZA (zFI ‹_›) ‹_›⟩)
def z8O:List AV->Option zKI:=zEv qR (fun s=>some (none,none,.s (.own 0 0 (allR s).length),[.row zBY 91 (allR s)]))
theorem z7F:zDB Tryz.prog 135 z8O:=⟨zCC fun s r h=>by cases h;exact zDc (yM (fn:=[]) (fr:=[(160,.res zWh),(161,.res z2p),(162,.res zVq),(163,.res zIn),(164,.res zPu),(165,.res zX6),(166,.run zVy)]) trivial ⟨z0m,z2Z,z0F,zPS,zXJ,z00,zZ9,trivial⟩) Tryz.func135 (by kernel_rfl) fun _ _=>z54 s.1 s.2,_,Tryz.func135,by kernel_rfl,by kernel_rfl⟩
end S1
open Go Go.Vm Go.Proofs
namespace S1
def zJ2 (s:Int×List P3):Wit:=(allR s).headD (0,0,0)
theorem zZZ (n:Int) (l:List P3):zAG ⟨tyL,[],[(135,.res z8O)]⟩ Tryz.f93 [qR.av (n,l)] (fun v=>v=zBY.av (zJ2 (n,l))):=by
 repeat' (conv=>whnf
          first|done|refine qN (by first|rfl|omega|(simp only [yO] at *;omega)) ?_|apply qH|refine qG fun _=> ?_|apply qB|apply qa|apply qo|refine qe (fun _=> ?_) (fun _=> ?_)|refine qn (fun _=> ?_) (fun _=> ?_)|refine qd (fun _=> ?_) (fun _=> ?_)|apply qt|refine qi (fun _=> ?_) (fun _=> ?_)|refine zA rfl ?_|apply qE|apply qO|exact zN|apply qq|apply qs|refine qK (by kernel_rfl) ?_|apply qr)
 all_goals try first|apply qz1|apply qz2|apply qz3|apply qz4|apply qz5|apply qz6|apply qz7|apply qz8|apply qz9|apply qz0
 all_goals try simp only [zZ,zR,yE,z6,qn1,zY,qn2,zX,ETy.dflt,qn3,qn4,Int.reduceToNat,Int.reduceAdd,Int.reduceSub,Int.reduceNeg,Nat.reduceAdd,zD] at *
 ·rename_i h1 h2;cases h:allR (n,l) with
  | nil=>rw [h] at h2;simp at h2
  | cons a r=>unfold zJ2;rw [h];exact y9.intro rfl
 ·rename_i h2;unfold zJ2;rw [zMD h2];exact y9.intro rfl
def zT6:List AV->Option Res:=zEv qR (fun s=>some (none,none,zBY.av (zJ2 s)))
theorem zYg:qM Tryz.prog 93 zT6:=⟨zAW fun s r h=>by cases h;exact qL (yM (fn:=[]) (fr:=[(135,.res z8O)]) trivial ⟨z7F,trivial⟩) Tryz.func93 (by kernel_rfl) fun _ _=>zZZ s.1 s.2,_,Tryz.func93,by kernel_rfl,by kernel_rfl⟩
def isR (s:Int×List P3):Bool:=decide (zJ2 s=(0,0,0))
theorem z0M {fn} (l:List P3) (hb:l.length<=8192):zAG ⟨tyL,fn,[]⟩ Tryz.f64 [(ETy.sl .arr3).av l] (fun v=>v=(ETy.sl .arr3).av l):=by
 repeat' (conv=>whnf
          first|done|refine qN (by first|rfl|omega|(simp only [yO] at *;omega)) ?_|apply qH|refine qG fun _=> ?_|apply qB|apply qa|apply qo|refine qe (fun _=> ?_) (fun _=> ?_)|refine qn (fun _=> ?_) (fun _=> ?_)|refine qd (fun _=> ?_) (fun _=> ?_)|apply qt|refine qi (fun _=> ?_) (fun _=> ?_)|refine zA rfl ?_|apply qE|apply qO|exact zN|apply qq|apply qs|refine qK (by kernel_rfl) ?_|apply qr)
 all_goals try first|apply qz1|apply qz2|apply qz3|apply qz4|apply qz5|apply qz6|apply qz7|apply qz8|apply qz9|apply qz0
 all_goals try simp only [zZ,zR,yE,z6,qn1,zY,qn2,zX,ETy.dflt,qn3,qn4,Int.reduceToNat,Int.reduceAdd,Int.reduceSub,Int.reduceNeg,Nat.reduceAdd,zD] at *
 ·exact (‹l=[]›).symm
 ·exact List.take_length
def zHz:List AV->Option Res:=zEv (.sl .arr3) (fun l=>some (none,some (l.length<=8192),.s (.sl .arr3 l)))
theorem zMB:qM Tryz.prog 64 zHz:=⟨zAW fun l r h=>by cases h;exact qL (yM (fn:=[]) (fr:=[]) trivial trivial) Tryz.func64 (by kernel_rfl) fun _ h=>z0M l h,_,Tryz.func64,by kernel_rfl,by kernel_rfl⟩
def eqR (a b:List P3):Bool:=decide (a=b)
def z2y (a b:List P3):Spec Nat where
 inv x:=x<=a.length/\∀ i,i<x->a.getD i (0,0,0)=b.getD i (0,0,0)
 live x:=[(13,.s (.int .i64 x))]
 keep:=[0,1,12]
 heap _:=[]
 keepH:=[]
 mu x:=a.length - x
theorem z0t {fn} (a b:List P3):zAG ⟨tyL,fn,[]⟩ Tryz.f140 [(ETy.sl .arr3).av a,(ETy.sl .arr3).av b] (fun v=>v= .s (.bool (eqR a b))):=by
 repeat' (conv=>whnf
          first|done|refine qN (by first|rfl|omega|(simp only [yO] at *;omega)) ?_|apply qH|refine qG fun _=> ?_|apply qB|apply qa|apply qo|refine qe (fun _=> ?_) (fun _=> ?_)|refine qn (fun _=> ?_) (fun _=> ?_)|refine qd (fun _=> ?_) (fun _=> ?_)|apply qt|refine qi (fun _=> ?_) (fun _=> ?_)|(refine qS 4 rfl ?_;refine Or.inr (zB (Nat) (zB (z2y a b) (zA (zB (0) (zA (yJ.out ?_) (zA ?_ (zA ?_ rfl)))) (fun x hx=> ?_)))))|((with_reducible show (∃ y,And (Spec.inv (z2y _ _) y) _));refine zB (x+1) (zA (yJ.out ?_) (zA (zA ?_ (zA ?_ rfl)) (yJ.out ?_))))|refine zA rfl ?_|apply qE|apply qO|exact zN|apply qq|apply qs|refine qK (by kernel_rfl) ?_|apply qr)
 all_goals try first|apply qz1|apply qz2|apply qz3|apply qz4|apply qz5|apply qz6|apply qz7|apply qz8|apply qz9|apply qz0
 all_goals try simp only [zZ,zR,yE,z6,qn1,zY,qn2,zX,ETy.dflt,qn3,qn4,Int.reduceToNat,Int.reduceAdd,Int.reduceSub,Int.reduceNeg,Nat.reduceAdd,zD,z2y,eqR] at *
 ·have e:a≠b:=fun e=>by subst e;exact absurd rfl ‹(a.length:Int)≠_›
  rw [decide_eq_false e]
 ·exact qh ⟨Nat.zero_le _,fun i hi=>by omega⟩
 ·refine yJ.intro ⟨by omega,fun i hi=> ?_⟩
  by_cases e:i=x
  ·subst e;exact Prod.ext ‹_› (Prod.ext ‹_› ‹_›)
  ·exact hx.2 i (by omega)
 ·exact qh (by omega)
 ·have e:a≠b:=fun e=>by subst e;exact absurd rfl ‹(a.getD x (0,0,0)).snd.snd≠_›
  rw [decide_eq_false e]
 ·have e:a≠b:=fun e=>by subst e;exact absurd rfl ‹(a.getD x (0,0,0)).snd.fst≠_›
  rw [decide_eq_false e]
 ·have e:a≠b:=fun e=>by subst e;exact absurd rfl ‹(a.getD x (0,0,0)).fst≠_›
  rw [decide_eq_false e]
 ·have e:a=b:=List.ext_getElem (by omega) fun i h1 h2=>by
   have:=hx.2 i (by omega);rwa [gdE,gdE,gE h1,gE h2] at this
  rw [decide_eq_true e]
def zNx:List AV->Option Res:=zCs (.sl .arr3) (.sl .arr3) (fun a b=>some (none,none,.s (.bool (eqR a b))))
theorem zQa:qM Tryz.prog 140 zNx:=⟨jC fun a b r h=>by cases h;exact qL (yM (fn:=[]) (fr:=[]) trivial trivial) Tryz.func140 (by kernel_rfl) fun _ _=>z0t a b,_,Tryz.func140,by kernel_rfl,by kernel_rfl⟩
end S1
open Go Go.Vm Go.Proofs
namespace S1
abbrev yI:ETy:= .pair qR (.pair (.mp .arr2 (.int .i64)) (.sl (.int .i64)))
def zYw {ρ:Type} (e:ETy) (f:e.T->Option ρ):List AV->Option ρ :=
 zEv (.pt e) (fun o=>match o with|some x=>f x|none=>none)
def zF8 {ρ:Type} (e b:ETy) (f:e.T->b.T->Option ρ):List AV->Option ρ :=
 zCs (.pt e) b (fun o y=>match o with|some x=>f x y|none=>none)
theorem zLo {P:Program} {e:ETy} {f:e.T->Option Res} {n:FuncId} (h: ∀ x r,f x=some r->zCr P n [(ETy.pt e).av (some x)] r): ∀ args r,zYw e f args=some r->zCr P n args r :=
 zAW fun o r hr=>by cases o with|none=>cases hr|some x=>exact h x r hr
theorem zAl {P:Program} {e b:ETy} {f:e.T->b.T->Option Res} {n:FuncId} (h: ∀ x y r,f x y=some r->zCr P n [(ETy.pt e).av (some x),b.av y] r): ∀ args r,zF8 e b f args=some r->zCr P n args r :=
 jC fun o y r hr=>by cases o with|none=>cases hr|some x=>exact h x y r hr
def trn (c b:Int):Int:=c - c % 3+(c+b) % 3
def j6 (x:yI.T) (c:Int):Bool:=decide (0<=c)&&decide (c<3*(x.1.2.length:Int))
def qY (x:yI.T) (c:Int):Int:=if j6 x c then trn c 1 else -1
def qV (x:yI.T) (c:Int):Int:=if j6 x c then trn c 2 else -1
def p3 (t:P3) (k:Int):Int:=if k=0 then t.1 else if k=1 then t.2.1 else t.2.2
def yR (x:yI.T) (c:Int):Int:=if j6 x c then p3 (x.1.2.getD (c / 3).toNat (0,0,0)) (c % 3) else -1
def jP (x:yI.T) (c:Int):Int×Int:=(yR x (qY x c),yR x (qV x c))
def qJ (x:yI.T) (e:Int×Int):Int:=(jS .arr2 x.2.1 e).getD (-1)
def zAF (x:yI.T) (c:Int):Int:=qJ x ((jP x c).2,(jP x c).1)
def yX (x:yI.T) (v:Int):Int:=if 0<=v/\v<x.2.2.length then x.2.2.getD v.toNat 0 else -1
theorem tm3 {c:Int} (h:0<=c):c.tmod 3=c % 3:=Int.tmod_eq_emod_of_nonneg h
theorem td3 {c:Int} (h:0<=c):c.tdiv 3=c / 3:=Int.tdiv_eq_ediv_of_nonneg h
theorem yH {x:yI.T} {c:Int} :j6 x c=true↔0<=c/\c<3*(x.1.2.length:Int):=by
 unfold j6;rw [zC,zP,zP]
theorem zVQ {fn} (c b:Int) (h:0<=c/\c<=1000000000/\0<=b/\b<=2):zAG ⟨tyL,fn,[]⟩ Tryz.f158 [y7.av c,y7.av b] (fun v=>v= .s (.int .i64 (trn c b))):=by
 repeat' (conv=>whnf
          first|done|refine qN (by first|rfl|omega|(simp only [yO] at *;omega)) ?_|apply qH|refine qG fun _=> ?_|apply qB|apply qa|apply qo|refine qe (fun _=> ?_) (fun _=> ?_)|refine qn (fun _=> ?_) (fun _=> ?_)|refine qd (fun _=> ?_) (fun _=> ?_)|apply qt|refine qi (fun _=> ?_) (fun _=> ?_)|refine zA rfl ?_|apply qE|apply qO|exact zN|apply qq|apply qs|refine qK (by kernel_rfl) ?_|apply qr)
 all_goals try first|apply qz1|apply qz2|apply qz3|apply qz4|apply qz5|apply qz6|apply qz7|apply qz8|apply qz9|apply qz0
 all_goals try simp only [zZ,zR,yE,z6,qn1,zY,qn2,zX,ETy.dflt,qn3,qn4,Int.reduceToNat,Int.reduceAdd,Int.reduceSub,Int.reduceNeg,Nat.reduceAdd,zD,trn] at *
 all_goals try refine qh ?_
 all_goals (rw [tm3 (by omega)];try rw [tm3 (by omega)])
 all_goals (try simp only [yO]);(try omega)
def zIe:List AV->Option Res:=zCs y7 y7 (fun c b=>some (none,some (0<=c/\c<=1000000000/\0<=b/\b<=2),.s (.int .i64 (trn c b))))
theorem zNK:qM Tryz.prog 158 zIe:=⟨jC fun c b r h=>by cases h;exact qL (yM (fn:=[]) (fr:=[]) trivial trivial) Tryz.func158 (by kernel_rfl) fun _ h=>zVQ c b h,_,Tryz.func158,by kernel_rfl,by kernel_rfl⟩
theorem z5S {fn} (x:yI.T) (c:Int):zAG ⟨tyL,fn,[]⟩ Tryz.f136 [(ETy.pt yI).av (some x),y7.av c] (fun v=>v= .s (.bool (j6 x c))):=by
 obtain ⟨⟨n,l⟩,m,f⟩:=x
 repeat' (conv=>whnf
          first|done|refine qN (by first|rfl|omega|(simp only [yO] at *;omega)) ?_|apply qH|refine qG fun _=> ?_|apply qB|apply qa|apply qo|refine qe (fun _=> ?_) (fun _=> ?_)|refine qn (fun _=> ?_) (fun _=> ?_)|refine qd (fun _=> ?_) (fun _=> ?_)|apply qt|refine qi (fun _=> ?_) (fun _=> ?_)|refine zA rfl ?_|apply qE|apply qO|exact zN|apply qq|apply qs|refine qK (by kernel_rfl) ?_|apply qr)
 all_goals try first|apply qz1|apply qz2|apply qz3|apply qz4|apply qz5|apply qz6|apply qz7|apply qz8|apply qz9|apply qz0
 all_goals try simp only [zZ,zR,yE,z6,qn1,zY,qn2,zX,ETy.dflt,qn3,qn4,Int.reduceToNat,Int.reduceAdd,Int.reduceSub,Int.reduceNeg,Nat.reduceAdd,zD,j6,Option.getD_some] at *
 all_goals (rw [Bool.eq_iff_iff,zC,zP,zP])
 ·constructor
  ·intro h;exact ⟨by omega,h⟩
  ·intro h;exact h.2
 ·constructor
  ·intro h;cases h
  ·intro h;omega
def z4X:List AV->Option Res:=zF8 yI y7 (fun x c=>some (none,none,.s (.bool (j6 x c))))
theorem zVE:qM Tryz.prog 136 z4X:=⟨zAl fun x c r h=>by cases h;exact qL (yM (fn:=[]) (fr:=[]) trivial trivial) Tryz.func136 (by kernel_rfl) fun _ _=>z5S x c,_,Tryz.func136,by kernel_rfl,by kernel_rfl⟩
theorem zDT {x:yI.T} {c:Int} (h1:0<=c) (h2:c<3*(x.1.2.length:Int)):yR x c=p3 (x.1.2.getD (c / 3).toNat (0,0,0)) (c % 3):=by
 unfold yR;rw [if_pos (yH.2 ⟨h1,h2⟩)]
theorem zRN {x:yI.T} {c:Int} (h: ¬ (0<=c/\c<3*(x.1.2.length:Int))):j6 x c=false:=by
 rw [<- Bool.not_eq_true];exact fun e=>h (yH.1 e)
theorem z4R {x:yI.T} {c:Int} (h: ¬ (0<=c/\c<3*(x.1.2.length:Int))):yR x c= -1:=by
 unfold yR;rw [zRN h];rfl
theorem z6m (t:P3) (k:Int) (h1:0<=k) (h2:k<3):[t.1,t.2.1,t.2.2].getD k.toNat 0=p3 t k:=by
 have:k=0\/k=1\/k=2:=by omega
 rcases this with e|e|e<;>subst e<;>rfl
theorem zO4 {fn} (x:yI.T):zAG ⟨tyL,fn,[]⟩ Tryz.f74 [(ETy.pt yI).av (some x)] (fun v=>v= .s (.int .i64 x.1.2.length)):=by
 obtain ⟨⟨n,l⟩,m,f⟩:=x
 repeat' (conv=>whnf
          first|done|refine qN (by first|rfl|omega|(simp only [yO] at *;omega)) ?_|apply qH|refine qG fun _=> ?_|apply qB|apply qa|apply qo|refine qe (fun _=> ?_) (fun _=> ?_)|refine qn (fun _=> ?_) (fun _=> ?_)|refine qd (fun _=> ?_) (fun _=> ?_)|apply qt|refine qi (fun _=> ?_) (fun _=> ?_)|refine zA rfl ?_|apply qE|apply qO|exact zN|apply qq|apply qs|refine qK (by kernel_rfl) ?_|apply qr)
 all_goals try first|apply qz1|apply qz2|apply qz3|apply qz4|apply qz5|apply qz6|apply qz7|apply qz8|apply qz9|apply qz0
 all_goals try simp only [zZ,zR,yE,z6,qn1,zY,qn2,zX,ETy.dflt,qn3,qn4,Int.reduceToNat,Int.reduceAdd,Int.reduceSub,Int.reduceNeg,Nat.reduceAdd,zD,Option.getD_some] at *
def zB8:List AV->Option Res:=zYw yI (fun x=>some (none,none,.s (.int .i64 x.1.2.length)))
theorem zEO:qM Tryz.prog 74 zB8:=⟨zLo fun x r h=>by cases h;exact qL (yM (fn:=[]) (fr:=[]) trivial trivial) Tryz.func74 (by kernel_rfl) fun _ _=>zO4 x,_,Tryz.func74,by kernel_rfl,by kernel_rfl⟩
theorem zQK {fn} (x:yI.T):zAG ⟨tyL,fn,[]⟩ Tryz.f85 [(ETy.pt yI).av (some x)] (fun v=>v= .s (.int .i64 x.1.1)):=by
 obtain ⟨⟨n,l⟩,m,f⟩:=x
 repeat' (conv=>whnf
          first|done|refine qN (by first|rfl|omega|(simp only [yO] at *;omega)) ?_|apply qH|refine qG fun _=> ?_|apply qB|apply qa|apply qo|refine qe (fun _=> ?_) (fun _=> ?_)|refine qn (fun _=> ?_) (fun _=> ?_)|refine qd (fun _=> ?_) (fun _=> ?_)|apply qt|refine qi (fun _=> ?_) (fun _=> ?_)|refine zA rfl ?_|apply qE|apply qO|exact zN|apply qq|apply qs|refine qK (by kernel_rfl) ?_|apply qr)
 all_goals try first|apply qz1|apply qz2|apply qz3|apply qz4|apply qz5|apply qz6|apply qz7|apply qz8|apply qz9|apply qz0
 all_goals try simp only [zZ,zR,yE,z6,qn1,zY,qn2,zX,ETy.dflt,qn3,qn4,Int.reduceToNat,Int.reduceAdd,Int.reduceSub,Int.reduceNeg,Nat.reduceAdd,zD,Option.getD_some] at *
def zBo:List AV->Option Res:=zYw yI (fun x=>some (none,none,.s (.int .i64 x.1.1)))
theorem zDV:qM Tryz.prog 85 zBo:=⟨zLo fun x r h=>by cases h;exact qL (yM (fn:=[]) (fr:=[]) trivial trivial) Tryz.func85 (by kernel_rfl) fun _ _=>zQK x,_,Tryz.func85,by kernel_rfl,by kernel_rfl⟩
theorem zXP (x:yI.T) (c:Int) (h:c<=1000000000):zAG ⟨tyL,[(136,z4X)],[]⟩ Tryz.f94 [(ETy.pt yI).av (some x),y7.av c] (fun v=>v= .s (.int .i64 (yR x c))):=by
 obtain ⟨⟨n,l⟩,m,f⟩:=x
 repeat' (conv=>whnf
          first|done|refine qN (by first|rfl|omega|(simp only [yO] at *;omega)) ?_|apply qH|refine qG fun _=> ?_|apply qB|apply qa|apply qo|refine qe (fun _=> ?_) (fun _=> ?_)|refine qn (fun _=> ?_) (fun _=> ?_)|refine qd (fun _=> ?_) (fun _=> ?_)|apply qt|refine qi (fun _=> ?_) (fun _=> ?_)|refine zA rfl ?_|apply qE|apply qO|exact zN|apply qq|apply qs|refine qK (by kernel_rfl) ?_|apply qr)
 all_goals try first|apply qz1|apply qz2|apply qz3|apply qz4|apply qz5|apply qz6|apply qz7|apply qz8|apply qz9|apply qz0
 all_goals try simp only [zZ,zR,yE,z6,qn1,zY,qn2,zX,ETy.dflt,qn3,qn4,Int.reduceToNat,Int.reduceAdd,Int.reduceSub,Int.reduceNeg,Nat.reduceAdd,zD,Option.getD_some] at *
 ·refine yJ.intro ⟨by omega,?_⟩;rw [td3 (by assumption)];unfold yO;omega
 ·refine qh ?_;rw [td3 (by assumption)];omega
 ·refine qh ?_;rw [tm3 (by assumption)];omega
 ·rw [tm3 (by assumption),td3 (by assumption),zDT (by assumption) (by assumption)];exact z6m _ _ (by omega) (by omega)
 all_goals (rw [z4R];intro h';first|exact absurd h'.2 ‹_›|exact absurd h'.1 ‹_›)
def zCZ:List AV->Option Res:=zF8 yI y7 (fun x c=>some (none,some (c<=1000000000),.s (.int .i64 (yR x c))))
theorem zES:qM Tryz.prog 94 zCZ:=⟨zAl fun x c r h=>by cases h;exact qL (yM (fn:=[(136,z4X)]) (fr:=[]) ⟨zVE,trivial⟩ trivial) Tryz.func94 (by kernel_rfl) fun _ h=>zXP x c h,_,Tryz.func94,by kernel_rfl,by kernel_rfl⟩
theorem z3s (x:yI.T) (c:Int) (h:c<=1000000):zAG ⟨tyL,[(136,z4X),(158,zIe)],[]⟩ Tryz.f121 [(ETy.pt yI).av (some x),y7.av c] (fun v=>v= .s (.int .i64 (qY x c))):=by
 repeat' (conv=>whnf
          first|done|refine qN (by first|rfl|omega|(simp only [yO] at *;omega)) ?_|apply qH|refine qG fun _=> ?_|apply qB|apply qa|apply qo|refine qe (fun _=> ?_) (fun _=> ?_)|refine qn (fun _=> ?_) (fun _=> ?_)|refine qd (fun _=> ?_) (fun _=> ?_)|apply qt|refine qi (fun _=> ?_) (fun _=> ?_)|refine zA rfl ?_|apply qE|apply qO|exact zN|apply qq|apply qs|refine qK (by kernel_rfl) ?_|apply qr)
 all_goals try first|apply qz1|apply qz2|apply qz3|apply qz4|apply qz5|apply qz6|apply qz7|apply qz8|apply qz9|apply qz0
 all_goals try simp only [zZ,zR,yE,z6,qn1,zY,qn2,zX,ETy.dflt,qn3,qn4,Int.reduceToNat,Int.reduceAdd,Int.reduceSub,Int.reduceNeg,Nat.reduceAdd,zD,Option.getD_some] at *
 ·exact qh ⟨by assumption,Int.le_trans h (by decide),by decide,by decide⟩
 ·unfold qY;rw [if_pos (yH.2 ⟨by assumption,by assumption⟩)]
 all_goals (unfold qY;rw [zRN (by omega)];rfl)
def zKp:List AV->Option Res:=zF8 yI y7 (fun x c=>some (none,some (c<=1000000),.s (.int .i64 (qY x c))))
theorem zLL:qM Tryz.prog 121 zKp:=⟨zAl fun x c r h=>by cases h;exact qL (yM (fn:=[(136,z4X),(158,zIe)]) (fr:=[]) ⟨zVE,zNK,trivial⟩ trivial) Tryz.func121 (by kernel_rfl) fun _ h=>z3s x c h,_,Tryz.func121,by kernel_rfl,by kernel_rfl⟩
theorem z31 (x:yI.T) (c:Int) (h:c<=1000000):zAG ⟨tyL,[(136,z4X),(158,zIe)],[]⟩ Tryz.f122 [(ETy.pt yI).av (some x),y7.av c] (fun v=>v= .s (.int .i64 (qV x c))):=by
 repeat' (conv=>whnf
          first|done|refine qN (by first|rfl|omega|(simp only [yO] at *;omega)) ?_|apply qH|refine qG fun _=> ?_|apply qB|apply qa|apply qo|refine qe (fun _=> ?_) (fun _=> ?_)|refine qn (fun _=> ?_) (fun _=> ?_)|refine qd (fun _=> ?_) (fun _=> ?_)|apply qt|refine qi (fun _=> ?_) (fun _=> ?_)|refine zA rfl ?_|apply qE|apply qO|exact zN|apply qq|apply qs|refine qK (by kernel_rfl) ?_|apply qr)
 all_goals try first|apply qz1|apply qz2|apply qz3|apply qz4|apply qz5|apply qz6|apply qz7|apply qz8|apply qz9|apply qz0
 all_goals try simp only [zZ,zR,yE,z6,qn1,zY,qn2,zX,ETy.dflt,qn3,qn4,Int.reduceToNat,Int.reduceAdd,Int.reduceSub,Int.reduceNeg,Nat.reduceAdd,zD,Option.getD_some] at *
 ·exact qh ⟨by assumption,Int.le_trans h (by decide),by decide,by decide⟩
 ·unfold qV;rw [if_pos (yH.2 ⟨by assumption,by assumption⟩)]
 all_goals (unfold qV;rw [zRN (by omega)];rfl)
def zKm:List AV->Option Res:=zF8 yI y7 (fun x c=>some (none,some (c<=1000000),.s (.int .i64 (qV x c))))
theorem zL7:qM Tryz.prog 122 zKm:=⟨zAl fun x c r h=>by cases h;exact qL (yM (fn:=[(136,z4X),(158,zIe)]) (fr:=[]) ⟨zVE,zNK,trivial⟩ trivial) Tryz.func122 (by kernel_rfl) fun _ h=>z31 x c h,_,Tryz.func122,by kernel_rfl,by kernel_rfl⟩
theorem zXQ {fn} (x:yI.T) (e:Int×Int):zAG ⟨tyL,fn,[]⟩ Tryz.f78 [(ETy.pt yI).av (some x),ETy.arr2.av e] (fun v=>v= .s (.int .i64 (qJ x e))):=by
 obtain ⟨⟨n,l⟩,m,f⟩:=x
 repeat' (conv=>whnf
          first|done|refine qN (by first|rfl|omega|(simp only [yO] at *;omega)) ?_|apply qH|refine qG fun _=> ?_|apply qB|apply qa|apply qo|refine qe (fun _=> ?_) (fun _=> ?_)|refine qn (fun _=> ?_) (fun _=> ?_)|refine qd (fun _=> ?_) (fun _=> ?_)|apply qt|refine qi (fun _=> ?_) (fun _=> ?_)|refine zA rfl ?_|apply qE|apply qO|exact zN|apply qq|apply qs|refine qK (by kernel_rfl) ?_|apply qr)
 all_goals try first|apply qz1|apply qz2|apply qz3|apply qz4|apply qz5|apply qz6|apply qz7|apply qz8|apply qz9|apply qz0
 all_goals try simp only [zZ,zR,yE,z6,qn1,zY,qn2,zX,ETy.dflt,qn3,qn4,Int.reduceToNat,Int.reduceAdd,Int.reduceSub,Int.reduceNeg,Nat.reduceAdd,zD,Option.getD_some,qJ] at *
 ·rename_i h;cases hm:jS .arr2 m e with
  | none=>rw [hm] at h;cases h
  | some v=>rfl
 ·rename_i h;cases hm:jS .arr2 m e with
  | none=>rfl
  | some v=>rw [hm] at h;cases h
def zEC:List AV->Option Res:=zF8 yI .arr2 (fun x e=>some (none,none,.s (.int .i64 (qJ x e))))
theorem zFx:qM Tryz.prog 78 zEC:=⟨zAl fun x e r h=>by cases h;exact qL (yM (fn:=[]) (fr:=[]) trivial trivial) Tryz.func78 (by kernel_rfl) fun _ _=>zXQ x e,_,Tryz.func78,by kernel_rfl,by kernel_rfl⟩
theorem zXT {fn} (x:yI.T) (v:Int):zAG ⟨tyL,fn,[]⟩ Tryz.f124 [(ETy.pt yI).av (some x),y7.av v] (fun r=>r= .s (.int .i64 (yX x v))):=by
 obtain ⟨⟨n,l⟩,m,f⟩:=x
 repeat' (conv=>whnf
          first|done|refine qN (by first|rfl|omega|(simp only [yO] at *;omega)) ?_|apply qH|refine qG fun _=> ?_|apply qB|apply qa|apply qo|refine qe (fun _=> ?_) (fun _=> ?_)|refine qn (fun _=> ?_) (fun _=> ?_)|refine qd (fun _=> ?_) (fun _=> ?_)|apply qt|refine qi (fun _=> ?_) (fun _=> ?_)|refine zA rfl ?_|apply qE|apply qO|exact zN|apply qq|apply qs|refine qK (by kernel_rfl) ?_|apply qr)
 all_goals try first|apply qz1|apply qz2|apply qz3|apply qz4|apply qz5|apply qz6|apply qz7|apply qz8|apply qz9|apply qz0
 all_goals try simp only [zZ,zR,yE,z6,qn1,zY,qn2,zX,ETy.dflt,qn3,qn4,Int.reduceToNat,Int.reduceAdd,Int.reduceSub,Int.reduceNeg,Nat.reduceAdd,zD,Option.getD_some,yX] at *
 ·rw [if_neg (by omega)]
 ·rw [if_neg (by omega)]
 ·rw [if_pos (by omega)]
def zE0:List AV->Option Res:=zF8 yI y7 (fun x v=>some (none,none,.s (.int .i64 (yX x v))))
theorem zGJ:qM Tryz.prog 124 zE0:=⟨zAl fun x v r h=>by cases h;exact qL (yM (fn:=[]) (fr:=[]) trivial trivial) Tryz.func124 (by kernel_rfl) fun _ _=>zXT x v,_,Tryz.func124,by kernel_rfl,by kernel_rfl⟩
theorem z1J {c b:Int} :trn c b<=c+2:=by unfold trn;omega
theorem zZU {x:yI.T} {c:Int} (h:c<=1000000):qY x c<=1000000000:=by
 have:= @z1J c 1;unfold qY;split<;>omega
theorem zZE {x:yI.T} {c:Int} (h:c<=1000000):qV x c<=1000000000:=by
 have:= @z1J c 2;unfold qV;split<;>omega
theorem z2f (x:yI.T) (c:Int) (h:c<=1000000):zAG ⟨tyL,[(121,zKp),(122,zKm),(94,zCZ)],[]⟩ Tryz.f77 [(ETy.pt yI).av (some x),y7.av c] (fun v=>v=ETy.arr2.av (jP x c)):=by
 repeat' (conv=>whnf
          first|done|refine qN (by first|rfl|omega|(simp only [yO] at *;omega)) ?_|apply qH|refine qG fun _=> ?_|apply qB|apply qa|apply qo|refine qe (fun _=> ?_) (fun _=> ?_)|refine qn (fun _=> ?_) (fun _=> ?_)|refine qd (fun _=> ?_) (fun _=> ?_)|apply qt|refine qi (fun _=> ?_) (fun _=> ?_)|refine zA rfl ?_|apply qE|apply qO|exact zN|apply qq|apply qs|refine qK (by kernel_rfl) ?_|apply qr)
 all_goals try first|apply qz1|apply qz2|apply qz3|apply qz4|apply qz5|apply qz6|apply qz7|apply qz8|apply qz9|apply qz0
 all_goals try simp only [zZ,zR,yE,z6,qn1,zY,qn2,zX,ETy.dflt,qn3,qn4,Int.reduceToNat,Int.reduceAdd,Int.reduceSub,Int.reduceNeg,Nat.reduceAdd,zD,Option.getD_some] at *
 ·exact qh (zZU (by omega))
 ·exact qh (zZE (by omega))
 ·exact y9.intro rfl
def zLr:List AV->Option Res:=zF8 yI y7 (fun x c=>some (none,some (c<=1000000),ETy.arr2.av (jP x c)))
theorem zKq:qM Tryz.prog 77 zLr:=⟨zAl fun x c r h=>by cases h;exact qL (yM (fn:=[(121,zKp),(122,zKm),(94,zCZ)]) (fr:=[]) ⟨zLL,zL7,zES,trivial⟩ trivial) Tryz.func77 (by kernel_rfl) fun _ h=>z2f x c h,_,Tryz.func77,by kernel_rfl,by kernel_rfl⟩
theorem z6h (x:yI.T) (c:Int) (h:c<=1000000):zAG ⟨tyL,[(77,zLr),(78,zEC)],[]⟩ Tryz.f37 [(ETy.pt yI).av (some x),y7.av c] (fun v=>v= .s (.int .i64 (zAF x c))):=by
 repeat' (conv=>whnf
          first|done|refine qN (by first|rfl|omega|(simp only [yO] at *;omega)) ?_|apply qH|refine qG fun _=> ?_|apply qB|apply qa|apply qo|refine qe (fun _=> ?_) (fun _=> ?_)|refine qn (fun _=> ?_) (fun _=> ?_)|refine qd (fun _=> ?_) (fun _=> ?_)|apply qt|refine qi (fun _=> ?_) (fun _=> ?_)|refine zA rfl ?_|apply qE|apply qO|exact zN|apply qq|apply qs|refine qK (by kernel_rfl) ?_|apply qr)
 all_goals try first|apply qz1|apply qz2|apply qz3|apply qz4|apply qz5|apply qz6|apply qz7|apply qz8|apply qz9|apply qz0
 all_goals try simp only [zZ,zR,yE,z6,qn1,zY,qn2,zX,ETy.dflt,qn3,qn4,Int.reduceToNat,Int.reduceAdd,Int.reduceSub,Int.reduceNeg,Nat.reduceAdd,zD,Option.getD_some] at *
 rfl
def zS7:List AV->Option Res:=zF8 yI y7 (fun x c=>some (none,some (c<=1000000),.s (.int .i64 (zAF x c))))
theorem zJz:qM Tryz.prog 37 zS7:=⟨zAl fun x c r h=>by cases h;exact qL (yM (fn:=[(77,zLr),(78,zEC)]) (fr:=[]) ⟨zKq,zFx,trivial⟩ trivial) Tryz.func37 (by kernel_rfl) fun _ h=>z6h x c h,_,Tryz.func37,by kernel_rfl,by kernel_rfl⟩
end S1
open Go Go.Vm Go.Proofs
namespace S1
def WOk (w:Wit):Prop:=w.1≠0/\zBY.inR w=true
theorem wrap64 {n:Int} (h: -10000<=n/\n<=10000):IntKind.i64.wrap n=n:=zYU (InK.i64.2 (by unfold yO;omega))
theorem zJq {k a b:Int} (h0:k≠0) (hk: -10000<=k/\k<=10000) (ha: -10000<=a/\a<=10000) (hb: -10000<=b/\b<=10000):WOk (k,a,b) :=
 ⟨h0,by simp only [ETy.inR,wrap64 hk,wrap64 ha,wrap64 hb,beq_self_eq_true,Bool.and_self]⟩
theorem zRS {f:Nat->Option Wit} {n:Nat} (h: ∀ i,i<n->∀ w,f i=some w->WOk w): ∀ w∈(List.range n).filterMap f,WOk w:=by
 intro w hw;obtain ⟨i,hi,e⟩:=List.mem_filterMap.1 hw;exact h i (zV.1 hi) w e
theorem zS5 (s:Int×List P3): ∀ w∈jD s,WOk w:=by
 unfold jD;split
 ·intro w hw;rw [zF] at hw;subst hw;exact zJq (by decide) (by decide) (by decide) (by decide)
 ·rename_i hb
  have hb: ¬ (s.1<0\/s.1>4096\/(s.2.length:Int)>8192):=by
   simpa only [zGp,Bool.or_eq_true,zP] using hb
  refine zRS fun i hi w e=> ?_;unfold z5P at e;split at e
  ·cases e
  ·cases e;exact zJq (by decide) (by decide) (by omega) (by decide)
theorem z2S {l:List P3} (hl:l.length<=8192): ∀ w∈dgL l l.length,WOk w :=
 zRS fun i hi w e=>by
  unfold dgG at e;split at e
  ·cases e;exact zJq (by decide) (by decide) (by omega) (by decide)
  ·cases e
theorem zXN {s:Int×List P3} (h:zLh s): ∀ w∈zHQ s,WOk w :=
 zRS fun i hi w e=>by
  have h1:=h.1;have h2:=h.2.1;unfold loG at e;split at e
  ·cases e
  ·cases e;exact zJq (by decide) (by decide) (by omega) (by decide)
theorem zYb {s:Int×List P3} (h:zLh s): ∀ w∈zUo s,WOk w :=
 zRS fun i hi w e=>by
  have h1:=h.1;have h2:=h.2.1;unfold piG at e;split at e
  ·cases e
  ·cases e;exact zJq (by decide) (by decide) (by omega) (by decide)
def zT4 (l:List Int):Prop:= ∀ a∈l,0<=a/\a<=8192
theorem z3G {kind:Int} {i:Nat} {av:List Int} (h0:kind≠0) (hk: -10000<=kind/\kind<=10000) (hi:i<=8192) (ha:zT4 av) (s:PS) (hs: ∀ w∈s.2,WOk w): ∀ w∈(qA (prA kind i av) s av.length).2,WOk w :=
 qX (n:=av.length) (fun _ (t:PS)=> ∀ w∈t.2,WOk w) hs (fun j t hj ht=>by
  unfold prA;split
  ·exact ht
  ·intro w hw;rcases yC.1 hw with hw|hw
   ·exact ht w hw
   ·rw [zF] at hw;subst hw;have:=ha (av.getD j 0) (by rw [gdE,gE hj];exact yU hj)
    exact zJq h0 hk (by omega) (by omega)) av.length (zI _)
theorem zUX (kp:P3->List P3) {kind:Int} (h0:kind≠0) (hk: -10000<=kind/\kind<=10000) {l:List P3} (hl:l.length<=8192): ∀ w∈(prS kp kind l l.length).2.2,WOk w :=
 (qX (n:=l.length) (fun _ (t:zJL×PS)=>(∀ k,zT4 (zAI t.1 k))/\∀ w∈t.2.2,WOk w) ⟨fun k a h=>(by cases h),fun w h=>(by cases h)⟩ (fun i t hi ht=>by
   unfold prI;refine qX (n:=(kp (l.getD i (0,0,0))).length) (fun _ (t:zJL×PS)=>(∀ k,zT4 (zAI t.1 k))/\∀ w∈t.2.2,WOk w) ht (fun m t hm ht=> ?_) _ (zI _);refine ⟨fun k a ha=> ?_,z3G h0 hk (by omega) (ht.1 _) _ ht.2⟩;have ha:a∈zAI (zAB .arr3 t.1 ((kp (l.getD i (0,0,0))).getD m (0,0,0)) (zAI t.1 ((kp (l.getD i (0,0,0))).getD m (0,0,0))++[(i:Int)])) k:=ha;rw [zEZ] at ha;split at ha
   ·rcases yC.1 ha with ha|ha
    ·exact ht.1 _ a ha
    ·rw [zF] at ha;omega
   ·exact ht.1 _ a ha) l.length (zI _)).2
theorem zDH {l:List Wit} (h: ∀ w∈l,WOk w): ∀ w∈zGi zBY cfW l,WOk w:=fun w hw=>h w (zNE z7k l (fun x hx=>(h x hx).2) w hw)
theorem zZG (s:Int×List P3): ∀ w∈allR s,WOk w:=by
 obtain ⟨n,l⟩:=s;unfold allR zDA;split
 ·exact zDH (zS5 _)
 ·rename_i h1;have hf:=zFI h1;have hl:l.length<=8192:=hf.2.2.1;unfold zDA;split
  ·exact zDH (z2S hl)
  ·unfold zDA;split
   ·exact zDH (zUX _ (by decide) (by decide) hl)
   ·unfold zDA;split
    ·exact zDH (zUX _ (by decide) (by decide) hl)
    ·unfold zDA;split
     ·exact zDH (zXN hf)
     ·unfold zDA;split
      ·exact zDH (zYb hf)
      ·intro w hw;cases hw
theorem zLg {s:Int×List P3} (h:(zJ2 s).1=0):allR s=[]:=by
 unfold zJ2 at h;have hw:=zZG s;cases e:allR s with
 | nil=>rfl
 | cons w r =>
   rw [e] at h hw;exact absurd h (hw w (yA ..)).1
theorem zSF {s:Int×List P3} (h:(zJ2 s).1=0):zJ2 s=(0,0,0):=by unfold zJ2;rw [zLg h];rfl
theorem zEi: ∀ {ls:List (List Wit)},zDA ls=[]->∀ l∈ls,l=[]
 | [],_,l,hl=>by cases hl
 | a ::r,h,l,hl=>by
   unfold zDA at h;split at h
   ·rename_i ha;have:=zJH a;rw [h] at this;simp at this;omega
   ·rename_i ha;rcases zT.1 hl with e|hl
    ·subst e;exact zMD ha
    ·exact zEi h l hl
structure z8v (s:Int×List P3):Prop where
 fit:zLh s
 deg:dgL s.2 s.2.length=[]
 twi:(prS qP 3 s.2 s.2.length).2.2=[]
theorem zVX {s:Int×List P3} (h:(zJ2 s).1=0):z8v s:=by
 have h:=zEi (zLg h);obtain ⟨n,l⟩:=s;refine ⟨zFI (by rw [h (jD (n,l)) (by simp)];simp),h _ (by simp),h _ (by simp)⟩
end S1
open Go Go.Vm Go.Proofs
namespace S1
def z9B (x:Int×List P3) (s:List ((Int×Int)×Int)×List Int) (i:Nat):List ((Int×Int)×Int)×List Int :=
 (zAB .arr2 s.1 (jP (x,[],[]) (3*x.2.length - 1 - i)) (3*x.2.length - 1 - i),s.2.set (yR (x,[],[]) (3*x.2.length - 1 - i)).toNat (3*x.2.length - 1 - i))
def zGz (x:Int×List P3) (i:Nat):List ((Int×Int)×Int)×List Int:=qA (z9B x) ([],List.replicate x.1.toNat 0) i
def zAr (x:Int×List P3):yI.T:=(x,(zGz x (3*x.2.length)).1,(zGz x (3*x.2.length)).2)
def z3J (n:Int) (l:List P3):Spec Nat where
 inv x:=x<=3*l.length
 live x:=[(6,.s (.int .i64 (3*l.length - 1 - x)))]
 keep:=[3,5]
 heap x:=[(3,.map .arr2 (.int .i64) (zGz (n,l) x).1),(4,.row (.int .i64) 3 (zGz (n,l) x).2)]
 keepH:=[1,5]
 mu x:=3*l.length - x
theorem z81 {n:Int} {t:P3} (h:zCq n t=true) (k:Int):0<=p3 t k/\p3 t k<n:=by
 have:=zAE h;unfold p3;split
 ·omega
 ·split<;>omega
theorem zBB {x:yI.T} {c:Int} (hf:zLh x.1) (h:j6 x c=true):0<=yR x c/\yR x c<x.1.1:=by
 unfold yR;rw [if_pos h];rw [yH] at h;exact z81 (hf.2.2.2 _ (by omega)) _
theorem zFt (x:Int×List P3): ∀ i,(zGz x i).2.length=x.1.toNat
 | 0=>List.length_replicate
 | i+1=>by
   show ((zGz x i).2.set _ _).length=_;rw [List.length_set];exact zFt x i
def zGn (s:Int×List P3):Option yI.T:=if (zJ2 s).1=0 then some (zAr s) else none
def z73:Option yI.T->AV
 | none=> .s (.val (.pointer none))
 | some x=>(ETy.pt yI).av (some x)
theorem z0C {σ:Sig} {β:yQ} {o:Option yI.T} {v:Value} (h:y5 σ β (z73 o) v):y5 σ β ((ETy.pt yI).av o) v:=by
 cases o with
 | some x=>exact h
 | none=>show [v]=[.pointer none];rw [show v= .pointer none from h.1]
theorem zCr.out {P:Program} {f:FuncId} {args:List AV} {p q:Option Prop} {u u':AV} (h:zCr P f args (p,q,u)) (hu: ∀ σ v,y5 σ [] u v->y5 σ [] u' v):zCr P f args (p,q,u'):=fun σ vals w hag hv=>by
 obtain ⟨h1,h2⟩:=h σ vals w hag hv;refine ⟨h1,fun hq=> ?_⟩;exact (h2 hq).mono fun e w' ⟨v,σ',e1,e2,e3,e4,e5,e6⟩=>⟨v,σ',e1,e2,e3,e4,hu _ _ e5,e6⟩
theorem z57 (n:Int) (l:List P3):zAG ⟨tyL,[(93,zT6),(64,zHz),(77,zLr),(94,zCZ)],[]⟩ Tryz.f54 [qR.av (n,l)] (fun v=>v= .tup [z73 (zGn (n,l)),zBY.av (zJ2 (n,l))]):=by
 repeat' (conv=>whnf
          first|done|refine qN (by first|rfl|omega|(simp only [yO] at *;omega)) ?_|apply qH|refine qG fun _=> ?_|apply qB|apply qa|apply qo|refine qe (fun _=> ?_) (fun _=> ?_)|refine qn (fun _=> ?_) (fun _=> ?_)|refine qd (fun _=> ?_) (fun _=> ?_)|apply qt|refine qi (fun _=> ?_) (fun _=> ?_)|(refine qS 6 rfl ?_;refine Or.inr (zB (Nat) (zB (z3J n l) (zA (zB (0) (zA (yJ.out ?_) (zA ?_ (zA ?_ rfl)))) (fun x hx=> ?_)))))|((with_reducible show (∃ y,And (Spec.inv (z3J _ _) y) _));refine zB (x+1) (zA (yJ.out ?_) (zA (zA ?_ (zA ?_ rfl)) (yJ.out ?_))))|refine zA rfl ?_|apply qE|apply qO|exact zN|apply qq|apply qs|refine qK (by kernel_rfl) ?_|apply qr)
 all_goals try first|apply qz1|apply qz2|apply qz3|apply qz4|apply qz5|apply qz6|apply qz7|apply qz8|apply qz9|apply qz0
 all_goals try simp only [zZ,zR,yE,z6,qn1,zY,qn2,zX,ETy.dflt,qn3,qn4,Int.reduceToNat,Int.reduceAdd,Int.reduceSub,Int.reduceNeg,Nat.reduceAdd,zD,Option.getD_some,z3J] at *
 ·rename_i h;unfold zGn;rw [if_neg h];exact y9.intro rfl
 all_goals
  have hc:=zVX (s:=(n,l)) ‹_›;have hl:l.length<=8192:=hc.fit.2.2.1;have h0:0<=n:=hc.fit.1;have h1:n<=4096:=hc.fit.2.1
 ·exact qh hl
 ·exact qh ⟨h0,Int.le_refl _,by omega⟩
 ·exact qh (Nat.zero_le _)
 ·omega
 ·exact qh (show 3*(l.length:Int) - 1 - x<=1000000 by omega)
 ·exact qh (show 3*(l.length:Int) - 1 - x<=1000000000 by omega)
 ·have:=zBB (x:=((n,l),[],[])) (c:=3*(l.length:Int) - 1 - x) hc.fit (yH.2 ⟨by omega,by show _<3*(l.length:Int);omega⟩);refine yJ.intro ⟨this.1,Int.lt_of_lt_of_le this.2 ?_⟩;show n<=_;omega
 ·exact qh (by omega)
 ·omega
 ·rfl
 ·exact qh (by omega)
 ·have e:x=3*l.length:=by omega
  subst e
  have e2:List.take n.toNat (List.drop 0 (zGz (n,l) (3*l.length)).snd)=(zGz (n,l) (3*l.length)).snd:=by
   rw [List.drop_zero];exact List.take_of_length_le (Nat.le_of_eq (zFt (n,l) _))
  unfold zGn;rw [if_pos ‹_›,zSF ‹_›];refine y9.intro ?_;rw [e2];rfl
def z8B:List AV->Option Res:=zEv qR (fun s=>some (none,none,.tup [(ETy.pt yI).av (zGn s),zBY.av (zJ2 s)]))
theorem newRow:qM Tryz.prog 54 z8B:=⟨zAW fun s r h=>by
 cases h;refine zCr.out (qL (yM (fn:=[(93,zT6),(64,zHz),(77,zLr),(94,zCZ)]) (fr:=[]) ⟨zYg,zMB,zKq,zES,trivial⟩ trivial) Tryz.func54 (by kernel_rfl) fun _ _=>z57 s.1 s.2) fun σ v h=> ?_;obtain ⟨vs,e,r⟩:=h
 match vs,r with
 | [a,b],r=>exact ⟨_,e,z0C r.1,r.2.1,trivial⟩,_,Tryz.func54,by kernel_rfl,by kernel_rfl⟩
end S1
