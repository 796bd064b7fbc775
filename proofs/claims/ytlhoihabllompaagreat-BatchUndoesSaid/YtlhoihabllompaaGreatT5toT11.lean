/- A part of the proofs of the laws. -/
import Derived.Test.YtlhoihabllompaaGreatT0toVmInl
import Derived.Test.YtlhoihabllompaaGreatVmSort
import Derived.Test.YtlhoihabllompaaGreatLaySort
set_option linter.unusedSimpArgs false
set_option linter.unusedVariables false
set_option maxHeartbeats 8000000
set_option maxRecDepth 100000
open Go Go.Vm Go.Proofs
namespace S1
def zWy (x y:Int):Int:=if x<y then -1 else if x>y then 1 else 0
theorem z7E {fn} (x:Int):zAF ⟨tyL,fn,[]⟩ Tryz.f177 [(ETy.int .i64).av x] (fun v=>v= .s (.bool false)):=by
 repeat' (conv=>whnf
          first|done|refine qN (by first|rfl|omega|(simp only [yP] at *;omega)) ?_|apply qH|refine qG fun _=> ?_|apply qB|apply qa|apply qo|refine qe (fun _=> ?_) (fun _=> ?_)|refine qn (fun _=> ?_) (fun _=> ?_)|refine qd (fun _=> ?_) (fun _=> ?_)|apply qt|refine qi (fun _=> ?_) (fun _=> ?_)|refine zA rfl ?_|apply qE|apply qO|exact zN|apply qq|apply qs|refine qK (by kernel_rfl) ?_|apply qr)
 all_goals try first|apply qz1|apply qz2|apply qz3|apply qz4|apply qz5|apply qz6|apply qz7|apply qz8|apply qz9|apply qz0
 all_goals try simp only [zZ,zR,yD,z6,qn1,zY,qn2,zX,ETy.dflt,qn3,qn4,Int.reduceToNat,Int.reduceAdd,Int.reduceSub,Int.reduceNeg,Nat.reduceAdd,zD] at *
 simp
def z7r:List AV->Option Res:=zEv (.int .i64) (fun _=>some (none,none,.s (.bool false)))
theorem z6a:qL Tryz.prog 177 z7r:=⟨zAV fun x r h=>by cases h;exact qM (yN (fn:=[]) (fr:=[]) trivial trivial) Tryz.func177 (by kernel_rfl) fun _ _=>z7E x,_,Tryz.func177,by kernel_rfl,by kernel_rfl⟩
theorem z5x (x y:Int):zAF ⟨tyL,[(177,z7r)],[]⟩ Tryz.f169 [(ETy.int .i64).av x,(ETy.int .i64).av y] (fun v=>v= .s (.int .i64 (zWy x y))):=by
 repeat' (conv=>whnf
          first|done|refine qN (by first|rfl|omega|(simp only [yP] at *;omega)) ?_|apply qH|refine qG fun _=> ?_|apply qB|apply qa|apply qo|refine qe (fun _=> ?_) (fun _=> ?_)|refine qn (fun _=> ?_) (fun _=> ?_)|refine qd (fun _=> ?_) (fun _=> ?_)|apply qt|refine qi (fun _=> ?_) (fun _=> ?_)|refine zA rfl ?_|apply qE|apply qO|exact zN|apply qq|apply qs|refine qK (by kernel_rfl) ?_|apply qr)
 all_goals try first|apply qz1|apply qz2|apply qz3|apply qz4|apply qz5|apply qz6|apply qz7|apply qz8|apply qz9|apply qz0
 all_goals try simp only [zZ,zR,yD,z6,qn1,zY,qn2,zX,ETy.dflt,qn3,qn4,Int.reduceToNat,Int.reduceAdd,Int.reduceSub,Int.reduceNeg,Nat.reduceAdd,zD,zWy] at *
 all_goals (repeat' split)<;>omega
def z83:List AV->Option Res:=zCs (.int .i64) (.int .i64) (fun x y=>some (none,none,.s (.int .i64 (zWy x y))))
theorem z5P:qL Tryz.prog 169 z83:=⟨jC fun x y r h=>by cases h;exact qM (yN (fn:=[(177,z7r)]) (fr:=[]) ⟨z6a,trivial⟩ trivial) Tryz.func169 (by kernel_rfl) fun _ _=>z5x x y,_,Tryz.func169,by kernel_rfl,by kernel_rfl⟩
def orR:List Int->Int
 | []=>0
 | x::r=>if x=0 then orR r else x
def z27 (l:List Int):Spec Nat where
 inv x:=x<=l.length/\orR l=orR (l.drop x)
 live x:=[(8,.s (.int .i64 x))]
 keep:=[3,6,7]
 heap _:=[]
 keepH:=[]
 mu x:=l.length - x
theorem z7c {fn} (l:List Int):zAF ⟨tyL,fn,[]⟩ Tryz.f168 [(ETy.sl (.int .i64)).av l] (fun v=>v= .s (.int .i64 (orR l))):=by
 repeat' (conv=>whnf
          first|done|refine qN (by first|rfl|omega|(simp only [yP] at *;omega)) ?_|apply qH|refine qG fun _=> ?_|apply qB|apply qa|apply qo|refine qe (fun _=> ?_) (fun _=> ?_)|refine qn (fun _=> ?_) (fun _=> ?_)|refine qd (fun _=> ?_) (fun _=> ?_)|apply qt|refine qi (fun _=> ?_) (fun _=> ?_)|(refine qT 3 rfl ?_;refine Or.inr (zB (Nat) (zB (z27 l) (zA (zB (0) (zA (yK.out ?_) (zA ?_ (zA ?_ rfl)))) (fun x hx=> ?_)))))|((with_reducible show (∃ y,And (Spec.inv (z27 _) y) _));refine zB (x+1) (zA (yK.out ?_) (zA (zA ?_ (zA ?_ rfl)) (yK.out ?_))))|refine zA rfl ?_|apply qE|apply qO|exact zN|apply qq|apply qs|refine qK (by kernel_rfl) ?_|apply qr)
 all_goals try first|apply qz1|apply qz2|apply qz3|apply qz4|apply qz5|apply qz6|apply qz7|apply qz8|apply qz9|apply qz0
 all_goals try simp only [zZ,zR,yD,z6,qn1,zY,qn2,zX,ETy.dflt,qn3,qn4,Int.reduceToNat,Int.reduceAdd,Int.reduceSub,Int.reduceNeg,Nat.reduceAdd,zD,z27] at *
 all_goals try (refine qh ?_;omega)
 ·exact qh ⟨Nat.zero_le _,rfl⟩
 ·rename_i h1 h2;rw [hx.2,zBU 0 h1,orR,if_neg h2]
 ·rename_i h1 h2;exact qh ⟨by omega,by rw [hx.2,zBU 0 h1,orR,if_pos h2]⟩
 ·rw [hx.2,zE7 (by assumption)];rfl
def orC:List AV->Option Res:=zEv (.sl (.int .i64)) (fun l=>some (none,none,.s (.int .i64 (orR l))))
theorem z88:qL Tryz.prog 168 orC:=⟨zAV fun l r h=>by cases h;exact qM (yN (fn:=[]) (fr:=[]) trivial trivial) Tryz.func168 (by kernel_rfl) fun _ _=>z7c l,_,Tryz.func168,by kernel_rfl,by kernel_rfl⟩
def cfW (a b:Wit):Int:=orR [zWy a.2.2 b.2.2,zWy a.2.1 b.2.1]
theorem z4F (a b:Wit):zAF ⟨tyL,[(169,z83),(168,orC)],[]⟩ Tryz.f167 [zBW.av a,zBW.av b] (fun v=>v= .s (.int .i64 (cfW a b))):=by
 repeat' (conv=>whnf
          first|done|refine qN (by first|rfl|omega|(simp only [yP] at *;omega)) ?_|apply qH|refine qG fun _=> ?_|apply qB|apply qa|apply qo|refine qe (fun _=> ?_) (fun _=> ?_)|refine qn (fun _=> ?_) (fun _=> ?_)|refine qd (fun _=> ?_) (fun _=> ?_)|apply qt|refine qi (fun _=> ?_) (fun _=> ?_)|refine zA rfl ?_|apply qE|apply qO|exact zN|apply qq|apply qs|refine qK (by kernel_rfl) ?_|apply qr)
 all_goals try first|apply qz1|apply qz2|apply qz3|apply qz4|apply qz5|apply qz6|apply qz7|apply qz8|apply qz9|apply qz0
 all_goals try simp only [zZ,zR,yD,z6,qn1,zY,qn2,zX,ETy.dflt,qn3,qn4,Int.reduceToNat,Int.reduceAdd,Int.reduceSub,Int.reduceNeg,Nat.reduceAdd,zD,cfW] at *
 try rfl
def z7j:List AV->Option Res:=zCs zBW zBW (fun a b=>some (none,none,.s (.int .i64 (cfW a b))))
theorem z2e:qL Tryz.prog 167 z7j:=⟨jC fun a b r h=>by cases h;exact qM (yN (fn:=[(169,z83),(168,orC)]) (fr:=[]) ⟨z5P,z88,trivial⟩ trivial) Tryz.func167 (by kernel_rfl) fun _ _=>z4F a b,_,Tryz.func167,by kernel_rfl,by kernel_rfl⟩
theorem z52 (a b:Wit):cfW a b=if a.2.2=b.2.2 then zWy a.2.1 b.2.1 else zWy a.2.2 b.2.2:=by
 simp only [cfW,orR,zWy]
 repeat' split
 all_goals first|rfl|omega
def lt2 (p r q s:Int):Bool:=decide (p<q\/(p=q/\r<s))
theorem z6L (p r q s:Int):decide ((if p=q then zWy r s else zWy p q)<0)=lt2 p r q s:=by
 unfold lt2
 congr 1
 unfold zWy;apply propext
 by_cases h1:p=q
 ·subst h1
  by_cases h2:r<s
  ·simp [h2]
  ·by_cases h3:r>s<;>simp [h2,h3]
 ·by_cases h2:p<q
  ·simp [h1,h2]
  ·by_cases h3:p>q<;>simp [h1,h2,h3]
theorem z2K (p r:Int):lt2 p r p r=false:=by simp [lt2]
theorem lt2_trans (p r q s t u:Int) (h1:lt2 p r q s=true) (h2:lt2 q s t u=true):lt2 p r t u=true:=by
 simp only [lt2,zP] at *;omega
theorem zSu (p r q s t u:Int) (h1:lt2 p r q s=false) (h2:lt2 q s t u=false):lt2 p r t u=false:=by
 simp only [lt2,yM] at *;omega
theorem z7i:z5E zBW cfW:=by
 have key: ∀ a b:RT zBW,ltOf (fun a b:RT zBW=>cfW a.1 b.1) a b=lt2 a.1.2.2 a.1.2.1 b.1.2.2 b.1.2.1:=by
  intro a b;show decide (cfW a.1 b.1<0)=_;rw [z52];exact z6L _ _ _ _
 refine ⟨fun x=>by rw [key];exact z2K _ _,fun x y z h1 h2=> ?_,fun x y z h1 h2=> ?_⟩
 ·rw [key] at h1 h2 ⊢;exact lt2_trans _ _ _ _ _ _ h1 h2
 ·rw [key] at h1 h2 ⊢;exact zSu _ _ _ _ _ _ h1 h2
def zYX:List AV->St->(AV->St->Prop)->Prop:=zGS zBW (zG0 zBW cfW) (z8S 167) 1
theorem z04 : zIO Tryz.prog 166 zYX ∧ ∃ fn, Tryz.prog.funcs[166]? = some fn ∧ (fn.name == "runtime.NumGoroutine") = false ∧ fn.body.isNone = false :=
 ⟨z0q (ρ:=Go.Proofs.S1.laySortF_ren) Go.Proofs.S1.laySortF (e:=zBW) rfl rfl (by decide) (fun w=>((z6P (fn:=[]) trivial).ty 91 _ rfl).run_isAgg) (fun w=>((z6P (fn:=[]) trivial).ty 91 _ rfl).run_sizeOf) (enters_of Tryz.func167 (by kernel_rfl) rfl) z7i (fun x y=>z2e.1 _ _ rfl),
   _,Tryz.func166,by kernel_rfl,by kernel_rfl⟩
def zNu:List AV->St->(AV->St->Prop)->Prop:=zLC zBX (fun l=>l.isEmpty)
theorem zRH : zIO Tryz.prog 75 zNu ∧ ∃ fn, Tryz.prog.funcs[75]? = some fn ∧ (fn.name == "runtime.NumGoroutine") = false ∧ fn.body.isNone = false :=
 ⟨zWw (ρ:=Go.Proofs.S1.laySortI_ren) Go.Proofs.S1.laySortI,_,Tryz.func75,by kernel_rfl,by kernel_rfl⟩
end S1
open Go Go.Vm Go.Proofs
namespace S1
def s3 (t:P3):P3:=((zBX [t.1,t.2.1,t.2.2]).getD 0 0,(zBX [t.1,t.2.1,t.2.2]).getD 1 0,(zBX [t.1,t.2.1,t.2.2]).getD 2 0)
def zDi (t:P3):List P3:=[s3 t]
theorem z33 (t:P3):zAF ⟨tyL,[],[(75,.run zNu)]⟩ Tryz.f181 [ETy.arr3.av t] (fun v=>v= .s (.sl .arr3 (zDi t))):=by
 repeat' (conv=>whnf
          first|done|refine qN (by first|rfl|omega|(simp only [yP] at *;omega)) ?_|apply qH|refine qG fun _=> ?_|apply qB|apply qa|apply qo|refine qe (fun _=> ?_) (fun _=> ?_)|refine qn (fun _=> ?_) (fun _=> ?_)|refine qd (fun _=> ?_) (fun _=> ?_)|apply qt|refine qi (fun _=> ?_) (fun _=> ?_)|refine zA rfl ?_|apply qE|apply qO|exact zN|apply qq|apply qs|refine qK (by kernel_rfl) ?_|apply qr)
 all_goals try first|apply qz1|apply qz2|apply qz3|apply qz4|apply qz5|apply qz6|apply qz7|apply qz8|apply qz9|apply qz0
 all_goals try simp only [zZ,zR,yD,z6,qn1,zY,qn2,zX,ETy.dflt,qn3,qn4,Int.reduceToNat,Int.reduceAdd,Int.reduceSub,Int.reduceNeg,Nat.reduceAdd,zD,zDi,s3] at *
 try rfl
def z26:List AV->Option Res:=zEv .arr3 (fun t=>some (none,none,.s (.sl .arr3 (zDi t))))
theorem z3X:qL Tryz.prog 181 z26:=⟨zAV fun t r h=>by cases h;exact qM (yN (fn:=[]) (fr:=[(75,.run zNu)]) trivial ⟨zRH,trivial⟩) Tryz.func181 (by kernel_rfl) fun _ _=>z33 t,_,Tryz.func181,by kernel_rfl,by kernel_rfl⟩
theorem zSV (n kind:Int) (l:List P3) (hb:l.length<=8192):zEt ⟨tyL,[(181,z26)],[]⟩ Tryz.f179 [qP.av (n,l),(ETy.int .i64).av kind,ETy.fnc.av (some 181)] (fun v obs=>v= .s (.own 0 0 (prS zDi kind l l.length).2.2.length)/\obs=[.row zBW 91 (prS zDi kind l l.length).2.2]):=by
 have hS:=fun x (h:x<=8192)=>z1J zDi (fun _=>(by decide:1<=3)) kind l x h
 repeat' (conv=>whnf
          first|done|refine qN (by first|rfl|omega|(simp only [yP] at *;omega)) ?_|apply qH|refine qG fun _=> ?_|apply qB|apply qa|apply qo|refine qe (fun _=> ?_) (fun _=> ?_)|refine qn (fun _=> ?_) (fun _=> ?_)|refine qd (fun _=> ?_) (fun _=> ?_)|apply qt|refine qi (fun _=> ?_) (fun _=> ?_)|(refine qT 5 rfl ?_;refine Or.inr (zB (Nat) (zB (zFA zDi kind l) (zA (zB (0) (zA (yK.out ?_) (zA ?_ (zA ?_ rfl)))) (fun x hx=> ?_)))))|((with_reducible show (∃ y,And (Spec.inv (zFA _ _ _) y) _));refine zB (x+1) (zA (yK.out ?_) (zA (zA ?_ (zA ?_ rfl)) (yK.out ?_))))|(refine qT 8 rfl ?_;refine Or.inr (zB (Nat) (zB (zEx kind x (zDi (l.getD x (0,0,0))) (prS zDi kind l x)) (zA (zB (0) (zA (yK.out ?_) (zA ?_ (zA ?_ rfl)))) (fun y hy=> ?_)))))|((with_reducible show (∃ y,And (Spec.inv (zEx _ _ _ _) y) _));refine zB (y+1) (zA (yK.out ?_) (zA (zA ?_ (zA ?_ rfl)) (yK.out ?_))))|(refine qT 11 rfl ?_;refine Or.inr (zB (Nat) (zB (zK9 kind x (zAH (qA (prK kind x (zDi (l.getD x (0,0,0)))) (prS zDi kind l x) y).1 ((zDi (l.getD x (0,0,0))).getD y (0,0,0))) (qA (prK kind x (zDi (l.getD x (0,0,0)))) (prS zDi kind l x) y).2) (zA (zB (0) (zA (yK.out ?_) (zA ?_ (zA ?_ rfl)))) (fun z hz=> ?_)))))|((with_reducible show (∃ y,And (Spec.inv (zK9 _ _ _ _) y) _));refine zB (z+1) (zA (yK.out ?_) (zA (zA ?_ (zA ?_ rfl)) (yK.out ?_))))|refine zA rfl ?_|apply qE|apply qO|exact zN|apply qq|apply qs|refine qK (by kernel_rfl) ?_|apply qr)
 all_goals try first|apply qz1|apply qz2|apply qz3|apply qz4|apply qz5|apply qz6|apply qz7|apply qz8|apply qz9|apply qz0
 all_goals try simp only [zZ,zR,yD,z6,qn1,zY,qn2,zX,ETy.dflt,qn3,qn4,Int.reduceToNat,Int.reduceAdd,Int.reduceSub,Int.reduceNeg,Nat.reduceAdd,zD,zFA,zEx,zK9,zDA,zMg,zJo] at *
 all_goals try (refine qh ?_;omega)
 all_goals try (rw [zQS (by assumption)];done)
 all_goals try (rw [zXk (by assumption)];(try simp);done)
 all_goals try first
  | (have e:z=(zAH (qA (prK kind x (zDi (l.getD x (0,0,0)))) (prS zDi kind l x) y).1 ((zDi (l.getD x (0,0,0))).getD y (0,0,0))).length:=by omega
     subst e;first|rfl|(rw [zDA,zAQ];rfl))
  | (have e:y=(zDi (l.getD x (0,0,0))).length:=by omega
     subst e;rfl)
  | (have e:x=l.length:=by omega
     subst e;rfl)
 all_goals
  have hB:=zOm (kind:=kind) (i:=x) (ks:=zDi (l.getD x (0,0,0))) (hS x (by omega)) (by decide:1<=3) y (by omega);have h1:=hB.1 ((zDi (l.getD x (0,0,0))).getD y (0,0,0));have h2:=hB.2;have h3:=zPB kind x (zAH (qA (prK kind x (zDi (l.getD x (0,0,0)))) (prS zDi kind l x) y).1 ((zDi (l.getD x (0,0,0))).getD y (0,0,0))) (qA (prK kind x (zDi (l.getD x (0,0,0)))) (prS zDi kind l x) y).2 z;have h4:y<=3:=Nat.le_trans hy (by decide:1<=3)
  have h5:y*(3*x+3)<=3*(3*x+3):=Nat.mul_le_mul_right _ h4;refine qh ?_;generalize y*(3*x+3)=q at *
 ·omega
 ·unfold zBV;simp only [z8,List.take_zero,List.length_nil];omega
def zMZ:List AV->Option zJf:=zOh qP (.int .i64) .fnc (fun s kind f=>match f with
 | some 181=>some (none,some (s.2.length<=8192),.s (.own 0 0 (prS zDi kind s.2 s.2.length).2.2.length),[.row zBW 91 (prS zDi kind s.2 s.2.length).2.2])
 | _=>none)
theorem zS6:zDE Tryz.prog 179 zME:=⟨zQt fun s kind f r h=>by
 match f,h with
 | some 180,h=>cases h;exact zDe (yN (fn:=[(180,zP9)]) (fr:=[]) ⟨zYU,trivial⟩ trivial) Tryz.func179 (by kernel_rfl) fun _ h=>zSd s.1 kind s.2 h,_,Tryz.func179,by kernel_rfl,by kernel_rfl⟩
theorem zSS:zDE Tryz.prog 179 zMZ:=⟨zQt fun s kind f r h=>by
 match f,h with
 | some 181,h=>cases h;exact zDe (yN (fn:=[(181,z26)]) (fr:=[]) ⟨z3X,trivial⟩ trivial) Tryz.func179 (by kernel_rfl) fun _ h=>zSV s.1 kind s.2 h,_,Tryz.func179,by kernel_rfl,by kernel_rfl⟩
theorem zZm (n:Int) (l:List P3) (hb:l.length<=8192):zEt ⟨tyL,[],[(179,.res zME)]⟩ Tryz.f162 [qP.av (n,l)] (fun v obs=>v= .s (.own 0 0 (prS qQ 3 l l.length).2.2.length)/\obs=[.row zBW 91 (prS qQ 3 l l.length).2.2]):=by
 repeat' (conv=>whnf
          first|done|refine qN (by first|rfl|omega|(simp only [yP] at *;omega)) ?_|apply qH|refine qG fun _=> ?_|apply qB|apply qa|apply qo|refine qe (fun _=> ?_) (fun _=> ?_)|refine qn (fun _=> ?_) (fun _=> ?_)|refine qd (fun _=> ?_) (fun _=> ?_)|apply qt|refine qi (fun _=> ?_) (fun _=> ?_)|refine zA rfl ?_|apply qE|apply qO|exact zN|apply qq|apply qs|refine qK (by kernel_rfl) ?_|apply qr)
 all_goals try first|apply qz1|apply qz2|apply qz3|apply qz4|apply qz5|apply qz6|apply qz7|apply qz8|apply qz9|apply qz0
 all_goals try simp only [zZ,zR,yD,z6,qn1,zY,qn2,zX,ETy.dflt,qn3,qn4,Int.reduceToNat,Int.reduceAdd,Int.reduceSub,Int.reduceNeg,Nat.reduceAdd,zD] at *
def zXN:List AV->Option zJf:=zEv qP (fun s=>some (none,some (s.2.length<=8192),.s (.own 0 0 (prS qQ 3 s.2 s.2.length).2.2.length),[.row zBW 91 (prS qQ 3 s.2 s.2.length).2.2]))
theorem zZG:zDE Tryz.prog 162 zXN:=⟨zCB fun s r h=>by cases h;exact zDe (yN (fn:=[]) (fr:=[(179,.res zME)]) trivial ⟨zS6,trivial⟩) Tryz.func162 (by kernel_rfl) fun _ h=>zZm s.1 s.2 h,_,Tryz.func162,by kernel_rfl,by kernel_rfl⟩
theorem zP8 (n:Int) (l:List P3) (hb:l.length<=8192):zEt ⟨tyL,[],[(179,.res zMZ)]⟩ Tryz.f163 [qP.av (n,l)] (fun v obs=>v= .s (.own 0 0 (prS zDi 4 l l.length).2.2.length)/\obs=[.row zBW 91 (prS zDi 4 l l.length).2.2]):=by
 repeat' (conv=>whnf
          first|done|refine qN (by first|rfl|omega|(simp only [yP] at *;omega)) ?_|apply qH|refine qG fun _=> ?_|apply qB|apply qa|apply qo|refine qe (fun _=> ?_) (fun _=> ?_)|refine qn (fun _=> ?_) (fun _=> ?_)|refine qd (fun _=> ?_) (fun _=> ?_)|apply qt|refine qi (fun _=> ?_) (fun _=> ?_)|refine zA rfl ?_|apply qE|apply qO|exact zN|apply qq|apply qs|refine qK (by kernel_rfl) ?_|apply qr)
 all_goals try first|apply qz1|apply qz2|apply qz3|apply qz4|apply qz5|apply qz6|apply qz7|apply qz8|apply qz9|apply qz0
 all_goals try simp only [zZ,zR,yD,z6,qn1,zY,qn2,zX,ETy.dflt,qn3,qn4,Int.reduceToNat,Int.reduceAdd,Int.reduceSub,Int.reduceNeg,Nat.reduceAdd,zD] at *
def zJQ:List AV->Option zJf:=zEv qP (fun s=>some (none,some (s.2.length<=8192),.s (.own 0 0 (prS zDi 4 s.2 s.2.length).2.2.length),[.row zBW 91 (prS zDi 4 s.2 s.2.length).2.2]))
theorem zPp:zDE Tryz.prog 163 zJQ:=⟨zCB fun s r h=>by cases h;exact zDe (yN (fn:=[]) (fr:=[(179,.res zMZ)]) trivial ⟨zSS,trivial⟩) Tryz.func163 (by kernel_rfl) fun _ h=>zP8 s.1 s.2 h,_,Tryz.func163,by kernel_rfl,by kernel_rfl⟩
end S1
open Go Go.Vm Go.Proofs
namespace S1
theorem zL8 {α:Type} {l:List α} (h: ¬ (l.length:Int)>0):l=[]:=by
 cases l with
 | nil=>rfl
 | cons a l=>exact absurd (by simp) h
theorem zFI {n:Int} {l:List P3} (h: ¬ ((jD (n,l)).length:Int)>0):zLM (n,l):=by
 have h:=zL8 h;unfold jD at h;split at h
 ·cases h
 ·rename_i hb
  have hb: ¬ (n<0\/n>4096\/(l.length:Int)>8192):=by
   simpa only [zGo,Bool.or_eq_true,zP] using hb
  have hc:n<=4096/\0<=n/\l.length<=8192:=by omega
  refine ⟨hc.2.1,hc.1,hc.2.2,fun i hi=> ?_⟩;have:=List.filterMap_eq_nil_iff.1 h i (zW.2 hi);unfold z5G at this;split at this
  ·assumption
  ·cases this
theorem zKp {s:List Bool} {i j:Nat} (h:(s.set i true).getD j false=true):i=j\/s.getD j false=true:=by
 by_cases e:i=j
 ·exact .inl e
 ·rw [gdE,List.getElem?_set_ne e] at h;exact .inr (by rw [gdE];exact h)
theorem zNM {n:Nat} {l:List P3} {v:Nat} (hl: ∀ j,j<l.length->0<=(l.getD j (0,0,0)).1/\0<=(l.getD j (0,0,0)).2.1/\0<=(l.getD j (0,0,0)).2.2) :
 ∀ i,i<=l.length->(zCb n l i).getD v false=true->∃ j,j<i/\z7 (l.getD j (0,0,0)) v
 | 0,_,h=>by
   have:(zCb n l 0).getD v false=false:=by
    show (List.replicate n false).getD v false=false;rw [gdE,List.getElem?_replicate];split<;>rfl
   rw [this] at h;cases h
 | i + 1,hi,h=>by
   have h:(zOZ (zCb n l i) (l.getD i (0,0,0))).getD v false=true:=h;obtain ⟨k1,k2,k3⟩:=hl i (by omega);rcases zKp h with e|h
   ·exact ⟨i,by omega,.inr (.inr (by omega))⟩
   ·rcases zKp h with e|h
    ·exact ⟨i,by omega,.inr (.inl (by omega))⟩
    ·rcases zKp h with e|h
     ·exact ⟨i,by omega,.inl (by omega)⟩
     ·obtain ⟨j,h1,h2⟩:=zNM hl i (by omega) h;exact ⟨j,by omega,h2⟩
theorem z0V {n:Int} {l:List P3} (hf:zLM (n,l)) (h: ¬ ((zHP (n,l)).length:Int)>0):z8U (n,l):=by
 have h:=zL8 h;intro v hv;have:=List.filterMap_eq_nil_iff.1 h v (zW.2 (by omega));unfold loG at this;split at this
 ·rename_i ht;exact zNM (fun j hj=>by have:=zAE (hf.2.2.2 j hj);omega) l.length (zI _) ht
 ·cases this
def zDM:List (List Wit)->List Wit
 | []=>[]
 | l::r=>if (l.length:Int)>0 then zG0 zBW cfW l else zDM r
def allR (s:Int×List P3):List Wit:=zDM [jD s,dgL s.2 s.2.length,(prS qQ 3 s.2 s.2.length).2.2,(prS zDi 4 s.2 s.2.length).2.2,zHP s,zXm s]
theorem zJT (l:List Wit):(zG0 zBW cfW l).length=l.length:=zJW z7i l
theorem z6U (n:Int) (l:List P3):zEt ⟨tyL,[],[(160,.res zVV),(161,.res z2m),(162,.res zXN),(163,.res zJQ),(164,.res zOp),(165,.res zWc),(166,.run zYX)]⟩ Tryz.f135 [qP.av (n,l)] (fun v obs=>v= .s (.own 0 0 (allR (n,l)).length)/\obs=[.row zBW 91 (allR (n,l))]):=by
 repeat' (conv=>whnf
          first|done|refine qN (by first|rfl|omega|(simp only [yP] at *;omega)) ?_|apply qH|refine qG fun _=> ?_|apply qB|apply qa|apply qo|refine qe (fun _=> ?_) (fun _=> ?_)|refine qn (fun _=> ?_) (fun _=> ?_)|refine qd (fun _=> ?_) (fun _=> ?_)|apply qt|refine qi (fun _=> ?_) (fun _=> ?_)|(refine qT 2 rfl ?_;refine Or.inl (zB (7) ?_))|refine zA rfl ?_|apply qE|apply qO|exact zN|apply qq|apply qs|refine qK (by kernel_rfl) ?_|apply qr)
 all_goals try first|apply qz1|apply qz2|apply qz3|apply qz4|apply qz5|apply qz6|apply qz7|apply qz8|apply qz9|apply qz0
 all_goals try simp only [zZ,zR,yD,z6,qn1,zY,qn2,zX,ETy.dflt,qn3,qn4,Int.reduceToNat,Int.reduceAdd,Int.reduceSub,Int.reduceNeg,Nat.reduceAdd,zD] at *
 all_goals first
  | (simp only [allR,zDM, *,zJT,if_true,if_false,List.take_zero,List.drop_length,List.append_nil,List.nil_append,List.length_nil];first|done|exact (zJT _).symm)
  | (refine qh ?_;first|exact (zFI ‹_›).2.2.1|exact zFI ‹_›|exact ⟨zFI ‹_›,z0V (zFI ‹_›) ‹_›⟩)
def z8H:List AV->Option zJf:=zEv qP (fun s=>some (none,none,.s (.own 0 0 (allR s).length),[.row zBW 91 (allR s)]))
theorem z5J:zDE Tryz.prog 135 z8H:=⟨zCB fun s r h=>by cases h;exact zDe (yN (fn:=[]) (fr:=[(160,.res zVV),(161,.res z2m),(162,.res zXN),(163,.res zJQ),(164,.res zOp),(165,.res zWc),(166,.run zYX)]) trivial ⟨zZM,z2V,zZG,zPp,zTw,zYj,z04,trivial⟩) Tryz.func135 (by kernel_rfl) fun _ _=>z6U s.1 s.2,_,Tryz.func135,by kernel_rfl,by kernel_rfl⟩
end S1
open Go Go.Vm Go.Proofs
namespace S1
def zJ6 (s:Int×List P3):Wit:=(allR s).headD (0,0,0)
theorem zYw (n:Int) (l:List P3):zAF ⟨tyL,[],[(135,.res z8H)]⟩ Tryz.f93 [qP.av (n,l)] (fun v=>v=zBW.av (zJ6 (n,l))):=by
 repeat' (conv=>whnf
          first|done|refine qN (by first|rfl|omega|(simp only [yP] at *;omega)) ?_|apply qH|refine qG fun _=> ?_|apply qB|apply qa|apply qo|refine qe (fun _=> ?_) (fun _=> ?_)|refine qn (fun _=> ?_) (fun _=> ?_)|refine qd (fun _=> ?_) (fun _=> ?_)|apply qt|refine qi (fun _=> ?_) (fun _=> ?_)|refine zA rfl ?_|apply qE|apply qO|exact zN|apply qq|apply qs|refine qK (by kernel_rfl) ?_|apply qr)
 all_goals try first|apply qz1|apply qz2|apply qz3|apply qz4|apply qz5|apply qz6|apply qz7|apply qz8|apply qz9|apply qz0
 all_goals try simp only [zZ,zR,yD,z6,qn1,zY,qn2,zX,ETy.dflt,qn3,qn4,Int.reduceToNat,Int.reduceAdd,Int.reduceSub,Int.reduceNeg,Nat.reduceAdd,zD] at *
 ·rename_i h1 h2;cases h:allR (n,l) with
  | nil=>rw [h] at h2;simp at h2
  | cons a r=>unfold zJ6;rw [h];exact y9.intro rfl
 ·rename_i h2;unfold zJ6;rw [zL8 h2];exact y9.intro rfl
def zTV:List AV->Option Res:=zEv qP (fun s=>some (none,none,zBW.av (zJ6 s)))
theorem zZV:qL Tryz.prog 93 zTV:=⟨zAV fun s r h=>by cases h;exact qM (yN (fn:=[]) (fr:=[(135,.res z8H)]) trivial ⟨z5J,trivial⟩) Tryz.func93 (by kernel_rfl) fun _ _=>zYw s.1 s.2,_,Tryz.func93,by kernel_rfl,by kernel_rfl⟩
def isR (s:Int×List P3):Bool:=decide (zJ6 s=(0,0,0))
theorem zYt {fn} (l:List P3) (hb:l.length<=8192):zAF ⟨tyL,fn,[]⟩ Tryz.f64 [(ETy.sl .arr3).av l] (fun v=>v=(ETy.sl .arr3).av l):=by
 repeat' (conv=>whnf
          first|done|refine qN (by first|rfl|omega|(simp only [yP] at *;omega)) ?_|apply qH|refine qG fun _=> ?_|apply qB|apply qa|apply qo|refine qe (fun _=> ?_) (fun _=> ?_)|refine qn (fun _=> ?_) (fun _=> ?_)|refine qd (fun _=> ?_) (fun _=> ?_)|apply qt|refine qi (fun _=> ?_) (fun _=> ?_)|refine zA rfl ?_|apply qE|apply qO|exact zN|apply qq|apply qs|refine qK (by kernel_rfl) ?_|apply qr)
 all_goals try first|apply qz1|apply qz2|apply qz3|apply qz4|apply qz5|apply qz6|apply qz7|apply qz8|apply qz9|apply qz0
 all_goals try simp only [zZ,zR,yD,z6,qn1,zY,qn2,zX,ETy.dflt,qn3,qn4,Int.reduceToNat,Int.reduceAdd,Int.reduceSub,Int.reduceNeg,Nat.reduceAdd,zD] at *
 ·exact (‹l=[]›).symm
 ·exact List.take_length
def zHu:List AV->Option Res:=zEv (.sl .arr3) (fun l=>some (none,some (l.length<=8192),.s (.sl .arr3 l)))
theorem zMS:qL Tryz.prog 64 zHu:=⟨zAV fun l r h=>by cases h;exact qM (yN (fn:=[]) (fr:=[]) trivial trivial) Tryz.func64 (by kernel_rfl) fun _ h=>zYt l h,_,Tryz.func64,by kernel_rfl,by kernel_rfl⟩
def eqR (a b:List P3):Bool:=decide (a=b)
def z4n (a b:List P3):Spec Nat where
 inv x:=x<=a.length/\∀ i,i<x->a.getD i (0,0,0)=b.getD i (0,0,0)
 live x:=[(13,.s (.int .i64 x))]
 keep:=[0,1,12]
 heap _:=[]
 keepH:=[]
 mu x:=a.length - x
theorem zZO {fn} (a b:List P3):zAF ⟨tyL,fn,[]⟩ Tryz.f140 [(ETy.sl .arr3).av a,(ETy.sl .arr3).av b] (fun v=>v= .s (.bool (eqR a b))):=by
 repeat' (conv=>whnf
          first|done|refine qN (by first|rfl|omega|(simp only [yP] at *;omega)) ?_|apply qH|refine qG fun _=> ?_|apply qB|apply qa|apply qo|refine qe (fun _=> ?_) (fun _=> ?_)|refine qn (fun _=> ?_) (fun _=> ?_)|refine qd (fun _=> ?_) (fun _=> ?_)|apply qt|refine qi (fun _=> ?_) (fun _=> ?_)|(refine qT 4 rfl ?_;refine Or.inr (zB (Nat) (zB (z4n a b) (zA (zB (0) (zA (yK.out ?_) (zA ?_ (zA ?_ rfl)))) (fun x hx=> ?_)))))|((with_reducible show (∃ y,And (Spec.inv (z4n _ _) y) _));refine zB (x+1) (zA (yK.out ?_) (zA (zA ?_ (zA ?_ rfl)) (yK.out ?_))))|refine zA rfl ?_|apply qE|apply qO|exact zN|apply qq|apply qs|refine qK (by kernel_rfl) ?_|apply qr)
 all_goals try first|apply qz1|apply qz2|apply qz3|apply qz4|apply qz5|apply qz6|apply qz7|apply qz8|apply qz9|apply qz0
 all_goals try simp only [zZ,zR,yD,z6,qn1,zY,qn2,zX,ETy.dflt,qn3,qn4,Int.reduceToNat,Int.reduceAdd,Int.reduceSub,Int.reduceNeg,Nat.reduceAdd,zD,z4n,eqR] at *
 ·have e:a≠b:=fun e=>by subst e;exact absurd rfl ‹(a.length:Int)≠_›
  rw [decide_eq_false e]
 ·exact qh ⟨Nat.zero_le _,fun i hi=>by omega⟩
 ·refine yK.intro ⟨by omega,fun i hi=> ?_⟩
  by_cases e:i=x
  ·subst e;exact Prod.ext ‹_› (Prod.ext ‹_› ‹_›)
  ·exact hx.2 i (by omega)
 ·exact qh (by omega)
 ·have e:a≠b:=fun e=>by subst e;exact absurd rfl ‹(a.getD x (0,0,0)).snd.snd≠_›
  rw [decide_eq_false e]
 ·have e:a≠b:=fun e=>by subst e;exact absurd rfl ‹(a.getD x (0,0,0)).snd.fst≠_›
  rw [decide_eq_false e]
 ·have e:a≠b:=fun e=>by subst e;exact absurd rfl ‹(a.getD x (0,0,0)).fst≠_›
  rw [decide_eq_false e]
 ·have e:a=b:=List.ext_getElem (by omega) fun i h1 h2=>by
   have:=hx.2 i (by omega);rwa [gdE,gdE,gE h1,gE h2] at this
  rw [decide_eq_true e]
def zOL:List AV->Option Res:=zCs (.sl .arr3) (.sl .arr3) (fun a b=>some (none,none,.s (.bool (eqR a b))))
theorem zRb:qL Tryz.prog 140 zOL:=⟨jC fun a b r h=>by cases h;exact qM (yN (fn:=[]) (fr:=[]) trivial trivial) Tryz.func140 (by kernel_rfl) fun _ _=>zZO a b,_,Tryz.func140,by kernel_rfl,by kernel_rfl⟩
end S1
open Go Go.Vm Go.Proofs
namespace S1
abbrev yI:ETy:= .pair qP (.pair (.mp .arr2 (.int .i64)) (.sl (.int .i64)))
def zZ2 {ρ:Type} (e:ETy) (f:e.T->Option ρ):List AV->Option ρ :=
 zEv (.pt e) (fun o=>match o with|some x=>f x|none=>none)
def zFg {ρ:Type} (e b:ETy) (f:e.T->b.T->Option ρ):List AV->Option ρ :=
 zCs (.pt e) b (fun o y=>match o with|some x=>f x y|none=>none)
theorem zLR {P:Program} {e:ETy} {f:e.T->Option Res} {n:FuncId} (h: ∀ x r,f x=some r->zDL P n [(ETy.pt e).av (some x)] r): ∀ args r,zZ2 e f args=some r->zDL P n args r :=
 zAV fun o r hr=>by cases o with|none=>cases hr|some x=>exact h x r hr
theorem zAm {P:Program} {e b:ETy} {f:e.T->b.T->Option Res} {n:FuncId} (h: ∀ x y r,f x y=some r->zDL P n [(ETy.pt e).av (some x),b.av y] r): ∀ args r,zFg e b f args=some r->zDL P n args r :=
 jC fun o y r hr=>by cases o with|none=>cases hr|some x=>exact h x y r hr
def trn (c b:Int):Int:=c - c % 3+(c+b) % 3
def j6 (x:yI.T) (c:Int):Bool:=decide (0<=c)&&decide (c<3*(x.1.2.length:Int))
def qY (x:yI.T) (c:Int):Int:=if j6 x c then trn c 1 else -1
def qV (x:yI.T) (c:Int):Int:=if j6 x c then trn c 2 else -1
def p3 (t:P3) (k:Int):Int:=if k=0 then t.1 else if k=1 then t.2.1 else t.2.2
def yR (x:yI.T) (c:Int):Int:=if j6 x c then p3 (x.1.2.getD (c / 3).toNat (0,0,0)) (c % 3) else -1
def jP (x:yI.T) (c:Int):Int×Int:=(yR x (qY x c),yR x (qV x c))
def qJ (x:yI.T) (e:Int×Int):Int:=(jS .arr2 x.2.1 e).getD (-1)
def zAG (x:yI.T) (c:Int):Int:=qJ x ((jP x c).2,(jP x c).1)
def yX (x:yI.T) (v:Int):Int:=if 0<=v/\v<x.2.2.length then x.2.2.getD v.toNat 0 else -1
theorem tm3 {c:Int} (h:0<=c):c.tmod 3=c % 3:=Int.tmod_eq_emod_of_nonneg h
theorem td3 {c:Int} (h:0<=c):c.tdiv 3=c / 3:=Int.tdiv_eq_ediv_of_nonneg h
theorem yH {x:yI.T} {c:Int} :j6 x c=true↔0<=c/\c<3*(x.1.2.length:Int):=by
 unfold j6;rw [zC,zP,zP]
theorem zWn {fn} (c b:Int) (h:0<=c/\c<=1000000000/\0<=b/\b<=2):zAF ⟨tyL,fn,[]⟩ Tryz.f158 [y7.av c,y7.av b] (fun v=>v= .s (.int .i64 (trn c b))):=by
 repeat' (conv=>whnf
          first|done|refine qN (by first|rfl|omega|(simp only [yP] at *;omega)) ?_|apply qH|refine qG fun _=> ?_|apply qB|apply qa|apply qo|refine qe (fun _=> ?_) (fun _=> ?_)|refine qn (fun _=> ?_) (fun _=> ?_)|refine qd (fun _=> ?_) (fun _=> ?_)|apply qt|refine qi (fun _=> ?_) (fun _=> ?_)|refine zA rfl ?_|apply qE|apply qO|exact zN|apply qq|apply qs|refine qK (by kernel_rfl) ?_|apply qr)
 all_goals try first|apply qz1|apply qz2|apply qz3|apply qz4|apply qz5|apply qz6|apply qz7|apply qz8|apply qz9|apply qz0
 all_goals try simp only [zZ,zR,yD,z6,qn1,zY,qn2,zX,ETy.dflt,qn3,qn4,Int.reduceToNat,Int.reduceAdd,Int.reduceSub,Int.reduceNeg,Nat.reduceAdd,zD,trn] at *
 all_goals try refine qh ?_
 all_goals (rw [tm3 (by omega)];try rw [tm3 (by omega)])
 all_goals (try simp only [yP]);(try omega)
def zI7:List AV->Option Res:=zCs y7 y7 (fun c b=>some (none,some (0<=c/\c<=1000000000/\0<=b/\b<=2),.s (.int .i64 (trn c b))))
theorem zMq:qL Tryz.prog 158 zI7:=⟨jC fun c b r h=>by cases h;exact qM (yN (fn:=[]) (fr:=[]) trivial trivial) Tryz.func158 (by kernel_rfl) fun _ h=>zWn c b h,_,Tryz.func158,by kernel_rfl,by kernel_rfl⟩
theorem z5c {fn} (x:yI.T) (c:Int):zAF ⟨tyL,fn,[]⟩ Tryz.f136 [(ETy.pt yI).av (some x),y7.av c] (fun v=>v= .s (.bool (j6 x c))):=by
 obtain ⟨⟨n,l⟩,m,f⟩:=x
 repeat' (conv=>whnf
          first|done|refine qN (by first|rfl|omega|(simp only [yP] at *;omega)) ?_|apply qH|refine qG fun _=> ?_|apply qB|apply qa|apply qo|refine qe (fun _=> ?_) (fun _=> ?_)|refine qn (fun _=> ?_) (fun _=> ?_)|refine qd (fun _=> ?_) (fun _=> ?_)|apply qt|refine qi (fun _=> ?_) (fun _=> ?_)|refine zA rfl ?_|apply qE|apply qO|exact zN|apply qq|apply qs|refine qK (by kernel_rfl) ?_|apply qr)
 all_goals try first|apply qz1|apply qz2|apply qz3|apply qz4|apply qz5|apply qz6|apply qz7|apply qz8|apply qz9|apply qz0
 all_goals try simp only [zZ,zR,yD,z6,qn1,zY,qn2,zX,ETy.dflt,qn3,qn4,Int.reduceToNat,Int.reduceAdd,Int.reduceSub,Int.reduceNeg,Nat.reduceAdd,zD,j6,Option.getD_some] at *
 all_goals (rw [Bool.eq_iff_iff,zC,zP,zP])
 ·constructor
  ·intro h;exact ⟨by omega,h⟩
  ·intro h;exact h.2
 ·constructor
  ·intro h;cases h
  ·intro h;omega
def z4i:List AV->Option Res:=zFg yI y7 (fun x c=>some (none,none,.s (.bool (j6 x c))))
theorem zWF:qL Tryz.prog 136 z4i:=⟨zAm fun x c r h=>by cases h;exact qM (yN (fn:=[]) (fr:=[]) trivial trivial) Tryz.func136 (by kernel_rfl) fun _ _=>z5c x c,_,Tryz.func136,by kernel_rfl,by kernel_rfl⟩
theorem zD4 {x:yI.T} {c:Int} (h1:0<=c) (h2:c<3*(x.1.2.length:Int)):yR x c=p3 (x.1.2.getD (c / 3).toNat (0,0,0)) (c % 3):=by
 unfold yR;rw [if_pos (yH.2 ⟨h1,h2⟩)]
theorem zSE {x:yI.T} {c:Int} (h: ¬ (0<=c/\c<3*(x.1.2.length:Int))):j6 x c=false:=by
 rw [<- Bool.not_eq_true];exact fun e=>h (yH.1 e)
theorem z2g {x:yI.T} {c:Int} (h: ¬ (0<=c/\c<3*(x.1.2.length:Int))):yR x c= -1:=by
 unfold yR;rw [zSE h];rfl
theorem z6j (t:P3) (k:Int) (h1:0<=k) (h2:k<3):[t.1,t.2.1,t.2.2].getD k.toNat 0=p3 t k:=by
 have:k=0\/k=1\/k=2:=by omega
 rcases this with e|e|e<;>subst e<;>rfl
theorem zNH {fn} (x:yI.T):zAF ⟨tyL,fn,[]⟩ Tryz.f74 [(ETy.pt yI).av (some x)] (fun v=>v= .s (.int .i64 x.1.2.length)):=by
 obtain ⟨⟨n,l⟩,m,f⟩:=x
 repeat' (conv=>whnf
          first|done|refine qN (by first|rfl|omega|(simp only [yP] at *;omega)) ?_|apply qH|refine qG fun _=> ?_|apply qB|apply qa|apply qo|refine qe (fun _=> ?_) (fun _=> ?_)|refine qn (fun _=> ?_) (fun _=> ?_)|refine qd (fun _=> ?_) (fun _=> ?_)|apply qt|refine qi (fun _=> ?_) (fun _=> ?_)|refine zA rfl ?_|apply qE|apply qO|exact zN|apply qq|apply qs|refine qK (by kernel_rfl) ?_|apply qr)
 all_goals try first|apply qz1|apply qz2|apply qz3|apply qz4|apply qz5|apply qz6|apply qz7|apply qz8|apply qz9|apply qz0
 all_goals try simp only [zZ,zR,yD,z6,qn1,zY,qn2,zX,ETy.dflt,qn3,qn4,Int.reduceToNat,Int.reduceAdd,Int.reduceSub,Int.reduceNeg,Nat.reduceAdd,zD,Option.getD_some] at *
def zB2:List AV->Option Res:=zZ2 yI (fun x=>some (none,none,.s (.int .i64 x.1.2.length)))
theorem zDr:qL Tryz.prog 74 zB2:=⟨zLR fun x r h=>by cases h;exact qM (yN (fn:=[]) (fr:=[]) trivial trivial) Tryz.func74 (by kernel_rfl) fun _ _=>zNH x,_,Tryz.func74,by kernel_rfl,by kernel_rfl⟩
theorem zPw {fn} (x:yI.T):zAF ⟨tyL,fn,[]⟩ Tryz.f85 [(ETy.pt yI).av (some x)] (fun v=>v= .s (.int .i64 x.1.1)):=by
 obtain ⟨⟨n,l⟩,m,f⟩:=x
 repeat' (conv=>whnf
          first|done|refine qN (by first|rfl|omega|(simp only [yP] at *;omega)) ?_|apply qH|refine qG fun _=> ?_|apply qB|apply qa|apply qo|refine qe (fun _=> ?_) (fun _=> ?_)|refine qn (fun _=> ?_) (fun _=> ?_)|refine qd (fun _=> ?_) (fun _=> ?_)|apply qt|refine qi (fun _=> ?_) (fun _=> ?_)|refine zA rfl ?_|apply qE|apply qO|exact zN|apply qq|apply qs|refine qK (by kernel_rfl) ?_|apply qr)
 all_goals try first|apply qz1|apply qz2|apply qz3|apply qz4|apply qz5|apply qz6|apply qz7|apply qz8|apply qz9|apply qz0
 all_goals try simp only [zZ,zR,yD,z6,qn1,zY,qn2,zX,ETy.dflt,qn3,qn4,Int.reduceToNat,Int.reduceAdd,Int.reduceSub,Int.reduceNeg,Nat.reduceAdd,zD,Option.getD_some] at *
def zBk:List AV->Option Res:=zZ2 yI (fun x=>some (none,none,.s (.int .i64 x.1.1)))
theorem zDU:qL Tryz.prog 85 zBk:=⟨zLR fun x r h=>by cases h;exact qM (yN (fn:=[]) (fr:=[]) trivial trivial) Tryz.func85 (by kernel_rfl) fun _ _=>zPw x,_,Tryz.func85,by kernel_rfl,by kernel_rfl⟩
theorem zU7 (x:yI.T) (c:Int) (h:c<=1000000000):zAF ⟨tyL,[(136,z4i)],[]⟩ Tryz.f94 [(ETy.pt yI).av (some x),y7.av c] (fun v=>v= .s (.int .i64 (yR x c))):=by
 obtain ⟨⟨n,l⟩,m,f⟩:=x
 repeat' (conv=>whnf
          first|done|refine qN (by first|rfl|omega|(simp only [yP] at *;omega)) ?_|apply qH|refine qG fun _=> ?_|apply qB|apply qa|apply qo|refine qe (fun _=> ?_) (fun _=> ?_)|refine qn (fun _=> ?_) (fun _=> ?_)|refine qd (fun _=> ?_) (fun _=> ?_)|apply qt|refine qi (fun _=> ?_) (fun _=> ?_)|refine zA rfl ?_|apply qE|apply qO|exact zN|apply qq|apply qs|refine qK (by kernel_rfl) ?_|apply qr)
 all_goals try first|apply qz1|apply qz2|apply qz3|apply qz4|apply qz5|apply qz6|apply qz7|apply qz8|apply qz9|apply qz0
 all_goals try simp only [zZ,zR,yD,z6,qn1,zY,qn2,zX,ETy.dflt,qn3,qn4,Int.reduceToNat,Int.reduceAdd,Int.reduceSub,Int.reduceNeg,Nat.reduceAdd,zD,Option.getD_some] at *
 ·refine yK.intro ⟨by omega,?_⟩;rw [td3 (by assumption)];unfold yP;omega
 ·refine qh ?_;rw [td3 (by assumption)];omega
 ·refine qh ?_;rw [tm3 (by assumption)];omega
 ·rw [tm3 (by assumption),td3 (by assumption),zD4 (by assumption) (by assumption)];exact z6j _ _ (by omega) (by omega)
 all_goals (rw [z2g];intro h';first|exact absurd h'.2 ‹_›|exact absurd h'.1 ‹_›)
def zCN:List AV->Option Res:=zFg yI y7 (fun x c=>some (none,some (c<=1000000000),.s (.int .i64 (yR x c))))
theorem zES:qL Tryz.prog 94 zCN:=⟨zAm fun x c r h=>by cases h;exact qM (yN (fn:=[(136,z4i)]) (fr:=[]) ⟨zWF,trivial⟩ trivial) Tryz.func94 (by kernel_rfl) fun _ h=>zU7 x c h,_,Tryz.func94,by kernel_rfl,by kernel_rfl⟩
theorem z2Q (x:yI.T) (c:Int) (h:c<=1000000):zAF ⟨tyL,[(136,z4i),(158,zI7)],[]⟩ Tryz.f121 [(ETy.pt yI).av (some x),y7.av c] (fun v=>v= .s (.int .i64 (qY x c))):=by
 repeat' (conv=>whnf
          first|done|refine qN (by first|rfl|omega|(simp only [yP] at *;omega)) ?_|apply qH|refine qG fun _=> ?_|apply qB|apply qa|apply qo|refine qe (fun _=> ?_) (fun _=> ?_)|refine qn (fun _=> ?_) (fun _=> ?_)|refine qd (fun _=> ?_) (fun _=> ?_)|apply qt|refine qi (fun _=> ?_) (fun _=> ?_)|refine zA rfl ?_|apply qE|apply qO|exact zN|apply qq|apply qs|refine qK (by kernel_rfl) ?_|apply qr)
 all_goals try first|apply qz1|apply qz2|apply qz3|apply qz4|apply qz5|apply qz6|apply qz7|apply qz8|apply qz9|apply qz0
 all_goals try simp only [zZ,zR,yD,z6,qn1,zY,qn2,zX,ETy.dflt,qn3,qn4,Int.reduceToNat,Int.reduceAdd,Int.reduceSub,Int.reduceNeg,Nat.reduceAdd,zD,Option.getD_some] at *
 ·exact qh ⟨by assumption,Int.le_trans h (by decide),by decide,by decide⟩
 ·unfold qY;rw [if_pos (yH.2 ⟨by assumption,by assumption⟩)]
 all_goals (unfold qY;rw [zSE (by omega)];rfl)
def zMY:List AV->Option Res:=zFg yI y7 (fun x c=>some (none,some (c<=1000000),.s (.int .i64 (qY x c))))
theorem zLL:qL Tryz.prog 121 zMY:=⟨zAm fun x c r h=>by cases h;exact qM (yN (fn:=[(136,z4i),(158,zI7)]) (fr:=[]) ⟨zWF,zMq,trivial⟩ trivial) Tryz.func121 (by kernel_rfl) fun _ h=>z2Q x c h,_,Tryz.func121,by kernel_rfl,by kernel_rfl⟩
theorem z3x (x:yI.T) (c:Int) (h:c<=1000000):zAF ⟨tyL,[(136,z4i),(158,zI7)],[]⟩ Tryz.f122 [(ETy.pt yI).av (some x),y7.av c] (fun v=>v= .s (.int .i64 (qV x c))):=by
 repeat' (conv=>whnf
          first|done|refine qN (by first|rfl|omega|(simp only [yP] at *;omega)) ?_|apply qH|refine qG fun _=> ?_|apply qB|apply qa|apply qo|refine qe (fun _=> ?_) (fun _=> ?_)|refine qn (fun _=> ?_) (fun _=> ?_)|refine qd (fun _=> ?_) (fun _=> ?_)|apply qt|refine qi (fun _=> ?_) (fun _=> ?_)|refine zA rfl ?_|apply qE|apply qO|exact zN|apply qq|apply qs|refine qK (by kernel_rfl) ?_|apply qr)
 all_goals try first|apply qz1|apply qz2|apply qz3|apply qz4|apply qz5|apply qz6|apply qz7|apply qz8|apply qz9|apply qz0
 all_goals try simp only [zZ,zR,yD,z6,qn1,zY,qn2,zX,ETy.dflt,qn3,qn4,Int.reduceToNat,Int.reduceAdd,Int.reduceSub,Int.reduceNeg,Nat.reduceAdd,zD,Option.getD_some] at *
 ·exact qh ⟨by assumption,Int.le_trans h (by decide),by decide,by decide⟩
 ·unfold qV;rw [if_pos (yH.2 ⟨by assumption,by assumption⟩)]
 all_goals (unfold qV;rw [zSE (by omega)];rfl)
def zKk:List AV->Option Res:=zFg yI y7 (fun x c=>some (none,some (c<=1000000),.s (.int .i64 (qV x c))))
theorem zMQ:qL Tryz.prog 122 zKk:=⟨zAm fun x c r h=>by cases h;exact qM (yN (fn:=[(136,z4i),(158,zI7)]) (fr:=[]) ⟨zWF,zMq,trivial⟩ trivial) Tryz.func122 (by kernel_rfl) fun _ h=>z3x x c h,_,Tryz.func122,by kernel_rfl,by kernel_rfl⟩
theorem zWa {fn} (x:yI.T) (e:Int×Int):zAF ⟨tyL,fn,[]⟩ Tryz.f78 [(ETy.pt yI).av (some x),ETy.arr2.av e] (fun v=>v= .s (.int .i64 (qJ x e))):=by
 obtain ⟨⟨n,l⟩,m,f⟩:=x
 repeat' (conv=>whnf
          first|done|refine qN (by first|rfl|omega|(simp only [yP] at *;omega)) ?_|apply qH|refine qG fun _=> ?_|apply qB|apply qa|apply qo|refine qe (fun _=> ?_) (fun _=> ?_)|refine qn (fun _=> ?_) (fun _=> ?_)|refine qd (fun _=> ?_) (fun _=> ?_)|apply qt|refine qi (fun _=> ?_) (fun _=> ?_)|refine zA rfl ?_|apply qE|apply qO|exact zN|apply qq|apply qs|refine qK (by kernel_rfl) ?_|apply qr)
 all_goals try first|apply qz1|apply qz2|apply qz3|apply qz4|apply qz5|apply qz6|apply qz7|apply qz8|apply qz9|apply qz0
 all_goals try simp only [zZ,zR,yD,z6,qn1,zY,qn2,zX,ETy.dflt,qn3,qn4,Int.reduceToNat,Int.reduceAdd,Int.reduceSub,Int.reduceNeg,Nat.reduceAdd,zD,Option.getD_some,qJ] at *
 ·rename_i h;cases hm:jS .arr2 m e with
  | none=>rw [hm] at h;cases h
  | some v=>rfl
 ·rename_i h;cases hm:jS .arr2 m e with
  | none=>rfl
  | some v=>rw [hm] at h;cases h
def zDk:List AV->Option Res:=zFg yI .arr2 (fun x e=>some (none,none,.s (.int .i64 (qJ x e))))
theorem zFe:qL Tryz.prog 78 zDk:=⟨zAm fun x e r h=>by cases h;exact qM (yN (fn:=[]) (fr:=[]) trivial trivial) Tryz.func78 (by kernel_rfl) fun _ _=>zWa x e,_,Tryz.func78,by kernel_rfl,by kernel_rfl⟩
theorem zVr {fn} (x:yI.T) (v:Int):zAF ⟨tyL,fn,[]⟩ Tryz.f124 [(ETy.pt yI).av (some x),y7.av v] (fun r=>r= .s (.int .i64 (yX x v))):=by
 obtain ⟨⟨n,l⟩,m,f⟩:=x
 repeat' (conv=>whnf
          first|done|refine qN (by first|rfl|omega|(simp only [yP] at *;omega)) ?_|apply qH|refine qG fun _=> ?_|apply qB|apply qa|apply qo|refine qe (fun _=> ?_) (fun _=> ?_)|refine qn (fun _=> ?_) (fun _=> ?_)|refine qd (fun _=> ?_) (fun _=> ?_)|apply qt|refine qi (fun _=> ?_) (fun _=> ?_)|refine zA rfl ?_|apply qE|apply qO|exact zN|apply qq|apply qs|refine qK (by kernel_rfl) ?_|apply qr)
 all_goals try first|apply qz1|apply qz2|apply qz3|apply qz4|apply qz5|apply qz6|apply qz7|apply qz8|apply qz9|apply qz0
 all_goals try simp only [zZ,zR,yD,z6,qn1,zY,qn2,zX,ETy.dflt,qn3,qn4,Int.reduceToNat,Int.reduceAdd,Int.reduceSub,Int.reduceNeg,Nat.reduceAdd,zD,Option.getD_some,yX] at *
 ·rw [if_neg (by omega)]
 ·rw [if_neg (by omega)]
 ·rw [if_pos (by omega)]
def zDu:List AV->Option Res:=zFg yI y7 (fun x v=>some (none,none,.s (.int .i64 (yX x v))))
theorem zFb:qL Tryz.prog 124 zDu:=⟨zAm fun x v r h=>by cases h;exact qM (yN (fn:=[]) (fr:=[]) trivial trivial) Tryz.func124 (by kernel_rfl) fun _ _=>zVr x v,_,Tryz.func124,by kernel_rfl,by kernel_rfl⟩
theorem z1m {c b:Int} :trn c b<=c+2:=by unfold trn;omega
theorem zYy {x:yI.T} {c:Int} (h:c<=1000000):qY x c<=1000000000:=by
 have:= @z1m c 1;unfold qY;split<;>omega
theorem z0E {x:yI.T} {c:Int} (h:c<=1000000):qV x c<=1000000000:=by
 have:= @z1m c 2;unfold qV;split<;>omega
theorem z4t (x:yI.T) (c:Int) (h:c<=1000000):zAF ⟨tyL,[(121,zMY),(122,zKk),(94,zCN)],[]⟩ Tryz.f77 [(ETy.pt yI).av (some x),y7.av c] (fun v=>v=ETy.arr2.av (jP x c)):=by
 repeat' (conv=>whnf
          first|done|refine qN (by first|rfl|omega|(simp only [yP] at *;omega)) ?_|apply qH|refine qG fun _=> ?_|apply qB|apply qa|apply qo|refine qe (fun _=> ?_) (fun _=> ?_)|refine qn (fun _=> ?_) (fun _=> ?_)|refine qd (fun _=> ?_) (fun _=> ?_)|apply qt|refine qi (fun _=> ?_) (fun _=> ?_)|refine zA rfl ?_|apply qE|apply qO|exact zN|apply qq|apply qs|refine qK (by kernel_rfl) ?_|apply qr)
 all_goals try first|apply qz1|apply qz2|apply qz3|apply qz4|apply qz5|apply qz6|apply qz7|apply qz8|apply qz9|apply qz0
 all_goals try simp only [zZ,zR,yD,z6,qn1,zY,qn2,zX,ETy.dflt,qn3,qn4,Int.reduceToNat,Int.reduceAdd,Int.reduceSub,Int.reduceNeg,Nat.reduceAdd,zD,Option.getD_some] at *
 ·exact qh (zYy (by omega))
 ·exact qh (z0E (by omega))
 ·exact y9.intro rfl
def zLw:List AV->Option Res:=zFg yI y7 (fun x c=>some (none,some (c<=1000000),ETy.arr2.av (jP x c)))
theorem zLI:qL Tryz.prog 77 zLw:=⟨zAm fun x c r h=>by cases h;exact qM (yN (fn:=[(121,zMY),(122,zKk),(94,zCN)]) (fr:=[]) ⟨zLL,zMQ,zES,trivial⟩ trivial) Tryz.func77 (by kernel_rfl) fun _ h=>z4t x c h,_,Tryz.func77,by kernel_rfl,by kernel_rfl⟩
theorem z68 (x:yI.T) (c:Int) (h:c<=1000000):zAF ⟨tyL,[(77,zLw),(78,zDk)],[]⟩ Tryz.f37 [(ETy.pt yI).av (some x),y7.av c] (fun v=>v= .s (.int .i64 (zAG x c))):=by
 repeat' (conv=>whnf
          first|done|refine qN (by first|rfl|omega|(simp only [yP] at *;omega)) ?_|apply qH|refine qG fun _=> ?_|apply qB|apply qa|apply qo|refine qe (fun _=> ?_) (fun _=> ?_)|refine qn (fun _=> ?_) (fun _=> ?_)|refine qd (fun _=> ?_) (fun _=> ?_)|apply qt|refine qi (fun _=> ?_) (fun _=> ?_)|refine zA rfl ?_|apply qE|apply qO|exact zN|apply qq|apply qs|refine qK (by kernel_rfl) ?_|apply qr)
 all_goals try first|apply qz1|apply qz2|apply qz3|apply qz4|apply qz5|apply qz6|apply qz7|apply qz8|apply qz9|apply qz0
 all_goals try simp only [zZ,zR,yD,z6,qn1,zY,qn2,zX,ETy.dflt,qn3,qn4,Int.reduceToNat,Int.reduceAdd,Int.reduceSub,Int.reduceNeg,Nat.reduceAdd,zD,Option.getD_some] at *
 rfl
def zSv:List AV->Option Res:=zFg yI y7 (fun x c=>some (none,some (c<=1000000),.s (.int .i64 (zAG x c))))
theorem zKJ:qL Tryz.prog 37 zSv:=⟨zAm fun x c r h=>by cases h;exact qM (yN (fn:=[(77,zLw),(78,zDk)]) (fr:=[]) ⟨zLI,zFe,trivial⟩ trivial) Tryz.func37 (by kernel_rfl) fun _ h=>z68 x c h,_,Tryz.func37,by kernel_rfl,by kernel_rfl⟩
end S1
open Go Go.Vm Go.Proofs
namespace S1
def WOk (w:Wit):Prop:=w.1≠0/\zBW.inR w=true
theorem wrap64 {n:Int} (h: -10000<=n/\n<=10000):IntKind.i64.wrap n=n:=zYL (InK.i64.2 (by unfold yP;omega))
theorem zKX {k a b:Int} (h0:k≠0) (hk: -10000<=k/\k<=10000) (ha: -10000<=a/\a<=10000) (hb: -10000<=b/\b<=10000):WOk (k,a,b) :=
 ⟨h0,by simp only [ETy.inR,wrap64 hk,wrap64 ha,wrap64 hb,beq_self_eq_true,Bool.and_self]⟩
theorem zRi {f:Nat->Option Wit} {n:Nat} (h: ∀ i,i<n->∀ w,f i=some w->WOk w): ∀ w∈(List.range n).filterMap f,WOk w:=by
 intro w hw;obtain ⟨i,hi,e⟩:=List.mem_filterMap.1 hw;exact h i (zW.1 hi) w e
theorem zSM (s:Int×List P3): ∀ w∈jD s,WOk w:=by
 unfold jD;split
 ·intro w hw;rw [zF] at hw;subst hw;exact zKX (by decide) (by decide) (by decide) (by decide)
 ·rename_i hb
  have hb: ¬ (s.1<0\/s.1>4096\/(s.2.length:Int)>8192):=by
   simpa only [zGo,Bool.or_eq_true,zP] using hb
  refine zRi fun i hi w e=> ?_;unfold z5G at e;split at e
  ·cases e
  ·cases e;exact zKX (by decide) (by decide) (by omega) (by decide)
theorem z2h {l:List P3} (hl:l.length<=8192): ∀ w∈dgL l l.length,WOk w :=
 zRi fun i hi w e=>by
  unfold dgG at e;split at e
  ·cases e;exact zKX (by decide) (by decide) (by omega) (by decide)
  ·cases e
theorem zXF {s:Int×List P3} (h:zLM s): ∀ w∈zHP s,WOk w :=
 zRi fun i hi w e=>by
  have h1:=h.1;have h2:=h.2.1;unfold loG at e;split at e
  ·cases e
  ·cases e;exact zKX (by decide) (by decide) (by omega) (by decide)
theorem zYa {s:Int×List P3} (h:zLM s): ∀ w∈zXm s,WOk w :=
 zRi fun i hi w e=>by
  have h1:=h.1;have h2:=h.2.1;unfold piG at e;split at e
  ·cases e
  ·cases e;exact zKX (by decide) (by decide) (by omega) (by decide)
def zWg (l:List Int):Prop:= ∀ a∈l,0<=a/\a<=8192
theorem z3Q {kind:Int} {i:Nat} {av:List Int} (h0:kind≠0) (hk: -10000<=kind/\kind<=10000) (hi:i<=8192) (ha:zWg av) (s:PS) (hs: ∀ w∈s.2,WOk w): ∀ w∈(qA (prA kind i av) s av.length).2,WOk w :=
 qX (n:=av.length) (fun _ (t:PS)=> ∀ w∈t.2,WOk w) hs (fun j t hj ht=>by
  unfold prA;split
  ·exact ht
  ·intro w hw;rcases yC.1 hw with hw|hw
   ·exact ht w hw
   ·rw [zF] at hw;subst hw;have:=ha (av.getD j 0) (by rw [gdE,gE hj];exact yU hj)
    exact zKX h0 hk (by omega) (by omega)) av.length (zI _)
theorem zWO (kp:P3->List P3) {kind:Int} (h0:kind≠0) (hk: -10000<=kind/\kind<=10000) {l:List P3} (hl:l.length<=8192): ∀ w∈(prS kp kind l l.length).2.2,WOk w :=
 (qX (n:=l.length) (fun _ (t:zIU×PS)=>(∀ k,zWg (zAH t.1 k))/\∀ w∈t.2.2,WOk w) ⟨fun k a h=>(by cases h),fun w h=>(by cases h)⟩ (fun i t hi ht=>by
   unfold prI;refine qX (n:=(kp (l.getD i (0,0,0))).length) (fun _ (t:zIU×PS)=>(∀ k,zWg (zAH t.1 k))/\∀ w∈t.2.2,WOk w) ht (fun m t hm ht=> ?_) _ (zI _);refine ⟨fun k a ha=> ?_,z3Q h0 hk (by omega) (ht.1 _) _ ht.2⟩;have ha:a∈zAH (zAB .arr3 t.1 ((kp (l.getD i (0,0,0))).getD m (0,0,0)) (zAH t.1 ((kp (l.getD i (0,0,0))).getD m (0,0,0))++[(i:Int)])) k:=ha;rw [zEG] at ha;split at ha
   ·rcases yC.1 ha with ha|ha
    ·exact ht.1 _ a ha
    ·rw [zF] at ha;omega
   ·exact ht.1 _ a ha) l.length (zI _)).2
theorem zDH {l:List Wit} (h: ∀ w∈l,WOk w): ∀ w∈zG0 zBW cfW l,WOk w:=fun w hw=>h w (zMd z7i l (fun x hx=>(h x hx).2) w hw)
theorem z0N (s:Int×List P3): ∀ w∈allR s,WOk w:=by
 obtain ⟨n,l⟩:=s;unfold allR zDM;split
 ·exact zDH (zSM _)
 ·rename_i h1;have hf:=zFI h1;have hl:l.length<=8192:=hf.2.2.1;unfold zDM;split
  ·exact zDH (z2h hl)
  ·unfold zDM;split
   ·exact zDH (zWO _ (by decide) (by decide) hl)
   ·unfold zDM;split
    ·exact zDH (zWO _ (by decide) (by decide) hl)
    ·unfold zDM;split
     ·exact zDH (zXF hf)
     ·unfold zDM;split
      ·exact zDH (zYa hf)
      ·intro w hw;cases hw
theorem zLo {s:Int×List P3} (h:(zJ6 s).1=0):allR s=[]:=by
 unfold zJ6 at h;have hw:=z0N s;cases e:allR s with
 | nil=>rfl
 | cons w r =>
   rw [e] at h hw;exact absurd h (hw w (yA ..)).1
theorem zRQ {s:Int×List P3} (h:(zJ6 s).1=0):zJ6 s=(0,0,0):=by unfold zJ6;rw [zLo h];rfl
theorem zEk: ∀ {ls:List (List Wit)},zDM ls=[]->∀ l∈ls,l=[]
 | [],_,l,hl=>by cases hl
 | a ::r,h,l,hl=>by
   unfold zDM at h;split at h
   ·rename_i ha;have:=zJT a;rw [h] at this;simp at this;omega
   ·rename_i ha;rcases zT.1 hl with e|hl
    ·subst e;exact zL8 ha
    ·exact zEk h l hl
structure z8i (s:Int×List P3):Prop where
 fit:zLM s
 deg:dgL s.2 s.2.length=[]
 twi:(prS qQ 3 s.2 s.2.length).2.2=[]
theorem zW0 {s:Int×List P3} (h:(zJ6 s).1=0):z8i s:=by
 have h:=zEk (zLo h);obtain ⟨n,l⟩:=s;refine ⟨zFI (by rw [h (jD (n,l)) (by simp)];simp),h _ (by simp),h _ (by simp)⟩
end S1
open Go Go.Vm Go.Proofs
namespace S1
def z8r (x:Int×List P3) (s:List ((Int×Int)×Int)×List Int) (i:Nat):List ((Int×Int)×Int)×List Int :=
 (zAB .arr2 s.1 (jP (x,[],[]) (3*x.2.length - 1 - i)) (3*x.2.length - 1 - i),s.2.set (yR (x,[],[]) (3*x.2.length - 1 - i)).toNat (3*x.2.length - 1 - i))
def zHG (x:Int×List P3) (i:Nat):List ((Int×Int)×Int)×List Int:=qA (z8r x) ([],List.replicate x.1.toNat 0) i
def zAj (x:Int×List P3):yI.T:=(x,(zHG x (3*x.2.length)).1,(zHG x (3*x.2.length)).2)
def z3F (n:Int) (l:List P3):Spec Nat where
 inv x:=x<=3*l.length
 live x:=[(6,.s (.int .i64 (3*l.length - 1 - x)))]
 keep:=[3,5]
 heap x:=[(3,.map .arr2 (.int .i64) (zHG (n,l) x).1),(4,.row (.int .i64) 3 (zHG (n,l) x).2)]
 keepH:=[1,5]
 mu x:=3*l.length - x
theorem z8C {n:Int} {t:P3} (h:zCl n t=true) (k:Int):0<=p3 t k/\p3 t k<n:=by
 have:=zAE h;unfold p3;split
 ·omega
 ·split<;>omega
theorem zAx {x:yI.T} {c:Int} (hf:zLM x.1) (h:j6 x c=true):0<=yR x c/\yR x c<x.1.1:=by
 unfold yR;rw [if_pos h];rw [yH] at h;exact z8C (hf.2.2.2 _ (by omega)) _
theorem zGA (x:Int×List P3): ∀ i,(zHG x i).2.length=x.1.toNat
 | 0=>List.length_replicate
 | i+1=>by
   show ((zHG x i).2.set _ _).length=_;rw [List.length_set];exact zGA x i
def zGy (s:Int×List P3):Option yI.T:=if (zJ6 s).1=0 then some (zAj s) else none
def z7X:Option yI.T->AV
 | none=> .s (.val (.pointer none))
 | some x=>(ETy.pt yI).av (some x)
theorem zY6 {σ:Sig} {β:yQ} {o:Option yI.T} {v:Value} (h:y5 σ β (z7X o) v):y5 σ β ((ETy.pt yI).av o) v:=by
 cases o with
 | some x=>exact h
 | none=>show [v]=[.pointer none];rw [show v= .pointer none from h.1]
theorem zDL.out {P:Program} {f:FuncId} {args:List AV} {p q:Option Prop} {u u':AV} (h:zDL P f args (p,q,u)) (hu: ∀ σ v,y5 σ [] u v->y5 σ [] u' v):zDL P f args (p,q,u'):=fun σ vals w hag hv=>by
 obtain ⟨h1,h2⟩:=h σ vals w hag hv;refine ⟨h1,fun hq=> ?_⟩;exact (h2 hq).mono fun e w' ⟨v,σ',e1,e2,e3,e4,e5,e6⟩=>⟨v,σ',e1,e2,e3,e4,hu _ _ e5,e6⟩
theorem z6E (n:Int) (l:List P3):zAF ⟨tyL,[(93,zTV),(64,zHu),(77,zLw),(94,zCN)],[]⟩ Tryz.f54 [qP.av (n,l)] (fun v=>v= .tup [z7X (zGy (n,l)),zBW.av (zJ6 (n,l))]):=by
 repeat' (conv=>whnf
          first|done|refine qN (by first|rfl|omega|(simp only [yP] at *;omega)) ?_|apply qH|refine qG fun _=> ?_|apply qB|apply qa|apply qo|refine qe (fun _=> ?_) (fun _=> ?_)|refine qn (fun _=> ?_) (fun _=> ?_)|refine qd (fun _=> ?_) (fun _=> ?_)|apply qt|refine qi (fun _=> ?_) (fun _=> ?_)|(refine qT 6 rfl ?_;refine Or.inr (zB (Nat) (zB (z3F n l) (zA (zB (0) (zA (yK.out ?_) (zA ?_ (zA ?_ rfl)))) (fun x hx=> ?_)))))|((with_reducible show (∃ y,And (Spec.inv (z3F _ _) y) _));refine zB (x+1) (zA (yK.out ?_) (zA (zA ?_ (zA ?_ rfl)) (yK.out ?_))))|refine zA rfl ?_|apply qE|apply qO|exact zN|apply qq|apply qs|refine qK (by kernel_rfl) ?_|apply qr)
 all_goals try first|apply qz1|apply qz2|apply qz3|apply qz4|apply qz5|apply qz6|apply qz7|apply qz8|apply qz9|apply qz0
 all_goals try simp only [zZ,zR,yD,z6,qn1,zY,qn2,zX,ETy.dflt,qn3,qn4,Int.reduceToNat,Int.reduceAdd,Int.reduceSub,Int.reduceNeg,Nat.reduceAdd,zD,Option.getD_some,z3F] at *
 ·rename_i h;unfold zGy;rw [if_neg h];exact y9.intro rfl
 all_goals
  have hc:=zW0 (s:=(n,l)) ‹_›;have hl:l.length<=8192:=hc.fit.2.2.1;have h0:0<=n:=hc.fit.1;have h1:n<=4096:=hc.fit.2.1
 ·exact qh hl
 ·exact qh ⟨h0,Int.le_refl _,by omega⟩
 ·exact qh (Nat.zero_le _)
 ·omega
 ·exact qh (show 3*(l.length:Int) - 1 - x<=1000000 by omega)
 ·exact qh (show 3*(l.length:Int) - 1 - x<=1000000000 by omega)
 ·have:=zAx (x:=((n,l),[],[])) (c:=3*(l.length:Int) - 1 - x) hc.fit (yH.2 ⟨by omega,by show _<3*(l.length:Int);omega⟩);refine yK.intro ⟨this.1,Int.lt_of_lt_of_le this.2 ?_⟩;show n<=_;omega
 ·exact qh (by omega)
 ·omega
 ·rfl
 ·exact qh (by omega)
 ·have e:x=3*l.length:=by omega
  subst e
  have e2:List.take n.toNat (List.drop 0 (zHG (n,l) (3*l.length)).snd)=(zHG (n,l) (3*l.length)).snd:=by
   rw [List.drop_zero];exact List.take_of_length_le (Nat.le_of_eq (zGA (n,l) _))
  unfold zGy;rw [if_pos ‹_›,zRQ ‹_›];refine y9.intro ?_;rw [e2];rfl
def z8W:List AV->Option Res:=zEv qP (fun s=>some (none,none,.tup [(ETy.pt yI).av (zGy s),zBW.av (zJ6 s)]))
theorem newRow:qL Tryz.prog 54 z8W:=⟨zAV fun s r h=>by
 cases h;refine zDL.out (qM (yN (fn:=[(93,zTV),(64,zHu),(77,zLw),(94,zCN)]) (fr:=[]) ⟨zZV,zMS,zLI,zES,trivial⟩ trivial) Tryz.func54 (by kernel_rfl) fun _ _=>z6E s.1 s.2) fun σ v h=> ?_;obtain ⟨vs,e,r⟩:=h
 match vs,r with
 | [a,b],r=>exact ⟨_,e,zY6 r.1,r.2.1,trivial⟩,_,Tryz.func54,by kernel_rfl,by kernel_rfl⟩
end S1
