/- A part of the proofs of the laws. -/
import Derived.Test.YtlhoihabllompaaGreatB2ptoY7
import Derived.Test.YtlhoihabllompaaGreatH2toB8p
import Derived.Test.YtlhoihabllompaaGreatW2toB1p
set_option linter.unusedSimpArgs false
set_option linter.unusedVariables false
set_option maxHeartbeats 8000000
set_option maxRecDepth 100000
open Go.Proofs.Tryz
open Go Go.Vm Go.Proofs
namespace S1
theorem zfO {l:List Int} {n:Int} (hn:l.Nodup) (h: ∀ v∈l,0<=v/\v<n):l.length<=n.toNat:=by
 have:=zBx l ((List.range n.toNat).map fun v=>((v:Nat):Int)) hn fun v hv=>yC.2 ⟨v.toNat,zV.2 (by have:=h v hv;omega),by have:=h v hv;omega⟩;rwa [yV,zAD] at this
def ownS (c:Nat->Nat):Nat->Nat
 | 0=>0
 | j+1=>ownS c j+c j
theorem zeb (a b:Nat->Nat): ∀ p,ownS (fun i=>a i+b i) p=ownS a p+ownS b p
 | 0=>rfl
 | p+1=>by
   show ownS _ p+(a p+b p)=(ownS a p+a p)+(ownS b p+b p);rw [zeb a b p];omega
theorem ze5 {c:Nat->Nat} : ∀ {p:Nat},(∀ i,i<p->c i=0)->ownS c p=0
 | 0,_=>rfl
 | p+1,h=>by
   show ownS c p+c p=0;rw [ze5 fun i hi=>h i (by omega),h p (by omega)]
theorem zf9 {b:Nat->Bool} : ∀ {p:Nat},(∀ i j,i<p->j<p->b i=true->b j=true->i=j)->ownS (fun i=>if b i=true then 1 else 0) p<=1
 | 0,_=>zbH _
 | p + 1,h=>by
   show ownS _ p+(if b p=true then 1 else 0)<=1
   by_cases k:b p=true
   ·have e:ownS (fun i=>if b i=true then 1 else 0) p=0:=ze5 fun i hi=>if_neg fun q=>by
     have:=h i p (by omega) (by omega) q k;omega
    rw [if_pos k,e];exact zI _
   ·rw [if_neg k];exact zf9 fun i j hi hj=>h i j (by omega) (by omega)
section
variable {x:yI.T}
theorem ze9 (g:Full x) {es:List (Int×Int)} {v:Int} {p:Nat} {u:Nat->Int} (hu: ∀ j,bE x (u (j+1)) (u j)) (h0:u p=v) (hl: ∀ j,1<=j->j<p->u j≠v) :
 ∀ (r j f:Nat),j+r=p->1<=r->r<=f->lpF x.1.2 v es f (u j) j (ownS (fun i=>zdz es (u i) (u (i+1)) es.length) j)=(p,ownS (fun i=>zdz es (u i) (u (i+1)) es.length) p)
 | 0,j,f,h1,h2,h3=>by omega
 | r+1,j,0,h1,h2,h3=>by omega
 | r +1,j,f+1,h1,h2,h3=>by
   have ea:zde x.1.2 (u j)=u (j+1):=zds g (hu j)
   by_cases e:j+1=p
   ·rw [zfj (by rw [ea,e,h0]),ea,<- e];rfl
   ·rw [zfo (by rw [ea];exact hl _ (by omega) (by omega)),ea];exact ze9 g hu h0 hl r (j+1) f (by omega) (by omega) (by omega)
open Classical in
theorem room (g:Full x) (hs:jV (InN x.1.1) x.1.2) {es:List (Int×Int)} (hf: ∀ e∈es,zBN x.1.2 e.1 e.2) (hp:es.Pairwise fun e f=>zAS x.1.2 e.1 e.2 f.1 f.2) {e:Int×Int} (he:e∈es) (hb:zJJ x e) :
 (3:Int)<=(ze1 x.1.2 x.1.1.toNat e.1 es).1 - (ze1 x.1.2 x.1.1.toNat e.1 es).2:=by
 have hv: ∃ w,bE x w e.1:=by
  rcases hb with k|k
  ·exact zCo g k
  ·exact ⟨_,k⟩
 have hL:=z5l g hv;have hself:=zXO g hv;obtain ⟨p,p0,e0,hl,eL⟩:=zPt g hv;obtain ⟨u,hu⟩: ∃ u:Nat->Int,u=fun j=>iter (nx x) e.1 j:=⟨_,rfl⟩;have u0:u 0=e.1:=by rw [hu];rfl
 have hstep: ∀ j,bE x (u (j+1)) (u j):=fun j=>by
  obtain ⟨w,hw⟩:=zHl g hv j;rw [hu];show bE x (nxt (zBm (some x)) (iter (nx x) e.1 j)) (iter (nx x) e.1 j);have:nxt (zBm (some x)) (iter (nx x) e.1 j)=w:=zDd g hw;rw [this];exact hw
 have hlen:(zA7 (some x) e.1).length=p:=by rw [eL,yV,zAD]
 have hget: ∀ i,i<p->(zA7 (some x) e.1).getD i 0=u i:=fun i hi=>by rw [eL,hu];exact zRs hi
 have hmem: ∀ i,i<p->u i∈zA7 (some x) e.1:=fun i hi=>by rw [<- hget i hi];exact getD_in (by rw [hlen];exact hi)
 have hinj: ∀ i j,i<p->j<p->u i=u j->i=j:=fun i j hi hj q=>by
  have hn:=hL.nd;rw [<- hget i hi,<- hget j hj,zR,zR,zG (by rw [hlen];exact hi),zG (by rw [hlen];exact hj)] at q;exact (List.getElem_inj hn).1 q
 have hpN:p<=x.1.1.toNat:=by
  rw [<- hlen];refine zfO hL.nd fun w hw=> ?_;obtain ⟨z,hz⟩:=hL.bord hw;exact (zJf g hz).2.1
 have hlop:ze1 x.1.2 x.1.1.toNat e.1 es=(p,ownS (fun i=>zdz es (u i) (u (i+1)) es.length) p):=by
  have:=ze9 g (es:=es) (v:=e.1) hstep (by rw [hu];first|done|exact e0) (fun j h1 h2=>by rw [hu];exact hl j h1 h2) p 0 x.1.1.toNat (by omega) p0 hpN;rw [u0] at this;exact this
 rw [hlop]
 let P:Int×Int->Bool:=fun d=>decide (zJJ x d/\d.1∈zA7 (some x) e.1)
 have one: ∀ d:Int×Int,ownS (fun i=>if isE d (u i) (u (i+1))=true then 1 else 0) p<=if P d=true then 1 else 0:=fun d=>by
  by_cases k:P d=true
  ·rw [if_pos k];refine zf9 fun i j hi hj a b=> ?_;rcases zdn.1 a with ⟨a1,a2⟩|⟨a1,a2⟩<;>rcases zdn.1 b with ⟨b1,b2⟩|⟨b1,b2⟩
   ·exact hinj i j hi hj (a1.symm.trans b1)
   ·have k1:=hstep i;have k2:=hstep j;rw [<- a1,<- a2] at k1;rw [<- b1,<- b2] at k2;exact absurd k2 (z6l g k1)
   ·have k1:=hstep i;have k2:=hstep j;rw [<- a1,<- a2] at k1;rw [<- b1,<- b2] at k2;exact absurd k2 (z6l g k1)
   ·exact hinj i j hi hj (a2.symm.trans b2)
  ·rw [if_neg k,ze5 fun i hi=>if_neg fun a=>k ?_]
   ·exact zI _
   ·refine decide_eq_true ?_;rcases zdn.1 a with ⟨a1,a2⟩|⟨a1,a2⟩
    ·refine ⟨.inr ?_,?_⟩
     ·rw [a1,a2];exact hstep i
     ·rw [a1];exact hmem i hi
    ·refine ⟨.inl ?_,?_⟩
     ·rw [a1,a2];exact hstep i
     ·rw [a1];have:u (i+1)=nx x (u i):=by rw [hu];rfl
      rw [this];exact hL.next g (hmem i hi)
 have cnt: ∀ k,k<=es.length->ownS (fun i=>zdz es (u i) (u (i+1)) k) p<=((es.take k).filter P).length:=fun k=>by
  induction k with
  | zero =>
    intro _;rw [ze5 fun i _=>by unfold zdz;rfl];exact zbH _
  | succ k ih =>
    intro hk;have ih:=ih (by omega);have e1:(fun i=>zdz es (u i) (u (i+1)) (k+1))=fun i=>zdz es (u i) (u (i+1)) k+if isE (es.getD k (0,0)) (u i) (u (i+1))=true then 1 else 0:=by funext i;exact zfN es _ _ k
    rw [e1,zeb,yB (by omega),zbx,zN];have e2:es.getD k (0,0)=es[k]:=by rw [zR,zG (by omega)];rfl
    have h2:=one (es.getD k (0,0));rw [e2] at h2 ⊢
    have e3:([es[k]].filter P).length=if P es[k]=true then 1 else 0:=by
     by_cases q:P es[k]=true
     ·rw [if_pos q,zbP q];rfl
     ·rw [if_neg q,zb3 q];rfl
    rw [e3];omega
 have hc:=cnt es.length (zI _);rw [zbK] at hc;obtain ⟨l1,l2,rfl⟩:=List.append_of_mem he;have hPe:P e=true:=decide_eq_true ⟨hb,hself⟩
 have hlP:((l1++e::l2).filter P).length=(l1.filter P).length+((l2.filter P).length+1):=by
  rw [zbx,zbP hPe,zN,yA]
 rw [hlP] at hc;obtain ⟨q1,q2,q3⟩:=List.pairwise_append.1 hp;obtain ⟨q4,q5⟩:=List.pairwise_cons.1 q2
 have hbud:=z7b g hs hL hb (hf e (by simp)) hself (D:=l1.filter P++l2.filter P) (fun d hd=>by
  have hd':(d∈l1\/d∈l2)/\P d=true:=by
   rcases yD.1 hd with k|k
   ·exact ⟨.inl (zb5.1 k).1,(zb5.1 k).2⟩
   ·exact ⟨.inr (zb5.1 k).1,(zb5.1 k).2⟩
  have hP:=of_decide_eq_true hd'.2
  exact ⟨hP.1,hf d (by rcases hd'.1 with k|k<;>simp [k]),hP.2⟩)
  (List.pairwise_append.2 ⟨q1.sublist List.filter_sublist,q5.sublist List.filter_sublist,fun a ha b hb=>q3 a (zb5.1 ha).1 b (zQ _ (zb5.1 hb).1)⟩)
  (fun d hd=>by
    rcases yD.1 hd with k|k
    ·exact q3 d (zb5.1 k).1 e (zY ..)
    ·exact zTO (q4 d (zb5.1 k).1))
 rw [zN,hlen] at hbud;show (3:Int)<=(p:Int) - (ownS _ p:Nat);omega
end
theorem zeV {es:List (Int×Int)} {i:Nat} (h:i<es.length):eAt es i∈es:=by
 unfold eAt;rw [zR,zG h];exact yQ _
theorem zep {s:Int×List P3} (hs:zBK s) {es:List (Int×Int)} :isI s.2 s.1.toNat es=true↔zFG s es:=by
 obtain ⟨g,hm⟩:=zV8 hs;have ex:(zAa s).1=s:=(zAu hs).2.2
 have hfr: ∀ {e:Int×Int},zdo s.2 s.1.toNat e=true↔zBN s.2 e.1 e.2:=fun {e} =>by
  have:=zfg g hm (e:=e);rw [ex] at this;exact this
 have hap: ∀ {a b:Int×Int},apI s.2 a b=true↔zdI s.2 a=true/\zdI s.2 b=true/\zAS s.2 a.1 a.2 b.1 b.2:=fun {a b} =>by
  unfold apI;rw [zC,zC,zPn]
 unfold isI;rw [zeR];constructor
 ·intro h
  have h1: ∀ i,i<es.length->zBN s.2 (eAt es i).1 (eAt es i).2/\∀ j,j<i->zAS s.2 (eAt es i).1 (eAt es i).2 (eAt es j).1 (eAt es j).2:=fun i hi=>by
   have:=h i hi;unfold okI at this;rw [zC,zC,hfr,zeC] at this;exact ⟨this.1,fun j hj=>(hap.1 (this.2.1 j hj)).2.2⟩
  refine ⟨hs,fun e he=> ?_,List.pairwise_iff_getElem.2 fun i j hi hj hij=> ?_⟩
  ·obtain ⟨i,hi,e1⟩:=yG.1 he;have:=(h1 i hi).1;unfold eAt at this;rw [zR,zG hi] at this;rw [<- e1];exact this
  ·have:=zTO ((h1 j hj).2 i hij);unfold eAt at this;rw [zR,zG hi,zR,zG hj] at this;exact this
 ·intro h i hi;have hfi:=h.free _ (zeV hi);have hed: ∀ {e:Int×Int},zBN s.2 e.1 e.2->zdI s.2 e=true:=fun f=>zea.2 ⟨f.ne,f.near⟩;unfold okI;rw [zC,zC,hfr,zeC];refine ⟨hfi,fun j hj=>hap.2 ⟨hed hfi,hed (h.free _ (zeV (by omega))),?_⟩,?_⟩
  ·have:=List.pairwise_iff_getElem.1 h.apart j i (by omega) hi hj;have e1:eAt es i=es[i]:=by unfold eAt;rw [zR,zG hi];rfl
   have e2:eAt es j=es[j]:=by unfold eAt;rw [zR,zG (by omega)];rfl
   rw [e1,e2];exact zTO this
  ·unfold rmI;rw [zbA,zbB,zP]
   by_cases hb:zdv s.2 (eAt es i)=true
   ·right;obtain ⟨t,ht,t1,t2⟩:=hfi.near;have r1:InN s.1 (eAt es i).1:=(zAc hs).ent t ht _ t1;have r2:InN s.1 (eAt es i).2:=(zAc hs).ent t ht _ t2;have hbe:zJJ (zAa s) (eAt es i):=(zfR g r1.1 r2.1).1 (by rw [ex];exact hb);have:=room g hm (es:=es) (by rw [ex];exact h.free) (by rw [ex];exact h.apart) (zeV hi) hbe;rw [ex] at this;exact this
   ·left;rw [<- zbV];exact hb
theorem zfd {s:Int×List P3} (hs:zBK s) (es:List (Int×Int)): ∀ i,chI s.2 s.1.toNat es i=chK (zAa s) es i
 | 0=>by unfold chI chK;rfl
 | i +1=>by
   rw [zfm,zfd hs es i]
   have h:isI s.2 s.1.toNat (chK (zAa s) es i++[eAt es i])=true↔okE (zAa s) (chK (zAa s) es i) (es.getD i (0,0))=true:=by
    rw [zep hs,<- zGf hs];exact zas hs
   by_cases c:okE (zAa s) (chK (zAa s) es i) (es.getD i (0,0))=true
   ·rw [if_pos (h.2 c),zNJ c];rfl
   ·rw [if_neg fun q=>c (h.1 q),zZW c]
end S1
namespace S1
def shT (k:Int) (t:P3):P3:=(t.1+k,t.2.1+k,t.2.2+k)
end S1
namespace S1
def jnN (L:List (Int×List P3)):Nat->Int
 | 0=>0
 | i+1=>jnN L i+(L.getD i (0,[])).1
def jnT (L:List (Int×List P3)):Nat->List P3
 | 0=>[]
 | i+1=>jnT L i++(L.getD i (0,[])).2.map (shT (jnN L i))
def jnK (L:List (Int×List P3)) (i k:Nat):List P3:=jnT L i++((L.getD i (0,[])).2.take k).map (shT (jnN L i))
attribute [local irreducible] jnN jnT jnK
end S1
namespace S1
theorem zcG {s:SoT} {l:EdB} (h:zC9 s l=false):s.2.length<=30/\s.1<=100/\l.length<=12:=by
 unfold zC9 at h;rw [Bool.or_eq_false_iff,Bool.or_eq_false_iff,yM,yM,yM] at h;omega
section
variable {x:yI.T}
theorem zcL (g:Full x) {e f:Int×Int} :apB x e f=true↔zAQ x e.1 e.2=true/\zAQ x f.1 f.2=true/\zAS x.1.2 e.1 e.2 f.1 f.2:=by
 unfold apB;rw [zC,zC,zW3 g]
end
attribute [local irreducible] zAa isR zC9 apB edS zdI jnN jnT
end S1
namespace S1
def zfQ (a b:List (Int×Int)):Spec Nat where
 inv i:=i<=a.length/\∀ j,j<i->a.getD j (0,0)=b.getD j (0,0)
 live i:=[(5,.s (.int .i64 i))]
 keep:=[0,1]
 heap _:=[]
 keepH:=[]
 mu i:=a.length - i
theorem zfZ {fn} (a b:List (Int×Int)):zAG ⟨tyL,fn,[]⟩ Tryz.f21 [(ETy.sl .arr2).av a,(ETy.sl .arr2).av b] (fun r=>r= .s (.bool (decide (a=b)))):=by
 repeat' (conv=>whnf
          first|done|refine qy ?_|refine qG fun _=> ?_|refine qw (fun _=> ?_) (fun _=> ?_)|apply qt|refine qi (fun _=> ?_) (fun _=> ?_)|(refine zaB 4 rfl (zfQ a b) (0) ?_ ?_ ?_ fun i hi=> ?_)|with_reducible refine zaA (zfQ _ _) (i+1) ?_ ?_ ?_ ?_|refine qu ?_|refine qv ?_ ?_|exact zO)
 all_goals try first|refine qz ?_|apply qz5
 all_goals try simp only [qn0,z7,zX,ETy.dflt,Int.reduceToNat,Int.reduceAdd,Int.reduceSub,Int.reduceNeg,Nat.reduceAdd,zfQ] at *
 all_goals try (refine yJ.intro ?_;omega)
 all_goals try exact yJ.intro ⟨zbH _,fun j hj=>absurd hj (Nat.not_lt_zero _)⟩
 all_goals try exact yJ.intro ⟨by omega,zd7 hi.2 (Prod.ext (by assumption) (by assumption))⟩
 ·rw [decide_eq_false (fun e=>by subst e;contradiction)]
 ·rw [decide_eq_false (fun e=>by subst e;contradiction)]
 ·rw [decide_eq_false (fun e=>by subst e;contradiction)]
 ·have el:a.length=b.length:=by omega
  rw [decide_eq_true];refine List.ext_getElem el fun j h1 h2=> ?_;have:=hi.2 j (by omega);rw [zR,zR,zG h1,zG h2] at this;exact this
def zfb:List AV->Option Res:=zCr (.sl .arr2) (.sl .arr2) (fun a b=>some (none,none,.s (.bool (decide (a=b)))))
theorem zf1:qM prog 21 zfb:=mkR (jD fun a b r h=>by cases h;exact fb (fn:=[]) trivial func21 fun _ _=>zfZ a b) func21
theorem zfk {s:SoT} (hs:zBK s) (e f:Int×Int):apB (zAa s) e f=apI s.2 e f:=by
 obtain ⟨g,hm⟩:=zV8 hs;have ex:(zAa s).1=s:=(zAu hs).2.2
 have hn: ∀ {e:Int×Int},zAQ (zAa s) e.1 e.2=true↔zdI s.2 e=true:=fun {e} =>by
  rw [<- zeH g hm,ex];unfold zdI;rw [zC,zP];exact ⟨fun h=>⟨(zeG (zAc hs) h).1,h⟩,fun h=>h.2⟩
 rw [Bool.eq_iff_iff,zcL g,hn,hn,ex];unfold apI;rw [zC,zC,zPn]
def zeh (l:List (Int×Int)):Spec Nat where
 inv i:=i<=l.length
 live i:=[(6,.s (.int .i64 i))]
 keep:=[1,2,5]
 heap _:=[]
 keepH:=[0]
 mu i:=l.length - i
attribute [local irreducible] zAa isR zC9 apB apI zMj isI zAh chI
theorem lawBI_vc (n:Int) (l:List P3) (es:List (Int×Int)):zAG ⟨tyL,[(13,zLd),(14,zLm),(15,z42),(16,z7U),(17,zPe),(18,zeA),(19,z7L),(20,zfe),(22,zFe),(23,zeK),(21,zfb)],[]⟩ Tryz.f3 [qP.av (n,l),(ETy.sl .arr2).av es] (fun r=>r= .s (.bool true)):=by
 repeat' (conv=>whnf
          first|done|refine qy ?_|refine qG fun _=> ?_|refine qw (fun _=> ?_) (fun _=> ?_)|apply qt|refine qi (fun _=> ?_) (fun _=> ?_)|(refine zaB 7 rfl (zeh es) (0) ?_ ?_ ?_ fun i hi=> ?_)|with_reducible refine zaA (zeh _) (i+1) ?_ ?_ ?_ ?_|refine qu ?_|refine qv ?_ ?_|exact zO)
 all_goals try first|refine qz ?_|apply qz5
 all_goals try simp only [qn0,z7,zX,ETy.dflt,Int.reduceToNat,Int.reduceAdd,Int.reduceSub,Int.reduceNeg,Nat.reduceAdd,zeh] at *
 all_goals have hg36:=zcG (show zC9 (n,l) es=false by assumption)
 all_goals have hl30:l.length<=30:=hg36.1
 all_goals have hn100:n<=100:=hg36.2.1
 all_goals have hes:List.length es<=12:=hg36.2.2
 all_goals have hs:zBK (n,l):=(zB4 (n,l)).1 (by assumption)
 all_goals have hn0:0<=n:=hs.fit.1
 all_goals try (refine yJ.intro ?_;omega)
 all_goals try exact absurd (zfk hs (es.getD 0 (0,0)) (es.getD i (0,0))) (by assumption)
 all_goals have his:zMj (some (zAa (n,l))) es=isI l n.toNat es:=by
            rw [Bool.eq_iff_iff,zGf hs];exact (zep (s:=(n,l)) hs).symm
 all_goals try exact absurd his (by assumption)
 all_goals try first
  | exact yJ.intro ⟨hs,by omega⟩
  | exact yJ.intro (fun y h=>by cases h;exact (zV8 hs).1.toGood)
  | exact yJ.intro ⟨fun y h=>by cases h;exact zV8 hs,by omega⟩
  | exact yJ.intro ⟨by omega,hn0,by omega,by omega⟩
 all_goals
  rw [decide_eq_true];rw [show chI l n.toNat es es.length=chK (zAa (n,l)) es es.length from zfd (s:=(n,l)) hs es _];unfold zAh;rfl
def lawBIC:List AV->Option Res:=zCr qP (.sl .arr2) (fun _ _=>some (none,none,.s (.bool true)))
theorem lawBIRow:qM prog 3 lawBIC:=mkR (jD fun s es r h=>by cases h;exact fb (by exact ⟨zTA,zSf,z4t,z1t,zWl,zdx,z2S,zej,zI8,zeZ,zf1,trivial⟩) func3 fun _ _=>lawBI_vc s.1 s.2 es) func3
end S1
