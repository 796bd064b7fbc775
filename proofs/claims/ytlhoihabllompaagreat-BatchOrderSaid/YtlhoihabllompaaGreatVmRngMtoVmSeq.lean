/- A part of the proofs of the laws. -/
import Derived.Test.YtlhoihabllompaaGreatT12toVmRng
import Derived.Maps.RangeRun
import Derived.Scope
set_option linter.unusedSimpArgs false
set_option linter.unusedVariables false
set_option maxHeartbeats 8000000
set_option maxRecDepth 100000
/- A range over a map: its entries, each once, in whatever order. -/
namespace Go.Vm
open Go.RowKit
open Go.ChangeMaps (setBlock)
structure RM where
 front:List Oper
 it:Tmp
 ty:TypeId
 x:Operand
 full:Array Oper
 bl:Nat
 tn:Tmp
 tk:Tmp
 c:Nat
 te:Tmp
 fullC:Array Oper
 backC:List Oper
 rest:Code
def zFp:List Oper->Option (List Oper×Oper)
 | []=>none
 | [o]=>some ([],o)
 | o::r=>match zFp r with
   | some (l,q)=>some (o::l,q)
   | none=>none
def zQ2:Oper->Option (Tmp×TypeId×Operand)
 | ⟨some it,.range ty x,_,_,_,none⟩=>some (it,ty,x)
 | _=>none
def zTd:Oper->Option (Tmp×Tmp)
 | ⟨some tn,.next (.tmp it) false,_,_,_,none⟩=>some (tn,it)
 | _=>none
def zWv:Oper->Option (Tmp×Tmp)
 | ⟨some tk,.extract (.tmp tn) 0,_,_,_,none⟩=>some (tk,tn)
 | _=>none
def zQ4:Oper->Option (Tmp×Tmp)
 | ⟨some te,.entry (.tmp it),_,_,_,none⟩=>some (te,it)
 | _=>none
def z1q (it it1 it2 tn tn2 t tk te bl bl':Nat):Bool :=
 Nat.beq it1 it&&(Nat.beq it2 it&&(Nat.beq tn2 tn&&(Nat.beq t tk&&(Nat.beq bl' bl&&(!Nat.beq tn it&&(!Nat.beq tk it&&(!Nat.beq te it&& !Nat.beq tk tn)))))))
def z7y (bl:Nat) (opsB:List Oper) (t bl' c:Nat) (fullC:Array Oper) (rest:Code) (a:Code):Option RM :=
 match opsB,fullC.toList,a with
 | [o1,o2],eo::backC,.region _ full false=>match zTd o1,zWv o2,zQ4 eo,zFp full.toList with
   | some (tn,it1),some (tk,tn2),some (te,it2),some (front,ro)=>match zQ2 ro with
     | some (it,ty,x)=>match z1q it it1 it2 tn tn2 t tk te bl bl' with
       | true=>some ⟨front,it,ty,x,full,bl,tn,tk,c,te,fullC,backC,rest⟩
       | false=>none
     | none=>none
   | _,_,_,_=>none
 | _,_,_=>none
def z1B (a b:Code):Option RM :=
 match b with
 | .block bl (.loop (.seq (.region _ opsB false) (.seq (.cond (.tmp t) .skip (.exit bl')) (.block c (.seq (.region _ fullC false) rest)))))=>z7y bl opsB.toList t bl' c fullC rest a
 | _=>none
structure z9v (a b:Code) (r:RM):Prop where
 ex: ∃ (ro o1 o2 eo:Oper) (idA idB idC:Nat) (opsB:Array Oper),a= .region idA r.full false/\r.full.toList=r.front++[ro]/\(ro.dst=some r.it/\ro.op= .range r.ty r.x/\ro.guard=none)/\
  b= .block r.bl (.loop (.seq (.region idB opsB false) (.seq (.cond (.tmp r.tk) .skip (.exit r.bl)) (.block r.c (.seq (.region idC r.fullC false) r.rest)))))/\opsB.toList=[o1,o2]/\
  (o1.dst=some r.tn/\o1.op= .next (.tmp r.it) false/\o1.guard=none)/\(o2.dst=some r.tk/\o2.op= .extract (.tmp r.tn) 0/\o2.guard=none)/\
  r.fullC.toList=eo::r.backC/\(eo.dst=some r.te/\eo.op= .entry (.tmp r.it)/\eo.guard=none)
 n1:r.tn≠r.it
 n2:r.tk≠r.it
 n3:r.te≠r.it
 n4:r.tk≠r.tn
theorem zHX: ∀ {l f:List Oper} {o:Oper},zFp l=some (f,o)->l=f++[o]
 | [],_,_,h=>by cases h
 | [q],_,_,h=>by cases h;rfl
 | q ::q2::r,f,o,h=>by
   simp only [zFp] at h;split at h
   ·rename_i l q' e;cases h;rw [zHX e];rfl
   ·cases h
theorem zTJ {o:Oper} {it:Tmp} {ty:TypeId} {x:Operand} (h:zQ2 o=some (it,ty,x)):o.dst=some it/\o.op= .range ty x/\o.guard=none:=by
 unfold zQ2 at h;split at h<;>cases h;exact ⟨rfl,rfl,rfl⟩
theorem zXm {o:Oper} {tn it:Tmp} (h:zTd o=some (tn,it)):o.dst=some tn/\o.op= .next (.tmp it) false/\o.guard=none:=by
 unfold zTd at h;split at h<;>cases h;exact ⟨rfl,rfl,rfl⟩
theorem zUD {o:Oper} {tk tn:Tmp} (h:zWv o=some (tk,tn)):o.dst=some tk/\o.op= .extract (.tmp tn) 0/\o.guard=none:=by
 unfold zWv at h;split at h<;>cases h;exact ⟨rfl,rfl,rfl⟩
theorem zSk {o:Oper} {te it:Tmp} (h:zQ4 o=some (te,it)):o.dst=some te/\o.op= .entry (.tmp it)/\o.guard=none:=by
 unfold zQ4 at h;split at h<;>cases h;exact ⟨rfl,rfl,rfl⟩
theorem z4F {a b:Code} {r:RM} (h:z1B a b=some r):z9v a b r:=by
 unfold z1B at h;split at h
 case h_2=>cases h
 rename_i bl idB opsB t bl' c idC fullC rest;unfold z7y at h;split at h
 case h_2=>cases h
 rename_i o1 o2 eo backC idA full hoB hfC;split at h
 case h_2=>cases h
 rename_i tn it1 tk tn2 te it2 front ro e1 e2 e3 e4;split at h
 case h_2=>cases h
 rename_i it ty x e5;split at h
 case h_2=>cases h
 rename_i hc;cases h;unfold z1q at hc;simp only [zC,Bool.not_eq_true',Nat.beq_eq] at hc;obtain ⟨rfl,rfl,rfl,rfl,rfl,h1,h2,h3,h4⟩:=hc;have nb: ∀ {p q:Nat},Nat.beq p q=false->p≠q:=fun h e=>by subst e;rw [Nat.beq_refl] at h;cases h
 exact ⟨⟨ro,o1,o2,eo,idA,idB,idC,opsB,rfl,zHX e4,zTJ e5,rfl,hoB,zXm e1,zUD e2,hfC,zSk e3⟩,nb h1,nb h2,nb h3,nb h4⟩
abbrev IBM:=List ((ETy.int .i64).T×ETy.bool.T)
def itV (r:Nat):AV:= .s (.val (.pointer (some ⟨r,0,none⟩)))
def zT8 (R:RM) (SP:Spec IBM) (st:St) (pre:IBM) (K:Exit->St->Prop):Exit->St->Prop
 | .normal,s=>SP.inv pre/\zOs s (SP.head st pre)
 | .exit i,s=>match Nat.beq i R.c with
   | true=>SP.inv pre/\zOs s (SP.head st pre)
   | false=>match Nat.beq i R.bl with
     | true=>K .normal s
     | false=>K (.exit i) s
 | e,s=>K e s
structure z8H (it:Nat) (p:Prop):Prop where
 intro::(out:p)
def zSO (T:Tab) (R:RM) (m:IBM) (st:St) (r:Nat) (K:Exit->St->Prop):Prop :=
 (st.put (some R.it) (itV r)).forceAll fun st=>z8H R.it (∃ SP:Spec IBM,(SP.inv []/\zOs st (SP.head st []))/\
   (∀ pre e,(SP.inv pre/\pre.Nodup/\(∀ p∈pre,p∈m)/\e∈m/\e∉pre)->yZ (SP.head st pre).env R.it=itV r/\
     ((((SP.head st pre).put (some R.tn) (.s .junk)).put (some R.tk) (.s (.bool true))).put (some R.te) (.tup [.s (.int .i64 e.1),.s (.bool e.2)])).forceAll fun h =>
       zAN T false R.fullC R.backC h fun s=>zA8 T R.rest s (zT8 R SP st (pre++[e]) K))/\
   (∀ pre,(SP.inv pre/\pre.Nodup/\∀ p,p∈pre↔p∈m)->yZ (SP.head st pre).env R.it=itV r/\
     (((SP.head st pre).put (some R.tn) (.s .junk)).put (some R.tk) (.s (.bool false))).forceAll (K .normal)))
def z9J (T:Tab) (R:RM) (st:St) (K:Exit->St->Prop):Prop :=
 zAN T false R.full R.front st fun st=>match T.desc R.ty,y7 st.env R.x with
  | .map _ _,.s (.mp (.int .i64) .bool m)=> ∀ r:Nat,zSO T R m st r K
  | _,_=>False
section
variable {P:Program} {T:Tab} {B:Base} {w w':World} {σ τ:Sig} {β:yR} {st:St} {tmps:Array Value} {N:Nat} {a:Act}
theorem zPp {l:Nat} {o:Obj} (h:w.heap[l]? =some o):w.putObj l o=w:=by
 unfold World.putObj
 have:w.heap.setIfInBounds l o=w.heap:=by
  apply Array.ext_getElem?;intro i;rw [Array.getElem?_setIfInBounds];split
  ·rename_i e;subst e;obtain ⟨hl,e⟩:=zW.1 h;rw [if_pos hl];exact h.symm
  ·rfl
 rw [this]
theorem GG.drewW (h:GG B σ β st tmps w):GG B σ β st tmps w.drew:=h.grown (Below.drew (Below.refl _ _))
structure zFu (l b:Nat) (m:IBM) (es:Array MapEntry) (clock:Nat) (seen:Array Nat) (pre:IBM):Prop where
 nd:pre.Nodup
 sub: ∀ p∈pre,p∈m
 iff: ∀ (i:Nat) (x:(ETy.int .i64).T×ETy.bool.T) (en:MapEntry),m[i]? =some x->es[i]? =some en->(seen.contains en.born=true↔x∈pre)
theorem zFu.step {l b:Nat} {m:IBM} {es:Array MapEntry} {clock:Nat} {seen:Array Nat} {pre:IBM} (h:zFu l b m es clock seen pre) (hn:(m.map (·.1)).Nodup) (hs:es.size=m.length) (hst:MapKept.Stamped es clock) {en:MapEntry} (he:en∈(leftOf es seen).toList) :
 ∃ (i:Nat) (x:(ETy.int .i64).T×ETy.bool.T),m[i]? =some x/\es[i]? =some en/\x∈m/\x∉pre/\zFu l b m es clock (seen.push en.born) (pre++[x]):=by
 obtain ⟨h1,h2⟩:=mem_left he;obtain ⟨i,hi,e⟩:=yG.1 h1;have hi':i<es.size:=by simpa using hi
 have ei:es[i]? =some en:=by rw [<- zM,zG hi,e]
 have him:i<m.length:=by omega
 have em:m[i]? =some m[i]:=zG him;have hx:m[i]∉pre:=fun k=>by rw [(h.iff i _ _ em ei).2 k] at h2;cases h2
 refine ⟨i,m[i],em,ei,yQ him,hx,?_,?_,?_⟩
 ·rw [List.nodup_append];exact ⟨h.nd,by simp,fun p hp q hq e=>by rw [zF] at hq;subst hq;subst e;exact hx hp⟩
 ·intro p hp;rcases yD.1 hp with k|k
  ·exact h.sub p k
  ·rw [zF.1 k];exact yQ him
 ·intro j y en' ej ej';rw [contains_push,Bool.or_eq_true,h.iff j y en' ej ej',yD,zF,beq_iff_eq];refine or_congr Iff.rfl ⟨fun k=> ?_,fun k=> ?_⟩
  ·have:=born_inj hst.2.1 (List.mem_of_getElem? (by rw [zM];exact ej')) h1 k;subst this;have hj:j<es.toList.length:=(zK.1 (show es.toList[j]? =some en' by rw [zM];exact ej')).1;have nd:es.toList.Nodup:=(List.Pairwise.of_map (S:=(·≠·)) (·.born) (fun _ _ h e=>h (by rw [e])) hst.2.1)
   have hij:j=i:=(List.getElem_inj nd).1 (by
    have a1:=(zK.1 (show es.toList[j]? =some en' by rw [zM];exact ej')).2
    rw [a1,e])
   subst hij;rw [em] at ej;cases ej;rfl
  ·subst k;have nd:m.Nodup:=List.Pairwise.of_map (S:=(·≠·)) (·.1) (fun _ _ h e=>h (by rw [e])) hn;obtain ⟨hj,e2⟩:=zK.1 ej;have hij:j=i:=(List.getElem_inj nd).1 e2;subst hij;rw [ei] at ej';cases ej';rfl
theorem zFu.all {l b:Nat} {m:IBM} {es:Array MapEntry} {clock:Nat} {seen:Array Nat} {pre:IBM} (h:zFu l b m es clock seen pre) (hs:es.size=m.length) (h0:(leftOf es seen).size=0): ∀ p,p∈pre↔p∈m:=fun p=>by
 refine ⟨h.sub p,fun hp=> ?_⟩;obtain ⟨i,hi,rfl⟩:=yG.1 hp;have hi':i<es.size:=by omega
 refine (h.iff i _ _ (zG hi) (Array.getElem?_eq_getElem hi')).1 ?_;have he:leftOf es seen= #[]:=Array.eq_empty_of_size_eq_zero h0;unfold leftOf at he;rw [Array.filter_eq_empty_iff] at he;have:=he es[i] (Array.getElem_mem hi');simpa using this
theorem zUN {o1 o2:Oper} {it tn tk:Tmp} {l:Nat} {opsB:Array Oper} {vs:List Value} {k:Bool} {Q:Exit->Act->World->Prop} (h1:o1.dst=some tn/\o1.op= .next (.tmp it) false/\o1.guard=none) (h2:o2.dst=some tk/\o2.op= .extract (.tmp tn) 0/\o2.guard=none)
 (hit:a.eval (.tmp it)= .pointer (some ⟨l,0,none⟩)) (htn:tn<a.tmps.size) (hrun: ∀ ty,(Instr.next (.pointer (some ⟨l,0,none⟩)) false ty).run P w= .ok (.tuple (Value.bool k::vs).toArray) w')
 (hQ:Q .normal ((a.put (some tn) (.tuple (Value.bool k::vs).toArray)).put (some tk) (.bool k)) w'):wpListIn (FR none) 0 P opsB Q [o1,o2] a w:=by
 obtain ⟨a1,a2,a3⟩:=h1;obtain ⟨b1,b2,b3⟩:=h2;refine j5 a3 (zAd (v:= .tuple (Value.bool k::vs).toArray) (w':=w') (by rw [a2];intro c e;cases e) ?_ ?_)
 ·simp only [execOp,a2,hit];rw [Sem.run_bind,hrun];rfl
 ·rw [a1];refine j5 b3 (zAd (v:= .bool k) (w':=w') (by rw [b2];intro c e;cases e) ?_ ?_)
  ·have:(a.put (some tn) (.tuple (Value.bool k::vs).toArray)).eval (.tmp tn)= .tuple (Value.bool k::vs).toArray:=by
    simp [Act.eval,Act.put,htn]
   simp [execOp,b2,this,Instr.extract]
  ·rw [b1];exact hQ
theorem z3E (R:jM P T) {ca cb:Code} {r:RM} (hr:z1B ca cb=some r) (hA:codeOk N ca=true) (hB:codeOk N cb=true) (h:GA B N st a w) {K:Exit->St->Prop} (hk:z9J T r st K) {Q:Exit->Act->World->Prop}
 (hQ: ∀ e B1 st' a' w',B1.w=B.w->zTG B B1.sg->B1.dfs=B.dfs->K e st'->GA B1 N st' a' w'->Q e a' w'):(Code.seq ca cb).wpIn (FR none) 0 P Q a w:=by
 obtain ⟨⟨ro,o1,o2,eo,idA,idB,idC,opsB,rfl,hfull,⟨r1,r2,r3⟩,rfl,hopsB,hn1,hn2,hfC,⟨q1,q2,q3⟩⟩,d1,d2,d3,d4⟩:=z4F hr;simp only [codeOk,zC,zJ] at hA hB;have hAll:=hA.1;obtain ⟨hBop,⟨hcond,_⟩,hCop,hrest⟩:(∀ o∈opsB.toList,yT N o=true)/\(True/\True)/\(∀ o∈r.fullC.toList,yT N o=true)/\codeOk N r.rest=true:=⟨hB.1.1,⟨trivial,trivial⟩,hB.2.2.1.1,hB.2.2.2⟩;have hro:yT N ro=true:=hAll ro (by rw [hfull];simp);have h1ok:yT N o1=true:=hBop o1 (by rw [hopsB];simp)
 have h2ok:yT N o2=true:=hBop o2 (by rw [hopsB];simp);have heok:yT N eo=true:=hCop eo (by rw [hfC];simp);have hback: ∀ o∈r.backC,yT N o=true:=fun o ho=>hCop o (by rw [hfC];exact zQ _ ho)
 have bndOf: ∀ {o:Oper} {t:Tmp},yT N o=true->o.dst=some t->t<N:=fun {o t} ho hd=>by
  simp only [yT,hd,zC] at ho;have:t+1<=N:=by simpa [Nat.blt] using ho.1
  exact Nat.lt_of_succ_le this
 have htn:r.tn<N:=bndOf h1ok hn1.1;have htk:r.tk<N:=bndOf h2ok hn2.1;have hte:r.te<N:=bndOf heok q1;have hit:r.it<N:=bndOf hro r1;refine wpIn_seq (wpIn_region_list ?_);rw [hfull];refine zCe R [ro] r.front (fun o ho=>hAll o (by rw [hfull];exact List.mem_append_left _ ho)) h hk fun st1 a1 w1 hk1 h1=> ?_;split at hk1
 case h_2=>exact hk1.elim
 rename_i kt u m hdesc hx;obtain ⟨σ,β,hg⟩:=h1.gg
 have hxv:y6 σ β (y7 st1.env r.x) (a1.eval r.x):=jP hg (by
  simp only [yT,zC,zJ] at hro
  exact hro.2 _ (by simp [r2,Op.operands]))
 rw [hx] at hxv;obtain ⟨ro0,hxe,hnd,hnil,hat⟩:=hxv;have hxe:a1.eval r.x= .map ro0:=(List.cons.inj hxe).1
 have hund:P.underlying r.ty=some (.map kt u):=by
  unfold Tab.desc at hdesc;split at hdesc
  ·rename_i ti e;rw [(R.ty _ _ e).und,hdesc]
  ·cases hdesc
 -- what lies in the iterator's block
 have main: ∀ (o:Obj),zHY o=false->(Instr.range r.ty (.map ro0)).run P w1= .ok (.pointer (some ⟨w1.heap.size,0,none⟩)) (w1.alloc o)->
  (∀ (st2:St) (a2:Act) (w2:World) (B1:Base),B1.w=B.w->zTG B B1.sg->B1.dfs=B.dfs->σ.le B1.sg->B1.sg w1.heap.size=none->zSO T r m st1 w1.heap.size K->GA (B1.lock w1.heap.size o) N (st1.put (some r.it) (itV w1.heap.size)) a2 w2->(Code.block r.bl (.loop (.seq (.region idB opsB false) (.seq (.cond (.tmp r.tk) .skip (.exit r.bl)) (.block r.c (.seq (.region idC r.fullC false) r.rest)))))).wpIn (FR none) 0 P Q a2 w2)->
  wpListIn (FR none) 0 P r.full (Exit.then ((Code.block r.bl (.loop (.seq (.region idB opsB false) (.seq (.cond (.tmp r.tk) .skip (.exit r.bl)) (.block r.c (.seq (.region idC r.fullC false) r.rest)))))).wpIn (FR none) 0 P Q) Q) [ro] a1 w1:=by
  intro o hdo hrun hgo;refine j5 r3 (zAd (v:= .pointer (some ⟨w1.heap.size,0,none⟩)) (w':=w1.alloc o) (by rw [r2];intro c e;cases e) ?_ ?_)
  ·simp only [execOp,r2,hxe];rw [Sem.run_bind,hrun];rfl
  ·rw [r1]
   have hσ:σ w1.heap.size=none:=by
    cases e:σ w1.heap.size with
    | none=>rfl
    | some o=>exact absurd (hg.mem.ag.lt e) (Nat.lt_irrefl _)
   have g1:GG {w:=B.w,sg:=σ,dfs:=B.dfs} σ β st1 a1.tmps (w1.alloc o):=(hg.base B.dfs).grown ((Below.refl _ _).alloc (zI _) o);have g2:=g1.put (d:=some r.it) (a:=itV w1.heap.size) (v:= .pointer (some ⟨w1.heap.size,0,none⟩)) (fun t e=>by cases e;rw [h1.size];exact hit) ⟨rfl,fun cs e=>by cases e⟩;have g3:=g2.lock (l:=w1.heap.size) (o:=o) hg.bel.size (heap_alloc_new w1 o) hσ (fun id ob q hi hq e=>by have:=(hg.mem.ob _ _ hi).lt hq;omega)
   exact hgo (st1.put (some r.it) (itV w1.heap.size)) _ _ {w:=B.w,sg:=σ,dfs:=B.dfs} rfl hg.grew rfl (Sig.le.refl _) hσ (hk1 _) ⟨by rw [put_defers];exact h1.defers,by rw [jU,qU];exact h1.size,_,_,by rw [jU];exact g3⟩
 -- where the block is let go
 have letGo: ∀ {B1:Base} {o:Obj} {st':St} {a':Act} {w':World},B1.w=B.w->B1.sg w1.heap.size=none->zHY o=false->GA (B1.lock w1.heap.size o) N st' a' w'->GA B1 N st' a' w':=fun {B1 o st' a' w'} hw hn hdo h'=>by
  obtain ⟨σ',β',hg'⟩:=h'.gg;obtain ⟨_,hl,_⟩:=hg'.locked hdo;have:=(hg'.unlock hdo (by rw [hw];exact hg.bel.size) hn o).1;rw [zPp hl] at this;exact ⟨h'.defers,h'.size,_,_,this⟩
 have itEv: ∀ {B2:Base} {st':St} {a':Act} {w':World},GA B2 N st' a' w'->yZ st'.env r.it=itV w1.heap.size->a'.eval (.tmp r.it)= .pointer (some ⟨w1.heap.size,0,none⟩):=fun {B2 st' a' w'} h' e=>by
  obtain ⟨σ',β',hg'⟩:=h'.gg;have:=hg'.env r.it;rw [e] at this;exact this.1
 -- nothing is left
 have over: ∀ {B1:Base} {o:Obj} {SP:Spec IBM} {st2:St} {pre:IBM} {a':Act} {w':World} {Q2:Act->World->Prop},B1.w=B.w->zTG B B1.sg->B1.dfs=B.dfs->B1.sg w1.heap.size=none->zHY o=false->GA (B1.lock w1.heap.size o) N (SP.head st2 pre) a' w'->
  yZ (SP.head st2 pre).env r.it=itV w1.heap.size->K .normal (((SP.head st2 pre).put (some r.tn) (.s .junk)).put (some r.tk) (.s (.bool false)))->(∀ ty,(Instr.next (.pointer (some ⟨w1.heap.size,0,none⟩)) false ty).run P w'= .ok (.tuple #[.bool false]) w')->
  (Code.seq (.region idB opsB false) (.seq (.cond (.tmp r.tk) .skip (.exit r.bl)) (.block r.c (.seq (.region idC r.fullC false) r.rest)))).wpIn (FR none) 0 P (Exit.then Q2 (Exit.inBlock r.bl Q)) a' w':=by
  intro B1 o SP st2 pre a' w' Q2 hw hgr hdf hn hdo h' hi hK hrun
  have hga:GA (B1.lock w1.heap.size o) N (((SP.head st2 pre).put (some r.tn) (.s .junk)).put (some r.tk) (.s (.bool false))) ((a'.put (some r.tn) (.tuple #[.bool false])).put (some r.tk) (.bool false)) w':=by
   obtain ⟨σ',β',hg'⟩:=h'.gg;have p1:=hg'.put (d:=some r.tn) (a:= .s .junk) (v:= .tuple #[.bool false]) (fun t e=>by cases e;rw [h'.size];exact htn) trivial;have p2:=p1.put (d:=some r.tk) (a:= .s (.bool false)) (v:= .bool false) (fun t e=>by cases e;rw [qU,h'.size];exact htk) rfl;exact ⟨by rw [put_defers,put_defers];exact h'.defers,by rw [jU,qU,jU,qU];exact h'.size,σ',β',by rw [jU,jU];exact p2⟩
  refine wpIn_seq (wpIn_region_list ?_);rw [hopsB];refine zUN (vs:=[]) (k:=false) (w':=w') hn1 hn2 (itEv h' hi) (by rw [h'.size];exact htn) hrun ?_;refine wpIn_seq (wpIn_cond_false (by simp [Act.eval,Act.put,h'.size,htk]) (wpIn_exit ?_));show Exit.inBlock r.bl Q (.exit r.bl) _ _;simp only [Exit.inBlock,if_true];exact hQ _ B1 _ _ _ hw hgr hdf hK (letGo hw hn hdo hga)
 cases ro0 with
 | none =>
   refine main (.mapIter none 0 #[] 0) rfl (run_range_nilMap w1 r.ty kt u hund) fun st2 a2 w2 B1 hw hgr hdf hle hn hgo h2=> ?_;unfold zSO at hgo;rw [St.forceAll_eq] at hgo;obtain ⟨SP,⟨hi0,hle0⟩,_,hend⟩:=hgo.out;have hm:m=[]:=hnil rfl;subst hm;obtain ⟨e1,e2⟩:=hend [] ⟨hi0,List.nodup_nil,fun p=>Iff.rfl⟩;rw [St.forceAll_eq] at e2;refine wpIn_block (wpIn_loop_ghost (fun _ a' w'=>GA (B1.lock w1.heap.size (.mapIter none 0 #[] 0)) N (SP.head (st1.put (some r.it) (itV w1.heap.size)) []) a' w') 0 (h2.weaken hle0) ?_)
   intro k a' w' h';refine over hw hgr hdf hn rfl h' e1 e2 fun ty=> ?_;obtain ⟨σ',β',hg'⟩:=h'.gg;obtain ⟨_,hl,_⟩:=hg'.locked rfl;simp only [Instr.next,getObj,Sem.run_bind,Sem.run,hl,Result.andThen];rfl
 | some b =>
   obtain ⟨es,clock,hb,⟨hsz,hst⟩,hents⟩:=hat b rfl
   refine main (.mapIter (some b) clock #[] clock) rfl (run_range_map w1 r.ty kt u b es clock hund (by
    obtain ⟨o',e1,e2⟩:=hg.mem.ag _ _ hb
    rw [e1,e2.map])) fun st2 a2 w2 B1 hw hgr hdf hle hn hgo h2=> ?_
   unfold zSO at hgo;rw [St.forceAll_eq] at hgo;obtain ⟨SP,⟨hi0,hle0⟩,hround,hend⟩:=hgo.out;obtain ⟨st3,hst3⟩: ∃ st3,st3=st1.put (some r.it) (itV w1.heap.size):=⟨_,rfl⟩;rw [<- hst3] at hround hend hle0 h2
   have hbne:b≠w1.heap.size:=fun e=>by
    have:=hg.mem.ag.lt hb;omega
   -- the map lies as it lay
   have mapAt: ∀ {seen:Array Nat} {c0:Nat} {st':St} {a':Act} {w':World},GA (B1.lock w1.heap.size (.mapIter (some b) clock seen c0)) N st' a' w'->w'.heap[b]? =some (.map es clock)/\w'.heap[w1.heap.size]? =some (.mapIter (some b) clock seen c0):=fun {seen c0 st' a' w'} h'=>by
    obtain ⟨σ',β',hg'⟩:=h'.gg;obtain ⟨_,hl,_⟩:=hg'.locked rfl;refine ⟨?_,hl⟩;obtain ⟨o1,k1,k2⟩:=hle b _ hb;obtain ⟨o2,k3,k4⟩:=hg'.grew.1 b o1 (by show (B1.sg.add _ _) b=_;unfold Sig.add;rw [if_neg hbne];exact k1);obtain ⟨o3,k5,k6⟩:=hg'.mem.ag _ _ k3;rw [k5,((k2.trans k4).trans k6).map]
   refine wpIn_block (wpIn_loop_ghost (fun k a' w'=> ∃ (pre:IBM) (seen:Array Nat) (c0:Nat),k=(leftOf es seen).size/\SP.inv pre/\zFu w1.heap.size b m es clock seen pre/\clock<=c0/\GA (B1.lock w1.heap.size (.mapIter (some b) clock seen c0)) N (SP.head st3 pre) a' w') _
    ⟨[],#[],clock,rfl,hi0,⟨List.nodup_nil,fun p hp=>(by cases hp),fun i x en _ _=>(by simp)⟩,zI _,h2.weaken hle0⟩ ?_)
   rintro k a' w' ⟨pre,seen,c0,rfl,hinv,hia,hc0,h'⟩;obtain ⟨hmb,hml⟩:=mapAt h';have each:=fun ty=>run_next_at (P:=P) w' ty w1.heap.size b clock c0 seen es clock hml hmb hst.1 hc0
   by_cases h0:(leftOf es seen).size=0
   ·obtain ⟨e1,e2⟩:=hend pre ⟨hinv,hia.nd,hia.all hsz h0⟩;rw [St.forceAll_eq] at e2;refine over hw hgr hdf hn rfl h' e1 e2 fun ty=> ?_;rcases each ty with ⟨_,hrun⟩|⟨en,hen,_⟩
    ·exact hrun
    ·have:(leftOf es seen)= #[]:=Array.eq_empty_of_size_eq_zero h0;rw [this] at hen;cases hen
   ·rcases each 0 with ⟨hh,_⟩|⟨en,hen,w3,hw3,hrun⟩
    ·exact absurd hh h0
    have hrun: ∀ ty,(Instr.next (.pointer (some ⟨w1.heap.size,0,none⟩)) false ty).run P w'= .ok (.tuple #[.bool true,en.key,en.val]) (setBlock w3 w1.heap.size (.mapIter (some b) clock (seen.push en.born) clock)):=fun ty=>hrun;obtain ⟨i,x,hxm,hxe2,hxin,hxnot,hia2⟩:=hia.step hnd hsz hst hen;obtain ⟨en2,dk,dv,f1,f2,f3,f4,f5⟩:=hents i x hxm;rw [hxe2] at f1;cases f1;obtain ⟨rfl,fk⟩:=f2;have f4:dv=[.bool x.2]:=f4
    subst f4;have f3:en.key= .int .i64 x.1:=f3;have f5:en.val= .bool x.2:=f5;obtain ⟨e1,e2⟩:=hround pre x ⟨hinv,hia.nd,hia.sub,hxin,hxnot⟩;rw [St.forceAll_eq] at e2
    -- the state behind the step
    have hg3:GA (B1.lock w1.heap.size (.mapIter (some b) clock (seen.push en.born) clock)) N (((SP.head st3 pre).put (some r.tn) (.s .junk)).put (some r.tk) (.s (.bool true)))
     ((a'.put (some r.tn) (.tuple #[.bool true,en.key,en.val])).put (some r.tk) (.bool true)) (setBlock w3 w1.heap.size (.mapIter (some b) clock (seen.push en.born) clock)):=by
     obtain ⟨σ',β',hg'⟩:=h'.gg
     have p0:GG (B1.lock w1.heap.size (.mapIter (some b) clock seen c0)) σ' β' (SP.head st3 pre) a'.tmps w3:=by
      rcases hw3 with e|e
      ·rw [e];exact hg'
      ·rw [e];exact hg'.drewW
     have p1:=p0.turnLock rfl (by rw [hw];exact hg.bel.size) hn (.mapIter (some b) clock (seen.push en.born) clock);have p2:=p1.put (d:=some r.tn) (a:= .s .junk) (v:= .tuple #[.bool true,en.key,en.val]) (fun t e=>by cases e;rw [h'.size];exact htn) trivial;have p3:=p2.put (d:=some r.tk) (a:= .s (.bool true)) (v:= .bool true) (fun t e=>by cases e;rw [qU,h'.size];exact htk) rfl;exact ⟨by rw [put_defers,put_defers];exact h'.defers,by rw [jU,qU,jU,qU];exact h'.size,_,_,by rw [jU,jU];exact p3⟩
    refine wpIn_seq (wpIn_region_list ?_);rw [hopsB];refine zUN (vs:=[en.key,en.val]) (k:=true) hn1 hn2 (itEv h' e1) (by rw [h'.size];exact htn) hrun ?_;refine wpIn_seq (wpIn_cond_true (by simp [Act.eval,Act.put,h'.size,htk]) (wpIn_skip ?_));refine wpIn_block (wpIn_seq (wpIn_region_list ?_));rw [hfC];obtain ⟨hmb3,hml3⟩:=mapAt hg3
    have hitv:((a'.put (some r.tn) (.tuple #[.bool true,en.key,en.val])).put (some r.tk) (.bool true)).eval (.tmp r.it)= .pointer (some ⟨w1.heap.size,0,none⟩):=itEv hg3 (by
     show yZ ((r.tk,_)::(r.tn,_)::(SP.head st3 pre).env) r.it=_
     rw [qR,if_neg d2,qR,if_neg d1];exact e1)
    refine j5 q3 (zAd (v:= .tuple #[en.key,en.val]) (by rw [q2];intro c e;cases e) (by
     simp only [execOp,q2];rw [show ∀ a:Act,a.eval=a.eval from fun _=>rfl] at *
     rw [hitv,Sem.run_bind,run_entry_at _ w1.heap.size b clock seen es clock en hml3 hmb3 (mem_left hen).1 hst.2.1];rfl) ?_)
    rw [q1]
    have hg4:GA (B1.lock w1.heap.size (.mapIter (some b) clock (seen.push en.born) clock)) N ((((SP.head st3 pre).put (some r.tn) (.s .junk)).put (some r.tk) (.s (.bool true))).put (some r.te) (.tup [.s (.int .i64 x.1),.s (.bool x.2)]))
     (((a'.put (some r.tn) (.tuple #[.bool true,en.key,en.val])).put (some r.tk) (.bool true)).put (some r.te) (.tuple #[en.key,en.val])) (setBlock w3 w1.heap.size (.mapIter (some b) clock (seen.push en.born) clock)):=by
     obtain ⟨σ',β',hg'⟩:=hg3.gg;have p1:=hg'.put (d:=some r.te) (a:= .tup [.s (.int .i64 x.1),.s (.bool x.2)]) (v:= .tuple #[en.key,en.val]) (fun t e=>by cases e;rw [hg3.size];exact hte) ⟨[en.key,en.val],rfl,⟨f3,fk⟩,f5,trivial⟩;exact ⟨by rw [put_defers];exact hg3.defers,by rw [jU,qU];exact hg3.size,_,_,by rw [jU];exact p1⟩
    have again: ∀ (s':St) (a5:Act) (w5:World),SP.inv (pre++[x])/\zOs s' (SP.head st3 (pre++[x]))->GA (B1.lock w1.heap.size (.mapIter (some b) clock (seen.push en.born) clock)) N s' a5 w5->
     ∃ n',n'<(leftOf es seen).size/\∃ (pre:IBM) (seen:Array Nat) (c0:Nat),n'=(leftOf es seen).size/\SP.inv pre/\zFu w1.heap.size b m es clock seen pre/\clock<=c0/\GA (B1.lock w1.heap.size (.mapIter (some b) clock seen c0)) N (SP.head st3 pre) a5 w5 :=
     fun s' a5 w5 hh h5=>⟨_,left_shrinks es seen en hen,pre++[x],seen.push en.born,clock,rfl,hh.1,hia2,zI _,h5.weaken hh.2⟩
    have:=zCe R (r:=none) (n:=0) (ops:=r.fullC) (Q:=Exit.then (r.rest.wpIn (FR none) 0 P (Exit.inBlock r.c (Exit.then (fun a' w'=> ∃ n',n'<(leftOf es seen).size/\∃ (pre:IBM) (seen:Array Nat) (c0:Nat),n'=(leftOf es seen).size/\SP.inv pre/\zFu w1.heap.size b m es clock seen pre/\clock<=c0/\GA (B1.lock w1.heap.size (.mapIter (some b) clock seen c0)) N (SP.head st3 pre) a' w') (Exit.inBlock r.bl Q)))) (Exit.inBlock r.c (Exit.then (fun a' w'=> ∃ n',n'<(leftOf es seen).size/\∃ (pre:IBM) (seen:Array Nat) (c0:Nat),n'=(leftOf es seen).size/\SP.inv pre/\zFu w1.heap.size b m es clock seen pre/\clock<=c0/\GA (B1.lock w1.heap.size (.mapIter (some b) clock seen c0)) N (SP.head st3 pre) a' w') (Exit.inBlock r.bl Q)))) [] r.backC hback hg4 e2 fun s5 a5 w5 hk5 h5=> ?_
    ·rw [List.append_nil] at this;exact this
    show r.rest.wpIn _ _ _ _ a5 w5;refine zA2 R r.rest hrest h5 hk5 fun ex s6 a6 w6 hk6 h6=> ?_;cases ex with
    | normal=>exact again s6 a6 w6 hk6 h6
    | exit j =>
      simp only [zT8] at hk6;simp only [Exit.inBlock];split at hk6
      ·rename_i ej;rw [if_pos (zH ej)];exact again s6 a6 w6 hk6 h6
      ·rename_i ej;rw [if_neg (fun e'=>by subst e';rw [Nat.beq_refl] at ej;cases ej)];show Exit.inBlock r.bl Q (.exit j) a6 w6;simp only [Exit.inBlock];split at hk6
       ·rename_i ej2;rw [if_pos (zH ej2)];exact hQ _ B1 _ _ _ hw hgr hdf hk6 (letGo hw hn rfl h6)
       ·rename_i ej2;rw [if_neg (fun e'=>by subst e';rw [Nat.beq_refl] at ej2;cases ej2)];exact hQ _ B1 _ _ _ hw hgr hdf hk6 (letGo hw hn rfl h6)
    | goto l=>exact hQ _ B1 _ _ _ hw hgr hdf hk6 (letGo hw hn rfl h6)
    | ret=>exact hQ _ B1 _ _ _ hw hgr hdf hk6 (letGo hw hn rfl h6)
    | panic ch=>exact hQ _ B1 _ _ _ hw hgr hdf hk6 (letGo hw hn rfl h6)
    | outgrown=>exact hQ _ B1 _ _ _ hw hgr hdf hk6 (letGo hw hn rfl h6)
end
end Go.Vm
/- Code with ranges over functions at its top; what a caller may lean on. -/
namespace Go.Vm
open Go.RowKit
abbrev zDE:=FuncId->List PtV->List Int->Prop
def zDb (P:Program) (SQ:zDE):Prop:= ∀ f ps L,SQ f ps L->z4B P f ps L
def St.rowNils (T:Tab) (st:St):List Nat->St
 | []=>st
 | i::r=>(st.rowNil T i).rowNils T r
def zEp (T:Tab) (K:St->Prop):List Nat->St->Prop
 | [],st=>st.forceAll K
 | i::r,st=>(st.rowNil T i).forceAll fun st=>zEp T K r st
theorem zFX {T:Tab} {K:St->Prop} : ∀ (ids:List Nat) (st:St),zEp T K ids st=K (st.rowNils T ids)
 | [],st=>by rw [zEp,St.forceAll_eq];rfl
 | i::r,st=>by rw [zEp,St.forceAll_eq,zFX r];rfl
def zD6:jJ->List Nat
 | []=>[]
 | (i,_)::r=>i::zD6 r
def zB1:Code->Bool
 | .seq a b=>match z1B a b with
   | some _=>true
   | none=>zB1 a|| zB1 b
 | .block _ c=>zB1 c
 | .cond _ a b=>zB1 a|| zB1 b
 | .loop c=>zB1 c
 | .rangeFunc _ _ _ _=>true
 | .scope c=>zB1 c
 | _=>false
def qC (T:Tab) (SQ:zDE):Code->St->(Exit->St->Prop)->Prop
 | .seq a b,st,K=>match z1B a b with
   | some r=>z9J T r st K
   | none=>qC T SQ a st (fun e s=>match e with
     | .normal=>qC T SQ b s K
     | e=>K e s)
 | .block id c,st,K=>qC T SQ c st (fun e s=>match e with
   | .exit i=>match Nat.beq i id with|true=>K .normal s|false=>K (.exit i) s
   | e=>K e s)
 | .rangeFunc g ps assign body,st,K=>match y7 st.env g with
   | .s (.clo f qs)=>match Nat.beq ps.size (z9P (zPl qs)+1) with
     | true=> ∃ L,SQ f qs L/\∃ SP:Spec Nat,zEp T (fun st=>zUQ T ps.toList (zPl qs) assign body st L (fun X k=>SP.head (zIv st X) k)/\∀ X,(SP.head (zIv st X) L.length).forceAll (K .normal)) (zD6 st.hp) st
     | false=>False
   | _=>False
 | .skip,st,K=>zA8 T .skip st K
 | .label l,st,K=>zA8 T (.label l) st K
 | .region i o d,st,K=>zA8 T (.region i o d) st K
 | .cond c a b,st,K=>match zB1 a|| zB1 b with
   | false=>zA8 T (.cond c a b) st K
   | true=>match y7 st.env c with
     | .s (.bool t)=>BIf t (qC T SQ a st K) (qC T SQ b st K)
     | _=>False
 | .loop c,st,K=>match zB1 c with
   | false=>zEp T (fun st=>zA8 T (.loop c) st K) (zD6 st.hp) st
   | true=> ∃ (X:Type) (S:Spec X),(∃ x,S.inv x/\zOs st (S.head st x))/\
     ∀ x,S.inv x->(S.head st x).forceAll fun h=>qC T SQ c h (fun e s=>match e with
       | .normal=> ∃ y,S.inv y/\zOs s (S.head st y)/\S.mu y<S.mu x
       | e=>K e s)
 | .exit i,st,K=>zA8 T (.exit i) st K
 | .goto l,st,K=>zA8 T (.goto l) st K
 | .ret,st,K=>zA8 T .ret st K
 | .scope c,st,K=>qC T SQ c st (fun e s=>match e with
   | .goto _=>False
   | e=>K e s)
 | _,_,_=>False
def zAi (N:Nat):Code->Bool
 | .seq a b=>match z1B a b with
   | some _=>codeOk N a&&codeOk N b
   | none=>zAi N a&&zAi N b
 | .block _ c=>zAi N c
 | .rangeFunc g ps assign body=>zDy g&&(ps.toList.all (fun p=>Nat.blt p N)&&(codeOk N assign&&codeOk N body))
 | .cond c a b=>match zB1 a|| zB1 b with
   | false=>codeOk N (.cond c a b)
   | true=>zDy c&&zAi N a&&zAi N b
 | .loop c=>match zB1 c with
   | false=>codeOk N (.loop c)
   | true=>zAi N c
 | .scope c=>zAi N c
 | c=>codeOk N c
def mark (D:Nat):Deferred:= {target:= .collected D,args:= #[]}
structure Marks (B0 B:Base):Prop where
 w:B.w=B0.w
 grew:zTG B0 B.sg
 ds: ∃ Ds:List Nat,B.dfs=Ds.map mark/\Ds.Nodup/\∀ D∈Ds,B.sg D=some (.deferred (some []))/\B0.w.heap.size<=D
section
variable {P:Program} {T:Tab} {SQ:zDE} {B B0:Base} {w w':World} {σ τ:Sig} {β:yR} {st:St} {tmps:Array Value} {N:Nat} {a:Act}
theorem Marks.more {B1:Base} (h:Marks B0 B) {D:Nat} (h1:B1.w=B.w) (h2:zTG B B1.sg) (h3:B1.dfs=mark D::B.dfs) (h4:B1.sg D=some (.deferred (some []))) (h5:B.w.heap.size<=D) (h6:B.sg D=none):Marks B0 B1:=by
 obtain ⟨Ds,e1,e2,e3⟩:=h.ds;refine ⟨h1.trans h.w,⟨h.grew.1.trans h2.1,fun b hb=>(h2.2 b (by rw [h.w];exact hb)).trans (h.grew.2 b hb)⟩,D::Ds,by rw [h3,e1];rfl,List.nodup_cons.2 ⟨fun hm=> ?_,e2⟩,fun D' hD=> ?_⟩
 ·rw [(e3 D hm).1] at h6;cases h6
 ·rcases zT.1 hD with e|hD
  ·subst e;exact ⟨h4,by rw [<- h.w];exact h5⟩
  ·obtain ⟨k1,k2⟩:=e3 D' hD;obtain ⟨o',e4,e5⟩:=h2.1 _ _ k1;have:=e5.nodata rfl;subst this;exact ⟨e4,k2⟩
theorem Marks.go {B1:Base} (h:Marks B0 B) (h1:B1.w=B.w) (h2:zTG B B1.sg) (h3:B1.dfs=B.dfs):Marks B0 B1:=by
 obtain ⟨Ds,e1,e2,e3⟩:=h.ds;refine ⟨h1.trans h.w,⟨h.grew.1.trans h2.1,fun b hb=>(h2.2 b (by rw [h.w];exact hb)).trans (h.grew.2 b hb)⟩,Ds,by rw [h3,e1],e2,fun D hD=> ?_⟩;obtain ⟨k1,k2⟩:=e3 D hD;obtain ⟨o',e4,e5⟩:=h2.1 _ _ k1;have:=e5.nodata rfl;subst this;exact ⟨e4,k2⟩
theorem zJE: ∀ (ids:List Nat) {st:St},(st.rowNils T ids).env=st.env
 | [],_=>rfl
 | i::r,st=>(zJE r (st:=st.rowNil T i)).trans (zTL i)
theorem GG.rowNils: ∀ (ids:List Nat) {β:yR} {st:St},GG B σ β st tmps w->∃ β',GG B σ β' (st.rowNils T ids) tmps w
 | [],β,_,h=>⟨β,h⟩
 | i::r,_,_,h=>by
   obtain ⟨β',h'⟩:=h.rowNil (T:=T) i;exact GG.rowNils r h'
theorem zOJ (R:jM P T) (hSQ:zDb P SQ): ∀ (c:Code) {B:Base} {st:St} {a:Act} {w:World} {K:Exit->St->Prop} {Q:Exit->Act->World->Prop},zAi N c=true->Marks B0 B->GA B N st a w->qC T SQ c st K->
 (∀ e B1 st' a' w',Marks B0 B1->K e st'->GA B1 N st' a' w'->Q e a' w')->c.wpIn (FR none) 0 P Q a w:=by
 intro c
 induction c with
 | seq x y ihx ihy =>
   intro B st a w K Q hok hm h hk hQ;simp only [zAi] at hok;simp only [qC] at hk;cases e:z1B x y with
   | some r =>
     rw [e] at hok hk;simp only [zC] at hok;exact z3E R e hok.1 hok.2 h hk fun e B1 st' a' w' h1 h2 h3 hk' h'=>hQ _ _ _ _ _ (hm.go h1 h2 h3) hk' h'
   | none =>
     rw [e] at hok hk;simp only [zC] at hok;refine wpIn_seq (ihx hok.1 hm h hk fun e B1 st' a' w' hm' hk' h'=> ?_);cases e with
     | normal=>exact ihy hok.2 hm' h' hk' hQ
     | _=>exact hQ _ _ _ _ _ hm' hk' h'
 | block id c ih =>
   intro B st a w K Q hok hm h hk hQ;simp only [zAi] at hok;refine wpIn_block (ih hok hm h hk fun e B1 st' a' w' hm' hk' h'=> ?_);cases e with
   | exit i =>
     simp only [Exit.inBlock];dsimp only at hk';split at hk'
     ·rename_i e;rw [if_pos (zH e)];exact hQ _ _ _ _ _ hm' hk' h'
     ·rename_i e;rw [if_neg (fun e'=>by subst e';rw [Nat.beq_refl] at e;cases e)];exact hQ _ _ _ _ _ hm' hk' h'
   | _=>exact hQ _ _ _ _ _ hm' hk' h'
 | rangeFunc g ps assign body =>
   intro B st a w K Q hok hm h hk hQ;simp only [zAi,zC] at hok;obtain ⟨ho1,ho2,ho3,ho4⟩:=hok;simp only [qC] at hk;split at hk
   case h_2=>exact hk.elim
   rename_i f qs hg;split at hk
   case h_2=>exact hk.elim
   rename_i hnp;obtain ⟨L,hL,SP,hk⟩:=hk;rw [zFX] at hk;obtain ⟨hr,hK⟩:=hk;obtain ⟨σr,βr,hgr⟩:=h.gg;obtain ⟨βn,hgn⟩:=hgr.rowNils (T:=T) (zD6 st.hp);replace h:GA B N (st.rowNils T (zD6 st.hp)) a w:=⟨h.defers,h.size,σr,βn,hgn⟩;rw [<- zJE (T:=T) (st:=st) (zD6 st.hp)] at hg
   have hp: ∀ p∈ps.toList,p<N:=fun p hp=>by
    have:=zJ.1 ho2 p hp;exact Nat.lt_of_succ_le (by simpa [Nat.blt] using this)
   refine z0o R ho3 ho4 hp ho1 h hg (hSQ f qs L hL) (zH hnp) (S:=fun X k=>SP.head (zIv (st.rowNils T (zD6 st.hp)) X) k) hr fun B1 D a' w' h1 h2 h3 h4 h5 h6 h7=> ?_;have:=hK a.tmps;rw [St.forceAll_eq] at this;exact hQ _ _ _ _ _ (hm.more h1 h2 h3 h4 h5 h6) this h7
 | skip=>intro B st a w K Q hok hm h hk hQ;exact zA2 R _ hok h hk fun e st' a' w' hk' h'=>hQ _ _ _ _ _ hm hk' h'
 | label l=>intro B st a w K Q hok hm h hk hQ;exact zA2 R _ hok h hk fun e st' a' w' hk' h'=>hQ _ _ _ _ _ hm hk' h'
 | region i o d=>intro B st a w K Q hok hm h hk hQ;exact zA2 R _ hok h hk fun e st' a' w' hk' h'=>hQ _ _ _ _ _ hm hk' h'
 | cond c x y ihx ihy =>
   intro B st a w K Q hok hm h hk hQ;simp only [zAi] at hok;simp only [qC] at hk;split at hk
   ·rename_i e;rw [e] at hok;exact zA2 R _ hok h hk fun e st' a' w' hk' h'=>hQ _ _ _ _ _ hm hk' h'
   ·rename_i e;rw [e] at hok;simp only [zC] at hok;split at hk
    case h_2=>exact hk.elim
    rename_i t ht;have hev:=zJ3 h hok.1.1 ht;cases t with
    | true=>exact wpIn_cond_true hev (ihx hok.1.2 hm h hk hQ)
    | false=>exact wpIn_cond_false hev (ihy hok.2 hm h hk hQ)
 | loop c ih =>
   intro B st a w K Q hok hm h hk hQ;simp only [zAi] at hok;simp only [qC] at hk;split at hk
   ·rename_i e;rw [e] at hok;rw [zFX] at hk;obtain ⟨σr,βr,hgr⟩:=h.gg;obtain ⟨βn,hgn⟩:=hgr.rowNils (T:=T) (zD6 st.hp);replace h:GA B N (st.rowNils T (zD6 st.hp)) a w:=⟨h.defers,h.size,σr,βn,hgn⟩;exact zA2 R _ hok h hk fun e st' a' w' hk' h'=>hQ _ _ _ _ _ hm hk' h'
   ·rename_i e;rw [e] at hok;have hok:zAi N c=true:=hok;simp only [St.forceAll_eq] at hk;obtain ⟨X,S,⟨x0,hi0,hle0⟩,hround⟩:=hk;refine wpIn_loop_ghost (fun m a w=> ∃ x B,S.inv x/\S.mu x=m/\Marks B0 B/\GA B N (S.head st x) a w) (S.mu x0) ⟨x0,B,hi0,rfl,hm,h.weaken hle0⟩ ?_;rintro m a w ⟨x,B,hi,rfl,hm,hx⟩;refine ih hok hm hx (hround x hi) fun e B1 st' a' w' hm' hk' h'=> ?_;cases e with
    | normal =>
      obtain ⟨y,hy,hle,hlt⟩:=hk';exact ⟨_,hlt,y,B1,hy,rfl,hm',h'.weaken hle⟩
    | _=>exact hQ _ _ _ _ _ hm' hk' h'
 | scope c ih =>
   intro B st a w K Q hok hm h hk hQ;simp only [zAi] at hok;simp only [qC] at hk;rw [FR.none,wpIn_wide];refine wp_scope_straight ((wpIn_wide (n:=0)).1 ?_);rw [<- FR.none];refine ih hok hm h hk fun e B1 st' a' w' hm' hk' h'=> ?_;cases e with
   | goto l=>exact hk'.elim
   | _=>exact hQ _ _ _ _ _ hm' hk' h'
 | exit i=>intro B st a w K Q hok hm h hk hQ;exact zA2 R _ hok h hk fun e st' a' w' hk' h'=>hQ _ _ _ _ _ hm hk' h'
 | goto l=>intro B st a w K Q hok hm h hk hQ;exact zA2 R _ hok h hk fun e st' a' w' hk' h'=>hQ _ _ _ _ _ hm hk' h'
 | ret=>intro B st a w K Q hok hm h hk hQ;exact zA2 R _ hok h hk fun e st' a' w' hk' h'=>hQ _ _ _ _ _ hm hk' h'
 | _=>intro B st a w K Q hok;cases hok
def zH7 (T:Tab) (SQ:zDE) (fn:Func) (args:List AV) (R:AV->Prop):Prop :=
 match fn.body with
 | some c=>(St.init args).forceAll fun s=>qC T SQ c s (post T fn R)
 | none=>False
theorem zHL (R:jM P T) (hSQ:zDb P SQ) {f:FuncId} {fn:Func} {c:Code} (hf:P.funcs[f]? =some fn) (hb:fn.body=some c) (hok:zAi fn.ntmps c=true)
 {args:List AV} (hl:args.length<=fn.ntmps) {q:Option Prop} {u:AV} (h:zBl args->Opt q->zH7 T SQ fn args (fun v=>v=u)):zCn P f args (none,q,u):=by
 intro σ vals w hag hv;refine ⟨trivial,fun hq=> ?_⟩;have hga:=zJA (N:=fn.ntmps) hag hv hl;have hk:=h (zCF hv) hq;simp only [zH7,hb,St.forceAll_eq] at hk;refine (callsIn_of_wp_marks (F:=Fence.wide) (n:=0) hf hb trivial ?_).calls (fun _ _ hd=>by cases hd);rw [<- FR.none];refine zOJ (B0:=⟨w,σ,[]⟩) R hSQ c hok ⟨rfl,⟨Sig.le.refl _,fun _ _=>rfl⟩,[],rfl,List.nodup_nil,fun D hD=>by cases hD⟩ hga hk fun e B1 st' a' w' hm hp h'=> ?_
 have fin : (match fn.results.toList.all (zGU T st') with|true=>zKo T fn st'=u|false=>False)->LeavesInM (FR none) 0 P fn a'.tmps (fun e w'=> ∃ v σ',e= .returned v/\σ.le σ'/\Ag σ' w'/\
  (∀ b,b<w.heap.size->σ' b=σ b)/\y6 σ' [] u v/\Below w.heap.size w w') a'.defers .returning w':=by
  intro hu;split at hu
  case h_2=>exact hu.elim
  rename_i hallok;obtain ⟨σ1,β1,hg⟩:=h'.gg;obtain ⟨Ds,e1,e2,e3⟩:=hm.ds;rw [h'.defers,e1]
  -- the marks, one by one
  have key: ∀ (Ds:List Nat) (B1:Base) (σ1:Sig) (w':World),Ds.Nodup->(∀ D∈Ds,B1.sg D=some (.deferred (some []))/\w.heap.size<=D)->B1.w=w->zTG ⟨w,σ,[]⟩ B1.sg->GG B1 σ1 β1 st' a'.tmps w'->
   LeavesInM (FR none) 0 P fn a'.tmps (fun e w'=> ∃ v σ',e= .returned v/\σ.le σ'/\Ag σ' w'/\(∀ b,b<w.heap.size->σ' b=σ b)/\y6 σ' [] u v/\Below w.heap.size w w') (Ds.map mark) .returning w':=by
   intro Ds
   induction Ds with
   | cons D r ih =>
     intro B1 σ1 w' hn hD hw hgr hg;obtain ⟨hn1,hn2⟩:=List.nodup_cons.1 hn;obtain ⟨d1,d2⟩:=hD D (zY ..);rw [Base.relock B1 d1] at hg;obtain ⟨_,hl2,_⟩:=hg.locked rfl;have zDU: ∀ b,b≠D->(B1.sg.del D) b=B1.sg b:=fun b hb=>by unfold Sig.del;rw [if_neg hb]
     obtain ⟨hg2,_⟩:=hg.unlock rfl (by show B1.w.heap.size<=D;rw [hw];exact d2) (by show (B1.sg.del D) D=none;unfold Sig.del;rw [if_pos rfl]) (.deferred none);refine ⟨by simp,.inl ⟨D,_,rfl,run_takeDeferred hl2,ih {B1 with sg:=B1.sg.del D} _ _ hn2 (fun D' hD'=> ?_) hw ⟨fun b o e=> ?_,fun b hb=> ?_⟩ hg2⟩⟩
     ·obtain ⟨k1,k2⟩:=hD D' (zQ _ hD');exact ⟨by show (B1.sg.del D) D'=_;rw [zDU _ (fun e=>hn1 (e▸hD'))];exact k1,k2⟩
     ·have hb:b≠D:=fun hb=>by subst hb;have:=hag.lt e;omega
      show ∃ o',(B1.sg.del D) b=some o'/\_;rw [zDU b hb];exact hgr.1 b o e
     ·have hb:b<w.heap.size:=hb;show (B1.sg.del D) b=_;rw [zDU b (by omega)];exact hgr.2 b hb
   | nil =>
     intro B1 σ1 w' _ _ hw hgr hg;have hsl:σ.le σ1:=Sig.le.trans hgr.1 hg.grew.1;have hsb: ∀ b,b<w.heap.size->σ1 b=σ b:=fun b hb=>(hg.grew.2 b (by rw [hw];exact hb)).trans (hgr.2 b hb);have hbel:Below w.heap.size w w':=by have:=hg.bel;rw [hw] at this;exact this
     have hview: ∀ {x:AV} {v:Value},y6 σ1 β1 x v->y6 (fun b=>if b<w.heap.size then σ b else w'.heap[b]?) [] (x.viewT T st'.hp) v:=fun {x v} hx=>by
      refine AV.viewT_rep_at (fun b o e=> ?_) (fun id ob p hi hp=> ?_) hg.mem hx
      ·split
       ·rename_i hlt;rw [hsb b hlt] at e;exact ⟨o,e,.refl⟩
       ·exact hg.mem.ag _ _ e
      ·have:=(hg.sep _ _ _ hi hp).2.1;rw [hw] at this;rw [if_neg (by omega)]
     obtain ⟨vs,hrun,hall⟩:=zB5 (P:=P) (w:=w') (fn:=fn) (tmps:=a'.tmps) (Q:=fun r v=>y6 (fun b=>if b<w.heap.size then σ b else w'.heap[b]?) [] (zGQ T st' r) v) (fun r hr=>by
      have hro:=zJ.1 hallok r hr;cases r with
      | tmp t=>exact ⟨_,rfl,hview (hg.env t)⟩
      | cell a t =>
        simp only [zGU] at hro;simp only [zGQ];have hx:=hg.env a;split at hro
        ·rename_i id i k hea;rw [hea] at hx;split at hro
         ·rename_i v hv;obtain ⟨p,_,hptr,_⟩:=hx;obtain ⟨_,hrun⟩:=zBf (w:=w') R.ty R.one hg.mem (t:=t) (hg.env a) (p:=none) (q:=none) (v:=v) (by rw [hea];exact hv);obtain ⟨val,h1,h2⟩:=hrun trivial;refine ⟨val,?_,hview h2⟩;rw [hptr] at h1 ⊢;rw [zBL] at h1;simp only [asAddr,Sem.run_bind,Sem.run_pure,Result.andThen_ok];exact h1
         ·cases hro
        ·cases hro)
     refine ⟨_,hrun,_,(fun b=>if b<w.heap.size then σ b else w'.heap[b]?),rfl,fun b o e=> ?_,fun b o e=> ?_,fun b hb=>by simp [hb],by rw [<- hu];exact zJu hall,hbel⟩
     ·have:b<w.heap.size:=hag.lt e;exact ⟨o,by simp [this,e],.refl⟩
     ·dsimp only at e;split at e
      ·rename_i hlt;rw [<- hsb b hlt] at e;exact hg.mem.ag _ _ e
      ·exact ⟨o,e,.refl⟩
  exact key Ds B1 σ1 w' e2 e3 hm.w hm.grew hg
 cases e with
 | normal=>simp only [post,AV.force_eq] at hp;exact fin hp
 | ret=>simp only [post,AV.force_eq] at hp;exact fin hp
 | _=>exact hp.elim
end
end Go.Vm
open Go Go.Vm Go.Proofs
namespace S1
theorem zW2 {fn} (o:Option yI.T) (v:Int):zAG ⟨tyL,fn,[]⟩ Tryz.f90 [(ETy.pt yI).av o,y8.av v] (fun r=>r= .s (.clo 129 [⟨.pt yI,o⟩,⟨y8,v⟩])):=by
 repeat' (conv=>whnf
          first|done|refine qN ?_|apply qH|refine qG fun _=> ?_|apply qB|apply qa|apply qo|refine qe (fun _=> ?_) (fun _=> ?_)|refine qn (fun _=> ?_) (fun _=> ?_)|refine qd (fun _=> ?_) (fun _=> ?_)|apply qt|refine qi (fun _=> ?_) (fun _=> ?_)|refine zA rfl ?_|apply qE|apply qO|exact zO|apply qq|apply qs|refine qK (by kernel_rfl) ?_|apply qr)
 all_goals try first|refine qz ?_|apply qz5
 all_goals try simp only [z6,zS,yE,zZ,qn1,z7,qn2,zX,ETy.dflt,qn3,qn4,Int.reduceToNat,Int.reduceAdd,Int.reduceSub,Int.reduceNeg,Nat.reduceAdd,zD] at *
def zFO:List AV->Option Res:=zCr (.pt yI) y8 (fun o v=>some (none,none,.s (.clo 129 [⟨.pt yI,o⟩,⟨y8,v⟩])))
theorem zI1:qM Tryz.prog 90 zFO:=⟨jD fun o v r h=>by cases h;exact qL (yN (fn:=[]) (fr:=[]) trivial trivial) Tryz.func90 (by kernel_rfl) fun _ _=>zW2 o v,_,Tryz.func90,by kernel_rfl,by kernel_rfl⟩
def jW (x:yI.T) (b:Int):Nat->Int->List Int
 | 0,_=>[]
 | n+1,c=>c::(if yO x c<0 then [] else if yO x c=b then [] else jW x b n (yO x c))
def yU (o:Option yI.T) (v:Int):List Int:=onO o [] fun x=>if zBR x v then jW x (zAP x v).1 30000 (zAP x v).1 else []
end S1
open Go Go.Vm Go.Proofs
namespace S1
def z8P:zDE:=fun f ps L=>f=129/\∃ (o:Option yI.T) (v:Int),ps=[⟨.pt yI,o⟩,⟨y8,v⟩]/\(∀ x,o=some x->Good x)/\L=yU o v
def lkO (x:yI.T) (L:List Int) (k:Nat):List Int:=(L.take k).map fun c=>yS x (qY x c)
def zGG (L:List Int) (k:Nat):Int:=if k=0 then -1 else L.getD (k - 1) 0
def zCz (x:yI.T) (v:Int):List Int :=
 lkO x (yU (some x) v) (yU (some x) v).length++(if zGG (yU (some x) v) (yU (some x) v).length>=0/\yO x (zGG (yU (some x) v) (yU (some x) v).length)<0 then [yS x (qV x (zGG (yU (some x) v) (yU (some x) v).length))] else [])
theorem zYg (x:yI.T) (L:List Int) (k:Nat) (h:k<=L.length):(lkO x L k).length=k:=by
 unfold lkO;rw [yV,qZ];omega
theorem zRd (x:yI.T) (L:List Int) (k:Nat) (h:k<L.length):lkO x L (k+1)=lkO x L k++[yS x (qY x (L.getD k 0))]:=by
 have e:L.take (k+1)=L.take k++[L.getD k 0]:=by
  rw [yB h,zR,zG h];rfl
 unfold lkO;rw [e,List.map_append];rfl
theorem z1i {x:yI.T} (g:Good x) (c:Int):yO x c<=30000:=by
 unfold yO;split
 ·decide
 ·exact zMI g _
theorem zVd {x:yI.T} (g:Good x) (c:Int):yK x c<=30000:=by
 unfold yK;split
 ·decide
 ·exact zLz g _
theorem zKI {x:yI.T} (g:Good x) {b:Int} : ∀ n c,c<=30000->(jW x b n c).length<=n/\∀ a∈jW x b n c,a<=30000
 | 0,c,_=>⟨zI _,fun a h=>by cases h⟩
 | n + 1,c,hc=>by
   obtain ⟨h1,h2⟩:=zKI g (b:=b) n (yO x c) (z1i g c);unfold jW;split
   ·exact ⟨by simp,fun a h=>by rw [zF] at h;omega⟩
   ·split
    ·exact ⟨by simp,fun a h=>by rw [zF] at h;omega⟩
    ·refine ⟨by rw [yA];omega,fun a h=> ?_⟩;rcases zT.1 h with e|h
     ·omega
     ·exact h2 a h
theorem zJT {x:yI.T} (g:Good x) {c0:Int} (h0:c0<=30000): ∀ n c,c<=30000->(zDL x c0 n c).1<=30000
 | 0,c,_=>by show (0:Int)<=30000;decide
 | n +1,c,hc=>by
   unfold zDL;split
   ·exact hc
   ·split
    ·exact h0
    ·exact zJT g h0 n _ (zVd g c)
theorem zGo {x:yI.T} (g:Good x) (v:Int):(yU (some x) v).length<=30000/\∀ a∈yU (some x) v,a<=30000:=by
 show (if zBR x v then _ else _:List Int).length<=30000/\∀ a∈(if zBR x v then _ else _:List Int),a<=30000;split
 ·exact zKI g _ _ (zJT g (zEX g v) _ _ (zEX g v))
 ·exact ⟨Nat.zero_le _,fun a h=>by cases h⟩
theorem zY0 {L:List Int} (h: ∀ a∈L,a<=30000) (k:Nat):L.getD k 0<=30000:=by
 rw [zR];cases e:L[k]? with
 | none=>decide
 | some a=>exact h a (List.mem_of_getElem? e)
theorem zW8 {L:List Int} (h: ∀ a∈L,a<=30000) (k:Nat):zGG L k<=30000:=by
 unfold zGG;split
 ·decide
 ·exact zY0 h _
def zPP (x:yI.T) (L:List Int):Spec Nat where
 inv _:=True
 live _:=[]
 keep:=[2,4,5,6]
 heap k:=[(2,.flat 54 [.own 4 0 (lkO x L k).length]),(3,.flat 3 [.int .i64 (zGG L k)]),(4,.row y8 3 (lkO x L k))]
 keepH:=[0,1,5]
 mu _:=0
end S1
open Go Go.Vm Go.Proofs
namespace S1
def z7i:Spec Nat where
 inv _:=True
 live _:=[]
 keep:=[2,4,5,6]
 heap _:=[(2,.flat 54 [.own 4 0 0]),(3,.flat 3 [.int .i64 (-1)]),(4,.row y8 3 [])]
 keepH:=[0,1,5]
 mu _:=0
def zBh (o:Option yI.T) (v:Int):List Int:=onO o [] fun x=>zCz x v
end S1
/- The function of a sequence: between its yields it runs by the machine; at each yield it owns nothing. -/
namespace Go.Vm
open Go.RowKit
def zAp {α:Type} (a b:α):Prop:=a=b
theorem zAp.out {α:Type} {a b:α} (h:zAp a b):a=b:=h
theorem zAp.intro {α:Type} {a b:α} (h:a=b):zAp a b:=h
attribute [irreducible] zAp
def z9A (st:St) (o:Oper):Option (Operand×Operand×List Operand) :=
 match o.op with
 | .call ⟨.value (.tmp t),⟨x::ys⟩,_⟩=>match y7 st.env (.tmp t) with
   | .s (.val (.func (.yield _) ⟨[]⟩ ⟨[]⟩))=>some (.tmp t,x,ys)
   | _=>none
 | _=>none
def z9F (o:Oper):Bool :=
 match o.op with
 | .call ⟨.value (.tmp _),⟨_::_⟩,_⟩=>true
 | _=>false
def yGo (l:Nat) (L:List Int) (sec:zMm) (g x:Operand) (ys:List Operand) (dst:Option Tmp) (st:St) (pre:List Int) (K:St->List Int->Prop):Prop :=
 match y7 st.env g,y7 st.env x,st.hp with
 | .s (.val (.func (.yield l') ⟨[]⟩ ⟨[]⟩)),.s (.int .i64 n),[]=>match ys,sec with
   | [],none=>l'=l/\(pre++[n]) <+: L/\(st.put dst (.s (.bool true))).forceAll fun st=>K st (pre++[n])
   | [y],some s=>l'=l/\(pre++[n]) <+: L/\zAp (y7 st.env y) (.agg (s.1.cells (s.2 n)))/\(st.put dst (.s (.bool true))).forceAll fun st=>K st (pre++[n])
   | _,_=>False
 | _,_,_=>False
def zJV (T:Tab) (l:Nat) (L:List Int) (sec:zMm) (ops:Array Oper):List Oper->St->List Int->(St->List Int->Prop)->Prop
 | [],st,pre,K=>K st pre
 | o :: r, st,pre,K=>match z9A st o with
   | some (g,x,ys)=>match o.guard with
     | none=>yGo l L sec g x ys o.dst st pre fun st pre=>zJV T l L sec ops r st pre K
     | some (j,want)=>match zFl ops st.env j with
       | .s (.bool b)=>BIf b
         (match want with
           | true=>(st.put (qT ops j) (.s (.bool true))).force fun st=>yGo l L sec g x ys o.dst st pre fun st pre=>zJV T l L sec ops r st pre K
           | false=>(st.put (qT ops j) (.s (.bool true))).force fun st=>(st.put o.dst .undef).force fun st=>zJV T l L sec ops r st pre K)
         (match want with
           | true=>(st.put (qT ops j) (.s (.bool false))).force fun st=>(st.put o.dst .undef).force fun st=>zJV T l L sec ops r st pre K
           | false=>(st.put (qT ops j) (.s (.bool false))).force fun st=>yGo l L sec g x ys o.dst st pre fun st pre=>zJV T l L sec ops r st pre K)
       | _=>False
   | none=>zAN T false ops [o] st fun st=>zJV T l L sec ops r st pre K
def z2Q (ops:Array Oper) (draw:Bool):Bool :=
 match draw with
 | false=>ops.toList.any z9F
 | true=>false
def zDt (T:Tab) (l:Nat) (L:List Int) (sec:zMm):Code->St->List Int->(Exit->St->List Int->Prop)->Prop
 | .seq a b,st,pre,K=>zDt T l L sec a st pre (fun e s pre=>match e with
   | .normal=>zDt T l L sec b s pre K
   | e=>K e s pre)
 | .cond c a b,st,pre,K=>match y7 st.env c with
   | .s (.bool t)=>BIf t (zDt T l L sec a st pre K) (zDt T l L sec b st pre K)
   | _=>False
 | .block id c,st,pre,K=>zDt T l L sec c st pre (fun e s pre=>match e with
   | .exit i=>match Nat.beq i id with|true=>K .normal s pre|false=>K (.exit i) s pre
   | e=>K e s pre)
 | .loop c,st,pre,K=> ∃ (X:Type) (S:Spec X) (PR:X->List Int),(∃ x,S.inv x/\PR x=pre/\zOs st (S.head st x))/\
    ∀ x,S.inv x->(S.head st x).forceAll fun h=>zDt T l L sec c h (PR x) (fun e s pre'=>match e with
      | .normal=> ∃ y,S.inv y/\PR y=pre'/\zOs s (S.head st y)/\S.mu y<S.mu x
      | e=>K e s pre')
 | .region i ops draw,st,pre,K=>match z2Q ops draw with
   | true=>zJV T l L sec ops ops.toList st pre (K .normal)
   | false=>zA8 T (.region i ops draw) st (fun e s=>K e s pre)
 | .skip,st,pre,K=>K .normal st pre
 | .exit i,st,pre,K=>K (.exit i) st pre
 | .ret,st,pre,K=>K .ret st pre
 | _,_,_,_=>False
theorem z5o {st:St} {o:Oper} {g x:Operand} {ys:List Operand} (h:z9A st o=some (g,x,ys)): ∃ t ts,g= .tmp t/\o.op= .call ⟨.value (.tmp t),⟨x::ys⟩,ts⟩:=by
 unfold z9A at h;split at h
 ·rename_i t x2 ys2 ts h1;split at h
  ·cases h;exact ⟨t,ts,rfl,h1⟩
  ·cases h
 ·cases h
theorem jG.of_cells {σ:Sig} {β:yR} : ∀ {e:ETy} {x:e.T} {ds:List Value},jQ (y5 σ β) (e.cells x) ds->jG σ e x ds
 | .int _,_,_,h=>by obtain ⟨b,rfl,hb⟩:=h.len_one;exact ⟨by rw [hb.1],hb.2⟩
 | .bool,_,_,h=>by obtain ⟨b,rfl,hb⟩:=h.len_one;show _=_;rw [show _=_ from hb]
 | .arr2,_,ds,h=>by
   match ds,h with
   | [a,b],⟨h1,h2,_⟩=>exact ⟨by rw [h1.1,h2.1],h1.2,h2.2⟩
 | .arr3,_,ds,h=>by
   match ds,h with
   | [a,b,c],⟨h1,h2,h3,_⟩=>exact ⟨by rw [h1.1,h2.1,h3.1],h1.2,h2.2,h3.2⟩
 | .pair a b,x,ds,h=>by
   obtain ⟨m1,m2,e,h1,h2⟩:=jQ.split (l:=a.cells x.1) (l':=b.cells x.2) h;exact ⟨m1,m2,e,jG.of_cells h1,jG.of_cells h2⟩
 | .sl _,_,_,h=>by obtain ⟨b,rfl,hb⟩:=h.len_one;exact hb
 | .mp _ _,_,_,h=>by obtain ⟨b,rfl,hb⟩:=h.len_one;exact hb
 | .pt _,_,_,h=>by obtain ⟨b,rfl,hb⟩:=h.len_one;exact hb
 | .unit,_,_,h=>h.len_nil
 | .fnc,_,_,h=>by obtain ⟨b,rfl,hb⟩:=h.len_one;show _=_;rw [hb.1]
section
variable {P:Program} {T:Tab} {B B0:Base} {w w':World} {σ τ:Sig} {β:yR} {st:St} {tmps:Array Value} {N:Nat} {a:Act}
def z7p (st:St):List Operand->zMm->Int->Prop
 | [],none,_=>True
 | [y],some s,n=>y7 st.env y= .agg (s.1.cells (s.2 n))
 | _,_,_=>False
theorem z5g {l:Nat} {L:List Int} {sec:zMm} {g x:Operand} {ys:List Operand} {dst:Option Tmp} {pre:List Int} {K:St->List Int->Prop} (h:yGo l L sec g x ys dst st pre K) :
 y7 st.env g= .s (.val (.func (.yield l) #[] #[]))/\∃ n,y7 st.env x= .s (.int .i64 n)/\st.hp=[]/\(pre++[n]) <+: L/\K (st.put dst (.s (.bool true))) (pre++[n])/\z7p st ys sec n:=by
 unfold yGo at h;split at h
 ·rename_i l' n h1 h2 h3;split at h
  ·obtain ⟨rfl,hp,hk⟩:=h;rw [St.forceAll_eq] at hk;exact ⟨h1,n,h2,h3,hp,hk,trivial⟩
  ·obtain ⟨rfl,hp,hy,hk⟩:=h;rw [St.forceAll_eq] at hk;exact ⟨h1,n,h2,h3,hp,hk,hy.out⟩
  ·exact h.elim
 ·exact h.elim
theorem zS0 {o:Oper} {ρ:Operand->Value} {l:Nat} {g x:Operand} {ys:List Operand} {ts:Array TypeId} {r:Result Next} (ho:o.op= .call ⟨.value g,⟨x::ys⟩,ts⟩) (hf:ρ g= .func (.yield l) #[] #[]) (hy:(Instr.yield l (ρ x::ys.map ρ).toArray).run P w=r):(execOp ρ o).run P w=r:=by
 simp only [execOp,ho,resolve,hf,Deferred.ofValue,Sem.run_bind,Sem.run_pure,Result.andThen_ok,invoke];simpa using hy
theorem GG.yielded (h:GG B σ β st tmps w) (hh:st.hp=[]) (hag:Ag σ w'):GG ⟨w',σ,[]⟩ σ β st tmps w' :=
 ⟨⟨hag,fun id ob hi=>by rw [hh] at hi;cases hi⟩,h.env,h.len,fun id ob p hi=>(by rw [hh] at hi;cases hi),Below.refl _ _,Sig.le.refl _,fun _ _=>rfl⟩
def YOk (P:Program) (l:Nat) (L:List Int) (sec:zMm) (J:List Int->Sig->World->Prop):Prop :=
 ∀ pre x vs σp σ1 Ws W1,J pre σp Ws->Below Ws.heap.size Ws W1->(∀ b,b<Ws.heap.size->σ1 b=σp b)->Ag σ1 W1->(pre++[x]) <+: L->zFL σ1 sec x vs->
   YieldAt Fence.wide 0 P l (Value.int .i64 x::vs).toArray W1 fun e W'=>e= .returned (.bool true)/\J (pre++[x]) σ1 W'/\Ag σ1 W'
theorem zTT {l:Nat} {L:List Int} {sec:zMm} {J:List Int->Sig->World->Prop} (hY:YOk P l L sec J) {o:Oper} (ho:yT N o=true) {ops:Array Oper} {os:List Oper} {Q:Exit->Act->World->Prop} {t:Tmp} {x:Operand} {ys:List Operand} {ts:Array TypeId} (hop:o.op= .call ⟨.value (.tmp t),⟨x::ys⟩,ts⟩)
 {pre:List Int} {K:St->List Int->Prop} (hd:B.dfs=[]) (hj:J pre B.sg B.w) (h:GA B N st a w) (hk:yGo l L sec (.tmp t) x ys o.dst st pre K)
 (hQ: ∀ B1 st' pre' a' w',B1.dfs=[]->J pre' B1.sg B1.w->K st' pre'->GA B1 N st' a' w'->wpListIn (FR none) 0 P ops Q os a' w'):o.wpIn (FR none) 0 P a w (wpListIn (FR none) 0 P ops Q os) Q:=by
 obtain ⟨hg,n,hx,hh,hpre,hK,hsec⟩:=z5g hk;obtain ⟨σ1,β1,hgg⟩:=h.gg
 have hxo:zDy x=true:=by
  simp only [yT,zC,zJ] at ho;exact ho.2 x (by simp [hop,Op.operands,Call.operands])
 have hgv:a.eval (.tmp t)= .func (.yield l) #[] #[]:=by
  have:=jP hgg (x:= .tmp t) rfl;rw [hg] at this;exact this.1
 have hxv:a.eval x= .int .i64 n:=by
  have:=jP hgg hxo;rw [hx] at this;exact this.1
 have hsr:zFL σ1 sec n (ys.map a.eval):=by
  unfold z7p at hsec;split at hsec
  ·rfl
  ·rename_i y s
   have hyo:zDy y=true:=by
    simp only [yT,zC,zJ] at ho;exact ho.2 y (by simp [hop,Op.operands,Call.operands])
   have:=jP hgg hyo;rw [hsec] at this;obtain ⟨ds,e1,e2⟩:=this;exact ⟨ds,by rw [List.map_cons,List.map_nil,e1],jG.of_cells e2⟩
  ·exact hsec.elim
 obtain ⟨fn,tmps,assign,body,hrun,hround⟩:=hY pre n _ B.sg σ1 B.w w hj hgg.bel hgg.grew.2 hgg.mem.ag hpre hsr;refine ⟨fun f' _=>trivial,?_⟩;have hex:=zS0 (r:= .ok (.round l fn tmps assign body) w) hop hgv (by rw [hxv];exact hrun);rw [Oper.semAt_eq _ _ _ (by rw [hop];intro c e;cases e),hex];refine ⟨(fun e=>by cases e),?_⟩;refine hround.mono fun e w' hpost=> ?_;obtain ⟨rfl,hj',hag'⟩:=hpost;refine hQ ⟨w',σ1,[]⟩ (st.put o.dst (.s (.bool true))) (pre++[n]) _ _ rfl hj' hK ?_
 have hy:=(hgg.yielded hh hag').put (d:=o.dst) (zAb h.size ho) (a:= .s (.bool true)) (v:= .bool true) rfl;exact zEU (h.defers.trans hd) h.size ⟨σ1,β1,hy⟩
theorem zIC (R:jM P T) {l:Nat} {L:List Int} {sec:zMm} {J:List Int->Sig->World->Prop} (hY:YOk P l L sec J) {ops:Array Oper} {Q:Exit->Act->World->Prop} : ∀ (os:List Oper) {B:Base} {st:St} {a:Act} {w:World} {pre:List Int} {K:St->List Int->Prop},
 (∀ o∈os,yT N o=true)->B.dfs=[]->J pre B.sg B.w->GA B N st a w->zJV T l L sec ops os st pre K->
 (∀ B1 st' pre' a' w',B1.dfs=[]->J pre' B1.sg B1.w->K st' pre'->GA B1 N st' a' w'->Q .normal a' w')->wpListIn (FR none) 0 P ops Q os a w
 | [],B,st,a,w,pre,K,_,hd,hj,h,hk,hQ=>hQ _ _ _ _ _ hd hj hk h
 | o ::os,B,st,a,w,pre,K,hall,hd,hj,h,hk,hQ=>by
   have ho:=hall o (by simp);have hall': ∀ o∈os,yT N o=true:=fun o' ho'=>hall o' (by simp [ho']);simp only [zJV,St.force_eq] at hk;split at hk
   case h_2 =>
    have:=zCe R os [o] (ops:=ops) (Q:=Q) (fun o' ho'=>hall o' (by rw [zF.1 ho'];simp)) h hk fun st' a' w' hk' h'=>zIC R hY os hall' hd hj h' hk' hQ;exact this
   rename_i g x ys hyf;obtain ⟨t,ts,rfl,hop⟩:=z5o hyf
   have go: ∀ {st:St},GA B N st a w->yGo l L sec (.tmp t) x ys o.dst st pre (fun st pre=>zJV T l L sec ops os st pre K)->o.wpIn (FR none) 0 P a w (wpListIn (FR none) 0 P ops Q os) Q:=fun h hk =>
    zTT hY ho hop hd hj h hk fun B1 st' pre' a' w' hd' hj' hk' h'=>zIC R hY os hall' hd' hj' h' hk' hQ
   have skip: ∀ {st:St},GA B N st a w->zJV T l L sec ops os (st.put o.dst .undef) pre K->wpListIn (FR none) 0 P ops Q os (a.put o.dst undef) w:=fun h hk =>
    zIC R hY os hall' hd hj (zBG h ho) hk hQ
   simp only [wpListIn];cases hg:o.guard with
   | none =>
     simp only [hg] at hk;have:Region.wanted o (yielded ops a.tmps)=true:=by simp [Region.wanted,hg]
     rw [if_pos this];exact go h hk
   | some jw =>
     obtain ⟨j,want⟩:=jw;simp only [hg] at hk;obtain ⟨σ,β,hgg⟩:=h.gg;split at hk
     case h_2=>exact hk.elim
     rename_i b hb;obtain ⟨d,hd1,hd2⟩:=j8 (ops:=ops) (env:=st.env) (j:=j) (by rw [hb];simp);rw [hd2] at hb;have hv:=hgg.env d;rw [hb] at hv;have hy:=zEu (ops:=ops) hd1 (show a.tmps.getD d undef= .bool b from hv);rw [hd1] at hk;cases b with
     | true =>
       cases want with
       | true =>
         rw [if_pos (by simp [Region.wanted,hg,hy])];exact go (zBv h hb) hk
       | false =>
         rw [if_neg (by simp [Region.wanted,hg,hy])];exact ⟨fun f _=>trivial,skip (zBv h hb) hk⟩
     | false =>
       cases want with
       | true =>
         rw [if_neg (by simp [Region.wanted,hg,hy])];exact ⟨fun f _=>trivial,skip (zBv h hb) hk⟩
       | false =>
         rw [if_pos (by simp [Region.wanted,hg,hy])];exact go (zBv h hb) hk
theorem zWa (R:jM P T) {l:Nat} {L:List Int} {sec:zMm} {J:List Int->Sig->World->Prop}
 (hY:YOk P l L sec J) :
 ∀ (c:Code) {B:Base} {st:St} {a:Act} {w:World} {pre:List Int} {K:Exit->St->List Int->Prop} {Q:Exit->Act->World->Prop},codeOk N c=true->B.dfs=[]->J pre B.sg B.w->GA B N st a w->zDt T l L sec c st pre K->
 (∀ e B1 st' pre' a' w',B1.dfs=[]->J pre' B1.sg B1.w->K e st' pre'->GA B1 N st' a' w'->Q e a' w')->c.wpIn (FR none) 0 P Q a w:=by
 intro c
 induction c with
 | skip=>intro B st a w pre K Q _ hd hj h hk hQ;exact wpIn_skip (hQ _ _ _ _ _ _ hd hj hk h)
 | exit i=>intro B st a w pre K Q _ hd hj h hk hQ;exact wpIn_exit (hQ _ _ _ _ _ _ hd hj hk h)
 | ret=>intro B st a w pre K Q _ hd hj h hk hQ;exact wpIn_ret (hQ _ _ _ _ _ _ hd hj hk h)
 | seq x y ihx ihy =>
   intro B st a w pre K Q hok hd hj h hk hQ;simp only [codeOk,zC] at hok;refine wpIn_seq (ihx hok.1 hd hj h hk fun e B1 st' pre' a' w' hd' hj' hk' h'=> ?_);cases e with
   | normal=>exact ihy hok.2 hd' hj' h' hk' hQ
   | _=>exact hQ _ _ _ _ _ _ hd' hj' hk' h'
 | cond c x y ihx ihy =>
   intro B st a w pre K Q hok hd hj h hk hQ;simp only [codeOk,zC] at hok;simp only [zDt] at hk;split at hk
   ·rename_i t ht;have hev:=zJ3 h hok.1.1 ht;cases t with
    | true=>exact wpIn_cond_true hev (ihx hok.1.2 hd hj h hk hQ)
    | false=>exact wpIn_cond_false hev (ihy hok.2 hd hj h hk hQ)
   ·exact hk.elim
 | block id c ih =>
   intro B st a w pre K Q hok hd hj h hk hQ;simp only [codeOk] at hok;refine wpIn_block (ih hok hd hj h hk fun e B1 st' pre' a' w' hd' hj' hk' h'=> ?_);cases e with
   | exit i =>
     simp only [Exit.inBlock];dsimp only at hk';split at hk'
     ·rename_i e;rw [if_pos (zH e)];exact hQ _ _ _ _ _ _ hd' hj' hk' h'
     ·rename_i e;rw [if_neg (fun e'=>by subst e';rw [Nat.beq_refl] at e;cases e)];exact hQ _ _ _ _ _ _ hd' hj' hk' h'
   | _=>exact hQ _ _ _ _ _ _ hd' hj' hk' h'
 | loop c ih =>
   intro B st a w pre K Q hok hd hj h hk hQ;simp only [codeOk] at hok;simp only [zDt,St.forceAll_eq] at hk;obtain ⟨X,S,PR,⟨x0,hi0,hp0,hle0⟩,hround⟩:=hk;refine wpIn_loop_ghost (fun m a w=> ∃ x B,S.inv x/\S.mu x=m/\B.dfs=[]/\J (PR x) B.sg B.w/\GA B N (S.head st x) a w) (S.mu x0) ⟨x0,B,hi0,rfl,hd,by rw [hp0];exact hj,h.weaken hle0⟩ ?_;rintro m a w ⟨x,B,hi,rfl,hd,hj,hx⟩;refine ih hok hd hj hx (hround x hi) fun e B1 st' pre' a' w' hd' hj' hk' h'=> ?_
   cases e with
   | normal =>
     obtain ⟨y,hy,hp,hle,hlt⟩:=hk';exact ⟨_,hlt,y,B1,hy,rfl,hd',by rw [hp];exact hj',h'.weaken hle⟩
   | _=>exact hQ _ _ _ _ _ _ hd' hj' hk' h'
 | region id ops draw =>
   intro B st a w pre K Q hok hd hj h hk hQ;simp only [zDt] at hk;split at hk
   ·rename_i hyp
    have hdr:draw=false:=by
     unfold z2Q at hyp;cases draw with
     | false=>rfl
     | true=>cases hyp
    subst hdr;simp only [codeOk,zC,zJ] at hok;refine wpIn_region_list ?_;exact zIC R hY ops.toList hok.1 hd hj h hk fun B1 st' pre' a' w' hd' hj' hk' h'=>hQ _ _ _ _ _ _ hd' hj' hk' h'
   ·exact zA2 R _ hok h hk fun e st' a' w' hk' h'=>hQ _ _ _ _ _ _ hd hj hk' h'
 | _=>intro B st a w pre K Q hok hd hj h hk;exact hk.elim
def zI5 (l:Nat) (ps:List PtV):List AV:= .s (.val (.func (.yield l) #[] #[]))::ps.map fun q=> .s (.pt q.e (some q.x))
def z9Q (L:List Int):Exit->St->List Int->Prop
 | .normal,_,pre=>pre=L
 | .ret,_,pre=>pre=L
 | _,_,_=>False
def zQ0 (T:Tab) (fn:Func) (ps:List PtV) (L:List Int):Prop :=
 match fn.body with
 | some c=> ∀ l:Nat,(St.init (zI5 l ps)).forceAll fun s=>zDt T l L (zPl ps) c s [] (z9Q L)
 | none=>False
theorem zFW {l:Nat} : ∀ {ps:List PtV} {vs:List Value},jQ (fun (q:PtV) u=>jG σ (.pt q.e) (some q.x) [u]) ps vs->jH σ [] (ps.map fun q=>AV.s (.pt q.e (some q.x))) vs
 | [],[],_=>trivial
 | q::ps,v::vs,h=>⟨h.1,zFW (l:=l) h.2⟩
 | [],_::_,h=>h.elim
 | _::_,[],h=>h.elim
theorem seq_ok (R:jM P T) {f:FuncId} {fn:Func} {c:Code} (hf:P.funcs[f]? =some fn) (hb:fn.body=some c) (hok:codeOk fn.ntmps c=true) (hr:fn.results= #[])
 (hn : (fn.name == "runtime.NumGoroutine") = false) {ps : List PtV} (hl : ps.length + 1 ≤ fn.ntmps) {L : List Int} (hL : ∀ x ∈ L, InK .i64 x) (h : zBl (zI5 0 ps) → zQ0 T fn ps L) : z4B P f ps L := by
 refine ⟨fun args w=> ?_,hL,fun σ vs hcap l J W hag hst hY hJ=> ?_⟩
 ·simp only [callFunc,Sem.run_bind,run_program,Result.andThen_ok,hf,hn,hb];simp
 ·have hv:jH σ [] (zI5 l ps) (.func (.yield l) #[] #[]::vs):=⟨⟨rfl,fun cs e=>by cases e⟩,zFW (l:=l) hcap⟩;have hv0:jH σ [] (zI5 0 ps) (.func (.yield 0) #[] #[]::vs):=⟨⟨rfl,fun cs e=>by cases e⟩,zFW (l:=0) hcap⟩;have hk:=h (zCF hv0);simp only [zQ0,hb,St.forceAll_eq] at hk;have hga:=zJA (N:=fn.ntmps) hag hv (by simpa [zI5] using hl);have e1: #[Value.func (.yield l) #[] #[]]++vs.toArray=(Value.func (.yield l) #[] #[]::vs).toArray:=by simp
  rw [e1];refine callsIn_of_wp (F:=Fence.wide) (n:=0) hf hb trivial ?_;rw [<- FR.none];refine zWa (J:=J) (L:=L) R hY c hok rfl hJ hga (hk l) fun e B1 st' pre' a' w' hd' hj' hk' h'=> ?_
  have fin:pre'=L->a'.defers=[]/\∃ v,(results fn a'.tmps).run P w'= .ok v w'/\(∃ v',(Ending.returned v)= .returned v')/\∃ σ',J L σ' w':=by
   intro e;subst e;obtain ⟨vs,hrun,_⟩:=zB5 (P:=P) (w:=w') (fn:=fn) (tmps:=a'.tmps) (Q:=fun r v=>True) (fun r hr'=>by rw [hr] at hr';cases hr');obtain ⟨σ1,β1,hg⟩:=h'.gg;exact ⟨h'.defers.trans hd',_,hrun,⟨_,rfl⟩,_,hst _ _ _ _ hj' hg.bel⟩
  cases e with
  | normal=>exact fin hk'
  | ret=>exact fin hk'
  | _=>exact hk'.elim
end
end Go.Vm
