/- A part of the proofs of the laws. -/
import Derived.Test.YtbfghjbhfgbdnaaVmCodetoVmGrow2
import Derived.Sort.LoopGhostIn
import Derived.LoopNIn
import Derived.KernelRfl
set_option linter.unusedSimpArgs false
set_option linter.unusedVariables false
set_option maxHeartbeats 8000000
set_option maxRecDepth 100000
namespace Go.Vm
open Go.RowKit
section
variable {P:Program} {B:Base} {w:World} {I:Sig} {M:yN} {st:St} {T:Tab} {N:Nat} {a:Act} {r:Option Nat} {n:Nat} {ops:Array Oper} {Q:Exit->Act->World->Prop}
theorem zKk (h:GA B N st a w) (hb:Below B.w.heap.size w {w with drawn:=w.drawn+1}):GA B N st a {w with drawn:=w.drawn+1} :=by
 obtain ⟨I,M,hg⟩:=h.gg;exact ⟨h.defers,h.size,I,M,⟨hg.mem.ag,fun id ob hi=>(hg.mem.ob id ob hi).same (fun _ _=>rfl) fun _ _ _=>rfl⟩,hg.env,hg.len,hg.sep,hg.bel.trans hb,hg.grew⟩
theorem zNB {o:Oper} {t:TypeId} (h:jG o.op=some t):jN o.op=false:=by rw [zG8 h];rfl
theorem zQt {D:List Tmp} : ∀ {l:List Oper},zP0 ops D l=true->∀ o∈l,jN o.op=true->∀ t∈o.looksAt ops,t∉D:=by
 intro l
 induction l with
 | nil=>intro _ o ho;cases ho
 | cons x l ih =>
   intro h o ho hc t ht;simp only [zP0,zA] at h;rcases zP.1 ho with rfl|ho
   ·have:=h.1;simp only [hc,Bool.not_true,Bool.false_or,zO] at this;simpa using this t ht
   ·exact ih h.2 o ho hc t ht
theorem zJK {o:Oper} {t:TypeId} {d:Tmp} (ha:jG o.op=some t) (hd:o.dst=some d): ∀ {l:List Oper},o∈l->d∈zAH l:=by
 intro l
 induction l with
 | nil=>intro ho;cases ho
 | cons x l ih =>
   intro ho;simp only [zAH];rcases zP.1 ho with rfl|ho
   ·rw [ha,hd];simp
   ·have:=ih ho;split
    ·exact zM _ this
    ·exact this
structure PF (B:Base) (N:Nat) (T:Tab) (ops:Array Oper) (k:Nat) (D:List Tmp) (hp:zAG) (nx:Nat) (gf:Nat->List AS) (i:Nat) (env0:Env) (st:St) (a:Act) (w:World):Prop where
 ga:GA B N ⟨env0,hp,nx⟩ a w
 same: ∀ x,x∉D->qQ st.env x=qQ env0 x
 next:st.next=nx+zBa ops.toList i
 ext:z00 nx hp st.hp
 done: ∀ j t,zBN ops k j t->j<i->∃ ti,T.info t=some ti/\hget st.hp (nx+zBa ops.toList j)=some (.flat t (zW9 ops k gf (fun x=>Nat.blt x i) ti.zero j))
 only: ∀ id ob,hget st.hp id=some ob->id<nx\/∃ j t,zBN ops k j t/\j<i/\id=nx+zBa ops.toList j
 slots: ∀ (j:Nat) (t:TypeId) (oj:Oper) (d:Tmp),zBN ops k j t->j<i->ops[j]? =some oj->oj.dst=some d->qQ st.env d= .s (.ptr (nx+zBa ops.toList j) 0 0)
theorem zGP {a b:Nat} :Nat.blt a b=true↔a<b:=by simp [Nat.blt];omega
theorem zKq {i x:Nat} (h:x≠i):Nat.blt x i=Nat.blt x (i+1):=by
 rw [Bool.eq_iff_iff,zGP,zGP];omega
theorem zIL: ∀ (l:List Oper) (i:Nat) (o:Oper),l[i]? =some o->zBa l (i+1)=zBa l i+(match jG o.op with|some _=>1|none=>0)
 | [],i,o,h=>by simp at h
 | x::l,0,o,h=>by
   simp at h;subst h;simp only [zBa];cases l<;>simp only [zBa]<;>cases jG x.op<;>rfl
 | x::l,i+1,o,h=>by
   simp only [zBa];rw [zIL l i o (by simpa using h)];omega
theorem zKi {e:Fr} {d:Option Tmp} {v:AV} {x:Tmp} (h: ∀ t,d=some t->t≠x):upd e d v x=e x:=by
 cases d with
 | none=>rfl
 | some t=>simp only [upd];rw [if_neg (h t rfl)]
theorem zCf (R:zAS P T) {k:Nat} {D:List Tmp} {hp:zAG} {nx:Nat} (hF:zVn ops k) (hDn: ∀ (j:Nat) (o:Oper) (d:Tmp),j<k->ops[j]? =some o->jG o.op=none->o.dst=some d->d∉D) (hD: ∀ (j:Nat) (o:Oper) (t:TypeId) (d:Tmp),j<k->ops[j]? =some o->jG o.op=some t->o.dst=some d->d∈D)
 (hall: ∀ (j:Nat) (o:Oper),j<k->ops[j]? =some o->y4 N o=true/\zSn o=true/\(jN o.op=true->∀ t∈o.looksAt ops,t∉D)) :
 ∀ (l1 l2:List Oper) (i:Nat) {gf0:Nat->List AS} {st:St} {env0:Env} {a:Act} {w:World} {K:St->Prop},i+l1.length=k->(∀ j:Nat,j<l1.length->l1[j]? =ops[i+j]?)->PF B N T ops k D hp nx gf0 i env0 st a w->zBj T true ops (l1++l2) st K->
 ∃ gf env0' st' a' w',(∀ x,x<i->gf x=gf0 x)/\zGr (Yields T ops hp nx gf) (qQ st'.env) i l1 (qQ st.env)/\zBj T true ops l2 st' K/\PF B N T ops k D hp nx gf k env0' st' a' w'
 | [],l2,i,gf0,st,env0,a,w,K,hik,_,h,hk=>by
   simp only [List.length_nil,zBX] at hik;subst hik;exact ⟨gf0,env0,st,a,w,fun _ _=>rfl,rfl,hk,h⟩
 | o ::l1,l2,i,gf0,st,env0,a,w,K,hik,hl,h,hk=>by
   simp only [zZ] at hik;have h0:ops[i]? =some o:=by simpa using (hl 0 (by simp)).symm
   have h0l:ops.toList[i]? =some o:=by simpa using h0
   have hl': ∀ j:Nat,j<l1.length->l1[j]? =ops[i+1+j]? :=fun j hj=>by
    have:=hl (j+1) (by simp;omega);simpa [zAP,Nat.add_comm 1 j] using this
   obtain ⟨ho,hpre,hlook⟩:=hall i o (by omega) h0;obtain ⟨env1,hp1,nx1⟩:=st;cases ha:jG o.op with
   | some t =>
     have hop:=zG8 ha
     have hg:o.guard=none:=by
      unfold zSn at hpre;rw [zNB ha] at hpre;simp only [Bool.false_or,zA] at hpre;exact Option.isNone_iff_eq_none.1 hpre.2
     have nini: ∀ {i' j:Nat},initOf ops k j=some i'->i'≠i:=fun {i' j} hj e=>by
      obtain ⟨_,o',_,_,_,_,ho',_,hin,_⟩:=zA9 hj;rw [e,h0] at ho';cases ho';rw [zGy hin] at ha;cases ha
     have hat:zBN ops k i t:=⟨by omega,o,h0,ha⟩;have hsucc:=zIL _ _ _ h0l;rw [ha] at hsucc;simp only at hsucc;simp only [zCZ,zBj,hg] at hk
     have hastep:zCR T true o ⟨env1,hp1,nx1⟩=(match T.info t with|some ti=>some (none,none,zC5 ⟨env1,hp1,nx1⟩ o.dst t ti.zero)|none=>none):=by
      simp only [zCR,zAJ,zAh,hop,zEq,zLT,zI7];cases T.info t<;>rfl
     simp only [aop] at hk;unfold zRM at hk;rw [hastep] at hk;simp only [St.force_eq] at hk;cases hti:T.info t with
     | none=>rw [hti] at hk;exact hk.elim
     | some ti =>
       rw [hti] at hk;simp only at hk;have hnx:nx1=nx+zBa ops.toList i:=h.next
       have e1:zC5 ⟨env1,hp1,nx1⟩ o.dst t ti.zero=(⟨env1,(nx1,.flat t ti.zero)::hp1,nx1+1⟩:St).put o.dst (.s (.ptr nx1 0 0)):=rfl;rw [e1] at hk;obtain ⟨env',e2,e3⟩:=zCK env1 ((nx1,.flat t ti.zero)::hp1) (nx1+1) o.dst (.s (.ptr nx1 0 0));rw [e2] at hk
       have hPF:PF B N T ops k D hp nx gf0 (i+1) env0 ⟨env',(nx1,.flat t ti.zero)::hp1,nx1+1⟩ a w:=by
        refine ⟨h.ga,fun x hx=> ?_,by show nx1+1=_;rw [hsucc];omega,fun id hid=> ?_,fun j u hj hji=> ?_,fun id ob hi=> ?_,fun j u oj d hj hji hoj hd=> ?_⟩
        ·show qQ env' x=_;rw [e3,zKi fun d hd e=>hx (by subst e;exact hD i o t d (by omega) h0 ha hd)];exact h.same x hx
        ·rw [yB,if_neg (by omega)];exact h.ext id hid
        ·show ∃ ti',_/\hget ((nx1,.flat t ti.zero)::hp1) _=_;rw [yB]
         by_cases e:i=j
         ·subst e;obtain ⟨_,o',ho',ha'⟩:=hj;rw [h0] at ho';cases ho';rw [ha] at ha';cases ha';refine ⟨ti,hti,?_⟩;rw [if_pos hnx,zE8 fun i' hi'=> ?_];obtain ⟨hi'k,o',oj',t',d',x',r1,r2,r3,r4⟩:=zA9 hi';rw [h0] at r2;cases r2;obtain ⟨j2,oj2,s1,s2,s3,s4⟩:=hF.has _ _ _ _ _ hi'k r1 r3;have:=hF.inj i j2 _ _ _ _ _ (by omega) (by omega) h0 s2 ha s3 r4 s4;subst this;rw [<- zA0,zGP];omega
         ·rw [if_neg (fun e'=>e (zEc hat hj (by omega)))];obtain ⟨ti',q1,q2⟩:=h.done j u hj (by omega);refine ⟨ti',q1,?_⟩;rw [show hget hp1 (nx+zBa ops.toList j)=_ from q2,zBl (gf':=gf0) (was':=fun x=>Nat.blt x (i+1)) fun i' hi'=>⟨zKq (nini hi'),fun _=>rfl⟩]
        ·simp only [yB] at hi;split at hi
         ·rename_i e;exact .inr ⟨i,t,hat,by omega,by omega⟩
         ·rcases h.only id ob hi with q|⟨j,u,q1,q2,q3⟩
          ·exact .inl q
          ·exact .inr ⟨j,u,q1,by omega,q3⟩
        ·show qQ env' d=_;rw [e3]
         by_cases e:i=j
         ·subst e;rw [h0] at hoj;cases hoj;rw [hd];simp only [upd,if_true];rw [hnx]
         ·rw [zKi fun d' hd' e'=>e (by
           subst e';obtain ⟨_,o',ho',ha'⟩:=hj;rw [hoj] at ho';cases ho'
           exact hF.inj i j _ _ _ _ _ (by omega) (by omega) h0 hoj ha ha' hd' hd)]
          exact h.slots j u oj d hj (by omega) hoj hd
       obtain ⟨gf,env0',st',a',w',r0,r1,r2,r3⟩:=zCf R hF hDn hD hall l1 l2 (i+1) (by omega) hl' hPF hk;refine ⟨gf,env0',st',a',w',fun x hx=>r0 x (by omega),⟨.s (.ptr nx1 0 0),?_,?_⟩,r2,r3⟩
       ·unfold Yields;rw [ha];exact ⟨hg,by rw [hti];rfl,by rw [hnx]⟩
       ·show zGr (Yields T ops hp nx gf) _ (i+1) l1 (upd (qQ env1) o.dst _);rw [<- e3];exact r1
   | none =>
    have hsucc:=zIL _ _ _ h0l;rw [ha] at hsucc;simp only [zBX] at hsucc;cases hin:zBG o.op with
    | some tdx =>
     obtain ⟨t,d,x⟩:=tdx;have hop:=zIZ hin
     have hg:o.guard=none:=by
      unfold zSn at hpre;rw [hop] at hpre;simp only [jN,jG,zBG,Bool.false_or,Option.isSome_none,Option.isSome_some,Bool.true_and] at hpre;exact Option.isNone_iff_eq_none.1 hpre
     obtain ⟨j,oj,hji,hoj,haj,hdj⟩:=hF.has i o t d x (by omega) h0 hin;have hat:zBN ops k j t:=⟨by omega,oj,hoj,haj⟩;have hof:initOf ops k j=some i:=hF.initOf i j o oj t t d x (by omega) (by omega) h0 hoj hin haj hdj;have hsl:qQ env1 d= .s (.ptr (nx+zBa ops.toList j) 0 0):=h.slots j t oj d hat hji hoj hdj;obtain ⟨ti,hti,hhp⟩:=h.done j t hat hji;rw [zE8 fun i' hi'=>by rw [hof] at hi';cases hi';rw [<- zA0,zGP];omega] at hhp
     have hhp:hget hp1 (nx+zBa ops.toList j)=some (.flat t ti.zero):=hhp;simp only [zCZ,zBj,hg] at hk
     have hastep:zCR T true o ⟨env1,hp1,nx1⟩=zCB T t (.s (.ptr (nx+zBa ops.toList j) 0 0)) (jW env1 x) ⟨env1,hp1,nx1⟩ o.dst:=by
      simp only [zCR,zAJ,zAh,hop,zEq,zLT,zI7];rw [show jW env1 (.tmp d)=_ from hsl]
     simp only [aop] at hk;unfold zRM at hk;rw [hastep] at hk;simp only [St.force_eq] at hk;cases hes:zCB T t (.s (.ptr (nx+zBa ops.toList j) 0 0)) (jW env1 x) ⟨env1,hp1,nx1⟩ o.dst with
     | none=>rw [hes] at hk;exact hk.elim
     | some res =>
       obtain ⟨m,hfl,c1,c2,c3,hres⟩:=zI2 hes hhp;rw [hes,hres] at hk;simp only at hk;obtain ⟨env',e2,e3⟩:=zCK env1 (zBZ hp1 (nx+zBa ops.toList j) (.flat t (zAk ti.zero 0 m))) nx1 o.dst .undef;rw [e2] at hk;have hset_get: ∀ id,hget (zBZ hp1 (nx+zBa ops.toList j) (.flat t (zAk ti.zero 0 m))) id=if id=nx+zBa ops.toList j then some (.flat t (zAk ti.zero 0 m)) else hget hp1 id:=fun id=>zAx ⟨_,hhp⟩;obtain ⟨env0',e4,e5⟩:=zCK env0 hp nx o.dst .undef
       have hga:=zFQ h.ga ho;rw [e4] at hga
       let gf1:Nat->List AS:=fun y=>if y=i then m else gf0 y
       have hg1:gf1 i=m:=if_pos rfl;have hg2: ∀ y,y≠i->gf1 y=gf0 y:=fun y hy=>if_neg hy
       have hPF:PF B N T ops k D hp nx gf1 (i+1) env0' ⟨env',zBZ hp1 (nx+zBa ops.toList j) (.flat t (zAk ti.zero 0 m)),nx1⟩ (a.put o.dst undef) w:=by
        refine ⟨hga,fun y hy=> ?_,by rw [hsucc];exact h.next,fun id hid=> ?_,fun j' u hj' hji'=> ?_,fun id ob hi=> ?_,fun j' u oj' d' hj' hji' hoj' hd'=> ?_⟩
        ·show qQ env' y=_;rw [e3,e5];cases hd:o.dst with
         | none=>exact h.same y hy
         | some d =>
           simp only [upd];split
           ·rfl
           ·exact h.same y hy
        ·show hget (zBZ hp1 _ _) id=_;rw [hset_get,if_neg (by omega)];exact h.ext id hid
        ·show ∃ ti',_/\hget (zBZ hp1 _ _) _=_;rw [hset_get]
         have hne:j'≠i:=fun e=>by
          subst e;obtain ⟨_,o',ho',ha'⟩:=hj';rw [h0] at ho';cases ho';rw [ha] at ha';cases ha'
         by_cases e:j'=j
         ·subst e;obtain ⟨_,o',ho',ha'⟩:=hj';rw [hoj] at ho';cases ho';rw [haj] at ha';cases ha';exact ⟨ti,hti,by rw [if_pos rfl,zMd (was:=fun x=>Nat.blt x (i+1)) hof (zGP.2 (Nat.lt_succ_self i)),hg1]⟩
         ·rw [if_neg (fun e'=>e (zEc hj' hat (by omega)))];obtain ⟨ti',q1,q2⟩:=h.done j' u hj' (by omega);refine ⟨ti',q1,?_⟩;rw [show hget hp1 (nx+zBa ops.toList j')=_ from q2,zBl (gf':=gf1) (was':=fun x=>Nat.blt x (i+1)) fun i' hi'=> ?_]
          have hii:i'≠i:=fun e=>by
           subst e;obtain ⟨_,o',oj',t',d',x',r1,r2,r3,r4⟩:=zA9 hi';obtain ⟨hjk',o2,ho2,ha2⟩:=hj';rw [h0] at r1;cases r1;rw [hin] at r3;cases r3;rw [ho2] at r2;cases r2;exact absurd (hF.inj j' j _ _ _ _ _ hjk' (by omega) ho2 hoj ha2 haj r4 hdj) (by assumption)
          exact ⟨zKq hii,fun _=>(hg2 i' hii).symm⟩
        ·have hi:hget (zBZ hp1 (nx+zBa ops.toList j) (.flat t (zAk ti.zero 0 m))) id=some ob:=hi;rw [hset_get] at hi;split at hi
         ·rename_i e;exact .inr ⟨j,t,hat,by omega,e⟩
         ·rcases h.only id ob hi with q|⟨j',u,q1,q2,q3⟩
          ·exact .inl q
          ·exact .inr ⟨j',u,q1,by omega,q3⟩
        ·have hne:j'≠i:=fun e=>by
          subst e;obtain ⟨_,o',ho',ha'⟩:=hj';rw [h0] at ho';cases ho';rw [ha] at ha';cases ha'
         show qQ env' d'=_;obtain ⟨hjk',o',ho',ha'⟩:=hj';rw [hoj'] at ho';cases ho';rw [e3,zKi fun d2 hd2 e=>hF.dst i o d' j' oj' u (by omega) hjk' h0 hoj' ha ha' hd' (by rw [hd2,e])];exact h.slots j' u oj' d' ⟨hjk',oj',hoj',ha'⟩ (by omega) hoj' hd'
       obtain ⟨gf,env0'',st',a',w',r0,r1,r2,r3⟩:=zCf R hF hDn hD hall l1 l2 (i+1) (by omega) hl' hPF hk;refine ⟨gf,env0'',st',a',w',fun y hy=>(r0 y (by omega)).trans (hg2 y (by omega)),⟨.undef,?_,?_⟩,r2,r3⟩
       ·have hgi:gf i=m:=(r0 i (by omega)).trans hg1;unfold Yields;rw [ha,hin];exact ⟨hg,rfl,j,oj,ti,hji,hoj,haj,hdj,hsl,hti,by rw [zBU,hgi];exact hfl,by rw [hgi];exact c1,by rw [hgi];exact c2,by rw [hgi];exact c3⟩
       ·show zGr (Yields T ops hp nx gf) _ (i+1) l1 (upd (qQ env1) o.dst _);rw [<- e3];exact r1
    | none =>
     have hc:jN o.op=true:=by
      unfold zSn at hpre;rw [ha,hin] at hpre;simpa using hpre
     have hlook:=hlook hc
     have nini: ∀ {i' j:Nat},initOf ops k j=some i'->i'≠i:=fun {i' j} hj e=>by
      obtain ⟨_,o',_,_,_,_,ho',_,hin',_⟩:=zA9 hj;rw [e,h0] at ho';cases ho';rw [hin] at hin';cases hin'
     -- the same frame, as far as this operation looks
     have hev: ∀ x∈o.op.operands,jW env1 x=jW env0 x:=fun x hx=>by
      cases x with
      | tmp t=>exact h.same t (hlook t (by
         simp only [Oper.looksAt,zY,List.mem_filterMap]
         exact .inl ⟨.tmp t,by simpa using hx,rfl⟩))
      | _=>rfl
     have hlow: ∀ x∈o.op.operands,(jW env1 x).low nx:=fun x hx=>by
      rw [hev x hx];obtain ⟨I,M,hg⟩:=h.ga.gg
      have hx':zED x=true:=by
       simp only [y4,zA,zO] at ho;exact ho.2 x (by simpa using hx)
      have:=(jY hg hx').low;rw [hg.len] at this;exact this
     have hcong: ∀ hp2,z00 nx hp hp2->zAh T o.op (jW env1) hp2=zAh T o.op (jW env0) hp:=fun hp2 hh=>by
      rw [zQ0 hlow hh (let ⟨_,_,hg⟩:=h.ga.gg;hg.flatOk),zDe hev]
     have hPF: ∀ {v:AV} {a':Act} {w':World} {env1':Env},qQ env1'=qQ env1->GA B N ((⟨env0,hp,nx⟩:St).put o.dst v) a' w'->∃ env0' env',(⟨env1',hp1,nx1⟩:St).put o.dst v=⟨env',hp1,nx1⟩/\qQ env'=upd (qQ env1) o.dst v/\PF B N T ops k D hp nx gf0 (i+1) env0' ⟨env',hp1,nx1⟩ a' w':=by
      intro v a' w' env1' hE hga;obtain ⟨env0',e1,e2⟩:=zCK env0 hp nx o.dst v;obtain ⟨env',e3,e4⟩:=zCK env1' hp1 nx1 o.dst v;rw [e1] at hga;refine ⟨env0',env',e3,by rw [e4,hE],hga,fun x hx=> ?_,by rw [hsucc];exact h.next,h.ext,fun j u hj hji=> ?_,fun id ob hi=> ?_,fun j u oj d hj hji hoj hd=> ?_⟩
      ·show qQ env' x=_;rw [e4,e2,hE];cases hd:o.dst with
       | none=>exact h.same x hx
       | some d =>
         simp only [upd];split
         ·rfl
         ·exact h.same x hx
      ·have hlt:j<i:=by
        rcases Nat.lt_or_ge j i with q|q
        ·exact q
        ·obtain rfl:j=i:=by omega
         obtain ⟨_,o',ho',ha'⟩:=hj;rw [h0] at ho';cases ho';rw [ha] at ha';cases ha'
       obtain ⟨ti',q1,q2⟩:=h.done j u hj hlt;refine ⟨ti',q1,?_⟩;rw [show hget hp1 (nx+zBa ops.toList j)=_ from q2,zBl (gf':=gf0) (was':=fun x=>Nat.blt x (i+1)) fun i' hi'=>⟨zKq (nini hi'),fun _=>rfl⟩]
      ·rcases h.only id ob hi with q|⟨j,u,q1,q2,q3⟩
       ·exact .inl q
       ·exact .inr ⟨j,u,q1,by omega,q3⟩
      ·have hlt:j<i:=by
        rcases Nat.lt_or_ge j i with q|q
        ·exact q
        ·obtain rfl:j=i:=by omega
         obtain ⟨_,o',ho',ha'⟩:=hj;rw [h0] at ho';cases ho';rw [ha] at ha';cases ha'
       show qQ env' d=_;obtain ⟨hjk',o',ho',ha'⟩:=hj;rw [hoj] at ho';cases ho';rw [e4,hE,zKi fun d2 hd2 e=>hF.dst i o d j oj u (by omega) hjk' h0 hoj ha ha' hd (by rw [hd2,e])];exact h.slots j u oj d ⟨hjk',oj,hoj,ha'⟩ hlt hoj hd
     -- one step
     have run: ∀ {env1':Env},qQ env1'=qQ env1->jM ops (qQ env1) o=some true->aop T true o ⟨env1',hp1,nx1⟩ (fun st'=>zBj T true ops (l1++l2) st' K)->
      ∃ gf env0' st' a' w',(∀ x,x<i->gf x=gf0 x)/\zGr (Yields T ops hp nx gf) (qQ st'.env) i (o::l1) (qQ env1)/\zBj T true ops l2 st' K/\PF B N T ops k D hp nx gf k env0' st' a' w':=by
      intro env1' hE hw hk;have hEv:jW env1'=jW env1:=by rw [<- zBU,<- zBU,hE]
      have core: ∀ {p q:Option Prop} {st':St},zCR T true o ⟨env1',hp1,nx1⟩=some (p,q,st')->Opt p/\(Opt q->zBj T true ops (l1++l2) st' K->
       ∃ gf env0' st' a' w',(∀ x,x<i->gf x=gf0 x)/\zGr (Yields T ops hp nx gf) (qQ st'.env) i (o::l1) (qQ env1)/\zBj T true ops l2 st' K/\PF B N T ops k D hp nx gf k env0' st' a' w'):=by
       intro p q st' hs;unfold zCR at hs;simp only at hs;split at hs
       ·rename_i res hcs;cases Option.some.inj hs;unfold zAJ at hcs;split at hcs
        ·rename_i p' q' v hv;cases hcs;simp only [hEv] at hv;have hv0:=hv;rw [hcong hp1 h.ext] at hv0;obtain ⟨h1,h2⟩:=zKz (r:=none) (n:=0) R h.ga ho hv0;refine ⟨h1,fun hq hk'=> ?_⟩;obtain ⟨a',w',hga'⟩:=zC9 (h2 hq (K:=fun a' w'=>GA B N ((⟨env0,hp,nx⟩:St).put o.dst v) a' w') (Q:=fun _ _ _=>False) fun _ _ h=>h);obtain ⟨env0',env',e1,e2,hpf⟩:=hPF hE hga';rw [e1] at hk';obtain ⟨gf,env0',st',a2,w2,r0,r1,r2,r3⟩:=zCf R hF hDn hD hall l1 l2 (i+1) (by omega) hl' hpf hk'
         refine ⟨gf,env0',st',a2,w2,fun x hx=>r0 x (by omega),⟨v,?_,?_⟩,r2,r3⟩
         ·unfold Yields;rw [ha,hin];refine .inl ⟨hw,p,q,fun hp2 hh=> ?_,hq⟩;rw [zBU,hcong hp2 hh];exact hv0
         ·rw [e2] at r1;exact r1
        ·cases hcs
       ·rename_i hcs;rw [zF4 hc hcs] at hs;cases hs
      simp only [aop] at hk;unfold zRM at hk;simp only [St.force_eq] at hk;split at hk
      ·rename_i st' hs;exact (core hs).2 trivial hk
      ·rename_i p st' hs;obtain ⟨h1,h2⟩:=core hs;exact h2 trivial (hk.out h1)
      ·rename_i q st' hs;obtain ⟨h1,h2⟩:=core hs;obtain ⟨k1,k2⟩:=hk.out;exact h2 k1 k2
      ·rename_i p q st' hs;obtain ⟨h1,h2⟩:=core hs;obtain ⟨k1,k2⟩:=(hk.out h1).out;exact h2 k1 k2
      ·exact hk.elim
     have skip: ∀ {env1':Env},qQ env1'=qQ env1->jM ops (qQ env1) o=some false->zBj T true ops (l1++l2) ((⟨env1',hp1,nx1⟩:St).put o.dst .undef) K->
      ∃ gf env0' st' a' w',(∀ x,x<i->gf x=gf0 x)/\zGr (Yields T ops hp nx gf) (qQ st'.env) i (o::l1) (qQ env1)/\zBj T true ops l2 st' K/\PF B N T ops k D hp nx gf k env0' st' a' w':=by
      intro env1' hE hw hk;obtain ⟨env0',env',e1,e2,hpf⟩:=hPF hE (zFQ h.ga ho);rw [e1] at hk;obtain ⟨gf,env0',st',a2,w2,r0,r1,r2,r3⟩:=zCf R hF hDn hD hall l1 l2 (i+1) (by omega) hl' hpf hk;refine ⟨gf,env0',st',a2,w2,fun x hx=>r0 x (by omega),⟨.undef,?_,?_⟩,r2,r3⟩
      ·unfold Yields;rw [ha,hin];exact .inr ⟨hw,rfl⟩
      ·rw [e2] at r1;exact r1
     simp only [zCZ,zBj,St.force_eq] at hk;cases hg:o.guard with
     | none =>
       simp only [hg] at hk;exact run rfl (by simp [jM,hg]) hk
     | some jw =>
       obtain ⟨j,want⟩:=jw;simp only [hg] at hk;split at hk
       ·rename_i b hb;obtain ⟨d,hd,hd2⟩:=zAT (ops:=ops) (env:=env1) (j:=j) (by rw [hb];simp);rw [hd2] at hb;rw [hd] at hk;have hw:jM ops (qQ env1) o=some (b==want):=by simp [jM,hg,hd,hb]
        have hE: ∀ b',qQ env1 d= .s (.bool b')->qQ ((d,.s (.bool b'))::env1)=qQ env1:=fun b' hb'=>by
         funext x;rw [j8];split
         ·rename_i e;subst e;exact hb'.symm
         ·rfl
        cases b with
        | true =>
          cases want with
          | true=>exact run (hE _ hb) hw hk
          | false=>exact skip (hE _ hb) hw hk
        | false =>
          cases want with
          | true=>exact skip (hE _ hb) hw hk
          | false=>exact run (hE _ hb) hw hk
       ·rename_i vs hb;obtain ⟨d,hd,hd2⟩:=zAT (ops:=ops) (env:=env1) (j:=j) (by rw [hb];simp);rw [hd2] at hb;exact skip rfl (by simp [jM,hg,hd,hb]) hk
       ·exact hk.elim
theorem zGQ {l m:Array Bool} (hs:l.size=m.size) (h: ∀ i,l.getD i true=m.getD i true):l=m:=by
 apply Array.ext hs;intro i h1 h2;have:=h i;simpa [zK,h1,h2] using this
theorem fold_size (k:Nat) (l:Array Bool):((List.range k).foldl (fun l i=>l.setIfInBounds i true) l).size=l.size:=by
 induction k with
 | zero=>rfl
 | succ k ih=>rw [List.range_succ,z3c];simpa using ih
theorem zEa (k:Nat) (l:Array Bool) (i:Nat):((List.range k).foldl (fun l i=>l.setIfInBounds i true) l).getD i true=if i<k then true else l.getD i true:=by
 induction k with
 | zero=>simp
 | succ k ih =>
   rw [List.range_succ,z3c];simp only [List.foldl_cons,List.foldl_nil]
   by_cases hi:k=i
   ·subst hi;rw [if_pos (Nat.lt_succ_self k)];rcases Nat.lt_or_ge k l.size with h'|h'
    ·simp [zK,qR,fold_size,h']
    ·have:(((List.range k).foldl (fun l i=>l.setIfInBounds i true) l).setIfInBounds k true).size<=k:=by simpa [fold_size] using h'
     simp [zK,yX this]
   ·rw [getD_set_ne true hi,ih]
    by_cases h1:i<k
    ·rw [if_pos h1,if_pos (by omega)]
    ·rw [if_neg h1,if_neg (by omega)]
theorem zNw (n:Nat):Dn ops (Array.replicate n false):=fun j i hj _=>by
 rw [zK,zBO] at hj;split at hj<;>simp at hj
theorem zEQ (R:zAS P T) {id:Nat} (hall: ∀ o∈ops.toList,y4 N o=true) {k:Nat} (hB:zPh ops k=true) {K:St->Prop} (h:GA B N st a w) (hk:zBj T true ops ops.toList st K)
 (hQ: ∀ st' a' w',K st'->GA B N st' a' w'->Q .normal a' w'):(Code.region id ops true).wpIn (FR r) n P Q a w:=by
 have hall2: ∀ (i:Nat) (o:Oper),ops[i]? =some o->y4 N o=true:=fun i o e=>hall o (by
  obtain ⟨hi,e⟩:=zR.1 e;subst e;simp)
 obtain ⟨env,hp,nx⟩:=st;simp only [zPh,zA] at hB;obtain ⟨⟨⟨hBk,hBp⟩,hBf⟩,⟨hB0,hB1⟩,hB2⟩:=hB;have hF:zVn ops k:=zWJ hBf;have hkle:k<=ops.size:=zU hBk;have hsplit:ops.toList.take k++ops.toList.drop k=ops.toList:=zAU _ _;have hlen1:(ops.toList.take k).length=k:=by simp;omega
 have hlen2:(ops.toList.drop k).length=ops.size - k:=by simp
 have hmem: ∀ (j:Nat) (o:Oper),j<k->ops[j]? =some o->o∈ops.toList.take k:=fun j o hj ho=>by
  rw [zAs];exact ⟨j,by rw [yS,if_pos hj];simpa using ho⟩
 rw [<- hsplit] at hk;have hbd:Below B.w.heap.size w {w with drawn:=w.drawn+1} :=⟨⟨rfl,rfl,rfl,zI _,fun _ _=>rfl⟩,Nat.le_succ _⟩
 have hpf:PF B N T ops k (zAH (ops.toList.take k)) hp nx (fun _=>[]) 0 env ⟨env,hp,nx⟩ a w:=⟨h,fun _ _=>rfl,by cases ops.toList<;>simp [zBa],fun _ _=>rfl,fun j t _ hj=>absurd hj (by omega),fun id ob hi=>by
  obtain ⟨I,M,hg⟩:=h.gg
  exact .inl (hg.id_lt hi),fun j t oj d _ hj=>absurd hj (by omega)⟩
 obtain ⟨gf,env0',st',a',w',_,hlex,htl,hpf'⟩:=zCf (k:=k) R hF (fun j o d hj ho ha hd=>by
  simp only [zLJ,zA] at hBf
  exact zGS hBf.1.2 o (hmem j o hj ho) ha d hd) (D:=zAH (ops.toList.take k)) (fun j o t d hj ho ha hd=>zJK ha hd (hmem j o hj ho))
  (fun j o hj ho=>⟨hall2 j o ho,zO.1 hBp o (hmem j o hj ho),zQt hB0 o (hmem j o hj ho)⟩) (ops.toList.take k) (ops.toList.drop k) 0 (by rw [hlen1];omega) (fun j hj=>by
    rw [hlen1] at hj
    rw [yK,yS,if_pos hj];simp) hpf hk
 refine wpIn_region_any R.mixed ?_
 have hany:=zHs (fun _ _ _ _ _ _ h=>Yields.of_apart h) (k:=k) (ops.toList.take k) 0 (Array.replicate ops.size false) (qQ env) (by rw [hlen1];omega) (fun j hj=>by
  rw [hlen1] at hj
  rw [yK,yS,if_pos hj];simp) (fun j hj=>by omega) (by rw [hlen1];exact hB1) (zNw _) hlex
 rw [hlen1] at hany
 -- the free places
 obtain ⟨I,M,hg⟩:=(zKk h hbd).gg;obtain ⟨β',hg',hfree⟩:=hg.frees (zBa ops.toList k)
 have hrf:RF B N T ops k hp nx gf (Array.replicate ops.size false) (qQ env) a {w with drawn:=w.drawn+1} env hp β':=by
  refine ⟨rfl,⟨h.defers,h.size,I,hg'⟩,fun _ _=>rfl,fun i t hi hl=> ?_,fun i t hi hl=>⟨?_,hfree _ ?_⟩,fun id ob hi=> .inl (hg.id_lt hi),fun i j t hi hj hl=> ?_⟩
  ·obtain ⟨hik,_⟩:=hi;rw [zK,zBO,if_pos (by omega)] at hl;cases hl
  ·cases e:hget hp (nx+zBa ops.toList i) with
   | none=>rfl
   | some ob=>exact absurd (hg.id_lt e) (by simp)
  ·obtain ⟨hik,o,ho,ha⟩:=hi;exact zNb ha ops.toList i k (by simpa using ho) hik
  ·obtain ⟨hik,_⟩:=zA9 hi;rw [zK,zBO,if_pos (by omega)] at hl;cases hl
 have hfin :=zIF (Q:=Q) (r:=r) (n:=n) (fuel:=ops.size - k) R hall2 (nx:=nx) (N:=N) (B:=B) (gf:=gf) hF ((List.range k).foldl (fun l i=>l.setIfInBounds i true) (Array.replicate ops.size false))
  (fun a1 w1 listed env1 hp1 β1 hlis hl hs hr=>by
    have:listed=_:=zGQ hs hl;subst this;rw [<- hlen2];obtain ⟨env2,hp2,nx2⟩:=st';have hnx2:nx2=nx+zBa ops.toList k:=hpf'.next
    subst hnx2;obtain ⟨σ1,hg1⟩:=hr.gb.gg
    have hga1 :GA B N ⟨env2,hp2,nx+zBa ops.toList k⟩ a1 w1:=⟨hr.gb.defers,hr.gb.size,σ1,β1,hg1.congr hr.look fun id=>by
     by_cases hlt:id<nx
     ·rw [hr.ext id hlt];exact (hpf'.ext id hlt).symm
     ·by_cases hex: ∃ i t,zBN ops k i t/\id=nx+zBa ops.toList i
      ·obtain ⟨i,t,hi,rfl⟩:=hex;obtain ⟨ti,q1,q2⟩:=hr.done i t hi (hlis i hi.1);obtain ⟨ti',q3,q4⟩:=hpf'.done i t hi hi.1;rw [q1] at q3;cases q3;rw [q2,zBl (gf':=gf) (was':=fun x=>Nat.blt x k) fun i' hi'=> ?_]
       ·exact q4.symm
       ·obtain ⟨hik,_⟩:=zA9 hi';exact ⟨by rw [hlis i' hik];exact (zGP.2 hik).symm,fun _=>rfl⟩
      ·have e1:hget hp1 id=none:=by
        cases e:hget hp1 id with
        | none=>rfl
        | some ob=>rcases hr.only id ob e with q|q;exact absurd q hlt;exact absurd q hex
       have e2:hget hp2 id=none:=by
        cases e:hget hp2 id with
        | none=>rfl
        | some ob =>
          rcases hpf'.only id ob e with q|⟨i,t,q1,_,q3⟩
          ·exact absurd q hlt
          ·exact absurd ⟨i,t,q1,q3⟩ hex
       rw [e1,e2]⟩
    exact zFg R hall2 (ops.toList.drop k) k _ (fun j=>by simp) (by rw [hlen2];exact hB2) hga1 htl hQ)
  k (Array.replicate ops.size false) (qQ env) a {w with drawn:=w.drawn+1} env hp β' hany (fun i hi=>by rw [zEa,if_neg (by omega)]) (fun i hi=>by rw [zEa,if_pos hi]) (by rw [fold_size]) hrf
 rw [show k+(ops.size - k)=ops.size by omega] at hfin;exact hfin
theorem zFe (R:zAS P T) {id:Nat} (hall: ∀ o∈ops.toList,y4 N o=true) {ap:Bool} {k:Nat} (hB:zPR ap ops k=true) {K:St->Prop} (h:GA B N st a w) (hk:(ap=false/\zBj T true ops ops.toList st K)\/zIA T ops k ops.toList st K)
 (hQ: ∀ st' a' w',K st'->GA B N st' a' w'->Q .normal a' w'):(Code.region id ops true).wpIn (FR r) n P Q a w:=by
 have hall2: ∀ (i:Nat) (o:Oper),ops[i]? =some o->y4 N o=true:=fun i o e=>hall o (by
  obtain ⟨hi,e⟩:=zR.1 e;subst e;simp)
 simp only [zPR,zA] at hB;obtain ⟨hBk,hBs,hBn,hBt⟩:=hB;have hO:=z06 hBs;have hkle:k<=ops.size:=zU hBk;have hsplit:ops.toList.take k++ops.toList.drop k=ops.toList:=zAU _ _;have hlen1:(ops.toList.take k).length=k:=by simp;omega
 have hlen2:(ops.toList.drop k).length=ops.size - k:=by simp
 rw [<- hsplit] at hk;have hbd:Below B.w.heap.size w {w with drawn:=w.drawn+1} :=⟨⟨rfl,rfl,rfl,zI _,fun _ _=>rfl⟩,Nat.le_succ _⟩
 have hget: ∀ (i:Nat) (o:Oper),(ops.toList.take k)[i]? =some o->i<k/\ops[i]? =some o:=fun i o e=>by
  have hi:=(zG.1 e).1;rw [hlen1] at hi;rw [yS,if_pos hi] at e;exact ⟨hi,by simpa using e⟩
 have hfr0:ap=false->∀ o∈ops.toList.take k,y4 N o=true/\o.guard=none/\(jN o.op|| zVo o.op)=true:=fun hap o ho=>by
  subst hap;obtain ⟨i,hi⟩:=zAs.1 ho;obtain ⟨hik,hio⟩:=hget i o hi;obtain ⟨o',d,ho',hg,_⟩:=hO.get i hik;rw [hio] at ho';cases ho';have h1:=zO.1 hBs i (zW.2 hik);unfold zRZ at h1;rw [hio] at h1;simp only [zA,Bool.false_and,Bool.or_false] at h1;exact ⟨hall2 i o hio,hg,h1.1.1.2⟩
 have hfr: ∀ o∈ops.toList.take k,y4 N o=true/\o.guard=none/\(jN o.op|| zVo o.op|| z8v o.op)=true:=fun o ho=>by
  obtain ⟨i,hi⟩:=zAs.1 ho;obtain ⟨hik,hio⟩:=hget i o hi;obtain ⟨o',d,ho',hg,_,hc,_⟩:=hO.get i hik;rw [hio] at ho';cases ho';exact ⟨hall2 i o hio,hg,hc⟩
 obtain ⟨S,s0,s1,s2,s3⟩: ∃ S:Nat->St,S 0=st/\(∀ i o,(ops.toList.take k)[i]? =some o->zFC T o (S i) (S (i+1)))/\(∀ i,i<=(ops.toList.take k).length->∃ a w,GA B N (S i) a w)/\zBj T true ops (ops.toList.drop k) (S (ops.toList.take k).length) K:=by
  rcases hk with ⟨hap,hk⟩|hk
  ·exact zNI (N:=N) (B:=B) R (ops.toList.drop k) (ops.toList.take k) (hfr0 hap) h hk
  ·have e:zIA T ops k (ops.toList.take k++ops.toList.drop k) st K=zIA T ops (ops.toList.take k).length (ops.toList.take k++ops.toList.drop k) st K:=by rw [hlen1]
   rw [e] at hk;exact zJu (N:=N) (B:=B) R (ops.toList.drop k) (ops.toList.take k) hfr h hk
 rw [hlen1] at s2 s3;have hS:Run T B N ops k S:=⟨fun i o hi ho=>s1 i o (by rw [yS,if_pos hi];simpa using ho),s2⟩;refine wpIn_region_any R.mixed ?_;obtain ⟨I,M,hg⟩:=(zKk h hbd).gg;have hmono:=(hS.keep' hO (i:=0) (j:=k) (by omega) (zI _)).1;rw [s0] at hmono;obtain ⟨β',hg',hfree⟩:=hg.frees ((S k).next - st.next);have hnx:st.next+((S k).next - st.next)=(S k).next:=by omega
 rw [hnx] at hg'
 have mkAbove: ∀ i,MkI S k i->st.next<=(S i).next/\(S i).next<(S k).next:=fun i hi=>by
  have:=(hS.keep' hO (i:=0) (j:=i) (by omega) (by have:=hi.1;omega)).1;rw [s0] at this;exact ⟨this,hS.lt hO hi hi.1 (zI _)⟩
 have hrep: ∀ i,i<ops.size->(Array.replicate ops.size false).getD i true=false:=fun i hi=>by
  rw [zK,zBO,if_pos hi];rfl
 have hrd:RD B N ops k S (Array.replicate ops.size false) a {w with drawn:=w.drawn+1} st.env st.hp β':=by
  refine ⟨⟨h.defers,h.size,I,hg'⟩,fun i o d hi ho hd hl=> ?_,fun t _=>by rw [s0],fun id _=>by rw [s0],fun i hi hl=> ?_,fun i hi _=> ?_,fun id hid=> ?_,fun i hi _=> ?_⟩
  ·rw [hrep i (by omega)] at hl;cases hl
  ·rw [hrep i (by have:=hi.1;omega)] at hl;cases hl
  ·obtain ⟨h1,h2⟩:=mkAbove i hi;have:=hfree ((S i).next - st.next) (by omega);rwa [show st.next+((S i).next - st.next)=(S i).next by omega] at this
  ·cases e:Vm.hget st.hp id with
   | none=>rfl
   | some ob =>
     have hlt:id<st.next:=hg.id_lt e
     exact absurd (by rw [(hS.keep' hO (i:=0) (j:=k) (by omega) (zI _)).2 id (by rw [s0];exact hlt),s0];exact e) (hid ob)
  ·obtain ⟨h1,h2⟩:=mkAbove i hi;cases e:Vm.hget st.hp (S i).next with
   | none=>rfl
   | some ob=>have:(S i).next<st.next:=hg.id_lt e;omega
 have hfin :=zTo (Q:=Q) (r:=r) (n:=n) (fuel:=ops.size - k) R hO hS hkle (fun j hj hjs=>by
  have:=zO.1 hBn j (zW.2 hjs);rw [yO] at this;rcases this with h1|h1
  ·exact absurd (zCL h1) (by omega)
  ·exact h1) hall2 ((List.range k).foldl (fun l i=>l.setIfInBounds i true) (Array.replicate ops.size false))
  (fun a1 w1 listed env1 hp1 β1 hlis hl hs hr=>by
    have:listed=_:=zGQ hs hl;subst this;rw [<- hlen2];obtain ⟨σ1,hg1⟩:=hr.gb.gg
    have hga1:GA B N (S k) a1 w1:=⟨hr.gb.defers,hr.gb.size,σ1,β1,hg1.congr (env':=(S k).env) (hp':=(S k).hp) (by
     funext t
     by_cases hdef: ∃ i o,i<k/\ops[i]? =some o/\o.dst=some t
     ·obtain ⟨i,o,hi,ho,hd⟩:=hdef;exact hr.done i o t hi ho hd (hlis i hi)
     ·rw [hr.was t (fun i o hi ho hd=>absurd ⟨i,o,hi,ho,hd⟩ hdef)]
      exact (hS.env' hO (i:=0) (j:=k) (by omega) (zI _) (fun m om _ h2 hom e=>hdef ⟨m,om,h2,hom,e⟩)).symm) fun id=>by
     by_cases hlt:id<(S k).next
     ·rcases hS.whose hO k (zI _) id hlt with h|⟨i,hi,hmi,rfl⟩
      ·rw [hr.old id h];exact ((hS.keep' hO (i:=0) (j:=k) (by omega) (zI _)).2 id h).symm
      ·exact hr.made i hmi (hlis i hi)
     ·obtain ⟨ak,wk,hk'⟩:=hS.real k (zI _);obtain ⟨_,_,hgk⟩:=hk'.gg;have hn: ∀ ob,Vm.hget (S k).hp id≠some ob:=fun ob e=>hlt (hgk.id_lt e);rw [hr.none id hn];cases e:Vm.hget (S k).hp id with
      | none=>rfl
      | some ob=>exact absurd e (hn ob)⟩
    exact zFg R hall2 (ops.toList.drop k) k _ (fun j=>by simp) (by rw [hlen2];exact hBt) hga1 s3 hQ)
  (left (Array.replicate ops.size false) k) (Array.replicate ops.size false) a {w with drawn:=w.drawn+1} st.env st.hp β' rfl (zNw _) (by simp) (fun i hi=>by rw [zEa,if_neg (by omega)]) (fun i hi=>by rw [zEa,if_pos hi]) (by rw [fold_size]) hrd
 have hleft:left (Array.replicate ops.size false) k=k:=by
  unfold left;rw [List.filter_eq_self.2 (fun i hi=>by rw [hrep i (by have:=zW.1 hi;omega)];rfl)];simp
 rw [hleft,show k+(ops.size - k)=ops.size by omega] at hfin;exact hfin
theorem zJR (R:zAS P T) {id:Nat} (hall: ∀ o∈ops.toList,y4 N o=true) (hB:zTd ops=true) {K:St->Prop} (h:GA B N st a w) (hk:zBj T true ops ops.toList st K)
 (hQ: ∀ st' a' w',K st'->GA B N st' a' w'->Q .normal a' w'):(Code.region id ops true).wpIn (FR r) n P Q a w:=by
 unfold zTd at hB;rw [yO,yO] at hB;rcases hB with (hB|hB)|hB
 ·exact zEQ R hall hB h hk hQ
 ·exact zEQ R hall hB h hk hQ
 ·exact zFe R hall hB h (.inl ⟨rfl,hk⟩) hQ
theorem zVr {env:Env} {hp:zAG} {nx:Nat} (h:GA B N ⟨env,hp,nx⟩ a w):GA B N (St.ghost ⟨env,hp,nx⟩) a w:=by
 obtain ⟨I,M,hg⟩:=h.gg;refine ⟨h.defers,h.size,I,M++[none],?_⟩;exact hg.fresh (d:=none) (ob:= .row .unit 0 []) (q:=none) (a:= .undef) (v:=undef) (fun t e=>by cases e) (fun _ _=>rfl) (Below.refl _ _) (fun p e=>by cases e) ⟨jB _,by rw [<- hg.len];simp⟩ qA.undef
theorem zEr (R:zAS P T) {id:Nat} (hall: ∀ o∈ops.toList,y4 N o=true) {K:St->Prop} (h:GA B N st a w) (hk: ∃ cl d,okG ops cl=true/\zMb T ops cl st fun st1=>zBj T d ops (ops.toList.drop cl.length) st1 K)
 (hQ: ∀ st' a' w',K st'->GA B N st' a' w'->Q .normal a' w'):(Code.region id ops true).wpIn (FR r) n P Q a w:=by
 have hall2: ∀ (i:Nat) (o:Oper),ops[i]? =some o->y4 N o=true:=fun i o e=>hall o (by
  obtain ⟨hi,e⟩:=zR.1 e;subst e;simp)
 obtain ⟨env,hp,nx⟩:=st;obtain ⟨cl,dr,hB,hk⟩:=hk;unfold okG at hB;simp only [zA,zO] at hB;obtain ⟨hBk,hBl,hBw,hBn,hBt⟩:=hB;have hkle:cl.length<=ops.size:=zU hBk;have hlt: ∀ x∈cl,x.1<cl.length:=fun x hx=>zCL (hBl x hx);obtain ⟨hnd,_,hQJ⟩:=zPH (l0:=[]) hBw;simp only [zBQ] at hQJ
 have hkind: ∀ x∈cl,∃ o,ops[x.1]? =some o/\(jN o.op=true\/zRL o=true):=fun x hx=>by
  obtain ⟨l1,l2,e⟩:=List.append_of_mem hx;exact (hQJ l1 x l2 e).1.kind
 have hbd:Below B.w.heap.size w {w with drawn:=w.drawn+1} :=⟨⟨rfl,rfl,rfl,zI _,fun _ _=>rfl⟩,Nat.le_succ _⟩;have hpth:=zZx R hall2 cl hkind h hk;have hlT:(ops.toList.drop cl.length).length=ops.size - cl.length:=by simp
 -- each number is among them
 have hall3: ∀ i,i<cl.length->∃ x∈cl,x.1=i:=fun i hi=>by
  apply yE;intro hno
  have h1:(i::cl.map Prod.fst).Nodup:=yQ.2 ⟨fun hm=>by
   obtain ⟨x,hx,e⟩:=zS.1 hm
   exact hno ⟨x,hx,e⟩,hnd⟩
  have h2:=List.Nodup.length_le_of_subset h1 (l₂:=List.range cl.length) fun j hj=>by
   rcases zP.1 hj with e|e
   ·rw [e];exact zW.2 hi
   ·obtain ⟨x,hx,e⟩:=zS.1 e;rw [<- e];exact zW.2 (hlt x hx)
  rw [zZ,z2,zDg] at h2;omega
 refine wpIn_region_any R.mixed ?_
 have hfin:=zXN (Q:=Q) (r:=r) (n:=n) (fuel:=ops.size - cl.length) (B:=B) (N:=N) (nx:=nx) (k:=cl.length) R hall2 ((List.range cl.length).foldl (fun l i=>l.setIfInBounds i true) (Array.replicate ops.size false))
  (fun j hj hkj=>by
    have:=hBn j (zW.2 hj);rw [yO] at this;rcases this with e|e
    ·have:=zCL e;omega
    ·exact e)
  (fun a3 w3 listed env3 hp3 hlis hl hs he hg=>by
    have:listed=_:=zGQ hs fun i=>by
     by_cases hi:i<cl.length
     ·rw [hlis i hi,zEa,if_pos hi]
     ·exact hl i (by omega)
    subst this;rw [<- hlT];obtain ⟨env4,e4,k4⟩:=he
    have hga:GA B N ⟨env4,hp3,nx⟩ a3 w3:=by
     obtain ⟨I,M,hgg⟩:=hg.gg;exact ⟨hg.defers,hg.size,I,M,hgg.congr e4.symm fun _=>rfl⟩
    exact zFg R hall2 (ops.toList.drop cl.length) cl.length _ (fun j=>by simp) (by rw [hlT];exact hBt) hga k4 hQ)
  cl.length cl (Array.replicate ops.size false) env hp a {w with drawn:=w.drawn+1} rfl hpth (fun l1 x l2 e=>(hQJ l1 x l2 e).1)
  ⟨zNw _,fun x hx=>by
    rw [zK,zBO,if_pos (by have:=hlt x hx;omega)];rfl,fun i hi hno=>by
    obtain ⟨x,hx,e⟩:=hall3 i hi
    exact absurd e (hno x hx),fun i hi=>by rw [zEa,if_neg (by omega)],hnd,hlt,by rw [fold_size],by simp,fun l1 x l2 e o ho ed hed hb=> .inl ((hQJ l1 x l2 e).2 o ho ed hed hb)⟩ (zKk h hbd)
 rw [show cl.length+(ops.size - cl.length)=ops.size by omega] at hfin;exact hfin
theorem zCM (R:zAS P T) {id:Nat} (hall: ∀ o∈ops.toList,y4 N o=true) {K:St->Prop} (h:GA B N st a w) (hk:zZt T ops st K)
 (hQ: ∀ st' a' w',K st'->GA B N st' a' w'->Q .normal a' w'):(Code.region id ops true).wpIn (FR r) n P Q a w:=zEr R hall h (zVe hk) hQ
theorem zQe (R:zAS P T) {id:Nat} {draw:Bool} (hall: ∀ o∈ops.toList,y4 N o=true) (hB:draw=true->zZi ops=true) {K:St->Prop} (h:GA B N st a w) (hk:zOS T ops draw st K)
 (hQ: ∀ st' a' w',K st'->GA B N st' a' w'->Q .normal a' w'):(Code.region id ops draw).wpIn (FR r) n P Q a w:=by
 unfold zOS at hk;cases draw with
 | false=>exact zWF R hall h hk hQ
 | true =>
   have hB:=hB rfl;unfold zZi at hB;simp only at hk;split at hk
   ·split at hk
    ·obtain ⟨k1,k2⟩:=hk.out;exact zFe R hall k1 h (.inr k2) hQ
    ·obtain ⟨env,hp,nx⟩:=st;rw [St.force_eq] at hk;exact zCM R hall (zVr h) hk hQ
   ·rename_i h1;split at hk
    ·exact zCM R hall h hk hQ
    ·rename_i h2;split at hk
     ·split at hk
      ·exact zCM R hall h hk hQ
      ·rename_i h3;split at hk
       ·exact zCM R hall h hk hQ
       ·rename_i h4;split at hk
        ·exact zEr R hall h (zUJ hk) hQ
        ·rw [h1,h2,h3,h4] at hB;exact zJR R hall hB h hk hQ
     ·obtain ⟨k1,k2⟩:=hk.out;exact zFe R hall k1 h (.inr k2) hQ
theorem zNL {env:Env} : ∀ {l:Env},zRO env l->∀ t,qQ l t= .junk\/qQ l t=qQ env t
 | [],_,t=> .inl rfl
 | (k,v)::r,h,t=>by
   rw [j8];split
   ·rename_i e;subst e;exact .inr h.1
   ·exact zNL h.2 t
theorem zEo {hp:zAG} : ∀ {l:zAG},zLm hp l->∀ t ob,hget l t=some ob->hget hp t=some ob
 | [],_,t,ob,e=>by cases e
 | (k,o)::r,h,t,ob,e=>by
   rw [yB] at e;split at e
   ·rename_i e';subst e';cases e;exact h.1.symm
   ·exact zEo h.2 t ob e
theorem zEZ {m:Nat} : ∀ {l:Env},zCS m l=true->∀ t,qQ l t= .junk\/(qQ l t).idsBelow m=true
 | [],_,t=> .inl rfl
 | (k,v)::r,h,t=>by
   simp only [zCS,zA] at h;rw [j8];split
   ·exact .inr h.1
   ·exact zEZ h.2 t
theorem zCO {m:Nat} : ∀ {l:zAG},zDK m l=true->∀ t ob,hget l t=some ob->t<m/\(∀ u cs,ob= .flat u cs->cs.all (AS.idsBelow m)=true)/\(∀ X l,ob= .fr X l->zCS m l=true)
 | [],_,t,ob,e=>by cases e
 | (k,o)::r,h,t,ob,e=>by
   simp only [zDK,zA] at h;rw [yB] at e;split at e
   ·rename_i e';subst e';cases e;refine ⟨Nat.lt_of_succ_le (by simpa [Nat.blt] using h.1.1),fun u cs hc=> ?_,fun X l hc=> ?_⟩
    ·subst hc;exact h.1.2
    ·subst hc;exact h.1.2
   ·exact zCO h.2 t ob e
theorem zBE {M:yN} {m id:Nat} (h:id<m):(M.take m)[id]? =M[id]? :=by rw [yS,if_pos h]
theorem y7.take {m:Nat} {x:AS} {v:Value} (hb:x.idsBelow m=true) (h:y7 I M x v):y7 I (M.take m) x v:=by
 have lt: ∀ {i:Nat},Nat.blt i m=true->i<m:=fun h=>Nat.lt_of_succ_le (by simpa [Nat.blt] using h);cases x with
 | own id s n=>simp only [y7,zBE (lt hb)] at h ⊢;exact h
 | ptr id i k=>simp only [y7,zBE (lt hb)] at h ⊢;exact h
 | pti id i k=>simp only [y7,zBE (lt hb)] at h ⊢;exact h
 | omp id=>simp only [y7,zBE (lt hb)] at h ⊢;exact h
 | arr id n=>simp only [y7,zBE (lt hb)] at h ⊢;exact h
 | _=>exact h
theorem zHx {m:Nat} : ∀ {l:List AS} {ds:List Value},l.all (AS.idsBelow m)=true->jZ (y7 I M) l ds->jZ (y7 I (M.take m)) l ds
 | [],[],_,_=>trivial
 | a::l,d::ds,h,hr=>by
   simp only [qS,zA] at h;exact ⟨y7.take h.1 hr.1,zHx h.2 hr.2⟩
 | [],_::_,_,hr=>hr.elim
 | _::_,[],_,hr=>hr.elim
theorem qA.take {m:Nat} {x:AV} {v:Value} (hb:x.idsBelow m=true) (h:qA I M x v):qA I (M.take m) x v:=by
 cases x with
 | s a=>exact y7.take hb h
 | agg l=>obtain ⟨ds,e,r⟩:=h;exact ⟨ds,e,zHx hb r⟩
 | tup l=>cases hb
theorem zAt.take {m id:Nat} {ob:Ob} (hid:id<m) (hf: ∀ u cs,ob= .flat u cs->cs.all (AS.idsBelow m)=true) (hf2: ∀ X l,ob= .fr X l->zCS m l=true) (h:zAt I M w id ob):zAt I (M.take m) w id ob:=by
 cases ob with
 | row e T xs=>simp only [zAt,zBE hid] at h ⊢;exact h
 | flat T cs =>
   obtain ⟨p,h1,h2,h3,h4,h5,c,h6,h7⟩:=h;exact ⟨p,by rw [zBE hid];exact h1,h2,h3,h4,h5,c,h6,zHx (hf _ _ rfl) h7⟩
 | map k v m =>
   obtain ⟨h0,p,es,clock,h1,h2,h3⟩:=h;exact ⟨h0,p,es,clock,by rw [zBE hid];exact h1,h2,h3⟩
 | gmap k e m =>
   obtain ⟨h0,p,es,clock,h1,h2,h3,h4,h5,h6⟩:=h;exact ⟨h0,p,es,clock,by rw [zBE hid];exact h1,h2,h3,h4,h5,h6⟩
 | grow e T xss =>
   obtain ⟨h0,p,h1,h2,h3,h4,c,h5,h6,h7,h8⟩:=h;exact ⟨h0,p,by rw [zBE hid];exact h1,h2,h3,h4,c,h5,h6,h7,h8⟩
 | fr X l=>exact ⟨by rw [zBE hid];exact h.1,fun t=>by
    rcases zEZ (hf2 _ _ rfl) t with e|e
    ·rw [e];trivial
    ·exact (h.2 t).take e⟩
theorem GA.weaken {s t:St} (h:GA B N s a w) (hle:zOZ s t):GA B N t a w:=by
 obtain ⟨I,M,hg⟩:=h.gg;obtain ⟨h1,h2,h3⟩:=hle;simp only [zA] at h3;obtain ⟨⟨h3,h4⟩,h5⟩:=h3;have hn:t.next<=s.next:=zU h5
 refine ⟨h.defers,h.size,I,M.take t.next,⟨hg.mem.ag,fun id ob hi=> ?_⟩,fun k=> ?_,by rw [zAN,hg.len];omega,fun id ob p hi hp=> ?_,hg.bel,hg.grew⟩
 ·obtain ⟨q1,q2,q3⟩:=zCO h4 _ _ hi;exact (hg.mem.ob _ _ (zEo h2 _ _ hi)).take q1 q2 q3
 ·rcases zNL h1 k with e|e
  ·rw [e];trivial
  ·rcases zEZ h3 k with e'|e'
   ·rw [e'];trivial
   ·refine qA.take e' ?_;rw [e];exact hg.env k
 ·have q1:=(zCO h4 _ _ hi).1;rw [zBE q1] at hp;obtain ⟨s1,s2,s3⟩:=hg.sep _ _ _ (zEo h2 _ _ hi) hp;refine ⟨s1,s2,fun id' ob' p' hne hi' hp'=> ?_⟩;rw [zBE (zCO h4 _ _ hi').1] at hp';exact s3 _ _ _ hne (zEo h2 _ _ hi') hp'
theorem zIf (h:GA B N st a w) {c:Operand} (hc:zED c=true) {t:Bool} (e:jW st.env c= .s (.bool t)):a.eval c= .bool t:=by
 obtain ⟨I,M,hg⟩:=h.gg;have:=jY hg hc;rw [e] at this;exact this
theorem zKI: ∀ {cs:List AS} {k i:Nat},zM0 cs k=some i->k<=i/\cs[i - k]? =some (.val (.slice none 0 0))
 | [],k,i,h=>by cases h
 | c ::r,k,i,h=>by
   have step:zM0 r (k+1)=some i->k<=i/\(c::r)[i - k]? =some (.val (.slice none 0 0)):=fun h=>by
    obtain ⟨h1,h2⟩:=zKI h;refine ⟨by omega,?_⟩;rw [show i - k=(i - (k+1))+1 by omega,zJH];exact h2
   unfold zM0 at h;split at h
   ·cases h
   ·rename_i e;cases e;cases h;exact ⟨zI _,by simp⟩
   ·rename_i e;cases e;exact step h
theorem jZ.set {α M:Type} {R:α->M->Prop} {a:α} : ∀ {l:List α} {m:List M} {i:Nat},jZ R l m->(∀ v,m[i]? =some v->R a v)->jZ R (l.set i a) m
 | [],[],_,h,_=>h
 | x::l,y::m,0,h,ha=>⟨ha y rfl,h.2⟩
 | x::l,y::m,i+1,h,ha=>⟨h.1,jZ.set h.2 fun v hv=>ha v hv⟩
theorem zQq (i:Nat):(st.rowNil T i).env=st.env:=by
 rw [zKH];unfold zHV;split
 ·split
  ·split<;>rfl
  ·rfl
 ·rfl
theorem GG.rowNil {tmps:Array Value} (h:GG B I M st tmps w) (id:Nat): ∃ β',GG B I β' (st.rowNil T id) tmps w:=by
 rw [zKH];unfold zHV;split
 case h_2=>exact ⟨M,h⟩
 rename_i t cs hi;split
 case h_2=>exact ⟨M,h⟩
 rename_i ix hix;split
 case h_2=>exact ⟨M,h⟩
 rename_i e u _;obtain ⟨_,hcell⟩:=zKI hix;rw [Nat.sub_zero] at hcell;have hlast:(M++[none])[st.next]? =some none:=by rw [<- h.len];simp
 have hold: ∀ {id:Nat},id<st.next->(M++[none])[id]? =M[id]? :=fun hi=>by rw [yF];rw [h.len];exact hi
 have hidlt:=h.id_lt hi;refine ⟨M++[none],⟨h.mem.ag,fun id2 ob hi2=> ?_⟩,fun t=>(h.env t).more none,by simp [h.len],fun id2 ob p hi2 hp=> ?_,h.bel,h.grew⟩
 ·simp only [yB] at hi2;split at hi2
  ·rename_i e2;subst e2;cases hi2;obtain ⟨p,h1,h2,h3,h4,h5,c,h6,h7⟩:=h.mem.ob _ _ hi;refine ⟨p,by rw [hold hidlt];exact h1,h2,by rw [qZ];exact h3,h4,by rw [qZ];exact h5,c,h6,?_⟩;refine jZ.set (h7.mono fun _ _ h=>h.more none) fun v hv=> ?_;obtain ⟨v',hv',hr⟩:=h7.get hcell;rw [hv] at hv';cases hv';have:v= .slice none 0 0:=hr.1;subst this;simp only [y7,hlast];exact ⟨⟨none,rfl⟩,trivial,trivial⟩
  ·split at hi2
   ·rename_i e2;subst e2;cases hi2;exact ⟨jB _,by rw [hlast]⟩
   ·rw [zAv] at hi2;split at hi2
    ·cases hi2
    ·exact (h.mem.ob _ _ hi2).keep none (fun _ _=>rfl) fun _ _ _=>rfl
 ·have get: ∀ {j:Nat} {o2:Ob} {q:Bk},hget ((id,.flat t (cs.set ix (.own st.next 0 0)))::(st.next,.row e u [])::zDb st.hp id) j=some o2->(M++[none])[j]? =some (some q)->∃ o1,hget st.hp j=some o1/\M[j]? =some (some q):=fun {j o2 q} hj hq=>by
   simp only [yB] at hj;split at hj
   ·rename_i e2;subst e2;exact ⟨_,hi,by rw [hold hidlt] at hq;exact hq⟩
   ·split at hj
    ·rename_i e2;subst e2;rw [hlast] at hq;cases hq
    ·rw [zAv] at hj;split at hj
     ·cases hj
     ·exact ⟨_,hj,by rw [hold (h.id_lt hj)] at hq;exact hq⟩
  obtain ⟨o1,g1,g2⟩:=get hi2 hp;obtain ⟨s1,s2,s3⟩:=h.sep _ _ _ g1 g2;refine ⟨s1,s2,fun id' ob' p' hne hi' hp'=> ?_⟩;obtain ⟨o2,g3,g4⟩:=get hi' hp';exact s3 _ _ _ hne g3 g4
theorem zHC {T:Tab} {B:Base} {K:St->Prop} : ∀ (ids:List Nat) {st:St} {a:Act} {w:World},GA B N st a w->zFz T K ids st->∃ st',GA B N st' a w/\K st'
 | [],st,_,_,h,hk=>⟨st,h,hk⟩
 | i::r,st,a,w,h,hk=>by
   unfold zFz at hk;rw [St.forceAll_eq] at hk;obtain ⟨σ',β',hg⟩:=h.gg;obtain ⟨β2,hg2⟩:=hg.rowNil (T:=T) i;exact zHC r ⟨h.defers,h.size,σ',β2,hg2⟩ hk
theorem zKt {B:Base} {K:St->Prop} : ∀ (l:List Tmp) {st:St} {a:Act} {w:World},GA B N st a w->z0Q K l st->∃ st',GA B N st' a w/\K st'
 | [],st,_,_,h,hk=>⟨st,h,hk⟩
 | t::r,st,a,w,h,hk=>by
   unfold z0Q at hk;rw [St.forceAll_eq] at hk;obtain ⟨I,M,hg⟩:=h.gg;obtain ⟨σ',hg2⟩:=hg.freezeAll (AV.ids (qQ st.env t));exact zKt r ⟨h.defers,h.size,σ',M,hg2⟩ hk
theorem zAj (R:zAS P T): ∀ (c:Code) {st:St} {a:Act} {w:World} {K:Exit->St->Prop} {Q:Exit->Act->World->Prop},codeOk N c=true->GA B N st a w->zBD T c st K->
 (∀ e st' a' w',K e st'->GA B N st' a' w'->Q e a' w')->c.wpIn (FR r) n P Q a w:=by
 intro c
 induction c with
 | skip=>intro st a w K Q _ h hk hQ;exact wpIn_skip (hQ _ _ _ _ hk h)
 | label l=>intro st a w K Q _ h hk hQ;exact wpIn_label (hQ _ _ _ _ hk h)
 | exit i=>intro st a w K Q _ h hk hQ;exact wpIn_exit (hQ _ _ _ _ hk h)
 | goto l=>intro st a w K Q _ h hk hQ;exact wpIn_goto (hQ _ _ _ _ hk h)
 | ret=>intro st a w K Q _ h hk hQ;exact wpIn_ret (hQ _ _ _ _ hk h)
 | region id ops draw =>
   intro st a w K Q hok h hk hQ;simp only [codeOk,zA,zO] at hok;exact zQe R hok.1 (fun e=>by simpa [e] using hok.2) h hk fun st' a' w'=>hQ _ _ _ _
 | seq x y ihx ihy =>
   intro st a w K Q hok h hk hQ;simp only [codeOk,zA] at hok;refine wpIn_seq (ihx hok.1 h hk fun e st' a' w' hk' h'=> ?_);cases e with
   | normal=>exact ihy hok.2 h' hk' hQ
   | _=>exact hQ _ _ _ _ hk' h'
 | cond c x y ihx ihy =>
   intro st a w K Q hok h hk hQ;simp only [codeOk,zA] at hok;simp only [zBD] at hk;split at hk
   ·rename_i t ht;have hev:=zIf h hok.1.1 ht;cases t with
    | true=>exact wpIn_cond_true hev (ihx hok.1.2 h hk hQ)
    | false=>exact wpIn_cond_false hev (ihy hok.2 h hk hQ)
   ·rename_i e xs ht;obtain ⟨I,M,hg⟩:=h.gg;have hr:=jY hg hok.1.1;rw [ht] at hr;obtain ⟨b,hev,hb⟩:=hr;obtain ⟨k1,k2⟩:=hk.out;cases b with
    | true=>exact wpIn_cond_true hev (ihx hok.1.2 h (k1.out (hb rfl)) hQ)
    | false=>exact wpIn_cond_false hev (ihy hok.2 h k2 hQ)
   ·rename_i e xs ht;obtain ⟨I,M,hg⟩:=h.gg;have hr:=jY hg hok.1.1;rw [ht] at hr;obtain ⟨b,hev,hb⟩:=hr;obtain ⟨k1,k2⟩:=hk.out;cases b with
    | true=>exact wpIn_cond_false hev (ihy hok.2 h (k2.out (hb rfl)) hQ)
    | false=>exact wpIn_cond_true hev (ihx hok.1.2 h k1 hQ)
   ·exact hk.elim
 | block id c ih =>
   intro st a w K Q hok h hk hQ;simp only [codeOk] at hok;refine wpIn_block (ih hok h hk fun e st' a' w' hk' h'=> ?_);cases e with
   | exit i =>
     simp only [Exit.inBlock];dsimp only at hk';split at hk'
     ·rename_i e;rw [if_pos (zC e)];exact hQ _ _ _ _ hk' h'
     ·rename_i e;rw [if_neg (fun e'=>by subst e';rw [qF] at e;cases e)];exact hQ _ _ _ _ hk' h'
   | _=>exact hQ _ _ _ _ hk' h'
 | loop c ih =>
   intro st a w K Q hok h hk hQ;simp only [codeOk] at hok;simp only [zBD,St.forceAll_eq] at hk;rcases hk with ⟨m,hk⟩|⟨X,S,hk⟩
   ·refine wpIn_loop_rounds m ?_
    have key: ∀ m {st:St} {a:Act} {w:World},GA B N st a w->rounds (zBD T c) K m st->Code.roundsIn (FR r) n P c Q m a w:=by
     intro m
     induction m with
     | zero=>intro st a w _ hk;exact hk.elim
     | succ m ihm =>
       intro st a w h hk;refine ih hok h hk fun e st' a' w' hk' h'=> ?_;cases e with
       | normal=>exact ihm h' hk'
       | _=>exact hQ _ _ _ _ hk' h'
    exact key m h hk
   ·obtain ⟨st,h,hk⟩:=zHC S.nils h hk;obtain ⟨st,h,⟨x0,hi0,hle0⟩,hround⟩:=zKt S.frz h hk;refine wpIn_loop_ghost (fun m a w=> ∃ x,S.inv x/\S.mu x=m/\GA B N (S.head st x) a w) (S.mu x0) ⟨x0,hi0,rfl,h.weaken hle0⟩ ?_;rintro m a w ⟨x,hi,rfl,hx⟩;refine ih hok hx (hround x hi) fun e st' a' w' hk' h'=> ?_;cases e with
    | normal =>
      obtain ⟨s2,h2,y,hy,hle,hlt⟩:=zKt S.frz h' hk';exact ⟨_,hlt,y,hy,rfl,h2.weaken hle⟩
    | _=>exact hQ _ _ _ _ hk' h'
 | _=>intro st a w K Q hok;cases hok
end
end Go.Vm
namespace Go.Vm
open Go.RowKit
def ETy.good:(e:ETy)->e.T->Prop
 | .int .i64,n=>zAL n
 | .int k,n=>k.wrap n=n
 | .bool,_=>True
 | .arr2,x=>zAL x.1/\zAL x.2
 | .arr3,x=>zAL x.1/\zAL x.2.1/\zAL x.2.2
 | .pair a b,x=>a.good x.1/\b.good x.2
 | .sl e,xs=>xs.length<=140737488355328/\∀ x∈xs,e.good x
 | .mp k _,m=> ∀ x∈m,k.good x.1
 | .pt e,o=> ∀ x,o=some x->e.good x
 | .unit,_=>True
 | .fnc,_=>True
def AS.good:AS->Prop
 | .int .i64 n=>zAL n
 | .int k n=>k.wrap n=n
 | .sl e xs=>(ETy.sl e).good xs
 | .mp k v m=>(ETy.mp k v).good m
 | .pt e o=>(ETy.pt e).good o
 | .ip e x _=>e.good x
 | .ipi e x _=>e.good x
 | _=>True
def zNs:List AS->Prop
 | []=>True
 | a::l=>a.good/\zNs l
def AV.good:AV->Prop
 | .s a=>a.good
 | .agg l=>zNs l
 | .tup _=>True
def zBV:List AV->Prop
 | []=>True
 | a::l=>a.good/\zBV l
section
variable {P:Program} {B:Base} {w:World} {I:Sig} {M:yN} {st:St} {T:Tab} {a:Act} {hp:zAG}
theorem zFO {n:Int} (h:InK .i64 n):zAL n:=InK.i64.1 h
theorem jI.good: ∀ {e:ETy} {x:e.T} {ds:List Value},jI I e x ds->e.good x
 | .int k,n,ds,h=>by cases k<;>first|exact zFO h.2|exact h.2
 | .bool,_,_,_=>trivial
 | .arr2,x,_,h=>⟨zFO h.2.1,zFO h.2.2⟩
 | .arr3,x,_,h=>⟨zFO h.2.1,zFO h.2.2.1,zFO h.2.2.2⟩
 | .pair a b,x,_,h=>by obtain ⟨d1,d2,_,h1,h2⟩:=h;exact ⟨h1.good,h2.good⟩
 | .sl e,xs,_,h=>by
   obtain ⟨p,cap,_,hl,_,h⟩:=h;refine ⟨hl,fun x hx=> ?_⟩;obtain ⟨b,o,_,h⟩:=h (List.ne_nil_of_mem hx);obtain ⟨i,hi,rfl⟩:=yG.1 hx;obtain ⟨d,h1,_⟩:=h i _ (zB hi);exact h1.good
 | .mp k v,m,_,h=>by
   obtain ⟨p,_,hl,hn,h⟩:=h;refine fun x hx=> ?_;cases p with
   | none=>rw [hn rfl] at hx;cases hx
   | some b =>
     obtain ⟨es,clock,_,_,h⟩:=h b rfl;obtain ⟨i,hi,rfl⟩:=yG.1 hx;obtain ⟨en,dk,dv,_,h1,_⟩:=h i _ (zB hi);exact h1.good
 | .pt e,none,_,_=>fun x hx=>by cases hx
 | .pt e,some x,_,h=>fun y hy=>by
   cases hy;obtain ⟨b,off,d,_,h1,_⟩:=h;exact h1.good
 | .unit,_,_,_=>trivial
 | .fnc,_,_,_=>trivial
theorem y7.good {x:AS} {v:Value} (h:y7 I M x v):x.good:=by
 cases x with
 | int k n=>obtain ⟨_,h⟩:=h;cases k<;>first|exact zFO h|exact h
 | sl e xs=>exact jI.good h
 | mp k v m=>exact jI.good h
 | pt e o=>exact jI.good h
 | ip e x k=>obtain ⟨b,o,d,_,h1,_⟩:=h;exact h1.good
 | ipi e x k=>obtain ⟨b,o,d,_,h1,_⟩:=h;exact h1.good
 | _=>trivial
theorem zNP: ∀ {l:List AS} {ds:List Value},jZ (y7 I M) l ds->zNs l
 | [],_,_=>trivial
 | _::_,_::_,h=>⟨h.1.good,zNP h.2⟩
 | _::_,[],h=>h.elim
theorem qA.good {x:AV} {v:Value} (h:qA I M x v):x.good:=by
 cases x with
 | s a=>exact y7.good h
 | agg l=>obtain ⟨ds,_,r⟩:=h;exact zNP r
 | tup l=>trivial
theorem zCU: ∀ {l:List AV} {m:List Value},jL I M l m->zBV l
 | [],_,_=>trivial
 | _::_,_::_,h=>⟨qA.good h.1,zCU h.2⟩
 | _::_,[],h=>h.elim
theorem zDz: ∀ {l:List AV} {m:List Value},jL I M l m->l.length=m.length
 | [],[],_=>rfl
 | _::_,_::_,h=>by simp [zDz h.2]
 | [],_::_,h=>h.elim
 | _::_,[],h=>h.elim
theorem zGi {m:Nat} : ∀ {l:List AV} {vs:List Value} (i:Nat),jL I M l vs->∀ t,qA I M (qQ (zGv i l) t) (if t<i then undef else (vs++List.replicate m undef).getD (t - i) undef)
 | [],_,i,_,t=>trivial
 | x::l,[],i,h,t=>h.elim
 | x ::l,v::vs,i,h,t=>by
   simp only [zGv];rw [j8];split
   ·rename_i e;subst e;simpa using h.1
   ·rename_i hne;have:=zGi (m:=m) (i+1) h.2 t
    by_cases h1:t<i
    ·rw [if_pos (by omega)] at this;rw [if_pos h1];exact this
    ·rw [if_neg (by omega)] at this;rw [if_neg h1];obtain ⟨j,rfl⟩: ∃ j,t=i+1+j:=⟨t - (i+1),by omega⟩;rw [show i+1+j - (i+1)=j by omega] at this;rw [show i+1+j - i=j+1 by omega];exact this
theorem zHt {vals:List Value} {args:List AV} {N:Nat} (hag:Ag I w) (hv:jL I [] args vals) (hN:args.length<=N) :
 GA ⟨w,I,[]⟩ N (St.init args) {tmps:=vals.toArray++Array.replicate (N - vals.toArray.size) undef,defers:=[]} w:=by
 have hlen:=zDz hv;refine ⟨rfl,by simp;omega,I,[],⟨hag,fun id ob hi=>by cases hi⟩,fun t=> ?_,rfl,fun id ob p hi=>(by cases hi),Below.refl _ _,Sig.le.refl _,fun b _=>rfl⟩;have:=zGi (m:=N - vals.length) 0 hv t;simp only [Nat.not_lt_zero,if_false,Nat.sub_zero] at this
 have e:((vals.toArray++Array.replicate (N - vals.toArray.size) undef).getD t undef)=(vals++List.replicate (N - vals.length) undef).getD t undef:=by
  rw [show vals.toArray++Array.replicate (N - vals.toArray.size) undef=(vals++List.replicate (N - vals.length) undef).toArray by simp];simp [zK,zH]
 show qA I [] (qQ (zGv 0 args) t) ((vals.toArray++Array.replicate (N - vals.toArray.size) undef).getD t undef);rw [e];exact this
def zTa:List Value->Value
 | [v]=>v
 | vs=> .tuple vs.toArray
theorem zP9 {Q:ResultVar->Value->Prop} {g:ResultVar->Sem Value} : ∀ {l:List ResultVar},(∀ r∈l,∃ v,(g r).run P w= .ok v w/\Q r v)->∃ vs,(l.mapM g).run P w= .ok vs w/\jZ Q l vs
 | [],_=>⟨[],by simp,trivial⟩
 | r::l,h=>by
   obtain ⟨v,h1,h2⟩:=h r (by simp);obtain ⟨vs,h3,h4⟩:=zP9 (l:=l) fun r hr=>h r (by simp [hr]);refine ⟨v::vs,?_,h2,h4⟩;rw [List.mapM_cons];simp only [zN,h1,zL,h3,qD]
theorem zBo {fn:Func} {tmps:Array Value} {Q:ResultVar->Value->Prop}
 (h: ∀ r∈fn.results.toList,∃ v,(match r with|.tmp t=>(pure (tmps.getD t undef):Sem Value)|.cell a t=>do loadVar t (<- asAddr (tmps.getD a undef))).run P w= .ok v w/\Q r v) :
 ∃ vs,(results fn tmps).run P w= .ok (zTa vs) w/\jZ Q fn.results.toList vs:=by
 obtain ⟨vs,h1,h2⟩:=zP9 h;refine ⟨vs,?_,h2⟩;have e:fn.results=fn.results.toList.toArray:=by simp
 unfold results;rw [e,List.mapM_toArray];simp only [zN,Sem.run_map];refine (congrArg (fun z=>(Result.andThen z fun (a:List Value) w'=>Result.ok a.toArray w').andThen fun (a:Array Value) w'=>Sem.run P (pure (if h:a.size=1 then a[0] else Value.tuple a)) w') h1).trans ?_
 match vs with
 | []=>rfl
 | [v]=>rfl
 | v::u::vs=>rfl
theorem zKL {τ:Sig} {fn:Func} {vs:List Value} (h:jZ (fun r v=>qA τ [] (zGC T st r) v) fn.results.toList vs):qA τ [] (zJc T fn st) (zTa vs):=by
 unfold zJc;generalize fn.results.toList=l at h
 match l,vs,h with
 | [],[],_=>exact ⟨[],rfl,trivial⟩
 | [r],[v],h=>exact h.1
 | r ::s::l,v::u::vs,h =>
   refine ⟨_,rfl,?_⟩;rw [zCV]
   have: ∀ {l:List ResultVar} {vs:List Value},jZ (fun r v=>qA τ [] (zGC T st r) v) l vs->jZ (qA τ []) (l.map (zGC T st)) vs:=by
    intro l
    induction l with
    | nil=>intro vs h;cases vs with|nil=>trivial|cons=>exact h.elim
    | cons x l ih=>intro vs h;cases vs with|nil=>exact h.elim|cons v vs=>exact ⟨h.1,ih h.2⟩
   exact this h
theorem z2H (R:zAS P T) {f:FuncId} {fn:Func} {c:Code} (hf:P.funcs[f]? =some fn) (hb:fn.body=some c) (hok:codeOk fn.ntmps c=true)
 {args:List AV} (hl:args.length<=fn.ntmps) {q:Option Prop} {u:AV} (h:zBV args->Opt q->zB7 T fn args (fun v=>v=u)):zDn P f args (none,q,u):=by
 intro I vals w hag hv;refine ⟨trivial,fun hq=> ?_⟩;have hga:=zHt (N:=fn.ntmps) hag hv hl;have hk:=h (zCU hv) hq;simp only [zB7,hb,St.forceAll_eq] at hk;refine (callsIn_of_wp (F:=Fence.wide) (n:=0) hf hb trivial ?_).calls (fun _ _ hd=>by cases hd);rw [<- FR.none];refine zAj R c hok hga hk fun e st' a' w' hp h'=> ?_
 have fin:(match fn.results.toList.all (zF9 T st') with|true=>zJc T fn st'=u|false=>False)->a'.defers=[]/\∃ v,(results fn a'.tmps).run P w'= .ok v w'/\∃ v' σ',(Ending.returned v)= .returned v'/\I.le σ'/\Ag σ' w'/\
  (∀ b,b<w.heap.size->σ' b=I b)/\qA σ' [] u v'/\Below w.heap.size w w':=by
  intro hu;split at hu
  case h_2=>exact hu.elim
  rename_i hallok;obtain ⟨σ1,β1,hg⟩:=h'.gg
  have hview: ∀ {x:AV} {v:Value},qA σ1 β1 x v->qA (fun b=>if b<w.heap.size then I b else w'.heap[b]?) [] (x.viewT T st'.hp) v:=fun {x v} hx=>by
   refine AV.viewT_rep_at (fun b o e=> ?_) (fun id ob p hi hp=> ?_) hg.mem hx
   ·split
    ·rename_i hlt;rw [hg.grew.2 b hlt] at e;exact ⟨o,e,.refl⟩
    ·exact hg.mem.ag _ _ e
   ·have:=(hg.sep _ _ _ hi hp).2.1;dsimp only at this;rw [if_neg (by omega)]
  obtain ⟨vs,hrun,hall⟩:=zBo (P:=P) (w:=w') (fn:=fn) (tmps:=a'.tmps) (Q:=fun r v=>qA (fun b=>if b<w.heap.size then I b else w'.heap[b]?) [] (zGC T st' r) v) (fun r hr=>by
   have hro:=zO.1 hallok r hr;cases r with
   | tmp t=>exact ⟨_,rfl,hview (hg.env t)⟩
   | cell a t =>
     simp only [zF9] at hro;simp only [zGC];have hx:=hg.env a;split at hro
     ·rename_i id i k hea;rw [hea] at hx;split at hro
      ·rename_i v hv;obtain ⟨p,_,hptr,_⟩:=hx;obtain ⟨_,hrun⟩:=zBs (w:=w') R.ty R.one hg.mem (t:=t) (hg.env a) (p:=none) (q:=none) (v:=v) (by rw [hea];exact hv);obtain ⟨val,h1,h2⟩:=hrun trivial;refine ⟨val,?_,hview h2⟩;rw [hptr] at h1 ⊢;rw [zB6] at h1;simp only [asAddr,zN,qD,zL];exact h1
      ·cases hro
     ·cases hro)
  refine ⟨h'.defers,_,hrun,_,(fun b=>if b<w.heap.size then I b else w'.heap[b]?),rfl,fun b o e=> ?_,fun b o e=> ?_,fun b hb=>by simp [hb],by rw [<- hu];exact zKL hall,hg.bel⟩
  ·have:b<w.heap.size:=hag.lt e;exact ⟨o,by simp [this,e],.refl⟩
  ·dsimp only at e;split at e
   ·rename_i hlt;rw [<- show σ1 b=I b from hg.grew.2 b hlt] at e;exact hg.mem.ag _ _ e
   ·exact ⟨o,e,.refl⟩
 cases e with
 | normal=>simp only [post,AV.force_eq] at hp;exact fin hp
 | ret=>simp only [post,AV.force_eq] at hp;exact fin hp
 | _=>exact hp.elim
theorem zJV {i:Nat} : ∀ {l:List Nat} {n m:Nat},zOu i l n=some m->∃ j,m=n+j/\l[j]? =some i
 | [],_,_,h=>by cases h
 | k ::r,n,m,h=>by
   simp only [zOu] at h;split at h
   ·rename_i hb;cases h;exact ⟨0,rfl,by simp [zC hb]⟩
   ·obtain ⟨j,e1,e2⟩:=zJV h;exact ⟨j+1,by omega,by simpa using e2⟩
theorem y7.ren {ids:List Nat} {a:AS} {v:Value} (h:y7 I M a v):y7 I (ids.map fun i=>(M[i]?).getD none) (zQR ids a) v:=by
 cases a with
 | own i s n =>
   simp only [zQR];split
   ·rename_i m hm;obtain ⟨j,e1,e2⟩:=zJV hm;rw [yK] at e1;subst e1;simp only [y7] at h ⊢;rw [zAB,e2];cases e:M[i]? with
    | none=>simp [e] at h
    | some q=>simpa [e] using h
   ·trivial
 | ptr=>trivial
 | pti=>trivial
 | omp=>trivial
 | arr=>trivial
 | _=>exact h
theorem zFI {base:Nat} (hm: ∀ id ob,hget st.hp id=some ob->zAt I M w id ob)
 (hs: ∀ id ob p,hget st.hp id=some ob->M[id]? =some (some p)->I p.b=none/\base<=p.b/\∀ id' ob' p',id'≠id->hget st.hp id'=some ob'->M[id']? =some (some p')->p'.b≠p.b) :
 ∀ (ids:List Nat),nodupB ids=true->zKy st.hp ids=true->zCF I base w (zJP st.hp ids) (ids.map fun i=>(M[i]?).getD none)
 | [],_,_=>trivial
 | i ::r,hn,hr=>by
   simp only [nodupB,zA,y8] at hn;simp only [zKy] at hr;split at hr
   case h_2=>cases hr
   rename_i o ho;rw [zA] at hr;have hob:=hm _ _ ho;obtain ⟨x,hx⟩:=hob.place;have e1:zJP st.hp (i::r)=o::zJP st.hp r:=by simp only [zJP,ho]
   rw [e1,jV]
   have hrows: ∀ (ids:List Nat),zKy st.hp ids=true->∀ j∈ids,∃ o,hget st.hp j=some o:=by
    intro ids
    induction ids with
    | nil=>intro _ j hj;cases hj
    | cons k l ih =>
      intro hh j hj;simp only [zKy] at hh;split at hh
      ·rename_i o' ho';rw [zA] at hh;rcases zP.1 hj with e|e
       ·subst e;exact ⟨_,ho'⟩
       ·exact ih hh.2 j e
      ·cases hh
   refine ⟨?_,?_,fun p hp=> ?_,zFI hm hs r hn.2 hr.2⟩
   ·cases o with
    | row e u xs=>exact ⟨e,u,xs,rfl⟩
    | flat=>cases hr.1
    | map=>cases hr.1
    | gmap=>cases hr.1
    | grow=>cases hr.1
    | fr=>cases hr.1
   ·cases o with
    | row e u xs=>exact hob.move (by rw [hx];rfl)
    | flat=>cases hr.1
    | map=>cases hr.1
    | gmap=>cases hr.1
    | grow=>cases hr.1
    | fr=>cases hr.1
   ·rw [hx] at hp;have hp:x=some p:=hp;subst hp;obtain ⟨s1,s2,s3⟩:=hs _ _ _ ho hx;refine ⟨s1,s2,fun q' hq' p' hp'=> ?_⟩;obtain ⟨j,hj,rfl⟩:=zS.1 hq';obtain ⟨o',ho'⟩:=hrows r hr.2 j hj
    have hne:j≠i:=by
     intro e;subst e;rw [zEi.2 hj] at hn;cases hn.1
    obtain ⟨y,hy⟩:=(hm _ _ ho').place;rw [hy] at hp';have hp':y=some p':=hp';subst hp';exact s3 _ _ _ hne ho' hy
theorem zGT {τ:Sig} {γ:yN} {fn:Func} {vs:List Value} (h:jZ (fun r v=>qA τ γ (zEG T st r) v) fn.results.toList vs):qA τ γ (zAe T fn st) (zTa vs):=by
 unfold zAe;generalize fn.results.toList=l at h
 match l,vs,h with
 | [],[],_=>exact ⟨[],rfl,trivial⟩
 | [r],[v],h=>exact h.1
 | r ::s::l,v::u::vs,h =>
   refine ⟨_,rfl,?_⟩;rw [zCV]
   have: ∀ {l:List ResultVar} {vs:List Value},jZ (fun r v=>qA τ γ (zEG T st r) v) l vs->jZ (qA τ γ) (l.map (zEG T st)) vs:=by
    intro l
    induction l with
    | nil=>intro vs h;cases vs with|nil=>trivial|cons=>exact h.elim
    | cons x l ih=>intro vs h;cases vs with|nil=>exact h.elim|cons v vs=>exact ⟨h.1,ih h.2⟩
   exact this h
theorem zYm (R:zAS P T) {f:FuncId} {fn:Func} {c:Code} (hf:P.funcs[f]? =some fn) (hb:fn.body=some c) (hok:codeOk fn.ntmps c=true)
 {args:List AV} (hl:args.length<=fn.ntmps) {q:Option Prop} {Rp:AV->List Ob->Prop} (h:zBV args->Opt q->zGL T fn args Rp) (I:Sig) (vals:List Value) (w:World) (hag:Ag I w) (hv:jL I [] args vals) (hq:Opt q) :
   Calls P f vals.toArray w fun e w'=> ∃ u us v σ' β',Rp u us/\e= .returned v/\I.le σ'/\Ag σ' w'/\
   (∀ b,b<w.heap.size->σ' b=I b)/\qA σ' β' u v/\zCF σ' w.heap.size w' us β'/\Below w.heap.size w w':=by
 have hga:=zHt (N:=fn.ntmps) hag hv hl;have hk:=h (zCU hv) hq;simp only [zGL,hb,St.forceAll_eq] at hk;refine (callsIn_of_wp (F:=Fence.wide) (n:=0) hf hb trivial ?_).calls (fun _ _ hd=>by cases hd);rw [<- FR.none];refine zAj R c hok hga hk fun e st' a' w' hp h'=> ?_
 have fin:(match fn.results.toList.all (zF9 T st')&&(nodupB (zBH (zAe T fn st').parts)&&zKy st'.hp (zBH (zAe T fn st').parts)) with
  | true=>Rp ((zAe T fn st').mapAS (zQR (zBH (zAe T fn st').parts))) (zJP st'.hp (zBH (zAe T fn st').parts))
  | false=>False)->a'.defers=[]/\∃ v,(results fn a'.tmps).run P w'= .ok v w'/\∃ u us v' σ' β',Rp u us/\(Ending.returned v)= .returned v'/\I.le σ'/\Ag σ' w'/\
  (∀ b,b<w.heap.size->σ' b=I b)/\qA σ' β' u v'/\zCF σ' w.heap.size w' us β'/\Below w.heap.size w w':=by
  intro hu;split at hu
  case h_2=>exact hu.elim
  rename_i hallok;rw [zA,zA] at hallok;obtain ⟨hallok,hnd,hrows⟩:=hallok;obtain ⟨σ1,β1,hg⟩:=h'.gg
  obtain ⟨vs,hrun,hall⟩:=zBo (P:=P) (w:=w') (fn:=fn) (tmps:=a'.tmps) (Q:=fun r v=>qA σ1 β1 (zEG T st' r) v) (fun r hr=>by
   have hro:=zO.1 hallok r hr;cases r with
   | tmp t=>exact ⟨_,rfl,hg.env t⟩
   | cell a t =>
     simp only [zF9] at hro;simp only [zEG];have hx:=hg.env a;split at hro
     ·rename_i id i k hea;rw [hea] at hx;split at hro
      ·rename_i v hv;obtain ⟨p,_,hptr,_⟩:=hx;obtain ⟨_,hrun⟩:=zBs (w:=w') R.ty R.one hg.mem (t:=t) (hg.env a) (p:=none) (q:=none) (v:=v) (by rw [hea];exact hv);obtain ⟨val,h1,h2⟩:=hrun trivial;refine ⟨val,?_,h2⟩;rw [hptr] at h1 ⊢;rw [zB6] at h1;simp only [asAddr,zN,qD,zL];exact h1
      ·cases hro
     ·cases hro)
  refine ⟨h'.defers,_,hrun,_,_,_,σ1,(zBH (zAe T fn st').parts).map fun i=>(β1[i]?).getD none,hu,rfl,hg.grew.1,hg.mem.ag,hg.grew.2,?_,?_,hg.bel⟩
  ·exact (zGT hall).mapAS fun a v ha=>y7.ren (ids:=zBH (zAe T fn st').parts) ha
  ·exact zFI (w:=w') hg.mem.ob hg.sep _ hnd hrows
 cases e with
 | normal=>simp only [zQS,AV.force_eq] at hp;exact fin hp
 | ret=>simp only [zQS,AV.force_eq] at hp;exact fin hp
 | _=>exact hp.elim
theorem z1b (R:zAS P T) {f:FuncId} {fn:Func} {c:Code} (hf:P.funcs[f]? =some fn) (hb:fn.body=some c) (hok:codeOk fn.ntmps c=true)
 {args:List AV} (hl:args.length<=fn.ntmps) {q:Option Prop} {u:AV} {us:List Ob} (h:zBV args->Opt q->zGL T fn args (fun v obs=>v=u/\obs=us)):zCc P f args (none,q,u,us):=by
 intro I vals w hag hv;refine ⟨trivial,fun hq=>(zYm R hf hb hok hl h I vals w hag hv hq).mono ?_⟩;rintro e w' ⟨u1,us1,v,σ',β',⟨rfl,rfl⟩,h2⟩;exact ⟨v,σ',β',h2⟩
end
end Go.Vm
namespace Go.Vm
def jQ (p:Prop):Prop:=p
theorem jQ.out {p:Prop} (h:jQ p):p:=h
theorem jQ.intro {p:Prop} (h:p):jQ p:=h
def jJ (a b:AV):Prop:=a=b
theorem jJ.out {a b:AV} (h:jJ a b):a=b:=h
theorem jJ.intro {a b:AV} (h:a=b):jJ a b:=h
def zHm (a b:Prop):Prop:=a\/b
theorem zHm.out {a b:Prop} (h:zHm a b):a\/b:=h
theorem zHm.intro {a b:Prop} (h:a\/b):zHm a b:=h
def zAM (a b:Ob):Prop:=a=b
theorem zAM.out {a b:Ob} (h:zAM a b):some a=some b:=congrArg some h
theorem zAM.intro {a b:Ob} (h:a=b):zAM a b:=h
def zCI (a b:List Ob):Prop:=a=b
theorem zCI.out {a b:List Ob} (h:zCI a b):a=b:=h
theorem zCI.intro {a b:List Ob} (h:a=b):zCI a b:=h
attribute [irreducible] jQ jJ zHm zAM zCI
theorem zCI.row {e:ETy} {u:TypeId} {m n:List e.T} (h:m=n):zCI [.row e u m] [.row e u n]:=zCI.intro (by rw [h])
theorem zAM.row {e:ETy} {u:TypeId} {m n:List e.T} (h:m=n):zAM (.row e u m) (.row e u n):=zAM.intro (by rw [h])
theorem zAM.map {k v:ETy} {m n:List (k.T×v.T)} (h:m=n):zAM (.map k v m) (.map k v n):=zAM.intro (by rw [h])
theorem zAM.gmap {k e:ETy} {m n:List (k.T×List e.T)} (h:m=n):zAM (.gmap k e m) (.gmap k e n):=zAM.intro (by rw [h])
theorem zAM.grow {e:ETy} {u:TypeId} {m n:List (List e.T)} (h:m=n):zAM (.grow e u m) (.grow e u n):=zAM.intro (by rw [h])
theorem jJ.int {k:IntKind} {m n:Int} (h:m=n):jJ (.s (.int k m)) (.s (.int k n)):=jJ.intro (by rw [h])
theorem jJ.bool {m n:Bool} (h:m=n):jJ (.s (.bool m)) (.s (.bool n)):=jJ.intro (by rw [h])
theorem jJ.sl {e:ETy} {m n:List e.T} (h:m=n):jJ (.s (.sl e m)) (.s (.sl e n)):=jJ.intro (by rw [h])
theorem yA {α M:Type _} (p:α×M):(p.1,p.2)=p:=rfl
theorem yC {α:Sort _} {a:α} {motive:(b:α)->a=b->Sort _} (x:motive a rfl) (h:a=a): @Eq.rec α a motive x a h=x:=rfl
def ETy.av (e:ETy) (x:e.T):AV :=
 match e.isAgg with
 | true=> .agg (e.cells x)
 | false=>match e.cells x with
   | [a]=> .s a
   | _=> .junk
def ETy.of (e:ETy) (v:AV):Option e.T :=
 match v.isAgg==e.isAgg,v.flat with
 | true,some l=>e.dec l
 | _,_=>none
section
variable {P:Program} {T:Tab} {I:Sig} {M:yN}
theorem ETy.cells_one: ∀ {e:ETy} {x:e.T},e.isAgg=false->∃ a,e.cells x=[a]
 | .int _,_,_=>⟨_,rfl⟩
 | .bool,_,_=>⟨_,rfl⟩
 | .sl _,_,_=>⟨_,rfl⟩
 | .mp _ _,_,_=>⟨_,rfl⟩
 | .pt _,_,_=>⟨_,rfl⟩
 | .fnc,_,_=>⟨_,rfl⟩
theorem ETy.av_rep {e:ETy} {x:e.T} {ds:List Value} (h:jI I e x ds):qA I M (e.av x) (yY e ds):=by
 unfold ETy.av;cases hg:e.isAgg with
 | true=>exact ⟨ds,zE2 h.length hg,h.cells⟩
 | false =>
   obtain ⟨a,ha⟩:=ETy.cells_one (x:=x) hg;have hc:=h.cells (M:=M);rw [ha] at hc ⊢;obtain ⟨d,rfl,hd⟩:=hc.len_one;rw [zJW hg];exact hd
theorem ETy.of_rep {e:ETy} {v:AV} {x:e.T} {val:Value} (h:e.of v=some x) (hv:qA I M v val):jI I e x val.cells.toList/\qA I M (e.av x) val:=by
 unfold ETy.of at h;split at h
 ·rename_i hb hl;have h1:=ETy.dec_sound h (zBW hv hl);refine ⟨h1,?_⟩;have h2:=zDx hv hl (by simpa using hb) h1.length;have h3:=ETy.av_rep (M:=M) h1;rw [<- h2] at h3;exact h3
 ·cases h
theorem zDn.imp {f:FuncId} {args args':List AV} {r:Res} (h:zDn P f args' r) (hi: ∀ I vals,jL I [] args vals->jL I [] args' vals):zDn P f args r :=
 fun I vals w h1 h2=>h I vals w h1 (hi I vals h2)
def zGM {ρ:Type} (a:ETy) (f:a.T->Option ρ):List AV->Option ρ
 | [u]=>match a.of u with
   | some x=>f x
   | _=>none
 | _=>none
def zNH {ρ:Type} (a b:ETy) (f:a.T->b.T->Option ρ):List AV->Option ρ
 | [u,v]=>match a.of u,b.of v with
   | some x,some y=>f x y
   | _,_=>none
 | _=>none
def zNd {ρ:Type} (a b c:ETy) (f:a.T->b.T->c.T->Option ρ):List AV->Option ρ
 | [u,v,w]=>match a.of u,b.of v,c.of w with
   | some x,some y,some z=>f x y z
   | _,_,_=>none
 | _=>none
theorem zBJ {a:ETy} {f:a.T->Option Res} {n:FuncId} (h: ∀ x r,f x=some r->zDn P n [a.av x] r): ∀ args r,zGM a f args=some r->zDn P n args r:=by
 intro args r e;unfold zGM at e;split at e
 ·split at e
  ·rename_i x hx;refine (h _ _ e).imp fun I vals hv=> ?_
   match vals,hv with
   | [v],hv=>exact ⟨(ETy.of_rep hx hv.1).2,trivial⟩
  ·cases e
 ·cases e
theorem zCh {a b:ETy} {f:a.T->b.T->Option Res} {n:FuncId} (h: ∀ x y r,f x y=some r->zDn P n [a.av x,b.av y] r): ∀ args r,zNH a b f args=some r->zDn P n args r:=by
 intro args r e;unfold zNH at e;split at e
 ·split at e
  ·rename_i x y hx hy;refine (h _ _ _ e).imp fun I vals hv=> ?_
   match vals,hv with
   | [v,w],hv=>exact ⟨(ETy.of_rep hx hv.1).2,(ETy.of_rep hy hv.2.1).2,trivial⟩
  ·cases e
 ·cases e
theorem zEI {a b c:ETy} {f:a.T->b.T->c.T->Option Res} {n:FuncId} (h: ∀ x y z r,f x y z=some r->zDn P n [a.av x,b.av y,c.av z] r): ∀ args r,zNd a b c f args=some r->zDn P n args r:=by
 intro args r e;unfold zNd at e;split at e
 ·split at e
  ·rename_i x y z hx hy hz;refine (h _ _ _ _ e).imp fun I vals hv=> ?_
   match vals,hv with
   | [v,w,u],hv=>exact ⟨(ETy.of_rep hx hv.1).2,(ETy.of_rep hy hv.2.1).2,(ETy.of_rep hz hv.2.2.1).2,trivial⟩
  ·cases e
 ·cases e
theorem zCc.imp {f:FuncId} {args args':List AV} {r:zLe} (h:zCc P f args' r) (hi: ∀ I vals,jL I [] args vals->jL I [] args' vals):zCc P f args r :=
 fun I vals w h1 h2=>h I vals w h1 (hi I vals h2)
theorem zXE {ρ:Type} {Ok:List AV->ρ->Prop} (hi: ∀ args args' r,Ok args' r->(∀ I vals,jL I [] args vals->jL I [] args' vals)->Ok args r) {a:ETy} {f:a.T->Option ρ} (h: ∀ x r,f x=some r->Ok [a.av x] r): ∀ args r,zGM a f args=some r->Ok args r:=by
 intro args r e;unfold zGM at e;split at e
 ·split at e
  ·rename_i x hx;refine hi _ _ _ (h _ _ e) fun I vals hv=> ?_
   match vals,hv with
   | [v],hv=>exact ⟨(ETy.of_rep hx hv.1).2,trivial⟩
  ·cases e
 ·cases e
theorem zDa {a:ETy} {f:a.T->Option zLe} {n:FuncId} (h: ∀ x r,f x=some r->zCc P n [a.av x] r): ∀ args r,zGM a f args=some r->zCc P n args r :=
 zXE (Ok:=zCc P n) (fun _ _ _ h hi=>zCc.imp h hi) h
theorem zWC {ρ:Type} {Ok:List AV->ρ->Prop} (hi: ∀ args args' r,Ok args' r->(∀ I vals,jL I [] args vals->jL I [] args' vals)->Ok args r) {a b:ETy} {f:a.T->b.T->Option ρ} (h: ∀ x y r,f x y=some r->Ok [a.av x,b.av y] r): ∀ args r,zNH a b f args=some r->Ok args r:=by
 intro args r e;unfold zNH at e;split at e
 ·split at e
  ·rename_i x y hx hy;refine hi _ _ _ (h _ _ _ e) fun I vals hv=> ?_
   match vals,hv with
   | [v,w],hv=>exact ⟨(ETy.of_rep hx hv.1).2,(ETy.of_rep hy hv.2.1).2,trivial⟩
  ·cases e
 ·cases e
theorem zW6 {a b:ETy} {f:a.T->b.T->Option zLe} {n:FuncId} (h: ∀ x y r,f x y=some r->zCc P n [a.av x,b.av y] r): ∀ args r,zNH a b f args=some r->zCc P n args r :=
 zWC (Ok:=zCc P n) (fun _ _ _ h hi=>zCc.imp h hi) h
theorem zWU {ρ:Type} {Ok:List AV->ρ->Prop} (hi: ∀ args args' r,Ok args' r->(∀ I vals,jL I [] args vals->jL I [] args' vals)->Ok args r) {a b c:ETy} {f:a.T->b.T->c.T->Option ρ} (h: ∀ x y z r,f x y z=some r->Ok [a.av x,b.av y,c.av z] r): ∀ args r,zNd a b c f args=some r->Ok args r:=by
 intro args r e;unfold zNd at e;split at e
 ·split at e
  ·rename_i x y z hx hy hz;refine hi _ _ _ (h _ _ _ _ e) fun I vals hv=> ?_
   match vals,hv with
   | [v,w,u],hv=>exact ⟨(ETy.of_rep hx hv.1).2,(ETy.of_rep hy hv.2.1).2,(ETy.of_rep hz hv.2.2.1).2,trivial⟩
  ·cases e
 ·cases e
theorem zQQ {a b c:ETy} {f:a.T->b.T->c.T->Option zLe} {n:FuncId} (h: ∀ x y z r,f x y z=some r->zCc P n [a.av x,b.av y,c.av z] r): ∀ args r,zNd a b c f args=some r->zCc P n args r :=
 zWU (Ok:=zCc P n) (fun _ _ _ h hi=>zCc.imp h hi) h
theorem zBy {α:Type} : ∀ {l:List (Nat×α)} {t:Nat} {x:α},zEt l t=some x->(t,x)∈l
 | [],_,_,h=>by cases h
 | (k,v)::r,t,x,h=>by
   simp only [zEt] at h;split at h
   ·rename_i e;cases h;rw [zC e];simp
   ·exact zM _ (zBy h)
def zTE (P:Program) (t:TypeId) (d:TypeDesc):Bool:=match d with
 | .struct fs => !P.stoodInHeld t && fs.toList.all fun f => f.name != "_"
 | _=>true
theorem zN3 {t : TypeId} {d : TypeDesc} (h : zTE P t d = true) : ∀ fs, d = .struct fs → P.stoodInHeld t = false ∧ ∀ f ∈ fs.toList, f.name ≠ "_" := by
 rintro fs rfl;simp only [zTE,zA,y8,zO,bne_iff_ne,ne_eq] at h;exact h
def zIS (P:Program):List (Nat×TI)->Prop
 | []=>True
 | x::r=>zNT P x.1 x.2/\zIS P r
theorem zIS.cons {t:Nat} {ti:TI} {r:List (Nat×TI)} (h1:P.underlying t=some ti.desc) (h2:(P.info? t).map (fun i=>(i.size,i.bytes,i.zero.map fun z=>z.cells.toList))=some (ti.size,ti.bytes,some ti.zl))
 (h3:ti.zl.all zGm=true) (h4:ti.zl.length=ti.size) (h5:zTE P t ti.desc=true) (h:zIS P r):zIS P ((t,ti)::r):=⟨⟨h1,h2,h3,h4,zN3 h5⟩,h⟩
theorem zIS.mem: ∀ {l:List (Nat×TI)},zIS P l->∀ x∈l,zNT P x.1 x.2
 | _::_,h,x,hx=>by
   cases zP.1 hx with
   | inl e=>subst e;exact h.1
   | inr e=>exact zIS.mem h.2 x e
theorem zVH (h:zIS P T.ty):zAZ P T:=fun _ _ e=>h.mem _ (zBy e)
theorem zTp (h:(T.ty.all fun x=>zA6 x.2.desc|| x.2.size==1)=true):zHB T:=fun t ti e hn=>by
 have:=zO.1 h _ (zBy e);simpa [hn] using this
def zIE:List (Nat×TI)->Prop
 | []=>True
 | x::r=>(∀ e,x.2.ety=some e->x.2.zl=e.zeroVals/\x.2.size=e.size)/\zIE r
theorem zIE.mem: ∀ {l:List (Nat×TI)},zIE l->∀ x∈l,∀ e,x.2.ety=some e->x.2.zl=e.zeroVals/\x.2.size=e.size
 | _::_,h,x,hx=>by
   cases zP.1 hx with
   | inl e=>subst e;exact h.1
   | inr e=>exact zIE.mem h.2 x e
theorem zUw (h:zIE T.ty):zGx T:=fun _ _ e=>h.mem _ (zBy e)
theorem zP3 {ti:TI} {e':ETy} (h:ti.ety=some e') (hz:ti.zl=e'.zeroVals) (hs:ti.size=e'.size): ∀ e,ti.ety=some e->ti.zl=e.zeroVals/\ti.size=e.size:=fun e he=>by
 rw [h] at he;cases he;exact ⟨hz,hs⟩
theorem zWx {ti:TI} (h:ti.ety=none): ∀ e,ti.ety=some e->ti.zl=e.zeroVals/\ti.size=e.size:=fun e he=>by rw [h] at he;cases he
def zIt (P:Program) (T:Tab):List (Nat×TI)->Prop
 | []=>True
 | x::r=>(∀ kt u,x.2.desc= .map kt u->∀ ki ui k e,T.info kt=some ki->T.info u=some ui->ki.ety=some k->ui.ety=some e->zFK P kt u k e)/\zIt P T r
theorem zIt.mem: ∀ {l:List (Nat×TI)},zIt P T l->∀ x∈l,∀ kt u,x.2.desc= .map kt u->∀ ki ui k e,T.info kt=some ki->T.info u=some ui->ki.ety=some k->ui.ety=some e->zFK P kt u k e
 | _::_,h,x,hx=>by
   cases zP.1 hx with
   | inl e=>subst e;exact h.1
   | inr e=>exact zIt.mem h.2 x e
theorem zTW (h:zIt P T T.ty):zOx P T:=fun t kt u hd=>by
 unfold Tab.desc at hd;cases e:zEt T.ty t with
 | none=>simp [e] at hd
 | some ti=>simp only [e] at hd;exact h.mem _ (zBy e) kt u hd
def z0r:TypeDesc->Bool
 | .map _ _=>true
 | _=>false
theorem zZR {d:TypeDesc} (h:z0r d=false) {Q:Nat->Nat->Prop} : ∀ kt u,d= .map kt u->Q kt u:=fun kt u e=>by subst e;cases h
theorem zKA {kt u:TypeId} {ki ui:TI} {k e:ETy} (h1:T.info kt=some ki) (h2:T.info u=some ui) (h3:ki.ety=some k) (h4:ui.ety=some e) (hm:zFK P kt u k e) {d:TypeDesc} (hd:d= .map kt u) :
 ∀ kt u,d= .map kt u->∀ ki ui k e,T.info kt=some ki->T.info u=some ui->ki.ety=some k->ui.ety=some e->zFK P kt u k e:=by
 intro kt' u' hd' ki' ui' k' e' g1 g2 g3 g4;rw [hd] at hd';cases hd';rw [h1] at g1;cases g1;rw [h2] at g2;cases g2;rw [h3] at g3;cases g3;rw [h4] at g4;cases g4;exact hm
def zJN (P:Program):List (Nat×(List AV->Option Res))->Prop
 | []=>True
 | x :: r => ((∀ args r, x.2 args = some r → zDn P x.1 args r) ∧ ∃ fn, P.funcs[x.1]? = some fn ∧ (fn.name == "runtime.NumGoroutine") = false ∧ fn.body.isNone = false) ∧ zJN P r
theorem zJN.mem : ∀ {l : List (Nat × (List AV → Option Res))}, zJN P l → ∀ x ∈ l, (∀ args r, x.2 args = some r → zDn P x.1 args r) ∧ ∃ fn, P.funcs[x.1]? = some fn ∧ (fn.name == "runtime.NumGoroutine") = false ∧ fn.body.isNone = false
 | _::_,h,x,hx=>by
   cases zP.1 hx with
   | inl e=>subst e;exact h.1
   | inr e=>exact zJN.mem h.2 x e
theorem zVV (h:zJN P T.fn):zYF P T:=⟨fun _ _ e=>(h.mem _ (zBy e)).1,fun _ _ e=>(h.mem _ (zBy e)).2⟩
def z3K (P:Program) (f:FuncId):FrE->Prop
 | .res c=> ∀ args r,c args=some r->zCc P f args r
 | .run h=>zIx P f h
def zLa (P:Program):List (Nat×FrE)->Prop
 | []=>True
 | x :: r => (z3K P x.1 x.2 ∧ ∃ fn, P.funcs[x.1]? = some fn ∧ (fn.name == "runtime.NumGoroutine") = false ∧ fn.body.isNone = false) ∧ zLa P r
theorem zLa.mem : ∀ {l : List (Nat × FrE)}, zLa P l → ∀ x ∈ l, z3K P x.1 x.2 ∧ ∃ fn, P.funcs[x.1]? = some fn ∧ (fn.name == "runtime.NumGoroutine") = false ∧ fn.body.isNone = false
 | _::_,h,x,hx=>by
   cases zP.1 hx with
   | inl e=>subst e;exact h.1
   | inr e=>exact zLa.mem h.2 x e
theorem zVS (h:zLa P T.fr):zZH P T:=⟨fun _ _ e=>(h.mem _ (zBy e)).1,fun _ _ e=>(h.mem _ (zBy e)).1,fun _ _ e=>(h.mem _ (zBy e)).2⟩
theorem zWQ {ty:List (Nat×TI)} (h1:zIS P ty) (h2:(ty.all fun x=>zA6 x.2.desc|| x.2.size==1)=true) (h3:zIE ty) (h4: ∀ fn fr,zIt P ⟨ty,fn,fr⟩ ty) (h5:P.follows .mixedOrders=true)
 {fn:List (Nat×(List AV->Option Res))} {fr:List (Nat×FrE)} (hf:zJN P fn) (hr:zLa P fr):zAS P ⟨ty,fn,fr⟩ :=
 ⟨zVH h1,zTp h2,zUw h3,zVV hf,zVS hr,h5,zTW (h4 fn fr)⟩
def zGg (fn:Func) (m:Nat):Bool :=
 match fn.body with
 | some c=>codeOk fn.ntmps c&&Nat.ble m fn.ntmps
 | _=>false
theorem z2d (R:zAS P T) {f:FuncId} {fn:Func} (hf:P.funcs[f]? =some fn) {args:List AV} (hchk:zGg fn args.length=true) {q:Option Prop} {u:AV} (h:zBV args->Opt q->zB7 T fn args (fun v=>v=u)):zDn P f args (none,q,u):=by
 unfold zGg at hchk;split at hchk
 ·rename_i c hc;simp only [zA] at hchk;exact z2H R hf hc hchk.1 (zU hchk.2) h
 ·cases hchk
theorem z0c (R:zAS P T) {f:FuncId} {fn:Func} (hf:P.funcs[f]? =some fn) {args:List AV} (hchk:zGg fn args.length=true) {q:Option Prop} {u:AV} {us:List Ob} (h:zBV args->Opt q->zGL T fn args (fun v obs=>v=u/\obs=us)):zCc P f args (none,q,u,us):=by
 unfold zGg at hchk;split at hchk
 ·rename_i c hc;simp only [zA] at hchk;exact z1b R hf hc hchk.1 (zU hchk.2) h
 ·cases hchk
def zEP (P : Program) (f : Nat) (c : List AV → Option zLe) : Prop := (∀ args r, c args = some r → zCc P f args r) ∧ ∃ fn, P.funcs[f]? = some fn ∧ (fn.name == "runtime.NumGoroutine") = false ∧ fn.body.isNone = false
theorem jJ.own {i s m n:Nat} (h:m=n):jJ (.s (.own i s m)) (.s (.own i s n)):=jJ.intro (by rw [h])
theorem jJ.ownS {i s s' m n:Nat} (hs:s=s') (h:m=n):jJ (.s (.own i s m)) (.s (.own i s' n)):=jJ.intro (by rw [hs,h])
end
def zGK:Code->Nat
 | .region k _ _=>k
 | .seq a _=>zGK a
 | .block _ c=>zGK c
 | .cond _ a _=>zGK a
 | _=>1000000
theorem zQr {T:Tab} {c:Code} {K:Exit->St->Prop} {st:St} {Q:Prop} (k:Nat) (_:zGK c=k) (h:Or (∃ n,rounds (zBD T c) K n st) Q):Or (∃ n,rounds (zBD T c) K n st) Q:=h
theorem qN {q k:Prop} (h':k) (h:q:=by first|rfl|omega|(simp only [zAL] at *;omega)):zLg q k:=zLg.intro h h'
theorem qH {q k:Prop} (h:jQ q) (h':k):zLg q k:=zLg.intro (jQ.out h) h'
theorem qG {p k:Prop} (h:p->k):zNn p k:=zNn.intro h
theorem qB {p q:Prop} (h:p) (h':q):zWD p q:=zWD.intro h h'
theorem qa {a b:Bool} {x y:Prop} (h:BIf a (BIf b x y) y):BIf (a&&b) x y:=BIf.and h
theorem qo {a b:Bool} {x y:Prop} (h:BIf a x (BIf b x y)):BIf (a|| b) x y:=BIf.or h
theorem qe {α:Type} [BEq α] [LawfulBEq α] {a b:α} {x y:Prop} (h1:a=b->x) (h2:a≠b->y):BIf (a==b) x y:=BIf.eqi h1 h2
theorem qn {α:Type} [BEq α] [LawfulBEq α] {a b:α} {x y:Prop} (h1:a≠b->x) (h2:a=b->y):BIf (a != b) x y:=BIf.nei h1 h2
theorem qd {p x y:Prop} [Decidable p] (h1:p->x) (h2: ¬p->y):BIf (decide p) x y:=BIf.dec h1 h2
theorem qt {b:Bool} {x y:Prop} (h:BIf b y x):BIf (!b) x y:=BIf.nt h
theorem qE {a b:AV} {q:Prop} (h:jJ a b) (h':q):a=b/\q:=yH (jJ.out h) h'
theorem qO {a b:Ob} {q:Prop} (h:zAM a b) (h':q):some a=some b/\q:=yH (zAM.out h) h'
theorem qK {b:Bool} {p:Prop} (h:b=true) (h':p):zEy b p:=zEy.intro h h'
theorem qs {a b:List Ob} (h:zCI a b):a=b:=zCI.out h
theorem qr {a b:Prop} (h:zHm a b):a\/b:=zHm.out h
theorem qq {a b:AV} (h:jJ a b):a=b:=jJ.out h
theorem qh {p:Prop} (h:p):jQ p:=jQ.intro h
theorem gE {α:Type _} {l:List α} {i:Nat} (h:i<l.length):l[i]? =some l[i]:=zB h
theorem gdE {α:Type _} (l:List α) (i:Nat) (a:α):l.getD i a=(l[i]?).getD a:=zH
theorem qz1 {k:IntKind} {m n:Int} (h:m=n):jJ (.s (.int k m)) (.s (.int k n)):=jJ.int h
theorem qz2 {m n:Bool} (h:m=n):jJ (.s (.bool m)) (.s (.bool n)):=jJ.bool h
theorem qz3 {e:ETy} {m n:List e.T} (h:m=n):jJ (.s (.sl e m)) (.s (.sl e n)):=jJ.sl h
theorem qz4 {i s m n:Nat} (h:m=n):jJ (.s (.own i s m)) (.s (.own i s n)):=jJ.own h
theorem qz5 {i s s' m n:Nat} (hs:s=s') (h:m=n):jJ (.s (.own i s m)) (.s (.own i s' n)):=jJ.ownS hs h
theorem qz6 {e:ETy} {u:TypeId} {m n:List e.T} (h:m=n):zAM (.row e u m) (.row e u n):=zAM.row h
theorem qz7 {k v:ETy} {m n:List (k.T×v.T)} (h:m=n):zAM (.map k v m) (.map k v n):=zAM.map h
theorem qz8 {k e:ETy} {m n:List (k.T×List e.T)} (h:m=n):zAM (.gmap k e m) (.gmap k e n):=zAM.gmap h
theorem qz9 {e:ETy} {u:TypeId} {m n:List (List e.T)} (h:m=n):zAM (.grow e u m) (.grow e u n):=zAM.grow h
theorem qz0 {e:ETy} {u:TypeId} {m n:List e.T} (h:m=n):zCI [.row e u m] [.row e u n]:=zCI.row h
theorem qi {b:Bool} {p q:Prop} (h1:b=true->p) (h2:b=false->q):BIf b p q:=BIf.intro h1 h2
theorem j6 {T:Tab} {c:Code} {K:Exit->St->Prop} {F:(X:Type)->Spec X->St->X->Prop} {st:St} (k:Nat) (_:zGK c=k) {X:Type} (S:Spec X) (x0:X) (h1:jQ (S.inv x0)) (h2:zRO st.env (S.head st x0).env) (h3:zLm st.hp (S.head st x0).hp) (h: ∀ x,S.inv x->F X S st x)
 (hn:S.nils=[]:=by exact rfl) (hf:S.frz=[]:=by exact rfl) (h4:(zCS (S.head st x0).next (S.head st x0).env&&zDK (S.head st x0).next (S.head st x0).hp&&Nat.ble (S.head st x0).next st.next)=true:=by exact rfl) :
 (∃ n,rounds (zBD T c) K n st)\/(∃ (X:Type) (S:Spec X),zFz T (z0Q (fun st=>(∃ x,S.inv x/\zOZ st (S.head st x))/\∀ x,S.inv x->F X S st x) S.frz) S.nils st) :=
 .inr ⟨X,S,by rw [hn,hf];exact ⟨⟨x0,h1.out,h2,h3,h4⟩,h⟩⟩
theorem jX {X:Type} {s st:St} {x:X} (S:Spec X) (y:X) (h:jQ (S.inv y)) (h1:zRO s.env (S.head st y).env) (h2:zLm s.hp (S.head st y).hp) (h3:jQ (S.mu y<S.mu x))
 (h4:(zCS (S.head st y).next (S.head st y).env&&zDK (S.head st y).next (S.head st y).hp&&Nat.ble (S.head st y).next s.next)=true:=by with_unfolding_all exact rfl): ∃ y,S.inv y/\zOZ s (S.head st y)/\S.mu y<S.mu x :=
 ⟨y,h.out,⟨h1,h2,h4⟩,h3.out⟩
theorem qy {p q:Prop} (h:q) (e:q->p:=by first|exact fun h=>qN h|exact qa|exact qo):p:=e h
theorem qw {p a b x y:Prop} (h1:a->x) (h2:b->y) (e:(a->x)->(b->y)->p:=by first|exact qe|exact qn|exact qd):p:=e h1 h2
theorem qu {p q:Prop} (h:q) (e:q->p:=by first|exact yH rfl|exact qq|exact qs|exact qK (by kernel_rfl)|exact qr):p:=e h
theorem qv {p q r:Prop} (h:q) (h':r) (e:q->r->p:=by first|exact qH|exact qB|exact qE|exact qO):p:=e h h'
theorem qz {p q:Prop} (h:q) (e:q->p:=by first|exact qz1|exact qz2|exact qz3|exact qz4|exact qz6|exact qz7|exact qz8|exact qz9|exact qz0):p:=e h
theorem qn0:(∀ (α:Type) (a:α),[a].length=1)/\(∀ n:Nat,((n:Int)).toNat=n)/\(∀ (α:Type) (a d:α) (l:List α),(a::l).getD 0 d=a)/\(∀ (α:Type) (a d:α) (l:List α) (n:Nat),(a::l).getD (n+1) d=l.getD n d)/\(∀ (α:Type) (d w:α),List.take 1 (List.drop 0 ((List.replicate 1 d).set 0 w))=[w])/\(∀ (α:Type) (w:α),List.take 1 (List.drop 0 [w])=[w])/\(∀ (α:Type) (d w:α),(List.replicate 1 d).set 0 w=[w])/\(∀ (α:Type) (l:List α),List.take l.length (List.drop 0 l)=l)/\(∀ n:Nat,0+n=n) :=
 ⟨fun _ _=>rfl,fun _=>rfl,fun _ _ _ _=>rfl,fun _ _ _ _ _=>rfl,fun _ _ _=>rfl,fun _ _=>rfl,fun _ _ _=>rfl,fun _ l=>by rw [j5,qJ],yK⟩
theorem zVC {P : Program} {f : Nat} {c : List AV → Option zLe} {fn : Func} (h : ∀ args r, c args = some r → zCc P f args r) (h2 : P.funcs[f]? = some fn) (h3 : (fn.name == "runtime.NumGoroutine") = false := by kernel_rfl) (h4 : fn.body.isNone = false := by kernel_rfl) : zEP P f c := ⟨h, fn, h2, h3, h4⟩
end Go.Vm
