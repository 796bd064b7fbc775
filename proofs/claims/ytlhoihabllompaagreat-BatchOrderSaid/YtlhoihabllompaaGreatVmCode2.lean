/- A region whose order is drawn, as a whole; a whole code. -/
import Derived.Test.YtlhoihabllompaaGreatVmCodetoVmFloat
import Derived.Test.YtlhoihabllompaaGreatVmFloat2toVmFloat3
import Derived.Test.YtlhoihabllompaaGreatVmDraw
import Derived.Test.YtlhoihabllompaaGreatVmGrowtoVmGrow2
import Derived.Sort.LoopGhostIn
import Derived.LoopNIn
set_option linter.unusedSimpArgs false
set_option linter.unusedVariables false
set_option maxHeartbeats 8000000
set_option maxRecDepth 100000
namespace Go.Vm
open Go.RowKit
section
variable {P:Program} {B:Base} {w:World} {σ:Sig} {β:yR} {st:St} {T:Tab} {N:Nat} {a:Act} {r:Option Nat} {n:Nat} {ops:Array Oper} {Q:Exit->Act->World->Prop}
theorem zEi (h:GA B N st a w) (hb:Below B.w.heap.size w {w with drawn:=w.drawn+1}):GA B N st a {w with drawn:=w.drawn+1} :=by
 obtain ⟨σ,β,hg⟩:=h.gg;exact ⟨h.defers,h.size,σ,β,⟨hg.mem.ag,fun id ob hi=>(hg.mem.ob id ob hi).same (fun _ _=>rfl) fun _ _ _=>rfl⟩,hg.env,hg.len,hg.sep,hg.bel.trans hb,hg.grew⟩
theorem zOo {o:Oper} {t:TypeId} (h:jC o.op=some t):j0 o.op=false:=by rw [zG6 h];rfl
theorem zSu {D:List Tmp} : ∀ {l:List Oper},zSN ops D l=true->∀ o∈l,j0 o.op=true->∀ t∈o.looksAt ops,t∉D:=by
 intro l
 induction l with
 | nil=>intro _ o ho;cases ho
 | cons x l ih =>
   intro h o ho hc t ht;simp only [zSN,zC] at h;rcases zT.1 ho with rfl|ho
   ·have:=h.1;simp only [hc,Bool.not_true,Bool.false_or,zJ] at this;simpa using this t ht
   ·exact ih h.2 o ho hc t ht
theorem zJn {o:Oper} {t:TypeId} {d:Tmp} (ha:jC o.op=some t) (hd:o.dst=some d): ∀ {l:List Oper},o∈l->d∈jZ l:=by
 intro l
 induction l with
 | nil=>intro ho;cases ho
 | cons x l ih =>
   intro ho;simp only [jZ];rcases zT.1 ho with rfl|ho
   ·rw [ha,hd];simp
   ·have:=ih ho;split
    ·exact zQ _ this
    ·exact this
structure PF (B:Base) (N:Nat) (T:Tab) (ops:Array Oper) (k:Nat) (D:List Tmp) (hp:jJ) (nx:Nat) (gf:Nat->List AS) (i:Nat) (env0:Env) (st:St) (a:Act) (w:World):Prop where
 ga:GA B N ⟨env0,hp,nx⟩ a w
 same: ∀ x,x∉D->yZ st.env x=yZ env0 x
 next:st.next=nx+zBO ops.toList i
 ext:z7j nx hp st.hp
 done: ∀ j t,zAx ops k j t->j<i->∃ ti,T.info t=some ti/\hget st.hp (nx+zBO ops.toList j)=some (.flat t (z0g ops k gf (fun x=>Nat.blt x i) ti.zero j))
 only: ∀ id ob,hget st.hp id=some ob->id<nx\/∃ j t,zAx ops k j t/\j<i/\id=nx+zBO ops.toList j
 slots: ∀ (j:Nat) (t:TypeId) (oj:Oper) (d:Tmp),zAx ops k j t->j<i->ops[j]? =some oj->oj.dst=some d->yZ st.env d= .s (.ptr (nx+zBO ops.toList j) 0 0)
theorem zGv {a b:Nat} :Nat.blt a b=true↔a<b:=by simp [Nat.blt];omega
theorem zM6 {i x:Nat} (h:x≠i):Nat.blt x i=Nat.blt x (i+1):=by
 rw [Bool.eq_iff_iff,zGv,zGv];omega
theorem zJ9: ∀ (l:List Oper) (i:Nat) (o:Oper),l[i]? =some o->zBO l (i+1)=zBO l i+(match jC o.op with|some _=>1|none=>0)
 | [],i,o,h=>by simp at h
 | x::l,0,o,h=>by
   simp at h;subst h;simp only [zBO];cases l<;>simp only [zBO]<;>cases jC x.op<;>rfl
 | x::l,i+1,o,h=>by
   simp only [zBO];rw [zJ9 l i o (by simpa using h)];omega
theorem zLA {e:Fr} {d:Option Tmp} {v:AV} {x:Tmp} (h: ∀ t,d=some t->t≠x):upd e d v x=e x:=by
 cases d with
 | none=>rfl
 | some t=>simp only [upd];rw [if_neg (h t rfl)]
theorem zCX (R:jM P T) {k:Nat} {D:List Tmp} {hp:jJ} {nx:Nat} (hF:z1W ops k) (hDn: ∀ (j:Nat) (o:Oper) (d:Tmp),j<k->ops[j]? =some o->jC o.op=none->o.dst=some d->d∉D) (hD: ∀ (j:Nat) (o:Oper) (t:TypeId) (d:Tmp),j<k->ops[j]? =some o->jC o.op=some t->o.dst=some d->d∈D)
 (hall: ∀ (j:Nat) (o:Oper),j<k->ops[j]? =some o->yT N o=true/\zUW o=true/\(j0 o.op=true->∀ t∈o.looksAt ops,t∉D)) :
 ∀ (l1 l2:List Oper) (i:Nat) {gf0:Nat->List AS} {st:St} {env0:Env} {a:Act} {w:World} {K:St->Prop},i+l1.length=k->(∀ j:Nat,j<l1.length->l1[j]? =ops[i+j]?)->PF B N T ops k D hp nx gf0 i env0 st a w->zAN T true ops (l1++l2) st K->
 ∃ gf env0' st' a' w',(∀ x,x<i->gf x=gf0 x)/\zAl (Yields T ops hp nx gf) (yZ st'.env) i l1 (yZ st.env)/\zAN T true ops l2 st' K/\PF B N T ops k D hp nx gf k env0' st' a' w'
 | [],l2,i,gf0,st,env0,a,w,K,hik,_,h,hk=>by
   simp only [List.length_nil,Nat.add_zero] at hik;subst hik;exact ⟨gf0,env0,st,a,w,fun _ _=>rfl,rfl,hk,h⟩
 | o ::l1,l2,i,gf0,st,env0,a,w,K,hik,hl,h,hk=>by
   simp only [yA] at hik;have h0:ops[i]? =some o:=by simpa using (hl 0 (by simp)).symm
   have h0l:ops.toList[i]? =some o:=by simpa using h0
   have hl': ∀ j:Nat,j<l1.length->l1[j]? =ops[i+1+j]? :=fun j hj=>by
    have:=hl (j+1) (by simp;omega);simpa [Nat.add_assoc,Nat.add_comm 1 j] using this
   obtain ⟨ho,hpre,hlook⟩:=hall i o (by omega) h0;obtain ⟨env1,hp1,nx1⟩:=st;cases ha:jC o.op with
   | some t =>
     have hop:=zG6 ha
     have hg:o.guard=none:=by
      unfold zUW at hpre;rw [zOo ha] at hpre;simp only [Bool.false_or,zC] at hpre;exact Option.isNone_iff_eq_none.1 hpre.2
     have nini: ∀ {i' j:Nat},initOf ops k j=some i'->i'≠i:=fun {i' j} hj e=>by
      obtain ⟨_,o',_,_,_,_,ho',_,hin,_⟩:=zAM hj;rw [e,h0] at ho';cases ho';rw [zHG hin] at ha;cases ha
     have hat:zAx ops k i t:=⟨by omega,o,h0,ha⟩;have hsucc:=zJ9 _ _ _ h0l;rw [ha] at hsucc;simp only at hsucc;simp only [List.cons_append,zAN,hg] at hk
     have hastep:zBr T true o ⟨env1,hp1,nx1⟩=(match T.info t with|some ti=>some (none,none,zC1 ⟨env1,hp1,nx1⟩ o.dst t ti.zero)|none=>none):=by
      simp only [zBr,jY,jO,hop,zCG,zJg,zGd];cases T.info t<;>rfl
     simp only [aop] at hk;unfold zSI at hk;rw [hastep] at hk;simp only [St.force_eq] at hk;cases hti:T.info t with
     | none=>rw [hti] at hk;exact hk.elim
     | some ti =>
       rw [hti] at hk;simp only at hk;have hnx:nx1=nx+zBO ops.toList i:=h.next
       have e1:zC1 ⟨env1,hp1,nx1⟩ o.dst t ti.zero=(⟨env1,(nx1,.flat t ti.zero)::hp1,nx1+1⟩:St).put o.dst (.s (.ptr nx1 0 0)):=rfl;rw [e1] at hk;obtain ⟨env',e2,e3⟩:=zAK env1 ((nx1,.flat t ti.zero)::hp1) (nx1+1) o.dst (.s (.ptr nx1 0 0));rw [e2] at hk
       have hPF:PF B N T ops k D hp nx gf0 (i+1) env0 ⟨env',(nx1,.flat t ti.zero)::hp1,nx1+1⟩ a w:=by
        refine ⟨h.ga,fun x hx=> ?_,by show nx1+1=_;rw [hsucc];omega,fun id hid=> ?_,fun j u hj hji=> ?_,fun id ob hi=> ?_,fun j u oj d hj hji hoj hd=> ?_⟩
        ·show yZ env' x=_;rw [e3,zLA fun d hd e=>hx (by subst e;exact hD i o t d (by omega) h0 ha hd)];exact h.same x hx
        ·rw [yL,if_neg (by omega)];exact h.ext id hid
        ·show ∃ ti',_/\hget ((nx1,.flat t ti.zero)::hp1) _=_;rw [yL]
         by_cases e:i=j
         ·subst e;obtain ⟨_,o',ho',ha'⟩:=hj;rw [h0] at ho';cases ho';rw [ha] at ha';cases ha';refine ⟨ti,hti,?_⟩;rw [if_pos hnx,zEh fun i' hi'=> ?_];obtain ⟨hi'k,o',oj',t',d',x',r1,r2,r3,r4⟩:=zAM hi';rw [h0] at r2;cases r2;obtain ⟨j2,oj2,s1,s2,s3,s4⟩:=hF.has _ _ _ _ _ hi'k r1 r3;have:=hF.inj i j2 _ _ _ _ _ (by omega) (by omega) h0 s2 ha s3 r4 s4;subst this;rw [<- Bool.not_eq_true,zGv];omega
         ·rw [if_neg (fun e'=>e (zEd hat hj (by omega)))];obtain ⟨ti',q1,q2⟩:=h.done j u hj (by omega);refine ⟨ti',q1,?_⟩;rw [show hget hp1 (nx+zBO ops.toList j)=_ from q2,zBc (gf':=gf0) (was':=fun x=>Nat.blt x (i+1)) fun i' hi'=>⟨zM6 (nini hi'),fun _=>rfl⟩]
        ·simp only [yL] at hi;split at hi
         ·rename_i e;exact .inr ⟨i,t,hat,by omega,by omega⟩
         ·rcases h.only id ob hi with q|⟨j,u,q1,q2,q3⟩
          ·exact .inl q
          ·exact .inr ⟨j,u,q1,by omega,q3⟩
        ·show yZ env' d=_;rw [e3]
         by_cases e:i=j
         ·subst e;rw [h0] at hoj;cases hoj;rw [hd];simp only [upd,if_true];rw [hnx]
         ·rw [zLA fun d' hd' e'=>e (by
           subst e';obtain ⟨_,o',ho',ha'⟩:=hj;rw [hoj] at ho';cases ho'
           exact hF.inj i j _ _ _ _ _ (by omega) (by omega) h0 hoj ha ha' hd' hd)]
          exact h.slots j u oj d hj (by omega) hoj hd
       obtain ⟨gf,env0',st',a',w',r0,r1,r2,r3⟩:=zCX R hF hDn hD hall l1 l2 (i+1) (by omega) hl' hPF hk;refine ⟨gf,env0',st',a',w',fun x hx=>r0 x (by omega),⟨.s (.ptr nx1 0 0),?_,?_⟩,r2,r3⟩
       ·unfold Yields;rw [ha];exact ⟨hg,by rw [hti];rfl,by rw [hnx]⟩
       ·show zAl (Yields T ops hp nx gf) _ (i+1) l1 (upd (yZ env1) o.dst _);rw [<- e3];exact r1
   | none =>
    have hsucc:=zJ9 _ _ _ h0l;rw [ha] at hsucc;simp only [Nat.add_zero] at hsucc;cases hin:zAt o.op with
    | some tdx =>
     obtain ⟨t,d,x⟩:=tdx;have hop:=zIP hin
     have hg:o.guard=none:=by
      unfold zUW at hpre;rw [hop] at hpre;simp only [j0,jC,zAt,Bool.false_or,Option.isSome_none,Option.isSome_some,Bool.true_and] at hpre;exact Option.isNone_iff_eq_none.1 hpre
     obtain ⟨j,oj,hji,hoj,haj,hdj⟩:=hF.has i o t d x (by omega) h0 hin;have hat:zAx ops k j t:=⟨by omega,oj,hoj,haj⟩;have hof:initOf ops k j=some i:=hF.initOf i j o oj t t d x (by omega) (by omega) h0 hoj hin haj hdj;have hsl:yZ env1 d= .s (.ptr (nx+zBO ops.toList j) 0 0):=h.slots j t oj d hat hji hoj hdj;obtain ⟨ti,hti,hhp⟩:=h.done j t hat hji;rw [zEh fun i' hi'=>by rw [hof] at hi';cases hi';rw [<- Bool.not_eq_true,zGv];omega] at hhp
     have hhp:hget hp1 (nx+zBO ops.toList j)=some (.flat t ti.zero):=hhp;simp only [List.cons_append,zAN,hg] at hk
     have hastep:zBr T true o ⟨env1,hp1,nx1⟩=zBz T t (.s (.ptr (nx+zBO ops.toList j) 0 0)) (y7 env1 x) ⟨env1,hp1,nx1⟩ o.dst:=by
      simp only [zBr,jY,jO,hop,zCG,zJg,zGd];rw [show y7 env1 (.tmp d)=_ from hsl]
     simp only [aop] at hk;unfold zSI at hk;rw [hastep] at hk;simp only [St.force_eq] at hk;cases hes:zBz T t (.s (.ptr (nx+zBO ops.toList j) 0 0)) (y7 env1 x) ⟨env1,hp1,nx1⟩ o.dst with
     | none=>rw [hes] at hk;exact hk.elim
     | some res =>
       obtain ⟨m,hfl,c1,c2,c3,hres⟩:=zIM hes hhp;rw [hes,hres] at hk;simp only at hk;obtain ⟨env',e2,e3⟩:=zAK env1 (zA6 hp1 (nx+zBO ops.toList j) (.flat t (zAZ ti.zero 0 m))) nx1 o.dst .undef;rw [e2] at hk;have hset_get: ∀ id,hget (zA6 hp1 (nx+zBO ops.toList j) (.flat t (zAZ ti.zero 0 m))) id=if id=nx+zBO ops.toList j then some (.flat t (zAZ ti.zero 0 m)) else hget hp1 id:=fun id=>zAR ⟨_,hhp⟩;obtain ⟨env0',e4,e5⟩:=zAK env0 hp nx o.dst .undef
       have hga:=zBG h.ga ho;rw [e4] at hga
       let gf1:Nat->List AS:=fun y=>if y=i then m else gf0 y
       have hg1:gf1 i=m:=if_pos rfl;have hg2: ∀ y,y≠i->gf1 y=gf0 y:=fun y hy=>if_neg hy
       have hPF:PF B N T ops k D hp nx gf1 (i+1) env0' ⟨env',zA6 hp1 (nx+zBO ops.toList j) (.flat t (zAZ ti.zero 0 m)),nx1⟩ (a.put o.dst undef) w:=by
        refine ⟨hga,fun y hy=> ?_,by rw [hsucc];exact h.next,fun id hid=> ?_,fun j' u hj' hji'=> ?_,fun id ob hi=> ?_,fun j' u oj' d' hj' hji' hoj' hd'=> ?_⟩
        ·show yZ env' y=_;rw [e3,e5];cases hd:o.dst with
         | none=>exact h.same y hy
         | some d =>
           simp only [upd];split
           ·rfl
           ·exact h.same y hy
        ·show hget (zA6 hp1 _ _) id=_;rw [hset_get,if_neg (by omega)];exact h.ext id hid
        ·show ∃ ti',_/\hget (zA6 hp1 _ _) _=_;rw [hset_get]
         have hne:j'≠i:=fun e=>by
          subst e;obtain ⟨_,o',ho',ha'⟩:=hj';rw [h0] at ho';cases ho';rw [ha] at ha';cases ha'
         by_cases e:j'=j
         ·subst e;obtain ⟨_,o',ho',ha'⟩:=hj';rw [hoj] at ho';cases ho';rw [haj] at ha';cases ha';exact ⟨ti,hti,by rw [if_pos rfl,zNU (was:=fun x=>Nat.blt x (i+1)) hof (zGv.2 (Nat.lt_succ_self i)),hg1]⟩
         ·rw [if_neg (fun e'=>e (zEd hj' hat (by omega)))];obtain ⟨ti',q1,q2⟩:=h.done j' u hj' (by omega);refine ⟨ti',q1,?_⟩;rw [show hget hp1 (nx+zBO ops.toList j')=_ from q2,zBc (gf':=gf1) (was':=fun x=>Nat.blt x (i+1)) fun i' hi'=> ?_]
          have hii:i'≠i:=fun e=>by
           subst e;obtain ⟨_,o',oj',t',d',x',r1,r2,r3,r4⟩:=zAM hi';obtain ⟨hjk',o2,ho2,ha2⟩:=hj';rw [h0] at r1;cases r1;rw [hin] at r3;cases r3;rw [ho2] at r2;cases r2;exact absurd (hF.inj j' j _ _ _ _ _ hjk' (by omega) ho2 hoj ha2 haj r4 hdj) (by assumption)
          exact ⟨zM6 hii,fun _=>(hg2 i' hii).symm⟩
        ·have hi:hget (zA6 hp1 (nx+zBO ops.toList j) (.flat t (zAZ ti.zero 0 m))) id=some ob:=hi;rw [hset_get] at hi;split at hi
         ·rename_i e;exact .inr ⟨j,t,hat,by omega,e⟩
         ·rcases h.only id ob hi with q|⟨j',u,q1,q2,q3⟩
          ·exact .inl q
          ·exact .inr ⟨j',u,q1,by omega,q3⟩
        ·have hne:j'≠i:=fun e=>by
          subst e;obtain ⟨_,o',ho',ha'⟩:=hj';rw [h0] at ho';cases ho';rw [ha] at ha';cases ha'
         show yZ env' d'=_;obtain ⟨hjk',o',ho',ha'⟩:=hj';rw [hoj'] at ho';cases ho';rw [e3,zLA fun d2 hd2 e=>hF.dst i o d' j' oj' u (by omega) hjk' h0 hoj' ha ha' hd' (by rw [hd2,e])];exact h.slots j' u oj' d' ⟨hjk',oj',hoj',ha'⟩ (by omega) hoj' hd'
       obtain ⟨gf,env0'',st',a',w',r0,r1,r2,r3⟩:=zCX R hF hDn hD hall l1 l2 (i+1) (by omega) hl' hPF hk;refine ⟨gf,env0'',st',a',w',fun y hy=>(r0 y (by omega)).trans (hg2 y (by omega)),⟨.undef,?_,?_⟩,r2,r3⟩
       ·have hgi:gf i=m:=(r0 i (by omega)).trans hg1;unfold Yields;rw [ha,hin];exact ⟨hg,rfl,j,oj,ti,hji,hoj,haj,hdj,hsl,hti,by rw [y4,hgi];exact hfl,by rw [hgi];exact c1,by rw [hgi];exact c2,by rw [hgi];exact c3⟩
       ·show zAl (Yields T ops hp nx gf) _ (i+1) l1 (upd (yZ env1) o.dst _);rw [<- e3];exact r1
    | none =>
     have hc:j0 o.op=true:=by
      unfold zUW at hpre;rw [ha,hin] at hpre;simpa using hpre
     have hlook:=hlook hc
     have nini: ∀ {i' j:Nat},initOf ops k j=some i'->i'≠i:=fun {i' j} hj e=>by
      obtain ⟨_,o',_,_,_,_,ho',_,hin',_⟩:=zAM hj;rw [e,h0] at ho';cases ho';rw [hin] at hin';cases hin'
     -- the same frame, as far as this operation looks
     have hev: ∀ x∈o.op.operands,y7 env1 x=y7 env0 x:=fun x hx=>by
      cases x with
      | tmp t=>exact h.same t (hlook t (by
         simp only [Oper.looksAt,yD,List.mem_filterMap]
         exact .inl ⟨.tmp t,by simpa using hx,rfl⟩))
      | _=>rfl
     have hlow: ∀ x∈o.op.operands,(y7 env1 x).low nx:=fun x hx=>by
      rw [hev x hx];obtain ⟨σ,β,hg⟩:=h.ga.gg
      have hx':zDy x=true:=by
       simp only [yT,zC,zJ] at ho;exact ho.2 x (by simpa using hx)
      have:=(jP hg hx').low;rw [hg.len] at this;exact this
     have hcong: ∀ hp2,z7j nx hp hp2->jO T o.op (y7 env1) hp2=jO T o.op (y7 env0) hp:=fun hp2 hh=>by
      rw [zTX hlow hh (let ⟨_,_,hg⟩:=h.ga.gg;hg.flatOk),qF hev]
     have hPF: ∀ {v:AV} {a':Act} {w':World} {env1':Env},yZ env1'=yZ env1->GA B N ((⟨env0,hp,nx⟩:St).put o.dst v) a' w'->∃ env0' env',(⟨env1',hp1,nx1⟩:St).put o.dst v=⟨env',hp1,nx1⟩/\yZ env'=upd (yZ env1) o.dst v/\PF B N T ops k D hp nx gf0 (i+1) env0' ⟨env',hp1,nx1⟩ a' w':=by
      intro v a' w' env1' hE hga;obtain ⟨env0',e1,e2⟩:=zAK env0 hp nx o.dst v;obtain ⟨env',e3,e4⟩:=zAK env1' hp1 nx1 o.dst v;rw [e1] at hga;refine ⟨env0',env',e3,by rw [e4,hE],hga,fun x hx=> ?_,by rw [hsucc];exact h.next,h.ext,fun j u hj hji=> ?_,fun id ob hi=> ?_,fun j u oj d hj hji hoj hd=> ?_⟩
      ·show yZ env' x=_;rw [e4,e2,hE];cases hd:o.dst with
       | none=>exact h.same x hx
       | some d =>
         simp only [upd];split
         ·rfl
         ·exact h.same x hx
      ·have hlt:j<i:=by
        rcases Nat.lt_or_ge j i with q|q
        ·exact q
        ·obtain rfl:j=i:=by omega
         obtain ⟨_,o',ho',ha'⟩:=hj;rw [h0] at ho';cases ho';rw [ha] at ha';cases ha'
       obtain ⟨ti',q1,q2⟩:=h.done j u hj hlt;refine ⟨ti',q1,?_⟩;rw [show hget hp1 (nx+zBO ops.toList j)=_ from q2,zBc (gf':=gf0) (was':=fun x=>Nat.blt x (i+1)) fun i' hi'=>⟨zM6 (nini hi'),fun _=>rfl⟩]
      ·rcases h.only id ob hi with q|⟨j,u,q1,q2,q3⟩
       ·exact .inl q
       ·exact .inr ⟨j,u,q1,by omega,q3⟩
      ·have hlt:j<i:=by
        rcases Nat.lt_or_ge j i with q|q
        ·exact q
        ·obtain rfl:j=i:=by omega
         obtain ⟨_,o',ho',ha'⟩:=hj;rw [h0] at ho';cases ho';rw [ha] at ha';cases ha'
       show yZ env' d=_;obtain ⟨hjk',o',ho',ha'⟩:=hj;rw [hoj] at ho';cases ho';rw [e4,hE,zLA fun d2 hd2 e=>hF.dst i o d j oj u (by omega) hjk' h0 hoj ha ha' hd (by rw [hd2,e])];exact h.slots j u oj d ⟨hjk',oj,hoj,ha'⟩ hlt hoj hd
     -- one step
     have run: ∀ {env1':Env},yZ env1'=yZ env1->qD ops (yZ env1) o=some true->aop T true o ⟨env1',hp1,nx1⟩ (fun st'=>zAN T true ops (l1++l2) st' K)->
      ∃ gf env0' st' a' w',(∀ x,x<i->gf x=gf0 x)/\zAl (Yields T ops hp nx gf) (yZ st'.env) i (o::l1) (yZ env1)/\zAN T true ops l2 st' K/\PF B N T ops k D hp nx gf k env0' st' a' w':=by
      intro env1' hE hw hk;have hEv:y7 env1'=y7 env1:=by rw [<- y4,<- y4,hE]
      have core: ∀ {p q:Option Prop} {st':St},zBr T true o ⟨env1',hp1,nx1⟩=some (p,q,st')->Opt p/\(Opt q->zAN T true ops (l1++l2) st' K->
       ∃ gf env0' st' a' w',(∀ x,x<i->gf x=gf0 x)/\zAl (Yields T ops hp nx gf) (yZ st'.env) i (o::l1) (yZ env1)/\zAN T true ops l2 st' K/\PF B N T ops k D hp nx gf k env0' st' a' w'):=by
       intro p q st' hs;unfold zBr at hs;simp only at hs;split at hs
       ·rename_i res hcs;cases Option.some.inj hs;unfold jY at hcs;split at hcs
        ·rename_i p' q' v hv;cases hcs;simp only [hEv] at hv;have hv0:=hv;rw [hcong hp1 h.ext] at hv0;obtain ⟨h1,h2⟩:=zBw (r:=none) (n:=0) R h.ga ho hv0;refine ⟨h1,fun hq hk'=> ?_⟩;obtain ⟨a',w',hga'⟩:=zD2 (h2 hq (K:=fun a' w'=>GA B N ((⟨env0,hp,nx⟩:St).put o.dst v) a' w') (Q:=fun _ _ _=>False) fun _ _ h=>h);obtain ⟨env0',env',e1,e2,hpf⟩:=hPF hE hga';rw [e1] at hk';obtain ⟨gf,env0',st',a2,w2,r0,r1,r2,r3⟩:=zCX R hF hDn hD hall l1 l2 (i+1) (by omega) hl' hpf hk'
         refine ⟨gf,env0',st',a2,w2,fun x hx=>r0 x (by omega),⟨v,?_,?_⟩,r2,r3⟩
         ·unfold Yields;rw [ha,hin];refine .inl ⟨hw,p,q,fun hp2 hh=> ?_,hq⟩;rw [y4,hcong hp2 hh];exact hv0
         ·rw [e2] at r1;exact r1
        ·cases hcs
       ·rename_i hcs;rw [zFo hc hcs] at hs;cases hs
      simp only [aop] at hk;unfold zSI at hk;simp only [St.force_eq] at hk;split at hk
      ·rename_i st' hs;exact (core hs).2 trivial hk
      ·rename_i p st' hs;obtain ⟨h1,h2⟩:=core hs;exact h2 trivial (hk.out h1)
      ·rename_i q st' hs;obtain ⟨h1,h2⟩:=core hs;obtain ⟨k1,k2⟩:=hk.out;exact h2 k1 k2
      ·rename_i p q st' hs;obtain ⟨h1,h2⟩:=core hs;obtain ⟨k1,k2⟩:=(hk.out h1).out;exact h2 k1 k2
      ·exact hk.elim
     have skip: ∀ {env1':Env},yZ env1'=yZ env1->qD ops (yZ env1) o=some false->zAN T true ops (l1++l2) ((⟨env1',hp1,nx1⟩:St).put o.dst .undef) K->
      ∃ gf env0' st' a' w',(∀ x,x<i->gf x=gf0 x)/\zAl (Yields T ops hp nx gf) (yZ st'.env) i (o::l1) (yZ env1)/\zAN T true ops l2 st' K/\PF B N T ops k D hp nx gf k env0' st' a' w':=by
      intro env1' hE hw hk;obtain ⟨env0',env',e1,e2,hpf⟩:=hPF hE (zBG h.ga ho);rw [e1] at hk;obtain ⟨gf,env0',st',a2,w2,r0,r1,r2,r3⟩:=zCX R hF hDn hD hall l1 l2 (i+1) (by omega) hl' hpf hk;refine ⟨gf,env0',st',a2,w2,fun x hx=>r0 x (by omega),⟨.undef,?_,?_⟩,r2,r3⟩
      ·unfold Yields;rw [ha,hin];exact .inr ⟨hw,rfl⟩
      ·rw [e2] at r1;exact r1
     simp only [List.cons_append,zAN,St.force_eq] at hk;cases hg:o.guard with
     | none =>
       simp only [hg] at hk;exact run rfl (by simp [qD,hg]) hk
     | some jw =>
       obtain ⟨j,want⟩:=jw;simp only [hg] at hk;split at hk
       ·rename_i b hb;obtain ⟨d,hd,hd2⟩:=j8 (ops:=ops) (env:=env1) (j:=j) (by rw [hb];simp);rw [hd2] at hb;rw [hd] at hk;have hw:qD ops (yZ env1) o=some (b==want):=by simp [qD,hg,hd,hb]
        have hE: ∀ b',yZ env1 d= .s (.bool b')->yZ ((d,.s (.bool b'))::env1)=yZ env1:=fun b' hb'=>by
         funext x;rw [qR];split
         ·rename_i e;subst e;exact hb'.symm
         ·rfl
        cases b with
        | true =>
          cases want with
          | true=>exact run (hE _ hb) hw hk
          | false=>exact skip (hE _ hb) hw hk
        | false =>
          cases want with
          | true=>exact skip (hE _ hb) hw hk
          | false=>exact run (hE _ hb) hw hk
       ·rename_i vs hb;obtain ⟨d,hd,hd2⟩:=j8 (ops:=ops) (env:=env1) (j:=j) (by rw [hb];simp);rw [hd2] at hb;exact skip rfl (by simp [qD,hg,hd,hb]) hk
       ·exact hk.elim
theorem zCH {l m:Array Bool} (hs:l.size=m.size) (h: ∀ i,l.getD i true=m.getD i true):l=m:=by
 apply Array.ext hs;intro i h1 h2;have:=h i;simpa [zL,h1,h2] using this
theorem fold_size (k:Nat) (l:Array Bool):((List.range k).foldl (fun l i=>l.setIfInBounds i true) l).size=l.size:=by
 induction k with
 | zero=>rfl
 | succ k ih=>rw [List.range_succ,List.foldl_append];simpa using ih
theorem zBB (k:Nat) (l:Array Bool) (i:Nat):((List.range k).foldl (fun l i=>l.setIfInBounds i true) l).getD i true=if i<k then true else l.getD i true:=by
 induction k with
 | zero=>simp
 | succ k ih =>
   rw [List.range_succ,List.foldl_append];simp only [List.foldl_cons,List.foldl_nil]
   by_cases hi:k=i
   ·subst hi;rw [if_pos (Nat.lt_succ_self k)];rcases Nat.lt_or_ge k l.size with h'|h'
    ·simp [zL,Array.getElem?_setIfInBounds,fold_size,h']
    ·have:(((List.range k).foldl (fun l i=>l.setIfInBounds i true) l).setIfInBounds k true).size<=k:=by simpa [fold_size] using h'
     simp [zL,Array.getElem?_eq_none this]
   ·rw [getD_set_ne true hi,ih]
    by_cases h1:i<k
    ·rw [if_pos h1,if_pos (by omega)]
    ·rw [if_neg h1,if_neg (by omega)]
theorem zEA (n:Nat):Dn ops (Array.replicate n false):=fun j i hj _=>by
 rw [zL,Array.getElem?_replicate] at hj;split at hj<;>simp at hj
theorem zET (R:jM P T) {id:Nat} (hall: ∀ o∈ops.toList,yT N o=true) {k:Nat} (hB:zSM ops k=true) {K:St->Prop} (h:GA B N st a w) (hk:zAN T true ops ops.toList st K)
 (hQ: ∀ st' a' w',K st'->GA B N st' a' w'->Q .normal a' w'):(Code.region id ops true).wpIn (FR r) n P Q a w:=by
 have hall2: ∀ (i:Nat) (o:Oper),ops[i]? =some o->yT N o=true:=fun i o e=>hall o (by
  obtain ⟨hi,e⟩:=zW.1 e;subst e;simp)
 obtain ⟨env,hp,nx⟩:=st;simp only [zSM,zC] at hB;obtain ⟨⟨⟨hBk,hBp⟩,hBf⟩,⟨hB0,hB1⟩,hB2⟩:=hB;have hF:z1W ops k:=z0h hBf;have hkle:k<=ops.size:=zU hBk;have hsplit:ops.toList.take k++ops.toList.drop k=ops.toList:=jE _ _;have hlen1:(ops.toList.take k).length=k:=by simp;omega
 have hlen2:(ops.toList.drop k).length=ops.size - k:=by simp
 have hmem: ∀ (j:Nat) (o:Oper),j<k->ops[j]? =some o->o∈ops.toList.take k:=fun j o hj ho=>by
  rw [List.mem_iff_getElem?];exact ⟨j,by rw [List.getElem?_take,if_pos hj];simpa using ho⟩
 rw [<- hsplit] at hk;have hbd:Below B.w.heap.size w {w with drawn:=w.drawn+1} :=⟨⟨rfl,rfl,rfl,zI _,fun _ _=>rfl⟩,Nat.le_succ _⟩
 have hpf:PF B N T ops k (jZ (ops.toList.take k)) hp nx (fun _=>[]) 0 env ⟨env,hp,nx⟩ a w:=⟨h,fun _ _=>rfl,by cases ops.toList<;>simp [zBO],fun _ _=>rfl,fun j t _ hj=>absurd hj (by omega),fun id ob hi=>by
  obtain ⟨σ,β,hg⟩:=h.gg
  exact .inl (hg.id_lt hi),fun j t oj d _ hj=>absurd hj (by omega)⟩
 obtain ⟨gf,env0',st',a',w',_,hlex,htl,hpf'⟩:=zCX (k:=k) R hF (fun j o d hj ho ha hd=>by
  simp only [zMJ,zC] at hBf
  exact zGx hBf.1.2 o (hmem j o hj ho) ha d hd) (D:=jZ (ops.toList.take k)) (fun j o t d hj ho ha hd=>zJn ha hd (hmem j o hj ho))
  (fun j o hj ho=>⟨hall2 j o ho,zJ.1 hBp o (hmem j o hj ho),zSu hB0 o (hmem j o hj ho)⟩) (ops.toList.take k) (ops.toList.drop k) 0 (by rw [hlen1];omega) (fun j hj=>by
    rw [hlen1] at hj
    rw [zD,List.getElem?_take,if_pos hj];simp) hpf hk
 refine wpIn_region_any R.mixed ?_
 have hany:=zB7 (fun _ _ _ _ _ _ h=>Yields.of_apart h) (k:=k) (ops.toList.take k) 0 (Array.replicate ops.size false) (yZ env) (by rw [hlen1];omega) (fun j hj=>by
  rw [hlen1] at hj
  rw [zD,List.getElem?_take,if_pos hj];simp) (fun j hj=>by omega) (by rw [hlen1];exact hB1) (zEA _) hlex
 rw [hlen1] at hany
 -- the free places
 obtain ⟨σ,β,hg⟩:=(zEi h hbd).gg;obtain ⟨β',hg',hfree⟩:=hg.frees (zBO ops.toList k)
 have hrf:RF B N T ops k hp nx gf (Array.replicate ops.size false) (yZ env) a {w with drawn:=w.drawn+1} env hp β':=by
  refine ⟨rfl,⟨h.defers,h.size,σ,hg'⟩,fun _ _=>rfl,fun i t hi hl=> ?_,fun i t hi hl=>⟨?_,hfree _ ?_⟩,fun id ob hi=> .inl (hg.id_lt hi),fun i j t hi hj hl=> ?_⟩
  ·obtain ⟨hik,_⟩:=hi;rw [zL,Array.getElem?_replicate,if_pos (by omega)] at hl;cases hl
  ·cases e:hget hp (nx+zBO ops.toList i) with
   | none=>rfl
   | some ob=>exact absurd (hg.id_lt e) (by simp)
  ·obtain ⟨hik,o,ho,ha⟩:=hi;exact zPz ha ops.toList i k (by simpa using ho) hik
  ·obtain ⟨hik,_⟩:=zAM hi;rw [zL,Array.getElem?_replicate,if_pos (by omega)] at hl;cases hl
 have hfin :=zIR (Q:=Q) (r:=r) (n:=n) (fuel:=ops.size - k) R hall2 (nx:=nx) (N:=N) (B:=B) (gf:=gf) hF ((List.range k).foldl (fun l i=>l.setIfInBounds i true) (Array.replicate ops.size false))
  (fun a1 w1 listed env1 hp1 β1 hlis hl hs hr=>by
    have:listed=_:=zCH hs hl;subst this;rw [<- hlen2];obtain ⟨env2,hp2,nx2⟩:=st';have hnx2:nx2=nx+zBO ops.toList k:=hpf'.next
    subst hnx2;obtain ⟨σ1,hg1⟩:=hr.gb.gg
    have hga1 :GA B N ⟨env2,hp2,nx+zBO ops.toList k⟩ a1 w1:=⟨hr.gb.defers,hr.gb.size,σ1,β1,hg1.congr hr.look fun id=>by
     by_cases hlt:id<nx
     ·rw [hr.ext id hlt];exact (hpf'.ext id hlt).symm
     ·by_cases hex: ∃ i t,zAx ops k i t/\id=nx+zBO ops.toList i
      ·obtain ⟨i,t,hi,rfl⟩:=hex;obtain ⟨ti,q1,q2⟩:=hr.done i t hi (hlis i hi.1);obtain ⟨ti',q3,q4⟩:=hpf'.done i t hi hi.1;rw [q1] at q3;cases q3;rw [q2,zBc (gf':=gf) (was':=fun x=>Nat.blt x k) fun i' hi'=> ?_]
       ·exact q4.symm
       ·obtain ⟨hik,_⟩:=zAM hi';exact ⟨by rw [hlis i' hik];exact (zGv.2 hik).symm,fun _=>rfl⟩
      ·have e1:hget hp1 id=none:=by
        cases e:hget hp1 id with
        | none=>rfl
        | some ob=>rcases hr.only id ob e with q|q;exact absurd q hlt;exact absurd q hex
       have e2:hget hp2 id=none:=by
        cases e:hget hp2 id with
        | none=>rfl
        | some ob =>
          rcases hpf'.only id ob e with q|⟨i,t,q1,_,q3⟩
          ·exact absurd q hlt
          ·exact absurd ⟨i,t,q1,q3⟩ hex
       rw [e1,e2]⟩
    exact zC6 R hall2 (ops.toList.drop k) k _ (fun j=>by simp) (by rw [hlen2];exact hB2) hga1 htl hQ)
  k (Array.replicate ops.size false) (yZ env) a {w with drawn:=w.drawn+1} env hp β' hany (fun i hi=>by rw [zBB,if_neg (by omega)]) (fun i hi=>by rw [zBB,if_pos hi]) (by rw [fold_size]) hrf
 rw [show k+(ops.size - k)=ops.size by omega] at hfin;exact hfin
theorem zGH (R:jM P T) {id:Nat} (hall: ∀ o∈ops.toList,yT N o=true) {k:Nat} (hB:zRV ops k=true) {K:St->Prop} (h:GA B N st a w) (hk:zAN T true ops ops.toList st K\/zIl T ops k ops.toList st K)
 (hQ: ∀ st' a' w',K st'->GA B N st' a' w'->Q .normal a' w'):(Code.region id ops true).wpIn (FR r) n P Q a w:=by
 have hall2: ∀ (i:Nat) (o:Oper),ops[i]? =some o->yT N o=true:=fun i o e=>hall o (by
  obtain ⟨hi,e⟩:=zW.1 e;subst e;simp)
 simp only [zRV,zC] at hB;obtain ⟨hBk,hBs,hBn,hBt⟩:=hB;have hO:=z61 hBs;have hkle:k<=ops.size:=zU hBk;have hsplit:ops.toList.take k++ops.toList.drop k=ops.toList:=jE _ _;have hlen1:(ops.toList.take k).length=k:=by simp;omega
 have hlen2:(ops.toList.drop k).length=ops.size - k:=by simp
 rw [<- hsplit] at hk;have hbd:Below B.w.heap.size w {w with drawn:=w.drawn+1} :=⟨⟨rfl,rfl,rfl,zI _,fun _ _=>rfl⟩,Nat.le_succ _⟩
 have hget: ∀ (i:Nat) (o:Oper),(ops.toList.take k)[i]? =some o->i<k/\ops[i]? =some o:=fun i o e=>by
  have hi:=(zK.1 e).1;rw [hlen1] at hi;rw [List.getElem?_take,if_pos hi] at e;exact ⟨hi,by simpa using e⟩
 have hfr: ∀ o∈ops.toList.take k,yT N o=true/\o.guard=none/\(j0 o.op|| z0E o.op)=true:=fun o ho=>by
  obtain ⟨i,hi⟩:=List.mem_iff_getElem?.1 ho;obtain ⟨hik,hio⟩:=hget i o hi;obtain ⟨o',d,ho',hg,_,hc,_⟩:=hO.get i hik;rw [hio] at ho';cases ho';exact ⟨hall2 i o hio,hg,hc⟩
 obtain ⟨S,s0,s1,s2,s3⟩: ∃ S:Nat->St,S 0=st/\(∀ i o,(ops.toList.take k)[i]? =some o->zFY T o (S i) (S (i+1)))/\(∀ i,i<=(ops.toList.take k).length->∃ a w,GA B N (S i) a w)/\zAN T true ops (ops.toList.drop k) (S (ops.toList.take k).length) K:=by
  rcases hk with hk|hk
  ·exact zNB (N:=N) (B:=B) R (ops.toList.drop k) (ops.toList.take k) hfr h hk
  ·have e:zIl T ops k (ops.toList.take k++ops.toList.drop k) st K=zIl T ops (ops.toList.take k).length (ops.toList.take k++ops.toList.drop k) st K:=by rw [hlen1]
   rw [e] at hk;exact zKM (N:=N) (B:=B) R (ops.toList.drop k) (ops.toList.take k) hfr h hk
 rw [hlen1] at s2 s3;have hS:Run T B N ops k S:=⟨fun i o hi ho=>s1 i o (by rw [List.getElem?_take,if_pos hi];simpa using ho),s2⟩;refine wpIn_region_any R.mixed ?_;obtain ⟨σ,β,hg⟩:=(zEi h hbd).gg;have hmono:=(hS.keep' hO (i:=0) (j:=k) (by omega) (zI _)).1;rw [s0] at hmono;obtain ⟨β',hg',hfree⟩:=hg.frees ((S k).next - st.next);have hnx:st.next+((S k).next - st.next)=(S k).next:=by omega
 rw [hnx] at hg'
 have mkAbove: ∀ i,MkI S k i->st.next<=(S i).next/\(S i).next<(S k).next:=fun i hi=>by
  have:=(hS.keep' hO (i:=0) (j:=i) (by omega) (by have:=hi.1;omega)).1;rw [s0] at this;exact ⟨this,hS.lt hO hi hi.1 (zI _)⟩
 have hrep: ∀ i,i<ops.size->(Array.replicate ops.size false).getD i true=false:=fun i hi=>by
  rw [zL,Array.getElem?_replicate,if_pos hi];rfl
 have hrd:RD B N ops k S (Array.replicate ops.size false) a {w with drawn:=w.drawn+1} st.env st.hp β':=by
  refine ⟨⟨h.defers,h.size,σ,hg'⟩,fun i o d hi ho hd hl=> ?_,fun t _=>by rw [s0],fun id _=>by rw [s0],fun i hi hl=> ?_,fun i hi _=> ?_,fun id hid=> ?_,fun i hi _=> ?_⟩
  ·rw [hrep i (by omega)] at hl;cases hl
  ·rw [hrep i (by have:=hi.1;omega)] at hl;cases hl
  ·obtain ⟨h1,h2⟩:=mkAbove i hi;have:=hfree ((S i).next - st.next) (by omega);rwa [show st.next+((S i).next - st.next)=(S i).next by omega] at this
  ·cases e:Vm.hget st.hp id with
   | none=>rfl
   | some ob =>
     have hlt:id<st.next:=hg.id_lt e
     exact absurd (by rw [(hS.keep' hO (i:=0) (j:=k) (by omega) (zI _)).2 id (by rw [s0];exact hlt),s0];exact e) (hid ob)
  ·obtain ⟨h1,h2⟩:=mkAbove i hi;cases e:Vm.hget st.hp (S i).next with
   | none=>rfl
   | some ob=>have:(S i).next<st.next:=hg.id_lt e;omega
 have hfin :=zUV (Q:=Q) (r:=r) (n:=n) (fuel:=ops.size - k) R hO hS hkle (fun j hj hjs=>by
  have:=zJ.1 hBn j (zV.2 hjs);rw [Bool.or_eq_true] at this;rcases this with h1|h1
  ·exact absurd (zCj h1) (by omega)
  ·exact h1) hall2 ((List.range k).foldl (fun l i=>l.setIfInBounds i true) (Array.replicate ops.size false))
  (fun a1 w1 listed env1 hp1 β1 hlis hl hs hr=>by
    have:listed=_:=zCH hs hl;subst this;rw [<- hlen2];obtain ⟨σ1,hg1⟩:=hr.gb.gg
    have hga1:GA B N (S k) a1 w1:=⟨hr.gb.defers,hr.gb.size,σ1,β1,hg1.congr (env':=(S k).env) (hp':=(S k).hp) (by
     funext t
     by_cases hdef: ∃ i o,i<k/\ops[i]? =some o/\o.dst=some t
     ·obtain ⟨i,o,hi,ho,hd⟩:=hdef;exact hr.done i o t hi ho hd (hlis i hi)
     ·rw [hr.was t (fun i o hi ho hd=>absurd ⟨i,o,hi,ho,hd⟩ hdef)]
      exact (hS.env' hO (i:=0) (j:=k) (by omega) (zI _) (fun m om _ h2 hom e=>hdef ⟨m,om,h2,hom,e⟩)).symm) fun id=>by
     by_cases hlt:id<(S k).next
     ·rcases hS.whose hO k (zI _) id hlt with h|⟨i,hi,hmi,rfl⟩
      ·rw [hr.old id h];exact ((hS.keep' hO (i:=0) (j:=k) (by omega) (zI _)).2 id h).symm
      ·exact hr.made i hmi (hlis i hi)
     ·obtain ⟨ak,wk,hk'⟩:=hS.real k (zI _);obtain ⟨_,_,hgk⟩:=hk'.gg;have hn: ∀ ob,Vm.hget (S k).hp id≠some ob:=fun ob e=>hlt (hgk.id_lt e);rw [hr.none id hn];cases e:Vm.hget (S k).hp id with
      | none=>rfl
      | some ob=>exact absurd e (hn ob)⟩
    exact zC6 R hall2 (ops.toList.drop k) k _ (fun j=>by simp) (by rw [hlen2];exact hBt) hga1 s3 hQ)
  (left (Array.replicate ops.size false) k) (Array.replicate ops.size false) a {w with drawn:=w.drawn+1} st.env st.hp β' rfl (zEA _) (by simp) (fun i hi=>by rw [zBB,if_neg (by omega)]) (fun i hi=>by rw [zBB,if_pos hi]) (by rw [fold_size]) hrd
 have hleft:left (Array.replicate ops.size false) k=k:=by
  unfold left;rw [List.filter_eq_self.2 (fun i hi=>by rw [hrep i (by have:=zV.1 hi;omega)];rfl)];simp
 rw [hleft,show k+(ops.size - k)=ops.size by omega] at hfin;exact hfin
theorem zER {oF:Oper} {d:Tmp} : ∀ {l:List Oper},zFg ops oF d l=true->∀ o∈l,j0 o.op=true/\d∉o.looksAt ops/\o.dst≠some d
 | [],_,_,h=>by cases h
 | x ::l,hw,o,h=>by
   simp only [zFg,zC,Bool.not_eq_true'] at hw;obtain ⟨⟨hc,hlk,hdst⟩,hw'⟩:=hw;rcases zT.1 h with rfl|h
   ·refine ⟨hc,fun hm=> ?_,fun hd=> ?_⟩
    ·have:(o.looksAt ops).contains d=true:=by simpa using hm
     rw [hlk] at this;cases this
    ·rw [hd] at hdst;simp only [zC,Bool.not_eq_true'] at hdst;rw [Nat.beq_refl] at hdst;cases hdst.1
   ·exact zER hw' o h
theorem zIO (R:jM P T) {id f m:Nat} (hall: ∀ o∈ops.toList,yT N o=true) (hB:zWy ops f m=true) {K:St->Prop} (h:GA B N st a w) (hk:z5m T ops f m st K)
 (hQ: ∀ st' a' w',K st'->GA B N st' a' w'->Q .normal a' w'):(Code.region id ops true).wpIn (FR r) n P Q a w:=by
 have hall2: ∀ (i:Nat) (o:Oper),ops[i]? =some o->yT N o=true:=fun i o e=>hall o (by
  obtain ⟨hi,e⟩:=zW.1 e;subst e;simp)
 obtain ⟨env,hp,nx⟩:=st;unfold zWy at hB;unfold z5m at hk;split at hB
 case h_2=>cases hB
 rename_i oF hoF;simp only [hoF] at hk;split at hB
 case h_2=>cases hB
 rename_i x y d happ;simp only [happ] at hk;obtain ⟨hgF,hdF,ts,hopF⟩:=zB8 happ;simp only [zC] at hB;obtain ⟨⟨⟨⟨⟨hBk,hBf⟩,hBw⟩,hBn⟩,hBl⟩,hBt⟩:=hB;generalize hkk:f+1+m=k at *;have hkle:k<=ops.size:=zU hBk;have hfk:f<k:=by omega
 have hlF:(ops.toList.take f).length=f:=by simp;omega
 have hlW:((ops.toList.drop (f+1)).take m).length=m:=by simp;omega
 have hlT:(ops.toList.drop k).length=ops.size - k:=by simp
 have hxo:x∈oF.op.operands:=by rw [hopF];simp [Op.operands,Call.operands]
 have hyo:y∈oF.op.operands:=by rw [hopF];simp [Op.operands,Call.operands]
 have hbd:Below B.w.heap.size w {w with drawn:=w.drawn+1} :=⟨⟨rfl,rfl,rfl,zI _,fun _ _=>rfl⟩,Nat.le_succ _⟩
 -- the text's order, the append last
 obtain ⟨env1,a1,w1,k1,g1,y1⟩:=zFh R (f:=f) (ops.toList.take f) 0 (by omega) (fun o ho=>⟨zJ.1 hBf o ho,hall o (List.mem_of_mem_take ho)⟩) h hk;split at k1
 case h_2=>exact k1.elim
 rename_i row s0 n0 hrow
 have hwin: ∀ j:Nat,j<((ops.toList.drop (f+1)).take m).length->((ops.toList.drop (f+1)).take m)[j]? =ops[f+1+j]? :=fun j hj=>by
  rw [hlW] at hj;rw [List.getElem?_take,if_pos hj,List.getElem?_drop];simp
 obtain ⟨env2,a2,w2,k2,g2,⟨ex,ey⟩,y2⟩:=zKB R (f:=f) (row:=row) hxo hyo ((ops.toList.drop (f+1)).take m) (f+1) (by omega) hwin hBw (fun o ho=>hall o (List.mem_of_mem_drop (List.mem_of_mem_take ho))) g1 k1;split at k2
 case h_2=>exact k2.elim
 rename_i hhf
 have hrow2:y7 env2 x= .s (.own row s0 n0):=by
  rw [<- y4,ex,y4];exact hrow
 -- the append
 have haop:aop T true oF ⟨env2,hp,nx⟩ fun st3=>zAN T true ops (ops.toList.drop k) st3 K:=by
  simp only [zAN,hgF] at k2;exact k2
 have hstep: ∀ env',zBr T true oF ⟨env',hp,nx⟩=zCG T oF ⟨env',hp,nx⟩/\zCG T oF ⟨env',hp,nx⟩=zB9 T ts.toList (y7 env' x) (y7 env' y) ⟨env',hp,nx⟩ oF.dst:=fun env'=>by
  constructor
  ·simp only [zBr,jY,jO,hopF,zT0,zAU,zE1,zJg,zGd]
  ·simp only [zCG,hopF,zAU]
 simp only [aop] at haop;unfold zSI at haop;rw [(hstep env2).1,(hstep env2).2] at haop;simp only [St.force_eq] at haop;cases hres:zB9 T ts.toList (y7 env2 x) (y7 env2 y) ⟨env2,hp,nx⟩ oF.dst with
 | none=>rw [hres] at haop;exact haop.elim
 | some res =>
 obtain ⟨r0,s,n1,n',rowO,q,e1,⟨ob,hob⟩,hresE,hany⟩:=zFV hres;rw [hrow2] at e1;cases e1
 have hq:Opt q/\zAN T true ops (ops.toList.drop k) ((⟨env2.mapAS (kill row),zA6 (hp.mapAS (kill row)) row rowO,nx⟩:St).put oF.dst (.s (.own row 0 n'))) K:=by
  rw [hres,hresE] at haop;cases q with
  | none=>exact ⟨trivial,haop⟩
  | some q=>exact haop.out
 obtain ⟨hq,htl⟩:=hq;rw [hdF] at htl;have hexm: ∃ o,hget (hp.mapAS (kill row)) row=some o:=⟨_,by rw [zA5,hob];rfl⟩
 have hsame: ∀ id,id≠row->hget (zA6 (hp.mapAS (kill row)) row rowO) id=hget hp id:=fun id hne=>by
  rw [zAR hexm,if_neg hne];exact zEQ hhf id hne
 have hF: ∀ env',y7 env' x=y7 env2 x->y7 env' y=y7 env2 y->zCG T oF ⟨env',hp,nx⟩=some (none,q,(⟨env'.mapAS (kill row),zA6 (hp.mapAS (kill row)) row rowO,nx⟩:St).put (some d) (.s (.own row 0 n'))):=fun env' hx hy=>by
  rw [(hstep env').2,hx,hy,hrow2,<- hdF,<- hrow2];have:=hany env';rw [hrow2] at this ⊢;exact this
 -- any order
 have hlex:zAl (YA T ops hp f row x y (y7 env2 x) (y7 env2 y) (.s (.own row 0 n'))) (upd (yZ env2) (some d) (.s (.own row 0 n'))) 0 (ops.toList.take k) (yZ env):=by
  have hsp:ops.toList.take k=ops.toList.take f++(oF::(ops.toList.drop (f+1)).take m):=by
   rw [<- hkk,Nat.add_assoc,List.take_add,show ops.toList.drop f=oF::ops.toList.drop (f+1) by
    rw [List.drop_eq_getElem?_toList_append,show ops.toList[f]? =some oF by simpa using hoF];rfl,Nat.add_comm 1 m,List.take_succ_cons]
  rw [hsp];refine zAr (y1 row x y _ _ _) ⟨.s (.own row 0 n'),.inl ⟨by rw [hlF,zD],rfl,⟨hxo,hyo⟩,?_,?_⟩,?_⟩
  ·rw [<- ex,y4]
  ·rw [<- ey,y4]
  ·rw [hdF,hlF,zD];exact y2 _ _ _
 refine wpIn_region_any R.mixed ?_;have hlen1:(ops.toList.take k).length=k:=by simp;omega
 have hca:=zB7 zZ7 (k:=k) (ops.toList.take k) 0 (Array.replicate ops.size false) (yZ env) (by rw [hlen1];omega) (fun j hj=>by
  rw [hlen1] at hj
  rw [zD,List.getElem?_take,if_pos hj];simp) (fun j hj=>by omega) (by rw [hlen1];exact hBl) (zEA _) hlex
 rw [hlen1] at hca
 have hfin:=zNx (Q:=Q) (r:=r) (n:=n) (fuel:=ops.size - k) (B:=B) (N:=N) R hall2 ((List.range k).foldl (fun l i=>l.setIfInBounds i true) (Array.replicate ops.size false)) hfk hoF hgF hdF hq hF hBn hsame (fun id t cs hid hi=>zJ.2 fun a ha=>AS.free_okP (zJ.1 (zD5 hhf id t cs (fun e=>by subst e;simp [Nat.beq_refl] at hid) hi) a ha))
  (fun i o hfi hik ho=>(zER hBw o (by
    rw [List.mem_iff_getElem?];refine ⟨i - (f+1),?_⟩
    rw [hwin _ (by rw [hlW];omega),show f+1+(i - (f+1))=i by omega];exact ho)).2)
  (fun a3 w3 listed env3 hlis hl hs he hg=>by
    have:listed=_:=zCH hs hl;subst this;rw [<- hlT];obtain ⟨env4,q1,q2⟩:=zAK (env2.mapAS (kill row)) (zA6 (hp.mapAS (kill row)) row rowO) nx (some d) (.s (.own row 0 n'));rw [q1] at htl
    have hga:GA B N ⟨env4,zA6 (hp.mapAS (kill row)) row rowO,nx⟩ a3 w3:=by
     obtain ⟨σ,β,hgg⟩:=hg.gg;refine ⟨hg.defers,hg.size,σ,β,hgg.congr (funext fun t=> ?_) fun _=>rfl⟩;rw [he,q2]
     by_cases e:t=d
     ·subst e;simp [upd]
     ·rw [if_neg e];simp only [upd];rw [if_neg (Ne.symm e),if_neg (Ne.symm e),j7 _ rfl]
    exact zC6 R hall2 (ops.toList.drop k) k _ (fun j=>by simp) (by rw [hlT];exact hBt) hga htl hQ)
  k (Array.replicate ops.size false) (yZ env) a {w with drawn:=w.drawn+1} hca (fun i hi=>by rw [zBB,if_neg (by omega)]) (fun i hi=>by rw [zBB,if_pos hi]) (by rw [fold_size])
  ⟨fun j i hj hl=>(by
    rw [zL,Array.getElem?_replicate,if_pos (by omega)] at hl;cases hl),
    fun _=>⟨env,rfl,zEi h hbd⟩,fun hl=>(by
     rw [zL,Array.getElem?_replicate,if_pos (by omega)] at hl;cases hl)⟩
 rw [show k+(ops.size - k)=ops.size by omega] at hfin;exact hfin
theorem zIh {f:Nat} {d:Tmp} : ∀ (l:List Oper) (i0:Nat),zLC ops f d i0 l=true->∀ (i:Nat) (o:Oper),l[i]? =some o->zBQ ops f (i0+i)=false->d∉o.looksAt ops/\o.dst≠some d
 | [],_,_,i,o,h,_=>by simp at h
 | o' :: l,i0,hl,i,o,h,ht=>by
   simp only [zLC,zC,Bool.or_eq_true,Bool.not_eq_true'] at hl;obtain ⟨h1,h2⟩:=hl;cases i with
   | zero =>
     simp only [List.getElem?_cons_zero,Option.some.injEq] at h;subst h;rw [Nat.add_zero] at ht;rcases h1 with h1|⟨h3,h4⟩
     ·rw [h1] at ht;cases ht
     ·refine ⟨fun hm=> ?_,fun hd=> ?_⟩
      ·have:(o'.looksAt ops).contains d=true:=by simpa using hm
       rw [h3] at this;cases this
      ·rw [hd] at h4;simp only [Bool.not_eq_true',Nat.beq_refl] at h4;cases h4
   | succ i =>
     simp only [List.getElem?_cons_succ] at h;exact zIh l (i0+1) h2 i o h (by rw [show i0+1+i=i0+(i+1) by omega];exact ht)
theorem zIK (R:jM P T) {id f:Nat} (hall: ∀ o∈ops.toList,yT N o=true) (hB:zVo ops f=true) {K:St->Prop} (h:GA B N st a w) (hk:z3T T ops f st K)
 (hQ: ∀ st' a' w',K st'->GA B N st' a' w'->Q .normal a' w'):(Code.region id ops true).wpIn (FR r) n P Q a w:=by
 have hall2: ∀ (i:Nat) (o:Oper),ops[i]? =some o->yT N o=true:=fun i o e=>hall o (by
  obtain ⟨hi,e⟩:=zW.1 e;subst e;simp)
 obtain ⟨env,hp,nx⟩:=st;unfold zVo at hB;unfold z3T at hk;split at hB
 case h_2=>cases hB
 rename_i oF hoF;simp only [hoF] at hk;split at hB
 case h_2=>cases hB
 rename_i x y d happ;simp only [happ] at hk;obtain ⟨hgF,hdF,ts,hopF⟩:=zB8 happ;simp only [zC] at hB;obtain ⟨⟨⟨⟨hBk,hBf⟩,hBw⟩,hBl⟩,hBt⟩:=hB;generalize hkk:f+1=k at *;have hkle:k<=ops.size:=zU hBk;have hfk:f<k:=by omega
 have hlF:(ops.toList.take f).length=f:=by simp;omega
 have hlT:(ops.toList.drop k).length=ops.size - k:=by simp
 have hxo:x∈oF.op.operands:=by rw [hopF];simp [Op.operands,Call.operands]
 have hyo:y∈oF.op.operands:=by rw [hopF];simp [Op.operands,Call.operands]
 have hbd:Below B.w.heap.size w {w with drawn:=w.drawn+1} :=⟨⟨rfl,rfl,rfl,zI _,fun _ _=>rfl⟩,Nat.le_succ _⟩;have hfc: ∀ o∈ops.toList.take f,j0 o.op=true/\yT N o=true:=fun o ho=>⟨zJ.1 hBf o ho,hall o (List.mem_of_mem_take ho)⟩
 -- the row
 obtain ⟨env0,_,_,k0,_,_⟩:=zFh R (f:=f) (ops.toList.take f) 0 (by omega) hfc h hk;split at k0
 case h_2=>exact k0.elim
 rename_i row _ _ _
 -- the text's order
 obtain ⟨env2,a2,w2,k2,g2,y2⟩:=zG5 R (f:=f) (row:=row) (ops.toList.take f) 0 (by omega) hfc h k0;split at k2
 case h_2=>exact k2.elim
 rename_i row' s0 n0 hrow2;split at k2
 case h_2=>exact k2.elim
 rename_i hrr hhf;have hrr:=zH hrr;subst hrr
 -- the append
 have haop:aop T true oF ⟨env2,hp,nx⟩ fun st3=>zAN T true ops (ops.toList.drop k) st3 K:=by
  simp only [zAN,hgF] at k2;exact k2
 have hstep: ∀ env',zBr T true oF ⟨env',hp,nx⟩=zCG T oF ⟨env',hp,nx⟩/\zCG T oF ⟨env',hp,nx⟩=zB9 T ts.toList (y7 env' x) (y7 env' y) ⟨env',hp,nx⟩ oF.dst:=fun env'=>by
  constructor
  ·simp only [zBr,jY,jO,hopF,zT0,zAU,zE1,zJg,zGd]
  ·simp only [zCG,hopF,zAU]
 simp only [aop] at haop;unfold zSI at haop;rw [(hstep env2).1,(hstep env2).2] at haop;simp only [St.force_eq] at haop;cases hres:zB9 T ts.toList (y7 env2 x) (y7 env2 y) ⟨env2,hp,nx⟩ oF.dst with
 | none=>rw [hres] at haop;exact haop.elim
 | some res =>
 obtain ⟨r0,s,n1,n',rowO,q,e1,⟨ob,hob⟩,hresE,hany⟩:=zFV hres;rw [hrow2] at e1;cases e1
 have hq:Opt q/\zAN T true ops (ops.toList.drop k) ((⟨env2.mapAS (kill row'),zA6 (hp.mapAS (kill row')) row' rowO,nx⟩:St).put oF.dst (.s (.own row' 0 n'))) K:=by
  rw [hres,hresE] at haop;cases q with
  | none=>exact ⟨trivial,haop⟩
  | some q=>exact haop.out
 obtain ⟨hq,htl⟩:=hq;rw [hdF] at htl;have hexm: ∃ o,hget (hp.mapAS (kill row')) row'=some o:=⟨_,by rw [zA5,hob];rfl⟩
 have hsame: ∀ id,id≠row'->hget (zA6 (hp.mapAS (kill row')) row' rowO) id=hget hp id:=fun id hne=>by
  rw [zAR hexm,if_neg hne];exact zEQ hhf id hne
 have hF: ∀ env',y7 env' x=y7 env2 x->y7 env' y=y7 env2 y->zCG T oF ⟨env',hp,nx⟩=some (none,q,(⟨env'.mapAS (kill row'),zA6 (hp.mapAS (kill row')) row' rowO,nx⟩:St).put (some d) (.s (.own row' 0 n'))):=fun env' hx hy=>by
  rw [(hstep env').2,hx,hy,hrow2,<- hdF,<- hrow2];have:=hany env';rw [hrow2] at this ⊢;exact this
 -- any order
 have hlex:zAl (YLo T ops hp f row' x y (y7 env2 x) (y7 env2 y) (.s (.own row' 0 n'))) (upd (yZ env2) (some d) (.s (.own row' 0 n'))) 0 (ops.toList.take k) (yZ env):=by
  have hsp:ops.toList.take k=ops.toList.take f++[oF]:=by
   rw [<- hkk,yB (by simp;omega)]
   congr 1
   obtain ⟨hi,e⟩:=zW.1 hoF;rw [<- e];simp
  rw [hsp];refine zAr (y2 x y _ _ _) ⟨.s (.own row' 0 n'),.inl ⟨by rw [hlF,zD],rfl,⟨hxo,hyo⟩,?_,?_⟩,?_⟩
  ·rw [y4]
  ·rw [y4]
  ·rw [hdF];rfl
 refine wpIn_region_any R.mixed ?_;have hlen1:(ops.toList.take k).length=k:=by simp;omega
 have hca:=zB7 zVk (k:=k) (ops.toList.take k) 0 (Array.replicate ops.size false) (yZ env) (by rw [hlen1];omega) (fun j hj=>by
  rw [hlen1] at hj
  rw [zD,List.getElem?_take,if_pos hj];simp) (fun j hj=>by omega) (by rw [hlen1];exact hBl) (zEA _) hlex
 rw [hlen1] at hca
 have hfin:=zO0 (Q:=Q) (r:=r) (n:=n) (fuel:=ops.size - k) (B:=B) (N:=N) R hall2 ((List.range k).foldl (fun l i=>l.setIfInBounds i true) (Array.replicate ops.size false)) hfk hkle hoF hgF hdF hq hF hsame (fun id t cs hid hi=>zJ.2 fun a ha=>AS.free_okP (zJ.1 (zD5 hhf id t cs (fun e=>by subst e;simp [Nat.beq_refl] at hid) hi) a ha))
  (fun i o hif htw hik ho=>zIh _ 0 hBw i o (by rw [List.getElem?_take,if_pos (by omega)];simpa using ho) (by rw [zD];exact htw))
  (fun a3 w3 listed env3 hlis hl hs he hg=>by
    have:listed=_:=zCH hs hl;subst this;rw [<- hlT];obtain ⟨env4,q1,q2⟩:=zAK (env2.mapAS (kill row')) (zA6 (hp.mapAS (kill row')) row' rowO) nx (some d) (.s (.own row' 0 n'));rw [q1] at htl
    have hga:GA B N ⟨env4,zA6 (hp.mapAS (kill row')) row' rowO,nx⟩ a3 w3:=by
     obtain ⟨σ,β,hgg⟩:=hg.gg;refine ⟨hg.defers,hg.size,σ,β,hgg.congr (funext fun t=> ?_) fun _=>rfl⟩;rw [he,q2]
     by_cases e:t=d
     ·subst e;simp [upd]
     ·rw [if_neg e];simp only [upd];rw [if_neg (Ne.symm e),if_neg (Ne.symm e),j7 _ rfl]
    exact zC6 R hall2 (ops.toList.drop k) k _ (fun j=>by simp) (by rw [hlT];exact hBt) hga htl hQ)
  k (Array.replicate ops.size false) (yZ env) a {w with drawn:=w.drawn+1} hca (fun i hi=>by rw [zBB,if_neg (by omega)]) (fun i hi=>by rw [zBB,if_pos hi]) (by rw [fold_size]) (by simp)
  ⟨zEA _,
    fun _=>⟨env,rfl,zEi h hbd⟩,fun hl=>(by
     rw [zL,Array.getElem?_replicate,if_pos (by omega)] at hl;cases hl)⟩
 rw [show k+(ops.size - k)=ops.size by omega] at hfin;exact hfin
theorem zL2 {T:Tab} {x y:Operand} {ts:Array TypeId} {o:Oper} (hop:o.op= .call ⟨.builtin .append,#[x,y],ts⟩) (st:St):zBr T true o st=zCG T o st/\zCG T o st=zB9 T ts.toList (y7 st.env x) (y7 st.env y) st o.dst:=by
 constructor
 ·simp only [zBr,jY,jO,hop,zT0,zAU,zE1,zJg,zGd]
 ·simp only [zCG,hop,zAU]
theorem zST (o:Oper) {x y:Operand} {d:Tmp} {env0 env:Env} {hp:jJ} {nx row s0 n0:Nat} {K:St->Prop} {p q:Option Prop} {s1:St} (happ:zDl o=some (x,y,d)) (hrow:y7 env0 x= .s (.own row s0 n0)) (h1:zCG T o ⟨env0,hp,nx⟩=some (p,q,s1))
 (hx:y7 env x=y7 env0 x) (hy:y7 env y=y7 env0 y) (hk:zAN T true ops [o] ⟨env,hp,nx⟩ K) :
 ∃ n',Opt q/\K ((⟨env.mapAS (kill row),s1.hp,nx⟩:St).put (some d) (.s (.own row 0 n')))/\
   ∀ env',y7 env' x=y7 env0 x->y7 env' y=y7 env0 y->zCG T o ⟨env',hp,nx⟩=some (none,q,(⟨env'.mapAS (kill row),s1.hp,nx⟩:St).put (some d) (.s (.own row 0 n'))):=by
 obtain ⟨hg,hd,ts,hop⟩:=zB8 happ
 have haop:aop T true o ⟨env,hp,nx⟩ fun st3=>K st3:=by
  simp only [zAN,hg] at hk;exact hk
 rw [(zL2 hop ⟨env0,hp,nx⟩).2] at h1;have h1:zB9 T ts.toList (y7 env0 x) (y7 env0 y) ⟨env0,hp,nx⟩ o.dst=some (p,q,s1):=h1;obtain ⟨r0,s,n1,n',rowO,q',e1,⟨ob,hob⟩,hresE,hany⟩:=zFV h1;rw [hrow] at e1;cases e1;cases hresE;have hhp:((⟨env0.mapAS (kill row),zA6 (hp.mapAS (kill row)) row rowO,nx⟩:St).put o.dst (.s (.own row 0 n'))).hp=zA6 (hp.mapAS (kill row)) row rowO:=by rw [hd];rfl
 rw [hhp]
 have all: ∀ env',y7 env' x=y7 env0 x->y7 env' y=y7 env0 y->zCG T o ⟨env',hp,nx⟩=some (none,q,(⟨env'.mapAS (kill row),zA6 (hp.mapAS (kill row)) row rowO,nx⟩:St).put (some d) (.s (.own row 0 n'))):=fun env' hx hy=>by
  rw [(zL2 hop ⟨env',hp,nx⟩).2];show zB9 T ts.toList (y7 env' x) (y7 env' y) ⟨env',hp,nx⟩ o.dst=_;rw [hx,hy,<- hd];exact hany env'
 simp only [aop] at haop;unfold zSI at haop;rw [(zL2 hop ⟨env,hp,nx⟩).1,all env hx hy] at haop;simp only [St.force_eq] at haop
 have hq:Opt q/\K ((⟨env.mapAS (kill row),zA6 (hp.mapAS (kill row)) row rowO,nx⟩:St).put (some d) (.s (.own row 0 n'))):=by
  cases q with
  | none=>exact ⟨trivial,haop⟩
  | some q=>exact haop.out
 exact ⟨n',hq.1,hq.2,all⟩
theorem zH9 (R:jM P T) {id f m m2:Nat} (hall: ∀ o∈ops.toList,yT N o=true) (hB:zWK ops f m m2=true) {K:St->Prop} (h:GA B N st a w) (hk:z4H T ops f m m2 st K)
 (hQ: ∀ st' a' w',K st'->GA B N st' a' w'->Q .normal a' w'):(Code.region id ops true).wpIn (FR r) n P Q a w:=by
 have hall2: ∀ (i:Nat) (o:Oper),ops[i]? =some o->yT N o=true:=fun i o e=>hall o (by
  obtain ⟨hi,e⟩:=zW.1 e;subst e;simp)
 obtain ⟨env,hp,nx⟩:=st;unfold zWK at hB;unfold z4H at hk;split at hB
 case h_2=>cases hB
 rename_i o1 o2 ho1 ho2;simp only [ho1,ho2] at hk;split at hB
 case h_2=>cases hB
 rename_i x1 y1 d1 x2 y2 d2 happ1 happ2;simp only [happ1,happ2] at hk;obtain ⟨hg1,hd1,ts1,hop1⟩:=zB8 happ1;obtain ⟨hg2,hd2,ts2,hop2⟩:=zB8 happ2;simp only [zC,Bool.not_eq_true'] at hB;obtain ⟨⟨⟨⟨⟨⟨⟨⟨⟨hBk,hBf⟩,hBw1⟩,hBw12⟩,hBw2⟩,⟨hd12,hd2o⟩,hd1o⟩,hBn1⟩,hBn2⟩,hBl⟩,hBt⟩:=hB;have hd12:d1≠d2:=fun e=>by rw [e,Nat.beq_refl] at hd12;cases hd12
 have hd1o:d1∉o2.looksAt ops:=fun hm=>by
  have:(o2.looksAt ops).contains d1=true:=by simpa using hm
  rw [hd1o] at this;cases this
 generalize hkk:f+1+m+1+m2=k at *;generalize hcc:f+1+m=c at *;have hkle:k<=ops.size:=zU hBk;have hlF:(ops.toList.take f).length=f:=by simp;omega
 have hlW:((ops.toList.drop (f+1)).take m).length=m:=by simp;omega
 have hlW2:((ops.toList.drop (c+1)).take m2).length=m2:=by simp;omega
 have hlT:(ops.toList.drop k).length=ops.size - k:=by simp
 have hx1:x1∈o1.op.operands:=by rw [hop1];simp [Op.operands,Call.operands]
 have hy1:y1∈o1.op.operands:=by rw [hop1];simp [Op.operands,Call.operands]
 have hx2:x2∈o2.op.operands:=by rw [hop2];simp [Op.operands,Call.operands]
 have hy2:y2∈o2.op.operands:=by rw [hop2];simp [Op.operands,Call.operands]
 have hbd:Below B.w.heap.size w {w with drawn:=w.drawn+1} :=⟨⟨rfl,rfl,rfl,zI _,fun _ _=>rfl⟩,Nat.le_succ _⟩
 -- the text's order, the appends last
 obtain ⟨env1,a1,w1,k1,g1,l1⟩:=zJw R (f:=f) (ops.toList.take f) 0 (by omega) (fun o ho=>⟨zJ.1 hBf o ho,hall o (List.mem_of_mem_take ho)⟩) h hk;split at k1
 case h_2=>exact k1.elim
 rename_i row s0 n0 p1 q1 s1 hrow hap1;rw [zBJ] at k1;obtain ⟨env2,a2,w2,k2,g2,⟨ex,ey⟩,l2⟩:=zQd R (f:=f) (row:=row) (f2:=c) hx1 hy1 ((ops.toList.drop (f+1)).take m) (f+1) (by omega) (by omega) hBw1 (fun o ho=>hall o (List.mem_of_mem_drop (List.mem_of_mem_take ho))) g1 k1;split at k2
 case h_2=>exact k2.elim
 rename_i row2 s2 n2 p2 q2 s2' hrow2 hap2;split at k2
 case h_2=>exact k2.elim
 rename_i hfr;rw [zBJ] at k2;obtain ⟨env3,a3,w3,k3,g3,⟨ex3,ey3⟩,⟨ex4,ey4⟩,l3⟩:=zRB R (f:=f) (row:=row) (f2:=c) (row2:=row2) hx1 hy1 hx2 hy2 ((ops.toList.drop (c+1)).take m2) (c+1) (by omega) (by omega) hBw12 hBw2 (fun o ho=>hall o (List.mem_of_mem_drop (List.mem_of_mem_take ho))) g2 k2;have hx31:y7 env3 x1=y7 env1 x1:=by rw [<- y4,ex3,ex,y4]
 have hy31:y7 env3 y1=y7 env1 y1:=by rw [<- y4,ey3,ey,y4]
 -- the appends
 obtain ⟨n',hq,k4,hF1⟩:=zST o1 happ1 hrow hap1 hx31 hy31 k3
 have fr2: ∀ t∈o2.looksAt ops,(yZ env2 t).free row=true:=fun t ht=>by
  simp only [zBt,zJ,zDK] at hfr;exact hfr t ht
 have frx: ∀ x∈o2.op.operands,(y7 env2 x).free row=true:=fun x hx=>by
  cases x with
  | tmp t=>exact fr2 t (zCb hx)
  | const u=>exact zGt u
  | _=>rfl
 have same3: ∀ x∈o2.op.operands,y7 env3 x=y7 env2 x->y7 (((d1,AV.s (.own row 0 n'))::env3.mapAS (kill row):Env)) x=y7 env2 x:=fun x hx e=>by
  cases x with
  | tmp t =>
    show yZ _ t=_;rw [qR,if_neg (by rintro rfl;exact hd1o (zCb hx)),j7 _ rfl];have:yZ env3 t=y7 env2 (.tmp t):=e;rw [this,AV.kill_free (frx _ hx)]
  | const u=>rfl
  | _=>exact e
 have exx:y7 (((d1,AV.s (.own row 0 n'))::env3.mapAS (kill row):Env)) x2=y7 env2 x2:=same3 x2 hx2 (by rw [<- y4,ex4,y4]);have eyy:y7 (((d1,AV.s (.own row 0 n'))::env3.mapAS (kill row):Env)) y2=y7 env2 y2:=same3 y2 hy2 (by rw [<- y4,ey4,y4])
 have k4':zAN T true ops [o2] ⟨(d1,AV.s (.own row 0 n'))::env3.mapAS (kill row),s1.hp,nx⟩ fun st5=>zAN T true ops (ops.toList.drop k) st5 K:=by
  simp only [St.forceAll_eq] at k4;exact k4
 obtain ⟨n'',hq2,k5,hF2⟩:=zST o2 happ2 hrow2 hap2 exx eyy k4';generalize hhp1:s1.hp=hp1 at *;generalize hhp2:s2'.hp=hp2 at *
 -- any order
 have hsp:ops.toList.take k=ops.toList.take f++(o1::((ops.toList.drop (f+1)).take m++(o2::(ops.toList.drop (c+1)).take m2))):=by
  have e1:ops.toList.drop f=o1::ops.toList.drop (f+1):=by
   rw [List.drop_eq_getElem?_toList_append,show ops.toList[f]? =some o1 by simpa using ho1];rfl
  have e2:ops.toList.drop c=o2::ops.toList.drop (c+1):=by
   rw [List.drop_eq_getElem?_toList_append,show ops.toList[c]? =some o2 by simpa using ho2];rfl
  rw [show k=f+(1+(m+(1+m2))) by omega,List.take_add,e1,Nat.add_comm 1 (m+_),List.take_succ_cons,List.take_add,List.drop_drop,hcc,e2,Nat.add_comm 1 m2,List.take_succ_cons]
 have hlex:zAl (YB T ops hp hp1 hp2 ⟨f,row,x1,y1,y7 env1 x1,y7 env1 y1,.s (.own row 0 n')⟩ ⟨c,row2,x2,y2,y7 env2 x2,y7 env2 y2,.s (.own row2 0 n'')⟩) (upd (upd (yZ env3) (some d1) (.s (.own row 0 n'))) (some d2) (.s (.own row2 0 n''))) 0 (ops.toList.take k) (yZ env):=by
  rw [hsp];refine zAr (l1 _ _ _ _ rfl (by show f<c;omega)) ⟨.s (.own row 0 n'),.inl ⟨by rw [hlF,zD],rfl,⟨hx1,hy1⟩,?_,?_⟩,?_⟩
  ·show jK (yZ env1) x1=y7 env1 x1;rw [y4]
  ·show jK (yZ env1) y1=y7 env1 y1;rw [y4]
  ·rw [hd1,hlF,zD];refine zAr (l2 _ _ _ rfl rfl rfl) ⟨.s (.own row2 0 n''),.inr (.inl ⟨by rw [hlW];exact hcc,rfl,⟨hx2,hy2⟩,⟨?_,?_⟩,fun t ht=> ?_⟩),?_⟩
   ·show jK (upd (yZ env2) (some d1) _) x2=_;rw [yW (fun t e=>by cases e;exact hd1o) x2 hx2,y4]
   ·show jK (upd (yZ env2) (some d1) _) y2=_;rw [yW (fun t e=>by cases e;exact hd1o) y2 hy2,y4]
   ·rw [upd_same (fun t' e=>by cases e;rintro rfl;exact hd1o ht)];exact fr2 t ht
   ·rw [hd2,hlW,hcc];exact l3 _ _ rfl rfl rfl rfl
 refine wpIn_region_any R.mixed ?_;have hlen1:(ops.toList.take k).length=k:=by simp;omega
 have hca:=zB7 z14 (k:=k) (ops.toList.take k) 0 (Array.replicate ops.size false) (yZ env) (by rw [hlen1];omega) (fun j hj=>by
  rw [hlen1] at hj
  rw [zD,List.getElem?_take,if_pos hj];simp) (fun j hj=>by omega) (by rw [hlen1];exact hBl) (zEA _) hlex
 rw [hlen1] at hca
 have w1mem: ∀ i o,f<i->i<c->ops[i]? =some o->o∈(ops.toList.drop (f+1)).take m:=fun i o h1 h2 ho=>by
  rw [List.mem_iff_getElem?];refine ⟨i - (f+1),?_⟩;rw [List.getElem?_take,if_pos (by omega),List.getElem?_drop,show f+1+(i - (f+1))=i by omega];simpa using ho
 have w2mem: ∀ i o,c<i->i<k->ops[i]? =some o->o∈(ops.toList.drop (c+1)).take m2:=fun i o h1 h2 ho=>by
  rw [List.mem_iff_getElem?];refine ⟨i - (c+1),?_⟩;rw [List.getElem?_take,if_pos (by omega),List.getElem?_drop,show c+1+(i - (c+1))=i by omega];simpa using ho
 have hfin:=zK5 (Q:=Q) (r:=r) (n:=n) (fuel:=ops.size - k) (B:=B) (N:=N) (nx:=nx) (hp:=hp) (hp1:=hp1) (hp2:=hp2) R hall2
  (A:=⟨f,row,x1,y1,y7 env1 x1,y7 env1 y1,.s (.own row 0 n')⟩) (C:=⟨c,row2,x2,y2,y7 env2 x2,y7 env2 y2,.s (.own row2 0 n'')⟩) (d1:=d1) (d2:=d2) (o1:=o1) (o2:=o2)
  ((List.range k).foldl (fun l i=>l.setIfInBounds i true) (Array.replicate ops.size false)) (by show f<c;omega) (by show c<k;omega) ho1 hg1 hd1 hq ho2 hg2 hd2 hq2 hd12 hd1o
  (fun env' hx hy=>hF1 env' hx hy) (fun env' hx hy=>hF2 env' hx hy) hBn1 hBn2
  (fun i o hfi hik hic ho=>by
    by_cases hlt:i<c
    ·exact (zER hBw1 o (w1mem i o hfi hlt ho)).2
    ·exact (zER hBw12 o (w2mem i o (by have hic:i≠c:=hic;omega) hik ho)).2)
  (fun i o hci hik ho=>(zER hBw2 o (w2mem i o hci hik ho)).2)
  (fun a3 w3 listed env4 hlis hl hs he hg=>by
    have:listed=_:=zCH hs hl;subst this;rw [<- hlT];have htl:zAN T true ops (ops.toList.drop k) ⟨(d2,AV.s (.own row2 0 n''))::Env.mapAS (kill row2) ((d1,AV.s (.own row 0 n'))::env3.mapAS (kill row)),hp2,nx⟩ K:=k5
    have hga:GA B N ⟨(d2,AV.s (.own row2 0 n''))::Env.mapAS (kill row2) ((d1,AV.s (.own row 0 n'))::env3.mapAS (kill row)),hp2,nx⟩ a3 w3:=by
     obtain ⟨σ,β,hgg⟩:=hg.gg;refine ⟨hg.defers,hg.size,σ,β,hgg.congr (funext fun t=> ?_) fun _=>rfl⟩;rw [he,qR]
     by_cases e:t=d2
     ·subst e;simp [upd]
     ·rw [if_neg (Ne.symm e),if_neg e,j7 _ rfl,qR];simp only [upd];rw [if_neg (Ne.symm e)]
      by_cases e':t=d1
      ·subst e';simp
      ·rw [if_neg (Ne.symm e'),if_neg e',if_neg (Ne.symm e'),j7 _ rfl]
    exact zC6 R hall2 (ops.toList.drop k) k _ (fun j=>by simp) (by rw [hlT];exact hBt) hga htl hQ)
  k (Array.replicate ops.size false) (yZ env) a {w with drawn:=w.drawn+1} hca (fun i hi=>by rw [zBB,if_neg (by omega)]) (fun i hi=>by rw [zBB,if_pos hi]) (by rw [fold_size])
  ⟨fun j i hj hl=>(by
    rw [zL,Array.getElem?_replicate,if_pos (by omega)] at hl;cases hl),
    fun _=>⟨env,rfl,zEi h hbd⟩,fun hl _=>(by
     have hl:(Array.replicate ops.size false).getD f true=true:=hl
     rw [zL,Array.getElem?_replicate,if_pos (by omega)] at hl;cases hl),fun hl=>(by
     have hl:(Array.replicate ops.size false).getD c true=true:=hl
     rw [zL,Array.getElem?_replicate,if_pos (by omega)] at hl;cases hl)⟩
 rw [show k+(ops.size - k)=ops.size by omega] at hfin;exact hfin
theorem zNc {o:Oper} (h:zQK o=true):o.guard=none/\o.dst=none/\∃ t x y,o.op= .store t x y:=by
 unfold zQK at h;split at h
 ·rename_i t x y h1 h2 h3;exact ⟨h2,h3,t,x,y,h1⟩
 ·cases h
theorem zUM {o:Oper} {t:TypeId} {x y:Operand} (hop:o.op= .store t x y) (hd:o.dst=none) {env0:Env} {hp:jJ} {nx:Nat} {s1:St} (h:zCG T o ⟨env0,hp,nx⟩=some (none,none,s1)) :
 ∀ env,y7 env x=y7 env0 x->y7 env y=y7 env0 y->zCG T o ⟨env,hp,nx⟩=some (none,none,⟨env,s1.hp,nx⟩):=by
 intro env hx hy;have e1: ∀ st:St,zCG T o st=zBz T t (y7 st.env x) (y7 st.env y) st none:=fun st=>by simp only [zCG,hop,hd]
 rw [e1] at h ⊢;show zBz T t (y7 env x) (y7 env y) ⟨env,hp,nx⟩ none=_;have h:zBz T t (y7 env0 x) (y7 env0 y) ⟨env0,hp,nx⟩ none=some (none,none,s1):=h;rw [hx,hy];unfold zBz at h ⊢;dsimp only at h ⊢
 repeat' (split at h<;>try contradiction)
 all_goals (cases h;simp_all [St.put])
theorem zIe (R:jM P T) {id f m:Nat} (hall: ∀ o∈ops.toList,yT N o=true) (hB:zV3 ops f m=true) {K:St->Prop} (h:GA B N st a w) (hk:z5k T ops f m st K)
 (hQ: ∀ st' a' w',K st'->GA B N st' a' w'->Q .normal a' w'):(Code.region id ops true).wpIn (FR r) n P Q a w:=by
 have hall2: ∀ (i:Nat) (o:Oper),ops[i]? =some o->yT N o=true:=fun i o e=>hall o (by
  obtain ⟨hi,e⟩:=zW.1 e;subst e;simp)
 obtain ⟨env,hp,nx⟩:=st;unfold zV3 at hB;unfold z5k at hk;split at hB
 case h_2=>cases hB
 rename_i oF hoF;simp only [hoF] at hk;simp only [zC] at hB;obtain ⟨⟨⟨⟨⟨hBs,hBk⟩,hBf⟩,hBw⟩,hBl⟩,hBt⟩:=hB;obtain ⟨hgF,hdF,t,x,y,hopF⟩:=zNc hBs;generalize hkk:f+1+m=k at *;have hkle:k<=ops.size:=zU hBk;have hlF:(ops.toList.take f).length=f:=by simp;omega
 have hlW:((ops.toList.drop (f+1)).take m).length=m:=by simp;omega
 have hlT:(ops.toList.drop k).length=ops.size - k:=by simp
 have hxo:x∈oF.op.operands:=by rw [hopF];simp [Op.operands]
 have hyo:y∈oF.op.operands:=by rw [hopF];simp [Op.operands]
 have hbd:Below B.w.heap.size w {w with drawn:=w.drawn+1} :=⟨⟨rfl,rfl,rfl,zI _,fun _ _=>rfl⟩,Nat.le_succ _⟩;obtain ⟨env1,a1,w1,k1,g1,_⟩:=zFh R (f:=f) (ops.toList.take f) 0 (by omega) (fun o ho=>⟨zJ.1 hBf o ho,hall o (List.mem_of_mem_take ho)⟩) h hk;split at k1
 case h_2=>exact k1.elim
 rename_i p1 q1 s1 hs1;rw [zBJ] at k1;obtain ⟨env2,a2,w2,k2,g2,y2⟩:=zNt R (f:=f) (ops.toList.take f) 0 (by omega) (fun o ho=>⟨zJ.1 hBf o ho,hall o (List.mem_of_mem_take ho)⟩) h k1;split at k2
 case h_2=>exact k2.elim
 rename_i s2 hs2;obtain ⟨hhp,k2⟩:=k2;have hF:=zUM hopF hdF hs2;rw [hhp] at hF;obtain ⟨env3,a3,w3,k3,g3,y3⟩:=zKg R (f:=f) ((ops.toList.drop (f+1)).take m) (f+1) (by omega) (fun o ho=>⟨zJ.1 hBw o ho,hall o (List.mem_of_mem_drop (List.mem_of_mem_take ho))⟩) g2 k2;rw [St.force_eq] at k3;generalize s1.hp=hpF at *
 have hlex:zAl (YS T ops hp hpF f x y (y7 env2 x) (y7 env2 y)) (yZ env3) 0 (ops.toList.take k) (yZ env):=by
  have hsp:ops.toList.take k=ops.toList.take f++(oF::(ops.toList.drop (f+1)).take m):=by
   rw [<- hkk,Nat.add_assoc,List.take_add,show ops.toList.drop f=oF::ops.toList.drop (f+1) by
    rw [List.drop_eq_getElem?_toList_append,show ops.toList[f]? =some oF by simpa using hoF];rfl,Nat.add_comm 1 m,List.take_succ_cons]
  rw [hsp];refine zAr (y2 x y _ _) ⟨.undef,.inl ⟨by rw [hlF,zD],⟨hxo,hyo⟩,by rw [y4],by rw [y4]⟩,?_⟩;rw [hdF,hlF,zD];exact y3 _ _ _ _
 refine wpIn_region_any R.mixed ?_;have hlen1:(ops.toList.take k).length=k:=by simp;omega
 have hca:=zB7 z1X (k:=k) (ops.toList.take k) 0 (Array.replicate ops.size false) (yZ env) (by rw [hlen1];omega) (fun j hj=>by
  rw [hlen1] at hj
  rw [zD,List.getElem?_take,if_pos hj];simp) (fun j hj=>by omega) (by rw [hlen1];exact hBl) (zEA _) hlex
 rw [hlen1] at hca
 have hfin:=zO6 (Q:=Q) (r:=r) (n:=n) (fuel:=ops.size - k) (B:=B) (N:=N) (nx:=nx) (hp:=hp) (hpF:=hpF) R hall2 ((List.range k).foldl (fun l i=>l.setIfInBounds i true) (Array.replicate ops.size false)) (by omega) hkle hoF hgF hdF hF
  (fun a3 w3 listed env4 hlis hl hs he hg=>by
    have:listed=_:=zCH hs hl;subst this;rw [<- hlT]
    have hga:GA B N ⟨env3,hpF,nx⟩ a3 w3:=by
     obtain ⟨σ,β,hgg⟩:=hg.gg;exact ⟨hg.defers,hg.size,σ,β,hgg.congr he fun _=>rfl⟩
    exact zC6 R hall2 (ops.toList.drop k) k _ (fun j=>by simp) (by rw [hlT];exact hBt) hga k3 hQ)
  k (Array.replicate ops.size false) (yZ env) a {w with drawn:=w.drawn+1} hca (fun i hi=>by rw [zBB,if_neg (by omega)]) (fun i hi=>by rw [zBB,if_pos hi]) (by rw [fold_size]) (by simp)
  ⟨zEA _,fun _=>⟨env,rfl,zEi h hbd⟩,fun hl=>(by
    rw [zL,Array.getElem?_replicate,if_pos (by omega)] at hl;cases hl)⟩
 rw [show k+(ops.size - k)=ops.size by omega] at hfin;exact hfin
theorem zJo (R:jM P T) {id:Nat} (hall: ∀ o∈ops.toList,yT N o=true) (hB:zV4 ops=true) {K:St->Prop} (h:GA B N st a w) (hk:zAN T true ops ops.toList st K)
 (hQ: ∀ st' a' w',K st'->GA B N st' a' w'->Q .normal a' w'):(Code.region id ops true).wpIn (FR r) n P Q a w:=by
 unfold zV4 at hB;rw [Bool.or_eq_true,Bool.or_eq_true] at hB;rcases hB with (hB|hB)|hB
 ·exact zET R hall hB h hk hQ
 ·exact zET R hall hB h hk hQ
 ·exact zGH R hall hB h (.inl hk) hQ
theorem zSw (R:jM P T) {id:Nat} {draw:Bool} (hall: ∀ o∈ops.toList,yT N o=true) (hB:draw=true->z4M ops=true) {K:St->Prop} (h:GA B N st a w) (hk:zPr T ops draw st K)
 (hQ: ∀ st' a' w',K st'->GA B N st' a' w'->Q .normal a' w'):(Code.region id ops draw).wpIn (FR r) n P Q a w:=by
 unfold zPr at hk;cases draw with
 | false=>exact zZ9 R hall h hk hQ
 | true =>
   have hB:=hB rfl;unfold z4M at hB;simp only at hk;cases hf:zLc ops ops.toList 0 with
   | none =>
     rw [hf] at hB hk;simp only at hB hk;split at hk
     ·cases hap:z0n ops ops.toList 0 with
      | some f=>rw [hap] at hB hk;simp only [zPJ] at hB hk;exact zIK R hall hB h hk hQ
      | none =>
        rw [hap] at hB hk;cases hst:storeAt ops ops.toList 0 with
        | none=>simp only [hst] at hB hk;exact zJo R hall hB h hk hQ
        | some f=>simp only [hst] at hB hk;simp only [zPJ] at hB hk;exact zIe R hall hB h hk hQ
     ·obtain ⟨h1,h2⟩:=hk.out;exact zGH R hall h1 h (.inr h2) hQ
   | some fm =>
     obtain ⟨f,m⟩:=fm;rw [hf] at hB hk;simp only [zPJ] at hB hk;cases hm:zUf ops (f+1+m) with
     | none=>rw [hm] at hB hk;exact zIO R hall hB h hk hQ
     | some m2=>rw [hm] at hB hk;exact zH9 R hall hB h hk hQ
theorem zN8 {env:Env} : ∀ {l:Env},z4m env l->∀ t,yZ l t= .junk\/yZ l t=yZ env t
 | [],_,t=> .inl rfl
 | (k,v)::r,h,t=>by
   rw [qR];split
   ·rename_i e;subst e;exact .inr h.1
   ·exact zN8 h.2 t
theorem zEr {hp:jJ} : ∀ {l:jJ},zVX hp l->∀ t ob,hget l t=some ob->hget hp t=some ob
 | [],_,t,ob,e=>by cases e
 | (k,o)::r,h,t,ob,e=>by
   rw [yL] at e;split at e
   ·rename_i e';subst e';cases e;exact h.1.symm
   ·exact zEr h.2 t ob e
theorem zEN {m:Nat} : ∀ {l:Env},zDW m l=true->∀ t,yZ l t= .junk\/(yZ l t).idsBelow m=true
 | [],_,t=> .inl rfl
 | (k,v)::r,h,t=>by
   simp only [zDW,zC] at h;rw [qR];split
   ·exact .inr h.1
   ·exact zEN h.2 t
theorem zCB {m:Nat} : ∀ {l:jJ},zGR m l=true->∀ t ob,hget l t=some ob->t<m/\(∀ u cs,ob= .flat u cs->cs.all (AS.idsBelow m)=true)/\(∀ X l,ob= .fr X l->zDW m l=true)
 | [],_,t,ob,e=>by cases e
 | (k,o)::r,h,t,ob,e=>by
   simp only [zGR,zC] at h;rw [yL] at e;split at e
   ·rename_i e';subst e';cases e;refine ⟨Nat.lt_of_succ_le (by simpa [Nat.blt] using h.1.1),fun u cs hc=> ?_,fun X l hc=> ?_⟩
    ·subst hc;exact h.1.2
    ·subst hc;exact h.1.2
   ·exact zCB h.2 t ob e
theorem zAn {β:yR} {m id:Nat} (h:id<m):(β.take m)[id]? =β[id]? :=by rw [List.getElem?_take,if_pos h]
theorem y5.take {m:Nat} {x:AS} {v:Value} (hb:x.idsBelow m=true) (h:y5 σ β x v):y5 σ (β.take m) x v:=by
 have lt: ∀ {i:Nat},Nat.blt i m=true->i<m:=fun h=>Nat.lt_of_succ_le (by simpa [Nat.blt] using h);cases x with
 | own id s n=>simp only [y5,zAn (lt hb)] at h ⊢;exact h
 | ptr id i k=>simp only [y5,zAn (lt hb)] at h ⊢;exact h
 | pti id i k=>simp only [y5,zAn (lt hb)] at h ⊢;exact h
 | omp id=>simp only [y5,zAn (lt hb)] at h ⊢;exact h
 | arr id n=>simp only [y5,zAn (lt hb)] at h ⊢;exact h
 | _=>exact h
theorem zJC {m:Nat} : ∀ {l:List AS} {ds:List Value},l.all (AS.idsBelow m)=true->jQ (y5 σ β) l ds->jQ (y5 σ (β.take m)) l ds
 | [],[],_,_=>trivial
 | a::l,d::ds,h,hr=>by
   simp only [List.all_cons,zC] at h;exact ⟨y5.take h.1 hr.1,zJC h.2 hr.2⟩
 | [],_::_,_,hr=>hr.elim
 | _::_,[],_,hr=>hr.elim
theorem y6.take {m:Nat} {x:AV} {v:Value} (hb:x.idsBelow m=true) (h:y6 σ β x v):y6 σ (β.take m) x v:=by
 cases x with
 | s a=>exact y5.take hb h
 | agg l=>obtain ⟨ds,e,r⟩:=h;exact ⟨ds,e,zJC hb r⟩
 | tup l=>cases hb
theorem zAf.take {m id:Nat} {ob:Ob} (hid:id<m) (hf: ∀ u cs,ob= .flat u cs->cs.all (AS.idsBelow m)=true) (hf2: ∀ X l,ob= .fr X l->zDW m l=true) (h:zAf σ β w id ob):zAf σ (β.take m) w id ob:=by
 cases ob with
 | row e T xs=>simp only [zAf,zAn hid] at h ⊢;exact h
 | flat T cs =>
   obtain ⟨p,h1,h2,h3,h4,h5,c,h6,h7⟩:=h;exact ⟨p,by rw [zAn hid];exact h1,h2,h3,h4,h5,c,h6,zJC (hf _ _ rfl) h7⟩
 | map k v m =>
   obtain ⟨h0,p,es,clock,h1,h2,h3⟩:=h;exact ⟨h0,p,es,clock,by rw [zAn hid];exact h1,h2,h3⟩
 | gmap k e m =>
   obtain ⟨h0,p,es,clock,h1,h2,h3,h4,h5,h6⟩:=h;exact ⟨h0,p,es,clock,by rw [zAn hid];exact h1,h2,h3,h4,h5,h6⟩
 | grow e T xss =>
   obtain ⟨h0,p,h1,h2,h3,h4,c,h5,h6,h7,h8⟩:=h;exact ⟨h0,p,by rw [zAn hid];exact h1,h2,h3,h4,c,h5,h6,h7,h8⟩
 | fr X l=>exact ⟨by rw [zAn hid];exact h.1,fun t=>by
    rcases zEN (hf2 _ _ rfl) t with e|e
    ·rw [e];trivial
    ·exact (h.2 t).take e⟩
theorem GA.weaken {s t:St} (h:GA B N s a w) (hle:zOs s t):GA B N t a w:=by
 obtain ⟨σ,β,hg⟩:=h.gg;obtain ⟨h1,h2,h3⟩:=hle;simp only [zC] at h3;obtain ⟨⟨h3,h4⟩,h5⟩:=h3;have hn:t.next<=s.next:=zU h5
 refine ⟨h.defers,h.size,σ,β.take t.next,⟨hg.mem.ag,fun id ob hi=> ?_⟩,fun k=> ?_,by rw [qZ,hg.len];omega,fun id ob p hi hp=> ?_,hg.bel,hg.grew⟩
 ·obtain ⟨q1,q2,q3⟩:=zCB h4 _ _ hi;exact (hg.mem.ob _ _ (zEr h2 _ _ hi)).take q1 q2 q3
 ·rcases zN8 h1 k with e|e
  ·rw [e];trivial
  ·rcases zEN h3 k with e'|e'
   ·rw [e'];trivial
   ·refine y6.take e' ?_;rw [e];exact hg.env k
 ·have q1:=(zCB h4 _ _ hi).1;rw [zAn q1] at hp;obtain ⟨s1,s2,s3⟩:=hg.sep _ _ _ (zEr h2 _ _ hi) hp;refine ⟨s1,s2,fun id' ob' p' hne hi' hp'=> ?_⟩;rw [zAn (zCB h4 _ _ hi').1] at hp';exact s3 _ _ _ hne (zEr h2 _ _ hi') hp'
theorem zJ3 (h:GA B N st a w) {c:Operand} (hc:zDy c=true) {t:Bool} (e:y7 st.env c= .s (.bool t)):a.eval c= .bool t:=by
 obtain ⟨σ,β,hg⟩:=h.gg;have:=jP hg hc;rw [e] at this;exact this
theorem zKC: ∀ {cs:List AS} {k i:Nat},zNG cs k=some i->k<=i/\cs[i - k]? =some (.val (.slice none 0 0))
 | [],k,i,h=>by cases h
 | c ::r,k,i,h=>by
   have step:zNG r (k+1)=some i->k<=i/\(c::r)[i - k]? =some (.val (.slice none 0 0)):=fun h=>by
    obtain ⟨h1,h2⟩:=zKC h;refine ⟨by omega,?_⟩;rw [show i - k=(i - (k+1))+1 by omega,List.getElem?_cons_succ];exact h2
   unfold zNG at h;split at h
   ·cases h
   ·rename_i e;cases e;cases h;exact ⟨zI _,by simp⟩
   ·rename_i e;cases e;exact step h
theorem jQ.set {α β:Type} {R:α->β->Prop} {a:α} : ∀ {l:List α} {m:List β} {i:Nat},jQ R l m->(∀ v,m[i]? =some v->R a v)->jQ R (l.set i a) m
 | [],[],_,h,_=>h
 | x::l,y::m,0,h,ha=>⟨ha y rfl,h.2⟩
 | x::l,y::m,i+1,h,ha=>⟨h.1,jQ.set h.2 fun v hv=>ha v hv⟩
theorem zTL (i:Nat):(st.rowNil T i).env=st.env:=by
 rw [zK9];unfold zIB;split
 ·split
  ·split<;>rfl
  ·rfl
 ·rfl
theorem GG.rowNil {tmps:Array Value} (h:GG B σ β st tmps w) (id:Nat): ∃ β',GG B σ β' (st.rowNil T id) tmps w:=by
 rw [zK9];unfold zIB;split
 case h_2=>exact ⟨β,h⟩
 rename_i t cs hi;split
 case h_2=>exact ⟨β,h⟩
 rename_i ix hix;split
 case h_2=>exact ⟨β,h⟩
 rename_i e u _;obtain ⟨_,hcell⟩:=zKC hix;rw [Nat.sub_zero] at hcell;have hlast:(β++[none])[st.next]? =some none:=by rw [<- h.len];simp
 have hold: ∀ {id:Nat},id<st.next->(β++[none])[id]? =β[id]? :=fun hi=>by rw [List.getElem?_append_left];rw [h.len];exact hi
 have hidlt:=h.id_lt hi;refine ⟨β++[none],⟨h.mem.ag,fun id2 ob hi2=> ?_⟩,fun t=>(h.env t).more none,by simp [h.len],fun id2 ob p hi2 hp=> ?_,h.bel,h.grew⟩
 ·simp only [yL] at hi2;split at hi2
  ·rename_i e2;subst e2;cases hi2;obtain ⟨p,h1,h2,h3,h4,h5,c,h6,h7⟩:=h.mem.ob _ _ hi;refine ⟨p,by rw [hold hidlt];exact h1,h2,by rw [List.length_set];exact h3,h4,by rw [List.length_set];exact h5,c,h6,?_⟩;refine jQ.set (h7.mono fun _ _ h=>h.more none) fun v hv=> ?_;obtain ⟨v',hv',hr⟩:=h7.get hcell;rw [hv] at hv';cases hv';have:v= .slice none 0 0:=hr.1;subst this;simp only [y5,hlast];exact ⟨trivial,trivial,trivial⟩
  ·split at hi2
   ·rename_i e2;subst e2;cases hi2;exact ⟨Nat.zero_le _,by rw [hlast]⟩
   ·rw [zAk] at hi2;split at hi2
    ·cases hi2
    ·exact (h.mem.ob _ _ hi2).keep none (fun _ _=>rfl) fun _ _ _=>rfl
 ·have get: ∀ {j:Nat} {o2:Ob} {q:Bk},hget ((id,.flat t (cs.set ix (.own st.next 0 0)))::(st.next,.row e u [])::zDU st.hp id) j=some o2->(β++[none])[j]? =some (some q)->∃ o1,hget st.hp j=some o1/\β[j]? =some (some q):=fun {j o2 q} hj hq=>by
   simp only [yL] at hj;split at hj
   ·rename_i e2;subst e2;exact ⟨_,hi,by rw [hold hidlt] at hq;exact hq⟩
   ·split at hj
    ·rename_i e2;subst e2;rw [hlast] at hq;cases hq
    ·rw [zAk] at hj;split at hj
     ·cases hj
     ·exact ⟨_,hj,by rw [hold (h.id_lt hj)] at hq;exact hq⟩
  obtain ⟨o1,g1,g2⟩:=get hi2 hp;obtain ⟨s1,s2,s3⟩:=h.sep _ _ _ g1 g2;refine ⟨s1,s2,fun id' ob' p' hne hi' hp'=> ?_⟩;obtain ⟨o2,g3,g4⟩:=get hi' hp';exact s3 _ _ _ hne g3 g4
theorem zHR {T:Tab} {B:Base} {K:St->Prop} : ∀ (ids:List Nat) {st:St} {a:Act} {w:World},GA B N st a w->zHc T K ids st->∃ st',GA B N st' a w/\K st'
 | [],st,_,_,h,hk=>⟨st,h,hk⟩
 | i::r,st,a,w,h,hk=>by
   unfold zHc at hk;rw [St.forceAll_eq] at hk;obtain ⟨σ',β',hg⟩:=h.gg;obtain ⟨β2,hg2⟩:=hg.rowNil (T:=T) i;exact zHR r ⟨h.defers,h.size,σ',β2,hg2⟩ hk
theorem zA2 (R:jM P T): ∀ (c:Code) {st:St} {a:Act} {w:World} {K:Exit->St->Prop} {Q:Exit->Act->World->Prop},codeOk N c=true->GA B N st a w->zA8 T c st K->
 (∀ e st' a' w',K e st'->GA B N st' a' w'->Q e a' w')->c.wpIn (FR r) n P Q a w:=by
 intro c
 induction c with
 | skip=>intro st a w K Q _ h hk hQ;exact wpIn_skip (hQ _ _ _ _ hk h)
 | label l=>intro st a w K Q _ h hk hQ;exact wpIn_label (hQ _ _ _ _ hk h)
 | exit i=>intro st a w K Q _ h hk hQ;exact wpIn_exit (hQ _ _ _ _ hk h)
 | goto l=>intro st a w K Q _ h hk hQ;exact wpIn_goto (hQ _ _ _ _ hk h)
 | ret=>intro st a w K Q _ h hk hQ;exact wpIn_ret (hQ _ _ _ _ hk h)
 | region id ops draw =>
   intro st a w K Q hok h hk hQ;simp only [codeOk,zC,zJ] at hok;exact zSw R hok.1 (fun e=>by simpa [e] using hok.2) h hk fun st' a' w'=>hQ _ _ _ _
 | seq x y ihx ihy =>
   intro st a w K Q hok h hk hQ;simp only [codeOk,zC] at hok;refine wpIn_seq (ihx hok.1 h hk fun e st' a' w' hk' h'=> ?_);cases e with
   | normal=>exact ihy hok.2 h' hk' hQ
   | _=>exact hQ _ _ _ _ hk' h'
 | cond c x y ihx ihy =>
   intro st a w K Q hok h hk hQ;simp only [codeOk,zC] at hok;simp only [zA8] at hk;split at hk
   ·rename_i t ht;have hev:=zJ3 h hok.1.1 ht;cases t with
    | true=>exact wpIn_cond_true hev (ihx hok.1.2 h hk hQ)
    | false=>exact wpIn_cond_false hev (ihy hok.2 h hk hQ)
   ·rename_i e xs ht;obtain ⟨σ,β,hg⟩:=h.gg;have hr:=jP hg hok.1.1;rw [ht] at hr;obtain ⟨b,hev,hb⟩:=hr;obtain ⟨k1,k2⟩:=hk.out;cases b with
    | true=>exact wpIn_cond_true hev (ihx hok.1.2 h (k1.out (hb rfl)) hQ)
    | false=>exact wpIn_cond_false hev (ihy hok.2 h k2 hQ)
   ·rename_i e xs ht;obtain ⟨σ,β,hg⟩:=h.gg;have hr:=jP hg hok.1.1;rw [ht] at hr;obtain ⟨b,hev,hb⟩:=hr;obtain ⟨k1,k2⟩:=hk.out;cases b with
    | true=>exact wpIn_cond_false hev (ihy hok.2 h (k2.out (hb rfl)) hQ)
    | false=>exact wpIn_cond_true hev (ihx hok.1.2 h k1 hQ)
   ·exact hk.elim
 | block id c ih =>
   intro st a w K Q hok h hk hQ;simp only [codeOk] at hok;refine wpIn_block (ih hok h hk fun e st' a' w' hk' h'=> ?_);cases e with
   | exit i =>
     simp only [Exit.inBlock];dsimp only at hk';split at hk'
     ·rename_i e;rw [if_pos (zH e)];exact hQ _ _ _ _ hk' h'
     ·rename_i e;rw [if_neg (fun e'=>by subst e';rw [Nat.beq_refl] at e;cases e)];exact hQ _ _ _ _ hk' h'
   | _=>exact hQ _ _ _ _ hk' h'
 | loop c ih =>
   intro st a w K Q hok h hk hQ;simp only [codeOk] at hok;simp only [zA8,St.forceAll_eq] at hk;rcases hk with ⟨m,hk⟩|⟨X,S,hk⟩
   ·refine wpIn_loop_rounds m ?_
    have key: ∀ m {st:St} {a:Act} {w:World},GA B N st a w->rounds (zA8 T c) K m st->Code.roundsIn (FR r) n P c Q m a w:=by
     intro m
     induction m with
     | zero=>intro st a w _ hk;exact hk.elim
     | succ m ihm =>
       intro st a w h hk;refine ih hok h hk fun e st' a' w' hk' h'=> ?_;cases e with
       | normal=>exact ihm h' hk'
       | _=>exact hQ _ _ _ _ hk' h'
    exact key m h hk
   ·obtain ⟨st,h,⟨x0,hi0,hle0⟩,hround⟩:=zHR S.nils h hk;refine wpIn_loop_ghost (fun m a w=> ∃ x,S.inv x/\S.mu x=m/\GA B N (S.head st x) a w) (S.mu x0) ⟨x0,hi0,rfl,h.weaken hle0⟩ ?_;rintro m a w ⟨x,hi,rfl,hx⟩;refine ih hok hx (hround x hi) fun e st' a' w' hk' h'=> ?_;cases e with
    | normal =>
      obtain ⟨y,hy,hle,hlt⟩:=hk';exact ⟨_,hlt,y,hy,rfl,h'.weaken hle⟩
    | _=>exact hQ _ _ _ _ hk' h'
 | _=>intro st a w K Q hok;cases hok
end
end Go.Vm
