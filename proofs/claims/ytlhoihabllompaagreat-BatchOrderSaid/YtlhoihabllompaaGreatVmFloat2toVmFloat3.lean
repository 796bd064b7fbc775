/- A part of the proofs of the laws. -/
import Derived.Test.YtlhoihabllompaaGreatVmCodetoVmFloat
set_option linter.unusedSimpArgs false
set_option linter.unusedVariables false
set_option maxHeartbeats 8000000
set_option maxRecDepth 100000
/- Two appends in the midst of a drawn region: each one's window may come ahead of it or behind it. -/
namespace Go.Vm
open Go.RowKit
section
variable {P:Program} {B:Base} {w:World} {σ:Sig} {β:yR} {st:St} {T:Tab} {N:Nat} {a:Act} {r:Option Nat} {n:Nat} {ops:Array Oper} {Q:Exit->Act->World->Prop}
structure Flt where
 f:Nat
 row:Nat
 x:Operand
 y:Operand
 xv:AV
 yv:AV
 v:AV
def zSh (T:Tab) (ops:Array Oper) (hp:jJ) (o:Oper) (v:AV) (e:Fr):Prop:=(qD ops e o=some true/\∃ p q,jO T o.op (jK e) hp=some (p,q,v)/\Opt q)\/(qD ops e o=some false/\v= .undef)
def z4f (ops:Array Oper) (row:Nat) (o:Oper) (v:AV) (e:Fr):Prop:=(∀ t∈o.looksAt ops,(e t).free row=true)/\(o.dst≠none->v.free row=true)
def YB (T:Tab) (ops:Array Oper) (hp hp1 hp2:jJ) (A C:Flt) (i:Nat) (o:Oper) (v:AV) (e:Fr):Prop :=
 (i=A.f/\v=A.v/\(A.x∈o.op.operands/\A.y∈o.op.operands)/\jK e A.x=A.xv/\jK e A.y=A.yv)\/
 (i=C.f/\v=C.v/\(C.x∈o.op.operands/\C.y∈o.op.operands)/\(jK e C.x=C.xv/\jK e C.y=C.yv)/\∀ t∈o.looksAt ops,(e t).free A.row=true)\/
 (i≠A.f/\i≠C.f/\zSh T ops hp o v e/\(A.f<i->z4f ops A.row o v e/\jO T o.op (jK e) hp1=jO T o.op (jK e) hp)/\(C.f<i->z4f ops C.row o v e/\jO T o.op (jK e) hp2=jO T o.op (jK e) hp))
theorem z14 {hp hp1 hp2:jJ} {A C:Flt} :zOy (YB T ops hp hp1 hp2 A C) ops:=by
 intro i o v u e d h;unfold YB zSh z4f;rw [zAj h,qF (yW h) (hp:=hp),qF (yW h) (hp:=hp1),qF (yW h) (hp:=hp2)];have same: ∀ t∈o.looksAt ops,upd e d u t=e t:=fun t ht=>upd_same fun t' hd e=>h t' hd (e▸ht);have fr: ∀ row,(∀ t∈o.looksAt ops,(upd e d u t).free row=true)↔∀ t∈o.looksAt ops,(e t).free row=true:=fun row=>⟨fun k t ht=>by rw [<- same t ht];exact k t ht,fun k t ht=>by rw [same t ht];exact k t ht⟩
 rw [fr A.row,fr C.row];have op: ∀ x∈o.op.operands,jK (upd e d u) x=jK e x:=yW h;constructor
 ·rintro (⟨h1,h2,h3,h4⟩|⟨h1,h2,h3,h4,h5⟩|h)
  ·rw [op A.x h3.1,op A.y h3.2] at h4;exact .inl ⟨h1,h2,h3,h4⟩
  ·rw [op C.x h3.1,op C.y h3.2] at h4;exact .inr (.inl ⟨h1,h2,h3,h4,h5⟩)
  ·exact .inr (.inr h)
 ·rintro (⟨h1,h2,h3,h4⟩|⟨h1,h2,h3,h4,h5⟩|h)
  ·rw [<- op A.x h3.1,<- op A.y h3.2] at h4;exact .inl ⟨h1,h2,h3,h4⟩
  ·rw [<- op C.x h3.1,<- op C.y h3.2] at h4;exact .inr (.inl ⟨h1,h2,h3,h4,h5⟩)
  ·exact .inr (.inr h)
theorem zJw (R:jM P T) {hp:jJ} {nx f:Nat} : ∀ (l:List Oper) (i:Nat) {env:Env} {a:Act} {w:World} {K:St->Prop},i+l.length<=f->(∀ o∈l,j0 o.op=true/\yT N o=true)->
 GA B N ⟨env,hp,nx⟩ a w->zAN T true ops l ⟨env,hp,nx⟩ K->∃ env' a' w',K ⟨env',hp,nx⟩/\GA B N ⟨env',hp,nx⟩ a' w'/\∀ (hp1 hp2:jJ) (A C:Flt),A.f=f->f<C.f->zAl (YB T ops hp hp1 hp2 A C) (yZ env') i l (yZ env)
 | [],i,env,a,w,K,_,_,h,hk=>⟨env,a,w,hk,h,fun _ _ _ _ _ _=>rfl⟩
 | o::l,i,env,a,w,K,hi,hl,h,hk=>by
   simp only [yA] at hi;obtain ⟨hc,ho⟩:=hl o (by simp);obtain ⟨v,env1,a1,w1,e1,k1,g1,y1⟩:=zCE R hc ho h (zN2 hk);obtain ⟨env',a',w',k2,g2,y2⟩:=zJw R (f:=f) l (i+1) (by omega) (fun o' h'=>hl o' (by simp [h'])) g1 k1;exact ⟨env',a',w',k2,g2,fun hp1 hp2 A C hA hC=>⟨v,.inr (.inr ⟨by omega,by omega,y1,fun hlt=>absurd hlt (by omega),fun hlt=>absurd hlt (by omega)⟩),by rw [<- e1];exact y2 hp1 hp2 A C hA hC⟩⟩
theorem zJ0 {oF:Oper} {d:Tmp} {o:Oper} {l:List Oper} (hw:zFg ops oF d (o::l)=true):j0 o.op=true/\(∀ t,some d=some t->t∉o.looksAt ops)/\(∀ t,some d=some t->o.dst≠some t)/\(∀ t,o.dst=some t->t∉oF.looksAt ops)/\zFg ops oF d l=true:=by
 simp only [zFg,zC,Bool.not_eq_true'] at hw;obtain ⟨⟨hc,hlk,hdst⟩,hw'⟩:=hw;refine ⟨hc,fun t e hm=> ?_,fun t e hd=> ?_,fun t hd hm=> ?_,hw'⟩
 ·cases e;have:(o.looksAt ops).contains d=true:=by simpa using hm
  rw [hlk] at this;cases this
 ·cases e;rw [hd] at hdst;simp only [zC,Bool.not_eq_true'] at hdst;rw [Nat.beq_refl] at hdst;cases hdst.1
 ·rw [hd] at hdst;simp only [zC,Bool.not_eq_true'] at hdst;have:(oF.looksAt ops).contains t=true:=by simpa using hm
  rw [this] at hdst;cases hdst.2
theorem zQd (R:jM P T) {hp hp1:jJ} {nx f row f2:Nat} {oF:Oper} {d:Tmp} {x y:Operand} (hx:x∈oF.op.operands) (hy:y∈oF.op.operands) :
 ∀ (l:List Oper) (i:Nat) {env:Env} {a:Act} {w:World} {K:St->Prop},f<i->i+l.length<=f2->zFg ops oF d l=true->(∀ o∈l,yT N o=true)->
 GA B N ⟨env,hp,nx⟩ a w->zRv T row hp1 ops l ⟨env,hp,nx⟩ K->∃ env' a' w',K ⟨env',hp,nx⟩/\GA B N ⟨env',hp,nx⟩ a' w'/\(jK (yZ env') x=jK (yZ env) x/\jK (yZ env') y=jK (yZ env) y)/\
  ∀ (hp2:jJ) (A C:Flt),A.f=f->A.row=row->C.f=f2->zAl (YB T ops hp hp1 hp2 A C) (upd (yZ env') (some d) A.v) i l (upd (yZ env) (some d) A.v)
 | [],i,env,a,w,K,_,_,_,_,h,hk=>⟨env,a,w,hk,h,⟨rfl,rfl⟩,fun _ _ _ _ _ _=>rfl⟩
 | o ::l,i,env,a,w,K,hi,hi2,hw,hl,h,hk=>by
   simp only [yA] at hi2;obtain ⟨hc,hdl,hdd,hdF,hw'⟩:=zJ0 hw;simp only [zRv] at hk;split at hk
   case h_2=>exact hk.elim
   rename_i hfo;obtain ⟨hs1,hk⟩:=hk.out;obtain ⟨v,env1,a1,w1,e1,k1,g1,y1⟩:=zCE R hc (hl o (by simp)) h hk;split at k1
   case h_2=>exact k1.elim
   rename_i hfd;obtain ⟨env',a',w',k2,g2,⟨ex,ey⟩,y2⟩:=zQd R (f:=f) (f2:=f2) hx hy l (i+1) (by omega) (by omega) hw' (fun o' h'=>hl o' (by simp [h'])) g1 k1;refine ⟨env',a',w',k2,g2,⟨?_,?_⟩,fun hp2 A C hA hr hC=>⟨v,.inr (.inr ⟨by omega,by omega,?_,fun _=>⟨⟨fun t ht=> ?_,fun hne=> ?_⟩,?_⟩,fun hlt=>absurd hlt (by omega)⟩),?_⟩⟩
   ·rw [ex,e1];exact yW hdF x hx
   ·rw [ey,e1];exact yW hdF y hy
   ·unfold zSh;rw [zAj hdl,qF (yW hdl)];exact y1
   ·rw [upd_same fun t' e=>by cases e;rintro rfl;exact hdl _ rfl ht];simp only [zBt,zJ,zDK] at hfo;rw [hr];exact hfo t ht
   ·cases hd:o.dst with
    | none=>exact absurd hd hne
    | some t =>
      simp only [zCl,hd] at hfd;have:yZ env1 t=v:=by rw [e1,hd];simp [upd]
      rw [this] at hfd;rw [hr];exact hfd
   ·rw [qF (yW hdl) (hp:=hp1),qF (yW hdl) (hp:=hp)];rw [y4];exact hs1
   ·rw [zGF hdd,<- e1];exact y2 hp2 A C hA hr hC
theorem zRB (R:jM P T) {hp hp1 hp2:jJ} {nx f row f2 row2:Nat} {o1 o2:Oper} {d1 d2:Tmp} {x1 y1 x2 y2:Operand} (hx1:x1∈o1.op.operands) (hy1:y1∈o1.op.operands) (hx2:x2∈o2.op.operands) (hy2:y2∈o2.op.operands) :
 ∀ (l:List Oper) (i:Nat) {env:Env} {a:Act} {w:World} {K:St->Prop},f<i->f2<i->zFg ops o1 d1 l=true->zFg ops o2 d2 l=true->(∀ o∈l,yT N o=true)->
 GA B N ⟨env,hp,nx⟩ a w->zQy T row row2 hp1 hp2 ops l ⟨env,hp,nx⟩ K->∃ env' a' w',K ⟨env',hp,nx⟩/\GA B N ⟨env',hp,nx⟩ a' w'/\
  (jK (yZ env') x1=jK (yZ env) x1/\jK (yZ env') y1=jK (yZ env) y1)/\(jK (yZ env') x2=jK (yZ env) x2/\jK (yZ env') y2=jK (yZ env) y2)/\
  ∀ A C:Flt,A.f=f->A.row=row->C.f=f2->C.row=row2->zAl (YB T ops hp hp1 hp2 A C) (upd (upd (yZ env') (some d1) A.v) (some d2) C.v) i l (upd (upd (yZ env) (some d1) A.v) (some d2) C.v)
 | [],i,env,a,w,K,_,_,_,_,_,h,hk=>⟨env,a,w,hk,h,⟨rfl,rfl⟩,⟨rfl,rfl⟩,fun _ _ _ _ _ _=>rfl⟩
 | o ::l,i,env,a,w,K,hi,hi2,hw,hw2,hl,h,hk=>by
   obtain ⟨hc,hdl,hdd,hdF,hw'⟩:=zJ0 hw;obtain ⟨_,hdl2,hdd2,hdF2,hw2'⟩:=zJ0 hw2;simp only [zQy] at hk;split at hk
   case h_2=>exact hk.elim
   rename_i hfo;rw [zC] at hfo;obtain ⟨hfo,hfo2⟩:=hfo;obtain ⟨hs1,hk⟩:=hk.out;obtain ⟨hs2,hk⟩:=hk.out;obtain ⟨v,env1,a1,w1,e1,k1,g1,y1'⟩:=zCE R hc (hl o (by simp)) h hk;split at k1
   case h_2=>exact k1.elim
   rename_i hfd;rw [zC] at hfd;obtain ⟨hfd,hfd2⟩:=hfd;obtain ⟨env',a',w',k2,g2,⟨ex,ey⟩,⟨ex2,ey2⟩,yy⟩:=zRB R (f:=f) (f2:=f2) hx1 hy1 hx2 hy2 l (i+1) (by omega) (by omega) hw' hw2' (fun o' h'=>hl o' (by simp [h'])) g1 k1
   have two: ∀ {u1 u2:AV} {t:Tmp},t∈o.looksAt ops->upd (upd (yZ env) (some d1) u1) (some d2) u2 t=yZ env t:=fun {u1 u2 t} ht=>by
    rw [upd_same fun t' e=>by cases e;rintro rfl;exact hdl2 _ rfl ht,upd_same fun t' e=>by cases e;rintro rfl;exact hdl _ rfl ht]
   have free: ∀ {row:Nat},zBt ops row env o=true->∀ {u1 u2:AV},∀ t∈o.looksAt ops,(upd (upd (yZ env) (some d1) u1) (some d2) u2 t).free row=true:=fun {row} hf {u1 u2} t ht=>by
    rw [two ht];simp only [zBt,zJ,zDK] at hf;exact hf t ht
   have ac2: ∀ {u1 u2:AV} {h:jJ},jO T o.op (jK (upd (upd (yZ env) (some d1) u1) (some d2) u2)) h=jO T o.op (jK (yZ env)) h:=fun {u1 u2 h} =>by
    rw [qF (yW hdl2) (hp:=h),qF (yW hdl) (hp:=h)]
   have fdst: ∀ {row:Nat},zCl row env1 o=true->o.dst≠none->v.free row=true:=fun {row} hf hne=>by
    cases hd:o.dst with
    | none=>exact absurd hd hne
    | some t =>
      simp only [zCl,hd] at hf;have:yZ env1 t=v:=by rw [e1,hd];simp [upd]
      rw [this] at hf;exact hf
   refine ⟨env',a',w',k2,g2,⟨?_,?_⟩,⟨?_,?_⟩,fun A C hA hr hC hr2=>⟨v,.inr (.inr ⟨by omega,by omega,?_,fun _=>⟨⟨?_,?_⟩,?_⟩,fun _=>⟨⟨?_,?_⟩,?_⟩⟩),?_⟩⟩
   ·rw [ex,e1];exact yW hdF x1 hx1
   ·rw [ey,e1];exact yW hdF y1 hy1
   ·rw [ex2,e1];exact yW hdF2 x2 hx2
   ·rw [ey2,e1];exact yW hdF2 y2 hy2
   ·unfold zSh;rw [zAj hdl2,qF (yW hdl2),zAj hdl,qF (yW hdl)];exact y1'
   ·rw [hr];exact free hfo
   ·rw [hr];exact fdst hfd
   ·rw [ac2,ac2 (h:=hp),y4];exact hs1
   ·rw [hr2];exact free hfo2
   ·rw [hr2];exact fdst hfd2
   ·rw [ac2,ac2 (h:=hp),y4];exact hs2
   ·rw [zGF hdd2,zGF hdd,<- e1];exact yy A C hA hr hC hr2
structure FB (B:Base) (N:Nat) (ops:Array Oper) (k:Nat) (A C:Flt) (d1 d2:Tmp) (hp hp1 hp2:jJ) (nx:Nat) (listed:Array Bool) (e:Fr) (a:Act) (w:World):Prop where
 dn: ∀ j i,j<k->listed.getD j true=true->waits ops j i=true->listed.getD i true=true
 s0:listed.getD A.f true=false->∃ env,yZ env=e/\GA B N ⟨env,hp,nx⟩ a w
 s1:listed.getD A.f true=true->listed.getD C.f true=false->∃ env,(∀ t,yZ env t=if t=d1 then e t else (e t).mapAS (kill A.row))/\GA B N ⟨env,hp1,nx⟩ a w
 s2:listed.getD C.f true=true->∃ env,(∀ t,yZ env t=if t=d2 then e t else if t=d1 then (e t).mapAS (kill C.row) else ((e t).mapAS (kill A.row)).mapAS (kill C.row))/\GA B N ⟨env,hp2,nx⟩ a w
theorem zGD {env:Env} {e:Fr} {o:Oper} (hlook: ∀ t∈o.looksAt ops,yZ env t=e t):qD ops (yZ env) o=qD ops e o:=by
 unfold qD;cases hg:o.guard with
 | none=>rfl
 | some jw =>
   obtain ⟨j,want⟩:=jw;simp only;cases hs:qT ops j with
   | none=>rfl
   | some s =>
     simp only
     rw [hlook s (by
      simp only [Oper.looksAt,hg,yD];right;unfold qT at hs;cases ho:ops[j]? with
      | none=>simp [ho] at hs
      | some o'=>simp only [ho] at hs;simp [hs])]
theorem zFs {env:Env} {e:Fr} {o:Oper} (hlook: ∀ t∈o.looksAt ops,yZ env t=e t): ∀ x∈o.op.operands,y7 env x=jK e x:=fun x hx=>by
 cases x with
 | tmp t=>exact hlook t (zCb hx)
 | _=>rfl
theorem zK5 (R:jM P T) (hall: ∀ (i:Nat) (o:Oper),ops[i]? =some o->yT N o=true) {hp hp1 hp2:jJ} {nx k fuel:Nat} {A C:Flt} {d1 d2:Tmp} {o1 o2:Oper} {ef:Fr} {q1 q2:Option Prop} (lk:Array Bool)
 (hf1:A.f<C.f) (hf2:C.f<k) (ho1:ops[A.f]? =some o1) (hg1:o1.guard=none) (hd1:o1.dst=some d1) (hq1:Opt q1) (ho2:ops[C.f]? =some o2) (hg2:o2.guard=none) (hd2:o2.dst=some d2) (hq2:Opt q2)
 (hd12:d1≠d2) (hd1o:d1∉o2.looksAt ops)
 (hF1: ∀ env,y7 env A.x=A.xv->y7 env A.y=A.yv->zCG T o1 ⟨env,hp,nx⟩=some (none,q1,(⟨env.mapAS (kill A.row),hp1,nx⟩:St).put (some d1) A.v))
 (hF2: ∀ env,y7 env C.x=C.xv->y7 env C.y=C.yv->zCG T o2 ⟨env,hp1,nx⟩=some (none,q2,(⟨env.mapAS (kill C.row),hp2,nx⟩:St).put (some d2) C.v))
 (hneed1:zCT ops A.f [A.f]=true) (hneed2:zCT ops C.f [C.f]=true)
 (hwin1: ∀ i o,A.f<i->i<k->i≠C.f->ops[i]? =some o->d1∉o.looksAt ops/\o.dst≠some d1)
 (hwin2: ∀ i o,C.f<i->i<k->ops[i]? =some o->d2∉o.looksAt ops/\o.dst≠some d2)
 (htail: ∀ (a:Act) (w:World) (listed:Array Bool) (env:Env),(∀ i<k,listed.getD i true=true)->(∀ i,listed.getD i true=lk.getD i true)->listed.size=lk.size->(∀ t,yZ env t=if t=d2 then ef t else if t=d1 then (ef t).mapAS (kill C.row) else ((ef t).mapAS (kill A.row)).mapAS (kill C.row))->GA B N ⟨env,hp2,nx⟩ a w->wpAnyIn (FR r) n P .any ops Q fuel listed a w) :
 ∀ (m:Nat) (listed:Array Bool) (e:Fr) (a:Act) (w:World),zDa (YB T ops hp hp1 hp2 A C) ops k ef m listed e->(∀ i,k<=i->listed.getD i true=lk.getD i true)->(∀ i<k,lk.getD i true=true)->listed.size=lk.size->FB B N ops k A C d1 d2 hp hp1 hp2 nx listed e a w->
   wpAnyIn (FR r) n P .any ops Q (m+fuel) listed a w
 | 0,listed,e,a,w,h,hl1,hl2,hs,hr=>by
   obtain ⟨h1,rfl⟩:=h;rw [zD];obtain ⟨env,e1,g1⟩:=hr.s2 (h1 C.f hf2);refine htail a w listed env h1 (fun i=> ?_) hs e1 g1
   by_cases hi:i<k
   ·rw [h1 i hi,hl2 i hi]
   ·exact hl1 i (by omega)
 | m + 1,listed,e,a,w,h,hl1,hl2,hs,hr=>by
   rw [show m+1+fuel=(m+fuel)+1 by omega];refine ⟨fun h0=>(h.1 h0).elim,fun i hi=> ?_⟩;obtain ⟨hik,o,v,ho,hy,hk⟩:=h.2 i hi;have hun:=(mem_ready.1 hi).1;have hop:=hall i o ho
   have nxt: ∀ (a':Act) (w':World),FB B N ops k A C d1 d2 hp hp1 hp2 nx (listed.setIfInBounds i true) (upd e o.dst v) a' w'->wpAnyIn (FR r) n P .any ops Q (m+fuel) (listed.setIfInBounds i true) a' w':=fun a' w' hr' =>
    zK5 R hall lk hf1 hf2 ho1 hg1 hd1 hq1 ho2 hg2 hd2 hq2 hd12 hd1o hF1 hF2 hneed1 hneed2 hwin1 hwin2 htail m _ _ a' w' hk (fun j hj=>by rw [getD_set_ne true (by omega)];exact hl1 j hj) hl2 (by simpa using hs) hr'
   have dn': ∀ j i',j<k->(listed.setIfInBounds i true).getD j true=true->waits ops j i'=true->(listed.setIfInBounds i true).getD i' true=true:=fun j i' hj hl hw=>by
    have hres:listed.getD i' true=true:=by
     by_cases e:i=j
     ·subst e;exact zJ2 hi hw
     ·rw [getD_set_ne true e] at hl;exact hr.dn j i' hj hl hw
    by_cases e:i=i'
    ·subst e;exact jA
    ·rw [getD_set_ne true e];exact hres
   have all1:listed.getD A.f true=true->∀ j,j<A.f->listed.getD j true=true:=fun hl j hj=>zDO hr.dn A.f [A.f] hneed1 (fun j hj=>by
    obtain rfl:=zF.1 hj;exact ⟨by omega,hl⟩) (by omega) j hj
   have all2:listed.getD C.f true=true->∀ j,j<C.f->listed.getD j true=true:=fun hl j hj=>zDO hr.dn C.f [C.f] hneed2 (fun j hj=>by
    obtain rfl:=zF.1 hj;exact ⟨hf2,hl⟩) (by omega) j hj
   unfold wpOpIn;simp only [ho];rcases hy with ⟨rfl,rfl,_,hxv,hyv⟩|⟨rfl,rfl,⟨hxo,hyo⟩,⟨hxv,hyv⟩,hfr⟩|⟨hi1,hi2,hyc,hfree1,hfree2⟩
   ·-- the first append
    rw [ho1] at ho;cases ho;obtain ⟨env,e1,g1⟩:=hr.s0 hun;rw [if_pos (by simp [Region.wanted,hg1])];have he:=hF1 env (by rw [<- y4,e1];exact hxv) (by rw [<- y4,e1];exact hyv)
    have hc:listed.getD C.f true=false:=by
     cases hc:listed.getD C.f true with
     | false=>rfl
     | true=>rw [all2 hc A.f hf1] at hun;cases hun
    refine (zHD R g1 hop he).2 hq1 fun a' w' hga=>nxt a' w' ⟨dn',fun hl=> ?_,fun _ _=>⟨_,fun t=> ?_,hga⟩,fun hl=> ?_⟩
    ·rw [jA] at hl;cases hl
    ·show yZ ((d1,_)::env.mapAS (kill A.row)) t=_;rw [qR,hd1]
     by_cases e:t=d1
     ·subst e;simp [upd]
     ·rw [if_neg (Ne.symm e),if_neg e,j7 _ rfl,e1];simp only [upd];rw [if_neg (Ne.symm e)]
    ·rw [getD_set_ne true (by omega),hc] at hl;cases hl
   ·-- the second one
    rw [ho2] at ho;cases ho
    have hl1':listed.getD A.f true=true:=by
     have:(listed.setIfInBounds C.f true).getD A.f true=true:=zDO dn' C.f [C.f] hneed2 (fun j hj=>by
      obtain rfl:=zF.1 hj;exact ⟨hf2,jA⟩) (by omega) A.f hf1
     rwa [getD_set_ne true (by omega)] at this
    obtain ⟨env,e1,g1⟩:=hr.s1 hl1' hun;rw [if_pos (by simp [Region.wanted,hg2])]
    have hlook: ∀ t∈o2.looksAt ops,yZ env t=e t:=fun t ht=>by
     rw [e1,if_neg (by rintro rfl;exact hd1o ht),AV.kill_free (hfr t ht)]
    have he:=hF2 env (by rw [zFs hlook _ hxo];exact hxv) (by rw [zFs hlook _ hyo];exact hyv);refine (zHD R g1 hop he).2 hq2 fun a' w' hga=>nxt a' w' ⟨dn',fun hl=> ?_,fun _ hl=> ?_,fun _=>⟨_,fun t=> ?_,hga⟩⟩
    ·rw [getD_set_ne true (by omega),hl1'] at hl;cases hl
    ·rw [jA] at hl;cases hl
    ·show yZ ((d2,_)::env.mapAS (kill C.row)) t=_;rw [qR,hd2]
     by_cases e:t=d2
     ·subst e;simp [upd]
     ·rw [if_neg (Ne.symm e),if_neg e,j7 _ rfl,e1];simp only [upd];rw [if_neg (Ne.symm e)];split<;>rfl
   ·have keep1:(listed.setIfInBounds i true).getD A.f true=listed.getD A.f true:=getD_set_ne true hi1;have keep2:(listed.setIfInBounds i true).getD C.f true=listed.getD C.f true:=getD_set_ne true hi2;cases hla:listed.getD A.f true with
    | false =>
      have hc:listed.getD C.f true=false:=by
       cases hc:listed.getD C.f true with
       | false=>rfl
       | true=>rw [all2 hc A.f hf1] at hla;cases hla
      obtain ⟨env,e1,g1⟩:=hr.s0 hla
      have step: ∀ {a':Act} {w':World} {u:AV},GA B N ((⟨env,hp,nx⟩:St).put o.dst u) a' w'->u=v->FB B N ops k A C d1 d2 hp hp1 hp2 nx (listed.setIfInBounds i true) (upd e o.dst v) a' w':=fun {a' w' u} hga hu=>by
       subst hu;obtain ⟨env',e2,e3⟩:=zAK env hp nx o.dst u;rw [e2] at hga;exact ⟨dn',fun _=>⟨env',by rw [e3,e1],hga⟩,fun hl=>(by rw [keep1,hla] at hl;cases hl),fun hl=>by rw [keep2,hc] at hl;cases hl⟩
      rcases hyc with ⟨hw,p,q',hc,hq'⟩|⟨hw,rfl⟩
      ·rw [if_pos (jT hw e1 g1)];rw [<- e1,y4] at hc;exact (zBw R g1 hop hc).2 hq' fun a' w' hga=>nxt a' w' (step hga rfl)
      ·rw [if_neg (by rw [jT hw e1 g1];simp)];exact ⟨fun f _=>trivial,nxt _ _ (step (zBG g1 hop) rfl)⟩
    | true =>
      have hai:A.f<i:=by
       rcases Nat.lt_trichotomy i A.f with hlt|heq|hgt
       ·rw [all1 hla i hlt] at hun;cases hun
       ·exact absurd heq hi1
       ·exact hgt
      obtain ⟨⟨hfa,hfa2⟩,hac1⟩:=hfree1 hai;obtain ⟨hda,hda2⟩:=hwin1 i o hai hik hi2 ho;cases hlc:listed.getD C.f true with
      | false =>
        obtain ⟨env,e1,g1⟩:=hr.s1 hla hlc
        have hlook: ∀ t∈o.looksAt ops,yZ env t=e t:=fun t ht=>by
         rw [e1,if_neg (by rintro rfl;exact hda ht),AV.kill_free (hfa t ht)]
        have step: ∀ {a':Act} {w':World} {u:AV},GA B N ((⟨env,hp1,nx⟩:St).put o.dst u) a' w'->u=v->FB B N ops k A C d1 d2 hp hp1 hp2 nx (listed.setIfInBounds i true) (upd e o.dst v) a' w':=fun {a' w' u} hga hu=>by
         subst hu;obtain ⟨env',e2,e3⟩:=zAK env hp1 nx o.dst u;rw [e2] at hga;refine ⟨dn',fun hl=>(by rw [keep1,hla] at hl;cases hl),fun _ _=>⟨env',fun t=> ?_,hga⟩,fun hl=>(by rw [keep2,hlc] at hl;cases hl)⟩;rw [e3];cases hd:o.dst with
         | none=>exact e1 t
         | some d' =>
           simp only [upd];have hne:d'≠d1:=fun e=>hda2 (by rw [hd,e])
           by_cases e:d'=t
           ·subst e;rw [if_pos rfl,if_neg hne,if_pos rfl,AV.kill_free (hfa2 (by rw [hd];simp))]
           ·rw [if_neg e,if_neg e];exact e1 t
        rcases hyc with ⟨hw,p,q',hc,hq'⟩|⟨hw,rfl⟩
        ·rw [if_pos (jT ((zGD hlook).trans hw) rfl g1)]
         have hc':jO T o.op (y7 env) hp1=some (p,q',v):=by
          rw [qF (zFs hlook),hac1];exact hc
         exact (zBw R g1 hop hc').2 hq' fun a' w' hga=>nxt a' w' (step hga rfl)
        ·rw [if_neg (by rw [jT ((zGD hlook).trans hw) rfl g1];simp)];exact ⟨fun f _=>trivial,nxt _ _ (step (zBG g1 hop) rfl)⟩
      | true =>
        have hci:C.f<i:=by
         rcases Nat.lt_trichotomy i C.f with hlt|heq|hgt
         ·rw [all2 hlc i hlt] at hun;cases hun
         ·exact absurd heq hi2
         ·exact hgt
        obtain ⟨⟨hfc,hfc2⟩,hac2⟩:=hfree2 hci;obtain ⟨hdc,hdc2⟩:=hwin2 i o hci hik ho;obtain ⟨env,e1,g1⟩:=hr.s2 hlc
        have hlook: ∀ t∈o.looksAt ops,yZ env t=e t:=fun t ht=>by
         rw [e1,if_neg (by rintro rfl;exact hdc ht),if_neg (by rintro rfl;exact hda ht),AV.kill_free (hfa t ht),AV.kill_free (hfc t ht)]
        have step: ∀ {a':Act} {w':World} {u:AV},GA B N ((⟨env,hp2,nx⟩:St).put o.dst u) a' w'->u=v->FB B N ops k A C d1 d2 hp hp1 hp2 nx (listed.setIfInBounds i true) (upd e o.dst v) a' w':=fun {a' w' u} hga hu=>by
         subst hu;obtain ⟨env',e2,e3⟩:=zAK env hp2 nx o.dst u;rw [e2] at hga;refine ⟨dn',fun hl=>(by rw [keep1,hla] at hl;cases hl),fun _ hl=>(by rw [keep2,hlc] at hl;cases hl),fun _=>⟨env',fun t=> ?_,hga⟩⟩;rw [e3];cases hd:o.dst with
         | none=>exact e1 t
         | some d' =>
           simp only [upd];have hne:d'≠d1:=fun e=>hda2 (by rw [hd,e]);have hne2:d'≠d2:=fun e=>hdc2 (by rw [hd,e])
           by_cases e:d'=t
           ·subst e;rw [if_pos rfl,if_neg hne2,if_neg hne,if_pos rfl,AV.kill_free (hfa2 (by rw [hd];simp)),AV.kill_free (hfc2 (by rw [hd];simp))]
           ·rw [if_neg e,if_neg e];exact e1 t
        rcases hyc with ⟨hw,p,q',hc,hq'⟩|⟨hw,rfl⟩
        ·rw [if_pos (jT ((zGD hlook).trans hw) rfl g1)]
         have hc':jO T o.op (y7 env) hp2=some (p,q',v):=by
          rw [qF (zFs hlook),hac2];exact hc
         exact (zBw R g1 hop hc').2 hq' fun a' w' hga=>nxt a' w' (step hga rfl)
        ·rw [if_neg (by rw [jT ((zGD hlook).trans hw) rfl g1];simp)];exact ⟨fun f _=>trivial,nxt _ _ (step (zBG g1 hop) rfl)⟩
end
end Go.Vm
/- A store in a drawn region: calm operations that it does not wait for may come ahead of it or behind it. -/
namespace Go.Vm
open Go.RowKit
section
variable {P:Program} {B:Base} {w:World} {σ:Sig} {β:yR} {st:St} {T:Tab} {N:Nat} {a:Act} {r:Option Nat} {n:Nat} {ops:Array Oper} {Q:Exit->Act->World->Prop}
theorem zNH {a i:Nat} {o:Oper} (ho:ops[a]? =some o) (h:zSQ i o=true):waits ops a i=true:=by
 unfold zSQ at h;obtain ⟨e,he,hb⟩:=List.any_eq_true.1 h;unfold waits;rw [ho];refine Array.any_eq_true'.2 ⟨e,by simpa using he,?_⟩;rw [zC] at hb;have e2:e.on=i:=zH hb.2
 have e1:Region.binds .any e=true:=by
  unfold Region.binds;have:=hb.1;split at this
  ·cases this
  ·cases this
  ·rename_i h1 h2;split
   ·rename_i d k;exact absurd k (h1 d)
   ·rename_i d k;exact absurd k (h2 d)
   ·rfl
 rw [e1,e2];simp
theorem zHk {listed:Array Bool} (h:Dn ops listed) {i:Nat} : ∀ (n:Nat) (acc:List Nat),(∀ a∈acc,∀ m,waits ops a m=true->listed.getD m false=true)->twB ops i n acc=true->listed.getD i false=true
 | 0,_,_,ht=>by cases ht
 | n + 1,acc,ha,ht=>by
   simp only [twB] at ht;split at ht
   ·rename_i hany;obtain ⟨a,haa,hw⟩:=List.any_eq_true.1 hany
    have hl:listed.getD (i+n) false=true:=by
     cases ho:ops[a]? with
     | none=>rw [ho] at hw;cases hw
     | some o=>rw [ho] at hw;exact ha a haa _ (zNH ho hw)
    rw [Bool.or_eq_true] at ht;rcases ht with e|ht
    ·have:=zH e;subst this;exact hl
    ·exact zHk h n _ (fun b hb m hm=>by
      rcases zT.1 hb with rfl|hb
      ·exact h _ m hl hm
      ·exact ha b hb m hm) ht
   ·exact zHk h n acc ha ht
def YS (T:Tab) (ops:Array Oper) (hp hpF:jJ) (f:Nat) (x y:Operand) (xv yv:AV) (i:Nat) (o:Oper) (v:AV) (e:Fr):Prop :=
 (i=f/\(x∈o.op.operands/\y∈o.op.operands)/\jK e x=xv/\jK e y=yv)\/
 (i≠f/\zSh T ops hp o v e/\(zBQ ops f i=false->jO T o.op (jK e) hpF=jO T o.op (jK e) hp))
theorem z1X {hp hpF:jJ} {f:Nat} {x y:Operand} {xv yv:AV} :zOy (YS T ops hp hpF f x y xv yv) ops:=by
 intro i o v u e d h;unfold YS zSh;rw [zAj h,qF (yW h) (hp:=hp),qF (yW h) (hp:=hpF)];have op: ∀ x∈o.op.operands,jK (upd e d u) x=jK e x:=yW h;constructor
 ·rintro (⟨h1,h3,h4⟩|h)
  ·rw [op x h3.1,op y h3.2] at h4;exact .inl ⟨h1,h3,h4⟩
  ·exact .inr h
 ·rintro (⟨h1,h3,h4⟩|h)
  ·rw [<- op x h3.1,<- op y h3.2] at h4;exact .inl ⟨h1,h3,h4⟩
  ·exact .inr h
theorem zNt (R:jM P T) {hp hpF:jJ} {nx f:Nat} : ∀ (l:List Oper) (i:Nat) {env:Env} {a:Act} {w:World} {K:St->Prop},i+l.length<=f->(∀ o∈l,j0 o.op=true/\yT N o=true)->
 GA B N ⟨env,hp,nx⟩ a w->zJd T hpF ops f i l ⟨env,hp,nx⟩ K->∃ env' a' w',K ⟨env',hp,nx⟩/\GA B N ⟨env',hp,nx⟩ a' w'/\∀ x y xv yv,zAl (YS T ops hp hpF f x y xv yv) (yZ env') i l (yZ env)
 | [],i,env,a,w,K,_,_,h,hk=>⟨env,a,w,hk,h,fun _ _ _ _=>rfl⟩
 | o ::l,i,env,a,w,K,hi,hl,h,hk=>by
   simp only [yA] at hi;obtain ⟨hc,ho⟩:=hl o (by simp)
   have key:(zBQ ops f i=false->jO T o.op (y7 env) hpF=jO T o.op (y7 env) hp)/\zAN T true ops [o] ⟨env,hp,nx⟩ fun st'=>zJd T hpF ops f (i+1) l st' K:=by
    simp only [zJd] at hk;split at hk
    ·rename_i ht;exact ⟨fun e=>(by rw [ht] at e;cases e),hk⟩
    ·obtain ⟨h1,h2⟩:=hk.out;exact ⟨fun _=>h1,h2⟩
   obtain ⟨v,env1,a1,w1,e1,k1,g1,y1⟩:=zCE R hc ho h key.2;obtain ⟨env',a',w',k2,g2,y2⟩:=zNt R (f:=f) l (i+1) (by omega) (fun o' h'=>hl o' (by simp [h'])) g1 k1;exact ⟨env',a',w',k2,g2,fun x y xv yv=>⟨v,.inr ⟨by omega,y1,fun ht=>by rw [y4];exact key.1 ht⟩,by rw [<- e1];exact y2 x y xv yv⟩⟩
theorem zKg (R:jM P T) {hp hpF:jJ} {nx f:Nat} : ∀ (l:List Oper) (i:Nat) {env:Env} {a:Act} {w:World} {K:St->Prop},f<i->(∀ o∈l,j0 o.op=true/\yT N o=true)->
 GA B N ⟨env,hp,nx⟩ a w->zJd T hpF ops f i l ⟨env,hp,nx⟩ K->∃ env' a' w',K ⟨env',hp,nx⟩/\GA B N ⟨env',hp,nx⟩ a' w'/\∀ x y xv yv,zAl (YS T ops hp hpF f x y xv yv) (yZ env') i l (yZ env)
 | [],i,env,a,w,K,_,_,h,hk=>⟨env,a,w,hk,h,fun _ _ _ _=>rfl⟩
 | o ::l,i,env,a,w,K,hi,hl,h,hk=>by
   obtain ⟨hc,ho⟩:=hl o (by simp)
   have key:(zBQ ops f i=false->jO T o.op (y7 env) hpF=jO T o.op (y7 env) hp)/\zAN T true ops [o] ⟨env,hp,nx⟩ fun st'=>zJd T hpF ops f (i+1) l st' K:=by
    simp only [zJd] at hk;split at hk
    ·rename_i ht;exact ⟨fun e=>(by rw [ht] at e;cases e),hk⟩
    ·obtain ⟨h1,h2⟩:=hk.out;exact ⟨fun _=>h1,h2⟩
   obtain ⟨v,env1,a1,w1,e1,k1,g1,y1⟩:=zCE R hc ho h key.2;obtain ⟨env',a',w',k2,g2,y2⟩:=zKg R (f:=f) l (i+1) (by omega) (fun o' h'=>hl o' (by simp [h'])) g1 k1;exact ⟨env',a',w',k2,g2,fun x y xv yv=>⟨v,.inr ⟨by omega,y1,fun ht=>by rw [y4];exact key.1 ht⟩,by rw [<- e1];exact y2 x y xv yv⟩⟩
structure FS (B:Base) (N:Nat) (ops:Array Oper) (f:Nat) (hp hpF:jJ) (nx:Nat) (listed:Array Bool) (e:Fr) (a:Act) (w:World):Prop where
 dn:Dn ops listed
 pre:listed.getD f true=false->∃ env,yZ env=e/\GA B N ⟨env,hp,nx⟩ a w
 post:listed.getD f true=true->∃ env,yZ env=e/\GA B N ⟨env,hpF,nx⟩ a w
theorem zO6 (R:jM P T) (hall: ∀ (i:Nat) (o:Oper),ops[i]? =some o->yT N o=true) {hp hpF:jJ} {nx k f fuel:Nat} {oF:Oper} {x y:Operand} {xv yv:AV} {ef:Fr} (lk:Array Bool)
 (hfk:f<k) (hks:k<=ops.size) (hoF:ops[f]? =some oF) (hgF:oF.guard=none) (hdF:oF.dst=none)
 (hF: ∀ env,y7 env x=xv->y7 env y=yv->zCG T oF ⟨env,hp,nx⟩=some (none,none,⟨env,hpF,nx⟩))
 (htail: ∀ (a:Act) (w:World) (listed:Array Bool) (env:Env),(∀ i<k,listed.getD i true=true)->(∀ i,listed.getD i true=lk.getD i true)->listed.size=lk.size->yZ env=ef->GA B N ⟨env,hpF,nx⟩ a w->wpAnyIn (FR r) n P .any ops Q fuel listed a w) :
 ∀ (m:Nat) (listed:Array Bool) (e:Fr) (a:Act) (w:World),zDa (YS T ops hp hpF f x y xv yv) ops k ef m listed e->(∀ i,k<=i->listed.getD i true=lk.getD i true)->(∀ i<k,lk.getD i true=true)->listed.size=lk.size->listed.size=ops.size->FS B N ops f hp hpF nx listed e a w->
   wpAnyIn (FR r) n P .any ops Q (m+fuel) listed a w
 | 0,listed,e,a,w,h,hl1,hl2,hs,_,hr=>by
   obtain ⟨h1,rfl⟩:=h;rw [zD];obtain ⟨env,e1,g1⟩:=hr.post (h1 f hfk);refine htail a w listed env h1 (fun i=> ?_) hs e1 g1
   by_cases hi:i<k
   ·rw [h1 i hi,hl2 i hi]
   ·exact hl1 i (by omega)
 | m + 1,listed,e,a,w,h,hl1,hl2,hs,hsz,hr=>by
   rw [show m+1+fuel=(m+fuel)+1 by omega];refine ⟨fun h0=>(h.1 h0).elim,fun i hi=> ?_⟩;obtain ⟨hik,o,v,ho,hy,hk⟩:=h.2 i hi;have hun:=(mem_ready.1 hi).1;have hop:=hall i o ho
   have nxt: ∀ (a':Act) (w':World),FS B N ops f hp hpF nx (listed.setIfInBounds i true) (upd e o.dst v) a' w'->wpAnyIn (FR r) n P .any ops Q (m+fuel) (listed.setIfInBounds i true) a' w':=fun a' w' hr' =>
    zO6 R hall lk hfk hks hoF hgF hdF hF htail m _ _ a' w' hk (fun j hj=>by rw [getD_set_ne true (by omega)];exact hl1 j hj) hl2 (by simpa using hs) (by simpa using hsz) hr'
   have dn':Dn ops (listed.setIfInBounds i true):=hr.dn.set hi;unfold wpOpIn;simp only [ho];rcases hy with ⟨rfl,_,hxv,hyv⟩|⟨hif,hyc,hloose⟩
   ·-- the store
    rw [hoF] at ho;cases ho;obtain ⟨env,e1,g1⟩:=hr.pre hun;rw [if_pos (by simp [Region.wanted,hgF])];have he:=hF env (by rw [<- y4,e1];exact hxv) (by rw [<- y4,e1];exact hyv);refine (zHD R g1 hop he).2 trivial fun a' w' hga=>nxt a' w' ⟨dn',fun hl=> ?_,fun _=>⟨env,?_,hga⟩⟩
    ·rw [jA] at hl;cases hl
    ·rw [hdF];exact e1
   ·have keepF:(listed.setIfInBounds i true).getD f true=listed.getD f true:=getD_set_ne true hif;cases hlf:listed.getD f true with
    | false =>
      obtain ⟨env,e1,g1⟩:=hr.pre hlf
      have step: ∀ {a':Act} {w':World} {u:AV},GA B N ((⟨env,hp,nx⟩:St).put o.dst u) a' w'->u=v->FS B N ops f hp hpF nx (listed.setIfInBounds i true) (upd e o.dst v) a' w':=fun {a' w' u} hga hu=>by
       subst hu;obtain ⟨env',e2,e3⟩:=zAK env hp nx o.dst u;rw [e2] at hga;exact ⟨dn',fun _=>⟨env',by rw [e3,e1],hga⟩,fun hl=>by rw [keepF,hlf] at hl;cases hl⟩
      rcases hyc with ⟨hw,p,q',hc,hq'⟩|⟨hw,rfl⟩
      ·rw [if_pos (jT hw e1 g1)];rw [<- e1,y4] at hc;exact (zBw R g1 hop hc).2 hq' fun a' w' hga=>nxt a' w' (step hga rfl)
      ·rw [if_neg (by rw [jT hw e1 g1];simp)];exact ⟨fun f _=>trivial,nxt _ _ (step (zBG g1 hop) rfl)⟩
    | true =>
      obtain ⟨env,e1,g1⟩:=hr.post hlf
      have htw:zBQ ops f i=false:=by
       cases ht:zBQ ops f i with
       | false=>rfl
       | true =>
         have hlf':listed.getD f false=true:=by
          have hlt:f<listed.size:=by omega
          rw [zL,Array.getElem?_eq_getElem hlt] at hlf ⊢;exact hlf
         have:=zHk hr.dn _ _ (fun a ha m hm=>by
          obtain rfl:=zF.1 ha
          exact hr.dn _ _ hlf' hm) ht
         rw [zCS this] at hun;cases hun
      have hac:=hloose htw
      have step: ∀ {a':Act} {w':World} {u:AV},GA B N ((⟨env,hpF,nx⟩:St).put o.dst u) a' w'->u=v->FS B N ops f hp hpF nx (listed.setIfInBounds i true) (upd e o.dst v) a' w':=fun {a' w' u} hga hu=>by
       subst hu;obtain ⟨env',e2,e3⟩:=zAK env hpF nx o.dst u;rw [e2] at hga;exact ⟨dn',fun hl=>(by rw [keepF,hlf] at hl;cases hl),fun _=>⟨env',by rw [e3,e1],hga⟩⟩
      rcases hyc with ⟨hw,p,q',hc,hq'⟩|⟨hw,rfl⟩
      ·rw [if_pos (jT hw e1 g1)];rw [<- hac,<- e1,y4] at hc;exact (zBw R g1 hop hc).2 hq' fun a' w' hga=>nxt a' w' (step hga rfl)
      ·rw [if_neg (by rw [jT hw e1 g1];simp)];exact ⟨fun f _=>trivial,nxt _ _ (step (zBG g1 hop) rfl)⟩
end
end Go.Vm
/- An append in a drawn region: calm operations ahead of it in the text that it does not wait for may come behind it. -/
namespace Go.Vm
open Go.RowKit
section
variable {P:Program} {B:Base} {w:World} {σ:Sig} {β:yR} {st:St} {T:Tab} {N:Nat} {a:Act} {r:Option Nat} {n:Nat} {ops:Array Oper} {Q:Exit->Act->World->Prop}
def YLo (T:Tab) (ops:Array Oper) (hp:jJ) (f row:Nat) (x y:Operand) (xv yv vF:AV) (i:Nat) (o:Oper) (v:AV) (e:Fr):Prop :=
 (i=f/\v=vF/\(x∈o.op.operands/\y∈o.op.operands)/\jK e x=xv/\jK e y=yv)\/
 (i≠f/\((qD ops e o=some true/\∃ p q,jO T o.op (jK e) hp=some (p,q,v)/\Opt q)\/(qD ops e o=some false/\v= .undef))/\(zBQ ops f i=false->(∀ t∈o.looksAt ops,(e t).free row=true)/\(o.dst≠none->v.free row=true)))
theorem zVk {hp:jJ} {f row:Nat} {x y:Operand} {xv yv vF:AV} :zOy (YLo T ops hp f row x y xv yv vF) ops:=by
 intro i o v u e d h;unfold YLo;rw [zAj h,qF (yW h)];have: ∀ t∈o.looksAt ops,upd e d u t=e t:=fun t ht=>upd_same fun t' hd e=>h t' hd (e▸ht);constructor
 ·rintro (⟨h1,h2,h3,h4⟩|⟨h1,h2,h3⟩)
  ·rw [yW h x h3.1,yW h y h3.2] at h4;exact .inl ⟨h1,h2,h3,h4⟩
  ·exact .inr ⟨h1,h2,fun hlt=>⟨fun t ht=>by rw [<- this t ht];exact (h3 hlt).1 t ht,(h3 hlt).2⟩⟩
 ·rintro (⟨h1,h2,h3,h4⟩|⟨h1,h2,h3⟩)
  ·rw [<- yW h x h3.1,<- yW h y h3.2] at h4;exact .inl ⟨h1,h2,h3,h4⟩
  ·exact .inr ⟨h1,h2,fun hlt=>⟨fun t ht=>by rw [this t ht];exact (h3 hlt).1 t ht,(h3 hlt).2⟩⟩
theorem zG5 (R:jM P T) {hp:jJ} {nx f row:Nat} : ∀ (l:List Oper) (i:Nat) {env:Env} {a:Act} {w:World} {K:St->Prop},i+l.length<=f->(∀ o∈l,j0 o.op=true/\yT N o=true)->
 GA B N ⟨env,hp,nx⟩ a w->zXc T row ops f i l ⟨env,hp,nx⟩ K->∃ env' a' w',K ⟨env',hp,nx⟩/\GA B N ⟨env',hp,nx⟩ a' w'/\∀ x y xv yv vF,zAl (YLo T ops hp f row x y xv yv vF) (yZ env') i l (yZ env)
 | [],i,env,a,w,K,_,_,h,hk=>⟨env,a,w,hk,h,fun _ _ _ _ _=>rfl⟩
 | o ::l,i,env,a,w,K,hi,hl,h,hk=>by
   simp only [yA] at hi;obtain ⟨hc,ho⟩:=hl o (by simp);simp only [zXc] at hk;split at hk
   ·rename_i ht;obtain ⟨v,env1,a1,w1,e1,k1,g1,y1⟩:=zCE R hc ho h hk;obtain ⟨env',a',w',k2,g2,y2⟩:=zG5 R (f:=f) l (i+1) (by omega) (fun o' h'=>hl o' (by simp [h'])) g1 k1;exact ⟨env',a',w',k2,g2,fun x y xv yv vF=>⟨v,.inr ⟨by omega,y1,fun hf=>(by rw [ht] at hf;cases hf)⟩,by rw [<- e1];exact y2 x y xv yv vF⟩⟩
   ·split at hk
    case h_2=>exact hk.elim
    rename_i hfo;obtain ⟨v,env1,a1,w1,e1,k1,g1,y1⟩:=zCE R hc ho h hk;split at k1
    case h_2=>exact k1.elim
    rename_i hfd;obtain ⟨env',a',w',k2,g2,y2⟩:=zG5 R (f:=f) l (i+1) (by omega) (fun o' h'=>hl o' (by simp [h'])) g1 k1;refine ⟨env',a',w',k2,g2,fun x y xv yv vF=>⟨v,.inr ⟨by omega,y1,fun _=>⟨fun t ht=> ?_,fun hne=> ?_⟩⟩,by rw [<- e1];exact y2 x y xv yv vF⟩⟩
    ·simp only [zBt,zJ,zDK] at hfo;exact hfo t ht
    ·cases hd:o.dst with
     | none=>exact absurd hd hne
     | some t =>
       simp only [zCl,hd] at hfd;have:yZ env1 t=v:=by rw [e1,hd];simp [upd]
       rw [this] at hfd;exact hfd
structure FLo (B:Base) (N:Nat) (ops:Array Oper) (f row:Nat) (d:Tmp) (hp:jJ) (nx:Nat) (hpF:jJ) (listed:Array Bool) (e:Fr) (a:Act) (w:World):Prop where
 dn:Dn ops listed
 pre:listed.getD f true=false->∃ env,yZ env=e/\GA B N ⟨env,hp,nx⟩ a w
 post:listed.getD f true=true->∃ env,(∀ t,yZ env t=if t=d then e t else (e t).mapAS (kill row))/\GA B N ⟨env,hpF,nx⟩ a w
theorem zO0 (R:jM P T) (hall: ∀ (i:Nat) (o:Oper),ops[i]? =some o->yT N o=true) {hp hpF:jJ} {nx k f row fuel:Nat} {d:Tmp} {oF:Oper} {x y:Operand} {xv yv vF:AV} {ef:Fr} {q:Option Prop} (lk:Array Bool)
 (hfk:f<k) (hks:k<=ops.size) (hoF:ops[f]? =some oF) (hgF:oF.guard=none) (hdF:oF.dst=some d) (hq:Opt q)
 (hF: ∀ env,y7 env x=xv->y7 env y=yv->zCG T oF ⟨env,hp,nx⟩=some (none,q,(⟨env.mapAS (kill row),hpF,nx⟩:St).put (some d) vF))
 (hsame: ∀ id,id≠row->hget hpF id=hget hp id) (hflat:zGW (fun i=> !Nat.beq i row) hp)
 (hwin: ∀ i o,i≠f->zBQ ops f i=false->i<k->ops[i]? =some o->d∉o.looksAt ops/\o.dst≠some d)
 (htail: ∀ (a:Act) (w:World) (listed:Array Bool) (env:Env),(∀ i<k,listed.getD i true=true)->(∀ i,listed.getD i true=lk.getD i true)->listed.size=lk.size->(∀ t,yZ env t=if t=d then ef t else (ef t).mapAS (kill row))->GA B N ⟨env,hpF,nx⟩ a w->wpAnyIn (FR r) n P .any ops Q fuel listed a w) :
 ∀ (m:Nat) (listed:Array Bool) (e:Fr) (a:Act) (w:World),zDa (YLo T ops hp f row x y xv yv vF) ops k ef m listed e->(∀ i,k<=i->listed.getD i true=lk.getD i true)->(∀ i<k,lk.getD i true=true)->listed.size=lk.size->listed.size=ops.size->FLo B N ops f row d hp nx hpF listed e a w->
   wpAnyIn (FR r) n P .any ops Q (m+fuel) listed a w
 | 0,listed,e,a,w,h,hl1,hl2,hs,_,hr=>by
   obtain ⟨h1,rfl⟩:=h;rw [zD];obtain ⟨env,e1,g1⟩:=hr.post (h1 f hfk);refine htail a w listed env h1 (fun i=> ?_) hs e1 g1
   by_cases hi:i<k
   ·rw [h1 i hi,hl2 i hi]
   ·exact hl1 i (by omega)
 | m + 1,listed,e,a,w,h,hl1,hl2,hs,hsz,hr=>by
   rw [show m+1+fuel=(m+fuel)+1 by omega];refine ⟨fun h0=>(h.1 h0).elim,fun i hi=> ?_⟩;obtain ⟨hik,o,v,ho,hy,hk⟩:=h.2 i hi;have hun:=(mem_ready.1 hi).1;have hop:=hall i o ho
   have nxt: ∀ (a':Act) (w':World),FLo B N ops f row d hp nx hpF (listed.setIfInBounds i true) (upd e o.dst v) a' w'->wpAnyIn (FR r) n P .any ops Q (m+fuel) (listed.setIfInBounds i true) a' w':=fun a' w' hr' =>
    zO0 R hall lk hfk hks hoF hgF hdF hq hF hsame hflat hwin htail m _ _ a' w' hk (fun j hj=>by rw [getD_set_ne true (by omega)];exact hl1 j hj) hl2 (by simpa using hs) (by simpa using hsz) hr'
   have dn':Dn ops (listed.setIfInBounds i true):=hr.dn.set hi;unfold wpOpIn;simp only [ho];rcases hy with ⟨rfl,rfl,_,hxv,hyv⟩|⟨hif,hyc,hfree⟩
   ·-- the append
    rw [hoF] at ho;cases ho;obtain ⟨env,e1,g1⟩:=hr.pre hun;rw [if_pos (by simp [Region.wanted,hgF])];have he:=hF env (by rw [<- y4,e1];exact hxv) (by rw [<- y4,e1];exact hyv);refine (zHD R g1 hop he).2 hq fun a' w' hga=>nxt a' w' ⟨dn',fun hl=> ?_,fun _=>⟨_,fun t=> ?_,hga⟩⟩
    ·rw [jA] at hl;cases hl
    ·show yZ ((d,v)::env.mapAS (kill row)) t=_;rw [qR,hdF]
     by_cases e:t=d
     ·subst e;simp [upd]
     ·rw [if_neg (Ne.symm e),if_neg e,j7 _ rfl,e1];simp only [upd];rw [if_neg (Ne.symm e)]
   ·have keepF:(listed.setIfInBounds i true).getD f true=listed.getD f true:=getD_set_ne true hif;cases hlf:listed.getD f true with
    | false =>
      obtain ⟨env,e1,g1⟩:=hr.pre hlf
      have step: ∀ {a':Act} {w':World} {u:AV},GA B N ((⟨env,hp,nx⟩:St).put o.dst u) a' w'->u=v->FLo B N ops f row d hp nx hpF (listed.setIfInBounds i true) (upd e o.dst v) a' w':=fun {a' w' u} hga hu=>by
       subst hu;obtain ⟨env',e2,e3⟩:=zAK env hp nx o.dst u;rw [e2] at hga;exact ⟨dn',fun _=>⟨env',by rw [e3,e1],hga⟩,fun hl=>by rw [keepF,hlf] at hl;cases hl⟩
      rcases hyc with ⟨hw,p,q',hc,hq'⟩|⟨hw,rfl⟩
      ·rw [if_pos (jT hw e1 g1)];rw [<- e1,y4] at hc;exact (zBw R g1 hop hc).2 hq' fun a' w' hga=>nxt a' w' (step hga rfl)
      ·rw [if_neg (by rw [jT hw e1 g1];simp)];exact ⟨fun f _=>trivial,nxt _ _ (step (zBG g1 hop) rfl)⟩
    | true =>
      obtain ⟨env,e1,g1⟩:=hr.post hlf
      have htw:zBQ ops f i=false:=by
       cases ht:zBQ ops f i with
       | false=>rfl
       | true =>
         have hlf':listed.getD f false=true:=by
          have hlt:f<listed.size:=by omega
          rw [zL,Array.getElem?_eq_getElem hlt] at hlf ⊢;exact hlf
         have:=zHk hr.dn _ _ (fun a ha m hm=>by
          obtain rfl:=zF.1 ha
          exact hr.dn _ _ hlf' hm) ht
         rw [zCS this] at hun;cases hun
      obtain ⟨hf1,hf2⟩:=hfree htw;obtain ⟨hd1,hd2⟩:=hwin i o hif htw hik ho
      have hlook: ∀ t∈o.looksAt ops,yZ env t=e t:=fun t ht=>by
       rw [e1,if_neg (by rintro rfl;exact hd1 ht),AV.kill_free (hf1 t ht)]
      have hopnd: ∀ x∈o.op.operands,y7 env x=jK e x:=fun x hx=>by
       cases x with
       | tmp t=>exact hlook t (zCb hx)
       | _=>rfl
      have hwant: ∀ {b},qD ops e o=some b->qD ops (yZ env) o=some b:=fun {b} hw=>by
       rw [<- hw];unfold qD;cases hg:o.guard with
       | none=>rfl
       | some jw =>
         obtain ⟨j,want⟩:=jw;simp only;cases hs:qT ops j with
         | none=>rfl
         | some s =>
           simp only
           rw [hlook s (by
            simp only [Oper.looksAt,hg,yD];right;unfold qT at hs;cases ho:ops[j]? with
            | none=>simp [ho] at hs
            | some o'=>simp only [ho] at hs;simp [hs])]
      have step: ∀ {a':Act} {w':World} {u:AV},GA B N ((⟨env,hpF,nx⟩:St).put o.dst u) a' w'->u=v->FLo B N ops f row d hp nx hpF (listed.setIfInBounds i true) (upd e o.dst v) a' w':=fun {a' w' u} hga hu=>by
       subst hu;obtain ⟨env',e2,e3⟩:=zAK env hpF nx o.dst u;rw [e2] at hga;refine ⟨dn',fun hl=>(by rw [keepF,hlf] at hl;cases hl),fun _=>⟨env',fun t=> ?_,hga⟩⟩;rw [e3];cases hd:o.dst with
       | none=>exact e1 t
       | some d' =>
         simp only [upd];have hne:d'≠d:=fun e=>hd2 (by rw [hd,e])
         by_cases e:d'=t
         ·subst e;rw [if_pos rfl,if_neg hne,if_pos rfl,AV.kill_free (hf2 (by rw [hd];simp))]
         ·rw [if_neg e,if_neg e];exact e1 t
      rcases hyc with ⟨hw,p,q',hc,hq'⟩|⟨hw,rfl⟩
      ·rw [if_pos (jT (hwant hw) rfl g1)]
       have hc':jO T o.op (y7 env) hpF=some (p,q',v):=by
        rw [qF hopnd,zDR (Pr:=fun i=> !Nat.beq i row) (fun x hx=>AV.free_okP (by
         cases x with
         | tmp t=>exact hf1 t (zCb hx)
         | const u=>exact zGt u
         | _=>rfl)) (hp:=hp) (fun id hid=>hsame id (fun e=>by subst e;simp [Nat.beq_refl] at hid)) hflat]
        exact hc
       exact (zBw R g1 hop hc').2 hq' fun a' w' hga=>nxt a' w' (step hga rfl)
      ·rw [if_neg (by rw [jT (hwant hw) rfl g1];simp)];exact ⟨fun f _=>trivial,nxt _ _ (step (zBG g1 hop) rfl)⟩
end
end Go.Vm
